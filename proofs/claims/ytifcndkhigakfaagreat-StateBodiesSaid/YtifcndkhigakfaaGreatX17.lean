/- Chapter 3: a frame is read, by the reference. -/
import Derived.Test.YtifcndkhigakfaaGreatX16
set_option linter.unusedVariables false
set_option linter.unusedSimpArgs false
set_option linter.unnecessarySimpa false
set_option maxHeartbeats 40000000
set_option maxRecDepth 100000
namespace Go.Proofs.YtifcndkhigakfaaGreat.Ab
open Go Go.RowKit R
theorem tz (b:List UInt8) (lo hi:Nat):jz b (lo:Int) (hi:Int)=(b.drop lo).take (hi-lo):=by simp[jz,List.drop_take]
theorem Ct {b:List UInt8}{q t m:Nat} (hq:q<b.length) (h:ah b ((q:Int)+1)=((m:Int),(t:Int),0)) (hl:t+m≤b.length):jz b (q:Int) ((t:Int)+m)=sj b[q] (jz b (t:Int) ((t:Int)+m))∧(jz b (t:Int) ((t:Int)+m)).length=m∧q+1<t:=by
 obtain⟨q',m',e1,e2,e3,e4,r,hr⟩:=gO (b:=b) (p:=(q:Int)+1) (by rw[h]);rw[h]at e2 e4;have e2:(m:Int)=(m':Int):=e2;have e4:(t:Int)=((q'+(bp m').length:Nat):Int):=e4;obtain rfl:m=m':=by omega
 obtain rfl:q'=q+1:=by omega
 have hp:=gJ m;have ht:t=q+1+(bp m).length:=by omega
 have hd:b.drop q=b[q]::(bp m++r):=by rw[List.drop_eq_getElem_cons hq,hr]
 have hd2:b.drop t=r:=by rw[ht,←List.drop_drop,hr,List.drop_left]
 have c1:jz b (t:Int) ((t:Int)+m)=r.take m:=by have:=tz b t (t+m);rw[Int.natCast_add]at this;rw[this,hd2];congr 1;omega
 have c2:jz b (q:Int) ((t:Int)+m)=(b[q]::(bp m++r)).take (t+m-q):=by have:=tz b q (t+m);rw[Int.natCast_add]at this;rw[this,hd]
 have hrl:m≤r.length:=by have:=congrArg List.length hd2;rw[List.length_drop]at this;omega
 have c3:(jz b (t:Int) ((t:Int)+m)).length=m:=by rw[c1,List.length_take];omega
 refine⟨?_,c3,by omega⟩;rw[c2,c1];have e5:t+m-q=((bp m).length+m)+1:=by omega
 rw[e5,List.take_succ_cons,List.take_append];have e6:(bp m).take ((bp m).length+m)=bp m:=List.take_of_length_le (by omega);have e7:(bp m).length+m-(bp m).length=m:=by omega
 rw[e6,e7];show _=b[q]::bd ((r.take m).length:Int)++r.take m;rw[List.length_take,Nat.min_eq_left hrl];rfl
theorem nR {b:List UInt8}{q t m:Nat} (hq:q<b.length) (h:ah b ((q:Int)+1)=((m:Int),(t:Int),0)) (hl:t+m+4≤b.length):(je b[q] (jz b (t:Int) ((t:Int)+m))).length=t+m+4-q∧((b.drop q).take (t+m+4-q)=je b[q] (jz b (t:Int) ((t:Int)+m))↔jz b ((t:Int)+m) ((t:Int)+m+4)=ey (iO (jz b (q:Int) ((t:Int)+m)))):=by
 obtain⟨h1,h2,h3⟩:=Ct hq h (by omega);have hlen:(jz b (q:Int) ((t:Int)+m)).length=t+m-q:=by have:=mJ b (lo:=(q:Int)) (hi:=(t:Int)+m) (by omega) (by omega) (by omega);omega
 have hw:je b[q] (jz b (t:Int) ((t:Int)+m))=jz b (q:Int) ((t:Int)+m)++ey (iO (jz b (q:Int) ((t:Int)+m))):=by unfold je;rw[←h1]
 have hs4:∀s,(ey s).length=4:=fun s=>rfl;refine⟨by rw[hw,List.length_append,hlen,hs4];omega,?_⟩;rw[hw];have e1:jz b (q:Int) ((t:Int)+m)=(b.drop q).take (t+m-q):=by have:=tz b q (t+m);rwa[Int.natCast_add]at this
 have e2:jz b ((t:Int)+m) ((t:Int)+m+4)=(b.drop (t+m)).take 4:=by have:=tz b (t+m) (t+m+4);rw[Int.natCast_add,Int.natCast_add,Int.natCast_add]at this;rw[show((4:Nat):Int)=4 from rfl]at this;rw[this];congr 1;omega
 have e3:(b.drop q).take (t+m+4-q)=(b.drop q).take (t+m-q)++(b.drop (t+m)).take 4:=by rw[show t+m+4-q=(t+m-q)+4 by omega,List.take_add,List.drop_drop];congr 3;omega
 rw[e3,←e1,e2];exact⟨fun h=>List.append_cancel_left h,fun h=>by rw[h]⟩
@[simp] noncomputable def Ly:List AV→Option (Prop×AV)|[.pv (.ro b),.pv (.int .i64 p)]=>(dec di b).map fun l=>(l.length≤100000000∧-9223372036854775808≤p∧p≤9223372036854775807,.aS [.agg [.pv (.int .u8 ((cd l p).1.k.toNat:Int)),.pv (.ro (bytesRow (cd l p).1.b))],.pv (.int .i64 (cd l p).2.1),.pv (.int .i64 (cd l p).2.2)])|_=>none
theorem Nq:aR Tryz.prog 84 Ly:=by
 intro ys φ r h hφ;unfold Ly at h;split at h
 ·rename_i rb p;obtain⟨b,hb,h⟩:=Option.map_eq_some_iff.1 h;cases h;cases aE hb;obtain⟨hl,p1,p2⟩:=hφ;have hi:(Tryz.prog.info? 5).isSome=true:=by kernel_rfl
  have hl9:b.length≤1000000000:=by omega
  refine aq (af gz (af Ky aj)) (by kernel_rfl) (by conv=>lhs;reduce) (by simp) ?_;apply ag;·simp;exact⟨rfl,rfl⟩
  by_cases h0:p<0∨(b.length:Int)≤p
  ·have ht:cd b p=(⟨0,[]⟩,p,10):=by unfold cd;rw[if_pos h0]
   rw[ht];refine aO (fun _=>False) ?_ (fun _ h=>h.elim);apply ag
   ·by_cases h1:p<0;·simp[h1];exact⟨rfl,rfl⟩
    ·have h2:(b.length:Int)≤p:=h0.resolve_left h1;simp[h1,h2]
   apply cz rfl;simp[hi]
  ·have h1:¬p<0:=fun h=>h0 (Or.inl h);have h2:¬(b.length:Int)≤p:=fun h=>h0 (Or.inr h);have w1:IntKind.i64.wrap (p+1)=p+1:=wrap_i64 (by omega);have g1:-9223372036854775808≤p+1:=by omega
   have g2:p+1≤9223372036854775807:=by omega
   obtain⟨q,rfl⟩:∃q:Nat,p=(q:Int):=⟨p.toNat,by omega⟩;have hq:q<b.length:=by omega
   have rq:=R.bytesRow_at hq;have hgd:b[q]?.getD 0=b[q]:=by simp[hq]
   apply ag
   ·apply ag;·simp[h1,h2];exact⟨rfl,rfl⟩
    apply c8 rfl;simp;exact⟨rfl,rfl⟩
   obtain⟨k1,k2,k3,_⟩:=bT b (q+1);have hsame:=fun t m=>@nR b q t m hq;unfold cd;rw[if_neg h0];apply ag;·simp[w1,g1,g2,hl9];exact⟨rfl,rfl⟩
   generalize ah b (q+1)=L at*;obtain⟨n,s,e⟩:=L;have k1:e=0→0≤(q:Int)+1∧(q:Int)+1<s∧s≤b.length:=k1;have k2:0≤n:=k2;have k3:n≤18446744073709551615:=k3;dsimp only;by_cases he:e=0;rotate_left
   ·rw[if_pos he];refine aO (fun _=>False) ?_ (fun _ h=>h.elim);apply ag;·simp[he];exact⟨rfl,rfl⟩
    apply cz rfl;simp[hi]
   rw[if_neg (by simp[he])];obtain⟨_,k4,k5⟩:=k1 he;apply ag
   ·apply ag;·simp[he];exact⟨rfl,rfl⟩
    apply c8 rfl;simp;exact⟨rfl,rfl⟩
   by_cases hn:65535<n
   ·rw[if_pos hn];refine aO (fun _=>False) ?_ (fun _ h=>h.elim);apply ag;·simp[hn];exact⟨rfl,rfl⟩
    apply cz rfl;simp[hi]
   rw[if_neg hn];apply ag
   ·apply ag;·simp[hn];exact⟨rfl,rfl⟩
    apply c8 rfl;simp;exact⟨rfl,rfl⟩
   obtain⟨m,rfl⟩:∃m:Nat,n=(m:Int):=⟨n.toNat,by omega⟩;obtain⟨t,rfl⟩:∃t:Nat,s=(t:Int):=⟨s.toNat,by omega⟩;have hsame:=hsame t m (by rw[he]);have w2:IntKind.i64.wrap (m:Int)=(m:Int):=wrap_i64 (by omega);have w5:IntKind.i64.wrap ((t:Int)+(m:Int))=(t:Int)+(m:Int):=wrap_i64 (by omega);have w6:IntKind.i64.wrap ((t:Int)+(m:Int)+4)=(t:Int)+(m:Int)+4:=wrap_i64 (by omega);by_cases hs:(b.length:Int)-(t:Int)<(m:Int)+4
   ·have hs':(b.length:Int)<(t:Int)+(m:Int)+4:=by omega
    rw[if_pos hs];refine aO (fun _=>False) ?_ (fun _ h=>h.elim);apply ag;·simp[w2,w5,w6,hs'];exact⟨rfl,rfl⟩
    apply cz rfl;simp[hi]
   rw[if_neg hs];have hs':¬(b.length:Int)<(t:Int)+(m:Int)+4:=by omega
   apply ag
   ·apply ag;·simp[w2,w5,w6,hs'];exact⟨rfl,rfl⟩
    apply c8 rfl;simp;exact⟨rfl,rfl⟩
   obtain⟨f1,f2⟩:=hsame (by omega);have c3:((jz b (t:Int) (t+m)).length:Int)=m:=by rw[mJ b (by omega) (by omega) (by omega)];omega
   have d3:(jz b (t:Int) (t+m)).length≤65535:=by omega
   have d4:(jz b (t:Int) (t+m)).length≤140737488355328:=by omega
   have d5:(jz b (t:Int) (t+m)).length≤9223372036854775807:=by omega
   have e5:(t:Int)+m≤b.length:=by omega
   have e6:(t:Int)≤(t:Int)+m:=by omega
   have hb1:(∀r∈bytesRow b,r.length=1)=True:=eq_true (D7 b);apply ag;·simp[rq,hq];exact⟨rfl,rfl⟩
   generalize hB:jz b (t:Int) (t+m)=B at*;apply ag;·simp[w2,w5,yq,hb1,hB,e5,e6,d3,d4,d5,eq_true (D7 B),aw];exact⟨rfl,rfl⟩
   apply ag;·simp[d3];exact⟨rfl,rfl⟩
   clear hsame;obtain⟨W,hW⟩:∃W,W=je b[q] B:=⟨_,rfl⟩;rw[←hW]at f1 f2 ⊢;have hsum:(jz b ((t:Int)+m) ((t:Int)+m+4)=ey (iO (jz b (q:Int) ((t:Int)+m))))=((b.drop q).take W.length=W):=by rw[f1];exact propext f2.symm
   have hWl:(W.length:Int)=(t:Int)+m+4-q:=by omega
   have w7:IntKind.i64.wrap ((q:Int)+(W.length:Int))=(t:Int)+m+4:=by rw[wrap_i64 (by omega)];omega
   rw[dV];apply ag;·simp;exact⟨rfl,rfl⟩
   rw[cp];refine au (fun i:Nat=>i≤W.length∧(b.drop q).take i=W.take i) (fun i=>⟨[(0,.pv (.ro (bytesRow b))),(1,.pv (.int .i64 (q:Int))),(4,.ptr 4 0),(10,.ptr 10 0),(11,.pv (.ro (bytesRow W))),(12,.pv (.int .i64 (i:Int)))],[(4,.box [.pv (.int .u8 0),.pv .nil]),(10,.box [.pv (.int .u8 (b[q].toNat:Int)),.pv (.ro (bytesRow B))])]⟩) (fun i=>W.length-i) [] 0 (by simp) ?_ ?_;·simp
   ·rintro i ⟨hiw,ht⟩;have w3:IntKind.i64.wrap ((i:Int)+1)=(i:Int)+1:=wrap_i64 (by omega);have w4:IntKind.i64.wrap ((q:Int)+(i:Int))=(q:Int)+(i:Int):=wrap_i64 (by omega);have w8:(0:Int)≤(q:Int)+(i:Int):=by omega
    rw[fw];try dsimp only
    by_cases hlt:i<W.length
    ·have hqi:q+i<b.length:=by omega
     have r1:=R.bytesRow_at hqi;rw[Int.natCast_add]at r1;have r2:=R.bytesRow_at hlt;have hdl:i<(b.drop q).length:=by rw[List.length_drop];omega
     have hde:(b.drop q)[i]=b[q+i]:=by simp
     have hqi':(q:Int)+i<b.length:=by omega
     apply ag
     ·apply ag;·simp[hlt];exact⟨rfl,rfl⟩
      apply cz rfl;simp;exact⟨rfl,rfl⟩
     rw[dV,cp];by_cases he:b[q+i]=W[i]
     ·apply ag;·simp[w4,w8,hlt,hqi',r1,r2,he];exact⟨rfl,rfl⟩
      apply c8 rfl;simp[w3];refine⟨i+1,⟨by omega,?_⟩,by omega,by omega⟩;rw[List.take_succ_eq_append_getElem hlt,List.take_succ_eq_append_getElem hdl,ht,hde,he]
     ·have hne:¬(b.drop q).take W.length=W:=fun h=>he (by
       have h3:((b.drop q).take W.length)[i]?=W[i]?:=by rw[h]
       rw[List.getElem?_take,if_pos hlt,List.getElem?_eq_getElem hdl,List.getElem?_eq_getElem hlt,hde]at h3;simpa using h3);have hf:¬(b[q+i].toNat:Int)=(W[i].toNat:Int):=fun h=>he (UInt8.toNat_inj.1 (by omega));rw[if_neg (by rw[hsum];exact hne)];apply ag;·simp[w4,w8,hlt,hqi',r1,r2,hf];exact⟨rfl,rfl⟩
      apply cz rfl;simp[hi]
    ·have hie:i=W.length:=by omega
     subst hie;rw[List.take_length]at ht;rw[if_pos (by rw[hsum];exact ht)];simp[hlt,w7,hgd,bK]
 ·cases h
theorem Eb {b:List UInt8}{p:Nat} (h:(cd b (p:Int)).2.2=0):∃q:Nat,(cd b (p:Int)).2.1=(q:Int)∧b.drop p=je (cd b (p:Int)).1.k (cd b (p:Int)).1.b++b.drop q∧q≤b.length:=by
 obtain⟨k1,k2,k3,_⟩:=bT b (p+1);have hsame:=fun t m (hq:p<b.length)=>@nR b p t m hq;unfold cd at h ⊢;split at h;·cases h
 rename_i h0;rw[if_neg h0];have hp:p<b.length:=by have:¬(b.length:Int)≤(p:Int):=fun hh=>h0 (Or.inr hh);omega
 split at h;·rename_i h1;exact absurd h h1
 rename_i h1;rw[if_neg h1];generalize ah b (p+1)=L at*;obtain⟨n,s,e⟩:=L;have he0:e=0:=by simpa using h1
 clear h1;obtain⟨_,k4,k5⟩:=k1 he0;have k4:(p:Int)+1<s:=k4;have k5:s≤b.length:=k5;have k2:0≤n:=k2;obtain⟨m,rfl⟩:∃m:Nat,n=(m:Int):=⟨n.toNat,by omega⟩;obtain⟨t,rfl⟩:∃t:Nat,s=(t:Int):=⟨s.toNat,by omega⟩;dsimp only at h ⊢;split at h;·cases h
 rename_i h2;rw[if_neg h2];split at h;·cases h
 rename_i h3;rw[if_neg h3];obtain⟨f1,f2⟩:=hsame t m hp (by rw[he0]) (by omega);split at h
 ·rename_i h4;rw[if_pos h4];have h5:=f2.2 h4;have hg:b.getD (p:Int).toNat 0=b[p]:=by simp[List.getD_eq_getElem?_getD,hp]
  refine⟨t+m+4,by simp,?_,by omega⟩;show b.drop p=je (b.getD (p:Int).toNat 0) (jz b (t:Int) ((t:Int)+m))++b.drop (t+m+4);rw[hg,←h5];have h6:b.drop (t+m+4)=(b.drop p).drop (t+m+4-p):=by rw[List.drop_drop];congr 1;omega
  rw[h6,List.take_append_drop]
 ·cases h
theorem Ei {b r:List UInt8}{p:Nat}{k:UInt8}{B:List UInt8} (h:b.drop p=je k B++r) (hl:B.length≤65535):cd b (p:Int)=(⟨k,B⟩,((p+(je k B).length:Nat):Int),0):=by
 have hs4:∀s,(ey s).length=4:=fun s=>rfl;have hv:bd (B.length:Int)=bp B.length:=rfl;have hF:je k B=k::(bp B.length++(B++ey (iO (sj k B)))):=by show(k::bd (B.length:Int)++B)++ey (iO (sj k B))=_;rw[hv];simp
 have hFl:(je k B).length=1+(bp B.length).length+B.length+4:=by rw[hF];simp only[List.length_cons,List.length_append,hs4];omega
 have hlen:b.length-p=(je k B).length+r.length:=by have:=congrArg List.length h;rwa[List.length_drop,List.length_append]at this
 have hp:p<b.length:=by omega
 have h0:b[p]=k:=by
  have h1:(b.drop p)[0]?=some k:=by rw[h,hF];rfl
  rw[List.getElem?_drop]at h1;simp only[Nat.add_zero]at h1;rw[List.getElem?_eq_getElem hp]at h1;simpa using h1
 have hd:b.drop (p+1)=bp B.length++(B++ey (iO (sj k B))++r):=by rw[←List.drop_drop,h,hF];simp
 have hL:=CV (b:=b) (p:=p+1) (n:=B.length) hd (by omega);have hpos:=gJ B.length;obtain⟨t,ht⟩:∃t,t=p+1+(bp B.length).length:=⟨_,rfl⟩;have hL:ah b ((p:Int)+1)=((B.length:Int),(t:Int),0):=by
  have e1:((p+1:Nat):Int)=(p:Int)+1:=by omega
  rw[e1]at hL;rw[hL,ht];congr 2;all_goals omega
 have hdt:b.drop t=B++(ey (iO (sj k B))++r):=by rw[ht,←List.drop_drop,hd,List.drop_left,List.append_assoc]
 have hcB:jz b (t:Int) ((t:Int)+(B.length:Int))=B:=by have:=tz b t (t+B.length);rw[Int.natCast_add]at this;rw[this,hdt,show t+B.length-t=B.length by omega,List.take_left]
 obtain⟨f1,f2⟩:=nR (b:=b) hp hL (by omega);rw[hcB,h0]at f1 f2;have h5:=f2.1 (by rw[←f1,h,List.take_left]);unfold cd;rw[hL];dsimp only;rw[if_neg (by omega),if_neg (by simp),if_neg (by omega),if_neg (by omega),if_pos h5,hcB];have hg:b.getD (p:Int).toNat 0=k:=by simp[List.getD_eq_getElem?_getD,hp,h0]
 rw[hg];congr 2;omega
theorem Hv {k:UInt8}{B:List UInt8} (hl:B.length≤65535):dB (je k B)=([⟨k,B⟩],(je k B).length):=by
 have h:=Ei (b:=je k B) (r:=[]) (p:=0) (k:=k) (B:=B) (by simp) hl;have hend:(cd (je k B) (((je k B).length:Nat):Int)).2.2≠0:=by unfold cd;rw[if_pos (Or.inr (Int.le_refl _))];simp
 have hpos:0<(je k B).length:=by simp[je,sj]
 unfold dB;obtain⟨n,hn⟩:∃n,(je k B).length=n+1:=⟨(je k B).length-1,by omega⟩;rw[hn,fm];rw[show((0:Nat):Int)=0 from rfl]at h ⊢;rw[h,if_neg (by simp)];dsimp only;rw[Int.toNat_natCast,Nat.zero_add,fm,if_pos hend,hn]
theorem HL {b:List UInt8}{f:Fm} (h:(dB b).1=[f]) (h2:(dB b).2=b.length):b=je f.k f.b:=by
 unfold dB at h h2;rw[fm]at h h2;split at h;·cases h
 rename_i he;rw[if_neg he]at h2;have he:(cd b ((0:Nat):Int)).2.2=0:=by simpa using he
 obtain⟨q,e1,e2,e3⟩:=Eb he;rw[e1,Int.toNat_natCast]at h h2;have hf:(cd b ((0:Nat):Int)).1=f∧(fm b b.length q).1=[]:=by simpa using h
 obtain⟨hf,hn⟩:=hf;have hq:(fm b b.length q).2=q:=by cases hb:b.length with|zero=>rw[fm]|succ n=>
  rw[hb,fm]at hn;rw[fm];split at hn;·rename_i hh;rw[if_pos hh]
  ·cases hn
 have h2:(fm b b.length q).2=b.length:=h2;rw[hq]at h2;rw[hf]at e2;rw[List.drop_zero,h2,List.drop_length,List.append_nil]at e2;exact e2
theorem zU (b:List UInt8) (q:Int):((ay b q).2.2=0→0≤q∧q<(ay b q).2.1∧(ay b q).2.1≤b.length)∧((ay b q).2.2≠0→(ay b q).2.1=q):=by
 obtain⟨h1,h2,h3,h4,_⟩:=bT b q;unfold ay;split;·rename_i h;exact⟨fun h'=>absurd h' h,fun _=>rfl⟩
 ·rename_i h;have h0:(ah b q).2.2=0:=by simpa using h
  obtain⟨g1,g2,g3⟩:=h1 h0;split;·exact⟨fun h'=>by simp at h',fun _=>rfl⟩
  ·rename_i h';refine⟨fun _=>?_,fun h=>absurd rfl h⟩;dsimp only;omega
def bG (b:List UInt8) (q:Int):En×Int×Int:=if(ay b q).2.2≠0 then(⟨[],0⟩,0,(ay b q).2.2) else if(ah b (ay b q).2.1).2.2≠0 then(⟨[],0⟩,0,(ah b (ay b q).2.1).2.2) else(⟨(ay b q).1,(ah b (ay b q).2.1).1⟩,(ah b (ay b q).2.1).2.1,0)
def bq (b:List UInt8):Nat→Int→Int→List En×Int×Int|0,_,q=>([],q,0)|f+1,n,q=>if n≤0 then([],q,0) else if(bG b q).2.2≠0 then([],0,(bG b q).2.2) else if(bq b f (n-1) (bG b q).2.1).2.2≠0 then([],0,(bq b f (n-1) (bG b q).2.1).2.2) else((bG b q).1::(bq b f (n-1) (bG b q).2.1).1,(bq b f (n-1) (bG b q).2.1).2.1,0)
def jH (b:List UInt8) (R:List En×Int×Int):List En×Int:=if R.2.2≠0 then([],R.2.2) else if R.2.1=b.length∧bk R.1=true then(R.1,0) else([],2)
def cq (b:List UInt8):List En×Int:=if(ah b 0).2.2≠0 then([],(ah b 0).2.2) else jH b (bq b (b.length+1) (ah b 0).1 (ah b 0).2.1)
def gr (L:List En) (q:List En×Int×Int):List En×Int×Int:=if q.2.2≠0 then([],0,q.2.2) else(L++q.1,q.2.1,0)
theorem Aa (b:List UInt8):∀(k:Nat) (n p:Int),(bq b k n p).2.2≠0→bq b k n p=([],0,(bq b k n p).2.2)
 |0,n,p,h=>absurd rfl h|k+1,n,p,h=>by
  unfold bq at h ⊢;split;·rename_i h0;rw[if_pos h0]at h;exact absurd rfl h
  ·rename_i h0;rw[if_neg h0]at h;split;·rfl
   ·split;·rfl
    ·rename_i h1 h2;rw[if_neg h1,if_neg h2]at h;exact absurd rfl h
theorem uj (b:List UInt8) (k:Nat) (n p:Int):gr [] (bq b k n p)=bq b k n p:=by
 unfold gr;split;·rename_i h;exact(Aa b k n p h).symm
 ·rename_i h;have:(bq b k n p).2.2=0:=by simpa using h
  rw[←this];rfl
theorem rK (b:List UInt8) (L:List En) (k:Nat) (n p:Int) (hn:0<n) (h:(bG b p).2.2=0):gr L (bq b (k+1) n p)=gr (L++[(bG b p).1]) (bq b k (n-1) (bG b p).2.1):=by
 rw[bq,if_neg (by omega),if_neg (by simpa using h)];by_cases h2:(bq b k (n-1) (bG b p).2.1).2.2=0;·rw[if_neg (by simpa using h2)];simp[gr,h2]
 ·rw[if_pos h2];simp[gr,h2]
theorem lf (b:List UInt8) (L:List En) (k:Nat) (n p:Int) (hn:0<n) (h:(bG b p).2.2≠0):gr L (bq b (k+1) n p)=([],0,(bG b p).2.2):=by rw[bq,if_neg (by omega),if_pos h];simp[gr,h]
theorem s3 (b:List UInt8) (L:List En) (k:Nat) (n p:Int) (hn:n≤0):gr L (bq b k n p)=(L,p,0):=by cases k with|zero=>simp[bq,gr]|succ k=>rw[bq,if_pos hn];simp[gr]
@[simp] noncomputable def Db (e:TypeId):List AV→Option (Prop×AV)|[.pv (.ro b)]=>(dec di b).map fun l=>(l.length≤100000000,.aS [.fr e (aW (cq l).1),.pv (.int .i64 (cq l).2)])|_=>none
theorem Kp:aR Tryz.prog 86 (Db 107):=by
 intro ys φ r h hφ;unfold Db at h;split at h
 ·rename_i rb;obtain⟨b,hb,h⟩:=Option.map_eq_some_iff.1 h;cases h;cases aE hb;have hl:b.length≤1000000000:=by omega
  refine aq (af gz (af (qy gz) (af Mn aj))) (by kernel_rfl) (by conv=>lhs;reduce) (by simp) ?_;by_cases he:(ah b 0).2.2=0
  ·have hT:cq b=jH b (bq b (b.length+1) (ah b 0).1 (ah b 0).2.1):=by unfold cq;rw[if_neg (by simpa using he)]
   obtain⟨k1,k2,k3,k4,k5⟩:=bT b 0;obtain⟨j1,j2,j3⟩:=k1 he;generalize hP:cq b=T at*;simp[hl,he];generalize(ah b 0).1=n at*;generalize(ah b 0).2.1=q0 at*;refine au (fun x:Nat×Int×List En=>(x.2.2.length:Int)≤n∧0≤x.2.1∧x.2.1≤b.length∧(b.length:Int)<x.1+x.2.1∧x.2.2.length≤x.2.1∧T=jH b (gr x.2.2 (bq b x.1 (n-x.2.2.length) x.2.1))) (fun x=>⟨[(0,.pv (.ro (bytesRow b))),(4,.pv (.int .u64 n)),(5,.pv (.int .i64 x.2.1)),(7,.own 7)],[(7,.arr 107 (aW x.2.2))]⟩) (fun x=>(b.length-x.2.1).toNat) [] (b.length+1,q0,[]) ?_ ?_ ?_;·exact⟨by simpa using k2,by show 0≤q0;omega,j3,by simp;omega,by simp;omega,by rw[uj];simpa using hT⟩
   ·simp
   ·rintro⟨f,q,acc⟩ ⟨hn,hq0,hq1,hf,hacc,hG⟩;dsimp only at hn hq0 hq1 hf hacc hG;have wl:IntKind.u64.wrap (acc.length:Int)=(acc.length:Int):=wrap_u64 (by omega);have hq2:-9223372036854775808≤q:=by omega
    have hq3:q≤9223372036854775807:=by omega
    by_cases hlt:(acc.length:Int)<n
    ·obtain⟨f,rfl⟩:∃g,f=g+1:=⟨f-1,by omega⟩;obtain⟨t1,t2⟩:=zU b q;by_cases h0:(ay b q).2.2=0
     ·obtain⟨t3,t4,t5⟩:=t1 h0;obtain⟨l1,l2,l3,l4,l5⟩:=bT b (ay b q).2.1;have hq4:-9223372036854775808≤(ay b q).2.1:=by omega
      have hq5:(ay b q).2.1≤9223372036854775807:=by omega
      by_cases h1:(ah b (ay b q).2.1).2.2=0
      ·obtain⟨l6,l7,l8⟩:=l1 h1;have hE:bG b q=(⟨(ay b q).1,(ah b (ay b q).2.1).1⟩,(ah b (ay b q).2.1).2.1,0):=by unfold bG;rw[if_neg (by simpa using h0),if_neg (by simpa using h1)]
       rw[rK b acc f (n-acc.length) q (by omega) (by rw[hE]),hE]at hG;simp[wl,hlt,hl,hq2,hq3,hq4,hq5,h0,h1,aw];refine⟨by omega,f,(ah b (ay b q).2.1).2.1,acc++[⟨(ay b q).1,(ah b (ay b q).2.1).1⟩],?_⟩;have hlen:((acc++[(⟨(ay b q).1,(ah b (ay b q).2.1).1⟩:En)]).length:Int)=acc.length+1:=by simp
       have hi:n-((acc++[(⟨(ay b q).1,(ah b (ay b q).2.1).1⟩:En)]).length:Int)=n-acc.length-1:=by omega
       refine⟨⟨by omega,by omega,l8,by omega,by omega,by rw[hi];exact hG⟩,⟨rfl,?_⟩,by omega⟩;rw[eK];rfl
      ·have hE:bG b q=(⟨[],0⟩,0,(ah b (ay b q).2.1).2.2):=by unfold bG;rw[if_neg (by simpa using h0),if_pos h1]
       rw[lf b acc f _ q (by omega) (by rw[hE];exact h1),hE]at hG;have hTe:T=([],(ah b (ay b q).2.1).2.2):=by rw[hG];simp[jH,h1]
       simp[wl,hlt,hl,hq2,hq3,hq4,hq5,h0,h1,hTe]
     ·have hE:bG b q=(⟨[],0⟩,0,(ay b q).2.2):=by unfold bG;rw[if_pos h0]
      rw[lf b acc f _ q (by omega) (by rw[hE];exact h0),hE]at hG;have hTe:T=([],(ay b q).2.2):=by rw[hG];simp[jH,h0]
      simp[wl,hlt,hl,hq2,hq3,h0,hTe]
    ·have hle:n-acc.length≤0:=by omega
     rw[s3 b acc f _ q hle]at hG;have ha9:acc.length≤1000000000:=by omega
     by_cases hqb:q=b.length;·cases hrs:bk acc with
      |false=>
       have hTe:T=([],2):=by rw[hG];simp[jH,hrs]
       simp[wl,hlt,ha9,hrs,hqb,hTe]|true=>
       have hTe:T=(acc,0):=by rw[hG];simp[jH,hrs,hqb]
       simp[wl,hlt,ha9,hrs,hqb,hTe]
     ·have hTe:T=([],2):=by rw[hG];simp[jH,hqb]
      simp[wl,hlt,ha9,hqb,hTe]
  ·have hT:cq b=([],(ah b 0).2.2):=by unfold cq;rw[if_pos he]
   simp[hl,he,hT]
 ·cases h
theorem N4:aR Tryz.prog 45 (Db 86):=by
 intro ys φ r h hφ;unfold Db at h;split at h
 ·rename_i rb;obtain⟨b,hb,h⟩:=Option.map_eq_some_iff.1 h;cases h;cases aE hb;have hl:b.length≤1000000000:=by omega
  refine aq (af qi (af yx (af N2 aj))) (by kernel_rfl) (by conv=>lhs;reduce) (by simp) ?_;obtain⟨k1,k2,k3,k4,k5⟩:=bT b 0;have hT1:(ah b 0).2.2=0→cq b=jH b (bq b (b.length+1) (ah b 0).1 (ah b 0).2.1):=fun h=>by unfold cq;rw[if_neg (by simpa using h)]
  have hT2:(ah b 0).2.2≠0→cq b=([],(ah b 0).2.2):=fun h=>by unfold cq;rw[if_pos h]
  generalize hP:cq b=T at*;simp[hl];generalize(ah b 0).1=n at*;generalize(ah b 0).2.1=q0 at*;generalize(ah b 0).2.2=e0 at*;refine au (fun x:Nat×Int×List En×Int×Int=>0≤x.2.2.2.1∧x.2.2.2.1≤n∧(x.2.2.2.2=0→T=jH b (gr x.2.2.1 (bq b x.1 (n-x.2.2.2.1) x.2.1))∧0≤x.2.1∧x.2.1≤b.length∧(b.length:Int)<x.1+x.2.1∧(x.2.2.1.length:Int)≤x.2.1)∧(x.2.2.2.2≠0→T=([],x.2.2.2.2))) (fun x=>⟨[(0,.pv (.ro (bytesRow b))),(4,.pv (.int .u64 n)),(5,.pv (.int .i64 x.2.1)),(6,.pv (.int .i64 x.2.2.2.2)),(7,.own 7),(8,.pv (.int .u64 x.2.2.2.1))],[(7,.arr 86 (aW x.2.2.1))]⟩) (fun x=>if x.2.2.2.2=0 then(b.length-x.2.1).toNat+1 else 0) [] (b.length+1,q0,[],0,e0) ?_ ?_ ?_
  ·refine⟨by show(0:Int)≤0;omega,k2,fun h=>⟨?_,?_⟩,hT2⟩;·rw[uj];simpa using hT1 h
   ·have:=k1 h;exact⟨by show 0≤q0;omega,by show q0≤b.length;omega,by show(b.length:Int)<(b.length+1:Nat)+q0;omega,by show(0:Int)≤q0;omega⟩
  ·simp
  ·rintro⟨f,q,acc,m,e⟩ ⟨hm0,hm1,hz,hnz⟩;dsimp only at hm0 hm1 hz hnz;by_cases he:e=0
   ·subst he;obtain⟨hG,g1,g2,g3,g4⟩:=hz rfl;clear hz hnz;have hacc:acc.length≤1000000000:=by omega
    have hq2:-9223372036854775808≤q:=by omega
    have hq3:q≤9223372036854775807:=by omega
    by_cases hlt:m<n
    ·obtain⟨f,rfl⟩:∃g,f=g+1:=⟨f-1,by omega⟩;have wl:IntKind.u64.wrap (m+1)=m+1:=wrap_u64 (by omega);obtain⟨t1,t2⟩:=zU b q;by_cases h0:(ay b q).2.2=0
     ·obtain⟨t3,t4,t5⟩:=t1 h0;obtain⟨l1,l2,l3,l4,l5⟩:=bT b (ay b q).2.1;have hq4:-9223372036854775808≤(ay b q).2.1:=by omega
      have hq5:(ay b q).2.1≤9223372036854775807:=by omega
      by_cases h1:(ah b (ay b q).2.1).2.2=0
      ·obtain⟨l6,l7,l8⟩:=l1 h1;have hE:bG b q=(⟨(ay b q).1,(ah b (ay b q).2.1).1⟩,(ah b (ay b q).2.1).2.1,0):=by unfold bG;rw[if_neg (by simpa using h0),if_neg (by simpa using h1)]
       rw[rK b acc f (n-m) q (by omega) (by rw[hE]),hE]at hG;simp[wl,hlt,hl,hq2,hq3,hq4,hq5,h0,h1,aw];refine⟨⟨by omega,by omega⟩,f,(ah b (ay b q).2.1).2.1,acc++[⟨(ay b q).1,(ah b (ay b q).2.1).1⟩],m+1,0,⟨by omega,by omega,fun _=>⟨by rw[show n-(m+1)=n-m-1 from by omega];exact hG,by omega,l8,by omega,by simp;omega⟩,fun h=>absurd rfl h⟩,⟨⟨rfl,rfl,rfl⟩,by rw[eK];rfl⟩,?_⟩;rw[if_pos rfl];omega
      ·have hE:bG b q=(⟨[],0⟩,0,(ah b (ay b q).2.1).2.2):=by unfold bG;rw[if_neg (by simpa using h0),if_pos h1]
       rw[lf b acc f _ q (by omega) (by rw[hE];exact h1),hE]at hG;have hTe:T=([],(ah b (ay b q).2.1).2.2):=by rw[hG];simp[jH,h1]
       simp[wl,hlt,hl,hq2,hq3,hq4,hq5,h0,h1,hTe,aw];refine⟨⟨by omega,by omega⟩,f,(ah b (ay b q).2.1).2.1,acc++[⟨(ay b q).1,(ah b (ay b q).2.1).1⟩],m+1,(ah b (ay b q).2.1).2.2,⟨by omega,by omega,fun h=>absurd h h1,fun _=>rfl⟩,⟨⟨rfl,rfl,rfl⟩,by rw[eK];rfl⟩,?_⟩;rw[if_neg h1];omega
     ·have hE:bG b q=(⟨[],0⟩,0,(ay b q).2.2):=by unfold bG;rw[if_pos h0]
      rw[lf b acc f _ q (by omega) (by rw[hE];exact h0),hE]at hG;have hTe:T=([],(ay b q).2.2):=by rw[hG];simp[jH,h0]
      simp[wl,hlt,hl,hq2,hq3,h0,hTe]
    ·rw[s3 b acc f _ q (by omega)]at hG;by_cases hqb:q=b.length;·cases hrs:bk acc with
      |false=>
       have hTe:T=([],2):=by rw[hG];simp[jH,hrs]
       simp[hlt,hacc,hrs,hqb,hTe]|true=>
       have hTe:T=(acc,0):=by rw[hG];simp[jH,hrs,hqb]
       simp[hlt,hacc,hrs,hqb,hTe]
     ·have hTe:T=([],2):=by rw[hG];simp[jH,hqb]
      simp[hlt,hacc,hqb,hTe]
   ·have hTe:=hnz he;simp[he,hTe]
 ·cases h
theorem Bh (e:En):0<(lB e).length:=by have:=gJ e.i.toNat;unfold lB bd;simp only[List.length_append];omega
theorem wv:∀l:List En,l.length≤(eP l).length|[]=>by simp|e::l=>by have h1:=Bh e;have h2:=wv l;unfold eP at h2 ⊢;simp only[List.flatMap_cons,List.length_append,List.length_cons];omega
theorem BO {b:List UInt8}{q:Int} (h:(bG b q).2.2=0):∃k:Nat,q=(k:Int)∧(bG b q).2.1=((k+(lB (bG b q).1).length:Nat):Int)∧EM (bG b q).1∧∃r,b.drop k=lB (bG b q).1++r:=by
 by_cases h1:(ay b q).2.2=0
 ·by_cases h2:(ah b (ay b q).2.1).2.2=0
  ·have hE:bG b q=(⟨(ay b q).1,(ah b (ay b q).2.1).1⟩,(ah b (ay b q).2.1).2.1,0):=by unfold bG;rw[if_neg (by simpa using h1),if_neg (by simpa using h2)]
   obtain⟨k,rfl,ht,r,hr⟩:=kf h1;obtain⟨k2,m,hk2,hm,hm2,hq,r2,hr2⟩:=gO h2;rw[ht]at hk2;have hk:k2=k+(dq (ay b (k:Int)).1).length:=by omega
   have hb:lB ⟨(ay b (k:Int)).1,(ah b (ay b (k:Int)).2.1).1⟩=dq (ay b (k:Int)).1++bp m:=by unfold lB bd;rw[hm,Int.toNat_natCast]
   rw[hE];dsimp only;rw[hb];refine⟨k,rfl,?_,⟨?_,?_⟩,r2,?_⟩;·rw[hq,hk,List.length_append];congr 1;omega
   ·show 0≤(ah b (ay b (k:Int)).2.1).1;omega
   ·show(ah b (ay b (k:Int)).2.1).1≤18446744073709551615;omega
   ·have hd:b.drop k2=r:=by rw[hk,←List.drop_drop,hr,List.drop_left]
    rw[hr2]at hd;rw[List.append_assoc,hd,hr]
  ·unfold bG at h;rw[if_neg (by simpa using h1),if_pos h2]at h;exact absurd h h2
 ·unfold bG at h;rw[if_pos h1]at h;exact absurd h h1
theorem uR {b:List UInt8}:∀(f:Nat) (n:Int) (k:Nat),(bq b f n (k:Int)).2.2=0→0≤n→k≤b.length→b.length<f+k→((bq b f n (k:Int)).1.length:Int)=n∧(bq b f n (k:Int)).2.1=((k+(eP (bq b f n (k:Int)).1).length:Nat):Int)∧(∀e∈(bq b f n (k:Int)).1,EM e)∧∃r,b.drop k=eP (bq b f n (k:Int)).1++r
 |0,n,k,h,hn,hk,hf=>by omega|f+1,n,k,h,hn,hk,hf=>by
  by_cases h0:n≤0
  ·have hC:bq b (f+1) n (k:Int)=([],(k:Int),0):=by rw[bq,if_pos h0]
   rw[hC];refine⟨by simp;omega,by simp[eP],fun e he=>(by cases he),b.drop k,by simp[eP]⟩
  ·by_cases h1:(bG b (k:Int)).2.2=0
   ·by_cases h2:(bq b f (n-1) (bG b (k:Int)).2.1).2.2=0
    ·have hC:bq b (f+1) n (k:Int)=((bG b (k:Int)).1::(bq b f (n-1) (bG b (k:Int)).2.1).1,(bq b f (n-1) (bG b (k:Int)).2.1).2.1,0):=by rw[bq,if_neg h0,if_neg (by simpa using h1),if_neg (by simpa using h2)]
     obtain⟨k',hk',he,ho,r,hr⟩:=BO h1;have:k'=k:=by omega
     subst this;have hp:=Bh (bG b (k':Int)).1;have hl:=(lX hr (by simp;omega)).2;simp only[List.length_append]at hl;rw[he]at h2 hC;obtain⟨g1,g2,g3,r2,g4⟩:=uR f (n-1) _ h2 (by omega) (by omega) (by omega);rw[hC];generalize bq b f (n-1) _=R at*;generalize bG b (k':Int)=E at*;have hc:eP (E.1::R.1)=lB E.1++eP R.1:=by simp[eP]
     dsimp only;rw[hc];refine⟨by simp;omega,?_,fun e hh=>?_,r2,?_⟩;·rw[g2,List.length_append];congr 1;omega
     ·rcases List.mem_cons.1 hh with rfl|hh;·exact ho
      ·exact g3 e hh
     ·have hd:b.drop (k'+(lB E.1).length)=r:=by rw[←List.drop_drop,hr,List.drop_left]
      rw[g4]at hd;rw[List.append_assoc,hd,hr]
    ·rw[bq,if_neg h0,if_neg (by simpa using h1),if_pos h2]at h;exact absurd h h2
   ·rw[bq,if_neg h0,if_pos h1]at h;exact absurd h h1
theorem wX {b:List UInt8} (h:(cq b).2=0):bk (cq b).1=true∧IP (cq b).1=b∧(∀e∈(cq b).1,EM e)∧(cq b).1.length≤b.length:=by
 by_cases h0:(ah b 0).2.2=0
 ·have hP:cq b=jH b (bq b (b.length+1) (ah b 0).1 (ah b 0).2.1):=by unfold cq;rw[if_neg (by simpa using h0)]
  obtain⟨k,m,hk,hm,hm2,hq,r,hr⟩:=gO h0;have:k=0:=by omega
  subst this;rw[List.drop_zero]at hr;have hbl:=congrArg List.length hr;simp only[List.length_append]at hbl;have e1:((0+(bp m).length:Nat):Int)=(((bp m).length:Nat):Int):=by omega
  rw[hm,hq,e1]at hP;rw[hP]at h ⊢;by_cases h1:(bq b (b.length+1) (m:Int) (((bp m).length:Nat):Int)).2.2=0
  ·obtain⟨g1,g2,g3,r2,g4⟩:=uR (b.length+1) (m:Int) _ h1 (by omega) (by omega) (by omega);generalize bq b (b.length+1) (m:Int) _=R at*;by_cases h2:R.2.1=b.length∧bk R.1=true
   ·have hF:jH b R=(R.1,0):=by unfold jH;rw[if_neg (by simpa using h1),if_pos h2]
    rw[hF];obtain⟨h3,h4⟩:=h2;have hr2:b.drop (bp m).length=r:=by rw[hr,List.drop_left]
    rw[g4]at hr2;have hr2l:=congrArg List.length hr2;simp only[List.length_append]at hr2l;have:r2=[]:=List.eq_nil_of_length_eq_zero (by omega);subst this;rw[List.append_nil]at hr2;have hp:=wv R.1;refine⟨h4,?_,g3,by dsimp only;omega⟩;show bd (R.1.length:Int)++eP R.1=b;rw[g1,hr2];unfold bd;rw[Int.toNat_natCast,←hr]
   ·unfold jH at h;rw[if_neg (by simpa using h1),if_neg h2]at h;cases h
  ·unfold jH at h;rw[if_pos h1]at h;exact absurd h h1
 ·unfold cq at h;rw[if_pos h0]at h;exact absurd h h0
theorem EP (b:List UInt8):(cq b).1.length≤b.length:=by
 by_cases h:(cq b).2=0;·exact(wX h).2.2.2
 ·unfold cq jH at h ⊢;split;·simp
  ·rename_i h1;rw[if_neg h1]at h;split;·simp
   ·rename_i h2;rw[if_neg h2]at h;split;·rename_i h3;rw[if_pos h3]at h;exact absurd rfl h
    ·simp
noncomputable def gv (x:Sc):List UInt8:=cI [x.c,x.t,(x.ws.length:Int)]++(bg x.ws++(ej x).1)
noncomputable def gS (x:Sc):List UInt8×Int:=if(ej x).2≠0∨ia x.ws=false then([],2) else(je 12 (gv x),0)
def zS:Sc:=⟨0,0,si,[],[]⟩
noncomputable def ry (b:List UInt8) (c t:Int) (ws:List Pn) (q:Int):Option Sc:=if c=0 then(if(cq (b.drop q.toNat)).2≠0 then none else some ⟨c,t,si,(cq (b.drop q.toNat)).1,ws⟩) else(if(cS (b.drop q.toNat)).2≠0 then none else some ⟨c,t,(cS (b.drop q.toNat)).1,[],ws⟩)
noncomputable def gL (b:List UInt8):Option Sc:=if(aQ b 0 3).2.2≠0 then none else if(az b (b.length+1) ((aQ b 0 3).1.getD 2 0) (aQ b 0 3).2.1).2.2≠0 then none else ry b ((aQ b 0 3).1.getD 0 0) ((aQ b 0 3).1.getD 1 0) (az b (b.length+1) ((aQ b 0 3).1.getD 2 0) (aQ b 0 3).2.1).1 (az b (b.length+1) ((aQ b 0 3).1.getD 2 0) (aQ b 0 3).2.1).2.1
noncomputable def ie (b:List UInt8):Sc×Int:=if(eA b).2=false then(zS,220) else match gL (eA b).1 with|none=>(zS,220)|some x=>if ia x.ws=true then(x,0) else(zS,220)
noncomputable def vX (b:List UInt8):Sc×Int:=match gL (dn (dB b).1) with|none=>(zS,220)|some x=>if(gS x).2=0∧(gS x).1=b then(x,0) else(zS,220)
theorem wC {B:List UInt8}{x:Sc} (hb:B.length≤900) (h:gL B=some x):gv x=B∧(ej x).2=0∧FR x∧cO x.c∧cO x.t∧(∀w∈x.ws,fR w)∧x.ws.length≤B.length+1:=by
 unfold gL at h;split at h;·cases h
 rename_i h1;have h1:(aQ B 0 3).2.2=0:=by simpa using h1
 have hG:(ar B 3 0).2.2=0∧aQ B 0 3=ar B 3 0:=by
  unfold aQ at h1 ⊢;split at h1;·rename_i h2;exact absurd h1 h2
  ·rename_i h2;exact⟨h1,if_neg h2⟩
 obtain⟨g1,g2⟩:=hG;obtain⟨c,t,n,hx,o1,o2,o3⟩:=eB g1;obtain⟨a,e1,e2,e3⟩:=kG 3 0 g1;obtain⟨_,_,_,i4⟩:=dp B 3 0 g1;have i4:=(i4 (by omega)).2;rw[show((0:Nat):Int)=0 from rfl]at e1 e2 e3;rw[g2,hx,e1]at h;rw[hx]at e2 e3;rw[e1]at i4;split at h;·cases h
 rename_i h2;have h2:(az B (B.length+1) n (a:Int)).2.2=0:=by simpa using h2
 obtain⟨q,f1,f2,f3,f4,f5⟩:=nO (B.length+1) n a h2 (by omega) (by omega);have f6:=gq B (B.length+1) n (a:Int);have hn:n=((az B (B.length+1) n (a:Int)).1.length:Int):=by have:=o3.1;omega
 change ry B c t (az B (B.length+1) n (a:Int)).1 (az B (B.length+1) n (a:Int)).2.1=some x at h;rw[f1]at h;generalize(az B (B.length+1) n (a:Int)).1=ws at*;have hB:B=cI [c,t,(ws.length:Int)]++(bg ws++B.drop q):=by rw[←f3,←hn,←e3];rfl
 have hql:(B.drop q).length≤900:=by rw[List.length_drop];omega
 unfold ry at h;rw[Int.toNat_natCast]at h;split at h
 ·rename_i hc;split at h;·cases h
  rename_i h3;have h3:(cq (B.drop q)).2=0:=by simpa using h3
  obtain⟨p1,p2,p3,p4⟩:=wX h3;cases h;have hcon:ej ⟨c,t,si,(cq (B.drop q)).1,ws⟩=(B.drop q,0):=by unfold ej;rw[if_pos ⟨hc,rfl⟩];show fV (cq (B.drop q)).1=_;unfold fV;rw[if_pos p1,p2]
  refine⟨?_,by rw[hcon],⟨?_,?_,p3⟩,o1,o2,f5,?_⟩;·unfold gv;rw[hcon];exact hB.symm
  ·exact qI
  ·show(cq (B.drop q)).1.length≤1000000;omega
  ·show ws.length≤_;omega
 ·rename_i hc;split at h;·cases h
  rename_i h3;have h3:(cS (B.drop q)).2=0:=by simpa using h3
  obtain⟨p1,p2⟩:=Cq hql h3;cases h;have hcon:ej ⟨c,t,(cS (B.drop q)).1,[],ws⟩=(B.drop q,0):=by unfold ej;rw[if_neg (fun hh=>hc hh.1),if_pos ⟨hc,rfl⟩];exact p1
  refine⟨?_,by rw[hcon],⟨p2,by simp,fun e he=>by cases he⟩,o1,o2,f5,?_⟩;·unfold gv;rw[hcon];exact hB.symm
  ·show ws.length≤_;omega
theorem Ey:gL []=none:=by
 unfold gL;have:(aQ ([]:List UInt8) 0 3).2.2≠0:=by
  intro h;have hG:(ar ([]:List UInt8) 3 0).2.2=0:=by
   unfold aQ at h;split at h;·rename_i h2;exact absurd h h2
   ·exact h
  obtain⟨_,_,i3,i4⟩:=dp ([]:List UInt8) 3 0 hG;have:=(i4 (by omega)).2;simp at this;omega
 rw[if_pos this]
theorem tO {b:List UInt8} (hb:b.length≤900):ie b=vX b:=by
 obtain⟨a1,a2,a3,a4⟩:=oQ b;have a2:(dn (dB b).1).length≤b.length:=a2;have hbody:Aj (dB b).1=true→(eA b).1=dn (dB b).1:=fun h=>by unfold eA;rw[if_pos h]
 have hw2:(eA b).2=true↔Aj (dB b).1=true∧(dB b).2=b.length:=by
  unfold eA;split;·rename_i h;simp[h]
  ·rename_i h;simp[h]
 unfold ie vX;cases hr:gL (dn (dB b).1) with
 |none=>dsimp only;cases hw:(eA b).2 with|false=>rw[if_pos rfl]|true=>rw[if_neg (by simp),hbody (hw2.1 hw).1,hr]
 |some x=>
  dsimp only;obtain⟨w1,w2,_⟩:=wC (by omega) hr;have hput:gS x=if ia x.ws=true then(je 12 (dn (dB b).1),0) else([],2):=by unfold gS;cases hs:ia x.ws with|true=>rw[if_neg (by simp[w2]),if_pos rfl,w1]|false=>rw[if_pos (by simp),if_neg (by simp)]
  cases hw:(eA b).2 with
  |true=>obtain⟨v1,v2⟩:=hw2.1 hw;rw[if_neg (by simp),hbody v1,hr];dsimp only;rw[hput];cases hs:ia x.ws with|false=>simp|true=>
    have hone:∃f,(dB b).1=[f]∧f.k=12:=by match hL:(dB b).1 with
     |[]=>rw[hL]at hr;rw[Hp,Ey]at hr;cases hr|[f]=>exact⟨f,rfl,by rw[hL]at v1;exact(mj.1 v1 0 (by simp)).1⟩|f::g::l=>
      rw[hL]at v1 a2;have h1:=(mj.1 v1 0 (by simp)).2.1 (by simp);have h1:f.b.length=65535:=h1;have h2:dn (f::g::l)=f.b++dn (g::l):=by simp[dn]
      rw[h2,List.length_append]at a2;omega
    obtain⟨f,hf,hk⟩:=hone;have hbf:=HL hf v2;have hB:dn (dB b).1=f.b:=by rw[hf,tD]
    rw[hB,←hk,←hbf];simp|false=>rw[if_pos rfl];cases hs:ia x.ws with|false=>rw[hput,hs];simp|true=>
    rw[hput,hs];have hne:¬je 12 (dn (dB b).1)=b:=fun he=>by
     have h1:=Hv (k:=12) (B:=dn (dB b).1) (by omega);rw[he]at h1;have h2:(eA b).2=true:=hw2.2 (by
      rw[h1];refine⟨mj.2 fun i hi=>?_,rfl⟩;have hi0:i=0:=by simpa using hi
      subst hi0;exact⟨rfl,fun h=>by simp at h,fun h=>by omega⟩);rw[hw]at h2;cases h2
    simp[hne]
theorem yX (n:Int):bd n≠[]:=by show bp _≠[];rw[bp];split<;>simp
theorem JS {x:Sc} (h:(ej x).2=0):(ej x).1≠[]:=by
 unfold ej at h ⊢;split
 ·rename_i h1;rw[if_pos h1]at h;unfold fV at h ⊢;split;·exact fun e=>yX _ (List.append_eq_nil_iff.1 e).1
  ·rename_i h2;rw[if_neg h2]at h;simp at h
 ·rename_i h1;rw[if_neg h1]at h;split
  ·rename_i h2;rw[if_pos h2]at h;unfold n5 at h ⊢;split;·rename_i h3;rw[if_pos h3]at h;simp at h
   ·exact fun e=>yX _ (List.append_eq_nil_iff.1 (List.append_eq_nil_iff.1 e).1).1
  ·rename_i h2;rw[if_neg h2]at h;simp at h
theorem IA {S:Nat→Prop}{w:World}{v:Value}{L:List Pn} (h:da S w v (.ro (aF L))):∃Ao c,v=.slice Ao L.length c∧(L=[]∨∃A0,Ao=some A0∧S A0.block∧∀(k:Nat) (h:k<L.length),w.cell? (A0.add (k*3))=some (.int .u64 L[k].i)∧w.cell? ⟨(A0.add (k*3)).block,(A0.add (k*3)).off+1,none⟩=some (.int .u64 L[k].v)∧w.cell? ⟨(A0.add (k*3)).block,(A0.add (k*3)).off+2,none⟩=some (.int .u64 L[k].u)):=by
 obtain⟨A,c,rfl,hc,hne⟩:=h.fM;rw[cL];refine⟨A,c,rfl,?_⟩;by_cases hL:L=[];·exact .inl hL
 obtain⟨ad,sz,us,rfl,g1,g2,g3,g4,g5⟩:=hne (fun e=>hL (by have:=congrArg List.length e;rw[cL]at this;exact List.eq_nil_of_length_eq_zero this));refine .inr ⟨ad,rfl,g1,fun k hk=>?_⟩;have hr:(aF L)[k]?=some [.int .u64 L[k].i,.int .u64 L[k].v,.int .u64 L[k].u]:=by simp[aF,hk,rowP]
 have hs:sz=3:=by rw[←g2 _ (List.mem_of_getElem? hr)];rfl
 subst hs;have hk':k<(aF L).length:=by rw[cL];exact hk
 have e0:=g3 k 0 hk' (by omega);have e1:=g3 k 1 hk' (by omega);have e2:=g3 k 2 hk' (by omega);rw[(g5 k 0 _ _ hr rfl).aI]at e0;rw[(g5 k 1 _ _ hr rfl).aI]at e1;rw[(g5 k 2 _ _ hr rfl).aI]at e2;have hb:∀j,j≠0→ad.add (k*3+j)=⟨(ad.add (k*3)).block,(ad.add (k*3)).off+j,none⟩:=fun j hj=>by by_cases hk0:k*3=0<;>simp[Addr.add,hj,hk0,Nat.add_assoc]
 rw[hb 1 (by omega)]at e1;rw[hb 2 (by omega)]at e2;exact⟨by simpa using e0,e1,e2⟩
theorem DC {α:Type}{l:List α} (h:l.length=1):∃a,l=[a]:=List.length_eq_one_iff.1 h
def zK (x:Sc):Prop:=FR x∧cO x.c∧cO x.t∧(∀w∈x.ws,fR w)∧x.ws.length≤10000∧((gS x).2=0→(gv x).length≤65535)
@[simp] noncomputable def FM:List AV→Option (Prop×AV)|[.agg ys]=>jr ys fun x=>some (zK x,.aS [.pv (.ro (bytesRow (gS x).1)),.pv (.int .i64 (gS x).2)])|_=>none
theorem F1:aR Tryz.prog 9 FM:=by
 intro ys φ r h hφ;unfold FM at h;split at h
 ·obtain⟨x,rfl,h2⟩:=dy h;clear h;cases h2;obtain⟨ok,oc,ot,ow,ol,oB⟩:=hφ;have k1:u9 Tryz.prog 31 [] [.agg (aH x)] [] (.aS [.fr 5 (bytesRow (ej x).1),.pv (.int .i64 (ej x).2)]):=by refine ZM _ _ _ ?_ ok;obtain⟨c,t,⟨⟨e,p,i,u,h'⟩,ps,vs,sl⟩,cs,ws⟩:=x;simp[aH]
  have k2:u9 Tryz.prog 32 [] [.agg (aH x)] [] (.pv (.bool (ia x.ws))):=by refine K5 _ _ _ ?_ (by have:=ol;omega:x.ws.length≤1000000000);obtain⟨c,t,⟨⟨e,p,i,u,h'⟩,ps,vs,sl⟩,cs,ws⟩:=x;simp[aH]
  by_cases hbad:(ej x).2≠0∨ia x.ws=false
  ·have hp:gS x=([],2):=by unfold gS;rw[if_pos hbad]
   rw[hp];intro w S0 β vals hS0 hlt hheap hvl hvr;obtain⟨v0,rfl⟩:=DC hvl;have hv0:=hvr 0 v0 _ rfl rfl;obtain⟨us,rfl,hl,hus⟩:=hv0.cN;match us,hl with
   |[a0,a1,a2,a3,a4,a5,a6,a7,a8,a9,a10,a11],_=>
    cases(hus 0 _ a0 rfl rfl).aI;cases(hus 1 _ a1 rfl rfl).aI;obtain⟨S,hSd⟩:∃S,S=aU S0 w.heap.size β (ab []) w:=⟨_,rfl⟩;have hSl:∀b,S b→b<w.heap.size:=fun b hb=>by rw[hSd]at hb;exact hb.2.1
    have hva:∀W,Below w.heap.size w W→RV Tryz.prog S W (fun _=>.nilIface) (fun _=>False) _ _:=fun W hW=>hv0.mono (fun b hb=>⟨by rw[hSd];exact hb,hW.block b hb.2.1⟩) (fun t ⟨o,ho⟩=>by simp[ab]at ho);have hone:∀W,Below w.heap.size w W→∀(i:Nat) (v:Value) (y:AV),[Value.agg #[.int .u64 x.c,.int .u64 x.t,a2,a3,a4,a5,a6,a7,a8,a9,a10,a11]][i]?=some v→[AV.agg (aH x)][i]?=some y→RV Tryz.prog S W (fun _=>.nilIface) (fun _=>False) v y:=fun W hW i v y hi hx=>by match i,hi,hx with|0,hi,hx=>simp only[List.getElem?_cons_zero,Option.some.injEq]at hi hx;subst hi hx;exact hva W hW|i+1,hi,hx=>simp at hi
    refine(Fj x.c x.t a2 a3 a4 a5 a6 a7 a8 a9 a10 a11 (ej x).2 (ia x.ws) hbad w ?_ ?_).mono ?_;·intro W hW;refine(jv k1 (vals:=[.agg #[.int .u64 x.c,.int .u64 x.t,a2,a3,a4,a5,a6,a7,a8,a9,a10,a11]]) rfl (fun b hb=>Nat.lt_of_lt_of_le (hSl b hb) hW.size) (hone W hW)).mono ?_;rintro e W1 ⟨v,β',rfl,hB1,hh,hb,hr⟩;have hr:RV Tryz.prog _ W1 β' _ v (.aS [.own 0,.pv (.int .i64 (ej x).2)]):=hr;obtain⟨us,rfl,hl,hu⟩:=hr.iE;match us,hl with|[u0,u1],_=>cases(hu 1 _ u1 rfl rfl).aI;exact⟨_,rfl,hB1⟩
    ·intro W hW;refine(jv k2 (vals:=[.agg #[.int .u64 x.c,.int .u64 x.t,a2,a3,a4,a5,a6,a7,a8,a9,a10,a11]]) rfl (fun b hb=>Nat.lt_of_lt_of_le (hSl b hb) hW.size) (hone W hW)).mono ?_;rintro e W1 ⟨v,β',rfl,hB1,hh,hb,hr⟩;exact⟨by rw[RV.eC (b:=ia x.ws) hr],hB1⟩
    ·rintro e w' ⟨rfl,hBw⟩;refine⟨_,fun _=>.nilIface,rfl,⟨hBw.os,hBw.tape,hBw.output,hBw.size,fun k hk _=>hBw.block k hk⟩,⟨fun t o ho=>?_,fun t t' b ⟨o,ho⟩=>?_⟩,fun t b ⟨o,ho⟩=>?_,?_⟩;·rw[kv]at ho;cases ho
     ·rw[kv]at ho;cases ho
     ·rw[kv]at ho;cases ho
     ·refine .aS _ [.slice none 0 0,.int .i64 2] rfl fun i y u hy hu=>?_;match i,hy,hu with|0,hy,hu=>cases hy;cases hu;exact .pv _ _ (.wB none 0)|1,hy,hu=>cases hy;cases hu;exact .pv _ _ (.int _ _)|i+2,hy,hu=>simp at hu
  have hp:gS x=(je 12 (gv x),0):=by unfold gS;rw[if_neg hbad]
  have hc0:(ej x).2=0:=Decidable.byContradiction fun h=>hbad (.inl h);have hr0:ia x.ws=true:=by cases h:ia x.ws with|true=>rfl|false=>exact absurd (.inr h) hbad
  have hlen:(gv x).length≤65535:=oB (by rw[hp]);have hC:=JS hc0;rw[hc0]at k1;rw[hr0]at k2;have k3:∀a b c:Int,cO a→cO b→cO c→u9 Tryz.prog 33 [] [.pv (.ro [[.int .u64 a],[.int .u64 b],[.int .u64 c]])] [] (.fr 5 (bytesRow (cI [a,b,c]))):=by
   intro a b c ha hb hc;have h:Fb [.pv (.ro (bN [a,b,c]))]=some (([a,b,c]:List Int).length≤1000000∧(∀n∈([a,b,c]:List Int),cO n),.fr 5 (bytesRow (cI [a,b,c]))):=by rw[Ir,mQ];rfl
   refine HX _ _ _ h ⟨by simp,?_⟩;intro n hn;simp only[List.mem_cons,List.not_mem_nil,or_false]at hn;rcases hn with rfl|rfl|rfl;·exact ha
   ·exact hb
   ·exact hc
  have k4:u9 Tryz.prog 35 [] [.pv (.ro [[.int .u8 12,.ro (bytesRow (gv x))]])] [] (.aS [.fr 5 (bytesRow (je 12 (gv x))),.pv (.int .i64 0)]):=by
   have h:GfJ [.pv (.ro (dv [⟨12,gv x⟩]))]=some (([⟨12,gv x⟩]:List Fm).length≤1000∧(∀f∈([⟨12,gv x⟩]:List Fm),f.b.length≤65535),.aS [.fr 5 (bytesRow (fT [⟨12,gv x⟩])),.pv (.int .i64 0)]):=by unfold GfJ;dsimp only;rw[jY];rfl
   have:=c_fJ _ _ _ h ⟨by simp,by simpa using hlen⟩;rw[show dv [⟨12,gv x⟩]=[[PV.int .u8 12,.ro (bytesRow (gv x))]] from rfl]at this;simpa[fT]using this
  rw[hp];have hBe:gv x=(cI [x.c,x.t,(x.ws.length:Int)]++bg x.ws)++(ej x).1:=by unfold gv;rw[List.append_assoc]
  generalize hR:je 12 (gv x)=R at*;generalize hCd:(ej x).1=C at*;rw[hBe]at hlen k4;intro w S0 β vals hS0 hlt hheap hvl hvr;obtain⟨v0,rfl⟩:=DC hvl;have hv0:=hvr 0 v0 _ rfl rfl;obtain⟨us,rfl,hl,hus⟩:=hv0.cN;match us,hl with
  |[a0,a1,a2,a3,a4,a5,a6,a7,a8,a9,a10,a11],_=>
   cases(hus 0 _ a0 rfl rfl).aI;cases(hus 1 _ a1 rfl rfl).aI;obtain⟨Al,cl,rfl,hA⟩:=IA (hus 11 _ a11 rfl rfl).bm;obtain⟨S,hSd⟩:∃S,S=aU S0 w.heap.size β (ab []) w:=⟨_,rfl⟩;have hSl:∀b,S b→b<w.heap.size:=fun b hb=>by rw[hSd]at hb;exact hb.2.1
   have hva:∀W,Below w.heap.size w W→RV Tryz.prog S W (fun _=>.nilIface) (fun _=>False) _ _:=fun W hW=>hv0.mono (fun b hb=>⟨by rw[hSd];exact hb,hW.block b hb.2.1⟩) (fun t ⟨o,ho⟩=>by simp[ab]at ho);have hone:∀W,Below w.heap.size w W→∀(i:Nat) (v:Value) (y:AV),[Value.agg #[.int .u64 x.c,.int .u64 x.t,a2,a3,a4,a5,a6,a7,a8,a9,a10,.slice Al x.ws.length cl]][i]?=some v→[AV.agg (aH x)][i]?=some y→RV Tryz.prog S W (fun _=>.nilIface) (fun _=>False) v y:=fun W hW i v y hi hx=>by match i,hi,hx with|0,hi,hx=>simp only[List.getElem?_cons_zero,Option.some.injEq]at hi hx;subst hi hx;exact hva W hW|i+1,hi,hx=>simp at hi
   refine(EE x.c x.t x.ws a2 a3 a4 a5 a6 a7 a8 a9 a10 Al cl C R oc ot ol ow (by rw[List.length_append]at hlen;exact hlen) w (hA.imp id fun⟨A0,e,hb,hc⟩=>⟨A0,e,hb.2.1,hc⟩) ?_ ?_ ?_ ?_).mono ?_;·intro W hW;refine(jv k1 (vals:=[.agg #[.int .u64 x.c,.int .u64 x.t,a2,a3,a4,a5,a6,a7,a8,a9,a10,.slice Al x.ws.length cl]]) rfl (fun b hb=>Nat.lt_of_lt_of_le (hSl b hb) hW.size) (hone W hW)).mono ?_;rintro e W1 ⟨v,β',rfl,hB1,hh,hb,hr⟩;have hr:RV Tryz.prog _ W1 β' _ v (.aS [.own 0,.pv (.int .i64 0)]):=hr;obtain⟨us,rfl,hl,hu⟩:=hr.iE;match us,hl with
    |[u0,u1],_=>
     have e0:=((hu 0 _ u0 rfl rfl).aT).1;cases(hu 1 _ u1 rfl rfl).aI;subst e0;have hown:=sm (n0:=W.heap.size) yb (hh.holds 0 (.arr 5 (bytesRow C)) rfl) (fun b hb'=>hb 0 b ⟨_,rfl⟩ hb');rcases hown.2 with⟨_,h0⟩|⟨g,cap,cur,hg,hgb,hgh,hnc,hcm,hcs,htk⟩;·exact absurd (List.eq_nil_of_length_eq_zero h0) hC
     ·refine⟨⟨g,0,none⟩,cap,by rw[hg],fun j hj=>?_,(Array.getElem?_eq_some_iff.1 hgh).1,hB1⟩;rw[Addr.add_lit,←htk,List.getElem?_take,if_pos (by omega)];unfold World.cell?;rw[hgh];simp
   ·intro W hW;refine(jv k2 (vals:=[.agg #[.int .u64 x.c,.int .u64 x.t,a2,a3,a4,a5,a6,a7,a8,a9,a10,.slice Al x.ws.length cl]]) rfl (fun b hb=>Nat.lt_of_lt_of_le (hSl b hb) hW.size) (hone W hW)).mono ?_;rintro e W1 ⟨v,β',rfl,hB1,hh,hb,hr⟩;exact⟨by rw[RV.eC (b:=true) hr],hB1⟩
   ·intro a b c oa ob oc W A cc hc h0 h1 h2;have hAb:A.block<W.heap.size:=by
     have:(A.add 0).block<W.heap.size:=by
      unfold World.cell? at h0;split at h0;·rename_i hq;exact(Array.getElem?_eq_some_iff.1 hq).1
      ·cases h0
     rwa[bD]at this
    refine(jv (k3 a b c oa ob oc) (S:=fun b=>b<W.heap.size) (vals:=[.slice (some A) 3 cc]) rfl (fun b hb=>hb) (fun i v y hi hx=>?_)).mono ?_;·match i,hi,hx with
     |0,hi,hx=>
      cases hi;cases hx;refine .pv _ _ (.ro A cc [[.int .u64 a],[.int .u64 b],[.int .u64 c]] 1 (fun i _=>.int .u64 ([a,b,c].getD i 0)) hAb hc (fun r hr=>?_) (fun i j hi hj=>?_) (fun _ _ _ _ _ _=>rfl) (fun i j r p hr hp=>?_));·simp only[List.mem_cons,List.not_mem_nil,or_false]at hr;rcases hr with rfl|rfl|rfl<;>rfl
      ·obtain rfl:j=0:=by omega
       match i,hi with|0,_=>exact h0|1,_=>exact h1|2,_=>exact h2|i+3,hi=>simp at hi;omega
      ·match i,hr with
       |0,hr=>cases hr;match j,hp with|0,hp=>cases hp;exact .int _ _|j+1,hp=>simp at hp
       |1,hr=>cases hr;match j,hp with|0,hp=>cases hp;exact .int _ _|j+1,hp=>simp at hp
       |2,hr=>cases hr;match j,hp with|0,hp=>cases hp;exact .int _ _|j+1,hp=>simp at hp
       |i+3,hr=>simp at hr
     |i+1,hi,hx=>simp at hi
    ·rintro e W1 ⟨v,β',rfl,hB1,hh,hb,hr⟩;have e0:=(RV.aT (t:=0) hr).1;subst e0;exact⟨_,rfl,sm yb (hh.holds 0 (.arr 5 (bytesRow (cI [a,b,c]))) rfl) (fun b hb'=>hb 0 b ⟨_,rfl⟩ hb'),hB1⟩
   ·intro W A c V hc h0 h1 hV;have hAb:A.block<W.heap.size:=by
     have:(A.add 0).block<W.heap.size:=by
      unfold World.cell? at h0;split at h0;·rename_i hq;exact(Array.getElem?_eq_some_iff.1 hq).1
      ·cases h0
     rwa[bD]at this
    have hV2:W.ownsRow 0 5 1 V (cI [x.c,x.t,(x.ws.length:Int)]++bg x.ws++C).length (dH (cI [x.c,x.t,(x.ws.length:Int)]++bg x.ws++C)):=by
     have:dH (cI [x.c,x.t,(x.ws.length:Int)]++bg x.ws++C)=dH (cI [x.c,x.t,(x.ws.length:Int)]++bg x.ws)++dH C:=by simp[dH]
     rw[this,List.length_append];exact hV
    generalize cI [x.c,x.t,(x.ws.length:Int)]++bg x.ws++C=BC at*;have hRV:da (fun b=>b<W.heap.size) W V (.ro (bytesRow BC)):=yC (P:=Tryz.prog) hV2 fun b _ hb=>hb;have hVo:V.oneCell'=true:=by rcases hV.2 with⟨rfl,_⟩|⟨g,cap,cur,rfl,_⟩<;>rfl
    refine(jv k4 (S:=fun b=>b<W.heap.size) (vals:=[.slice (some A) 1 c]) rfl (fun b hb=>hb) (fun i v y hi hx=>?_)).mono ?_;·match i,hi,hx with
     |0,hi,hx=>
      cases hi;cases hx;refine .pv _ _ (.ro A c [[.int .u8 12,.ro (bytesRow BC)]] 2 (fun _ j=>if j=0 then .int .u8 12 else V) hAb hc (fun r hr=>?_) (fun i j hi hj=>?_) (fun i j r p hr hp=>?_) (fun i j r p hr hp=>?_));·simp only[List.mem_cons,List.not_mem_nil,or_false]at hr;subst hr;rfl
      ·obtain rfl:i=0:=by simp at hi;omega
       match j,hj with|0,_=>exact h0|1,_=>exact h1|j+2,hj=>omega
      ·split;·rfl
       ·exact hVo
      ·match i,hr with
       |0,hr=>cases hr;match j,hp with|0,hp=>cases hp;exact .int _ _|1,hp=>cases hp;exact hRV|j+2,hp=>simp at hp
       |i+1,hr=>simp at hr
     |i+1,hi,hx=>simp at hi
    ·rintro e W1 ⟨v,β',rfl,hB1,hh,hb,hr⟩;have hr:RV Tryz.prog _ W1 β' _ v (.aS [.own 0,.pv (.int .i64 0)]):=hr;obtain⟨us,rfl,hl,hu⟩:=hr.iE;match us,hl with|[u0,u1],_=>have e0:=((hu 0 _ u0 rfl rfl).aT).1;cases(hu 1 _ u1 rfl rfl).aI;subst e0;exact⟨_,rfl,yC (P:=Tryz.prog) (sm (n0:=W.heap.size) yb (hh.holds 0 (.arr 5 (bytesRow R)) rfl) (fun b hb'=>hb 0 b ⟨_,rfl⟩ hb')) fun b h1 h2=>⟨h1,h2⟩,hB1⟩
   ·rintro e w' ⟨V',rfl,hR,hBw⟩;refine⟨_,fun _=>.nilIface,rfl,⟨hBw.os,hBw.tape,hBw.output,hBw.size,fun k hk _=>hBw.block k hk⟩,⟨fun t o ho=>?_,fun t t' b ⟨o,ho⟩=>?_⟩,fun t b ⟨o,ho⟩=>?_,?_⟩;·rw[kv]at ho;cases ho
    ·rw[kv]at ho;cases ho
    ·rw[kv]at ho;cases ho
    ·refine .aS _ [V',.int .i64 0] rfl fun i y u hy hu=>?_;match i,hy,hu with|0,hy,hu=>cases hy;cases hu;exact .pv _ _ (hR.mono fun b hb=>⟨⟨.inr hb.1,hb.2,fun⟨t,o,ho,_⟩=>by rw[kv]at ho;cases ho⟩,rfl⟩)|1,hy,hu=>cases hy;cases hu;exact .pv _ _ (.int _ _)|i+2,hy,hu=>simp at hu
 ·cases h
theorem Uq:aR Tryz.prog 47 (GfA 64):=by
 intro ys φ r h hφ;unfold GfA at h;split at h
 ·rename_i rb;obtain⟨b,hb,h⟩:=Option.map_eq_some_iff.1 h;cases h;cases aE hb;have hl:b.length≤1000000:=hφ;have hl8:b.length≤100000000:=by omega
  refine aq (af Nq aj) (by kernel_rfl) (by conv=>lhs;reduce) (by simp) ?_;simp;refine au (fun x:Nat×List Fm=>x.1≤b.length∧x.2.length≤x.1∧∃n,b.length<n+x.1∧(dB b).1=x.2++(fm b n x.1).1∧(dB b).2=(fm b n x.1).2) (fun x=>⟨[(0,.pv (.ro (bytesRow b))),(4,.own 4),(5,.pv (.int .i64 (x.1:Int)))],[(4,.arr 64 (dv x.2))]⟩) (fun x=>b.length-x.1) [] (0,[]) ⟨by simp,by simp,b.length+1,by omega,by simp[dB],rfl⟩ ?_ ?_;·simp[dv]
  ·rintro⟨p,l⟩ ⟨hp,hpl,n,hn,h1,h2⟩;have hp:p≤b.length:=hp;have hpl:l.length≤p:=hpl;have hn:b.length<n+p:=hn;have h1:(dB b).1=l++(fm b n p).1:=h1;have h2:(dB b).2=(fm b n p).2:=h2;rw[fw];dsimp only;have g1:-9223372036854775808≤(p:Int):=by omega
   have g2:(p:Int)≤9223372036854775807:=by omega
   have hok:=um b p;match n,hn,h1,h2 with
   |0,hn,_,_=>omega|n+1,hn,h1,h2=>
    unfold fm at h1 h2;by_cases hlt:(p:Int)<b.length
    ·simp[hlt,hl8,g1,g2,bK,aw];refine⟨fun he=>?_,fun he=>?_⟩;·rw[if_pos he]at h1 h2;rw[h1,h2,List.append_nil];exact⟨rfl,rfl⟩
     ·obtain⟨_,k1,k2,_⟩:=hok he;obtain⟨m,hm⟩:∃m:Nat,(cd b (p:Int)).2.1=(m:Int):=⟨(cd b (p:Int)).2.1.toNat,by omega⟩;rw[if_neg (by simp[he]),hm,Int.toNat_natCast]at h1 h2;exact⟨⟨by omega,by omega⟩,m,l++[(cd b (p:Int)).1],⟨by omega,by simp;omega,n,by omega,by rw[h1];simp,h2⟩,⟨hm,by rw[pV];rfl⟩,by omega⟩
    ·have he:(cd b (p:Int)).2.2≠0:=fun e=>by have:=(hok e).2.1;have:=(hok e).2.2.1;omega
     rw[if_pos he]at h1 h2;have h1:(dB b).1=l:=by rw[h1,List.append_nil]
     have h2:(dB b).2=p:=h2;simp[hlt,h1,h2]
 ·cases h
@[simp] noncomputable def Zw:List AV→Option (Prop×AV)|[.pv (.ro a)]=>(dec lD a).map fun l=>(l.length≤1000∧(∀f∈l,f.b.length≤65535),.aS [.fr 5 (bytesRow (fT l)),.pv (.int .i64 0)])|_=>none
theorem Li:aR Tryz.prog 16 Zw:=by
 intro ys φ r h hφ;unfold Zw at h;split at h
 ·rename_i ra;obtain⟨l,hk,h⟩:=Option.map_eq_some_iff.1 h;cases h;cases jN hk;obtain⟨hl,hb⟩:=hφ;refine aq (af K6 aj) (by kernel_rfl) (by conv=>lhs;reduce) (by simp) ?_;simp;refine au (fun i:Nat=>i≤l.length) (fun i=>⟨[(0,.pv (.ro (dv l))),(4,.own 4),(5,.pv (.int .i64 (i:Int)))],[(4,.arr 5 (bytesRow (fT (l.take i))))]⟩) (fun i=>l.length-i) [] 0 (by simp) ?_ ?_;·simp[fT,bytesRow]
  ·intro i hi;have w2:IntKind.i64.wrap ((i:Int)+1)=(i:Int)+1:=wrap_i64 (by omega);by_cases hlt:i<l.length
   ·have r1:=n9 hlt;have h1:=hb l[i] (List.getElem_mem hlt);have h2:=ss l[i].k l[i].b h1;have h3:=sE (l.take i) fun f hf=>hb f (List.mem_of_mem_take hf);have h4:(l.take i).length≤1000:=by rw[List.length_take];omega
    have j1:bytesRow (fT (l.take i))++bytesRow (je l[i].k l[i].b)=bytesRow (fT (l.take (i+1))):=by rw[List.take_succ_eq_append_getElem hlt];simp only[fT,List.flatMap_append,List.flatMap_cons,List.flatMap_nil,List.append_nil,bytesRow,List.map_append]
    simp[w2,hlt,r1,h1,j1,aw];exact⟨⟨by omega,by omega,D7 _⟩,i+1,by omega,⟨by omega,rfl⟩,by omega⟩
   ·simp[hlt];rw[List.take_of_length_le (by omega)]
 ·cases h
@[simp] noncomputable def GF:List AV→Option (Prop×AV)|[.agg ys]=>jr ys fun x=>some (zK x,.aS [.fr 5 (bytesRow (gS x).1),.pv (.int .i64 (gS x).2)])|_=>none
theorem Dy:aR Tryz.prog 10 GF:=by
 intro ys φ r h hφ;unfold GF at h;split at h
 ·obtain⟨x,rfl,h2⟩:=dy h;clear h;cases h2;obtain⟨c,t,⟨⟨e,p,i,u,h'⟩,ps,vs,sl⟩,cs,ws⟩:=x;obtain⟨⟨okD,h1,h2⟩,oc,ot,ow,ol,oB⟩:=hφ;have h1:cs.length≤1000000:=h1;have h2:(∀e∈cs,EM e)=True:=eq_true h2;have hps:ps.length≤1000000000:=by have:ps.length≤1000:=okD.2.2.1;omega
  have hvs:vs.length≤1000000000:=by have:vs.length≤1000:=okD.1;omega
  have okD:qV ⟨⟨e,p,i,u,h'⟩,ps,vs,sl⟩=True:=eq_true okD;have oc:cO c:=oc;have ot:cO t:=ot;have ow:∀w∈ws,fR w:=ow;have ol:ws.length≤10000:=ol;refine aq (af JJ (af BW (af J9 (af JW (af Mj (af Li aj)))))) (by kernel_rfl) (by conv=>lhs;reduce) (by simp) ?_;apply ag;·simp[aH];exact⟨rfl,rfl⟩
  cases hr:ia ws with|false=>
   have hp:gS ⟨c,t,⟨⟨e,p,i,u,h'⟩,ps,vs,sl⟩,cs,ws⟩=([],2):=by unfold gS;rw[if_pos (.inr hr)]
   rw[hp];refine aO (fun _=>False) ?_ (fun _ h=>h.elim);simp;refine au (fun k:Nat=>∀(i:Nat) (h:i+1<ws.length),i<k→sv ws[i] ws[i+1]=true) (fun k=>⟨[(1,.ptr 1 0),(4,.pv (.int .i64 ((k:Int)+1)))],[(1,.box (aH ⟨c,t,⟨⟨e,p,i,u,h'⟩,ps,vs,sl⟩,cs,ws⟩))]⟩) (fun k=>ws.length-k) [] 0 (by simp) ?_ ?_;·simp[aH]
   ·rintro j ht;rw[fw];try dsimp only
    by_cases hlt:j+1<ws.length
    ·have w2:IntKind.i64.wrap ((j:Int)+1+1)=(j:Int)+1+1:=wrap_i64 (by omega);have r1:=bM hlt;have hj:j<ws.length:=by omega
     have r2:=bM hj;have hlt':(j:Int)+1<ws.length:=by omega
     have hj0:(0:Int)≤(j:Int)+1:=by omega
     rw[Int.natCast_add]at r1;rw[show((1:Nat):Int)=1 from rfl]at r1;have wj:IntKind.i64.wrap (j:Int)=(j:Int):=wrap_i64 (by omega);cases hg:sv ws[j] ws[j+1]with
     |true=>simp[hlt',hj,hj0,r1,r2,w2,wj,hg,aH];exact⟨j+1,fun i hi hik=>by
       by_cases e:i=j;·subst e;exact hg
       ·exact ht i hi (by omega),by omega,by omega⟩|false=>simp[hlt',hj,hj0,r1,r2,w2,wj,hg,aH]
    ·have hw:ia ws=true:=oz.2 fun i hi=>ht i hi (by omega);rw[hw]at hr;cases hr|true=>
   have ht:=oz.1 hr;refine aO (fun st'=>∃m:Int,st'=⟨look [(0,.ak),(1,.ptr 1 0),(2,.ak),(3,.ak),(4,.pv (.int .i64 m)),(5,.ak),(6,.ak),(7,.ak),(8,.ak),(9,.ak),(10,.ak),(11,.ak),(16,.pv (.bool false)),(31,.ak),(46,.ak),(85,.ak),(94,.ak),(105,.ak),(111,.ak)],ab [(1,.box (aH ⟨c,t,⟨⟨e,p,i,u,h'⟩,ps,vs,sl⟩,cs,ws⟩))]⟩) ?_ ?_
   ·simp;refine au (fun k:Nat=>k≤ws.length) (fun k=>⟨[(1,.ptr 1 0),(4,.pv (.int .i64 ((k:Int)+1)))],[(1,.box (aH ⟨c,t,⟨⟨e,p,i,u,h'⟩,ps,vs,sl⟩,cs,ws⟩))]⟩) (fun k=>ws.length-k) [] 0 (by simp) ?_ ?_;·simp[aH]
    ·rintro j hk;rw[fw];try dsimp only
     by_cases hlt:j+1<ws.length
     ·have w2:IntKind.i64.wrap ((j:Int)+1+1)=(j:Int)+1+1:=wrap_i64 (by omega);have r1:=bM hlt;have hj:j<ws.length:=by omega
      have r2:=bM hj;have hlt':(j:Int)+1<ws.length:=by omega
      have hj0:(0:Int)≤(j:Int)+1:=by omega
      rw[Int.natCast_add]at r1;rw[show((1:Nat):Int)=1 from rfl]at r1;have wj:IntKind.i64.wrap (j:Int)=(j:Int):=wrap_i64 (by omega);have hg:=ht j hlt;simp[hlt',hj,hj0,r1,r2,w2,wj,hg,aH];exact⟨j+1,by omega,by omega,by omega⟩
     ·have hlt':¬(j:Int)+1<ws.length:=by omega
      simp[hlt',aH];exact⟨_,rfl⟩
   rintro _ ⟨m,rfl⟩;have oL:cO (ws.length:Int):=⟨by omega,by omega⟩;have wl:IntKind.u64.wrap (ws.length:Int)=(ws.length:Int):=wrap_u64 (by omega);have hA:(cI [c,t,(ws.length:Int)]).length≤10*3:=gR (by
    intro n hn;simp only[List.mem_cons,List.not_mem_nil,or_false]at hn;rcases hn with rfl|rfl|rfl;·exact oc
    ·exact ot
    ·exact oL);apply ag;·simp[aH,wl,oc,ot,oL,mI,bK];exact⟨rfl,rfl⟩
   generalize hAe:cI [c,t,(ws.length:Int)]=A at*;refine aO (fun st'=>st'=⟨look [(0,.ak),(1,.ptr 1 0),(2,.ak),(3,.ak),(4,.ak),(5,.own 41),(6,.pv (.int .i64 ws.length)),(7,.ak),(8,.ak),(9,.ak),(10,.ak),(11,.ak),(16,.ak),(31,.ak),(46,.pv (.bool false)),(85,.ak),(94,.ak),(105,.ak),(111,.ak)],ab [(1,.box (aH ⟨c,t,⟨⟨e,p,i,u,h'⟩,ps,vs,sl⟩,cs,ws⟩)),(41,.arr 5 (bytesRow (A++bg ws)))]⟩) ?_ ?_
   ·simp;refine au (fun j:Nat=>j≤ws.length) (fun j=>⟨[(1,.ptr 1 0),(5,.own 41),(6,.pv (.int .i64 j))],[(1,.box (aH ⟨c,t,⟨⟨e,p,i,u,h'⟩,ps,vs,sl⟩,cs,ws⟩)),(41,.arr 5 (bytesRow (A++bg (ws.take j))))]⟩) (fun j=>ws.length-j) [] 0 (by simp) ?_ ?_;·simp[bg,aH]
    ·rintro j hk;rw[fw];try dsimp only
     have w2:IntKind.i64.wrap ((j:Int)+1)=(j:Int)+1:=wrap_i64 (by omega);by_cases hlt:j<ws.length;·have r1:=bM hlt;have ho:=ow _ (List.getElem_mem hlt);have h1:=px ho;have h2:=gp (l:=ws.take j) fun n h=>ow n (List.mem_of_mem_take h);rw[List.length_take]at h2;obtain⟨o1,o2,o3⟩:=ho;simp[w2,hlt,r1,aw,o1,o2,o3,mI,j5,aH];refine⟨⟨by omega,by omega,aL _⟩,j+1,by omega,⟨by omega,?_⟩,by omega⟩;rw[List.take_succ_eq_append_getElem hlt,nV,←List.append_assoc,aM (A++_)]
     ·have hke:j=ws.length:=by omega
      subst hke;simp[hlt,aH]
   rintro _ rfl;have hcon:ej ⟨c,t,⟨⟨e,p,i,u,h'⟩,ps,vs,sl⟩,cs,ws⟩=if c=0∧(⟨⟨e,p,i,u,h'⟩,ps,vs,sl⟩:Dc)=si then fV cs else if c≠0∧cs=[] then n5 ⟨⟨e,p,i,u,h'⟩,ps,vs,sl⟩ else([],2):=rfl;apply ag;·simp[aH,h1,h2,bK];exact⟨rfl,rfl⟩
   generalize fV cs=C at*;obtain⟨C,ce⟩:=C;apply ag;·simp[okD,bK];exact⟨rfl,rfl⟩
   generalize n5 ⟨⟨e,p,i,u,h'⟩,ps,vs,sl⟩=D at*;obtain⟨D,de⟩:=D;have hput:gS ⟨c,t,⟨⟨e,p,i,u,h'⟩,ps,vs,sl⟩,cs,ws⟩=if(ej ⟨c,t,⟨⟨e,p,i,u,h'⟩,ps,vs,sl⟩,cs,ws⟩).2≠0 then([],2) else(je 12 (gv ⟨c,t,⟨⟨e,p,i,u,h'⟩,ps,vs,sl⟩,cs,ws⟩),0):=by show(if _∨ia ws=false then _ else _)=_;rw[hr];simp
   have hputB:gv ⟨c,t,⟨⟨e,p,i,u,h'⟩,ps,vs,sl⟩,cs,ws⟩=A++(bg ws++(ej ⟨c,t,⟨⟨e,p,i,u,h'⟩,ps,vs,sl⟩,cs,ws⟩).1):=by rw[←hAe];rfl
   generalize ej ⟨c,t,⟨⟨e,p,i,u,h'⟩,ps,vs,sl⟩,cs,ws⟩=cn at*;generalize gv ⟨c,t,⟨⟨e,p,i,u,h'⟩,ps,vs,sl⟩,cs,ws⟩=B at*;generalize gS ⟨c,t,⟨⟨e,p,i,u,h'⟩,ps,vs,sl⟩,cs,ws⟩=R at*;by_cases hc:c=0;case' pos=>
    by_cases hce:ce=0;rotate_left
    ·have hn:cn.2≠0:=by
      rw[hcon];split;·exact hce
      ·rw[if_neg (fun h=>h.1 hc)];simp
     rw[hput,if_pos hn];refine aO (fun _=>False) ?_ (fun _ h=>h.elim);simp[hc,hce]
    by_cases hd:(⟨⟨e,p,i,u,h'⟩,ps,vs,sl⟩:Dc)=si;rotate_left
    ·have hn:cn.2≠0:=by rw[hcon,if_neg (fun h=>hd h.2),if_neg (fun h=>h.1 hc)];simp
     rw[hput,if_pos hn];have hd:¬(⟨⟨e,p,i,u,h'⟩,ps,vs,sl⟩:Dc)=⟨⟨0,0,0,0,false⟩,[],[],false⟩:=hd;have hd':=decide_eq_false hd;refine aO (fun _=>False) ?_ (fun _ h=>h.elim);simp[-decide_eq_false_iff_not,-Dc.mk.injEq,-Ls.mk.injEq,hc,hce,hps,hvs,hd',hd]
    have hcn:cn=(C,0):=by rw[hcon,if_pos ⟨hc,hd⟩,hce]
    subst hcn;have hd:(⟨⟨e,p,i,u,h'⟩,ps,vs,sl⟩:Dc)=⟨⟨0,0,0,0,false⟩,[],[],false⟩:=hd;have hd':=decide_eq_true hd;obtain⟨hR,hlen⟩:R=(je 12 B,0)∧B.length≤65535:=by rw[if_neg (by simp)]at hput;exact⟨hput,oB (by rw[hput])⟩
    rw[hR];have hputB:B=(A++bg ws)++C:=by rw[hputB,List.append_assoc]
    have hrow:bytesRow (A++bg ws)++bytesRow C=bytesRow B:=by rw[hputB,aM (A++_)]
    have hBl:B.length=A.length+(bg ws).length+C.length:=by rw[hputB];simp;omega
    apply ag;·simp[-decide_eq_true_eq,-Dc.mk.injEq,-Ls.mk.injEq,hc,hce,hps,hvs,hd',bK,aw,hrow];exact⟨⟨by omega,by omega,aL _⟩,rfl,rfl⟩
   case' neg=>
    by_cases hde:de=0;rotate_left
    ·have hn:cn.2≠0:=by
      rw[hcon,if_neg (fun h=>hc h.1)];split;·exact hde
      ·simp
     rw[hput,if_pos hn];refine aO (fun _=>False) ?_ (fun _ h=>h.elim);simp[hc,hde]
    by_cases hcs:cs=[];rotate_left
    ·have hn:cn.2≠0:=by rw[hcon,if_neg (fun h=>hc h.1),if_neg (fun h=>hcs h.2)];simp
     rw[hput,if_pos hn];have hcs':0<cs.length:=List.length_pos_iff.2 hcs;refine aO (fun _=>False) ?_ (fun _ h=>h.elim);simp[hc,hde,hcs',hcs]
    have hcn:cn=(D,0):=by rw[hcon,if_neg (fun h=>hc h.1),if_pos ⟨hc,hcs⟩,hde]
    subst hcn;obtain⟨hR,hlen⟩:R=(je 12 B,0)∧B.length≤65535:=by rw[if_neg (by simp)]at hput;exact⟨hput,oB (by rw[hput])⟩
    rw[hR];have hputB:B=(A++bg ws)++D:=by rw[hputB,List.append_assoc]
    have hrow:bytesRow (A++bg ws)++bytesRow D=bytesRow B:=by rw[hputB,aM (A++_)]
    have hBl:B.length=A.length+(bg ws).length+D.length:=by rw[hputB];simp;omega
    apply ag;·simp[hc,hde,hcs,bK,aw,hrow];exact⟨⟨by omega,by omega,aL _⟩,rfl,rfl⟩
   all_goals
    apply ag;·simp;exact⟨rfl,rfl⟩
    refine aO (fun st'=>st'=⟨look [(0,.ak),(1,.ak),(2,.ak),(3,.ak),(4,.ak),(5,.own 41),(6,.ak),(7,.ak),(8,.ak),(9,.ak),(10,.ak),(11,.own 11),(16,.ak),(31,.ak),(46,.ak),(85,.ak),(94,.ak),(105,.ak),(111,.pv (.bool false))],ab [(41,.arr 5 (bytesRow B)),(11,.arr 64 [])]⟩) ?_ ?_
    ·rw[cp];refine au (fun _:Unit=>True) (fun _=>⟨[(5,.own 41),(11,.own 11)],[(41,.arr 5 (bytesRow B)),(11,.arr 64 [])]⟩) (fun _=>0) [] () trivial ?_ ?_;·simp
     ·intro _ _;rw[fw];try dsimp only
      have hno:¬(65535:Int)<B.length:=by omega
      simp[hno]
    rintro _ rfl;apply ag;·simp[aw];exact⟨rfl,rfl⟩
    have hdec:dec lD [[.int .u8 12,.ro (bytesRow B)]]=some [⟨12,B⟩]:=jY [⟨12,B⟩];have hall:fT [⟨12,B⟩]=je 12 B:=by simp[fT]
    simp[hdec,hall,hlen,bK]
 ·cases h
def lU (b:List UInt8):Nat→Int→Int→Int|0,_,q=>q|f+1,n,q=>if n≤0 then q else if(ar b 3 q).2.2≠0 then q else lU b f (n-1) (ar b 3 q).2.1
theorem Bb (b:List UInt8):∀(f:Nat) (n q:Int),(az b f n q).2.2=0→lU b f n q=(az b f n q).2.1
 |0,n,q,_=>rfl|f+1,n,q,h=>by
  unfold az lU at*;split at h;·rename_i h1;rw[if_pos h1,if_pos h1]
  ·rename_i h1;rw[if_neg h1,if_neg h1];split at h;·rename_i h2;exact absurd h h2
   ·rename_i h2;rw[if_neg h2,if_neg h2];split at h;·rename_i h3;exact absurd h h3
    ·rename_i h3;rw[if_neg h3];exact Bb b f (n-1) _ (by simpa using h3)
@[simp] noncomputable def Vd:List AV→Option (Prop×AV)|[.pv (.ro b),.pv (.int .i64 p),.pv (.int .u64 n)]=>(dec di b).map fun l=>((l.length≤100000000∧0≤p∧p≤l.length)∧0≤n∧n≤18446744073709551615,.aS [.fr 84 (aF (az l (l.length+1) n p).1),.pv (.int .i64 (lU l (l.length+1) n p)),.pv (.int .i64 (az l (l.length+1) n p).2.2)])|_=>none
theorem UA:aR Tryz.prog 44 Vd:=by
 intro ys φ r h hφ;unfold Vd at h;split at h
 ·rename_i rb p n;obtain⟨b,hb,h⟩:=Option.map_eq_some_iff.1 h;cases h;cases aE hb;obtain⟨⟨hl8,hp1,hp2⟩,hn1,hn2⟩:=hφ;have hl:b.length≤1000000000:=by omega
  have h3:(3:Int).toNat=3:=rfl;have hinf:(Tryz.prog.info? 84).isSome=true:=by kernel_rfl
  refine aq (af sq aj) (by kernel_rfl) (by conv=>lhs;reduce) (by simp) ?_;have hfin:az b (b.length+1) n p=dM [] (az b (b.length+1) n p):=(kr b _ n p).symm;generalize hT:az b (b.length+1) n p=T at*;generalize hE:lU b (b.length+1) n p=E at*;have hfin:T=dM [] (az b (b.length+1) n p):=by rw[hT];exact hfin
  simp;refine au (fun x:Nat×Int×List Pn×Int=>0≤x.2.2.2∧x.2.2.2≤18446744073709551615∧0≤x.2.1∧x.2.1≤b.length∧T=dM x.2.2.1 (az b x.1 x.2.2.2 x.2.1)∧E=lU b x.1 x.2.2.2 x.2.1∧(b.length:Int)<x.1+x.2.1∧(x.2.2.1.length:Int)≤x.2.1) (fun x=>⟨[(0,.pv (.ro (bytesRow b))),(1,.pv (.int .i64 x.2.1)),(2,.pv (.int .u64 x.2.2.2)),(6,.own 6)],[(6,.arr 84 (aF x.2.2.1))]⟩) (fun x=>(b.length-x.2.1).toNat) [] (b.length+1,p,[],n) ⟨hn1,hn2,hp1,hp2,hfin,hE.symm,by show(b.length:Int)<((b.length+1:Nat):Int)+p;omega,hp1⟩ ?_ ?_;·simp[aF]
  ·rintro⟨f,q,acc,m⟩ ⟨hm0,hm1,hq1,hq2,hG,hA,hf,hacc⟩;dsimp only at hm0 hm1 hq1 hq2 hG hA hf hacc;have g1:-9223372036854775808≤q:=by omega
   have g2:q≤9223372036854775807:=by omega
   have ha9:acc.length≤1000000000:=by omega
   rw[fw];dsimp only;obtain⟨f,rfl⟩:∃g,f=g+1:=⟨f-1,by omega⟩;by_cases hlt:0<m
   ·have wl:IntKind.u64.wrap (m-1)=m-1:=wrap_u64 (by omega);by_cases h0:(ar b 3 q).2.2=0
    ·obtain⟨x,y,z,hx,o1,o2,o3⟩:=eB h0;obtain⟨_,_,i3,i4⟩:=dp b 3 q h0;have i4:=(i4 (by omega)).2;have hAA:aQ b q 3=([x,y,z],(ar b 3 q).2.1,0):=by unfold aQ;rw[if_neg (by simpa using h0),←hx,←h0]
     rw[jt b acc f m q hlt h0,hx]at hG;have hA2:E=lU b f (m-1) (ar b 3 q).2.1:=by rw[hA,lU,if_neg (by omega),if_neg (by simpa using h0)]
     have r0:rowAt (bN [x,y,z]) 0=[.int .u64 x]:=rfl;have r1:rowAt (bN [x,y,z]) 1=[.int .u64 y]:=rfl;have r2:rowAt (bN [x,y,z]) 2=[.int .u64 z]:=rfl;simp[hlt,hl,g1,g2,h3,hAA,r0,r1,r2,wl,aw];exact⟨⟨by omega,by omega⟩,f,(ar b 3 q).2.1,acc++[⟨x,y,z⟩],m-1,⟨by omega,by omega,by omega,by omega,hG,hA2,by omega,by simp;omega⟩,⟨⟨rfl,rfl⟩,by rw[eH];rfl⟩,by omega⟩
    ·have hAA:aQ b q 3=([],q,(ar b 3 q).2.2):=by unfold aQ;rw[if_pos h0]
     rw[kS b acc f m q hlt h0]at hG;have hA2:E=q:=by rw[hA,lU,if_neg (by omega),if_pos h0]
     simp[hlt,hl,g1,g2,h3,hAA,h0,hG,hA2,hinf]
   ·rw[kj b acc (f+1) m q (by omega)]at hG;have hA2:E=q:=by rw[hA,lU,if_pos (by omega)]
    simp[hlt,hG,hA2]
 ·cases h
theorem Gj {B:List UInt8} (h1:(aQ B 0 3).2.2=0):∃c t n:Int,∃a:Nat,aQ B 0 3=([c,t,n],(a:Int),0)∧cO c∧cO t∧cO n∧a≤B.length:=by
 have hG:(ar B 3 0).2.2=0∧aQ B 0 3=ar B 3 0:=by
  unfold aQ at h1 ⊢;split at h1;·rename_i h2;exact absurd h1 h2
  ·rename_i h2;exact⟨h1,if_neg h2⟩
 obtain⟨g1,g2⟩:=hG;obtain⟨c,t,n,hx,o1,o2,o3⟩:=eB g1;obtain⟨_,_,i3,i4⟩:=dp B 3 0 g1;have i4:=(i4 (by omega)).2;refine⟨c,t,n,(ar B 3 0).2.1.toNat,?_,o1,o2,o3,by omega⟩;rw[g2];exact Prod.ext hx (Prod.ext (by show _=((_:Nat):Int);rw[Int.toNat_of_nonneg (by omega)]) g1)
theorem xl {b:List UInt8}{f:Nat}{n:Int}{p:Nat} (h:(az b f n (p:Int)).2.2=0) (hp:p≤b.length):∃q:Nat,(az b f n (p:Int)).2.1=(q:Int)∧q≤b.length:=by obtain⟨h1,h2⟩:=qx b f n p h (by omega);exact⟨(az b f n (p:Int)).2.1.toNat,by omega,by omega⟩
theorem uO (b:List UInt8):(eA b).1.length≤b.length:=by
 obtain⟨a1,a2,a3,a4⟩:=oQ b;unfold eA;split;·exact a2
 ·simp
def yI:Option Sc→Sc×Int|none=>(zS,220)|some x=>if ia x.ws=true then(x,0) else(zS,220)
theorem EY (b:List UInt8):ie b=if(eA b).2=false then(zS,220) else yI (gL (eA b).1):=rfl
@[simp] noncomputable def KX:List AV→Option (Prop×AV)|[.pv (.ro b)]=>(dec di b).map fun l=>(l.length≤1000000,.aS [.agg (aH (ie l).1),.pv (.int .i64 (ie l).2)])|_=>none
theorem Hr:aR Tryz.prog 12 KX:=by
 intro ys φ r h hφ;unfold KX at h;split at h
 ·obtain⟨b,hb,h⟩:=Option.map_eq_some_iff.1 h;cases h;cases aE hb;have hl:b.length≤1000000:=hφ;have hW:=uO b;have h3:(3:Int).toNat=3:=rfl;refine aq (af c_wh (af sq (af UA (af N4 (af PH (af K5 aj)))))) (by kernel_rfl) (by conv=>lhs;reduce) (by simp) ?_;rw[EY];apply ag;·simp;exact⟨rfl,rfl⟩
  apply ag;·simp[hl];exact⟨rfl,rfl⟩
  generalize eA b=W at*;obtain⟨B,ok⟩:=W;have hB:B.length≤1000000:=by have:B.length≤b.length:=hW;omega
  have l9:B.length≤1000000000:=by omega
  have l8:B.length≤100000000:=by omega
  dsimp only;apply ag;·simp[h3,l9,nP];exact⟨rfl,rfl⟩
  cases ok with|false=>rw[if_pos rfl];refine aO (fun _=>False) ?_ (fun _ h=>h.elim);simp[aH,zS,si]|true=>
   rw[if_neg (by simp)];by_cases he:(aQ B 0 3).2.2=0;rotate_left
   ·have hr:gL B=none:=by unfold gL;rw[if_pos he]
    rw[hr];refine aO (fun _=>False) ?_ (fun _ h=>h.elim);simp[he,yI,aH,zS,si]
   obtain⟨c,t,n,a,hA,oc,ot,⟨on1,on2⟩,ha⟩:=Gj he;have r0:rowAt (bN [c,t,n]) 0=[.int .u64 c]:=rfl;have r1:rowAt (bN [c,t,n]) 1=[.int .u64 t]:=rfl;have r2:rowAt (bN [c,t,n]) 2=[.int .u64 n]:=rfl;have a0:(0:Int)≤(a:Int):=by omega
   have a1:(a:Int)≤B.length:=by omega
   have hR:gL B=if(az B (B.length+1) n (a:Int)).2.2≠0 then none else ry B c t (az B (B.length+1) n (a:Int)).1 (az B (B.length+1) n (a:Int)).2.1:=by unfold gL;rw[if_neg (by simp[he]),hA];rfl
   rw[hR];simp only[hA];apply ag;·simp;exact⟨rfl,rfl⟩
   apply ag;·simp[r0,r1];exact⟨rfl,rfl⟩
   have hq:=@xl B (B.length+1) n a;have hv:=Bb B (B.length+1) n (a:Int);have hlen:=gq B (B.length+1) n (a:Int);replace hq:=fun h=>hq h ha;rw[dV];apply ag;·simp[l8,ha,on1,on2,r2,bC];exact⟨rfl,rfl⟩
   generalize az B (B.length+1) n (a:Int)=T at*;obtain⟨ws,q',pe⟩:=T;generalize lU B (B.length+1) n (a:Int)=q1 at*;have hlen:ws.length≤B.length+1:=hlen;have hw9:ws.length≤1000000000:=by omega
   by_cases hpe:pe=0;rotate_left
   ·rw[if_pos hpe];apply ag;·simp[hpe];exact⟨rfl,rfl⟩
    apply c8 rfl;rw[A8];refine aO (fun _=>False) ?_ (fun _ h=>h.elim);simp[hpe,yI,aH,zS,si]
   subst hpe;obtain⟨q,rfl,hqB⟩:=hq rfl;obtain rfl:q1=(q:Int):=hv rfl;rw[if_neg (by simp)];have hcut:(List.take B.length (bytesRow B)).drop q=bytesRow (B.drop q):=by rw[List.take_of_length_le (by simp[bytesRow])];simp[bytesRow,List.map_drop]
   have hq0:(q:Int)≤B.length:=by omega
   apply ag;·simp;exact⟨rfl,rfl⟩
   apply cz rfl;have hdl:B.length≤1000000+q:=by omega
   have hdl8:B.length≤100000000+q:=by omega
   have hb1:(∀r∈bytesRow B,r.length=1)=True:=eq_true (aL B);unfold ry;rw[Int.toNat_natCast];by_cases hc:c=0
   ·rw[if_pos hc];apply ag;·simp[hc];exact⟨rfl,rfl⟩
    apply cz rfl;apply Gl;·simp[hcut,hdl8,hqB,hb1,bh];exact⟨rfl,rfl⟩
    generalize cq (B.drop q)=C at*;obtain⟨cs,ce⟩:=C;by_cases hce:ce=0;rotate_left;·rw[if_pos hce];refine aO (fun _=>False) ?_ (fun _ h=>h.elim);simp[hce,yI,aH,zS,si]
    rw[if_neg (fun h=>h hce)];cases hr:ia ws with|false=>refine aO (fun _=>False) ?_ (fun _ h=>h.elim);simp[hce,hr,hw9,yI,aH,zS,si]|true=>
     apply ag;·simp[hce,hr,hw9];exact⟨rfl,rfl⟩
     simp[hc,hr,yI,aH,si]
   ·rw[if_neg hc];apply ag;·simp[hc];exact⟨rfl,rfl⟩
    apply c8 rfl;apply Gl;·simp[hcut,hdl,hqB,hb1,bC,b6];exact⟨rfl,rfl⟩
    have hpl:=uL (B.drop q);rw[List.length_drop]at hpl;generalize cS (B.drop q)=C at*;obtain⟨⟨⟨e,p,i,u,h'⟩,ps,vs,sl⟩,ce⟩:=C;by_cases hce:ce=0;rotate_left;·rw[if_pos hce];refine aO (fun _=>False) ?_ (fun _ h=>h.elim);simp[hce,yI,aH,zS,si]
    rw[if_neg (fun h=>h hce)];cases hr:ia ws with|false=>refine aO (fun _=>False) ?_ (fun _ h=>h.elim);simp[hce,hr,hw9,yI,aH,zS,si]|true=>
     apply ag;·simp[hce,hr,hw9];exact⟨rfl,rfl⟩
     simp[hr,yI,aH]
 ·cases h
noncomputable def tB (b:List UInt8) (c t:Int) (ws:List Pn) (q:Int):Sc×Bool:=if c=0 then(⟨c,t,si,(cq (b.drop q.toNat)).1,ws⟩,decide ((cq (b.drop q.toNat)).2=0)) else(⟨c,t,(cS (b.drop q.toNat)).1,[],ws⟩,decide ((cS (b.drop q.toNat)).2=0))
noncomputable def fQ (b:List UInt8):Sc×Bool:=if(aQ b 0 3).2.2≠0 then(zS,false) else if(az b (b.length+1) ((aQ b 0 3).1.getD 2 0) (aQ b 0 3).2.1).2.2≠0 then(zS,false) else tB b ((aQ b 0 3).1.getD 0 0) ((aQ b 0 3).1.getD 1 0) (az b (b.length+1) ((aQ b 0 3).1.getD 2 0) (aQ b 0 3).2.1).1 (az b (b.length+1) ((aQ b 0 3).1.getD 2 0) (aQ b 0 3).2.1).2.1
theorem Iw (b:List UInt8) (c t:Int) (ws:List Pn) (q:Int):ry b c t ws q=if(tB b c t ws q).2=true then some (tB b c t ws q).1 else none:=by
 unfold ry tB;repeat' split
 all_goals simp_all
theorem Dz (b:List UInt8):gL b=if(fQ b).2=true then some (fQ b).1 else none:=by
 unfold gL fQ;split;·rfl
 split;·rfl
 ·exact Iw _ _ _ _ _
@[simp] noncomputable def K3:List AV→Option (Prop×AV)|[.pv (.ro b)]=>(dec di b).map fun l=>(l.length≤1000000,.aS [.agg (bj 205 156 107 100 (fQ l).1),.pv (.bool (fQ l).2)])|_=>none
theorem Ng:aR Tryz.prog 48 K3:=by
 intro ys φ r h hφ;unfold K3 at h;split at h
 ·obtain⟨b,hb,h⟩:=Option.map_eq_some_iff.1 h;cases h;cases aE hb;have hl:b.length≤1000000:=hφ;have l9:b.length≤1000000000:=by omega
  have l8:b.length≤100000000:=by omega
  have h3:(3:Int).toNat=3:=rfl;have hi1:(Tryz.prog.info? 205).isSome=true:=by kernel_rfl
  have hi2:(Tryz.prog.info? 156).isSome=true:=by kernel_rfl
  have hi3:(Tryz.prog.info? 107).isSome=true:=by kernel_rfl
  have hi4:(Tryz.prog.info? 100).isSome=true:=by kernel_rfl
  refine aq (af uU (af Kp (af IJ aj))) (by kernel_rfl) (by conv=>lhs;reduce) (by simp) ?_;apply ag;·simp;exact⟨rfl,rfl⟩
  apply ag;·simp[h3,l9];exact⟨rfl,rfl⟩
  by_cases he:(aQ b 0 3).2.2=0;rotate_left
  ·have hr:fQ b=(zS,false):=by unfold fQ;rw[if_pos he]
   rw[hr];refine aO (fun _=>False) ?_ (fun _ h=>h.elim);simp[he,hi1,hi2,hi3,hi4,bj,zS,si]
  obtain⟨c,t,n,a,hA,oc,ot,⟨on1,on2⟩,ha⟩:=Gj he;have hR:fQ b=if(az b (b.length+1) n (a:Int)).2.2≠0 then(zS,false) else tB b c t (az b (b.length+1) n (a:Int)).1 (az b (b.length+1) n (a:Int)).2.1:=by unfold fQ;rw[if_neg (by simp[he]),hA];rfl
  simp only[hA];have r0:rowAt (bN [c,t,n]) 0=[.int .u64 c]:=rfl;have r1:rowAt (bN [c,t,n]) 1=[.int .u64 t]:=rfl;have r2:rowAt (bN [c,t,n]) 2=[.int .u64 n]:=rfl;apply ag;·simp;exact⟨rfl,rfl⟩
  apply ag;·simp[r0,r1];exact⟨rfl,rfl⟩
  have hat:=@xl b (b.length+1) n a;have hlen:=gq b (b.length+1) n (a:Int);have hfin:az b (b.length+1) n (a:Int)=dM [] (az b (b.length+1) n (a:Int)):=(kr b _ n a).symm;generalize hT:az b (b.length+1) n (a:Int)=T at*;have hfin:T=dM [] (az b (b.length+1) n (a:Int)):=by rw[hT];exact hfin
  have hRz:T.2.2≠0→fQ b=(zS,false):=fun h=>by rw[hR,if_pos h]
  have hRo:T.2.2=0→fQ b=tB b c t T.1 T.2.1:=fun h=>by rw[hR,if_neg (by simpa using h)]
  clear hR;generalize fQ b=R at*;refine aO (fun st'=>T.2.2=0∧st'=⟨look [(0,.pv (.ro (bytesRow b))),(2,.ptr 2 0),(3,.pv (.bool false)),(4,.own 13),(5,.pv (.int .i64 T.2.1)),(6,.ak),(7,.ptr 7 0),(8,.ak),(9,.ak),(10,.ak),(18,.ak),(34,.pv (.bool false)),(43,.ak),(63,.ak)],ab ([(2,.box [.pv (.int .u64 0),.pv (.int .u64 0),.pv (.int .u64 0),.pv (.int .u64 0),.pv (.int .u64 0),.pv (.int .u64 0),.pv (.bool false),.pv .nil,.pv .nil,.pv (.bool false),.pv .nil,.pv .nil]),(13,.arr 22 (bN [c,t,n])),(7,.box [.pv (.int .u64 c),.pv (.int .u64 t),.pv (.int .u64 0),.pv (.int .u64 0),.pv (.int .u64 0),.pv (.int .u64 0),.pv (.bool false),.pv .nil,.pv .nil,.pv (.bool false),.pv .nil,if T.1.length=0 then .pv .nil else .own 58])]++if T.1.length=0 then[] else[(58,.arr 100 (aF T.1))])⟩) ?_ ?_
  ·rw[cp];refine au (fun x:Nat×Int×List Pn=>(x.2.2.length:Int)≤n∧0≤x.2.1∧x.2.1≤b.length∧(b.length:Int)<x.1+x.2.1∧(x.2.2.length:Int)≤x.2.1∧T=dM x.2.2 (az b x.1 (n-x.2.2.length) x.2.1)) (fun x=>⟨[(0,.pv (.ro (bytesRow b))),(2,.ptr 2 0),(3,.pv (.bool false)),(4,.own 13),(5,.pv (.int .i64 x.2.1)),(7,.ptr 7 0)],[(2,.box [.pv (.int .u64 0),.pv (.int .u64 0),.pv (.int .u64 0),.pv (.int .u64 0),.pv (.int .u64 0),.pv (.int .u64 0),.pv (.bool false),.pv .nil,.pv .nil,.pv (.bool false),.pv .nil,.pv .nil]),(13,.arr 22 (bN [c,t,n])),(7,.box [.pv (.int .u64 c),.pv (.int .u64 t),.pv (.int .u64 0),.pv (.int .u64 0),.pv (.int .u64 0),.pv (.int .u64 0),.pv (.bool false),.pv .nil,.pv .nil,.pv (.bool false),.pv .nil,if x.2.2.length=0 then .pv .nil else .own 58])]++if x.2.2.length=0 then[] else[(58,.arr 100 (aF x.2.2))]⟩) (fun x=>(b.length-x.2.1).toNat) [] (b.length+1,(a:Int),[]) ?_ ?_ ?_;·exact⟨on1,by show(0:Int)≤a;omega,by show(a:Int)≤b.length;omega,by show(b.length:Int)<((b.length+1:Nat):Int)+a;omega,by show(0:Int)≤a;omega,by simpa using hfin⟩
   ·simp
   ·rintro⟨f,q,acc⟩ ⟨hn,hq0,hq1,hf,hacc,hG⟩;dsimp only at hn hq0 hq1 hf hacc hG;rw[fw];try dsimp only
    have wl:IntKind.u64.wrap (acc.length:Int)=(acc.length:Int):=wrap_u64 (by omega);have hq2:-9223372036854775808≤q:=by omega
    have hq3:q≤9223372036854775807:=by omega
    have wz:IntKind.u64.wrap 0=0:=wrap_u64 (by omega);by_cases hlt:(acc.length:Int)<n
    ·obtain⟨f,rfl⟩:∃g,f=g+1:=⟨f-1,by omega⟩;by_cases h0:(ar b 3 q).2.2=0
     ·obtain⟨x,y,z,hx,o1,o2,o3⟩:=eB h0;obtain⟨_,_,g3,g4⟩:=dp b 3 q h0;have g4:=(g4 (by omega)).2;have hA2:aQ b q 3=([x,y,z],(ar b 3 q).2.1,0):=by unfold aQ;rw[if_neg (by simpa using h0),←hx,←h0]
      rw[jt b acc f (n-acc.length) q (by omega) h0,hx]at hG;have s0:rowAt (bN [x,y,z]) 0=[.int .u64 x]:=rfl;have s1:rowAt (bN [x,y,z]) 1=[.int .u64 y]:=rfl;have s2:rowAt (bN [x,y,z]) 2=[.int .u64 z]:=rfl;have hi:n-((acc++[iD [x,y,z]]).length:Int)=n-acc.length-1:=by simp;omega
      have hG2:T=dM (acc++[iD [x,y,z]]) (az b f (n-((acc++[iD [x,y,z]]).length:Int)) (ar b 3 q).2.1):=by rw[hi];exact hG
      have hin:(((acc++[iD [x,y,z]]).length:Nat):Int)≤n∧0≤(ar b 3 q).2.1∧(ar b 3 q).2.1≤b.length∧(b.length:Int)<f+(ar b 3 q).2.1∧(((acc++[iD [x,y,z]]).length:Nat):Int)≤(ar b 3 q).2.1∧T=dM (acc++[iD [x,y,z]]) (az b f (n-((acc++[iD [x,y,z]]).length:Int)) (ar b 3 q).2.1):=⟨by simp;omega,by omega,g4,by omega,by simp;omega,hG2⟩;cases acc with|nil=>have hlt':0<n:=hlt;simp[hlt',l9,hq2,hq3,h3,hA2,r2,s0,s1,s2,wz,aw,nP];refine⟨f,(ar b 3 q).2.1,[iD [x,y,z]],hin,?_,by omega⟩;simp[iD,aF,rowP]|cons w ac=>
       have hlt':(ac.length:Int)+1<n:=by simpa using hlt
       have wl':IntKind.u64.wrap ((ac.length:Int)+1)=(ac.length:Int)+1:=by simpa using wl
       simp[hlt',l9,hq2,hq3,h3,hA2,r2,s0,s1,s2,wl',aw,nP];have hacc':(ac.length:Int)+1≤q:=by simpa using hacc
       refine⟨⟨by omega,by omega⟩,f,(ar b 3 q).2.1,w::ac++[iD [x,y,z]],hin,?_,by omega⟩;simp[iD,aF,rowP]
     ·have hA2:aQ b q 3=([],q,(ar b 3 q).2.2):=by unfold aQ;rw[if_pos h0]
      rw[kS b acc f _ q (by omega) h0]at hG;have hRe:=hRz (by rw[hG];exact h0);cases acc with|nil=>have hlt':0<n:=hlt;simp[hlt',l9,hq2,hq3,h3,hA2,h0,r2,wz,hRe,hi1,hi2,hi3,hi4,bj,zS,si]|cons w ac=>
       have hlt':(ac.length:Int)+1<n:=by simpa using hlt
       have wl':IntKind.u64.wrap ((ac.length:Int)+1)=(ac.length:Int)+1:=by simpa using wl
       simp[hlt',l9,hq2,hq3,h3,hA2,h0,r2,wl',hRe,hi1,hi2,hi3,hi4,bj,zS,si]
    ·have hle:n-acc.length≤0:=by omega
     rw[kj b acc f _ q hle]at hG;subst hG;cases acc with|nil=>have hlt':¬0<n:=hlt;simp[hlt',r2,wz]|cons w ac=>
      have hlt':¬(ac.length:Int)+1<n:=by simpa using hlt
      have wl':IntKind.u64.wrap ((ac.length:Int)+1)=(ac.length:Int)+1:=by simpa using wl
      simp[hlt',r2,wl']
  ·rintro _ ⟨hz,rfl⟩;have hRo:=hRo hz;obtain⟨q,hq,hqB⟩:=hat hz ha;obtain⟨ws,q',pe⟩:=T;obtain rfl:q'=(q:Int):=hq;have hcut:=wQ b q;have hdl:b.length≤1000000+q:=by omega
   have hdl8:b.length≤100000000+q:=by omega
   have hb1:(∀r∈bytesRow b,r.length=1)=True:=eq_true (aL b);unfold tB at hRo;rw[Int.toNat_natCast]at hRo;by_cases hc:c=0;·rw[if_pos hc]at hRo;subst hRo;cases ws;all_goals
    apply ag;·simp[hc,hcut,hdl8,hqB,hb1,bh];exact⟨rfl,rfl⟩
    simp[hc,bj,si,hi1,hi2,hi3,hi4,bh,bC]
   ·rw[if_neg hc]at hRo;subst hRo;generalize hpd:cS (b.drop q)=D at*;obtain⟨⟨⟨e,p,i,u,h'⟩,ps,vs,sl⟩,de⟩:=D;cases ws;all_goals
     apply ag;·simp[hc,hcut,hdl,hqB,hb1,hpd,bC,b6];exact⟨rfl,rfl⟩
     simp[bj,hi1,hi2,hi3,hi4,b6,bC]
 ·cases h
end Go.Proofs.YtifcndkhigakfaaGreat.Ab
