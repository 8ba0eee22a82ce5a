/- Chapter 18: a state is parsed, by the reference. -/
import Derived.Test.YtifcndkhigakfaaGreatX17
import Derived.ProofKit
import Derived.Below
import Derived.ChangeSame
import Derived.Carry
import Derived.Deep.Slices
import Derived.Deep.Fields
import Derived.Test.YtifcndkhigakfaaGreatRows
set_option linter.unusedVariables false
set_option linter.unusedSimpArgs false
set_option linter.unnecessarySimpa false
set_option maxHeartbeats 40000000
set_option maxRecDepth 100000
namespace Go.Proofs.YtifcndkhigakfaaGreat.Ab
open Go Go.RowKit R
@[simp] noncomputable def Hu:List AV→Option (Prop×AV)|[.pv (.ro b)]=>(dec di b).map fun l=>(l.length≤900,.aS [.agg (aH (vX l).1),.pv (.int .i64 (vX l).2)])|_=>none
def Ya (b:List UInt8) (x:Sc) (p:List UInt8×Int):Sc×Int:=if p.2=0∧p.1=b then(x,0) else(zS,220)
theorem H7 (b:List UInt8):vX b=if(fQ (dn (dB b).1)).2=true then Ya b (fQ (dn (dB b).1)).1 (gS (fQ (dn (dB b).1)).1) else(zS,220):=by
 unfold vX;rw[Dz];split
 ·rename_i h;split at h;·cases h
  ·rename_i h1;rw[if_neg h1]
 ·rename_i x h;split at h;·rename_i h1;cases h;rw[if_pos h1];rfl
  ·cases h
theorem Gd {B:List UInt8} (hb:B.length≤900) (h:(fQ B).2=true):zK (fQ B).1:=by
 have h1:gL B=some (fQ B).1:=by rw[Dz,if_pos h]
 obtain⟨w1,w2,w3,w4,w5,w6,w7⟩:=wC hb h1;exact⟨w3,w4,w5,w6,by omega,fun _=>by rw[w1];omega⟩
theorem C1 (x:Sc) (h:zK x):(gS x).1.length≤66000:=by
 obtain⟨_,_,_,_,_,h⟩:=h;unfold gS at h ⊢;split;·exact Nat.zero_le _
 ·rename_i h1;rw[if_neg h1]at h;have h:=h rfl;have h2:=ss 12 (gv x) h;show(je 12 (gv x)).length≤_;omega
theorem C9:aR Tryz.prog 13 Hu:=by
 intro ys φ r h hφ;unfold Hu at h;split at h
 ·obtain⟨b,hb,h⟩:=Option.map_eq_some_iff.1 h;cases h;cases aE hb;have hl:b.length≤900:=hφ;have l6:b.length≤1000000:=by omega
  obtain⟨a1,a2,a3,_⟩:=oQ b;refine aq (af Uq (af Ng (af Dy aj))) (by kernel_rfl) (by conv=>lhs;reduce) (by simp) ?_;rw[H7];apply ag;·simp;exact⟨rfl,rfl⟩
  apply ag;·simp[l6];exact⟨rfl,rfl⟩
  generalize dB b=A at*;obtain⟨l,g⟩:=A;have a1:l.length≤b.length:=a1;have a2:(dn l).length≤b.length:=a2;have hfl:∀k,(dn (l.take k)).length≤(dn l).length:=fun k=>by
   have:dn l=dn (l.take k)++dn (l.drop k):=by rw[←oS,List.take_append_drop]
   rw[this,List.length_append];omega
  dsimp only;apply ag;·simp;exact⟨rfl,rfl⟩
  refine aO (fun st'=>st'=⟨look [(0,.pv (.ro (bytesRow b))),(2,.ptr 2 0),(3,.pv (.int .i64 0)),(4,.own 15),(6,.own 6),(7,.pv (.int .i64 l.length)),(8,.ak),(9,.ak),(10,.ak),(11,.ak),(12,.ak),(21,.pv (.bool false)),(37,.ak),(52,.ak),(57,.ak),(68,.ak)],ab [(2,.box [.pv (.int .u64 0),.pv (.int .u64 0),.pv (.int .u64 0),.pv (.int .u64 0),.pv (.int .u64 0),.pv (.int .u64 0),.pv (.bool false),.pv .nil,.pv .nil,.pv (.bool false),.pv .nil,.pv .nil]),(15,.arr 64 (dv l)),(6,.arr 5 (bytesRow (dn l)))]⟩) ?_ ?_
  ·apply ag;·simp;exact⟨rfl,rfl⟩
   rw[cp];refine au (fun k:Nat=>k≤l.length) (fun k=>⟨[(0,.pv (.ro (bytesRow b))),(2,.ptr 2 0),(3,.pv (.int .i64 0)),(4,.own 15),(6,.own 6),(7,.pv (.int .i64 (k:Int)))],[(2,.box [.pv (.int .u64 0),.pv (.int .u64 0),.pv (.int .u64 0),.pv (.int .u64 0),.pv (.int .u64 0),.pv (.int .u64 0),.pv (.bool false),.pv .nil,.pv .nil,.pv (.bool false),.pv .nil,.pv .nil]),(15,.arr 64 (dv l)),(6,.arr 5 (bytesRow (dn (l.take k))))]⟩) (fun k=>l.length-k) [] 0 (by simp) ?_ ?_;·simp[bytesRow]
   ·intro k hk;have w2:IntKind.i64.wrap ((k:Int)+1)=(k:Int)+1:=wrap_i64 (by omega);rw[fw];try dsimp only
    by_cases hlt:k<l.length
    ·have r1:=n9 hlt;have htk:dn (l.take (k+1))=dn (l.take k)++l[k].b:=by rw[List.take_succ_eq_append_getElem hlt,oS,tD]
     have h1:=hfl (k+1);rw[htk,List.length_append]at h1;have hbs:bytesRow (dn (l.take k))++bytesRow l[k].b=bytesRow (dn (l.take (k+1))):=by rw[htk,aM]
     simp[hlt,r1,w2,hbs,aw];exact⟨⟨by omega,by omega,D7 _⟩,k+1,by omega,⟨by omega,rfl⟩,by omega⟩
    ·have hke:k=l.length:=by omega
     subst hke;simp
  rintro _ rfl;have hok:=Gd (B:=dn l) (by omega);have hl6:(dn l).length≤1000000:=by omega
  apply ag;·simp[hl6,bj,bC,b6,bh];exact⟨rfl,rfl⟩
  generalize fQ (dn l)=X at*;obtain⟨⟨c,t,⟨⟨e,p,i,u,h'⟩,ps,vs,sl⟩,cs,ws⟩,ok⟩:=X;cases ok with|false=>rw[if_neg (by simp)];refine aO (fun _=>False) ?_ (fun _ h=>h.elim);simp[aH,zS,si]|true=>
   rw[if_pos rfl];have hok:=hok rfl;have hokT:zK ⟨c,t,⟨⟨e,p,i,u,h'⟩,ps,vs,sl⟩,cs,ws⟩=True:=eq_true hok;have hple:=C1 _ hok;apply ag;·simp;exact⟨rfl,rfl⟩
   apply ag;·simp[hokT,bK];exact⟨rfl,rfl⟩
   generalize gS ⟨c,t,⟨⟨e,p,i,u,h'⟩,ps,vs,sl⟩,cs,ws⟩=P at*;obtain⟨pc,pe⟩:=P;unfold Ya;have hple:pc.length≤66000:=hple;by_cases hpe:pe=0;rotate_left;·rw[if_neg (fun h=>hpe h.1)];refine aO (fun _=>False) ?_ (fun _ h=>h.elim);simp[hpe,aH,zS,si]
   subst hpe;by_cases hpl:pc.length=b.length;rotate_left
   ·rw[if_neg (fun h=>hpl (by rw[show pc=b from h.2]))];have hpl':¬(pc.length:Int)=b.length:=by omega
    refine aO (fun _=>False) ?_ (fun _ h=>h.elim);simp[hpl',hpl,aH,zS,si]
   apply ag;·simp[hpl];exact⟨rfl,rfl⟩
   refine aO (fun st'=>pc=b∧st'=⟨look [(0,.pv (.ro (bytesRow b))),(2,.ptr 2 0),(3,.pv (.int .i64 0)),(4,.ak),(6,.ak),(7,.ak),(8,.ptr 8 0),(9,.ak),(10,.own 41),(11,.ak),(12,.pv (.int .i64 b.length)),(21,.ak),(37,.ak),(52,.ak),(57,.pv (.bool false)),(68,.ak)],ab [(2,.box [.pv (.int .u64 0),.pv (.int .u64 0),.pv (.int .u64 0),.pv (.int .u64 0),.pv (.int .u64 0),.pv (.int .u64 0),.pv (.bool false),.pv .nil,.pv .nil,.pv (.bool false),.pv .nil,.pv .nil]),(8,.box [.pv (.int .u64 c),.pv (.int .u64 t),.pv (.int .u64 e),.pv (.int .u64 p),.pv (.int .u64 i),.pv (.int .u64 u),.pv (.bool h'),.own 7000033,.own 8000033,.pv (.bool sl),.own 10000033,.own 11000033]),(7000033,.arr 205 (aF ps)),(8000033,.arr 156 (ba vs)),(10000033,.arr 107 (aW cs)),(11000033,.arr 100 (aF ws)),(41,.arr 5 (bytesRow pc))]⟩) ?_ ?_
   ·apply ag;·simp;exact⟨rfl,rfl⟩
    rw[cp];refine au (fun k:Nat=>k≤b.length∧pc.take k=b.take k) (fun k=>⟨[(0,.pv (.ro (bytesRow b))),(2,.ptr 2 0),(3,.pv (.int .i64 0)),(8,.ptr 8 0),(10,.own 41),(12,.pv (.int .i64 (k:Int)))],[(2,.box [.pv (.int .u64 0),.pv (.int .u64 0),.pv (.int .u64 0),.pv (.int .u64 0),.pv (.int .u64 0),.pv (.int .u64 0),.pv (.bool false),.pv .nil,.pv .nil,.pv (.bool false),.pv .nil,.pv .nil]),(8,.box [.pv (.int .u64 c),.pv (.int .u64 t),.pv (.int .u64 e),.pv (.int .u64 p),.pv (.int .u64 i),.pv (.int .u64 u),.pv (.bool h'),.own 7000033,.own 8000033,.pv (.bool sl),.own 10000033,.own 11000033]),(7000033,.arr 205 (aF ps)),(8000033,.arr 156 (ba vs)),(10000033,.arr 107 (aW cs)),(11000033,.arr 100 (aF ws)),(41,.arr 5 (bytesRow pc))]⟩) (fun k=>b.length-k) [] 0 (by simp) ?_ ?_;·simp
    ·rintro k ⟨hk,ht⟩;have w2:IntKind.i64.wrap ((k:Int)+1)=(k:Int)+1:=wrap_i64 (by omega);rw[fw];try dsimp only
     by_cases hlt:k<b.length
     ·have r1:=R.bytesRow_at hlt;have hlp:k<pc.length:=by omega
      have r2:=R.bytesRow_at hlp;by_cases he:b[k]=pc[k]
      ·have ht2:pc.take (k+1)=b.take (k+1):=by rw[List.take_succ_eq_append_getElem hlt,List.take_succ_eq_append_getElem hlp,ht,he]
       simp[hlt,hlp,r1,r2,w2,he];exact⟨k+1,⟨by omega,ht2⟩,by omega,by omega⟩
      ·have hne:¬pc=b:=fun h=>he (by subst h;rfl);have he':¬(b[k].toNat:Int)=pc[k].toNat:=fun h=>he (UInt8.toNat_inj.1 (by omega));rw[if_neg (fun h=>hne h.2)];simp[hlt,hlp,r1,r2,he,he',aH,zS,si]
     ·have hke:k=b.length:=by omega
      subst hke;have hpb:pc=b:=by rw[List.take_of_length_le (by omega),List.take_of_length_le (by omega)]at ht;exact ht
      simp[hpb]
   rintro _ ⟨rfl,rfl⟩;rw[if_pos ⟨rfl,rfl⟩];simp[aH,bC,b6,bh]
 ·cases h
@[simp] noncomputable def GdS:List AV→Option (Prop×AV)|[.agg ys]=>jr ys fun x=>some (x.d.ps.length≤100000∧x.d.vs.length≤100000∧x.cs.length≤100000∧x.ws.length≤100000,.agg (bj 205 156 107 100 x))|_=>none
theorem Zh:aR Tryz.prog 11 GdS:=by
 intro ys φ r h hφ;unfold GdS at h;split at h
 ·obtain⟨x,rfl,h2⟩:=dy h;clear h;cases h2;obtain⟨c,t,⟨⟨e,p,i,u,h'⟩,ps,vs,sl⟩,cs,ws⟩:=x;obtain⟨h1,h2,h3,h4⟩:=hφ;have h1:ps.length≤100000:=h1;have h2:vs.length≤100000:=h2;have h3:cs.length≤100000:=h3;have h4:ws.length≤100000:=h4;have hi1:(Tryz.prog.info? 107).isSome=true:=by kernel_rfl
  have hi2:(Tryz.prog.info? 100).isSome=true:=by kernel_rfl
  refine aq (af c_dD aj) (by kernel_rfl) (by conv=>lhs;reduce) (by simp) ?_;apply ag;·simp[aH,cellsD,h1,h2];exact⟨rfl,rfl⟩
  apply ag;·simp[cellsD,h1,h2];exact⟨rfl,rfl⟩
  rw[dV];apply ag;·simp;exact⟨rfl,rfl⟩
  rw[cp];refine au (fun k:Nat=>k≤cs.length) (fun k=>⟨[(1,.ptr 1 0),(2,.ptr 2 0),(3,.ptr 3 0),(4,.pv (.int .i64 (k:Int)))],[(1,.box [.pv (.int .u64 c),.pv (.int .u64 t),.pv (.int .u64 e),.pv (.int .u64 p),.pv (.int .u64 i),.pv (.int .u64 u),.pv (.bool h'),.pv (.ro (aF ps)),.pv (.ro (ba vs)),.pv (.bool sl),.pv (.ro (aW cs)),.pv (.ro (aF ws))]),(2,.box [.pv (.int .u64 0),.pv (.int .u64 0),.pv (.int .u64 0),.pv (.int .u64 0),.pv (.int .u64 0),.pv (.int .u64 0),.pv (.bool false),.pv .nil,.pv .nil,.pv (.bool false),.pv .nil,.pv .nil]),(3,.box [.pv (.int .u64 c),.pv (.int .u64 t),.pv (.int .u64 e),.pv (.int .u64 p),.pv (.int .u64 i),.pv (.int .u64 u),.pv (.bool h'),.own 5000013,.own 6000013,.pv (.bool sl),if k=0 then .pv .nil else .own 38,.pv .nil]),(5000013,.arr 205 (aF ps)),(6000013,.arr 156 (ba vs))]++if k=0 then[] else[(38,.arr 107 (aW (cs.take k)))]⟩) (fun k=>cs.length-k) [] 0 (by simp) ?_ ?_;·simp
  ·intro k hk;have w2:IntKind.i64.wrap ((k:Int)+1)=(k:Int)+1:=wrap_i64 (by omega);rw[fw];dsimp only;by_cases hlt:k<cs.length
   ·have r1:=dE hlt;have hap:∀m:List En,aW m++[[PV.str cs[k].n,.int .u64 cs[k].i]]=aW (m++[cs[k]]):=fun m=>by rw[eK];rfl
    have htk:cs.take (k+1)=cs.take k++[cs[k]]:=List.take_succ_eq_append_getElem hlt;by_cases k0:k=0
    ·subst k0;have r0:rowAt (aW cs) 0=[PV.str cs[0].n,.int .u64 cs[0].i]:=by simpa using dE hlt
     have t1:cs.take 1=[cs[0]]:=by simpa using htk
     simp[hlt,r0,aw];refine⟨1,by omega,?_,by omega⟩;simp[t1];exact⟨wrap_i64 (by omega),rfl⟩
    ·simp[w2,hlt,r1,k0,hap,aw];refine⟨⟨by omega,by omega⟩,k+1,by omega,?_,by omega⟩;simp
   ·have hke:k=cs.length:=by omega
    subst hke;rw[List.take_length];by_cases hcs:cs.length=0;all_goals
     simp[hlt,hcs];refine au (fun k:Nat=>k≤ws.length) (fun k=>⟨[(1,.ptr 1 0),(2,.ptr 2 0),(3,.ptr 3 0),(5,.pv (.int .i64 (k:Int)))],[(1,.box [.pv (.int .u64 c),.pv (.int .u64 t),.pv (.int .u64 e),.pv (.int .u64 p),.pv (.int .u64 i),.pv (.int .u64 u),.pv (.bool h'),.pv (.ro (aF ps)),.pv (.ro (ba vs)),.pv (.bool sl),.pv (.ro (aW cs)),.pv (.ro (aF ws))]),(2,.box [.pv (.int .u64 0),.pv (.int .u64 0),.pv (.int .u64 0),.pv (.int .u64 0),.pv (.int .u64 0),.pv (.int .u64 0),.pv (.bool false),.pv .nil,.pv .nil,.pv (.bool false),.pv .nil,.pv .nil]),(3,.box [.pv (.int .u64 c),.pv (.int .u64 t),.pv (.int .u64 e),.pv (.int .u64 p),.pv (.int .u64 i),.pv (.int .u64 u),.pv (.bool h'),.own 5000013,.own 6000013,.pv (.bool sl),if cs.length=0 then .pv .nil else .own 38,if k=0 then .pv .nil else .own 62]),(5000013,.arr 205 (aF ps)),(6000013,.arr 156 (ba vs))]++((if cs.length=0 then[] else[(38,.arr 107 (aW cs))])++if k=0 then[] else[(62,.arr 100 (aF (ws.take k)))])⟩) (fun k=>ws.length-k) [] 0 (by simp) ?_ ?_;·simp[hcs]
     ·intro k hk;have w2:IntKind.i64.wrap ((k:Int)+1)=(k:Int)+1:=wrap_i64 (by omega);rw[fw];dsimp only;by_cases hlt:k<ws.length
      ·have r1:=bM hlt;have hap:∀m:List Pn,aF m++[[PV.int .u64 ws[k].i,.int .u64 ws[k].v,.int .u64 ws[k].u]]=aF (m++[ws[k]]):=fun m=>by rw[eH];rfl
       have htk:ws.take (k+1)=ws.take k++[ws[k]]:=List.take_succ_eq_append_getElem hlt;by_cases k0:k=0
       ·subst k0;have r0:rowAt (aF ws) 0=[PV.int .u64 ws[0].i,.int .u64 ws[0].v,.int .u64 ws[0].u]:=by simpa using bM hlt
        have t1:ws.take 1=[ws[0]]:=by simpa using htk
        simp[hlt,r0,hcs,aw];refine⟨1,by omega,?_,by omega⟩;simp[t1,hcs];exact⟨wrap_i64 (by omega),rfl⟩
       ·simp[w2,hlt,r1,k0,hap,hcs,aw];refine⟨⟨by omega,by omega⟩,k+1,by omega,?_,by omega⟩;simp[hcs]
      ·have hke:k=ws.length:=by omega
       subst hke;by_cases hws:ws.length=0;all_goals simp[hlt,hcs,hws,bj,bC,b6,bh,hi1,hi2]<;>first|exact⟨by rw[List.eq_nil_of_length_eq_zero hcs];rfl,by rw[List.eq_nil_of_length_eq_zero hws];rfl⟩|(rw[List.eq_nil_of_length_eq_zero hcs];rfl)|(rw[List.eq_nil_of_length_eq_zero hws];rfl)
 ·cases h
def yo (x:Sc):Bool:=(x.cs.all fun e=>decide (e.n.length≤100))&&rS x.d&&decide (x.cs.length≤20)&&decide (x.ws.length≤20)
@[simp] noncomputable def Mf:List AV→Option (Prop×AV)|[.agg ys]=>jr ys fun x=>some (x.d.vs.length≤maxLen∧x.cs.length≤maxLen,.pv (.bool (yo x)))|_=>none
theorem Nr:aR Tryz.prog 7 Mf:=by
 intro ys φ r h hφ;unfold Mf at h;split at h
 ·obtain⟨x,rfl,h2⟩:=dy h;clear h;cases h2;obtain⟨c,t,⟨⟨e,p,i,u,h'⟩,ps,vs,sl⟩,cs,ws⟩:=x;obtain⟨hv,hl⟩:=hφ;have hv:vs.length≤maxLen:=hv;have hl:cs.length≤maxLen:=hl;rw[aw]at hl;refine aq (af Ns aj) (by kernel_rfl) (by conv=>lhs;reduce) (by simp) ?_;simp[aH];refine au (fun k:Nat=>k≤cs.length∧∀e∈cs.take k,e.n.length≤100) (fun k=>⟨[(1,.ptr 1 0),(2,.pv (.bool false)),(3,.pv (.int .i64 (k:Int)))],[(1,.box (aH ⟨c,t,⟨⟨e,p,i,u,h'⟩,ps,vs,sl⟩,cs,ws⟩))]⟩) (fun k=>cs.length-k) [] 0 (by simp) ?_ ?_;·simp[aH]
  ·rintro j ⟨hj,ht⟩;by_cases hlt:j<cs.length
   ·have r1:=dE hlt;have w2:IntKind.i64.wrap ((j:Int)+1)=(j:Int)+1:=wrap_i64 (by omega);by_cases h1:(100:Int)<cs[j].n.length
    ·have hf:yo ⟨c,t,⟨⟨e,p,i,u,h'⟩,ps,vs,sl⟩,cs,ws⟩=false:=by
      unfold yo;have:(cs.all fun e=>decide (e.n.length≤100))=false:=by rw[List.all_eq_false];exact⟨cs[j],List.getElem_mem hlt,by simp;omega⟩
      simp[this]
     simp[w2,hlt,r1,h1,hf,aH]
    ·have h1':(cs[j].n.length:Int)≤100:=by omega
     simp[w2,hlt,r1,h1,h1',aH];refine⟨j+1,⟨by omega,fun v hv=>?_⟩,by omega,by omega⟩;rw[List.take_succ_eq_append_getElem hlt,List.mem_append]at hv;rcases hv with hv|hv;·exact ht v hv
     ·simp only[List.mem_singleton]at hv;subst hv;omega
   ·rw[List.take_of_length_le (by omega)]at ht;have hf:yo ⟨c,t,⟨⟨e,p,i,u,h'⟩,ps,vs,sl⟩,cs,ws⟩=(rS ⟨⟨e,p,i,u,h'⟩,ps,vs,sl⟩&&decide (cs.length≤20)&&decide (ws.length≤20)):=by
     unfold yo;have:(cs.all fun e=>decide (e.n.length≤100))=true:=by rw[List.all_eq_true];exact fun v hv=>decide_eq_true (ht v hv)
     simp[this]
    have e1:∀n:Nat,decide ((n:Int)≤20)=decide (n≤20):=fun n=>decide_eq_decide.2 (by omega);cases h2:rS ⟨⟨e,p,i,u,h'⟩,ps,vs,sl⟩ with|false=>simp[hlt,hf,h2,hv,aH,cellsD]|true=>by_cases h3:(cs.length:Int)≤20<;>simp[hlt,hf,h2,h3,hv,←e1,aH,cellsD]
 ·cases h
@[simp] def GSpS (e1 e2 e3 e4:TypeId):List AV→Option (Prop×AV)|[.agg [.pv (.int .u64 c),.pv (.int .u64 t),.pv (.int .u64 e),.pv (.int .u64 p),.pv (.int .u64 i),.pv (.int .u64 u),.pv (.bool h),.fr x ra,.fr y rb,.pv (.bool sl),.fr z rc,.fr w rd]]=>if(x=e1∧y=e2)∧z=e3∧w=e4 then some ((ra.length≤1000000∧rb.length≤1000000∧(∀r∈ra,r.length=3)∧∀r∈rb,r.length=10)∧rc.length≤1000000∧rd.length≤1000000∧(∀r∈rc,r.length=2)∧∀r∈rd,r.length=3,.bZ 0 [.aS []]) else none|_=>none
theorem La {a b:En}:a=b↔a.n=b.n∧a.i=b.i:=by cases a;cases b;simp
theorem LK {a b:Pn}:a=b↔a.i=b.i∧a.v=b.v∧a.u=b.u:=by cases a;cases b;simp
@[simp] noncomputable def GSS:List AV→Option (Prop×AV)|[.agg xs,.agg ys]=>jr xs fun a=>jr ys fun b=>some ((a.d.ps.length≤1000000000∧a.d.vs.length≤1000000000)∧a.cs.length≤1000000000∧a.ws.length≤1000000000,.pv (.bool (decide (a=b))))|_=>none
theorem LP:aR Tryz.prog 15 GSS:=by
 intro ys φ r h hφ;unfold GSS at h;split at h
 ·obtain⟨a,rfl,h1⟩:=dy h;obtain⟨b,rfl,h2⟩:=dy h1;clear h h1;cases h2;obtain⟨c,t,⟨⟨e,p,i,u,h'⟩,ps,vs,sl⟩,cs,ws⟩:=a;obtain⟨c2,t2,⟨⟨e2,p2,i2,u2,h2'⟩,ps2,vs2,sl2⟩,cs2,ws2⟩:=b;obtain⟨⟨l1,l2⟩,l3,l4⟩:=hφ;have l1:ps.length≤1000000000:=l1;have l2:vs.length≤1000000000:=l2;have l3:cs.length≤1000000000:=l3;have l4:ws.length≤1000000000:=l4;refine aq (af Mj aj) (by kernel_rfl) (by conv=>lhs;reduce) (by simp) ?_;apply ag;·simp[aH];exact⟨rfl,rfl⟩
  by_cases hg:(((c=c2∧t=t2)∧(⟨⟨e,p,i,u,h'⟩,ps,vs,sl⟩:Dc)=⟨⟨e2,p2,i2,u2,h2'⟩,ps2,vs2,sl2⟩)∧cs.length=cs2.length)∧ws.length=ws2.length
  ·obtain⟨⟨⟨⟨rfl,rfl⟩,hd⟩,hcl⟩,hwl⟩:=hg;cases hd;have hcl':(cs.length:Int)=cs2.length:=by omega
   have hwl':(ws.length:Int)=ws2.length:=by omega
   rw[dV];apply ag;·simp[l1,l2,hcl',hwl',cellsD];exact⟨rfl,rfl⟩
   apply c8 rfl;rw[A8];rw[dV];apply ag;·simp;exact⟨rfl,rfl⟩
   rw[cp];refine au (fun k:Nat=>k≤cs.length∧cs.take k=cs2.take k) (fun k=>⟨[(2,.ptr 2 0),(3,.ptr 3 0),(4,.pv (.bool false)),(5,.pv (.int .i64 (k:Int)))],[(2,.box (aH ⟨c,t,⟨⟨e,p,i,u,h'⟩,ps,vs,sl⟩,cs,ws⟩)),(3,.box (aH ⟨c,t,⟨⟨e,p,i,u,h'⟩,ps,vs,sl⟩,cs2,ws2⟩))]⟩) (fun k=>cs.length-k) [] 0 (by simp) ?_ ?_;·simp[aH]
   ·rintro k ⟨hk,ht⟩;have w2:IntKind.i64.wrap ((k:Int)+1)=(k:Int)+1:=wrap_i64 (by omega);rw[fw];dsimp only;by_cases hlt:k<cs.length
    ·have r1:=dE hlt;have hlb:k<cs2.length:=by omega
     have r2:=dE hlb;by_cases he:cs[k]=cs2[k];·obtain⟨f1,f2⟩:=La.1 he;simp[w2,hlt,hlb,r1,r2,f1,f2,aH];refine⟨k+1,⟨by omega,?_⟩,by omega,by omega⟩;rw[List.take_succ_eq_append_getElem hlt,List.take_succ_eq_append_getElem hlb,ht,he]
     ·have hn:¬cs=cs2:=fun e=>he (by subst e;rfl);have hf:¬(cs[k].n=cs2[k].n∧cs[k].i=cs2[k].i):=fun h=>he (La.2 h);simp[w2,hlt,hlb,r1,r2,hn,hf,aH]
    ·have hkl:k=cs.length:=by omega
     subst hkl;rw[List.take_length,hcl,List.take_length]at ht;subst ht;simp[hlt,aH];refine au (fun k:Nat=>k≤ws.length∧ws.take k=ws2.take k) (fun k=>⟨[(2,.ptr 2 0),(3,.ptr 3 0),(4,.pv (.bool false)),(6,.pv (.int .i64 (k:Int)))],[(2,.box (aH ⟨c,t,⟨⟨e,p,i,u,h'⟩,ps,vs,sl⟩,cs,ws⟩)),(3,.box (aH ⟨c,t,⟨⟨e,p,i,u,h'⟩,ps,vs,sl⟩,cs,ws2⟩))]⟩) (fun k=>ws.length-k) [] 0 (by simp) ?_ ?_;·simp[aH]
     ·rintro k ⟨hk,ht⟩;have w2:IntKind.i64.wrap ((k:Int)+1)=(k:Int)+1:=wrap_i64 (by omega);rw[fw];dsimp only;by_cases hlt:k<ws.length
      ·have r1:=bM hlt;have hlb:k<ws2.length:=by omega
       have r2:=bM hlb;by_cases he:ws[k]=ws2[k];·obtain⟨f1,f2,f3⟩:=LK.1 he;simp[w2,hlt,hlb,r1,r2,f1,f2,f3,aH];refine⟨k+1,⟨by omega,?_⟩,by omega,by omega⟩;rw[List.take_succ_eq_append_getElem hlt,List.take_succ_eq_append_getElem hlb,ht,he]
       ·have hn:¬ws=ws2:=fun e=>he (by subst e;rfl);have hf:¬(ws[k].i=ws2[k].i∧ws[k].v=ws2[k].v∧ws[k].u=ws2[k].u):=fun h=>he (LK.2 h);simp[w2,hlt,hlb,r1,r2,hn,hf,aH]
      ·have hkl:k=ws.length:=by omega
       subst hkl;rw[List.take_length,hwl,List.take_length]at ht;subst ht;simp[hlt,aH]
  ·have hne:¬((⟨c,t,⟨⟨e,p,i,u,h'⟩,ps,vs,sl⟩,cs,ws⟩:Sc)=⟨c2,t2,⟨⟨e2,p2,i2,u2,h2'⟩,ps2,vs2,sl2⟩,cs2,ws2⟩):=by intro hh;cases hh;exact hg ⟨⟨⟨⟨rfl,rfl⟩,rfl⟩,rfl⟩,rfl⟩
   by_cases g1:c=c2
   ·by_cases g2:t=t2
    ·by_cases g3:(⟨⟨e,p,i,u,h'⟩,ps,vs,sl⟩:Dc)=⟨⟨e2,p2,i2,u2,h2'⟩,ps2,vs2,sl2⟩
     ·cases g3;by_cases g4:cs.length=cs2.length
      ·have g5:¬ws.length=ws2.length:=fun h=>hg ⟨⟨⟨⟨g1,g2⟩,rfl⟩,g4⟩,h⟩;have g4':(cs.length:Int)=cs2.length:=by omega
       have g5':¬(ws.length:Int)=ws2.length:=by omega
       refine aO (fun _=>False) ?_ (fun _ h=>h.elim);apply ag;·simp[g1,g2,g4',g5',l1,l2,cellsD];exact⟨rfl,rfl⟩
       apply cz rfl;simp;simpa using hne
      ·have g4':¬(cs.length:Int)=cs2.length:=by omega
       refine aO (fun _=>False) ?_ (fun _ h=>h.elim);apply ag;·simp[g1,g2,g4',l1,l2,cellsD];exact⟨rfl,rfl⟩
       apply cz rfl;simp;simpa using hne
     ·have g3':=decide_eq_false g3;refine aO (fun _=>False) ?_ (fun _ h=>h.elim);apply ag;·simp[g1,g2,g3',-Dc.mk.injEq,l1,l2,cellsD];exact⟨rfl,rfl⟩
      apply cz rfl;simp;simpa using hne
    ·refine aO (fun _=>False) ?_ (fun _ h=>h.elim);apply ag;·simp[g1,g2];exact⟨rfl,rfl⟩
     apply cz rfl;simp;simpa using hne
   ·refine aO (fun _=>False) ?_ (fun _ h=>h.elim);apply ag;·simp[g1];exact⟨rfl,rfl⟩
    apply cz rfl;simp;simpa using hne
 ·cases h
theorem M3:gS (dL 5)=(r5,0)∧(gv (dL 5)).length≤65535:=by
 have hc:ej (dL 5)=(b5,0):=by unfold ej;rw[if_neg (by simp[dL]),if_pos (by simp[dL])];exact BX
 have hb:gv (dL 5)=[5,0,0]++b5:=by unfold gv;rw[hc];show cI [5,0,0]++([]++b5)=_;rw[Zb];rfl
 refine⟨?_,by rw[hb];simp[b5]⟩;unfold gS;rw[hc,if_neg (by simp[dL,ia]),hb];simp[r5,fT]
@[simp] noncomputable def Ld:List AV→Option (Prop×AV)|[.agg ys]=>jr ys fun x=>some (x=dL 5,.aS [.pv (.ro (bytesRow r5)),.pv (.int .i64 0)])|_=>none
theorem OO:aR Tryz.prog 9 Ld:=by
 intro ys φ r h hφ;unfold Ld at h;split at h
 ·obtain⟨x,rfl,h2⟩:=dy h;clear h;cases h2;have hx:x=dL 5:=hφ;subst hx;obtain⟨p1,p2⟩:=M3;have hG:FM [.agg (aH (dL 5))]=some (zK (dL 5),.aS [.pv (.ro (bytesRow (gS (dL 5)).1)),.pv (.int .i64 (gS (dL 5)).2)]):=by simp[aH,dL]
  rw[p1]at hG;exact F1 _ _ _ hG ⟨⟨qI,by simp[dL],by simp[dL]⟩,by simp[dL,cO],by simp[dL,cO],by simp[dL],by simp[dL],fun _=>p2⟩
 ·cases h
def xG (cs:List En) (r:Rc) (n:Int):List En×Int:=if r.k=9 then gQ cs r.n n else if r.k=8 then(cs,0) else(cs,2)
def zA (r:Rc):Prop:=r.k≠10∧r.k≠11
@[simp] noncomputable def Me:List AV→Option (Prop×AV)|[.aS [y],.agg ys]=>ti ys fun r=>(vz rV y).map fun g=>(g.cs.length≤100000∧zA r,.bZ 0 [.pv (.int .i64 (xG g.cs r g.t).2),rV ⟨g.c,g.t,g.d,(xG g.cs r g.t).1,g.ws⟩])|_=>none
theorem PT:Df Tryz.prog 94 Me:=by
 intro ys φ r h hφ;unfold Me at h;split at h
 ·rename_i y zs;obtain⟨r,rfl,h1⟩:=nI h;clear h;obtain⟨g,hg,h⟩:=Option.map_eq_some_iff.1 h1;clear h1;cases h;cases tm hg;obtain⟨c,t,⟨⟨e,p,i,u,h'⟩,ps,vs,sl⟩,cs,ws⟩:=g;obtain⟨k,rp,ri,rs,re,ru,rv,rc,rz,rm,rn,rt⟩:=r;obtain⟨h5,k10,k11⟩:=hφ;have h5:cs.length≤100000:=h5;have k10:¬k=10:=k10;have k11:¬k=11:=k11;refine yv (af O7 aj) (by kernel_rfl) (by conv=>lhs;reduce) (by simp) rfl (by simp[rV,bj,ju]) ?_;by_cases k9:k=9;·simp[rV,bj,ju,h5,xG,k9,bh]
  ·by_cases k8:k=8<;>simp[rV,bj,ju,h5,xG,k8,k9,k10,k11]
 ·cases h
noncomputable def py (x:Sc) (r:Rc):Sc×Bool:=if fG r=true∧x.t≠Dr then if(ke x.ws (Hh r)).2=true then(⟨x.c,x.t+1,x.d,(xG x.cs r (x.t+1)).1,(ke x.ws (Hh r)).1⟩,decide ((xG x.cs r (x.t+1)).2=0)) else(⟨x.c,x.t,x.d,x.cs,(ke x.ws (Hh r)).1⟩,false) else(x,false)
def xH (x:Sc) (r:Rc):Prop:=cO x.t∧x.ws.length≤100000∧x.cs.length≤100000∧x.d.ps.length≤100000∧x.d.vs.length≤100000∧x.c=0∧zA r
@[simp] noncomputable def KD:List AV→Option (Prop×AV)|[.aS [y],.agg ys,.pv (.int .u64 s)]=>ti ys fun r=>(vz rV y).map fun x=>(xH x r,.bZ 0 [.pv (.bool (py x r).2),rV (py x r).1])|_=>none
theorem NF:Df Tryz.prog 50 KD:=by
 intro ys φ r h hφ;unfold KD at h;split at h
 ·rename_i y zs s;obtain⟨r,rfl,h1⟩:=nI h;clear h;obtain⟨x,hx,h⟩:=Option.map_eq_some_iff.1 h1;clear h1;cases h;cases tm hx;obtain⟨c,t,⟨⟨e,p,i,u,h'⟩,ps,vs,sl⟩,cs,ws⟩:=x;obtain⟨k,rp,ri,rs,re,ru,rv,rc,rz,rm,rn,rt⟩:=r;obtain⟨o1,o2,o3,o5,o6,hc,hk⟩:=hφ;have hc:c=0:=hc;have hk:zA ⟨k,rp,ri,rs,re,ru,rv,rc,rz,rm,rn,rt⟩=True:=eq_true hk;subst hc;have o1:cO t:=o1;have o2:ws.length≤100000:=o2;have o3:cs.length≤100000:=o3;have o2':ws.length≤1000000:=by omega
  refine yv (af J7 (pS (ks:=[2,0]) PW (by kernel_rfl) (pS (ks:=[2,0]) PT (by kernel_rfl) aj))) (by kernel_rfl) (by conv=>lhs;reduce) (by simp) rfl (by simp[rV,bj,ju]) ?_;apply ag;·simp[rV,bj,ju];exact⟨rfl,rfl⟩
  cases hR:fG ⟨k,rp,ri,rs,re,ru,rv,rc,rz,rm,rn,rt⟩ with
  |false=>
   refine aO (fun _=>False) ?_ (fun _ h=>h.elim);apply ag;·simp[hR];exact⟨rfl,rfl⟩
   apply cz rfl;simp[hR,py,rV,bj]|true=>
   by_cases ht:t=18446744073709551615
   ·refine aO (fun _=>False) ?_ (fun _ h=>h.elim);apply ag;·simp[hR,ht];exact⟨rfl,rfl⟩
    apply cz rfl;simp[hR,ht,py,Dr,rV,bj]
   ·have w1:IntKind.u64.wrap (t+1)=t+1:=wrap_u64 (by have:=o1.1;have:=o1.2;omega);have hdo:py ⟨0,t,⟨⟨e,p,i,u,h'⟩,ps,vs,sl⟩,cs,ws⟩ ⟨k,rp,ri,rs,re,ru,rv,rc,rz,rm,rn,rt⟩=if(ke ws ⟨rp,ri,rs⟩).2=true then(⟨0,t+1,⟨⟨e,p,i,u,h'⟩,ps,vs,sl⟩,(xG cs ⟨k,rp,ri,rs,re,ru,rv,rc,rz,rm,rn,rt⟩ (t+1)).1,(ke ws ⟨rp,ri,rs⟩).1⟩,decide ((xG cs ⟨k,rp,ri,rs,re,ru,rv,rc,rz,rm,rn,rt⟩ (t+1)).2=0)) else(⟨0,t,⟨⟨e,p,i,u,h'⟩,ps,vs,sl⟩,cs,(ke ws ⟨rp,ri,rs⟩).1⟩,false):=by unfold py;rw[if_pos ⟨hR,ht⟩];rfl
    rw[hdo];generalize hx:ke ws ⟨rp,ri,rs⟩=x;obtain⟨ws',b⟩:=x;rw[dV];apply ag;·simp[hR,ht,o2',hx,rV,bj];exact⟨rfl,rfl⟩
    cases b with|false=>apply cz rfl;simp[rV,bj]|true=>
     apply c8 rfl;apply ag;·simp[w1];exact⟨rfl,rfl⟩
     generalize hY:xG cs ⟨k,rp,ri,rs,re,ru,rv,rc,rz,rm,rn,rt⟩ (t+1)=y;obtain⟨cs',e1⟩:=y;refine aO (fun _=>False) ?_ (fun _ h=>h.elim);apply ag;·simp;exact⟨rfl,rfl⟩
     apply cz rfl;simp[o3,hk,hY,rV,bj,ju]
 ·cases h
noncomputable def nE (x:Sc) (r:Rc):Sc×Int:=if(py x r).2=true then((py x r).1,0) else(x,220)
@[simp] noncomputable def LZ:List AV→Option (Prop×AV)|[.agg xs,.agg ys,.pv (.int .u64 s)]=>jr xs fun x=>ti ys fun r=>some (xH x r,.aS [.agg (bj 177 132 86 84 (nE x r).1),.pv (.int .i64 (nE x r).2)])|_=>none
theorem MH:aR Tryz.prog 19 LZ:=by
 intro ys φ r h hφ;unfold LZ at h;split at h
 ·rename_i xs zs s;obtain⟨x,rfl,h1⟩:=dy h;obtain⟨r,rfl,h2⟩:=nI h1;clear h h1;cases h2;have hok:xH x r:=hφ;obtain⟨o1,o2,o3,o5,o6,_⟩:=hφ;obtain⟨c,t,⟨⟨e,p,i,u,h'⟩,ps,vs,sl⟩,cs,ws⟩:=x;obtain⟨k,rp,ri,rs,re,ru,rv,rc,rz,rm,rn,rt⟩:=r;have o2:ws.length≤100000:=o2;have o3:cs.length≤100000:=o3;have o5':ps.length≤100000:=o5;have o6:vs.length≤100000:=o6;refine aq (af Nj (pS (ks:=[2,0,0]) NF (by kernel_rfl) aj)) (by kernel_rfl) (by conv=>lhs;reduce) (by simp) ?_;apply ag;·simp[aH,ju];exact⟨rfl,rfl⟩
  apply ag;·simp[o2,o3,o5',o6,bj];exact⟨rfl,rfl⟩
  unfold nE;generalize hx:py ⟨c,t,⟨⟨e,p,i,u,h'⟩,ps,vs,sl⟩,cs,ws⟩ ⟨k,rp,ri,rs,re,ru,rv,rc,rz,rm,rn,rt⟩=q;obtain⟨⟨xc,xt,⟨⟨xe,xp,xi,xu,xh⟩,xps,xvs,xsl⟩,xcs,xws⟩,b⟩:=q;rw[dV];apply ag;·simp[hok,hx,rV,bj,bC,b6,bh];exact⟨rfl,rfl⟩
  cases b with|false=>apply cz rfl;simp[o2,o3,o5',o6,bj,bC,b6,bh]|true=>apply c8 rfl;simp[bj,bC,b6,bh]
 ·cases h
def sA:Sc:=⟨0,1,⟨⟨0,0,0,0,false⟩,[],[],false⟩,[⟨[97],1⟩],[⟨1,1,1⟩]⟩
def sB:Sc:=⟨0,2,⟨⟨0,0,0,0,false⟩,[],[],false⟩,[⟨[97],1⟩,⟨[98],2⟩],[⟨1,1,2⟩]⟩
theorem aA:nE ⟨0,0,⟨⟨0,0,0,0,false⟩,[],[],false⟩,[],[]⟩ ⟨9,1,1,1,0,0,0,0,0,0,[97],[]⟩=(sA,0):=by kernel_rfl
theorem aB:nE sA ⟨9,1,1,2,0,0,0,0,0,0,[98],[]⟩=(sB,0):=by kernel_rfl
theorem aC:nE sB ⟨9,1,1,2,0,0,0,0,0,0,[99],[]⟩=(sB,220):=by kernel_rfl
theorem aD:nE sB ⟨7,1,1,3,0,0,0,0,0,0,[],[]⟩=(sB,220):=by kernel_rfl
theorem qB:CM sB.ws 1 1=(2,true):=by kernel_rfl
theorem oS0:xH ⟨0,0,⟨⟨0,0,0,0,false⟩,[],[],false⟩,[],[]⟩ ⟨9,1,1,1,0,0,0,0,0,0,[97],[]⟩:=by simp[xH,cO,zA]
theorem oSA:xH ⟨0,1,⟨⟨0,0,0,0,false⟩,[],[],false⟩,[⟨[97],1⟩],[⟨1,1,1⟩]⟩ ⟨9,1,1,2,0,0,0,0,0,0,[98],[]⟩:=by simp[xH,cO,zA]
theorem oSB (r:Rc) (h:zA r):xH ⟨0,2,⟨⟨0,0,0,0,false⟩,[],[],false⟩,[⟨[97],1⟩,⟨[98],2⟩],[⟨1,1,2⟩]⟩ r:=by simp[xH,cO,h]
theorem Uo:rowAt (aW [⟨[97],1⟩,⟨[98],2⟩]) 0=[.str [97],.int .u64 1]:=rfl
theorem Uf:rowAt (aW [⟨[97],1⟩,⟨[98],2⟩]) 1=[.str [98],.int .u64 2]:=rfl
theorem f12:dec lD [[.int .u8 12,.ro [[.int .u8 5],[.int .u8 0],[.int .u8 0],[.int .u8 0],[.int .u8 0],[.int .u8 0],[.int .u8 0],[.int .u8 0],[.int .u8 0],[.int .u8 0],[.int .u8 1],[.int .u8 0]]]]=some [⟨12,[5,0,0]++b5⟩]:=by
 have e:[[PV.int .u8 12,.ro [[.int .u8 5],[.int .u8 0],[.int .u8 0],[.int .u8 0],[.int .u8 0],[.int .u8 0],[.int .u8 0],[.int .u8 0],[.int .u8 0],[.int .u8 0],[.int .u8 1],[.int .u8 0]]]]=dv [⟨12,[5,0,0]++b5⟩]:=by kernel_rfl
 rw[e];exact jY _
theorem Pg:(fT [⟨12,[5,0,0,0,0,0,0,0,0,0,1,0]⟩]).length≤1000000000:=by have:=ph 12 [5,0,0,0,0,0,0,0,0,0,1,0] (by decide);simp only[fT,je,ey,List.flatMap_cons,List.flatMap_nil,List.append_nil,List.length_append,List.length_cons,List.length_nil]at this ⊢;omega
@[simp] noncomputable def YE:List AV→Option (Prop×AV)|[]=>some (True,.pv (.bool true))|_=>none
theorem L1:aR Tryz.prog 8 YE:=by
 intro ys φ r h hφ;unfold YE at h;split at h
 ·cases h;have kA:=aA;have kB:=aB;have kC:=aC;have kD:=aD;have kQ:=qB;unfold sA at kA kB;unfold sB at kB kC kD kQ;have kD2:=oSB ⟨7,1,1,3,0,0,0,0,0,0,[],[]⟩ (by simp[zA]);have kC2:=oSB ⟨9,1,1,2,0,0,0,0,0,0,[99],[]⟩ (by simp[zA]);refine aq (af c_Bl (af MH (af aap (af OO (af K6 (af DV aj)))))) (by kernel_rfl) (by conv=>lhs;reduce) (by simp) ?_;apply ag;·simp;exact⟨rfl,rfl⟩
  apply ag;·simp[kA,oS0,bj,fN,bC,b6,bh];exact⟨rfl,rfl⟩
  apply ag;·simp[kB,oSA,bj,fN,bC,b6,bh];exact⟨rfl,rfl⟩
  apply ag;·simp[kC,kC2,bj,fN,bC,b6,bh];exact⟨rfl,rfl⟩
  apply ag;·simp[kD,kD2,bj,fN,bC,b6,bh];exact⟨rfl,rfl⟩
  apply ag;·simp[kQ];exact⟨rfl,rfl⟩
  apply ag;·simp[dL];exact⟨rfl,rfl⟩
  apply ag;·simp[f12,b5];exact⟨rfl,rfl⟩
  apply ag
  ·refine(show cW _ _ _ _ _ from ?_);apply ji 12 rfl rfl;·simp[Uo,Uf,bh];exact⟨rfl,rfl⟩
   apply ji 12 rfl rfl;·simp[Uo,Uf,bh];exact⟨rfl,rfl⟩
   apply ji 10 rfl rfl;·simp[Uo,Uf,bh];exact⟨rfl,rfl⟩
   apply ji 8 rfl rfl;·simp[Uo,Uf,bh];exact⟨rfl,rfl⟩
   apply ji 8 rfl rfl;·simp[Uo,Uf,bh];exact⟨rfl,rfl⟩
   simp[r5,b5];exact⟨Pg,rfl,rfl⟩
  simp;simp[fT]
 ·cases h
theorem tM:∀{l:List Vn},(∀v∈l,pD v∧v.t.length≤100)→(cu l).length≤120*l.length|[],_=>by simp[cu]|n::l,hn=>by have a1:=ff (n:=n.n) ⟨(hn n (by simp)).1.1,(hn n (by simp)).1.2.1⟩;have a0:=(hn n (by simp)).2;have a2:=ed (n:=n.t.length) (by omega);have a3:=tM (l:=l) fun m hm=>hn m (by simp[hm]);unfold cu at a3 ⊢;simp only[List.flatMap_cons,List.length_append,List.length_cons,eN,dq]at a3 ⊢;omega
theorem Kn {d:Dc} (hf:rS d=true) (hV:∀v∈d.vs,pD v) (hP:∀e∈d.ps,fR e) (he:cO d.l.e) (hp:cO d.l.p) (hi:cO d.l.i) (hu:cO d.l.u):qV d:=by
 simp only[rS,Bool.and_eq_true,decide_eq_true_eq,List.all_eq_true]at hf;obtain⟨⟨h1,h2⟩,h3⟩:=hf;have h4:∀v∈d.vs,pD v∧v.t.length≤1000:=fun v hv=>⟨hV v hv,by have:=h1 v hv;omega⟩;refine⟨by omega,fun v hv=>⟨hV v hv,by have:=h1 v hv;omega⟩,by omega,hP,⟨he,hp,hi,hu⟩,?_⟩;have h6:=tM (l:=d.vs) fun v hv=>⟨hV v hv,h1 v hv⟩;unfold cV;split;·have h7:=ff (n:=(d.vs.length:Int)) ⟨by omega,by omega⟩;show(jy d.vs).length≤100000;unfold jy;rw[List.length_append];omega
 ·exact Nat.zero_le _
end Go.Proofs.YtifcndkhigakfaaGreat.Ab
namespace Go.Proofs.YtifcndkhigakfaaGreat.Ab
open Go Go.RowKit Go.WideShapes Go.ChangeShapes
def eX (P:Program):Nat→TypeId→List PV→Prop|0,_,_=>False|n+1,t,row=>match P.underlying t with|some .bool=>∃b,row=[.bool b]|some (.int k)=>∃m,row=[.int k m]∧(Lit.int k m).wf=true|some .string=>∃l,row=[.str l]∧l.length≤maxLen|some (.slice e)=>∃rows,row=[.ro rows]∧rows.length≤maxLen∧∀r∈rows,eX P n e r|some (.struct fs)=>row.length=P.cellsOf t∧∀f∈fs.toList,eX P n f.type ((row.drop f.offset).take (P.cellsOf f.type))|_=>False
def qR (P:Program) (T:Nat):Nat→List Field→Bool|o,[]=>o==T|o,f::fs=>f.offset==o&&qR P T (o+P.cellsOf f.type) fs
def fh (P:Program):Nat→TypeId→Bool|0,_=>false|n+1,t=>match P.underlying t with|some .bool|some (.int _)|some .string=>true|some (.slice e)=>decide (0<P.cellsOf e)&&fh P n e|some (.struct fs)=>qR P (P.cellsOf t) 0 fs.toList&&fs.toList.all fun f=>fh P n f.type|_=>false
section
variable{H:Type}{enc:TypeId×Value→H}{P:Program}{w:World}{base:Nat}{spare:Nat→Bool}{held:Bool}
def nA (w:World) (cs:List Value) (row:List PV):Prop:=∀(i:Nat) (v:Value) (p:PV),cs[i]?=some v→row[i]?=some p→v.oneCell'=true∧da (fun b=>b<w.heap.size) w v p
theorem AY {T:Nat}:∀{fs:List Field}{o:Nat},qR P T o fs=true→o≤T|[],o,h=>by simp only[qR,beq_iff_eq]at h;omega|f::fs,o,h=>by simp only[qR,Bool.and_eq_true,beq_iff_eq]at h;have:=AY h.2;omega
theorem rk {n T:Nat}{cs:List Value} (hT:cs.length=T):∀(fs:List Field) (o:Nat),qR P T o fs=true→(∀f∈fs,∃r:List PV,r.length=((cs.drop f.offset).take (P.cellsOf f.type)).length∧eX P n f.type r∧nA w ((cs.drop f.offset).take (P.cellsOf f.type)) r)→∃row:List PV,row.length=T-o∧(∀f∈fs,o≤f.offset∧eX P n f.type ((row.drop (f.offset-o)).take (P.cellsOf f.type)))∧nA w (cs.drop o) row
 |[],o,h,_=>by simp only[qR,beq_iff_eq]at h;exact⟨[],by simp;omega,fun f hf=>by simp at hf,fun i v p _ hp=>by simp at hp⟩|f::fs,o,h,hf=>by
  simp only[qR,Bool.and_eq_true,beq_iff_eq]at h;obtain⟨h1,h2⟩:=h;have hle:=AY h2;obtain⟨r,hr1,hr2,hr3⟩:=hf f (by simp);obtain⟨row,g1,g2,g3⟩:=rk hT fs _ h2 fun f' hf'=>hf f' (by simp[hf']);have hrl:r.length=P.cellsOf f.type:=by rw[hr1,h1];simp;omega
  refine⟨r++row,by simp[hrl,g1];omega,fun f' hf'=>?_,fun i v p hv hp=>?_⟩
  ·rcases List.mem_cons.1 hf' with rfl|hf';·refine⟨by omega,?_⟩;rw[h1,Nat.sub_self,List.drop_zero,←hrl,List.take_left'];exact hr2;rfl
   ·obtain⟨k1,k2⟩:=g2 f' hf';refine⟨by omega,?_⟩;rw[show f'.offset-o=r.length+(f'.offset-(o+P.cellsOf f.type)) from by omega,List.drop_append,List.drop_eq_nil_of_le (by omega),List.nil_append,Nat.add_sub_cancel_left];exact k2
  ·by_cases hi:i<r.length;·rw[List.getElem?_append_left hi]at hp;refine hr3 i v p ?_ hp;rw[h1,List.getElem?_take,if_pos (by omega)];exact hv
   ·rw[List.getElem?_append_right (by omega)]at hp;refine g3 (i-r.length) v p ?_ hp;rw[List.getElem?_drop]at hv ⊢;rw[←hv];congr 1;omega
theorem Hm:∀(n:Nat) (fuel:Nat) (t:TypeId) (cs:List Value) (x:DataW H×List MemPlace),fh P n t=true→DataW.trod enc P w base spare held fuel t cs=some x→∃row:List PV,row.length=cs.length∧eX P n t row∧nA w cs row:=by intro n;induction n with|zero=>intro fuel t cs x hp;simp[fh]at hp|succ n ih=>
 intro fuel t cs x hp h;have hone:∀(v:Value) (p:PV),cs=[v]→v.oneCell'=true→da (fun b=>b<w.heap.size) w v p→nA w cs [p]:=by rintro v p rfl h1 h2 i v' p' hv hp;cases i with|zero=>simp at hv hp;subst hv hp;exact⟨h1,h2⟩|succ i=>simp at hp
 unfold fh at hp;split at hp;·rename_i hu;cases fuel with|zero=>simp[DataW.trod]at h|succ fuel=>
  simp only[DataW.trod,hu]at h;split at h;all_goals(try(simp_all;done))
  rename_i b hb;exact⟨[.bool b],rfl,by unfold eX;rw[hu];exact⟨b,rfl⟩,hone _ _ rfl rfl (.bool b)⟩
 ·rename_i k hu;cases fuel with|zero=>simp[DataW.trod]at h|succ fuel=>
   simp only[DataW.trod,hu]at h;split at h;all_goals(try(simp_all;done))
   rename_i _ k3 k2 m hk;simp only[Option.some.injEq,TypeDesc.int.injEq]at hk;subst hk;split at h;·rename_i hw;obtain⟨rfl,hw⟩:=hw;exact⟨[.int k2 m],rfl,by unfold eX;rw[hu];exact⟨m,rfl,hw⟩,hone _ _ rfl rfl (.int k2 m)⟩
   ·cases h
 ·rename_i hu;cases fuel with|zero=>simp[DataW.trod]at h|succ fuel=>
   simp only[DataW.trod,hu]at h;split at h;all_goals(try(simp_all;done))
   rename_i s hcs;split at h;·rename_i hs;refine⟨[.str s.data.toList],rfl,by unfold eX;rw[hu];exact⟨_,rfl,by rw[Array.length_toList];exact hs⟩,hone _ _ rfl rfl ?_⟩;have:da (fun b=>b<w.heap.size) w (.string ⟨s.data.toList.toArray⟩) (.str s.data.toList):=.str _;rwa[Array.toArray_toList]at this
   ·cases h
 ·rename_i e hu;simp only[Bool.and_eq_true,decide_eq_true_eq]at hp;obtain⟨hC,hp⟩:=hp;rcases Go.Deep.open_slice hu h with⟨rfl,_⟩|⟨a,len,cap,m,n',D,Pl,rfl,hb,hl,hm,hmm,_,hi⟩;·exact⟨[.ro []],rfl,by unfold eX;rw[hu];exact⟨[],rfl,by simp,fun r hr=>by simp at hr⟩,hone _ _ rfl rfl (.wB none 0)⟩
  ·have hlm:len≤m:=by rw[hmm];split<;>omega
   have hrow:∀i,i<len→∃(cs':List Value) (row:List PV),w.cells? base (a.add (i*P.cellsOf e)) (P.cellsOf e)=some cs'∧row.length=cs'.length∧eX P n e row∧nA w cs' row:=fun i hil=>by obtain⟨cs',hc,ht⟩:=hi i (by omega);obtain⟨row,h1,h2,h3⟩:=ih n' e cs' _ hp ht;exact⟨cs',row,hc,h1,h2,h3⟩
   have hrow':∀i:Nat,∃(cs':List Value) (row:List PV),i<len→w.cells? base (a.add (i*P.cellsOf e)) (P.cellsOf e)=some cs'∧row.length=cs'.length∧eX P n e row∧nA w cs' row:=fun i=>by
    by_cases hil:i<len;·obtain⟨cs',row,h1⟩:=hrow i hil;exact⟨cs',row,fun _=>h1⟩
    ·exact⟨[],[],fun h=>absurd h hil⟩
   let F:Nat→List Value:=fun i=>(hrow' i).choose;let R:Nat→List PV:=fun i=>(hrow' i).choose_spec.choose;have hFR:∀i,i<len→w.cells? base (a.add (i*P.cellsOf e)) (P.cellsOf e)=some (F i)∧(R i).length=(F i).length∧eX P n e (R i)∧nA w (F i) (R i):=fun i hil=>(hrow' i).choose_spec.choose_spec hil;have hRl:∀i,i<len→(R i).length=P.cellsOf e∧∀j,j<P.cellsOf e→w.cell? ((a.add (i*P.cellsOf e)).add j)=(F i)[j]?:=fun i hil=>by obtain⟨h1,h2,_⟩:=hFR i hil;obtain⟨_,h4,h5⟩:=World.cells?_some h1;exact⟨by rw[h2,h4],h5⟩
   have hll:((List.range len).map R).length=len:=by simp
   have hget:∀(i:Nat) (r:List PV),((List.range len).map R)[i]?=some r→i<len∧r=R i:=fun i r hr=>by
    rw[List.getElem?_map,Option.map_eq_some_iff]at hr;obtain⟨k,hk,rfl⟩:=hr;have hil:i<len:=by have:=(List.getElem?_eq_some_iff.1 hk).1;simpa using this
    rw[List.getElem?_range hil]at hk;injection hk with hk;exact⟨hil,by rw[hk]⟩
   refine⟨[.ro ((List.range len).map R)],rfl,?_,hone _ _ rfl rfl ?_⟩;·unfold eX;rw[hu];refine⟨_,rfl,by rw[hll];omega,fun r hr=>?_⟩;obtain⟨i,hi1,rfl⟩:=List.mem_map.1 hr;exact(hFR i (by simpa using hi1)).2.2.1
   ·by_cases hz:len=0;·subst hz;exact .wB _ _
    ·have hS:a.block<w.heap.size:=by
      have h0:=(hRl 0 (by omega)).2 0 hC;obtain⟨h1,h2,h3,_⟩:=hFR 0 (by omega);have hlen:(F 0).length=P.cellsOf e:=(World.cells?_some h1).2.1;rw[List.getElem?_eq_getElem (by omega)]at h0;rw[fI]at h0;rcases Nat.lt_or_ge a.block w.heap.size with h'|h';·exact h'
      ·exfalso;have hbk:=bD a (0*P.cellsOf e+0);unfold World.cell? at h0;rw[hbk,Array.getElem?_eq_none h']at h0;simp at h0
     have key:=da.ro (S:=fun b=>b<w.heap.size) (w:=w) a cap ((List.range len).map R) (P.cellsOf e) (fun i j=>(F i).getD j undef) hS (by rw[hll];exact hl) (fun r hr=>by obtain⟨i,hi1,rfl⟩:=List.mem_map.1 hr;exact(hRl i (by simpa using hi1)).1) (fun i j hi1 hj=>by rw[hll]at hi1;have h5:=(hRl i hi1).2 j hj;rw[fI]at h5;rw[h5];obtain⟨h1,h2,h3,_⟩:=hFR i hi1;have hlen:(F i).length=P.cellsOf e:=(World.cells?_some h1).2.1;rw[List.getD_eq_getElem?_getD,List.getElem?_eq_getElem (by omega)];rfl) (fun i j r p hr hp=>by
      obtain⟨hil,rfl⟩:=hget i r hr;obtain⟨h1,h2,h3,h4⟩:=hFR i hil;have hj:j<(F i).length:=by rw[←h2];exact(List.getElem?_eq_some_iff.1 hp).1
      have hv:(F i)[j]?=some (F i)[j]:=List.getElem?_eq_getElem hj;rw[List.getD_eq_getElem?_getD,hv];exact(h4 j _ p hv hp).1) (fun i j r p hr hp=>by
      obtain⟨hil,rfl⟩:=hget i r hr;obtain⟨h1,h2,h3,h4⟩:=hFR i hil;have hj:j<(F i).length:=by rw[←h2];exact(List.getElem?_eq_some_iff.1 hp).1
      have hv:(F i)[j]?=some (F i)[j]:=List.getElem?_eq_getElem hj;rw[List.getD_eq_getElem?_getD,hv];exact(h4 j _ p hv hp).2);rw[hll]at key;exact key
 ·rename_i fs hu;simp only[Bool.and_eq_true,List.all_eq_true]at hp;obtain⟨ht,hall⟩:=hp;obtain⟨ys,n',hn',hy,hlen,hyl,hf⟩:=DataW.trod_struct hu h;obtain⟨row,g1,g2,g3⟩:=rk (w:=w) (P:=P) (n:=n) hlen fs.toList 0 ht fun f hfm=>by
   obtain⟨j,hj⟩:=List.getElem?_of_mem hfm;have hj':fs[j]?=some f:=by simpa using hj
   have h1:=hf j f hj';have hjl:j<ys.length:=by rw[hyl];exact(Array.getElem?_eq_some_iff.1 hj').1
   rw[List.getElem?_eq_getElem hjl]at h1;exact ih n' f.type _ _ (hall f hfm) h1
  refine⟨row,by rw[g1];omega,?_,by simpa using g3⟩;unfold eX;rw[hu];exact⟨by rw[g1];omega,fun f hfm=>by simpa using(g2 f hfm).2⟩
 ·cases hp
end
def mU (P:Program) (t:TypeId):Bool:=match P.underlying t with|some (.struct _)=>true|_=>false
def CC (P:Program) (t:TypeId) (row:List PV):AV:=if mU P t=true then .agg (row.map .pv) else match row with|[p]=>.pv p|_=>.ak
def mq (P:Program):List TypeId→List (List PV)→List AV|t::ts,r::rs=>CC P t r::mq P ts rs|_,_=>[]
section
variable{H:Type}{enc:TypeId×Value→H}{P:Program}{w:World}
theorem JF {n base b0:Nat}{spare:Nat→Bool}{held:Bool}{r:Reach}{t:TypeId}{v:Value}{d:DataW H}{ps:List MemPlace} (hp:fh P n t=true) (hv:Value.okWide P w r b0 t v) (h:DataW.Trod enc P w base spare held t v d ps) (β:Nat→Value) (D:Nat→Prop):∃row,eX P n t row∧RV P (fun b=>b<w.heap.size) w β D v (CC P t row):=by
 obtain⟨fuel,h⟩:=h;obtain⟨row,h1,h2,h3⟩:=Hm n fuel t _ _ hp h;refine⟨row,h2,?_⟩;have hone:v.cells=#[v]→mU P t=false→RV P (fun b=>b<w.heap.size) w β D v (CC P t row):=by intro hc hs;rw[hc]at h1 h3;match row,h1 with|[p],_=>simp only[CC,hs];exact .pv _ _ (h3 0 v p rfl rfl).2
 cases n with|zero=>simp[fh]at hp|succ n=>
  unfold fh at hp;split at hp;·rename_i hu;obtain⟨b,rfl⟩:=okWide_bool hu hv;exact hone rfl (by simp[mU,hu])
  ·rename_i k hu;obtain⟨m,rfl⟩:=okWide_int hu hv;exact hone rfl (by simp[mU,hu])
  ·rename_i hu;obtain⟨s,rfl⟩:=okWide_string hu hv;exact hone rfl (by simp[mU,hu])
  ·rename_i e hu;obtain⟨a,len,cap,rfl⟩:=okWide_slice hu hv;exact hone rfl (by simp[mU,hu])
  ·rename_i fs hu;obtain⟨cs,rfl,hsz⟩:=okWide_struct hu hv;have hs:mU P t=true:=by simp[mU,hu]
   simp only[CC,hs,if_true];have hcs:(Value.agg cs).cells.toList=cs.toList:=rfl;rw[hcs]at h1 h3;have:=RV.agg (P:=P) (S:=fun b=>b<w.heap.size) (w:=w) (β:=β) (D:=D) (row.map .pv) cs.toList (by simp[h1]) (fun i c u hc hu=>by rw[List.getElem?_map,Option.map_eq_some_iff]at hc;obtain⟨p,hp,rfl⟩:=hc;exact .pv _ _ (h3 i u p hu hp).2);rwa[Array.toArray_toList]at this
  ·cases hp
theorem qC {n base b0:Nat}{spare:Nat→Bool}{held:Bool}{r:Reach} (β:Nat→Value) (D:Nat→Prop):∀(ts:List TypeId) (vs:List Value) (ds:List (DataW H)) (ps:List MemPlace),DataW.TrodAll enc P w base spare held ts vs ds ps→(∀t∈ts,fh P n t=true)→(∀(j:Nat) (t:TypeId) (v:Value),ts[j]?=some t→vs[j]?=some v→Value.okWide P w r b0 t v)→∃rows:List (List PV),rows.length=ts.length∧vs.length=ts.length∧ds.length=ts.length∧(∀(j:Nat) (t:TypeId) (r:List PV),ts[j]?=some t→rows[j]?=some r→eX P n t r)∧(mq P ts rows).length=ts.length∧∀(i:Nat) (v:Value) (y:AV),vs[i]?=some v→(mq P ts rows)[i]?=some y→RV P (fun b=>b<w.heap.size) w β D v y
 |[],[],[],ps,h,_,_=>⟨[],rfl,rfl,rfl,fun j t r h=>by simp at h,rfl,fun i v y h=>by simp at h⟩|t::ts,v::vs,d::ds,ps,h,hp,hv=>by
  obtain⟨p,q,h1,h2,rfl⟩:=h;obtain⟨rows,g1,g2,g3,g4,g5,g6⟩:=qC β D ts vs ds q h2 (fun t ht=>hp t (by simp[ht])) (fun j t v h1 h2=>hv (j+1) t v (by simpa using h1) (by simpa using h2));obtain⟨row,k1,k2⟩:=JF (hp t (by simp)) (hv 0 t v rfl rfl) h1 β D;refine⟨row::rows,by simp[g1],by simp[g2],by simp[g3],fun j t' r ht hr=>?_,by simp[mq,g5],fun i v' y hv' hy=>?_⟩;·cases j with|zero=>simp at ht hr;subst ht hr;exact k1|succ j=>exact g4 j t' r (by simpa using ht) (by simpa using hr)
  ·cases i with|zero=>simp[mq]at hv' hy;subst hv' hy;exact k2|succ i=>exact g6 i v' y (by simpa using hv') (by simpa[mq]using hy)
 |[],[],_::_,_,h,_,_=>h.elim|[],_::_,_,_,h,_,_=>h.elim|_::_,[],_,_,h,_,_=>h.elim|_::_,_::_,[],_,h,_,_=>h.elim
def xB (P:Program) (n:Nat) (f:FuncId) (ts:List TypeId):Prop:=∀rows:List (List PV),rows.length=ts.length→(∀(j:Nat) (t:TypeId) (r:List PV),ts[j]?=some t→rows[j]?=some r→eX P n t r)→u9 P f [] (mq P ts rows) [] (.pv (.bool true))
theorem EX {n b0:Nat}{r:Reach}{f:FuncId}{ts:List TypeId}{vs:List Value}{ds:List (DataW H)}{ps:List MemPlace} (hcon:xB P n f ts) (hA:DataW.TrodAll enc P w 0 (fun _=>true) true ts vs ds ps) (hp:∀t∈ts,fh P n t=true) (hv:∀(j:Nat) (t:TypeId) (v:Value),ts[j]?=some t→vs[j]?=some v→Value.okWide P w r b0 t v):Calls P f vs.toArray w fun e w'=>e=.returned (.bool true)∧Below w.heap.size w w':=by
 obtain⟨rows,g1,g2,g3,g4,g5,g6⟩:=qC (fun _=>.nilIface) (fun _=>False) ts vs ds ps hA hp hv;have hS:∀b,aU (fun b=>b<w.heap.size) w.heap.size (fun _=>.nilIface) (ab []) w b↔b<w.heap.size:=by
  intro b;constructor;·exact fun h=>h.2.1
  ·exact fun h=>⟨.inl h,h,fun⟨t,o,ho,_⟩=>by cases ho⟩
 have hD:aG (ab [])=fun _=>False:=by
  funext t;apply propext;constructor;·rintro⟨o,ho⟩;cases ho
  ·exact False.elim
 refine(hcon rows g1 g4 w (fun b=>b<w.heap.size) (fun _=>.nilIface) vs (fun b h=>h) (fun t b ⟨o,ho⟩=>by cases ho) ⟨(fun t o ho=>by cases ho),(fun t t' b ⟨o,ho⟩=>by cases ho)⟩ (by rw[g2,g5]) (fun i v y h1 h2=>?_)).mono ?_;·rw[hD];exact(g6 i v y h1 h2).mono (fun b hb=>⟨(hS b).2 hb,rfl⟩) (fun t ht=>ht.elim)
 ·rintro e w' ⟨v,β',rfl,hf,_,_,hr⟩;have hvb:v=.bool true:=by have hr:RV P _ w' β' _ v (.pv (.bool true)):=hr;exact hr.eC
  subst hvb;exact⟨rfl,hf.os,hf.tape,hf.output,hf.size,fun k hk=>hf.block k hk fun⟨t,o,ho,_⟩=>by cases ho⟩
theorem na (hl:laidOutB P=true) {W W':World} (hb:Below W.heap.size W W'):∀(ts:List TypeId) (vs:List Value) (ds:List (DataW H)) (ps:List MemPlace),DataW.TrodAll enc P W 0 (fun _=>true) true ts vs ds ps→(∀t∈ts,P.readableRec t=true∧t<P.types.size)→(∀x∈ps,x.block<W.heap.size)→∀sp:Nat→Bool,(∀x∈ps,sp x.block=true)→DataW.TrodAll enc P W' 0 sp true ts vs ds ps|[],[],[],ps,h,_,_,_,_=>h|t::ts,v::vs,d::ds,ps,h,hr,hlt,sp,hsp=>by obtain⟨p,q,h1,h2,rfl⟩:=h;obtain⟨hr1,hr2⟩:=hr t (by simp);exact⟨p,q,WideElems.Trod_stays hl hr1 hr2 h1 (fun x hx=>hb.same (hlt x (by simp[hx]))) (fun x hx=>hsp x (by simp[hx])),na hl hb ts vs ds q h2 (fun t ht=>hr t (by simp[ht])) (fun x hx=>hlt x (by simp[hx])) sp (fun x hx=>hsp x (by simp[hx])),rfl⟩|[],[],_::_,_,h,_,_,_,_=>h.elim|[],_::_,_,_,h,_,_,_,_=>h.elim|_::_,[],_,_,h,_,_,_,_=>h.elim|_::_,_::_,[],_,h,_,_,_,_=>h.elim
theorem vy {f:Func}{s:ChangeSpec}{apart fresh handsOn again:Bool}{W W':World}{args:Array Value}{v:Value}{ds gs:List (DataW H)}{before pa pv:List MemPlace} (hW:DataW.Whole enc P f.params.toList s.vars apart W args.toList ds gs before) (hres:∀(b:Nat) (sp:Nat→Bool) (hd:Bool),DataW.TrodAll enc P W' b sp hd f.resultTypes.toList (v.resultList f.resultTypes.size) (s.fn H (ds++gs)).results []) (hargs:∀sp:Nat→Bool,(∀p∈before,sp p.block=true)→DataW.TrodAll enc P W' 0 sp true f.params.toList args.toList (s.fn H (ds++gs)).args pa) (hvars:∀sp:Nat→Bool,(∀p∈before,sp p.block=true)→DataW.TrodVars enc P W' sp s.vars (s.fn H (ds++gs)).vars pv) (hps:before=pa++pv) (hb:Below W.heap.size W W') (hok:∀(j:Nat) (t:TypeId) (r:Value),f.resultTypes[j]?=some t→(v.resultList f.resultTypes.size)[j]?=some r→Value.okWide P W' .any 0 t r):s.post enc P f apart fresh handsOn again W args v W':=by
 have hlt:∀p∈before,p.block<W.heap.size:=fun p hp=>hW.lt p hp;have hold:∀p∈before,(fun b=>decide (b<W.heap.size)) p.block=true:=fun p hp=>by simpa using hlt p hp
 refine⟨ds,gs,before,[],pa,pv,hW,hres _ _ _,hargs _ hold,hvars _ hold,World.keptBut_mono (fun p hp=>⟨hp,?_⟩) (hb.frame (·∈before)),fun _=>?_⟩;·rw[hps,List.mem_append]at hp;exact Or.inr hp
 ·obtain⟨_,_,_,_,_,hz,hn⟩:=hW;refine⟨hok,_,_,([]++pa)++pv,⟨[]++pa,pv,trodAll_append (hargs _ (fun _ _=>rfl)) (hres _ _ _),hvars _ (fun _ _=>rfl),rfl,?_,?_⟩,?_⟩
  ·intro b off hp;have hin:MemPlace.cell b off∈before:=by rw[hps];simpa using hp
   rw[hb.frozen (hlt _ hin)];exact hz b off hin
  ·intro ha;have:=hn ha;rw[hps]at this;simpa using this
  ·intro p hp _;rw[hps];simpa using hp
theorem Bj {n:Nat}{f:FuncId}{fn:Func}{s:ChangeSpec}{apart fresh handsOn again:Bool}{W:World}{base:Nat}{args:Array Value}{ds gs:List (DataW H)}{before:List MemPlace}{tb:TypeId} (hl:laidOutB P=true) (hcon:xB P n f fn.params.toList) (hpl:∀t∈fn.params.toList,fh P n t=true∧P.readableRec t=true∧t<P.types.size) (hrt:fn.resultTypes=#[tb]) (htb:P.underlying tb=some .bool) (hsv:s.vars=[]) (hspec:∀ds:List (DataW H),ds.length=fn.params.toList.length→s.fn H (ds++[])={results:=[.lit (.bool true)],args:=ds}) (hval:∀(j:Nat) t v,fn.params[j]?=some t→args[j]?=some v→Value.okWide P W .any base t v) (hW:DataW.Whole enc P fn.params.toList s.vars apart W args.toList ds gs before):Calls P f args W fun e W'=>∃v,e=.returned v∧s.post enc P fn apart fresh handsOn again W args v W':=by
 have hW':=hW;obtain⟨p,q,hA,hV,hpq,hfz,hnd⟩:=hW';rw[hsv]at hV;obtain⟨rfl,rfl⟩:gs=[]∧q=[]:=by cases gs with|nil=>exact⟨rfl,hV⟩|cons g gs=>exact hV.elim
 have hval':∀(j:Nat) (t:TypeId) (v:Value),fn.params.toList[j]?=some t→args.toList[j]?=some v→Value.okWide P W .any base t v:=fun j t v h1 h2=>hval j t v (by simpa using h1) (by simpa using h2);obtain⟨rows,_,_,hdl,_⟩:=qC (fun _=>.nilIface) (fun _=>False) _ _ _ _ hA (fun t ht=>(hpl t ht).1) hval';have hsp:=hspec ds hdl;have hc:=EX hcon hA (fun t ht=>(hpl t ht).1) hval';have hargs:args.toList.toArray=args:=by simp
 rw[hargs]at hc;refine hc.mono ?_;rintro e W' ⟨rfl,hb⟩;refine⟨_,rfl,vy (pa:=p) (pv:=[]) hW ?_ ?_ ?_ hpq hb ?_⟩;·intro b sp hd;rw[hsp,hrt];exact trodAll_mk1 ⟨1,by simp[DataW.trod,Value.cells,htb]⟩
 ·intro sp hs;rw[hsp];exact na hl hb _ _ _ _ hA (fun t ht=>(hpl t ht).2) (fun x hx=>hW.lt x (by rw[hpq];simpa using hx)) sp (fun x hx=>hs x (by rw[hpq];simpa using hx))
 ·intro sp hs;rw[hsp,hsv];exact rfl
 ·exact ok_one hrt rfl (okWide_bool_mk htb true)
end
end Go.Proofs.YtifcndkhigakfaaGreat.Ab
namespace Go.Proofs.YtifcndkhigakfaaGreat.Ab
open Go Go.RowKit R
theorem Tryz.own:ownKnob Tryz.prog.godebug=none:=by kernel_rfl
theorem Tryz.laidOut:laidOutB Tryz.prog=true:=by kernel_rfl
theorem sr {n:Nat}{row:List PV} (h:eX Tryz.prog (n+1) 9 row):∃l,row=[.str l]:=by unfold eX at h;rw[Tryz.underlying9]at h;obtain⟨l,h,_⟩:=h;exact⟨l,h⟩
theorem bV {n:Nat}{row:List PV} (h:eX Tryz.prog (n+1) 22 row):∃m,row=[.int .u64 m]∧cO m:=by
 unfold eX at h;rw[Tryz.underlying22]at h;obtain⟨m,rfl,hw⟩:=h;refine⟨m,rfl,?_⟩;have:IntKind.u64.min≤m∧m≤IntKind.u64.max:=by simpa[Lit.wf]using hw
 simp[IntKind.min,IntKind.max,IntKind.signed,IntKind.bits]at this;unfold cO;omega
theorem Ph {n:Nat}{row:List PV} (h:eX Tryz.prog (n+1) 5 row):∃m,row=[.int .u8 m]∧0≤m:=by
 unfold eX at h;rw[Tryz.underlying5]at h;obtain⟨m,rfl,hw⟩:=h;refine⟨m,rfl,?_⟩;have:IntKind.u8.min≤m∧m≤IntKind.u8.max:=by simpa[Lit.wf]using hw
 simp[IntKind.min,IntKind.max,IntKind.signed,IntKind.bits]at this;omega
theorem oo {n:Nat}{row:List PV} (h:eX Tryz.prog (n+1) 4 row):∃b,row=[.bool b]:=by unfold eX at h;rw[Tryz.underlying4]at h;exact h
theorem Iq {n:Nat}{row:List PV} (h:eX Tryz.prog (n+2) 130 row):∃z m,row=[.int .u64 z,.int .u64 m]:=by
 unfold eX at h;rw[Tryz.underlying130]at h;have c0:Tryz.prog.cellsOf 130=2:=by kernel_rfl
 have c1:Tryz.prog.cellsOf 22=1:=by kernel_rfl
 simp only[c0,List.mem_cons,List.not_mem_nil,or_false,forall_eq_or_imp,forall_eq,c1]at h;obtain⟨hl,h1,h2⟩:=h;match row,hl with|[a,b],_=>obtain⟨z,hz,_⟩:=bV h1;obtain⟨m,hm,_⟩:=bV h2;simp at hz hm;subst hz hm;exact⟨z,m,rfl⟩
theorem JG {n:Nat}{row:List PV} (h:eX Tryz.prog (n+2) 177 row):∃e,row=rowP e∧fR e:=by
 unfold eX at h;rw[Tryz.underlying177]at h;have c0:Tryz.prog.cellsOf 177=3:=by kernel_rfl
 have c1:Tryz.prog.cellsOf 22=1:=by kernel_rfl
 simp only[c0,List.mem_cons,List.not_mem_nil,or_false,forall_eq_or_imp,forall_eq,c1]at h;obtain⟨hl,h1,h2,h3⟩:=h;match row,hl with|[a,b,c],_=>obtain⟨k,hk,o1⟩:=bV h1;obtain⟨n,hn,o2⟩:=bV h2;obtain⟨t,ht,o3⟩:=bV h3;simp at hk hn ht;subst hk hn ht;exact⟨⟨k,n,t⟩,rfl,o1,o2,o3⟩
theorem wo {n:Nat}:∀{rows:List (List PV)},(∀r∈rows,eX Tryz.prog (n+2) 177 r)→∃l,rows=aF l∧∀e∈l,fR e
 |[],_=>⟨[],rfl,fun e he=>by cases he⟩|r::rows,h=>by
  obtain⟨c,rfl,hc⟩:=JG (h r (by simp));obtain⟨l,rfl,hl⟩:=wo (rows:=rows) fun r hr=>h r (by simp[hr]);refine⟨c::l,rfl,fun e he=>?_⟩;rcases List.mem_cons.1 he with rfl|he;·exact hc
  ·exact hl e he
theorem IH {n:Nat}{row:List PV} (h:eX Tryz.prog (n+3) 25 row):∃l,row=[.ro (aF l)]∧∀e∈l,fR e:=by unfold eX at h;rw[Tryz.underlying25]at h;obtain⟨rows,rfl,_,h⟩:=h;obtain⟨l,rfl,hl⟩:=wo h;exact⟨l,rfl,hl⟩
theorem HI {n:Nat}{row:List PV} (h:eX Tryz.prog (n+4) 27 row):∃l,row=[.ro (aF l)]∧∀e∈l,fR e:=by
 unfold eX at h;rw[Tryz.underlying27]at h;have c0:Tryz.prog.cellsOf 27=1:=by kernel_rfl
 have c1:Tryz.prog.cellsOf 25=1:=by kernel_rfl
 simp only[c0,List.mem_cons,List.not_mem_nil,or_false,forall_eq,c1]at h;obtain⟨hl,h1⟩:=h;match row,hl with|[a],_=>exact IH h1
theorem Pb {n:Nat}{row:List PV} (h:eX Tryz.prog (n+3) 132 row):∃v,row=dG v∧pD v:=by
 unfold eX at h;rw[Tryz.underlying132]at h;have c0:Tryz.prog.cellsOf 132=10:=by kernel_rfl
 have c1:Tryz.prog.cellsOf 22=1:=by kernel_rfl
 have c2:Tryz.prog.cellsOf 9=1:=by kernel_rfl
 have c3:Tryz.prog.cellsOf 4=1:=by kernel_rfl
 have c4:Tryz.prog.cellsOf 130=2:=by kernel_rfl
 simp only[c0,List.mem_cons,List.not_mem_nil,or_false,forall_eq_or_imp,forall_eq,c1,c2,c3,c4]at h;obtain⟨hl,h1,h2,h3,h4,h5,h6,h7,h8,h9⟩:=h;match row,hl with|[a1,a2,a3,a4,a5,a6,a7,a8,a9,a10],_=>obtain⟨x1,e1,o1⟩:=bV h1;obtain⟨x2,e2,o2⟩:=bV h2;obtain⟨x3,e3,o3⟩:=bV h3;obtain⟨x4,e4,o4⟩:=bV h4;obtain⟨x5,e5,o5⟩:=bV h5;obtain⟨x6,x7,e6⟩:=Iq h6;obtain⟨x8,e8⟩:=sr h7;obtain⟨x9,e9⟩:=oo h8;obtain⟨x10,e10⟩:=oo h9;simp at e1 e2 e3 e4 e5 e6 e8 e9 e10;obtain⟨e6,e7⟩:=e6;subst e1 e2 e3 e4 e5 e6 e7 e8 e9 e10;exact⟨⟨x1,x2,x3,x4,x5,x6,x7,x8,x9,x10⟩,rfl,o1.1,o1.2,o2.1,o2.2⟩
theorem zf {n:Nat}:∀{rows:List (List PV)},(∀r∈rows,eX Tryz.prog (n+3) 132 r)→∃l,rows=ba l∧∀e∈l,pD e
 |[],_=>⟨[],rfl,fun e he=>by cases he⟩|r::rows,h=>by
  obtain⟨c,rfl,hc⟩:=Pb (h r (by simp));obtain⟨l,rfl,hl⟩:=zf (rows:=rows) fun r hr=>h r (by simp[hr]);refine⟨c::l,rfl,fun e he=>?_⟩;rcases List.mem_cons.1 he with rfl|he;·exact hc
  ·exact hl e he
theorem Jv {n:Nat}{row:List PV} (h:eX Tryz.prog (n+4) 29 row):∃l,row=[.ro (ba l)]∧l.length≤maxLen∧∀e∈l,pD e:=by unfold eX at h;rw[Tryz.underlying29]at h;obtain⟨rows,rfl,hm,h⟩:=h;obtain⟨l,rfl,hl⟩:=zf h;exact⟨l,rfl,by simpa using hm,hl⟩
theorem Ef {n:Nat}{row:List PV} (h:eX Tryz.prog (n+2) 24 row):∃l:Ls,row=[.int .u64 l.e,.int .u64 l.p,.int .u64 l.i,.int .u64 l.u,.bool l.h]∧cO l.e∧cO l.p∧cO l.i∧cO l.u:=by
 unfold eX at h;rw[Tryz.underlying24]at h;have c0:Tryz.prog.cellsOf 24=5:=by kernel_rfl
 have c1:Tryz.prog.cellsOf 22=1:=by kernel_rfl
 have c2:Tryz.prog.cellsOf 4=1:=by kernel_rfl
 simp only[c0,List.mem_cons,List.not_mem_nil,or_false,forall_eq_or_imp,forall_eq,c1,c2]at h;obtain⟨hl,h1,h2,h3,h4,h5⟩:=h;match row,hl with|[a,b,c,d,e],_=>obtain⟨x1,e1,o1⟩:=bV h1;obtain⟨x2,e2,o2⟩:=bV h2;obtain⟨x3,e3,o3⟩:=bV h3;obtain⟨x4,e4,o4⟩:=bV h4;obtain⟨x5,e5⟩:=oo h5;simp at e1 e2 e3 e4 e5;subst e1 e2 e3 e4 e5;exact⟨⟨x1,x2,x3,x4,x5⟩,rfl,o1,o2,o3,o4⟩
def Xy (d:Dc):List PV:=[.int .u64 d.l.e,.int .u64 d.l.p,.int .u64 d.l.i,.int .u64 d.l.u,.bool d.l.h,.ro (aF d.ps),.ro (ba d.vs),.bool d.sl]
def VW (d:Dc):Prop:=d.vs.length≤maxLen∧(∀v∈d.vs,pD v)∧(∀e∈d.ps,fR e)∧cO d.l.e∧cO d.l.p∧cO d.l.i∧cO d.l.u
theorem JC {n:Nat}{row:List PV} (h:eX Tryz.prog (n+5) 31 row):∃d,row=Xy d∧VW d:=by
 unfold eX at h;rw[Tryz.underlying31]at h;have c0:Tryz.prog.cellsOf 31=8:=by kernel_rfl
 have c1:Tryz.prog.cellsOf 24=5:=by kernel_rfl
 have c2:Tryz.prog.cellsOf 27=1:=by kernel_rfl
 have c3:Tryz.prog.cellsOf 29=1:=by kernel_rfl
 have c4:Tryz.prog.cellsOf 4=1:=by kernel_rfl
 simp only[c0,List.mem_cons,List.not_mem_nil,or_false,forall_eq_or_imp,forall_eq,c1,c2,c3,c4]at h;obtain⟨hl,h1,h2,h3,h4⟩:=h;match row,hl with|[a1,a2,a3,a4,a5,b,c,d],_=>obtain⟨x1,e1,o1⟩:=Ef h1;obtain⟨x2,e2,o2⟩:=HI h2;obtain⟨x3,e3,o3,o4⟩:=Jv h3;obtain⟨x4,e4⟩:=oo h4;simp at e1 e2 e3 e4;obtain⟨e5,e6,e7,e8,e9⟩:=e1;subst e2 e3 e4 e5 e6 e7 e8 e9;exact⟨⟨x1,x2,x3,x4⟩,rfl,o3,o4,o2,o1⟩
def okRc (r:Rc):Prop:=cO r.p∧cO r.i∧cO r.s∧cO r.e∧cO r.u∧cO r.v∧cO r.c∧cO r.z∧cO r.m
def VS (r:Rc):List PV:=[.int .u8 r.k,.int .u64 r.p,.int .u64 r.i,.int .u64 r.s,.int .u64 r.e,.int .u64 r.u,.int .u64 r.v,.int .u64 r.c,.int .u64 r.z,.int .u64 r.m,.str r.n,.str r.t]
theorem rec_row {n:Nat}{row:List PV} (h:eX Tryz.prog (n+2) 71 row):∃r,row=VS r∧okRc r∧0≤r.k:=by
 unfold eX at h;rw[Tryz.underlying71]at h;have c0:Tryz.prog.cellsOf 71=12:=by kernel_rfl
 have c1:Tryz.prog.cellsOf 22=1:=by kernel_rfl
 have c2:Tryz.prog.cellsOf 5=1:=by kernel_rfl
 have c3:Tryz.prog.cellsOf 9=1:=by kernel_rfl
 simp only[c0,List.mem_cons,List.not_mem_nil,or_false,forall_eq_or_imp,forall_eq,c1,c2,c3]at h;obtain⟨hl,h0,h1,h2,h3,h4,h5,h6,h7,h8,h9,h10,h11⟩:=h;match row,hl with|[a0,a1,a2,a3,a4,a5,a6,a7,a8,a9,a10,a11],_=>obtain⟨x0,e0,o0⟩:=Ph h0;obtain⟨x1,e1,o1⟩:=bV h1;obtain⟨x2,e2,o2⟩:=bV h2;obtain⟨x3,e3,o3⟩:=bV h3;obtain⟨x4,e4,o4⟩:=bV h4;obtain⟨x5,e5,o5⟩:=bV h5;obtain⟨x6,e6,o6⟩:=bV h6;obtain⟨x7,e7,o7⟩:=bV h7;obtain⟨x8,e8,o8⟩:=bV h8;obtain⟨x9,e9,o9⟩:=bV h9;obtain⟨x10,e10⟩:=sr h10;obtain⟨x11,e11⟩:=sr h11;simp at e0 e1 e2 e3 e4 e5 e6 e7 e8 e9 e10 e11;subst e0 e1 e2 e3 e4 e5 e6 e7 e8 e9 e10 e11;exact⟨⟨x0,x1,x2,x3,x4,x5,x6,x7,x8,x9,x10,x11⟩,rfl,⟨o1,o2,o3,o4,o5,o6,o7,o8,o9⟩,o0⟩
theorem P4 {n:Nat}{row:List PV} (h:eX Tryz.prog (n+2) 86 row):∃e,row=fc e∧EM e:=by
 unfold eX at h;rw[Tryz.underlying86]at h;have c0:Tryz.prog.cellsOf 86=2:=by kernel_rfl
 have c1:Tryz.prog.cellsOf 22=1:=by kernel_rfl
 have c2:Tryz.prog.cellsOf 9=1:=by kernel_rfl
 simp only[c0,List.mem_cons,List.not_mem_nil,or_false,forall_eq_or_imp,forall_eq,c1,c2]at h;obtain⟨hl,h1,h2⟩:=h;match row,hl with|[a,b],_=>obtain⟨k,hk⟩:=sr h1;obtain⟨n,hn,o⟩:=bV h2;simp at hk hn;subst hk hn;exact⟨⟨k,n⟩,rfl,o⟩
theorem zh {n:Nat}:∀{rows:List (List PV)},(∀r∈rows,eX Tryz.prog (n+2) 86 r)→∃l,rows=aW l∧∀e∈l,EM e|[],_=>⟨[],rfl,by simp⟩|r::rows,h=>by obtain⟨c,rfl,o⟩:=P4 (h r (by simp));obtain⟨l,rfl,p⟩:=zh (rows:=rows) fun r hr=>h r (by simp[hr]);exact⟨c::l,rfl,by simpa using⟨o,p⟩⟩
theorem Kc {n:Nat}{row:List PV} (h:eX Tryz.prog (n+3) 33 row):∃l,row=[.ro (aW l)]∧l.length≤maxLen∧∀e∈l,EM e:=by unfold eX at h;rw[Tryz.underlying33]at h;obtain⟨rows,rfl,hm,h⟩:=h;obtain⟨l,rfl,p⟩:=zh h;exact⟨l,rfl,by simpa using hm,p⟩
theorem Kk {n:Nat}{row:List PV} (h:eX Tryz.prog (n+2) 84 row):∃e,row=rowP e∧fR e:=by
 unfold eX at h;rw[Tryz.underlying84]at h;have c0:Tryz.prog.cellsOf 84=3:=by kernel_rfl
 have c1:Tryz.prog.cellsOf 22=1:=by kernel_rfl
 simp only[c0,List.mem_cons,List.not_mem_nil,or_false,forall_eq_or_imp,forall_eq,c1]at h;obtain⟨hl,h1,h2,h3⟩:=h;match row,hl with|[a,b,c],_=>obtain⟨k,hk,o1⟩:=bV h1;obtain⟨n,hn,o2⟩:=bV h2;obtain⟨t,ht,o3⟩:=bV h3;simp at hk hn ht;subst hk hn ht;exact⟨⟨k,n,t⟩,rfl,o1,o2,o3⟩
theorem wy {n:Nat}:∀{rows:List (List PV)},(∀r∈rows,eX Tryz.prog (n+2) 84 r)→∃l,rows=aF l∧∀e∈l,fR e|[],_=>⟨[],rfl,by simp⟩|r::rows,h=>by obtain⟨c,rfl,o⟩:=Kk (h r (by simp));obtain⟨l,rfl,p⟩:=wy (rows:=rows) fun r hr=>h r (by simp[hr]);exact⟨c::l,rfl,by simpa using⟨o,p⟩⟩
theorem G5 {n:Nat}{row:List PV} (h:eX Tryz.prog (n+3) 34 row):∃l,row=[.ro (aF l)]∧∀e∈l,fR e:=by unfold eX at h;rw[Tryz.underlying34]at h;obtain⟨rows,rfl,_,h⟩:=h;obtain⟨l,rfl,p⟩:=wy h;exact⟨l,rfl,p⟩
def Gq (x:Sc):List PV:=[.int .u64 x.c,.int .u64 x.t,.int .u64 x.d.l.e,.int .u64 x.d.l.p,.int .u64 x.d.l.i,.int .u64 x.d.l.u,.bool x.d.l.h,.ro (aF x.d.ps),.ro (ba x.d.vs),.bool x.d.sl,.ro (aW x.cs),.ro (aF x.ws)]
def okSt (x:Sc):Prop:=cO x.t∧x.cs.length≤maxLen∧VW x.d
def GU (x:Sc):Prop:=okSt x∧cO x.c∧(∀e∈x.cs,EM e)∧∀w∈x.ws,fR w
theorem JN {n:Nat}{row:List PV} (h:eX Tryz.prog (n+6) 36 row):∃d,row=Gq d∧GU d:=by
 unfold eX at h;rw[Tryz.underlying36]at h;have c0:Tryz.prog.cellsOf 36=12:=by kernel_rfl
 have c1:Tryz.prog.cellsOf 22=1:=by kernel_rfl
 have c2:Tryz.prog.cellsOf 31=8:=by kernel_rfl
 have c3:Tryz.prog.cellsOf 33=1:=by kernel_rfl
 have c4:Tryz.prog.cellsOf 34=1:=by kernel_rfl
 simp only[c0,List.mem_cons,List.not_mem_nil,or_false,forall_eq_or_imp,forall_eq,c1,c2,c3,c4]at h;obtain⟨hl,h1,h2,h3,h4,h5⟩:=h;match row,hl with|[a1,a2,a3,a4,a5,a6,a7,a8,a9,a10,a11,a12],_=>obtain⟨x1,e1,o1⟩:=bV h1;obtain⟨x2,e2,o2⟩:=bV h2;obtain⟨x3,e3,o3⟩:=JC h3;obtain⟨x4,e4,o4,o5⟩:=Kc h4;obtain⟨x5,e5,o6⟩:=G5 h5;simp[Xy]at e1 e2 e3 e4 e5;obtain⟨f1,f2,f3,f4,f5,f6,f7,f8⟩:=e3;subst e1 e2 f1 f2 f3 f4 f5 f6 f7 f8 e4 e5;exact⟨⟨x1,x2,x3,x4,x5⟩,rfl,⟨o2,o4,o3⟩,o1,o5,o6⟩
theorem GX:mU Tryz.prog 36=true:=by unfold mU;rw[Tryz.underlying36]
theorem GZ:fh Tryz.prog 6 36=true:=by kernel_rfl
theorem FV:Tryz.prog.readableRec 36=true:=by kernel_rfl
theorem Hf {x:Sc} (hf:yo x=true) (hx:GU x):zK x:=by
 obtain⟨⟨ot,_,od⟩,oc,oe,ow⟩:=hx;obtain⟨_,oV,oP,o3,o4,o5,o6⟩:=od;simp only[yo,Bool.and_eq_true,decide_eq_true_eq]at hf;obtain⟨⟨⟨f1,f2⟩,f3⟩,f4⟩:=hf;have okp:=Kn f2 oV oP o3 o4 o5 o6;refine⟨⟨okp,by omega,oe⟩,oc,ot,ow,by omega,fun _=>?_⟩;have a1:(cI [x.c,x.t,(x.ws.length:Int)]).length≤10*3:=gR (by
  intro n hn;simp only[List.mem_cons,List.not_mem_nil,or_false]at hn;rcases hn with rfl|rfl|rfl;·exact oc
  ·exact ot
  ·exact⟨by omega,by omega⟩);have a2:=gp ow;have a3:(ej x).1.length≤5000:=by
  unfold ej;split
  ·unfold fV;split;·rename_i hr;have h1:=mS (l:=x.cs) fun e he=>⟨oe e he,tF hr e he⟩;have h2:=kN (n:=(x.cs.length:Int)) ⟨by omega,by omega⟩;show(bd _++eP _).length≤_;rw[List.length_append];omega
   ·exact Nat.zero_le _
  ·split
   ·simp only[rS,Bool.and_eq_true,decide_eq_true_eq,List.all_eq_true]at f2;obtain⟨⟨g1,g2⟩,g3⟩:=f2;have h0:(cV x.d.vs).1.length≤2500:=by
     unfold cV;split;·have h6:=tM (l:=x.d.vs) fun v hv=>⟨oV v hv,g1 v hv⟩;have h7:=ff (n:=(x.d.vs.length:Int)) ⟨by omega,by omega⟩;show(bd _++cu _).length≤_;rw[List.length_append];omega
     ·exact Nat.zero_le _
    have h1:(cI [x.d.l.e,x.d.l.p,x.d.l.i,x.d.l.u,c9 x.d.l.h,c9 x.d.sl]).length≤60:=gR (Bz o3 o4 o5 o6);have h2:=gp oP;have h3:=sX (b:=(cV x.d.vs).1) (by omega);have h4:=ff (n:=(x.d.ps.length:Int)) ⟨by omega,by omega⟩;unfold n5;split;·exact Nat.zero_le _
    ·show(cI [x.d.l.e,x.d.l.p,x.d.l.i,x.d.l.u,c9 x.d.l.h,c9 x.d.sl]++((bd _++bg x.d.ps)++dq (cV x.d.vs).1)).length≤_;rw[List.length_append,List.length_append,List.length_append];omega
   ·exact Nat.zero_le _
 unfold gv;rw[List.length_append,List.length_append];omega
theorem Eo {B:List UInt8}{x:Sc} (h:gL B=some x):(x.d.ps.length≤B.length+1∧x.d.vs.length≤B.length+1)∧x.cs.length≤B.length+1∧x.ws.length≤B.length+1:=by
 unfold gL at h;split at h;·cases h
 split at h;·cases h
 have hw:=gq B (B.length+1) ((aQ B 0 3).1.getD 2 0) (aQ B 0 3).2.1;have hd:∀n,(B.drop n).length≤B.length:=fun n=>by rw[List.length_drop];omega
 unfold ry at h;split at h
 ·split at h;·cases h
  ·cases h;exact⟨⟨Nat.zero_le _,Nat.zero_le _⟩,Nat.le_succ_of_le (Nat.le_trans (EP _) (hd _)),hw⟩
 ·split at h;·cases h
  ·cases h;obtain⟨p1,p2⟩:=uL (B.drop (az B (B.length+1) ((aQ B 0 3).1.getD 2 0) (aQ B 0 3).2.1).2.1.toNat);exact⟨⟨Nat.le_trans p1 (Nat.succ_le_succ (hd _)),Nat.le_succ_of_le (Nat.le_trans p2 (hd _))⟩,Nat.zero_le _,hw⟩
theorem uJ (b:List UInt8):((ie b).1.d.ps.length≤b.length+1∧(ie b).1.d.vs.length≤b.length+1)∧(ie b).1.cs.length≤b.length+1∧(ie b).1.ws.length≤b.length+1:=by
 have hW:=uO b;have z:∀n:Nat,(zS.d.ps.length≤n∧zS.d.vs.length≤n)∧zS.cs.length≤n∧zS.ws.length≤n:=fun n=>⟨⟨Nat.zero_le _,Nat.zero_le _⟩,Nat.zero_le _,Nat.zero_le _⟩;unfold ie;split;·exact z _
 ·split;·exact z _
  ·rename_i x h;split;·obtain⟨⟨h1,h2⟩,h3,h4⟩:=Eo h;exact⟨⟨by dsimp only;omega,by dsimp only;omega⟩,by dsimp only;omega,by dsimp only;omega⟩
   ·exact z _
theorem TL (x:Sc) (b:List UInt8) (hx:GU x):u9 Tryz.prog 3 [] [.agg (aH x),.pv (.ro (bytesRow b))] [] (.pv (.bool true)):=by
 refine aq (af Nr (af L1 (af F1 (af Zh (af Dy (af Hr (af C9 (af DV (af LP aj))))))))) (by kernel_rfl) (by conv=>lhs;reduce) (by simp) ?_;have hps:=fun h=>Hf (x:=x) h hx;have o2:=hx.1.2.1;have o3:=hx.1.2.2.1;obtain⟨c,t,⟨⟨e,p,i,u,h'⟩,ps,vs,sl⟩,cs,ws⟩:=x;have o2:cs.length≤maxLen:=o2;have o3:vs.length≤maxLen:=o3;apply ag;·simp[aH];exact⟨rfl,rfl⟩
 cases hf:yo ⟨c,t,⟨⟨e,p,i,u,h'⟩,ps,vs,sl⟩,cs,ws⟩ with|false=>refine aO (fun _=>False) ?_ (fun _ h=>h.elim);simp[hf,o2,o3]|true=>
  by_cases hl:(700:Int)<b.length;·refine aO (fun _=>False) ?_ (fun _ h=>h.elim);simp[hf,o2,o3,hl]
  have pq:(ps.length≤20∧vs.length≤20)∧cs.length≤20∧ws.length≤20:=by simp only[yo,rS,Bool.and_eq_true,decide_eq_true_eq]at hf;exact⟨⟨hf.1.1.2.1.2,hf.1.1.2.2⟩,hf.1.2,hf.2⟩
  obtain⟨⟨p1,p2⟩,p3,p4⟩:=pq;have l1:ps.length≤100000:=by omega
  have l2:vs.length≤100000:=by omega
  have l3:cs.length≤100000:=by omega
  have l4:ws.length≤100000:=by omega
  have ok:=hps hf;have okT:zK ⟨c,t,⟨⟨e,p,i,u,h'⟩,ps,vs,sl⟩,cs,ws⟩=True:=eq_true ok;have hle:=C1 _ ok;apply ag;·simp[hf,o2,o3,hl];exact⟨rfl,rfl⟩
  apply ag;·simp[okT];exact⟨rfl,rfl⟩
  apply ag;·simp[okT,l1,l2,l3,l4,bj,bK,bC,b6,bh];exact⟨rfl,rfl⟩
  generalize gS ⟨c,t,⟨⟨e,p,i,u,h'⟩,ps,vs,sl⟩,cs,ws⟩=P at*;obtain⟨pb,pe⟩:=P;have hle:pb.length≤66000:=hle;have b1:b.length≤1000000:=by omega
  have b2:b.length≤900:=by omega
  have hxl:=uJ b;have hsame:=tO b2;apply ag;·simp[b1,aH];exact⟨rfl,rfl⟩
  generalize hX:ie b=X at*;obtain⟨⟨yc,yt,⟨⟨ye,yp,yi,yu,yh⟩,yps,yvs,ysl⟩,ycs,yws⟩,yg⟩:=X;obtain⟨⟨x1,x2⟩,x3,x4⟩:=hxl;have x1:yps.length≤b.length+1:=x1;have x2:yvs.length≤b.length+1:=x2;have x3:ycs.length≤b.length+1:=x3;have x4:yws.length≤b.length+1:=x4;apply ag;·simp[b2,←hsame,aH];exact⟨rfl,rfl⟩
  have z1:yps.length≤100000:=by omega
  have z2:yvs.length≤100000:=by omega
  have z3:ycs.length≤100000:=by omega
  have z4:yws.length≤100000:=by omega
  have n1:yps.length≤1000000000:=by omega
  have n2:yvs.length≤1000000000:=by omega
  have n3:ycs.length≤1000000000:=by omega
  have n4:yws.length≤1000000000:=by omega
  have q1:pb.length≤1000000000:=by omega
  simp[z1,z2,z3,z4,n1,n2,n3,n4,q1,bj,bK,bC,b6,bh]
theorem A3 {n:Nat}{row:List PV} (h:eX Tryz.prog (n+1) 5 row):∃c:UInt8,row=[.int .u8 (c.toNat:Int)]:=by
 unfold eX at h;rw[Tryz.underlying5]at h;obtain⟨m,rfl,hw⟩:=h;have hm:0≤m∧m<256:=by
  have:IntKind.u8.min≤m∧m≤IntKind.u8.max:=by simpa[Lit.wf]using hw
  simp[IntKind.min,IntKind.max,IntKind.signed,IntKind.bits]at this;omega
 refine⟨UInt8.ofNat m.toNat,?_⟩;have:(UInt8.ofNat m.toNat).toNat=m.toNat:=by simp;omega
 rw[this];congr 2;omega
theorem s7 {n:Nat}:∀{rows:List (List PV)},(∀r∈rows,eX Tryz.prog (n+1) 5 r)→∃l,rows=bytesRow l|[],_=>⟨[],rfl⟩|r::rows,h=>by obtain⟨c,rfl⟩:=A3 (h r (by simp));obtain⟨l,rfl⟩:=s7 (rows:=rows) fun r hr=>h r (by simp[hr]);exact⟨c::l,rfl⟩
theorem Hn {n:Nat}{row:List PV} (h:eX Tryz.prog (n+2) 37 row):∃l,row=[.ro (bytesRow l)]:=by unfold eX at h;rw[Tryz.underlying37]at h;obtain⟨rows,rfl,_,h⟩:=h;obtain⟨l,rfl⟩:=s7 h;exact⟨l,rfl⟩
theorem T3:mU Tryz.prog 37=false:=by unfold mU;rw[Tryz.underlying37]
theorem P1:fh Tryz.prog 6 37=true:=by kernel_rfl
theorem Z6:Tryz.prog.readableRec 37=true:=by kernel_rfl
end Go.Proofs.YtifcndkhigakfaaGreat.Ab
