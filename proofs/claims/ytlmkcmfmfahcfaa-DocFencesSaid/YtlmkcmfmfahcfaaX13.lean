/- Chapter 15: is a number among some? -/
import Derived.Test.YtlmkcmfmfahcfaaX12
import Derived.WalkKit
set_option linter.unusedVariables false
set_option linter.unusedSimpArgs false
set_option linter.unnecessarySimpa false
set_option maxHeartbeats 40000000
set_option maxRecDepth 100000
namespace Go.Proofs.Ytlmkcmfmfahcfaa.Ab
open Go Go.RowKit R
def rB (n:Int):List PV:=[.int .u64 n]
theorem Bh:∀a b,rB a=rB b→a=b:=by intro a b h;simpa[rB]using h
def j6 (l:List Int):List (List PV):=l.map rB
@[simp] theorem Kw:j6 []=[]:=rfl
@[simp] theorem Dd (l:List Int):(j6 l).length=l.length:=by simp[j6]
theorem BX {l:List Int}{i:Nat} (h:i<l.length):rowAt (j6 l) (i:Int)=[.int .u64 l[i]]:=by simp[rowAt,j6,h,rB]
@[simp] theorem KQ (l:List Int):dec rB (j6 l)=some l:=oI Bh l
theorem gY {rows:List (List PV)}{l:List Int} (h:dec rB rows=some l):rows=j6 l:=oJ h
def zT (l:List Int) (n:Int):Bool:=decide (n∈l)
theorem IC {l:List Int}{n:Int}{i:Nat} (h:i<l.length) (hq:l[i]=n):zT l n=true:=by unfold zT;rw[decide_eq_true_eq,←hq];exact List.getElem_mem h
theorem B8 {l:List Int}{n:Int} (h:∀x∈l,¬x=n):zT l n=false:=by unfold zT;rw[decide_eq_false_iff_not];exact fun hn=>h n hn rfl
def Gz (l:List Int) (n:Int):Int:=if zT l n=true then(l.findIdx (fun x=>decide (x=n)):Int) else-1
theorem HK {l:List Int}{n:Int}{i:Nat} (h:i<l.length) (hq:l[i]=n) (ht:∀x∈l.take i,¬x=n):Gz l n=i:=by
 have hf:l.findIdx (fun x=>decide (x=n))=i:=by
  rw[List.findIdx_eq h];refine⟨by simpa using hq,fun j hj=>?_⟩;have:l[j]∈l.take i:=by rw[List.mem_take_iff_getElem];exact⟨j,by omega,rfl⟩
  simpa using ht _ this
 unfold Gz;rw[IC h hq,if_pos rfl,hf]
theorem BK {l:List Int}{n:Int} (h:∀x∈l,¬x=n):Gz l n=-1:=by unfold Gz;rw[B8 h,if_neg (by simp)]
theorem HW (l:List Int) (n:Int):decide (0≤Gz l n)=zT l n:=by unfold Gz;cases zT l n<;>simp
@[simp] noncomputable def QE:List AV→Option (Prop×AV)|[.pv (.ro a),.pv (.int .u64 n)]=>(dec rB a).map fun l=>(l.length≤1000000000,.pv (.int .i64 (Gz l n)))|_=>none
theorem Qi:cf Try.prog 80 QE:=by
 intro ys φ r h hφ;unfold QE at h;split at h
 ·rename_i ra n;obtain⟨a,ha,h⟩:=Option.map_eq_some_iff.1 h;cases h;cases gY ha;refine aP aq (by kernel_rfl) fn80 (by simp) ?_;unfold body80;simp(config := { maxSteps := 3000000 });refine aD (fun i:Nat=>i≤a.length∧∀x∈a.take i,¬x=n) (fun i=>⟨[(0,.pv (.ro (j6 a))),(1,.pv (.int .u64 n)),(7,.pv (.int .i64 a.length)),(8,.pv (.int .i64 i))],[]⟩) (fun i=>a.length-i) [] 0 (by simp) ?_ ?_;·simp
  ·rintro i ⟨hi,ht⟩;have w2:IntKind.i64.wrap ((i:Int)+1)=(i:Int)+1:=wrap_i64 (by omega);by_cases hlt:i<a.length
   ·have r1:=BX hlt;by_cases hq:a[i]=n;·have hx:=HK hlt hq ht;simp(config := { maxSteps := 3000000 }) [w2,hlt,r1,hq,hx]
    ·have hq':¬n=a[i]:=fun e=>hq e.symm;simp(config := { maxSteps := 3000000 }) [w2,hlt,r1,hq'];refine⟨i+1,⟨by omega,fun x hx=>?_⟩,by omega,by omega⟩;rw[List.take_succ_eq_append_getElem hlt,List.mem_append]at hx;rcases hx with hx|hx;·exact ht x hx
     ·rw[List.mem_singleton]at hx;rw[hx];exact hq
   ·rw[List.take_of_length_le (by omega)]at ht;have hx:=BK ht;simp(config := { maxSteps := 3000000 }) [hlt,hx]
 ·cases h
@[simp] noncomputable def QD:List AV→Option (Prop×AV)|[.pv (.ro a),.pv (.int .u64 n)]=>(dec rB a).map fun l=>(l.length≤1000000000,.pv (.bool (zT l n)))|_=>none
theorem MS:cf Try.prog 72 QD:=by
 intro ys φ r h hφ;unfold QD at h;split at h;·rename_i ra n;obtain⟨a,ha,h⟩:=Option.map_eq_some_iff.1 h;cases h;cases gY ha;have hq:=HW a n;refine aP (ak Qi aq) (by kernel_rfl) fn72 (by simp) ?_;unfold body72;simp(config := { maxSteps := 3000000 }) [hφ,hq]
 ·cases h
def As (ks:List PV) (n:Int):Bool:=ks.any (lA (.int .u64 n))
@[simp] def OM:List AV→Option (Prop×AV)|[.agg [.pv (.int .u64 n),.pv (.int .u64 _),.pv (.int .u64 _),.pv (.int .u64 _),.pv (.int .u64 _),.pv (.int .u64 _),.pv (.int .u64 _),.pv (.str _),.pv (.bool _),.pv (.bool _)],.rp [.mp ks]]=>some ((∀x∈ks,cD x=9),.pv (.bool (!As ks n)))|_=>none
theorem EJ:cf Try.prog 75 OM:=by
 intro ys φ r h hφ;unfold OM at h;split at h;·cases h;refine aP aq (by kernel_rfl) fn75 (by simp) ?_;unfold body75;simp(config := { maxSteps := 3000000 }) [bF];exact⟨hφ,rfl⟩
 ·cases h
theorem yn:fy Try.prog 75=true:=by kernel_rfl
def BL (p:Vn→Bool) (l:List Vn):Int:=if l.findIdx p<l.length then(l.findIdx p:Int) else-1
theorem GH {p:Vn→Bool}{l:List Vn}{i:Nat} (h:i<l.length) (hq:p l[i]=true) (ht:∀v∈l.take i,p v=false):BL p l=i:=by
 have hf:l.findIdx p=i:=by
  rw[List.findIdx_eq h];refine⟨hq,fun j hj=>?_⟩;have:l[j]∈l.take i:=by rw[List.mem_take_iff_getElem];exact⟨j,by omega,rfl⟩
  exact ht _ this
 unfold BL;rw[hf,if_pos h]
theorem vx {p:Vn→Bool}{l:List Vn} (ht:∀v∈l,p v=false):BL p l=-1:=by
 have hf:l.findIdx p=l.length:=by rw[List.findIdx_eq_length];exact ht
 unfold BL;rw[hf,if_neg (by omega)]
theorem De (p:Vn→Bool) (l:List Vn):0≤BL p l↔l.any p=true:=by
 unfold BL;split;·rename_i h;have:=List.findIdx_lt_length.1 h;simp only[List.any_eq_true];exact⟨fun _=>this,fun _=>by omega⟩
 ·rename_i h;rw[List.findIdx_lt_length]at h;simp only[List.any_eq_true];exact⟨fun h'=>by omega,fun h'=>absurd h' h⟩
theorem xw {p:Vn→Bool}{l:List Vn}{k:Nat} (h:BL p l=(k:Int)):k<l.length∧(l.take (k+1)).filter (fun e=>!p e)=l.take k:=by
 unfold BL at h;split at h
 ·rename_i hlt;have hk:l.findIdx p=k:=by omega
  rw[hk]at hlt;refine⟨hlt,?_⟩;obtain⟨h1,h2⟩:=(List.findIdx_eq hlt).1 hk;rw[List.take_succ_eq_append_getElem hlt,List.filter_append];have hf:(l.take k).filter (fun e=>!p e)=l.take k:=by rw[List.filter_eq_self];intro e he;rw[List.mem_take_iff_getElem]at he;obtain⟨j,hj,rfl⟩:=he;have:=h2 j (by omega);simpa using this
  rw[hf];simp[h1]
 ·omega
def kv (ks:List PV) (v:Vn):Bool:=!As ks v.n
@[simp] noncomputable def RG:List AV→Option (Prop×AV)|[.pv (.ro a),.bk f [.rp [.mp ks]]]=>if f=75 then(dec cK a).map fun l=>(l.length≤1000000000∧∀x∈ks,cD x=9,.pv (.int .i64 (BL (kv ks) l))) else none|_=>none
theorem O4:cf Try.prog 58 RG:=by
 intro ys φ r h hφ;unfold RG at h;split at h
 ·rename_i ra f ks;split at h
  ·rename_i hf;subst hf;obtain⟨a,ha,h⟩:=Option.map_eq_some_iff.1 h;cases h;cases aR ha;obtain⟨hφ,hks⟩:=hφ;refine aP (ak EJ aq) (by kernel_rfl) fn58 (by simp) ?_;unfold body58;simp(config := { maxSteps := 3000000 });refine aD (fun i:Nat=>i≤a.length∧∀v∈a.take i,kv ks v=false) (fun i=>⟨[(0,.pv (.ro (aF a))),(1,.bk 75 [.rp [.mp ks]]),(7,.pv (.int .i64 a.length)),(8,.pv (.int .i64 i))],[]⟩) (fun i=>a.length-i) [] 0 (by simp) ?_ ?_;·simp
   ·rintro i ⟨hi,ht⟩;have w2:IntKind.i64.wrap ((i:Int)+1)=(i:Int)+1:=wrap_i64 (by omega);by_cases hlt:i<a.length
    ·have r1:=b6 hlt;have hr:kv ks a[i]=false→∀v∈a.take (i+1),kv ks v=false:=by
      intro h0 e he;rw[List.take_succ_eq_append_getElem hlt,List.mem_append]at he;rcases he with he|he;·exact ht e he
      ·rw[List.mem_singleton]at he;rw[he];exact h0
     simp(config := { maxSteps := 3000000 }) [w2,hlt,r1,yn];refine⟨hks,fun h=>(GH hlt (by simp[kv,h]) ht).symm,fun h=>⟨i+1,⟨by omega,hr (by simp[kv,h])⟩,by omega,by omega⟩⟩
    ·simp(config := { maxSteps := 3000000 }) [hlt];rw[List.take_of_length_le (by omega)]at ht;exact(vx ht).symm
  ·cases h
 ·cases h
theorem mQ (l:List Vn) (i:Nat) (e:Vn):(aF l).set i [.int .u64 e.n,.int .u64 e.b,.int .u64 e.p,.int .u64 e.i,.int .u64 e.s,.int .u64 e.z,.int .u64 e.m,.str e.t,.bool e.inl,.bool e.fO]=aF (l.set i e):=by unfold aF;rw[List.map_set];rfl
def Kl (ks:List PV) (l:List Vn):List Vn:=l.filter fun v=>!kv ks v
@[simp] noncomputable def FN:List AV→Option (Prop×AV)|[.fr e a,.bk f [.rp [.mp ks]]]=>if e=61∧f=75 then(dec cK a).map fun l=>(l.length≤1000000∧∀x∈ks,cD x=9,.fr 61 (aF (Kl ks l))) else none|_=>none
theorem Hs:sU Try.prog 74 FN:=by
 intro ys φ r h hφ;unfold FN at h;split at h
 ·rename_i e ra f ks;split at h
  ·rename_i hef;obtain⟨rfl,rfl⟩:=hef;obtain⟨a,ha,h⟩:=Option.map_eq_some_iff.1 h;cases h;cases aR ha;obtain⟨hl6,hks⟩:=hφ;refine mz (ak O4 (ak EJ aq)) (by kernel_rfl) fn74 (by simp) (by simp[cr,ku,gW]) (by simp) ?_;unfold body74;have hl9:a.length≤1000000000:=by omega
   have isfn3:=yn;by_cases hr:a.any (kv ks)=true
   ·have hw:0≤BL (kv ks) a:=(De _ _).2 hr;obtain⟨k,hk⟩:=Int.eq_ofNat_of_zero_le hw;obtain⟨hkl,hkf⟩:=xw hk;have hne:¬((k:Int)=-1):=by omega
    have w1:IntKind.i64.wrap ((k:Int)+1)=(k:Int)+1:=wrap_i64 (by omega);simp(config := { maxSteps := 3000000 }) [hk,hne,w1,hl9];refine⟨hks,?_⟩;refine aD (fun x:Nat×Nat×List Vn=>x.1<x.2.1∧x.2.1≤a.length∧x.2.2.length=a.length∧x.2.2.take x.1=(a.take x.2.1).filter (fun e=>!kv ks e)∧x.2.2.drop x.2.1=a.drop x.2.1) (fun x=>⟨[(0,.own 998),(1,.bk 75 [.rp [.mp ks]]),(5,.pv (.int .i64 x.1)),(6,.pv (.int .i64 x.2.1))],[(998,.arr 61 (aF x.2.2))]⟩) (fun x=>a.length-x.2.1) [] (k,k+1,a) ?_ ?_ ?_;·exact⟨by simp,by simp;omega,rfl,by simp[hkf],rfl⟩
    ·simp
    ·rintro⟨i,j,b⟩ ⟨h1,h2,h3,h4,h5⟩;dsimp only at h1 h2 h3 h4 h5;have w2:IntKind.i64.wrap ((j:Int)+1)=(j:Int)+1:=wrap_i64 (by omega);have w3:IntKind.i64.wrap ((i:Int)+1)=(i:Int)+1:=wrap_i64 (by omega);by_cases hlt:j<a.length
     ·have hjb:j<b.length:=by omega
      have hib:i<b.length:=by omega
      have hbj:b[j]=a[j]:=by have e1:=List.drop_eq_getElem_cons hjb;have e2:=List.drop_eq_getElem_cons hlt;rw[h5,e2]at e1;injection e1 with e1 _;exact e1.symm
      have r1:=b6 hjb;rw[hbj]at r1;have r2:=b6 hib;have hib':(i:Int)<a.length:=by omega
      have hdrop:∀e,(b.set i e).drop (j+1)=a.drop (j+1):=by
       intro e;rw[List.drop_set_of_lt (by omega)];have e1:(b.drop j).drop 1=(a.drop j).drop 1:=by rw[h5]
       simpa[List.drop_drop]using e1
      by_cases hq:kv ks a[j]=true
      ·have hq':As ks a[j].n=false:=by simpa[kv]using hq
       simp(config := { maxSteps := 3000000 }) [w2,w3,hlt,hjb,r1,r2,h3,hq',mQ,hib',isfn3];refine⟨hks,i,j+1,b,⟨by omega,by omega,h3,?_,?_⟩,⟨⟨rfl,by omega⟩,rfl⟩,by omega⟩;·rw[List.take_succ_eq_append_getElem hlt,List.filter_append,←h4];simp[hq]
       ·have e1:(b.drop j).drop 1=(a.drop j).drop 1:=by rw[h5]
        simpa[List.drop_drop]using e1
      ·have hq0:kv ks a[j]=false:=by simpa using hq
       have hq':As ks a[j].n=true:=by simpa[kv]using hq
       simp(config := { maxSteps := 3000000 }) [w2,w3,hlt,hjb,r1,r2,h3,hq',mQ,hib',isfn3];refine⟨hks,by omega,i+1,j+1,b.set i a[j],⟨by omega,by omega,by simp[h3],?_,hdrop _⟩,⟨⟨by omega,by omega⟩,rfl⟩,by omega⟩;rw[List.take_succ_eq_append_getElem hlt,List.filter_append,←h4,List.take_succ_eq_append_getElem (by simp;omega)];simp[hq0,List.take_set_of_le]
     ·simp(config := { maxSteps := 3000000 }) [hlt,h3];have hja:j=a.length:=by omega
      subst hja;rw[List.take_length]at h4;have h3r:=ng b;refine⟨⟨by omega,h3r⟩,⟨by omega,?_⟩,?_⟩
      ·rintro x (hx|⟨_,rfl⟩|hx);·exact h3r x (List.mem_of_mem_take hx)
       ·rfl
       ·exact h3r x (List.mem_of_mem_drop hx)
      ·rw[List.take_append_of_le_length (by simp;omega),List.take_take,Nat.min_self];unfold Kl;rw[←h4];simp[aF,List.map_take]
   ·have hw:BL (kv ks) a=-1:=by apply vx;have:=hr;simp only[List.any_eq_true,not_exists,not_and]at this;intro e he;simpa using this e he
    have hfil:Kl ks a=a:=by unfold Kl;rw[List.filter_eq_self];intro e he;have:=hr;simp only[List.any_eq_true,not_exists,not_and]at this;simpa using this e he
    simp(config := { maxSteps := 3000000 }) [hw,hfil,hl9];exact hks
  ·cases h
 ·cases h
def jm (c:Int) (aU:List Int) (v:Vn):Vn:={v with fO:=v.fO||(!decide (v.n=c)&&!zT aU v.n)}
def gB (l:List Vn):Int:=((tY l).getD v0).n
def kW (l:List Vn) (aU:List Int):List Vn:=l.map (jm (gB l) aU)
def nI (o:List Vn) (n:Int):Bool:=(List.range o.length).any fun k=>!(zd o k).fO&&(cI o o.length k).any fun w=>decide (w.n=n)
def cA (l:List Vn) (aU:List Int):List Vn:=if aJ l=false then[] else(kW l aU).filter fun v=>nI (kW l aU) v.n
theorem GK (c:Int) (aU:List Int) (v:Vn):(jm c aU v).n=v.n:=rfl
theorem DX {f:Vn→Vn} (hf:∀v,(f v).n=v.n) (l:List Vn) (n:Int):rC (l.map f) n=rC l n:=by
 unfold rC;rw[List.findIdx_map];have:((fun v:Vn=>decide (v.n=n))∘f)=fun v:Vn=>decide (v.n=n):=by funext v;simp[hf]
 rw[this,List.length_map]
theorem Al {f:Vn→Vn} (hf:∀v,(f v).n=v.n) (hb:∀v,bz (f v)=bz v) (l:List Vn):aJ (l.map f)=aJ l:=by
 have key:∀i,i<l.length→iL (l.map f) i=iL l i:=by
  intro i hi;have h1:(l.map f)[i]?=some (f l[i]):=by simp[hi]
  have h2:l[i]?=some l[i]:=List.getElem?_eq_getElem hi;have h3:fZ (l.map f) i=fZ l i:=by unfold fZ;cases i with|zero=>rfl|succ i=>
   have hi':i<l.length:=by omega
   simp[hi',hf]
  unfold iL;rw[h1,h2,h3];simp only[Option.getD_some,hf,hb];rw[←List.map_take,DX hf]
 unfold aJ;rw[List.length_map];have:∀l':List Nat,(∀i∈l',i<l.length)→l'.all (iL (l.map f))=l'.all (iL l):=by intro l';induction l' with|nil=>intro _;rfl|cons x l' ih=>intro h;simp only[List.all_cons];rw[key x (h x (by simp)),ih fun i hi=>h i (by simp[hi])]
 exact this _ fun i hi=>List.mem_range.1 hi
theorem rR (l:List Vn) (aU:List Int):aJ (kW l aU)=aJ l:=Al (f:=jm (gB l) aU) (fun _=>rfl) (fun _=>rfl) l
theorem yQ {l:List Vn} (h:∀v∈l,lg v) (aU:List Int):∀v∈kW l aU,lg v:=by intro v hv;obtain⟨w,hw,rfl⟩:=List.mem_map.1 hv;exact h w hw
theorem vR (l:List Vn) (aU:List Int):(kW l aU).length=l.length:=by simp[kW]
def oS (ns:List Int):List (PV×AV):=ns.map fun n=>(.int .u64 n,.agg [])
def wX (n:Int) (ns:List Int):List Int:=if n∈ns then ns else ns++[n]
theorem vP (n:Int):∀ns:List Int,jj (.int .u64 n) (.agg []) (oS ns)=oS (wX n ns)
 |[]=>by simp[oS,wX,jj]|m::ns=>by
  have ih:=vP n ns;unfold oS at ih ⊢;simp only[List.map_cons,jj,lA];by_cases h:n=m;·subst h;simp[wX]
  ·have h':decide (n=m)=false:=by simpa using h
   simp only[h',Bool.false_eq_true,if_false,ih];unfold wX;by_cases hn:n∈ns;·simp[hn]
   ·simp[hn,h]
theorem zx (ns:List Int):gX 9 (oS ns):=by intro e he;obtain⟨n,_,rfl⟩:=List.mem_map.1 he;rfl
theorem zO (ns:List Int):(oS ns).all (fun e=>yl e.2)=true:=by rw[List.all_eq_true];intro e he;obtain⟨n,_,rfl⟩:=List.mem_map.1 he;rfl
def sJ (ns:List Int):List PV:=ns.map (.int .u64)
theorem B5 (ns:List Int):(oS ns).map (·.1)=sJ ns:=by simp[oS,sJ]
theorem Aq (ns:List Int):∀x∈sJ ns,cD x=9:=by intro x hx;obtain⟨n,_,rfl⟩:=List.mem_map.1 hx;rfl
theorem zz (ns:List Int) (n:Int):As (sJ ns) n=decide (n∈ns):=by unfold As sJ;induction ns with|nil=>simp|cons m ns ih=>simp only[List.map_cons,List.any_cons,ih,lA,List.mem_cons];by_cases h:n=m<;>simp[h]
theorem BJ (m n:Int) (ns:List Int):m∈wX n ns↔m=n∨m∈ns:=by
 unfold wX;split;·rename_i h;exact⟨.inr,fun h'=>h'.elim (fun e=>e▸h) id⟩
 ·simp only[List.mem_append,List.mem_singleton];exact⟨fun h=>h.elim .inr .inl,fun h=>h.elim .inr .inl⟩
def mh (o:List Vn) (v:Vn):List Int:=(dK o v.n).1.map (·.n)
theorem vN {o:List Vn} (hr:aJ o=true) (n:Int):nI o n=true↔∃v∈aO o,n∈mh o v:=by
 unfold nI;simp only[List.any_eq_true,List.mem_range,Bool.and_eq_true,Bool.not_eq_true',decide_eq_true_eq];constructor
 ·rintro⟨k,hk,hh,w,hw,hn⟩;rw[eG hk]at hh;have hs:o[k]∈aO o:=by unfold aO;simp[hh]
  refine⟨o[k],hs,?_⟩;have hg:∃v,dw o o[k].n=some v:=by unfold dw;cases hf:(aO o).find? fun v=>decide (v.n=o[k].n) with|some v=>exact⟨v,rfl⟩|none=>rw[List.find?_eq_none]at hf;exact absurd (decide_eq_true rfl) (hf _ hs)
  obtain⟨v,hg⟩:=hg;obtain⟨i,hi,hv,hvn⟩:=get_at hg;have hp:dK o o[k].n=(cI o o.length k,0):=by simp only[dK,hr,hg];rw[if_neg (by simp),hvn,oD hr hk,Int.toNat_natCast]
  unfold mh;rw[hp];exact List.mem_map.2 ⟨w,hw,hn⟩
 ·rintro⟨v,hv,hn⟩;have hv':v∈o∧v.fO=false:=by unfold aO at hv;simpa using hv
  obtain⟨k,hk,rfl⟩:=List.getElem_of_mem hv'.1;have hg:∃v,dw o o[k].n=some v:=by unfold dw;cases hf:(aO o).find? fun v=>decide (v.n=o[k].n) with|some v=>exact⟨v,rfl⟩|none=>rw[List.find?_eq_none]at hf;exact absurd (decide_eq_true rfl) (hf _ hv)
  obtain⟨v,hg⟩:=hg;obtain⟨i,hi,hv1,hvn⟩:=get_at hg;have hp:dK o o[k].n=(cI o o.length k,0):=by simp only[dK,hr,hg];rw[if_neg (by simp),hvn,oD hr hk,Int.toNat_natCast]
  unfold mh at hn;rw[hp]at hn;obtain⟨w,hw,hwn⟩:=List.mem_map.1 hn;exact⟨k,hk,by rw[eG hk];exact hv'.2,w,hw,hwn⟩
theorem zn {o:List Vn} (n:Int):(dK o n).1.length≤o.length+1:=by
 unfold dK;split;·simp
 ·split;·simp
  ·exact sf _ _
def lC (f:Vn→Vn) (a:List Vn) (i:Nat):List Vn:=(a.take i).map f++a.drop i
theorem vF (f:Vn→Vn) (a:List Vn) (i:Nat):(lC f a i).length=a.length:=by simp[lC];omega
theorem Bb (f:Vn→Vn) {a:List Vn}{i:Nat} (h:i<a.length):(lC f a i).set i (f a[i])=lC f a (i+1):=by unfold lC;rw[List.set_append,if_neg (by simp;omega)];simp only[List.length_map,List.length_take];rw[Nat.min_eq_left (show i≤a.length by omega),Nat.sub_self,List.drop_eq_getElem_cons h,List.set_cons_zero,List.take_succ_eq_append_getElem h,List.map_append];simp only[List.map_cons,List.map_nil,List.append_assoc,List.cons_append,List.nil_append]
theorem DZ (f:Vn→Vn) {a:List Vn}{i:Nat} (h:i<a.length):(lC f a i)[i]'(by rw[vF];exact h)=a[i]:=by unfold lC;rw[List.getElem_append_right (by simp;omega)];simp only[List.length_map,List.length_take,Nat.min_eq_left (show i≤a.length by omega),Nat.sub_self];simp
@[simp] noncomputable def yU (e:TypeId):List AV→Option (Prop×AV)|[.pv (.ro a),.pv (.ro k)]=>(dec cK a).bind fun l=>(dec rB k).map fun ks=>(l.length≤100000∧ks.length≤1000000∧(∀v∈l,lg v),.fr e (aF (cA l ks)))|_=>none
theorem BU:cf Try.prog 56 (yU 61):=by
 intro ys φ r h hφ;unfold yU at h;split at h
 ·rename_i ra rk;obtain⟨a,ha,h⟩:=Option.bind_eq_some_iff.1 h;obtain⟨ks,hk,h⟩:=Option.map_eq_some_iff.1 h;cases h;cases aR ha;cases gY hk;obtain⟨hl5,hk6,hov⟩:=hφ;have hl9:a.length≤1000000000:=by omega
  have hl6:a.length≤1000000:=by omega
  have hk9:ks.length≤1000000000:=by omega
  have fl:∀l,bE (aF l):=aV;refine aP (ak H9 (ak Cp (ak Vi (ak MS (ak ph (ak Ix (ij (p:=0) (k:=998) Hs (by kernel_rfl) aq))))))) (by kernel_rfl) fn56 (by simp) ?_;unfold body56;cases hr:aJ a with
  |false=>
   have hp:cA a ks=[]:=by simp[cA,hr]
   simp(config := { maxSteps := 3000000 }) [hl9,hr,hp]|true=>
  have hp:cA a ks=(kW a ks).filter fun v=>nI (kW a ks) v.n:=by simp[cA,hr]
  rw[hp];have hrO:=(rR a ks).trans hr;have hovO:=yQ hov ks;have hlO:=vR a ks;have hO:kW a ks=a.map (jm (gB a) ks):=rfl;have hcur:((tY a).getD v0).n=gB a:=rfl;generalize kW a ks=O at hrO hovO hlO hO;generalize hcc:(tY a).getD v0=cc at hcur;simp(config := { maxSteps := 3000000 }) [hl9,hl6,hr,hcc,bR];refine aD (fun i:Nat=>i≤a.length) (fun i=>⟨[(1,.pv (.ro (j6 ks))),(5,.own 21),(6,.ptr 6 0),(27,.own 21),(28,.pv (.int .i64 a.length)),(29,.pv (.int .i64 i))],[(21,.arr 61 (aF (lC (jm (gB a) ks) a i))),(6,.box (bR cc))]⟩) (fun i=>a.length-i) [] 0 (by simp) ?_ ?_;·simp[lC,bR]
  ·rintro i hi;have w2:IntKind.i64.wrap ((i:Int)+1)=(i:Int)+1:=wrap_i64 (by omega);have hml:=vF (jm (gB a) ks) a i;by_cases hlt:i<a.length
   ·have r1:=b6 (l:=lC (jm (gB a) ks) a i) (i:=i) (by omega);rw[DZ _ hlt]at r1;have hst:=Bb (jm (gB a) ks) hlt;have hrs:=fun e=>mQ (lC (jm (gB a) ks) a i) i e;have hfin:∀b,b=(jm (gB a) ks a[i]).fO→(aF (lC (jm (gB a) ks) a i)).set i [.int .u64 a[i].n,.int .u64 a[i].b,.int .u64 a[i].p,.int .u64 a[i].i,.int .u64 a[i].s,.int .u64 a[i].z,.int .u64 a[i].m,.str a[i].t,.bool a[i].inl,.bool b]=aF (lC (jm (gB a) ks) a (i+1)):=by intro b hb;rw[←hst,←hrs];subst hb;rfl
    have hhid:(jm (gB a) ks a[i]).fO=(a[i].fO||(!decide (a[i].n=gB a)&&!zT ks a[i].n)):=rfl;cases hh:a[i].fO with|true=>rw[hh]at r1 hhid;simp(config := { maxSteps := 3000000 }) [w2,hlt,hml,r1,bR];exact⟨i+1,by omega,⟨by omega,hfin _ (by rw[hhid];rfl)⟩,by omega⟩|false=>
     rw[hh]at r1 hhid;by_cases hn:a[i].n=gB a;·simp(config := { maxSteps := 3000000 }) [w2,hlt,hml,r1,bR,hcur,hn];refine⟨i+1,by omega,⟨by omega,?_⟩,by omega⟩;rw[←hfin false (by rw[hhid];simp[hn]),hn]
     ·simp(config := { maxSteps := 3000000 }) [w2,hlt,hml,r1,bR,hcur,hn];exact⟨hk9,i+1,by omega,⟨by omega,hfin _ (by rw[hhid];simp[hn])⟩,by omega⟩
   ·have hie:i=a.length:=by omega
    subst hie;have hmx:lC (jm (gB a) ks) a a.length=O:=by rw[hO];unfold lC;simp
    rw[hmx];have hm1:(Value.map none).oneCell'=true:=rfl;have hm2:cv (Value.map none)=.pv (.val (.map none)):=rfl;have hlO6:O.length≤1000000:=by omega
    simp(config := { maxSteps := 3000000 }) [bR,hm1,hm2,hlO6,fl];have hs6:(aO O).length≤1000000:=Nat.le_trans (List.length_filter_le _ _) hlO6;have hO5:O.length≤100000:=by omega
    refine aD (fun x:Nat×List Int=>x.1≤(aO O).length∧∀n,n∈x.2↔∃v∈(aO O).take x.1,n∈mh O v) (fun x=>⟨[(5,.own 21),(10,.ptr 10 0),(57,.own 57),(58,.pv (.int .i64 (aO O).length)),(59,.pv (.int .i64 x.1))],[(57,.arr 61 (aF (aO O))),(10,.box [.own 55]),(55,.map (oS x.2)),(21,.arr 61 (aF O))]⟩) (fun x=>(aO O).length-x.1) [] (0,[]) ?_ ?_ ?_;·exact⟨by simp,by simp⟩
    ·simp[oS]
    ·rintro⟨j,ns⟩ ⟨hj,hns⟩;dsimp only at hj hns;have w4:IntKind.i64.wrap ((j:Int)+1)=(j:Int)+1:=wrap_i64 (by omega);by_cases hjl:j<(aO O).length
     ·have r2:=b6 hjl;have hpl:=zn (o:=O) (aO O)[j].n;have hpN:mh O (aO O)[j]=(dK O (aO O)[j].n).1.map (fun v:Vn=>v.n):=rfl;have hnext:∀ns':List Int,(∀n:Int,n∈ns'↔n∈ns∨n∈mh O (aO O)[j])→∀n:Int,n∈ns'↔∃v∈(aO O).take (j+1),n∈mh O v:=by
       intro ns' hn' n;rw[hn',hns,List.take_succ_eq_append_getElem hjl];constructor
       ·rintro(⟨v,hv,hm⟩|hm);·exact⟨v,List.mem_append.2 (.inl hv),hm⟩
        ·exact⟨_,List.mem_append.2 (.inr (List.mem_singleton.2 rfl)),hm⟩
       ·rintro⟨v,hv,hm⟩;rw[List.mem_append,List.mem_singleton]at hv;rcases hv with hv|rfl;·exact .inl ⟨v,hv,hm⟩
        ·exact .inr hm
      simp(config := { maxSteps := 3000000 }) [w4,hjl,r2,fl,hO5,hovO];generalize hW:(dK O (aO O)[j].n).1=W at hpl hpN;refine⟨hovO,?_⟩;refine aD (fun x:Nat×List Int=>x.1≤W.length∧∀n,n∈x.2↔n∈ns∨n∈(W.take x.1).map (fun v:Vn=>v.n)) (fun x=>⟨[(5,.own 21),(10,.ptr 10 0),(57,.own 57),(58,.pv (.int .i64 (aO O).length)),(59,.pv (.int .i64 j)),(70,.own 67),(71,.pv (.int .i64 W.length)),(72,.pv (.int .i64 x.1))],[(67,.arr 61 (aF W)),(57,.arr 61 (aF (aO O))),(10,.box [.own 55]),(55,.map (oS x.2)),(21,.arr 61 (aF O))]⟩) (fun x=>W.length-x.1) [] (0,ns) ?_ ?_ ?_;·exact⟨by simp,by simp⟩
      ·simp
      ·rintro⟨k,ms⟩ ⟨hk',hms⟩;dsimp only at hk' hms;have w5:IntKind.i64.wrap ((k:Int)+1)=(k:Int)+1:=wrap_i64 (by omega);have hks9:=zx ms;by_cases hkl:k<W.length
       ·have r3:=b6 hkl;have hput:=vP W[k].n ms;simp(config := { maxSteps := 3000000 }) [w5,hkl,r3,hks9,hput];refine⟨k+1,wX W[k].n ms,⟨by omega,fun n=>?_⟩,⟨by omega,rfl⟩,by omega⟩;rw[BJ,hms,←List.map_take,List.take_succ_eq_append_getElem hkl];simp only[List.map_append,List.map_cons,List.map_nil,List.mem_append,List.mem_singleton];constructor
        ·rintro(h|h|h);·exact .inr (.inr h)
         ·exact .inl h
         ·exact .inr (.inl h)
        ·rintro(h|h|h);·exact .inr (.inl h)
         ·exact .inr (.inr h)
         ·exact .inl h
       ·have hke:k=W.length:=by omega
        subst hke;simp(config := { maxSteps := 3000000 }) [w4,hjl];exact⟨j+1,ms,⟨by omega,hnext ms fun n=>by rw[hms,List.take_length,hpN]⟩,⟨by omega,rfl⟩,by omega⟩
     ·have hje:j=(aO O).length:=by omega
      subst hje;rw[List.take_length]at hns;have hun:=zO ns;have hfs:=B5 ns;have hkk:=Aq ns;have hin:Kl (sJ ns) O=O.filter fun v=>nI O v.n:=by unfold Kl;congr 1;funext v;simp only[kv,zz,Bool.not_not];rw[Bool.eq_iff_iff,decide_eq_true_eq,hns,vN hrO]
      have hkm:∀t es,cQ t (.map es)=.map es:=fun _ _=>rfl;simp(config := { maxSteps := 3000000 }) [hun,hfs,hin,hlO6,fl,hkm];exact hkk
 ·cases h
def lJ (a:Ap):Ap×Bool:=(⟨a.l,(rf a.ps a.r.v).1,a.vs,a.sl,a.r,a.n,a.s⟩,decide ((rf a.ps a.r.v).2=0))
def uX (a:Ap):Ap×Bool:=(⟨a.l,(rI a.ps ⟨a.n,a.r.v,a.r.u⟩).1,a.vs,a.sl,a.r,a.n,a.s⟩,(dw a.vs a.r.v).isSome&&decide ((rI a.ps ⟨a.n,a.r.v,a.r.u⟩).2=0))
def fv (a:Ap):Vn:=⟨a.n,a.r.v,a.r.p,a.r.i,a.r.s,a.r.z,a.r.m,[],false,false⟩
def gM (a:Ap):Ap×Bool:=(⟨a.l,a.ps,(eg a.vs (fv a)).1,a.sl,a.r,a.n,a.s⟩,!a.sl&&fu a.l a.r.p a.r.i a.r.e&&decide ((eg a.vs (fv a)).2=0))
noncomputable def ia (a:Ap):Ap×Bool:=(⟨a.l,fp a.ps a.r.c a.s,cA a.vs (nM ((fp a.ps a.r.c a.s).map Pn.v)),a.sl,a.r,a.n,a.s⟩,true)
theorem Cr:dk Try.prog 36 (wj (fun a=>a.ps.length≤100000) lJ):=by
 intro ys φ r h hφ;unfold wj at h;split at h;·obtain⟨a,ha,h⟩:=Option.map_eq_some_iff.1 h;cases h;cases ej ha;obtain⟨⟨e,p,i,u,h'⟩,ps,vs,sl,⟨k,rp,ri,rs,re,ru,rv,rc,rz,rm,rn,rt⟩,n,s⟩:=a;refine b5 (ak Iz aq) (by kernel_rfl) fn36 (by simp) rfl (by simp[lD]) ?_;unfold body36;have h1:ps.length≤100000:=hφ;simp(config := { maxSteps := 3000000 }) [lD,lJ,h1,bQ]
 ·cases h
theorem HO:dk Try.prog 35 (wj (fun a=>a.ps.length≤1000000∧a.vs.length≤1000000) uX):=by
 intro ys φ r h hφ;unfold wj at h;split at h;·obtain⟨a,ha,h⟩:=Option.map_eq_some_iff.1 h;cases h;cases ej ha;obtain⟨⟨e,p,i,u,h'⟩,ps,vs,sl,⟨k,rp,ri,rs,re,ru,rv,rc,rz,rm,rn,rt⟩,n,s⟩:=a;refine b5 (ak IQ (ak Dr aq)) (by kernel_rfl) fn35 (by simp) rfl (by simp[lD]) ?_;unfold body35;obtain⟨h1,h2⟩:=hφ;have h1:ps.length≤1000000:=h1;have h2:vs.length≤1000000:=h2;simp(config := { maxSteps := 3000000 }) [lD,uX,h1,h2,bQ,bR]
 ·cases h
theorem AF:dk Try.prog 34 (wj (fun a=>a.vs.length≤100000∧(∀v∈a.vs,lg v)∧lg (fv a)) gM):=by
 intro ys φ r h hφ;unfold wj at h;split at h
 ·obtain⟨a,ha,h⟩:=Option.map_eq_some_iff.1 h;cases h;cases ej ha;obtain⟨⟨e,p,i,u,h'⟩,ps,vs,sl,⟨k,rp,ri,rs,re,ru,rv,rc,rz,rm,rn,rt⟩,n,s⟩:=a;refine b5 (ak Hq (ak I3 aq)) (by kernel_rfl) fn34 (by simp) rfl (by simp[lD]) ?_;unfold body34;obtain⟨h1,h2,h3⟩:=hφ;have h1:vs.length≤100000:=h1;have h2:∀v∈vs,lg v:=h2;have h3:lg ⟨n,rv,rp,ri,rs,rz,rm,[],false,false⟩:=h3;cases sl<;>simp(config := { maxSteps := 3000000 }) [lD,gM,fv,h1,h3,aV];·exact⟨⟨h2,h3⟩,rfl⟩
  ·exact⟨h2,h3⟩
 ·cases h
theorem xZ:dk Try.prog 38 (wj (fun a=>a.ps.length<50∧(∀e∈a.ps,l6 e)∧dA a.r.c∧dA a.s∧a.vs.length≤100000∧∀v∈a.vs,lg v) ia):=by
 intro ys φ r h hφ;unfold wj at h;split at h
 ·obtain⟨a,ha,h⟩:=Option.map_eq_some_iff.1 h;cases h;cases ej ha;obtain⟨⟨e,p,i,u,h'⟩,ps,vs,sl,⟨k,rp,ri,rs,re,ru,rv,rc,rz,rm,rn,rt⟩,n,s⟩:=a;refine b5 (ak Ip (ak Vm (ak BU aq))) (by kernel_rfl) fn38 (by simp) rfl (by simp[lD]) ?_;unfold body38;obtain⟨h1,h2,h3,h4,h5,h6⟩:=hφ;have h1:ps.length<50:=h1;have h3:dA rc:=h3;have h4:dA s:=h4;have h5:vs.length≤100000:=h5;have h7:ps.length≤1000000:=by omega
  have h8:(fp ps rc s).length<50:=by have:=List.length_filter_le (fun e=>!gv rc s e) ps;unfold fp;omega
  have h9:(nM ((fp ps rc s).map Pn.v)).length≤1000000:=by have:=Aa ((fp ps rc s).map Pn.v);rw[List.length_map]at this;omega
  have hU:∀l:List Int,cj l=j6 l:=fun _=>rfl;have fU:∀l:List Int,bE (j6 l):=wO;have h10:∀e∈ps,dA e.u:=fun e he=>(h2 e he).2.2;have h11:(∀e∈ps,dA e.u)=True:=eq_true h10;simp(config := { maxSteps := 3000000 }) [lD,ia,h1,h3,h4,h5,h7,h8,h9,hU,fU,bQ,aV];exact⟨h10,h6⟩
 ·cases h
structure Wr (w w':World) (b:Nat) (us:Array Value) (ty:TypeId):Prop where
 os:w'.os=w.os
 tape:w'.tape=w.tape
 output:w'.output=w.output
 size:w'.heap.size=w.heap.size
 here:w'.heap[b]?=some (.cells us ty (0,0))
 block:∀k,k≠b→w'.heap[k]?=w.heap[k]?
theorem pO {w:World}{b:Nat}{us:Array Value}{ty:TypeId} (h:w.heap[b]?=some (.cells us ty (0,0))) (o:Nat) (v:Value):Wr w (w.setCell ⟨b,o,none⟩ v) b (us.setIfInBounds o v) ty:=by
 refine⟨rfl,rfl,rfl,by simp[World.setCell],?_,fun k hk=>?_⟩;·simp[World.setCell,Array.getElem?_modify,h]
 ·simp[World.setCell,Array.getElem?_modify,Ne.symm hk]
theorem ed (a:Value) (b o:Nat) (x:Int) (us:Array Value) (ty:TypeId) (w:World) (h:w.heap[b]?=some (.cells us ty (0,0))) (hx:us[o]?=some (.int .u64 x)):Calls Try.prog 119 #[a,.pointer (some ⟨b,o,none⟩)] w fun e w'=>e=.returned (.tuple #[])∧Wr w w' b (us.setIfInBounds o (.int .u64 0)) ty:=by
 have hc:w.cell? ⟨b,o,none⟩=some (.int .u64 x):=by rw[Lib.cell_of_heap h];exact hx
 have hf:w.frozen? ⟨b,o,none⟩=false:=by simp[World.frozen?,h]
 go_enter Try.func119,Try.ntmps119;go_wp2;exact⟨rfl,_,by kernel_rfl,rfl,pO h o _⟩
theorem vy (b o bt:Nat) (n:List UInt8) (bad:Bool) (us:Array Value) (ty tt:TypeId) (w:World) (hne:b≠bt) (h:w.heap[b]?=some (.cells us ty (0,0))) (hx:us[o]?=some (.string ⟨n.toArray⟩)) (ht:w.heap[bt]?=some (.cells #[.bool bad] tt (0,0))):Calls Try.prog 120 #[.pointer (some ⟨bt,0,none⟩),.pointer (some ⟨b,o,none⟩)] w fun e w'=>e=.returned (.tuple #[])∧∃w1,Wr w w1 bt #[.bool (bad||decide (n=[])||decide (64<n.length))] tt∧Wr w1 w' b (us.setIfInBounds o (.string ⟨#[]⟩)) ty:=by
 have hc:w.cell? ⟨b,o,none⟩=some (.string ⟨n.toArray⟩):=by rw[Lib.cell_of_heap h];exact hx
 have hb:w.cell? ⟨bt,0,none⟩=some (.bool bad):=by rw[Lib.cell_of_heap ht];rfl
 have hf:w.frozen? ⟨b,o,none⟩=false:=by simp[World.frozen?,h]
 have hg:w.frozen? ⟨bt,0,none⟩=false:=by simp[World.frozen?,ht]
 have hd:∀v,(w.setCell ⟨bt,0,none⟩ v).cell? ⟨b,o,none⟩=some (.string ⟨n.toArray⟩):=fun v=>by rw[Lib.cell_of_heap (((pO ht 0 v).block b hne).trans h)];exact hx
 have fin:∀v,v=(bad||decide (n=[])||decide (64<n.length))→∃w1,Wr w w1 bt #[.bool (bad||decide (n=[])||decide (64<n.length))] tt∧Wr w1 ((w.setCell ⟨bt,0,none⟩ (.bool v)).setCell ⟨b,o,none⟩ (.string ⟨#[]⟩)) b (us.setIfInBounds o (.string ⟨#[]⟩)) ty:=by rintro v rfl;exact⟨_,pO ht 0 _,pO (((pO ht 0 _).block b hne).trans h) o _⟩
 go_enter Try.func120,Try.ntmps120;have hd1:=hd (.bool true);have hd2:=hd (.bool false);clear hd;cases bad with|true=>go_wp2;exact⟨rfl,_,by kernel_rfl,rfl,fin _ rfl⟩|false=>
  by_cases h1:n=[];·subst h1;go_wp2;exact⟨rfl,_,by kernel_rfl,rfl,fin _ rfl⟩
  ·go_wp2;refine⟨rfl,_,by kernel_rfl,rfl,fin _ ?_⟩;have:(n.isEmpty||decide (64<(n.length:Int)))=(decide (n=[])||decide (64<n.length)):=by cases n with|nil=>rfl|cons x l=>simp only[List.isEmpty_cons,Bool.false_or,reduceCtorEq,decide_false];exact decide_eq_decide.2 (by omega)
   rw[this,Bool.false_or]
def recC (r:Rc):Array Value:=#[.int .u8 r.k,.int .u64 r.p,.int .u64 r.i,.int .u64 r.s,.int .u64 r.e,.int .u64 r.u,.int .u64 r.v,.int .u64 r.c,.int .u64 r.z,.int .u64 r.m,.string ⟨r.n.toArray⟩,.string ⟨r.t.toArray⟩]
def tL:Nat→Rc→Rc|0,r=>{r with e:=0}|1,r=>{r with u:=0}|2,r=>{r with v:=0}|3,r=>{r with c:=0}|4,r=>{r with z:=0}|5,r=>{r with m:=0}|6,r=>{r with n:=[]}|7,r=>{r with t:=[]}|_,r=>r
def VG:Nat→Rc→Bool→Bool|6,r,b=>b||decide (r.n=[])||decide (64<r.n.length)|7,r,b=>b||decide (r.t=[])||decide (64<r.t.length)|_,_,b=>b
def qk:List Nat→Rc×Bool→Rc×Bool|[],x=>x|q::l,x=>qk l (tL q x.1,VG q x.1 x.2)
theorem Qr (a b c:Value) (w:World):(Instr.index 122 (.agg #[a,b,c]) (.int .i64 0)).run Try.prog w=.ok a w:=by kernel_rfl
theorem RZ (a b c:Value) (w:World):(Instr.index 122 (.agg #[a,b,c]) (.int .i64 1)).run Try.prog w=.ok b w:=by kernel_rfl
theorem Qe (a b c:Value) (w:World):(Instr.index 122 (.agg #[a,b,c]) (.int .i64 2)).run Try.prog w=.ok c w:=by kernel_rfl
theorem F3 (n:Nat) (a:Addr) (w:World):(method (n+1) 93 (.pointer (some a)) "chartroom/record.number").run Try.prog w=.ok (119,.pointer (some a)) w:=by kernel_rfl
theorem Qd (n:Nat) (a:Addr) (w:World):(method (n+1) 93 (.pointer (some a)) "chartroom/record.text").run Try.prog w=.ok (120,.pointer (some a)) w:=by kernel_rfl
theorem Sg (n:Nat) (a:Addr) (w:World):(nilAhead (n+1) 93 (.pointer (some a)) "chartroom/record.number").run Try.prog w=.ok (some false) w:=by kernel_rfl
theorem QW (n:Nat) (a:Addr) (w:World):(nilAhead (n+1) 93 (.pointer (some a)) "chartroom/record.text").run Try.prog w=.ok (some false) w:=by kernel_rfl
def VI:Value→Nat|.int _ n=>n.toNat|_=>0
structure Vs (w0 w:World) (br bt:Nat) (r:Rc) (bad:Bool):Prop where
 os:w.os=w0.os
 tape:w.tape=w0.tape
 output:w.output=w0.output
 size:w0.heap.size<w.heap.size
 hr:w.heap[br]?=some (.cells (recC r) 35 (0,0))
 ht:w.heap[bt]?=some (.cells #[.bool bad] 95 (0,0))
 ha:w.heap[w0.heap.size]?=some (.cells #[.pointer (some ⟨br,4,none⟩),.pointer (some ⟨br,5,none⟩),.pointer (some ⟨br,6,none⟩),.pointer (some ⟨br,7,none⟩),.pointer (some ⟨br,8,none⟩),.pointer (some ⟨br,9,none⟩)] 121 (0,0))
 block:∀k,k<w0.heap.size→k≠br→k≠bt→w.heap[k]?=w0.heap[k]?
theorem Vs.drew {w0 w:World}{br bt:Nat}{r:Rc}{bad:Bool} (h:Vs w0 w br bt r bad):Vs w0 w.drew br bt r bad:=⟨h.os,h.tape,h.output,h.size,h.hr,h.ht,h.ha,h.block⟩
theorem Vs.num {w0 w w':World}{br bt:Nat}{r r':Rc}{bad:Bool} (h:Vs w0 w br bt r bad) (hlr:br<w0.heap.size) (hlt:bt<w0.heap.size) (hne:br≠bt) {us:Array Value} (hw:Wr w w' br us 35) (hu:us=recC r'):Vs w0 w' br bt r' bad:=⟨hw.os.trans h.os,hw.tape.trans h.tape,hw.output.trans h.output,by rw[hw.size];exact h.size,by rw[hw.here,hu],(hw.block bt (Ne.symm hne)).trans h.ht,(hw.block _ (by omega)).trans h.ha,fun k h1 h2 h3=>(hw.block k h2).trans (h.block k h1 h2 h3)⟩
theorem Vs.Wv {w0 w w':World}{br bt:Nat}{r:Rc}{bad bad':Bool} (h:Vs w0 w br bt r bad) (hlr:br<w0.heap.size) (hlt:bt<w0.heap.size) (hne:br≠bt) (hw:Wr w w' bt #[.bool bad'] 95):Vs w0 w' br bt r bad':=⟨hw.os.trans h.os,hw.tape.trans h.tape,hw.output.trans h.output,by rw[hw.size];exact h.size,(hw.block br hne).trans h.hr,hw.here,(hw.block _ (by omega)).trans h.ha,fun k h1 h2 h3=>(hw.block k h3).trans (h.block k h1 h2 h3)⟩
theorem Ib (r:Rc) (bad:Bool) (ps:List Nat) (hps:∀q∈ps,q<8) (hlen:ps.length≤8) (w:World) (br bt:Nat) (hne:br≠bt) (hlr:br<w.heap.size) (hlt:bt<w.heap.size) (A:Option Addr) (c:Nat) (hc:ps.length≤c) (hA:0<ps.length→∃b o,A=some ⟨b,o,none⟩∧b≠br∧b≠bt∧b<w.heap.size∧∀i (h:i<ps.length),w.cell? ⟨b,o+i,none⟩=some (.int .u8 ps[i])) (h1:w.heap[br]?=some (.cells (recC r) 35 (0,0))) (h2:w.heap[bt]?=some (.cells #[.bool bad] 95 (0,0))):Calls Try.prog 40 #[.pointer (some ⟨br,0,none⟩),.iface 93 (.pointer (some ⟨bt,0,none⟩)),.slice A ps.length c] w fun e w'=>e=.returned (.tuple #[])∧Vs w w' br bt (qk ps ({r with p:=0,i:=0,s:=0},bad)).1 (qk ps ({r with p:=0,i:=0,s:=0},bad)).2:=by
 go_enter Try.func40,Try.ntmps40;go_wp2;go_region;have hv0:Vs w ((w.alloc (Obj.cells #[.pointer (some ⟨br,4,none⟩),.pointer (some ⟨br,5,none⟩),.pointer (some ⟨br,6,none⟩),.pointer (some ⟨br,7,none⟩),.pointer (some ⟨br,8,none⟩),.pointer (some ⟨br,9,none⟩)] 121)).drew) br bt r bad:=by
  have g:∀k,k<w.heap.size→((w.alloc (Obj.cells #[.pointer (some ⟨br,4,none⟩),.pointer (some ⟨br,5,none⟩),.pointer (some ⟨br,6,none⟩),.pointer (some ⟨br,7,none⟩),.pointer (some ⟨br,8,none⟩),.pointer (some ⟨br,9,none⟩)] 121)).drew).heap[k]?=w.heap[k]?:=fun k hk=>by show(w.heap.push _)[k]?=_;rw[Array.getElem?_push,if_neg (by omega)]
  refine⟨rfl,rfl,rfl,?_,(g br hlr).trans h1,(g bt hlt).trans h2,?_,fun k hk _ _=>g k hk⟩;·show w.heap.size<(w.heap.push _).size;simp
  ·show(w.heap.push _)[w.heap.size]?=_;simp
 generalize((w.alloc (Obj.cells #[.pointer (some ⟨br,4,none⟩),.pointer (some ⟨br,5,none⟩),.pointer (some ⟨br,6,none⟩),.pointer (some ⟨br,7,none⟩),.pointer (some ⟨br,8,none⟩),.pointer (some ⟨br,9,none⟩)] 121)).drew)=W0 at hv0 ⊢;go_wp2;go_region;replace hv0:=hv0.drew;generalize W0.drew=W1 at hv0 ⊢;go_wp2;have j0:=Qr;have j1:=RZ;have j2:=Qe;have j3:=F3;refine wp_loop_rounds 4 ?_;rw[rounds_succ];go_wp2_with(go_at_call 119;refine(ed _ br 1 r.p (recC r) _ _ hv0.hr rfl).mono ?_);rintro e W2 ⟨rfl,hw⟩;replace hv0:=hv0.num hlr hlt hne hw (r':={r with p:=0}) rfl;clear hw;go_wp2;rw[rounds_succ];go_wp2_with(go_at_call 119;refine(ed _ br 2 r.i _ _ _ hv0.hr rfl).mono ?_);rintro e W3 ⟨rfl,hw⟩;replace hv0:=hv0.num hlr hlt hne hw (r':={r with p:=0,i:=0}) rfl;clear hw;go_wp2;rw[rounds_succ];go_wp2_with(go_at_call 119;refine(ed _ br 3 r.s _ _ _ hv0.hr rfl).mono ?_);rintro e W4 ⟨rfl,hw⟩;replace hv0:=hv0.num hlr hlt hne hw (r':={r with p:=0,i:=0,s:=0}) rfl;clear hw;go_wp2;rw[rounds_succ];go_wp2;clear j0 j1 j2;go_loopw[49] (fun vi wr=>∃(i:Nat) (x:Rc×Bool),i≤ps.length∧vi=.int .i64 i∧Vs w wr br bt x.1 x.2∧qk (ps.drop i) x=qk ps ({r with p:=0,i:=0,s:=0},bad)) (fun vi _=>ps.length-VI vi);case atStart=>exact⟨0,({r with p:=0,i:=0,s:=0},bad),by omega,rfl,hv0,rfl⟩
 case round=>
  obtain⟨i,⟨x,bx⟩,hi,rfl,hv,hvis⟩:=hrel;by_cases hlt':i<ps.length
  ·have hli:(i:Int)<(ps.length:Int):=by omega
   obtain⟨b,o,rfl,hb1,hb2,hb3,hcell⟩:=hA (by omega);have hq:=hps _ (List.getElem_mem hlt');have hcc:=hcell i hlt';have hcw:wr.cell? ⟨b,o+i,none⟩=some (.int .u8 ps[i]):=by rw[←hcc];unfold World.cell?;rw[hv.block b hb3 hb1 hb2]
   rw[List.drop_eq_getElem_cons hlt']at hvis;clear hcc hcell hv0 hps;revert hvis hcw hq;generalize ps[i]=q;intro hvis hcw hq;have hq8:q=0∨q=1∨q=2∨q=3∨q=4∨q=5∨q=6∨q=7:=by omega
   have hme:ps.length-VI (.int .i64 ((i+1:Nat):Int))<ps.length-VI (.int .i64 (i:Int)):=by show ps.length-(((i+1:Nat):Int)).toNat<ps.length-((i:Int)).toNat;omega
   have k1:=F3;have k2:=Sg;have k3:=Qd;have k4:=QW;rcases hq8 with rfl|rfl|rfl|rfl|rfl|rfl|rfl|rfl
   ·have hp:wr.cell? ⟨w.heap.size,0,none⟩=some (.pointer (some ⟨br,4,none⟩)):=by rw[Lib.cell_of_heap hv.ha];rfl
    go_wp2;go_region_with(go_at_call 119;refine(ed _ br 4 x.e _ _ _ hv.drew.hr rfl).mono ?_;rintro e W2 ⟨rfl,hw⟩);all_goals replace hv:=hv.drew.num hlr hlt hne hw (r':=tL 0 x) rfl;go_wp2;refine⟨⟨i+1,(_,_),hlt',congrArg (Value.int .i64) (by omega),hv,hvis⟩,hme⟩
   ·have hp:wr.cell? ⟨w.heap.size,1,none⟩=some (.pointer (some ⟨br,5,none⟩)):=by rw[Lib.cell_of_heap hv.ha];rfl
    go_wp2;go_region_with(go_at_call 119;refine(ed _ br 5 x.u _ _ _ hv.drew.hr rfl).mono ?_;rintro e W2 ⟨rfl,hw⟩);all_goals replace hv:=hv.drew.num hlr hlt hne hw (r':=tL 1 x) rfl;go_wp2;refine⟨⟨i+1,(_,_),hlt',congrArg (Value.int .i64) (by omega),hv,hvis⟩,hme⟩
   ·have hp:wr.cell? ⟨w.heap.size,2,none⟩=some (.pointer (some ⟨br,6,none⟩)):=by rw[Lib.cell_of_heap hv.ha];rfl
    go_wp2;go_region_with(go_at_call 119;refine(ed _ br 6 x.v _ _ _ hv.drew.hr rfl).mono ?_;rintro e W2 ⟨rfl,hw⟩);all_goals replace hv:=hv.drew.num hlr hlt hne hw (r':=tL 2 x) rfl;go_wp2;refine⟨⟨i+1,(_,_),hlt',congrArg (Value.int .i64) (by omega),hv,hvis⟩,hme⟩
   ·have hp:wr.cell? ⟨w.heap.size,3,none⟩=some (.pointer (some ⟨br,7,none⟩)):=by rw[Lib.cell_of_heap hv.ha];rfl
    go_wp2;go_region_with(go_at_call 119;refine(ed _ br 7 x.c _ _ _ hv.drew.hr rfl).mono ?_;rintro e W2 ⟨rfl,hw⟩);all_goals replace hv:=hv.drew.num hlr hlt hne hw (r':=tL 3 x) rfl;go_wp2;refine⟨⟨i+1,(_,_),hlt',congrArg (Value.int .i64) (by omega),hv,hvis⟩,hme⟩
   ·have hp:wr.cell? ⟨w.heap.size,4,none⟩=some (.pointer (some ⟨br,8,none⟩)):=by rw[Lib.cell_of_heap hv.ha];rfl
    go_wp2;go_region_with(go_at_call 119;refine(ed _ br 8 x.z _ _ _ hv.drew.hr rfl).mono ?_;rintro e W2 ⟨rfl,hw⟩);all_goals replace hv:=hv.drew.num hlr hlt hne hw (r':=tL 4 x) rfl;go_wp2;refine⟨⟨i+1,(_,_),hlt',congrArg (Value.int .i64) (by omega),hv,hvis⟩,hme⟩
   ·have hp:wr.cell? ⟨w.heap.size,5,none⟩=some (.pointer (some ⟨br,9,none⟩)):=by rw[Lib.cell_of_heap hv.ha];rfl
    go_wp2;go_region_with(go_at_call 119;refine(ed _ br 9 x.m _ _ _ hv.drew.hr rfl).mono ?_;rintro e W2 ⟨rfl,hw⟩);all_goals replace hv:=hv.drew.num hlr hlt hne hw (r':=tL 5 x) rfl;go_wp2;refine⟨⟨i+1,(_,_),hlt',congrArg (Value.int .i64) (by omega),hv,hvis⟩,hme⟩
   ·go_wp2;go_region_with(go_at_call 120;refine(vy br 10 bt x.n bx _ _ _ _ hne hv.drew.hr rfl hv.drew.ht).mono ?_;rintro e W2 ⟨rfl,W3,hw,hw2⟩);all_goals replace hv:=(hv.drew.Wv hlr hlt hne hw).num hlr hlt hne hw2 (r':=tL 6 x) rfl;go_wp2;refine⟨⟨i+1,(_,_),hlt',congrArg (Value.int .i64) (by omega),hv,hvis⟩,hme⟩
   ·go_wp2;go_region_with(go_at_call 120;refine(vy br 11 bt x.t bx _ _ _ _ hne hv.drew.hr rfl hv.drew.ht).mono ?_;rintro e W2 ⟨rfl,W3,hw,hw2⟩);all_goals replace hv:=(hv.drew.Wv hlr hlt hne hw).num hlr hlt hne hw2 (r':=tL 7 x) rfl;go_wp2;refine⟨⟨i+1,(_,_),hlt',congrArg (Value.int .i64) (by omega),hv,hvis⟩,hme⟩
  ·have hia:i=ps.length:=by omega
   subst hia;rw[List.drop_eq_nil_of_le (Nat.le_refl ps.length)]at hvis;go_wp2;refine⟨rfl,_,by kernel_rfl,rfl,?_⟩;rw[←hvis];exact hv
def gQ:List (Int×List Nat):=[(1,[0,1]),(2,[0,1]),(3,[0]),(4,[0,2,4,5]),(5,[2,1]),(6,[2]),(7,[]),(8,[3]),(9,[6]),(10,[6]),(11,[6,7])]
def jc (k:Int):List (Int×List Nat)→Option (List Nat)|[]=>none|x::l=>if k=x.1 then some x.2 else jc k l
def bV (r:Rc):Bool:=match jc r.k gQ with|none=>false|some ps=>!decide (65535<r.z)&&!decide (4294967295<r.m)&&!(qk ps ({r with p:=0,i:=0,s:=0},false)).2&&decide ((qk ps ({r with p:=0,i:=0,s:=0},false)).1=⟨r.k,0,0,0,0,0,0,0,0,0,[],[]⟩)
theorem Wd (k:Int):jq (.int .u8 k) iG=(jc k gQ).map fun l=>eU (l.map fun n:Nat=>(n:Int)):=by
 have:∀l:List (Int×List Nat),jq (.int .u8 k) (l.map fun x=>(PV.int .u8 x.1,eU (x.2.map fun n:Nat=>(n:Int))))=(jc k l).map fun l=>eU (l.map fun n:Nat=>(n:Int)):=by intro l;induction l with|nil=>rfl|cons x l ih=>rw[List.map_cons,Ba,ih,jc];split<;>rfl
 exact this gQ
theorem iY {S:Nat→Prop}{w w':World}{v:Value} (h:cM S w v (.mv iG)) (k:Int) (hw:w'.heap=w.heap):∃u,(Instr.lookup 91 v (.int .u8 k) true).run Try.prog w'=.ok (.tuple #[u,.bool (jc k gQ).isSome]) w'∧cM S w u (((jc k gQ).map fun l=>eU (l.map fun n:Nat=>(n:Int))).getD .nil):=by cases h with|mv b us c es g1 g2 g3 g4 g5 g6=>
 have hm:gC Try.prog 91=some (5,89):=by kernel_rfl
 have hsrt:iu Try.prog 5=some 6:=by kernel_rfl
 have hz:zeroV Try.prog 89=some (.slice none 0 0):=by kernel_rfl
 have hmt:=dV hm;obtain⟨d,hdk,hkey⟩:=fa hsrt;have hp:cD (.int .u8 k)=6:=rfl;have hks:eb 6 iG:=by simp[iG,wu,cD,ky]
 have hzr:(zeroValue 89).run Try.prog w'=.ok (.slice none 0 0) w':=by unfold zeroV at hz;obtain⟨i,hi,hz⟩:=Option.bind_eq_some_iff.1 hz;simp[zeroValue,typeInfo,hi,hz]
 have hh:w'.heap[b]?=some (.map us c):=by rw[hw];exact g2
 have hfind:=fL hkey hp (by decide) us.toList iG 0 hks g4 fun i e u h1 h2=>(g5 i e u h1 h2).1;have gk:=Wd k;rcases hfind with⟨h1,h2,_⟩|⟨j,e,u,h1,h2,h3,h4,h5,_⟩;·rw[h2]at gk;cases hf:jc k gQ with|some l=>rw[hf]at gk;cases gk|none=>refine⟨.slice none 0 0,?_,.nil⟩;show(Instr.lookup 91 (.map (some b)) (Ab.bA (.int .u8 k)) true).run Try.prog w'=_;simp[Instr.lookup,run_underlying hmt,MapKept.run_getObj_map hh,MapKept.run_checkKey hdk (hkey _ hp),MapKept.run_findKey hdk h1,hzr,Result.andThen]
 ·rw[h5]at gk;cases hf:jc k gQ with|none=>rw[hf]at gk;cases gk|some l=>
   rw[hf]at gk;refine⟨u.val,?_,?_⟩;·show(Instr.lookup 91 (.map (some b)) (Ab.bA (.int .u8 k)) true).run Try.prog w'=_;simp[Instr.lookup,run_underlying hmt,MapKept.run_getObj_map hh,MapKept.run_checkKey hdk (hkey _ hp),MapKept.run_findKey hdk h1,Result.andThen]
   ·simp only[Option.map_some,Option.some.injEq]at gk;rw[Option.map_some,Option.getD_some,←gk];exact g6 j e u h2 h3
theorem gN (w:World):Calls Try.prog 39 #[] w fun e w'=>∃v,e=.returned v∧cM (fun b=>w.heap.size≤b∧b<w'.heap.size) w' v (.mv iG)∧Below w.heap.size w w':=by
 have hc:=Dg [] True _ rfl trivial;have h:=hc w (fun _=>False) (fun _=>.nilIface) [] (fun b hb=>hb.elim) (fun t b ⟨o,ho⟩=>by simp[ab]at ho) ⟨fun t o ho=>by simp[ab]at ho,fun t t' b ⟨o,ho⟩=>by simp[ab]at ho⟩ rfl fun i v x hi=>by simp at hi
 refine h.mono ?_;rintro e w' ⟨v,β',rfl,hf,_,_,hv⟩;exact⟨v,rfl,hv.aZ.mono fun b hb=>⟨⟨hb.1.elim False.elim id,hb.2.1⟩,rfl⟩,hf.os,hf.tape,hf.output,hf.size,fun k hk=>hf.block k hk fun⟨t,o,ho,_⟩=>by simp[ab]at ho⟩
theorem gr {W:World}{b:Nat}{r:Rc} (h:W.heap[b]?=some (.cells (recC r) 35 (0,0))):W.cell? ⟨b,0,none⟩=some (.int .u8 r.k)∧W.cell? ⟨b,1,none⟩=some (.int .u64 r.p)∧W.cell? ⟨b,2,none⟩=some (.int .u64 r.i)∧W.cell? ⟨b,3,none⟩=some (.int .u64 r.s)∧W.cell? ⟨b,4,none⟩=some (.int .u64 r.e)∧W.cell? ⟨b,5,none⟩=some (.int .u64 r.u)∧W.cell? ⟨b,6,none⟩=some (.int .u64 r.v)∧W.cell? ⟨b,7,none⟩=some (.int .u64 r.c)∧W.cell? ⟨b,8,none⟩=some (.int .u64 r.z)∧W.cell? ⟨b,9,none⟩=some (.int .u64 r.m)∧W.cell? ⟨b,10,none⟩=some (.string ⟨r.n.toArray⟩)∧W.cell? ⟨b,11,none⟩=some (.string ⟨r.t.toArray⟩):=by
 have g:∀i v,(recC r)[i]?=some v→W.cell? ⟨b,i,none⟩=some v:=fun i v hv=>by rw[Lib.cell_of_heap h];exact hv
 exact⟨g 0 _ rfl,g 1 _ rfl,g 2 _ rfl,g 3 _ rfl,g 4 _ rfl,g 5 _ rfl,g 6 _ rfl,g 7 _ rfl,g 8 _ rfl,g 9 _ rfl,g 10 _ rfl,g 11 _ rfl⟩
theorem xV {n:Nat}{W:World}{u:Value}{ps:List Nat} (h:cM (fun b=>n≤b∧b<W.heap.size) W u (eU (ps.map fun n:Nat=>(n:Int)))):∃A c,u=.slice A ps.length c∧ps.length≤c∧(0<ps.length→∃b o,A=some ⟨b,o,none⟩∧n≤b∧b<W.heap.size∧∀i (h:i<ps.length),W.cell? ⟨b,o+i,none⟩=some (.int .u8 ps[i])):=by
 obtain⟨A,c,hv,hc,hne⟩:=cM.iT h;simp only[List.length_map]at hv hc;refine⟨A,c,hv,hc,fun hp=>?_⟩;obtain⟨ad,sz,us,rfl,g1,g2,g3,g4,g5⟩:=hne (by intro e;have:=congrArg List.length e;simp only[List.length_map,List.length_nil]at this;omega);have hsz:sz=1:=by rw[←g2 [.int .u8 ((ps[0]:Nat):Int)] (by simp only[List.map_map,List.mem_map];exact⟨ps[0],List.getElem_mem hp,rfl⟩)];rfl
 subst hsz;have hcl:∀i (h:i<ps.length),W.cell? (ad.add i)=some (.int .u8 ps[i]):=by
  intro i hi;have hr:((ps.map fun n:Nat=>(n:Int)).map fun n=>[PV.int .u8 n])[i]?=some [.int .u8 ps[i]]:=by simp[hi]
  have h1:=g3 i 0 (by simpa using hi) (by omega);have h2:=(g5 i 0 _ _ hr rfl).aN;rw[h2]at h1;simpa using h1
 obtain⟨b,o,sp⟩:=ad;have hsp:sp=none:=by have hx:=hcl 0 hp;cases sp with|none=>rfl|some s=>exfalso;simp[Addr.add,World.cell?]at hx;try(split at hx<;>simp at hx)
 subst hsp;exact⟨b,o,rfl,g1.1,g1.2,fun i hi=>by have:=hcl i hi;rw[Addr.add_lit]at this;exact this⟩
theorem iA (W:World) (o1 o2:Obj):((W.alloc o1).alloc o2).heap.size=W.heap.size+2:=by show((W.heap.push _).push _).size=_;simp
theorem Q4 (W:World) (o1 o2:Obj):((W.alloc o1).alloc o2).heap[W.heap.size+1]?=some o2:=by show((W.heap.push _).push _)[W.heap.size+1]?=_;rw[Array.getElem?_push,if_pos (by simp)]
theorem QQ (W:World) (o1 o2:Obj):((W.alloc o1).alloc o2).heap[W.heap.size]?=some o1:=by show((W.heap.push _).push _)[W.heap.size]?=_;rw[Array.getElem?_push,if_neg (by simp),Array.getElem?_push,if_pos rfl]
theorem DV (W:World) (o1 o2:Obj) (k:Nat) (hk:k<W.heap.size):((W.alloc o1).alloc o2).heap[k]?=W.heap[k]?:=by show((W.heap.push _).push _)[k]?=_;rw[Array.getElem?_push,if_neg (by simp;omega),Array.getElem?_push,if_neg (by omega)]
theorem Dq {k:Int}{ps:List Nat} (h:jc k gQ=some ps):ps.length≤8∧∀q∈ps,q<8:=by
 simp only[gQ,jc]at h;repeat' split at h
 all_goals first|cases h;decide|cases h
theorem xO (r:Rc) (w:World):Calls Try.prog 20 #[.agg (recC r)] w fun e w'=>e=.returned (.bool (bV r))∧Below w.heap.size w w':=by
 go_enter Try.func20,Try.ntmps20;have hrec:recC r=#[.int .u8 r.k,.int .u64 r.p,.int .u64 r.i,.int .u64 r.s,.int .u64 r.e,.int .u64 r.u,.int .u64 r.v,.int .u64 r.c,.int .u64 r.z,.int .u64 r.m,.string ⟨r.n.toArray⟩,.string ⟨r.t.toArray⟩]:=rfl;go_wp2;have h0:(w.alloc (Obj.cells (recC r) 35)).heap[w.heap.size]?=some (.cells (recC r) 35 (0,0)):=by show(w.heap.push _)[w.heap.size]?=_;simp
 have hb0:Below w.heap.size w (w.alloc (Obj.cells (recC r) 35)):=(Below.refl _ w).alloc (Nat.le_refl _) _;rw[hrec]at h0 hb0;revert h0 hb0;generalize w.alloc (Obj.cells #[.int .u8 r.k,.int .u64 r.p,.int .u64 r.i,.int .u64 r.s,.int .u64 r.e,.int .u64 r.u,.int .u64 r.v,.int .u64 r.c,.int .u64 r.z,.int .u64 r.m,.string ⟨r.n.toArray⟩,.string ⟨r.t.toArray⟩] 35)=W0;intro h0 hb0;rw[←hrec]at h0;have c1:=(gr h0).1;clear hrec;generalize hbb:w.heap.size=b at h0 hb0 c1 ⊢;have bel:∀W1:World,Below W0.heap.size W0 W1→Below b w W1:=fun W1 hb=>⟨hb.os.trans hb0.os,hb.tape.trans hb0.tape,hb.output.trans hb0.output,Nat.le_trans hb0.size hb.size,fun k hk=>(hb.block k (Nat.lt_of_lt_of_le (hbb▸hk) hb0.size)).trans (hb0.block k hk)⟩;cases hf:jc r.k gQ with
 |none=>
  have hR:bV r=false:=by simp[bV,hf]
  go_region_with(go_at_call 39;refine(gN _).mono ?_;rintro e W1 ⟨v,rfl,hv,hb⟩;obtain⟨u,hl,hu⟩:=iY hv r.k (w':=W1) rfl;replace hb:Below W0.heap.size W0 W1:=⟨hb.os,hb.tape,hb.output,hb.size,hb.block⟩;have h1:W1.heap[b]?=some (.cells (recC r) 35 (0,0)):=(hb.block b (Array.getElem?_eq_some_iff.1 h0).1).trans h0;have c2:=(gr h1).1;rw[hf]at hl);all_goals go_wp2;go_ret;exact⟨by rw[hR];rfl,hbb▸bel _ hb⟩|some ps=>
  obtain⟨hl8,hq8⟩:=Dq hf;by_cases hz:65535<r.z
  ·have hR:bV r=false:=by simp[bV,hf,hz]
   go_region_with(go_at_call 39;refine(gN _).mono ?_;rintro e W1 ⟨v,rfl,hv,hb⟩;obtain⟨u,hl,hu⟩:=iY hv r.k (w':=W1) rfl;replace hb:Below W0.heap.size W0 W1:=⟨hb.os,hb.tape,hb.output,hb.size,hb.block⟩;have h1:W1.heap[b]?=some (.cells (recC r) 35 (0,0)):=(hb.block b (Array.getElem?_eq_some_iff.1 h0).1).trans h0;have hlt:=(Array.getElem?_eq_some_iff.1 h1).1;obtain⟨c2,d1,d2,d3,d4,d5,d6,d7,c3,c4,d8,d9⟩:=gr h1;rw[hf]at hl);all_goals go_wp2;go_ret;exact⟨by rw[hR];rfl,hbb▸bel _ hb⟩
  by_cases hm:4294967295<r.m
  ·have hR:bV r=false:=by simp[bV,hf,hm]
   go_region_with(go_at_call 39;refine(gN _).mono ?_;rintro e W1 ⟨v,rfl,hv,hb⟩;obtain⟨u,hl,hu⟩:=iY hv r.k (w':=W1) rfl;replace hb:Below W0.heap.size W0 W1:=⟨hb.os,hb.tape,hb.output,hb.size,hb.block⟩;have h1:W1.heap[b]?=some (.cells (recC r) 35 (0,0)):=(hb.block b (Array.getElem?_eq_some_iff.1 h0).1).trans h0;have hlt:=(Array.getElem?_eq_some_iff.1 h1).1;obtain⟨c2,d1,d2,d3,d4,d5,d6,d7,c3,c4,d8,d9⟩:=gr h1;rw[hf]at hl);all_goals go_wp2;go_ret;exact⟨by rw[hR];rfl,hbb▸bel _ hb⟩
  have hR:bV r=(!(qk ps ({r with p:=0,i:=0,s:=0},false)).2&&decide ((qk ps ({r with p:=0,i:=0,s:=0},false)).1=⟨r.k,0,0,0,0,0,0,0,0,0,[],[]⟩)):=by unfold bV;rw[hf];dsimp only;rw[decide_eq_false hz,decide_eq_false hm];rfl
  go_region_with(go_at_call 39;refine(gN _).mono ?_;rintro e W1 ⟨v,rfl,hv,hb⟩;obtain⟨u,hl,hu⟩:=iY hv r.k (w':=W1) rfl;replace hb:Below W0.heap.size W0 W1:=⟨hb.os,hb.tape,hb.output,hb.size,hb.block⟩;have h1:W1.heap[b]?=some (.cells (recC r) 35 (0,0)):=(hb.block b (Array.getElem?_eq_some_iff.1 h0).1).trans h0;have hlt:=(Array.getElem?_eq_some_iff.1 h1).1;obtain⟨c2,d1,d2,d3,d4,d5,d6,d7,c3,c4,d8,d9⟩:=gr h1;rw[hf]at hl);all_goals
   rw[hf]at hu;obtain⟨A,c,rfl,hc,hA⟩:=xV hu;have t2:=DV W1 (Obj.cells #[.bool false] 95) (Obj.cells (recC r) 35);go_wp2_with(go_at_call 40;refine(Ib r false ps hq8 hl8 _ (W1.heap.size+1) W1.heap.size (by omega) ?hlr ?hlt A c hc ?hA ?h1 ?h2).mono ?_);case hlr=>rw[iA];omega
   case hlt=>rw[iA];omega
   case hA=>
    intro hp;obtain⟨bb,o,rfl,e1,e2,e3⟩:=hA hp;refine⟨bb,o,rfl,by omega,by omega,?_,fun i hi=>?_⟩;·rw[iA];omega
    ·rw[←e3 i hi];unfold World.cell?;rw[←t2 bb e2];rfl
   case h1=>exact Q4 _ _ _
   case h2=>exact QQ _ _ _
   rintro e W2 ⟨rfl,hV⟩;have s1:W2.heap[b]?=some (.cells (recC r) 35 (0,0)):=by rw[hV.block b (by rw[iA];omega) (by omega) (by omega)];exact(t2 b hlt).trans h1
   have s2:W2.cell? ⟨W1.heap.size,0,none⟩=some (.bool (qk ps ({r with p:=0,i:=0,s:=0},false)).2):=by rw[Lib.cell_of_heap hV.ht];rfl
   have B1:=bel _ hb;have bel2:Below b w W2:=⟨hV.os.trans B1.os,hV.tape.trans B1.tape,hV.output.trans B1.output,by have:=hV.size;rw[iA]at this;omega,fun k hk=>(hV.block k (by rw[iA];omega) (by omega) (by omega)).trans ((t2 k (by omega)).trans (B1.block k hk))⟩;have hr2:=hV.hr;clear hV t2 d1 d2 d3 d4 d5 d6 d7 d8 d9 hA c2 c3 c4 c1 hv hl hu h1;revert hR s2 hr2;generalize qk ps ({r with p:=0,i:=0,s:=0},false)=x;obtain⟨⟨xk,xp,xi,xs,xe,xu,xv,xc,xz,xm,xn,xt⟩,bx⟩:=x;intro hR s2 hr2;have c1:=(gr s1).1;obtain⟨d0,d1,d2,d3,d4,d5,d6,d7,d8,d9,d10,d11⟩:=gr hr2;cases bx with|true=>go_wp2;go_ret;exact⟨by rw[hR];rfl,hbb▸bel2⟩|false=>
    go_wp2;all_goals go_ret
    all_goals refine⟨?_,hbb▸bel2⟩
    all_goals rw[hR]
    all_goals simp[*]
theorem CX {P:Program}{f:FuncId}{args:List AV}{p:PV}{u:Value} (h:∀(w:World) (S:Nat→Prop) (vals:List Value),vals.length=args.length→(∀(i:Nat) (x:Value) (y:AV),vals[i]?=some x→args[i]?=some y→RV P S w (fun _=>.nilIface) (fun _=>False) x y)→Calls P f vals.toArray w fun e w'=>e=.returned u∧Below w.heap.size w w') (hu:∀S w,cM S w u p):A3 P f [] args [] (.pv p):=by
 intro w S0 β vals hS0 hlt hheap hvl hvr;have hno:∀t,bP (ab []) (fun t=>df (cellAt (.pv p) t)) t=none:=by
  intro t;show df (cellAt (.pv p) t)=none;simp only[cellAt,bG];split;·split<;>rfl
  ·rfl
 refine(h w (aK S0 w.heap.size β (ab []) w) vals hvl fun i x y hx hy=>?_).mono ?_;·exact(hvr i x y hx hy).mono (fun b hb=>⟨hb,rfl⟩) (fun t ⟨o,ho⟩=>by simp[ab]at ho)
 ·rintro e w' ⟨rfl,hb⟩;refine⟨_,fun _=>.nilIface,rfl,⟨hb.os,hb.tape,hb.output,hb.size,fun k hk _=>hb.block k hk⟩,⟨fun t o ho=>?_,fun t t' b ⟨o,ho⟩=>?_⟩,fun t b ⟨o,ho⟩=>?_,.pv _ _ (hu _ _)⟩;·rw[hno]at ho;cases ho
  ·rw[hno]at ho;cases ho
  ·rw[hno]at ho;cases ho
@[simp] def Bc:List AV→Option (Prop×AV)|[.agg [.pv (.int .u8 k),.pv (.int .u64 p),.pv (.int .u64 i),.pv (.int .u64 s),.pv (.int .u64 e),.pv (.int .u64 u),.pv (.int .u64 v),.pv (.int .u64 c),.pv (.int .u64 z),.pv (.int .u64 m),.pv (.str n),.pv (.str t)]]=>some (True,.pv (.bool (bV ⟨k,p,i,s,e,u,v,c,z,m,n,t⟩)))|_=>none
theorem CT:cf Try.prog 20 Bc:=by
 intro ys φ r h hφ;unfold Bc at h;split at h;·rename_i k p i s e u v c z m n t;cases h;refine CX (u:=.bool (bV ⟨k,p,i,s,e,u,v,c,z,m,n,t⟩)) (fun w S vals hvl hvr=>?_) fun S w=>.bool _;match vals,hvl with|[v0],_=>obtain⟨us,rfl,hl,hus⟩:=(hvr 0 v0 _ rfl rfl).cB;match us,hl with|[a0,a1,a2,a3,a4,a5,a6,a7,a8,a9,a10,a11],_=>cases(hus 0 _ a0 rfl rfl).aN;cases(hus 1 _ a1 rfl rfl).aN;cases(hus 2 _ a2 rfl rfl).aN;cases(hus 3 _ a3 rfl rfl).aN;cases(hus 4 _ a4 rfl rfl).aN;cases(hus 5 _ a5 rfl rfl).aN;cases(hus 6 _ a6 rfl rfl).aN;cases(hus 7 _ a7 rfl rfl).aN;cases(hus 8 _ a8 rfl rfl).aN;cases(hus 9 _ a9 rfl rfl).aN;cases(hus 10 _ a10 rfl rfl).ep;cases(hus 11 _ a11 rfl rfl).ep;exact xO ⟨k,p,i,s,e,u,v,c,z,m,n,t⟩ w
 ·cases h
noncomputable def Sx (a:Ap):Option (Ap×Bool):=if a.r.k=1 then some (gU a) else if a.r.k=2 then some (kS a) else if a.r.k=3 then some (gh a) else if a.r.k=4 then some (gM a) else if a.r.k=5 then some (uX a) else if a.r.k=6 then some (lJ a) else if a.r.k=7 then some (oO a) else if a.r.k=8 then some (ia a) else none
def aY (a:Ap):List AV:=[.pv (.int .u64 a.l.e),.pv (.int .u64 a.l.p),.pv (.int .u64 a.l.i),.pv (.int .u64 a.l.u),.pv (.bool a.l.h),.fr 86 (aG a.ps),.fr 61 (aF a.vs),.pv (.bool a.sl)]
noncomputable def cp (a:Ap):Ap×Int:=match Sx a with|none=>(a,220)|some x=>if bV a.r=true∧x.2=true then(x.1,0) else(a,220)
def sK (a:Ap):Prop:=dA a.l.e∧a.ps.length<50∧a.vs.length≤100000∧(∀e∈a.ps,l6 e)∧(∀v∈a.vs,lg v)∧dA a.r.c∧dA a.s∧lg (fv a)
noncomputable def Gq:List AV→Option (Prop×AV)|[.agg [.pv (.int .u64 e),.pv (.int .u64 p),.pv (.int .u64 i),.pv (.int .u64 u),.pv (.bool h),.pv (.ro a),.pv (.ro b),.pv (.bool sl)],.agg [.pv (.int .u8 k),.pv (.int .u64 rp),.pv (.int .u64 ri),.pv (.int .u64 rs),.pv (.int .u64 re),.pv (.int .u64 ru),.pv (.int .u64 rv),.pv (.int .u64 rc),.pv (.int .u64 rz),.pv (.int .u64 rm),.pv (.str rn),.pv (.str rt)],.pv (.int .u64 n),.pv (.int .u64 s)]=>(dec rowP a).bind fun ps=>(dec cK b).map fun vs=>(sK ⟨⟨e,p,i,u,h⟩,ps,vs,sl,⟨k,rp,ri,rs,re,ru,rv,rc,rz,rm,rn,rt⟩,n,s⟩,.aC [.agg (aY (cp ⟨⟨e,p,i,u,h⟩,ps,vs,sl,⟨k,rp,ri,rs,re,ru,rv,rc,rz,rm,rn,rt⟩,n,s⟩).1),.pv (.int .i64 (cp ⟨⟨e,p,i,u,h⟩,ps,vs,sl,⟨k,rp,ri,rs,re,ru,rv,rc,rz,rm,rn,rt⟩,n,s⟩).2)])|_=>none
theorem FG:cf Try.prog 7 Gq:=by
 intro ys φ r h hφ;unfold Gq at h;split at h
 ·rename_i e p i u h' ra rb sl k rp ri rs re ru rv rc rz rm rn rt n s;obtain⟨ps,hp,h⟩:=Option.bind_eq_some_iff.1 h;obtain⟨vs,hv,h⟩:=Option.map_eq_some_iff.1 h;cases h;cases aS hp;cases aR hv;obtain⟨h1,h2,h3,h4,h5,h6,h7,h8⟩:=hφ;have h2:ps.length<50:=h2;have h3:vs.length≤100000:=h3;have h9:ps.length≤100000:=by omega
  refine aP (ak Mp (ak IG (ak CT (ba (ks:=[2]) Ce (by kernel_rfl) (ba (ks:=[2]) BV (by kernel_rfl) (ba (ks:=[2]) wE (by kernel_rfl) (ba (ks:=[2]) AF (by kernel_rfl) (ba (ks:=[2]) HO (by kernel_rfl) (ba (ks:=[2]) Cr (by kernel_rfl) (ba (ks:=[2]) C9 (by kernel_rfl) (ba (ks:=[2]) xZ (by kernel_rfl) aq))))))))))) (by kernel_rfl) fn7 (by simp) ?_;unfold body7;apply af;·simp(config := { maxSteps := 3000000 });exact⟨rfl,rfl⟩
  apply af;·simp(config := { maxSteps := 3000000 }) [h9,h3];exact⟨rfl,rfl⟩
  have hE:dA e:=h1;have hP:(∀e∈ps,l6 e)=True:=eq_true h4;have hV:(∀v∈vs,lg v)=True:=eq_true h5;have hC:dA rc:=h6;have hS:dA s:=h7;have hP6:ps.length≤1000000:=by omega
  have hV6:vs.length≤1000000:=by omega
  clear hp hv;have hk:k=1∨k=2∨k=3∨k=4∨k=5∨k=6∨k=7∨k=8∨((k≠1∧k≠2∧k≠3∧k≠4)∧k≠5∧k≠6∧k≠7∧k≠8):=by omega
  rcases hk with rfl|rfl|rfl|rfl|rfl|rfl|rfl|rfl|⟨⟨k1,k2,k3,k4⟩,k5,k6,k7,k8⟩
  ·have hA:cp ⟨⟨e,p,i,u,h'⟩,ps,vs,sl,⟨1,rp,ri,rs,re,ru,rv,rc,rz,rm,rn,rt⟩,n,s⟩=if bV ⟨1,rp,ri,rs,re,ru,rv,rc,rz,rm,rn,rt⟩=true∧(gU ⟨⟨e,p,i,u,h'⟩,ps,vs,sl,⟨1,rp,ri,rs,re,ru,rv,rc,rz,rm,rn,rt⟩,n,s⟩).2=true then((gU ⟨⟨e,p,i,u,h'⟩,ps,vs,sl,⟨1,rp,ri,rs,re,ru,rv,rc,rz,rm,rn,rt⟩,n,s⟩).1,0) else(⟨⟨e,p,i,u,h'⟩,ps,vs,sl,⟨1,rp,ri,rs,re,ru,rv,rc,rz,rm,rn,rt⟩,n,s⟩,220):=rfl;rw[hA];apply af;·simp(config := { maxSteps := 3000000 }) [jf,ui];exact⟨rfl,rfl,rfl⟩
   generalize hx:gU ⟨⟨e,p,i,u,h'⟩,ps,vs,sl,⟨1,rp,ri,rs,re,ru,rv,rc,rz,rm,rn,rt⟩,n,s⟩=x;obtain⟨⟨⟨e',p',i',u',h''⟩,ps',vs',sl',⟨k',rp',ri',rs',re',ru',rv',rc',rz',rm',rn',rt'⟩,n',s'⟩,b⟩:=x;rw[bH];cases hR:bV ⟨1,rp,ri,rs,re,ru,rv,rc,rz,rm,rn,rt⟩ with
   |false=>
    apply af;·simp(config := { maxSteps := 3000000 }) [hR];exact⟨rfl,rfl⟩
    simp(config := { maxSteps := 3000000 }) [hR,h9,h3,aY]|true=>
    apply af;·simp(config := { maxSteps := 3000000 }) [hR,hx,lD,hE];exact⟨by kernel_rfl,rfl,rfl⟩
    cases b with|false=>simp(config := { maxSteps := 3000000 }) [hR,h9,h3,aY]|true=>simp(config := { maxSteps := 3000000 }) [hR,aY]
  ·have hA:cp ⟨⟨e,p,i,u,h'⟩,ps,vs,sl,⟨2,rp,ri,rs,re,ru,rv,rc,rz,rm,rn,rt⟩,n,s⟩=if bV ⟨2,rp,ri,rs,re,ru,rv,rc,rz,rm,rn,rt⟩=true∧(kS ⟨⟨e,p,i,u,h'⟩,ps,vs,sl,⟨2,rp,ri,rs,re,ru,rv,rc,rz,rm,rn,rt⟩,n,s⟩).2=true then((kS ⟨⟨e,p,i,u,h'⟩,ps,vs,sl,⟨2,rp,ri,rs,re,ru,rv,rc,rz,rm,rn,rt⟩,n,s⟩).1,0) else(⟨⟨e,p,i,u,h'⟩,ps,vs,sl,⟨2,rp,ri,rs,re,ru,rv,rc,rz,rm,rn,rt⟩,n,s⟩,220):=rfl;rw[hA];apply af;·simp(config := { maxSteps := 3000000 }) [jf,ui];exact⟨rfl,rfl,rfl⟩
   generalize hx:kS ⟨⟨e,p,i,u,h'⟩,ps,vs,sl,⟨2,rp,ri,rs,re,ru,rv,rc,rz,rm,rn,rt⟩,n,s⟩=x;obtain⟨⟨⟨e',p',i',u',h''⟩,ps',vs',sl',⟨k',rp',ri',rs',re',ru',rv',rc',rz',rm',rn',rt'⟩,n',s'⟩,b⟩:=x;rw[bH];cases hR:bV ⟨2,rp,ri,rs,re,ru,rv,rc,rz,rm,rn,rt⟩ with
   |false=>
    apply af;·simp(config := { maxSteps := 3000000 }) [hR];exact⟨rfl,rfl⟩
    simp(config := { maxSteps := 3000000 }) [hR,h9,h3,aY]|true=>
    apply af;·simp(config := { maxSteps := 3000000 }) [hR,hx,lD];exact⟨by kernel_rfl,rfl,rfl⟩
    cases b with|false=>simp(config := { maxSteps := 3000000 }) [hR,h9,h3,aY]|true=>simp(config := { maxSteps := 3000000 }) [hR,aY]
  ·have hA:cp ⟨⟨e,p,i,u,h'⟩,ps,vs,sl,⟨3,rp,ri,rs,re,ru,rv,rc,rz,rm,rn,rt⟩,n,s⟩=if bV ⟨3,rp,ri,rs,re,ru,rv,rc,rz,rm,rn,rt⟩=true∧(gh ⟨⟨e,p,i,u,h'⟩,ps,vs,sl,⟨3,rp,ri,rs,re,ru,rv,rc,rz,rm,rn,rt⟩,n,s⟩).2=true then((gh ⟨⟨e,p,i,u,h'⟩,ps,vs,sl,⟨3,rp,ri,rs,re,ru,rv,rc,rz,rm,rn,rt⟩,n,s⟩).1,0) else(⟨⟨e,p,i,u,h'⟩,ps,vs,sl,⟨3,rp,ri,rs,re,ru,rv,rc,rz,rm,rn,rt⟩,n,s⟩,220):=rfl;rw[hA];apply af;·simp(config := { maxSteps := 3000000 }) [jf,ui];exact⟨rfl,rfl,rfl⟩
   generalize hx:gh ⟨⟨e,p,i,u,h'⟩,ps,vs,sl,⟨3,rp,ri,rs,re,ru,rv,rc,rz,rm,rn,rt⟩,n,s⟩=x;obtain⟨⟨⟨e',p',i',u',h''⟩,ps',vs',sl',⟨k',rp',ri',rs',re',ru',rv',rc',rz',rm',rn',rt'⟩,n',s'⟩,b⟩:=x;rw[bH];cases hR:bV ⟨3,rp,ri,rs,re,ru,rv,rc,rz,rm,rn,rt⟩ with
   |false=>
    apply af;·simp(config := { maxSteps := 3000000 }) [hR];exact⟨rfl,rfl⟩
    simp(config := { maxSteps := 3000000 }) [hR,h9,h3,aY]|true=>
    apply af;·simp(config := { maxSteps := 3000000 }) [hR,hx,lD];exact⟨by kernel_rfl,rfl,rfl⟩
    cases b with|false=>simp(config := { maxSteps := 3000000 }) [hR,h9,h3,aY]|true=>simp(config := { maxSteps := 3000000 }) [hR,aY]
  ·have hA:cp ⟨⟨e,p,i,u,h'⟩,ps,vs,sl,⟨4,rp,ri,rs,re,ru,rv,rc,rz,rm,rn,rt⟩,n,s⟩=if bV ⟨4,rp,ri,rs,re,ru,rv,rc,rz,rm,rn,rt⟩=true∧(gM ⟨⟨e,p,i,u,h'⟩,ps,vs,sl,⟨4,rp,ri,rs,re,ru,rv,rc,rz,rm,rn,rt⟩,n,s⟩).2=true then((gM ⟨⟨e,p,i,u,h'⟩,ps,vs,sl,⟨4,rp,ri,rs,re,ru,rv,rc,rz,rm,rn,rt⟩,n,s⟩).1,0) else(⟨⟨e,p,i,u,h'⟩,ps,vs,sl,⟨4,rp,ri,rs,re,ru,rv,rc,rz,rm,rn,rt⟩,n,s⟩,220):=rfl;rw[hA];have hN:lg (fv ⟨⟨e,p,i,u,h'⟩,ps,vs,sl,⟨4,rp,ri,rs,re,ru,rv,rc,rz,rm,rn,rt⟩,n,s⟩):=h8;apply af;·simp(config := { maxSteps := 3000000 }) [jf,ui];exact⟨rfl,rfl,rfl⟩
   generalize hx:gM ⟨⟨e,p,i,u,h'⟩,ps,vs,sl,⟨4,rp,ri,rs,re,ru,rv,rc,rz,rm,rn,rt⟩,n,s⟩=x;obtain⟨⟨⟨e',p',i',u',h''⟩,ps',vs',sl',⟨k',rp',ri',rs',re',ru',rv',rc',rz',rm',rn',rt'⟩,n',s'⟩,b⟩:=x;rw[bH];cases hR:bV ⟨4,rp,ri,rs,re,ru,rv,rc,rz,rm,rn,rt⟩ with
   |false=>
    apply af;·simp(config := { maxSteps := 3000000 }) [hR];exact⟨rfl,rfl⟩
    simp(config := { maxSteps := 3000000 }) [hR,h9,h3,aY]|true=>
    apply af;·simp(config := { maxSteps := 3000000 }) [hR,hx,lD,h3,hV,hN];exact⟨by kernel_rfl,rfl,rfl⟩
    cases b with|false=>simp(config := { maxSteps := 3000000 }) [hR,h9,h3,aY]|true=>simp(config := { maxSteps := 3000000 }) [hR,aY]
  ·have hA:cp ⟨⟨e,p,i,u,h'⟩,ps,vs,sl,⟨5,rp,ri,rs,re,ru,rv,rc,rz,rm,rn,rt⟩,n,s⟩=if bV ⟨5,rp,ri,rs,re,ru,rv,rc,rz,rm,rn,rt⟩=true∧(uX ⟨⟨e,p,i,u,h'⟩,ps,vs,sl,⟨5,rp,ri,rs,re,ru,rv,rc,rz,rm,rn,rt⟩,n,s⟩).2=true then((uX ⟨⟨e,p,i,u,h'⟩,ps,vs,sl,⟨5,rp,ri,rs,re,ru,rv,rc,rz,rm,rn,rt⟩,n,s⟩).1,0) else(⟨⟨e,p,i,u,h'⟩,ps,vs,sl,⟨5,rp,ri,rs,re,ru,rv,rc,rz,rm,rn,rt⟩,n,s⟩,220):=rfl;rw[hA];apply af;·simp(config := { maxSteps := 3000000 }) [jf,ui];exact⟨rfl,rfl,rfl⟩
   generalize hx:uX ⟨⟨e,p,i,u,h'⟩,ps,vs,sl,⟨5,rp,ri,rs,re,ru,rv,rc,rz,rm,rn,rt⟩,n,s⟩=x;obtain⟨⟨⟨e',p',i',u',h''⟩,ps',vs',sl',⟨k',rp',ri',rs',re',ru',rv',rc',rz',rm',rn',rt'⟩,n',s'⟩,b⟩:=x;rw[bH];cases hR:bV ⟨5,rp,ri,rs,re,ru,rv,rc,rz,rm,rn,rt⟩ with
   |false=>
    apply af;·simp(config := { maxSteps := 3000000 }) [hR];exact⟨rfl,rfl⟩
    simp(config := { maxSteps := 3000000 }) [hR,h9,h3,aY]|true=>
    apply af;·simp(config := { maxSteps := 3000000 }) [hR,hx,lD,hP6,hV6];exact⟨by kernel_rfl,rfl,rfl⟩
    cases b with|false=>simp(config := { maxSteps := 3000000 }) [hR,h9,h3,aY]|true=>simp(config := { maxSteps := 3000000 }) [hR,aY]
  ·have hA:cp ⟨⟨e,p,i,u,h'⟩,ps,vs,sl,⟨6,rp,ri,rs,re,ru,rv,rc,rz,rm,rn,rt⟩,n,s⟩=if bV ⟨6,rp,ri,rs,re,ru,rv,rc,rz,rm,rn,rt⟩=true∧(lJ ⟨⟨e,p,i,u,h'⟩,ps,vs,sl,⟨6,rp,ri,rs,re,ru,rv,rc,rz,rm,rn,rt⟩,n,s⟩).2=true then((lJ ⟨⟨e,p,i,u,h'⟩,ps,vs,sl,⟨6,rp,ri,rs,re,ru,rv,rc,rz,rm,rn,rt⟩,n,s⟩).1,0) else(⟨⟨e,p,i,u,h'⟩,ps,vs,sl,⟨6,rp,ri,rs,re,ru,rv,rc,rz,rm,rn,rt⟩,n,s⟩,220):=rfl;rw[hA];apply af;·simp(config := { maxSteps := 3000000 }) [jf,ui];exact⟨rfl,rfl,rfl⟩
   generalize hx:lJ ⟨⟨e,p,i,u,h'⟩,ps,vs,sl,⟨6,rp,ri,rs,re,ru,rv,rc,rz,rm,rn,rt⟩,n,s⟩=x;obtain⟨⟨⟨e',p',i',u',h''⟩,ps',vs',sl',⟨k',rp',ri',rs',re',ru',rv',rc',rz',rm',rn',rt'⟩,n',s'⟩,b⟩:=x;rw[bH];cases hR:bV ⟨6,rp,ri,rs,re,ru,rv,rc,rz,rm,rn,rt⟩ with
   |false=>
    apply af;·simp(config := { maxSteps := 3000000 }) [hR];exact⟨rfl,rfl⟩
    simp(config := { maxSteps := 3000000 }) [hR,h9,h3,aY]|true=>
    apply af;·simp(config := { maxSteps := 3000000 }) [hR,hx,lD,h9];exact⟨by kernel_rfl,rfl,rfl⟩
    cases b with|false=>simp(config := { maxSteps := 3000000 }) [hR,h9,h3,aY]|true=>simp(config := { maxSteps := 3000000 }) [hR,aY]
  ·have hA:cp ⟨⟨e,p,i,u,h'⟩,ps,vs,sl,⟨7,rp,ri,rs,re,ru,rv,rc,rz,rm,rn,rt⟩,n,s⟩=if bV ⟨7,rp,ri,rs,re,ru,rv,rc,rz,rm,rn,rt⟩=true∧(oO ⟨⟨e,p,i,u,h'⟩,ps,vs,sl,⟨7,rp,ri,rs,re,ru,rv,rc,rz,rm,rn,rt⟩,n,s⟩).2=true then((oO ⟨⟨e,p,i,u,h'⟩,ps,vs,sl,⟨7,rp,ri,rs,re,ru,rv,rc,rz,rm,rn,rt⟩,n,s⟩).1,0) else(⟨⟨e,p,i,u,h'⟩,ps,vs,sl,⟨7,rp,ri,rs,re,ru,rv,rc,rz,rm,rn,rt⟩,n,s⟩,220):=rfl;rw[hA];apply af;·simp(config := { maxSteps := 3000000 }) [jf,ui];exact⟨rfl,rfl,rfl⟩
   generalize hx:oO ⟨⟨e,p,i,u,h'⟩,ps,vs,sl,⟨7,rp,ri,rs,re,ru,rv,rc,rz,rm,rn,rt⟩,n,s⟩=x;obtain⟨⟨⟨e',p',i',u',h''⟩,ps',vs',sl',⟨k',rp',ri',rs',re',ru',rv',rc',rz',rm',rn',rt'⟩,n',s'⟩,b⟩:=x;rw[bH];cases hR:bV ⟨7,rp,ri,rs,re,ru,rv,rc,rz,rm,rn,rt⟩ with
   |false=>
    apply af;·simp(config := { maxSteps := 3000000 }) [hR];exact⟨rfl,rfl⟩
    simp(config := { maxSteps := 3000000 }) [hR,h9,h3,aY]|true=>
    apply af;·simp(config := { maxSteps := 3000000 }) [hR,hx,lD];exact⟨by kernel_rfl,rfl,rfl⟩
    cases b with|false=>simp(config := { maxSteps := 3000000 }) [hR,h9,h3,aY]|true=>simp(config := { maxSteps := 3000000 }) [hR,aY]
  ·have hA:cp ⟨⟨e,p,i,u,h'⟩,ps,vs,sl,⟨8,rp,ri,rs,re,ru,rv,rc,rz,rm,rn,rt⟩,n,s⟩=if bV ⟨8,rp,ri,rs,re,ru,rv,rc,rz,rm,rn,rt⟩=true∧(ia ⟨⟨e,p,i,u,h'⟩,ps,vs,sl,⟨8,rp,ri,rs,re,ru,rv,rc,rz,rm,rn,rt⟩,n,s⟩).2=true then((ia ⟨⟨e,p,i,u,h'⟩,ps,vs,sl,⟨8,rp,ri,rs,re,ru,rv,rc,rz,rm,rn,rt⟩,n,s⟩).1,0) else(⟨⟨e,p,i,u,h'⟩,ps,vs,sl,⟨8,rp,ri,rs,re,ru,rv,rc,rz,rm,rn,rt⟩,n,s⟩,220):=rfl;rw[hA];apply af;·simp(config := { maxSteps := 3000000 }) [jf,ui];exact⟨rfl,rfl,rfl⟩
   generalize hx:ia ⟨⟨e,p,i,u,h'⟩,ps,vs,sl,⟨8,rp,ri,rs,re,ru,rv,rc,rz,rm,rn,rt⟩,n,s⟩=x;obtain⟨⟨⟨e',p',i',u',h''⟩,ps',vs',sl',⟨k',rp',ri',rs',re',ru',rv',rc',rz',rm',rn',rt'⟩,n',s'⟩,b⟩:=x;rw[bH];cases hR:bV ⟨8,rp,ri,rs,re,ru,rv,rc,rz,rm,rn,rt⟩ with
   |false=>
    apply af;·simp(config := { maxSteps := 3000000 }) [hR];exact⟨rfl,rfl⟩
    simp(config := { maxSteps := 3000000 }) [hR,h9,h3,aY]|true=>
    apply af;·simp(config := { maxSteps := 3000000 }) [hR,hx,lD,h2,hP,hC,hS,h3,hV];exact⟨by kernel_rfl,rfl,rfl⟩
    cases b with|false=>simp(config := { maxSteps := 3000000 }) [hR,h9,h3,aY]|true=>simp(config := { maxSteps := 3000000 }) [hR,aY]
  ·have hA:cp ⟨⟨e,p,i,u,h'⟩,ps,vs,sl,⟨k,rp,ri,rs,re,ru,rv,rc,rz,rm,rn,rt⟩,n,s⟩=(⟨⟨e,p,i,u,h'⟩,ps,vs,sl,⟨k,rp,ri,rs,re,ru,rv,rc,rz,rm,rn,rt⟩,n,s⟩,220):=by simp only[cp,Sx,k1,k2,k3,k4,k5,k6,k7,k8,if_false]
   rw[hA];apply af;·simp(config := { maxSteps := 3000000 }) [jf,ui,k1,k2,k3,k4,k5,k6,k7,k8];exact⟨rfl,rfl,rfl⟩
   have hnf:ou Value.nilFunc=PV.val Value.nilFunc:=rfl;simp(config := { maxSteps := 3000000 }) [h9,h3,aY,hnf]
 ·cases h
@[simp] theorem Ta (e p i u:Int) (h:Bool) (a b:List (List PV)) (sl:Bool) (k rp ri rs re ru rv rc rz rm:Int) (rn rt:List UInt8) (n s:Int):Gq [.agg [.pv (.int .u64 e),.pv (.int .u64 p),.pv (.int .u64 i),.pv (.int .u64 u),.pv (.bool h),.pv (.ro a),.pv (.ro b),.pv (.bool sl)],.agg [.pv (.int .u8 k),.pv (.int .u64 rp),.pv (.int .u64 ri),.pv (.int .u64 rs),.pv (.int .u64 re),.pv (.int .u64 ru),.pv (.int .u64 rv),.pv (.int .u64 rc),.pv (.int .u64 rz),.pv (.int .u64 rm),.pv (.str rn),.pv (.str rt)],.pv (.int .u64 n),.pv (.int .u64 s)]=(dec rowP a).bind fun ps=>(dec cK b).map fun vs=>(sK ⟨⟨e,p,i,u,h⟩,ps,vs,sl,⟨k,rp,ri,rs,re,ru,rv,rc,rz,rm,rn,rt⟩,n,s⟩,.aC [.agg (aY (cp ⟨⟨e,p,i,u,h⟩,ps,vs,sl,⟨k,rp,ri,rs,re,ru,rv,rc,rz,rm,rn,rt⟩,n,s⟩).1),.pv (.int .i64 (cp ⟨⟨e,p,i,u,h⟩,ps,vs,sl,⟨k,rp,ri,rs,re,ru,rv,rc,rz,rm,rn,rt⟩,n,s⟩).2)]):=rfl
def p3:Pn:=⟨3,2,5⟩
def x2:Vn:=⟨2,0,7,1,0,0,0,[],false,false⟩
def x4:Vn:=⟨4,2,7,1,0,0,0,[],false,false⟩
def We:Vn:=⟨2,0,7,1,0,0,0,[],false,true⟩
theorem kA:cp ⟨⟨0,0,0,0,false⟩,[],[],false,⟨1,7,1,0,1,9,0,0,0,0,[],[]⟩,1,0⟩=(⟨⟨1,7,1,9,true⟩,[],[],false,⟨1,7,1,0,1,9,0,0,0,0,[],[]⟩,1,0⟩,0):=by kernel_rfl
theorem oA:sK ⟨⟨0,0,0,0,false⟩,[],[],false,⟨1,7,1,0,1,9,0,0,0,0,[],[]⟩,1,0⟩:=by simp[sK,dA,l6,lg,fv,p3,x2,x4]
theorem kB:cp ⟨⟨1,7,1,9,true⟩,[],[],false,⟨4,7,1,0,1,0,0,0,0,0,[],[]⟩,2,0⟩=(⟨⟨1,7,1,9,true⟩,[],[x2],false,⟨4,7,1,0,1,0,0,0,0,0,[],[]⟩,2,0⟩,0):=by kernel_rfl
theorem oB:sK ⟨⟨1,7,1,9,true⟩,[],[],false,⟨4,7,1,0,1,0,0,0,0,0,[],[]⟩,2,0⟩:=by simp[sK,dA,l6,lg,fv,p3,x2,x4]
theorem kC:cp ⟨⟨1,7,1,9,true⟩,[],[x2],false,⟨5,0,0,0,0,5,2,0,0,0,[],[]⟩,3,0⟩=(⟨⟨1,7,1,9,true⟩,[p3],[x2],false,⟨5,0,0,0,0,5,2,0,0,0,[],[]⟩,3,0⟩,0):=by kernel_rfl
theorem oC:sK ⟨⟨1,7,1,9,true⟩,[],[x2],false,⟨5,0,0,0,0,5,2,0,0,0,[],[]⟩,3,0⟩:=by simp[sK,dA,l6,lg,fv,p3,x2,x4]
theorem kX:cp ⟨⟨1,7,1,9,true⟩,[p3],[x2],false,⟨4,7,1,0,1,0,2,0,0,0,[],[]⟩,4,0⟩=(⟨⟨1,7,1,9,true⟩,[p3],[x2,x4],false,⟨4,7,1,0,1,0,2,0,0,0,[],[]⟩,4,0⟩,0):=by kernel_rfl
theorem oX:sK ⟨⟨1,7,1,9,true⟩,[p3],[x2],false,⟨4,7,1,0,1,0,2,0,0,0,[],[]⟩,4,0⟩:=by simp[sK,dA,l6,lg,fv,p3,x2,x4]
theorem kY:cp ⟨⟨1,7,1,9,true⟩,[p3],[x2,x4],false,⟨8,0,0,0,0,0,0,3,0,0,[],[]⟩,5,0⟩=(⟨⟨1,7,1,9,true⟩,[p3],[x2,x4],false,⟨8,0,0,0,0,0,0,3,0,0,[],[]⟩,5,0⟩,0):=by kernel_rfl
theorem oY:sK ⟨⟨1,7,1,9,true⟩,[p3],[x2,x4],false,⟨8,0,0,0,0,0,0,3,0,0,[],[]⟩,5,0⟩:=by simp[sK,dA,l6,lg,fv,p3,x2,x4]
theorem kZ:cp ⟨⟨1,7,1,9,true⟩,[p3],[x2,x4],false,⟨8,0,0,0,0,0,0,6,0,0,[],[]⟩,5,0⟩=(⟨⟨1,7,1,9,true⟩,[],[We,x4],false,⟨8,0,0,0,0,0,0,6,0,0,[],[]⟩,5,0⟩,0):=by kernel_rfl
theorem oZ:sK ⟨⟨1,7,1,9,true⟩,[p3],[x2,x4],false,⟨8,0,0,0,0,0,0,6,0,0,[],[]⟩,5,0⟩:=by simp[sK,dA,l6,lg,fv,p3,x2,x4]
theorem kK:cp ⟨⟨0,0,0,0,false⟩,[],[],false,⟨4,7,1,0,0,0,0,0,0,0,[],[]⟩,1,0⟩=(⟨⟨0,0,0,0,false⟩,[],[],false,⟨4,7,1,0,0,0,0,0,0,0,[],[]⟩,1,0⟩,220):=by kernel_rfl
theorem oK:sK ⟨⟨0,0,0,0,false⟩,[],[],false,⟨4,7,1,0,0,0,0,0,0,0,[],[]⟩,1,0⟩:=by simp[sK,dA,l6,lg,fv,p3,x2,x4]
theorem kM:cp ⟨⟨0,0,0,0,false⟩,[],[],false,⟨1,0,0,0,2,0,0,0,0,0,[],[]⟩,1,0⟩=(⟨⟨0,0,0,0,false⟩,[],[],false,⟨1,0,0,0,2,0,0,0,0,0,[],[]⟩,1,0⟩,220):=by kernel_rfl
theorem oM:sK ⟨⟨0,0,0,0,false⟩,[],[],false,⟨1,0,0,0,2,0,0,0,0,0,[],[]⟩,1,0⟩:=by simp[sK,dA,l6,lg,fv,p3,x2,x4]
theorem sY:aO [x2,x4]=[x2,x4]:=rfl
theorem sZ:aO [We,x4]=[x4]:=rfl
theorem fN:bE []:=fun _ h=>by cases h
theorem rX:rowAt (aF [x2]) 0=[.int .u64 2,.int .u64 0,.int .u64 7,.int .u64 1,.int .u64 0,.int .u64 0,.int .u64 0,.str [],.bool false,.bool false]:=rfl
theorem rZ:rowAt (aF [We,x4]) 0=[.int .u64 2,.int .u64 0,.int .u64 7,.int .u64 1,.int .u64 0,.int .u64 0,.int .u64 0,.str [],.bool false,.bool true]:=rfl
noncomputable def Hg:List AV→Option (Prop×AV)|[]=>some (True,.pv (.bool true))|_=>none
@[simp] theorem TN:Hg []=some (True,.pv (.bool true)):=rfl
theorem Ny:cf Try.prog 5 Hg:=by
 intro ys φ r h hφ;unfold Hg at h;split at h
 ·cases h;refine aP (ak FG (ak wv (ak ph aq))) (by kernel_rfl) fn5 (by simp) ?_;unfold body5;apply af;·simp(config := { maxSteps := 3000000 });exact⟨rfl,rfl⟩
  apply af;·simp(config := { maxSteps := 3000000 });exact⟨rfl,rfl⟩
  apply af;·simp(config := { maxSteps := 3000000 }) [kA,oA,aY,fN,bQ,aV];exact⟨rfl,rfl⟩
  apply af;·simp(config := { maxSteps := 3000000 }) [kB,oB,aY,fN,bQ,aV];exact⟨rfl,rfl⟩
  apply af;·simp(config := { maxSteps := 3000000 }) [kC,oC,aY,fN,bQ,aV];exact⟨rfl,rfl⟩
  apply af;·simp(config := { maxSteps := 3000000 }) [kX,oX,aY,fN,bQ,aV];exact⟨rfl,rfl⟩
  apply af;·simp(config := { maxSteps := 3000000 }) [kY,oY,aY,fN,bQ,aV];exact⟨rfl,rfl⟩
  apply af;·simp(config := { maxSteps := 3000000 }) [kZ,oZ,aY,fN,bQ,aV];exact⟨rfl,rfl⟩
  apply af;·simp(config := { maxSteps := 3000000 }) [kK,oK,aY,fN,bQ,aV];exact⟨rfl,rfl⟩
  apply af;·simp(config := { maxSteps := 3000000 }) [kM,oM,aY,fN,bQ,aV];exact⟨rfl,rfl⟩
  apply af;·simp(config := { maxSteps := 3000000 });exact⟨rfl,rfl⟩
  apply af
  ·refine(show ch _ _ _ _ _ from ?_);apply eJ 10 rfl rfl;·simp(config := { maxSteps := 3000000 }) [fu,sY,sZ,rX,rZ,aV];exact⟨rfl,rfl⟩
   apply eJ 8 rfl rfl;·simp(config := { maxSteps := 3000000 }) [fu,sY,sZ,rX,rZ,aV];exact⟨rfl,rfl⟩
   apply eJ 8 rfl rfl;·simp(config := { maxSteps := 3000000 }) [fu,sY,sZ,rX,rZ,aV];exact⟨rfl,rfl⟩
   apply eJ 7 rfl rfl;·simp(config := { maxSteps := 3000000 }) [fu,sY,sZ,rX,rZ,aV];exact⟨rfl,rfl⟩
   apply eJ 7 rfl rfl;·simp(config := { maxSteps := 3000000 }) [fu,sY,sZ,rX,rZ,aV];exact⟨rfl,rfl⟩
   apply eJ 6 rfl rfl;·simp(config := { maxSteps := 3000000 }) [fu,sY,sZ,rX,rZ,aV];exact⟨rfl,rfl⟩
   simp(config := { maxSteps := 3000000 }) [rZ];exact⟨rfl,rfl⟩
  simp(config := { maxSteps := 3000000 })
 ·cases h
theorem kh {l:List Vn} (hr:aJ l=true) {i j:Nat} (hij:i<j) (hj:j<l.length):l[i].n<l[j].n:=by
 have h1:=iX hr (i:=i) (by omega);have h2:=iF hr (i:=i+1) (j-(i+1)) (by omega);have e:i+1+(j-(i+1))=j:=by omega
 simp only[e]at h2;omega
theorem qC {l:List Vn} (hr:aJ l=true) {i:Nat} (hi:i<l.length):0<l[i].n:=by have hok:=(dM l).1 hr i hi;unfold iL at hok;rw[List.getElem?_eq_getElem hi]at hok;simp only[Option.getD_some,Bool.and_eq_true,decide_eq_true_eq]at hok;have h1:=hok.1;unfold fZ at h1;cases i with|zero=>simpa using h1|succ i=>
 have h0:=kh hr (i:=0) (j:=i+1) (by omega) hi;have hok0:=(dM l).1 hr 0 (by omega);unfold iL at hok0;rw[List.getElem?_eq_getElem (show 0<l.length by omega)]at hok0;simp only[Option.getD_some,Bool.and_eq_true,decide_eq_true_eq]at hok0;have h2:=hok0.1;unfold fZ at h2;have h2':0<l[0].n:=by simpa using h2
 omega
theorem sc {l:List Vn} (hlt:∀(i j:Nat) (hij:i<j) (hj:j<l.length),(l[i]'(by omega)).n<l[j].n) (hpos:∀v∈l,0<v.n) (hb:∀v∈l,bz v≠0→∃w∈l,w.n=bz v∧w.n<v.n):aJ l=true:=by
 rw[dM];intro i hi;unfold iL;rw[List.getElem?_eq_getElem hi];simp only[Option.getD_some,Bool.and_eq_true,Bool.or_eq_true,decide_eq_true_eq];refine⟨?_,?_⟩;·unfold fZ;cases i with|zero=>simpa using hpos _ (List.getElem_mem hi)|succ i=>have:=hlt i (i+1) (by omega) hi;simpa[show i<l.length by omega]using this
 ·by_cases h0:bz l[i]=0;·exact .inl h0
  ·right;obtain⟨w,hw,h1,h2⟩:=hb l[i] (List.getElem_mem hi) h0;obtain⟨k,hk,rfl⟩:=List.getElem_of_mem hw;have hki:k<i:=by
    rcases Nat.lt_trichotomy k i with h|h|h;·exact h
    ·subst h;omega
    ·have:=hlt i k h hk;omega
   rcases ki (l.take i) (bz l[i]) with⟨j,hj,h3,_⟩|⟨_,h3⟩;·omega
   ·exact absurd h1 (h3 l[k] (by rw[List.mem_take_iff_getElem];exact⟨k,by omega,rfl⟩))
theorem yG {l:List Vn} (hr:aJ l=true) {v:Vn} (hv:v∈l) (hb:bz v≠0):∃w∈l,w.n=bz v∧w.n<v.n:=by obtain⟨i,hi,rfl⟩:=List.getElem_of_mem hv;obtain⟨j,hj,_,h1⟩:=oy hr hi hb;exact⟨l[j],List.getElem_mem _,h1,kh hr hj hi⟩
theorem tD {l:List Vn} (hr:aJ l=true) {v w:Vn} (hv:v∈l) (hw:w∈l) (h:v.n=w.n):v=w:=by obtain⟨i,hi,rfl⟩:=List.getElem_of_mem hv;obtain⟨j,hj,rfl⟩:=List.getElem_of_mem hw;have:=vH hr hi hj h;subst this;rfl
theorem tl {l:List Vn} (hr:aJ l=true) (p:Vn→Bool) (hc:∀v∈l,p v=true→bz v≠0→∀w∈l,w.n=bz v→p w=true):aJ (l.filter p)=true:=by
 have hpw:l.Pairwise fun a b=>a.n<b.n:=by rw[List.pairwise_iff_getElem];intro i j hi hj hij;exact kh hr hij hj
 have hpf:=hpw.filter p;rw[List.pairwise_iff_getElem]at hpf;refine sc (fun i j hij hj=>hpf i j (by omega) hj hij) (fun v hv=>?_) fun v hv hb=>?_;·obtain⟨i,hi,rfl⟩:=List.getElem_of_mem (List.mem_filter.1 hv).1;exact qC hr hi
 ·obtain⟨h1,h2⟩:=List.mem_filter.1 hv;obtain⟨w,hw,h3,h4⟩:=yG hr h1 hb;exact⟨w,List.mem_filter.2 ⟨hw,hc v h1 h2 hb w hw h3⟩,h3,h4⟩
inductive Ch (l:List Vn):Vn→List Vn→Prop|base (v:Vn):bz v=0→Ch l v [v]|step (v w:Vn) (p:List Vn):w∈l→w.n=bz v→bz v≠0→Ch l w p→Ch l v (p++[v])
theorem Eb {l:List Vn} (hr:aJ l=true):∀(i:Nat) (hi:i<l.length),Ch l l[i] (cI l l.length i):=by intro i;induction i using Nat.strongRecOn with|_ i ih=>
 intro hi;by_cases hb:bz l[i]=0;·rw[lz (by rw[eG hi];exact hb),eG hi];exact .base _ hb
 ·obtain⟨j,hj,hx,hn⟩:=oy hr hi hb;rw[xM hr hi hb hj hx];exact .step _ l[j] _ (List.getElem_mem _) hn hb (ih j hj (by omega))
theorem Ch.uniq {l:List Vn} (hr:aJ l=true) {v:Vn}{p q:List Vn} (hp:Ch l v p) (hq:Ch l v q):p=q:=by induction hp generalizing q with
 |base v h=>cases hq with|base _ _=>rfl|step _ _ _ _ _ h' _=>exact absurd h h'
 |step v w p hw hn hb _ ih=>cases hq with|base _ h'=>exact absurd h' hb|step _ w' p' hw' hn' _ h'=>have:w=w':=tD hr hw hw' (hn.trans hn'.symm);subst this;rw[ih h']
theorem Ch.mono {l m:List Vn} (hs:∀v∈l,v∈m) {v:Vn}{p:List Vn} (h:Ch l v p):Ch m v p:=by induction h with|base v h=>exact .base v h|step v w p hw hn hb _ ih=>exact .step v w p (hs w hw) hn hb ih
theorem Ch.map {f:Vn→Vn} (hn:∀v,(f v).n=v.n) (hb:∀v,bz (f v)=bz v) {l:List Vn}{v:Vn}{p:List Vn} (h:Ch l v p):Ch (l.map f) (f v) (p.map f):=by induction h with|base v h=>exact .base _ ((hb v).trans h)|step v w p hw h1 h2 _ ih=>rw[List.map_append];exact .step _ (f w) _ (List.mem_map.2 ⟨w,hw,rfl⟩) (by rw[hn,hb,h1]) (by rw[hb];exact h2) ih
theorem Ch.mem {l:List Vn}{v:Vn}{p:List Vn} (h:Ch l v p) (hv:v∈l):∀x∈p,x∈l:=by induction h with|base v h=>intro x hx;rw[List.mem_singleton]at hx;rw[hx];exact hv|step v w p hw _ _ _ ih=>
 intro x hx;rcases List.mem_append.1 hx with hx|hx;·exact ih hw x hx
 ·rw[List.mem_singleton]at hx;rw[hx];exact hv
theorem Ch.self {l:List Vn}{v:Vn}{p:List Vn} (h:Ch l v p):∃q,p=q++[v]:=by cases h with|base _ _=>exact⟨[],rfl⟩|step _ _ p _ _ _ _=>exact⟨p,rfl⟩
theorem Ch.closed {l:List Vn}{v:Vn}{p:List Vn} (h:Ch l v p):∀x∈p,bz x≠0→∃y∈p,y.n=bz x:=by induction h with|base v h=>intro x hx hb;rw[List.mem_singleton]at hx;rw[hx]at hb;exact absurd h hb|step v w p hw hn _ hc ih=>
 intro x hx0 hb;rcases List.mem_append.1 hx0 with hx|hx;·obtain⟨y,hy,h⟩:=ih x hx hb;exact⟨y,List.mem_append.2 (.inl hy),h⟩
 ·have hxv:=List.mem_singleton.1 hx;obtain⟨q,hq⟩:=hc.self;exact⟨w,by rw[hq];simp,by rw[hxv];exact hn⟩
theorem lh {l:List Vn} (hr:aJ l=true) {v:Vn} (hv:v∈l) (hh:v.fO=false):dw l v.n=some v:=by
 have hs:v∈aO l:=by unfold aO;simp[hv,hh]
 unfold dw;cases hf:(aO l).find? fun w=>decide (w.n=v.n) with|none=>rw[List.find?_eq_none]at hf;exact absurd (decide_eq_true rfl) (hf v hs)|some w=>
  have h1:=List.mem_of_find?_eq_some hf;have h2:=List.find?_some hf;have hw:w∈l:=by unfold aO at h1;exact(List.mem_filter.1 h1).1
  rw[tD hr hw hv (by simpa using h2)]
theorem kq {l:List Vn}{n:Int}{v:Vn} (h:dw l n=some v):v∈l∧v.n=n∧v.fO=false:=by unfold dw at h;have h1:=List.mem_of_find?_eq_some h;have h2:=List.find?_some h;unfold aO at h1;obtain⟨h3,h4⟩:=List.mem_filter.1 h1;exact⟨h3,by simpa using h2,by simpa using h4⟩
theorem zf {l:List Vn} (hr:aJ l=true) {n:Int}{v:Vn} (h:dw l n=some v):(dK l n).2=0∧Ch l v (dK l n).1:=by
 obtain⟨h1,h2,h3⟩:=kq h;obtain⟨i,hi,rfl⟩:=List.getElem_of_mem h1;have hp:dK l n=(cI l l.length i,0):=by simp only[dK,hr,h];rw[if_neg (by simp),oD hr hi,Int.toNat_natCast]
 rw[hp];exact⟨rfl,Eb hr i hi⟩
theorem vG {o:List Vn} (hr:aJ o=true) {v:Vn} (hv:v∈o):nI o v.n=true↔∃x∈o,x.fO=false∧∃p,Ch o x p∧v∈p:=by
 rw[vN hr];constructor
 ·rintro⟨x,hx,hn⟩;have hx':x∈o∧x.fO=false:=by unfold aO at hx;simpa using hx
  have hg:=lh hr hx'.1 hx'.2;obtain⟨_,hc⟩:=zf hr hg;unfold mh at hn;obtain⟨w,hw,hwn⟩:=List.mem_map.1 hn;refine⟨x,hx'.1,hx'.2,_,hc,?_⟩;rw[←tD hr (hc.mem hx'.1 w hw) hv hwn];exact hw
 ·rintro⟨x,hx,hh,p,hc,hvp⟩;have hg:=lh hr hx hh;obtain⟨_,hc'⟩:=zf hr hg;refine⟨x,by unfold aO;simp[hx,hh],?_⟩;unfold mh;rw[hc'.uniq hr hc];exact List.mem_map.2 ⟨v,hvp,rfl⟩
theorem te {l:List Vn} (hr:aJ l=true) (aU:List Int):cA l aU=(kW l aU).filter fun v=>nI (kW l aU) v.n:=by unfold cA;rw[if_neg (by rw[hr];simp)]
theorem th {l:List Vn} (hr:aJ l=true) (aU:List Int):aJ (cA l aU)=true:=by rw[te hr];have hrO:=(rR l aU).trans hr;refine tl hrO _ fun v hv hn hb w hw hwn=>?_;obtain⟨x,hx,hh,p,hc,hvp⟩:=(vG hrO hv).1 hn;obtain⟨y,hy,hyn⟩:=hc.closed v hvp hb;have:y=w:=tD hrO (hc.mem hx y hy) hw (hyn.trans hwn.symm);subst this;exact(vG hrO hw).2 ⟨x,hx,hh,p,hc,hy⟩
theorem lj {l:List Vn} (hr:aJ l=true) {aU:List Int}{v:Vn} (h:v∈cA l aU):v∈kW l aU∧∃u∈l,v=jm (gB l) aU u:=by rw[te hr]at h;have h1:=(List.mem_filter.1 h).1;obtain⟨u,hu,rfl⟩:=List.mem_map.1 h1;exact⟨h1,u,hu,rfl⟩
theorem wQ {l:List Vn} (hr:aJ l=true) {aU:List Int}{n:Int}{v:Vn} (h:dw (cA l aU) n=some v):∃u,dw l n=some u∧v=jm (gB l) aU u:=by
 obtain⟨h1,h2,h3⟩:=kq h;obtain⟨_,u,hu,rfl⟩:=lj hr h1;have hh:u.fO=false:=by have:(u.fO||(!decide (u.n=gB l)&&!zT aU u.n))=false:=h3;rw[Bool.or_eq_false_iff]at this;exact this.1
 refine⟨u,?_,rfl⟩;rw[←h2];exact lh hr hu hh
theorem oP {l:List Vn}{v:Vn}:v∈aO l↔v∈l∧v.fO=false:=by unfold aO;simp
theorem vA (l:List Vn) (aU:List Int):(cA l aU).length≤l.length:=by
 unfold cA;split;·simp
 ·have:=List.length_filter_le (fun v=>nI (kW l aU) v.n) (kW l aU);rw[vR]at this;exact this
theorem wF {l:List Vn} (hi:∀v∈l,lg v) (aU:List Int):∀v∈cA l aU,lg v:=by
 intro v hv;unfold cA at hv;split at hv;·cases hv
 ·exact yQ hi aU v (List.mem_filter.1 hv).1
def td (d x:Dc) (k p i s v n:Int):Prop:=(∀w∈aO x.vs,dw d.vs w.n=some w∨(k=4∧w.n=n∧w.p=p∧w.i=i∧w.s=s∧w.b=v))∧(dw x.vs n).isSome=decide (k=4)
@[simp] noncomputable def EE:List AV→Option (Prop×AV)|[.agg xs,.agg ys,.agg [.pv (.int .u8 k),.pv (.int .u64 rp),.pv (.int .u64 ri),.pv (.int .u64 rs),.pv (.int .u64 re),.pv (.int .u64 ru),.pv (.int .u64 rv),.pv (.int .u64 rc),.pv (.int .u64 rz),.pv (.int .u64 rm),.pv (.str rn),.pv (.str rt)],.pv (.int .u64 n)]=>kF xs fun d=>kF ys fun x=>some (d.vs.length≤100000∧x.vs.length≤100000∧td d x k rp ri rs rv n,.pv (.bool true))|_=>none
theorem HX:cf Try.prog 10 EE:=by
 intro ys φ r h hφ;unfold EE at h;split at h
 ·rename_i xs ys k rp ri rs re ru rv rc rz rm rn rt n;obtain⟨d,hd,h1⟩:=kf h;obtain⟨x,hx,h2⟩:=kf h1;subst hd hx;clear h h1;cases h2;obtain⟨l1,l2,hC,hS⟩:=hφ;have l3:d.vs.length≤1000000:=by omega
  have l4:x.vs.length≤1000000:=by omega
  have l5:(aO x.vs).length≤100000:=by have:=km (l:=x.vs);omega
  refine aP (ak ph (ak Dr aq)) (by kernel_rfl) fn10 (by simp) ?_;unfold body10;apply af;·simp(config := { maxSteps := 3000000 }) [cellsD,l4];exact⟨rfl,rfl⟩
  apply af;·simp(config := { maxSteps := 3000000 }) [cellsD,l4];exact⟨rfl,rfl⟩
  generalize hl:aO x.vs=l at*;apply af
  ·apply af;·simp(config := { maxSteps := 3000000 });exact⟨rfl,rfl⟩
   rw[aT];refine aD (fun j:Nat=>j≤l.length) (fun j=>⟨[(3,.pv (.int .u64 n)),(4,.ptr 4 0),(5,.ptr 5 0),(6,.ptr 6 0),(8,.pv (.bool false)),(9,.own 17),(10,.pv (.int .i64 j))],[(4,.box (cellsD d)),(5,.box (cellsD x)),(6,.box [.pv (.int .u8 k),.pv (.int .u64 rp),.pv (.int .u64 ri),.pv (.int .u64 rs),.pv (.int .u64 re),.pv (.int .u64 ru),.pv (.int .u64 rv),.pv (.int .u64 rc),.pv (.int .u64 rz),.pv (.int .u64 rm),.pv (.str rn),.pv (.str rt)]),(17,.arr 61 (aF l))]⟩) (fun j=>l.length-j) [] 0 (by simp) ?_ ?_;·simp[cellsD]
   ·intro j hj;have w2:IntKind.i64.wrap ((j:Int)+1)=(j:Int)+1:=wrap_i64 (by omega);by_cases hlt:j<l.length
    ·have r1:=b6 hlt;have hw:=hC l[j] (List.getElem_mem hlt);generalize hv:l[j]=w at*;obtain⟨wn,wb,wp,wi,ws,wz,wm,wt,winl,whid⟩:=w;rcases hw with hw|⟨h1,h2,h3,h4,h5,h6⟩;·have hw:dw d.vs wn=some ⟨wn,wb,wp,wi,ws,wz,wm,wt,winl,whid⟩:=hw;simp(config := { maxSteps := 3000000 }) [w2,hlt,r1,hw,l3,cellsD,bR];exact⟨j+1,by omega,by omega,by omega⟩
     ·simp only at h1 h2 h3 h4 h5 h6;subst h1 h2 h3 h4 h5 h6;simp(config := { maxSteps := 3000000 }) [w2,hlt,r1,l3,cellsD,bR];exact⟨fun _ _ _ _ _ _ _ _ _ _ _=>⟨j+1,by omega,by omega,by omega⟩,fun _=>⟨j+1,by omega,by omega,by omega⟩⟩
    ·have hja:j=l.length:=by omega
     subst hja;simp(config := { maxSteps := 3000000 }) [hlt];exact⟨rfl,rfl⟩
  cases hq:dw x.vs n with|none=>
   rw[hq]at hS;have hk:¬k=4:=by intro h;rw[decide_eq_true h]at hS;cases hS
   simp(config := { maxSteps := 3000000 }) [cellsD,l4,hk,bR,hq]|some w=>
   rw[hq]at hS;have hk:k=4:=by
    by_cases h:k=4;·exact h
    ·rw[decide_eq_false h]at hS;cases hS
   have hgn:=(kq hq).2.1;obtain⟨gn,gb,gp,gi,gs,gz,gm,gt,ginl,ghid⟩:=w;have hgn:gn=n:=hgn;subst hgn hk;simp(config := { maxSteps := 3000000 }) [cellsD,l4,bR,hq]
 ·cases h
theorem zI {l:List Vn} (hr:aJ l=true) {v:Vn} (hp:0<v.n) (hlt:∀w∈l,w.n<v.n) (hb:bz v≠0→(dw l (bz v)).isSome=true):aJ (l++[v])=true:=by
 refine sc ?_ ?_ ?_
 ·intro i j hij hj;rw[List.length_append,List.length_singleton]at hj;by_cases h:j<l.length;·rw[List.getElem_append_left h,List.getElem_append_left (by omega)];exact kh hr hij h
  ·have:j=l.length:=by omega
   subst this;rw[List.getElem_append_left (by omega),List.getElem_append_right (by omega)];simpa using hlt _ (List.getElem_mem _)
 ·intro w hw;rcases List.mem_append.1 hw with hw|hw;·obtain⟨i,hi,rfl⟩:=List.mem_iff_getElem.1 hw;exact qC hr hi
  ·rw[List.mem_singleton.1 hw];exact hp
 ·intro w hw hbw;rcases List.mem_append.1 hw with hw|hw;·obtain⟨u,hu,h1,h2⟩:=yG hr hw hbw;exact⟨u,List.mem_append_left _ hu,h1,h2⟩
  ·rw[List.mem_singleton.1 hw]at hbw ⊢;obtain⟨u,hu⟩:=Option.isSome_iff_exists.1 (hb hbw);obtain⟨a,b,c⟩:=kq hu;exact⟨u,List.mem_append_left _ a,b,hlt u a⟩
structure FI (j:Nat) (d:Dc):Prop where
 r:aJ d.vs=true
 n:∀v∈d.vs,v.n≤j
 o:∀v∈d.vs,lg v
 lv:d.vs.length≤j
 lp:d.ps.length≤j
 p:∀e∈d.ps,l6 e
 e:dA d.l.e
def zw (r:Rc):Prop:=dA r.p∧dA r.i∧dA r.s∧dA r.e∧dA r.u∧dA r.v∧dA r.c∧dA r.z∧dA r.m
def lF (d:Dc) (r:Rc) (n s:Int):Ap:=⟨d.l,d.ps,d.vs,d.sl,r,n,s⟩
def tu (a:Ap):Dc:=⟨a.l,a.ps,a.vs,a.sl⟩
theorem FI.zero:FI 0 ⟨⟨0,0,0,0,false⟩,[],[],false⟩:=⟨rfl,by simp,by simp,by simp,by simp,by simp,by simp[dA]⟩
theorem FI.mono {j:Nat}{d:Dc} (h:FI j d):FI (j+1) d:=⟨h.r,fun v hv=>by have:=h.n v hv;omega,h.o,by have:=h.lv;omega,by have:=h.lp;omega,h.p,h.e⟩
theorem FI.ok {j:Nat}{d:Dc} (h:FI j d) {r:Rc} (hr:zw r) {s:Int} (hs:dA s) (hj:j≤24):sK (lF d r ((j:Int)+1) s):=by obtain⟨h1,h2,h3,h4,h5,h6,h7,h8,h9⟩:=hr;have:=h.lv;have:=h.lp;unfold dA at h6;exact⟨h.e,by show d.ps.length<50;omega,by show d.vs.length≤100000;omega,h.p,h.o,h7,hs,by show 0≤(j:Int)+1;omega,by show(j:Int)+1≤_;omega,h6.1,h6.2⟩
theorem fG {d:Dc} (hr:aJ d.vs=true) {n:Int} (hn:∀v∈d.vs,v.n<n) {k p i s v:Int} (hk:k≠4) {x:Dc} (hx:x.vs=d.vs):td d x k p i s v n:=by
 refine⟨fun w hw=>Or.inl ?_,?_⟩;·rw[hx]at hw;obtain⟨a,b⟩:=oP.1 hw;exact lh hr a b
 ·rw[hx,decide_eq_false hk];cases hg:dw d.vs n with|none=>rfl|some w=>obtain⟨a,b,c⟩:=kq hg;have:=hn w a;omega
theorem vu {d:Dc} (hr:aJ d.vs=true) {n:Int} (hn:∀v∈d.vs,v.n<n) {k p i s v:Int} (hk:k≠4) {x:Dc}{aU:List Int} (hx:x.vs=cA d.vs aU):td d x k p i s v n:=by
 refine⟨fun w hw=>Or.inl ?_,?_⟩
 ·rw[hx]at hw;obtain⟨a,b⟩:=oP.1 hw;obtain⟨_,u,hu,rfl⟩:=lj hr a;have hh:u.fO=false:=by have:(u.fO||(!decide (u.n=gB d.vs)&&!zT aU u.n))=false:=b;rw[Bool.or_eq_false_iff]at this;exact this.1
  have:jm (gB d.vs) aU u=u:=by unfold jm;have b':(u.fO||(!decide (u.n=gB d.vs)&&!zT aU u.n))=false:=b;rw[b'];cases u;cases hh;rfl
  rw[this];exact lh hr hu hh
 ·rw[hx,decide_eq_false hk];cases hg:dw (cA d.vs aU) n with|none=>rfl|some w=>obtain⟨u,hu,_⟩:=wQ hr hg;obtain⟨a,b,c⟩:=kq hu;have:=hn u a;omega
theorem AY {d:Dc} (hr:aJ d.vs=true) {w:Vn} (hn:∀v∈d.vs,v.n<w.n) (hh:w.fO=false) (hw:aJ (d.vs++[w])=true) {x:Dc} (hx:x.vs=d.vs++[w]):td d x 4 w.p w.i w.s w.b w.n:=by
 refine⟨fun u hu=>?_,?_⟩
 ·rw[hx]at hu;obtain⟨a,b⟩:=oP.1 hu;rcases List.mem_append.1 a with a|a;·exact Or.inl (lh hr a b)
  ·rw[List.mem_singleton.1 a];exact Or.inr ⟨rfl,rfl,rfl,rfl,rfl,rfl⟩
 ·rw[hx,lh hw (List.mem_append_right _ (List.mem_singleton.2 rfl)) hh];rfl
structure FS (d x:Dc) (r:Rc) (n:Int):Prop where
 h1:r.k=2∨r.k=3∨r.k=4→fu d.l r.p r.i r.e=true
 h2:r.k=7→d.l.h=true∧d.l.p=r.p∧d.l.i=r.i
 h3:d.l.e≤x.l.e
 h4:r.k=1∨r.k=2∨r.k=3∨r.k=4∨r.k=7→d.sl=false
 h7:r.k=5∨r.k=6∨r.k=8→x.sl=d.sl∧x.l=d.l
 h5:r.k=1→x.l=⟨d.l.e+1,r.p,r.i,r.u,true⟩∧d.l.e≠kH
 h6:td d x r.k r.p r.i r.s r.v n
theorem AZ (n:Int):∀(l:List Pn),(qY n l).length≤l.length∧∀e∈qY n l,e∈l:=by intro l;induction l with|nil=>exact⟨Nat.le_refl _,fun e h=>h⟩|cons a l ih=>
 unfold qY;split;·exact⟨by simp,fun e h=>List.mem_cons_of_mem _ h⟩
 ·refine⟨by simp;exact ih.1,fun e h=>?_⟩;rcases List.mem_cons.1 h with rfl|h;·exact List.mem_cons_self
  ·exact List.mem_cons_of_mem _ (ih.2 e h)
theorem II {j:Nat}{d:Dc} (h:FI j d) {r:Rc} (hr:zw r) {s:Int} (hs:dA s) (hj:j≤24) {a:Ap}{e:Int} (ha:cp (lF d r ((j:Int)+1) s)=(a,e)):(e=220∧tu a=d)∨(e=0∧(r.k=1∨r.k=2∨r.k=3∨r.k=4∨r.k=5∨r.k=6∨r.k=7∨r.k=8)∧FI (j+1) (tu a)∧FS d (tu a) r ((j:Int)+1)):=by
 have hn:∀v∈d.vs,v.n<(j:Int)+1:=fun v hv=>by have:=h.n v hv;omega
 have hm:=h.mono;obtain⟨g1,g2,g3,g4,g5,g6,g7⟩:=h;unfold cp at ha;cases hdo:Sx (lF d r ((j:Int)+1) s) with|none=>rw[hdo]at ha;cases ha;exact Or.inl ⟨rfl,rfl⟩|some x=>
  rw[hdo]at ha;dsimp only at ha;split at ha;case isFalse=>cases ha;exact Or.inl ⟨rfl,rfl⟩
  rename_i hx;cases ha;obtain⟨hR,hx⟩:=hx;unfold Sx at hdo;have hk:(lF d r ((j:Int)+1) s).r.k=r.k:=rfl;rw[hk]at hdo;refine Or.inr ⟨rfl,?_⟩;by_cases k1:r.k=1
  ·rw[if_pos k1]at hdo;cases hdo;simp only[gU,lF,Bool.and_eq_true,Bool.not_eq_true']at hx;obtain⟨⟨hx1,hx2⟩,hx3⟩:=hx;have hx2:(eE d.l r.p r.i r.u).2=0:=of_decide_eq_true hx2;have hm':d.l.e≠kH:=by intro hm;unfold eE at hx2;rw[if_pos hm]at hx2;cases hx2
   have hg:eE d.l r.p r.i r.u=(⟨d.l.e+1,r.p,r.i,r.u,true⟩,0):=by unfold eE;rw[if_neg hm']
   have hl:(tu (gU (lF d r ((j:Int)+1) s)).1).l=⟨d.l.e+1,r.p,r.i,r.u,true⟩:=by simp only[tu,gU,lF,hg]
   refine⟨Or.inl k1,⟨hm.r,hm.n,hm.o,hm.lv,hm.lp,hm.p,?_⟩,⟨by omega,by omega,?_,fun _=>hx1,by omega,fun _=>⟨hl,hm'⟩,fG g1 hn (by omega) rfl⟩⟩;·rw[hl];have:=g7;unfold dA at this ⊢;unfold kH at hm';show 0≤d.l.e+1∧d.l.e+1≤_;omega
   ·rw[hl];show d.l.e≤d.l.e+1;omega
  rw[if_neg k1]at hdo;by_cases k2:r.k=2;·rw[if_pos k2]at hdo;cases hdo;simp only[kS,lF,Bool.and_eq_true,Bool.not_eq_true']at hx;exact⟨by omega,⟨hm.r,hm.n,hm.o,hm.lv,hm.lp,hm.p,hm.e⟩,⟨fun _=>hx.2,by omega,Int.le_refl _,fun _=>hx.1,by omega,fun h=>absurd h k1,fG g1 hn (by omega) rfl⟩⟩
  rw[if_neg k2]at hdo;by_cases k3:r.k=3;·rw[if_pos k3]at hdo;cases hdo;simp only[gh,lF,Bool.and_eq_true,Bool.not_eq_true']at hx;exact⟨by omega,⟨hm.r,hm.n,hm.o,hm.lv,hm.lp,hm.p,hm.e⟩,⟨fun _=>hx.2,by omega,Int.le_refl _,fun _=>hx.1,by omega,fun h=>absurd h k1,fG g1 hn (by omega) rfl⟩⟩
  rw[if_neg k3]at hdo;by_cases k4:r.k=4
  ·rw[if_pos k4]at hdo;cases hdo;simp only[gM,lF,Bool.and_eq_true,Bool.not_eq_true']at hx;obtain⟨⟨hx1,hx2⟩,hx3⟩:=hx;have hx3:(eg d.vs (fv ⟨d.l,d.ps,d.vs,d.sl,r,(j:Int)+1,s⟩)).2=0:=of_decide_eq_true hx3;generalize hw:fv ⟨d.l,d.ps,d.vs,d.sl,r,(j:Int)+1,s⟩=w at hx3;have wn:w.n=(j:Int)+1:=by rw[←hw];rfl
   have wh:w.fO=false:=by rw[←hw];rfl
   have wo:lg w:=by rw[←hw];obtain⟨_,_,_,_,_,h6,_⟩:=hr;exact⟨by show 0≤(j:Int)+1;omega,by show(j:Int)+1≤_;omega,h6.1,h6.2⟩
   have hadd:(eg d.vs w).1=d.vs++[w]∧(bz w≠0→(dw d.vs (bz w)).isSome=true):=by
    revert hx3;unfold eg;split;·intro h;cases h
    ·split;·intro h;cases h
     ·rename_i hb;intro _;refine⟨rfl,fun h0=>?_⟩;cases hs:(dw d.vs (bz w)).isSome with|true=>rfl|false=>exact absurd ⟨h0,hs⟩ hb
   have hrw:aJ (d.vs++[w])=true:=zI g1 (by omega) (by rw[wn];exact hn) hadd.2;have hvs:(tu (gM (lF d r ((j:Int)+1) s)).1).vs=d.vs++[w]:=by rw[←hadd.1,←hw];rfl
   have hc:=AY g1 (by rw[wn];exact hn) wh hrw hvs;refine⟨by omega,⟨by rw[hvs];exact hrw,?_,?_,?_,hm.lp,hm.p,hm.e⟩,⟨fun _=>hx2,by omega,Int.le_refl _,fun _=>hx1,by omega,fun h=>absurd h k1,?_⟩⟩
   ·rw[hvs];intro v hv;rcases List.mem_append.1 hv with hv|hv;·exact hm.n v hv
    ·rw[List.mem_singleton.1 hv,wn];omega
   ·rw[hvs];intro v hv;rcases List.mem_append.1 hv with hv|hv;·exact g3 v hv
    ·rw[List.mem_singleton.1 hv];exact wo
   ·rw[hvs,List.length_append,List.length_singleton];omega
   ·rw[k4];rw[wn]at hc;rw[←hw]at hc;exact hc
  rw[if_neg k4]at hdo;by_cases k5:r.k=5
  ·rw[if_pos k5]at hdo;cases hdo;simp only[uX,lF,Bool.and_eq_true]at hx;obtain⟨hx1,hx2⟩:=hx;have hx2:(rI d.ps ⟨(j:Int)+1,r.v,r.u⟩).2=0:=of_decide_eq_true hx2;have hadd:(rI d.ps ⟨(j:Int)+1,r.v,r.u⟩).1=d.ps++[⟨(j:Int)+1,r.v,r.u⟩]:=by
    revert hx2;unfold rI;split;·intro _;rfl
    ·intro h;cases h
   have hps:(tu (uX (lF d r ((j:Int)+1) s)).1).ps=d.ps++[⟨(j:Int)+1,r.v,r.u⟩]:=hadd;refine⟨by omega,⟨hm.r,hm.n,hm.o,hm.lv,?_,?_,hm.e⟩,⟨by omega,by omega,Int.le_refl _,by omega,fun _=>⟨rfl,rfl⟩,by omega,fG g1 hn (by omega) rfl⟩⟩;·rw[hps,List.length_append,List.length_singleton];omega
   ·rw[hps];intro v hv;rcases List.mem_append.1 hv with hv|hv;·exact g6 v hv
    ·rw[List.mem_singleton.1 hv];obtain⟨_,_,_,_,h5,h6,_⟩:=hr;exact⟨⟨by show 0≤(j:Int)+1;omega,by show(j:Int)+1≤_;omega⟩,h6,h5⟩
  rw[if_neg k5]at hdo;by_cases k6:r.k=6
  ·rw[if_pos k6]at hdo;cases hdo;have hx:(rf d.ps r.v).2=0:=of_decide_eq_true hx;have hrem:(rf d.ps r.v).1=qY r.v d.ps:=by
    revert hx;unfold rf;split;·intro _;rfl
    ·intro h;cases h
   have hps:(tu (lJ (lF d r ((j:Int)+1) s)).1).ps=qY r.v d.ps:=hrem;have hsub:=AZ r.v d.ps;refine⟨by omega,⟨hm.r,hm.n,hm.o,hm.lv,?_,?_,hm.e⟩,⟨by omega,by omega,Int.le_refl _,by omega,fun _=>⟨rfl,rfl⟩,by omega,fG g1 hn (by omega) rfl⟩⟩;·rw[hps];omega
   ·rw[hps];exact fun e he=>g6 e (hsub.2 e he)
  rw[if_neg k6]at hdo;by_cases k7:r.k=7;·rw[if_pos k7]at hdo;cases hdo;simp only[oO,lF,Bool.and_eq_true,Bool.not_eq_true']at hx;obtain⟨⟨⟨hx1,hx2⟩,hx3⟩,hx4⟩:=hx;have hx3:d.l.p=r.p:=of_decide_eq_true hx3;have hx4:d.l.i=r.i:=of_decide_eq_true hx4;exact⟨by omega,⟨hm.r,hm.n,hm.o,hm.lv,hm.lp,hm.p,hm.e⟩,⟨by omega,fun _=>⟨hx2,hx3,hx4⟩,Int.le_refl _,fun _=>hx1,by omega,by omega,fG g1 hn (by omega) rfl⟩⟩
  rw[if_neg k7]at hdo;by_cases k8:r.k=8
  ·rw[if_pos k8]at hdo;cases hdo;refine⟨by omega,⟨th g1 _,?_,wF g3 _,?_,?_,?_,hm.e⟩,⟨by omega,by omega,Int.le_refl _,by omega,fun _=>⟨rfl,rfl⟩,by omega,vu g1 hn (by omega) rfl⟩⟩;·intro v hv;obtain⟨_,u,hu,rfl⟩:=lj g1 hv;have:=hm.n u hu;rw[GK];exact this
   ·have:=vA d.vs (nM ((fp d.ps r.c s).map Pn.v));show(cA d.vs (nM ((fp d.ps r.c s).map Pn.v))).length≤j+1;omega
   ·have:=List.length_filter_le (fun e=>!gv r.c s e) d.ps;show(fp d.ps r.c s).length≤j+1;unfold fp;omega
   ·exact fun e he=>g6 e (List.mem_filter.1 he).1
  rw[if_neg k8]at hdo;cases hdo
def A6 (r:Rc):List PV:=[.int .u8 r.k,.int .u64 r.p,.int .u64 r.i,.int .u64 r.s,.int .u64 r.e,.int .u64 r.u,.int .u64 r.v,.int .u64 r.c,.int .u64 r.z,.int .u64 r.m,.str r.n,.str r.t]
def gS (l:List Rc):List (List PV):=l.map A6
@[simp] theorem CE (l:List Rc):(gS l).length=l.length:=by simp[gS]
theorem zJ {l:List Rc}{i:Nat} (h:i<l.length):rowAt (gS l) (i:Int)=[.int .u8 l[i].k,.int .u64 l[i].p,.int .u64 l[i].i,.int .u64 l[i].s,.int .u64 l[i].e,.int .u64 l[i].u,.int .u64 l[i].v,.int .u64 l[i].c,.int .u64 l[i].z,.int .u64 l[i].m,.str l[i].n,.str l[i].t]:=by simp[rowAt,gS,h,A6]
theorem B7 (l:List Rc) (s:Int) (hm:l.length≤maxLen) (hr:∀r∈l,zw r) (hs:dA s):A3 Try.prog 3 [] [.pv (.ro (gS l)),.pv (.int .u64 s)] [] (.pv (.bool true)):=by
 refine aP (ak GS (ak FG (ak Wi (ak wv (ak HX (ak Ny aq)))))) (by kernel_rfl) fn3 (by simp) ?_;unfold body3;by_cases hl:(24:Int)<l.length;·simp(config := { maxSteps := 3000000 }) [hl]
 have hl':l.length≤24:=by omega
 apply af;·simp(config := { maxSteps := 3000000 }) [hl];exact⟨rfl,rfl⟩
 apply af;·simp(config := { maxSteps := 3000000 }) [hl];exact⟨rfl,rfl⟩
 apply af;·simp(config := { maxSteps := 3000000 }) [hl];exact⟨rfl,rfl⟩
 rw[bH]
 ·apply af;·simp(config := { maxSteps := 3000000 });exact⟨rfl,rfl⟩
  rw[aT];refine sM (fun x:Nat×Dc=>x.1≤l.length∧FI x.1 x.2) (fun x=>⟨[(0,.pv (.ro (gS l))),(1,.pv (.int .u64 s)),(4,.pv (.bool false)),(5,.ptr 5 0),(6,.pv (.int .i64 (x.1:Int)))],[(5,.box (cellsD x.2))]⟩) (fun x=>l.length-x.1) [] [999996,5000039,6000039] (0,⟨⟨0,0,0,0,false⟩,[],[],false⟩) ⟨by simp,FI.zero⟩ ?_ ?_;·simp[cellsD]
  ·rintro⟨j,d⟩ ⟨hj,hI⟩;have hj:j≤l.length:=hj;have hI:FI j d:=hI;have w2:IntKind.i64.wrap ((j:Int)+1)=(j:Int)+1:=wrap_i64 (by omega);have w3:IntKind.u64.wrap ((j:Int)+1)=(j:Int)+1:=wrap_u64 (by omega);rw[nP];dsimp only;by_cases hlt:j<l.length
   ·have hrj:=hr l[j] (List.getElem_mem hlt);have r1:=zJ hlt;generalize l[j]=r at*;have hok:=hI.ok hrj hs (by omega);have hF:=fun{a:Ap}{e:Int}=>II (a:=a) (e:=e) hI hrj hs (by omega);apply af;·simp(config := { maxSteps := 3000000 }) [hlt];exact⟨rfl,rfl⟩
    obtain⟨k,rp,ri,rs,re,ru,rv,rc,rz,rm,rn,rt⟩:=r;obtain⟨⟨de,dp,di,du,dh⟩,dps,dvs,dsl⟩:=d;have hok:sK ⟨⟨de,dp,di,du,dh⟩,dps,dvs,dsl,⟨k,rp,ri,rs,re,ru,rv,rc,rz,rm,rn,rt⟩,(j:Int)+1,s⟩:=hok;rw[bH,aT];apply af;·simp(config := { maxSteps := 3000000 }) [hlt,r1];exact⟨rfl,rfl⟩
    rw[bH];cases hfr:xl rn rt with|false=>
     apply af;·simp(config := { maxSteps := 3000000 }) [hfr];exact⟨rfl,rfl⟩
     apply gV rfl;simp(config := { maxSteps := 3000000 })|true=>
     apply af;·simp(config := { maxSteps := 3000000 }) [hfr];exact⟨rfl,rfl⟩
     apply lB rfl;rw[jP];apply af;·simp(config := { maxSteps := 3000000 }) [w2,w3];exact⟨rfl,rfl⟩
     have hFF:=hI.mono;have hlv:dvs.length≤24:=by have:=hI.lv;simp only at this;omega
     have hlp:dps.length≤24:=by have:=hI.lp;simp only at this;omega
     cases hA:cp ⟨⟨de,dp,di,du,dh⟩,dps,dvs,dsl,⟨k,rp,ri,rs,re,ru,rv,rc,rz,rm,rn,rt⟩,(j:Int)+1,s⟩ with|mk a e=>
     have hF:=hF hA;obtain⟨⟨xe,xp,xi,xu,xh⟩,xps,xvs,xsl,ar,an,asl⟩:=a;apply af;·simp(config := { maxSteps := 3000000 }) [hok,hA,cellsD,aY,bQ,aV];exact⟨rfl,rfl⟩
     rw[bH];rcases hF with⟨rfl,hd⟩|⟨rfl,hk,hI',hS⟩
     ·simp only[tu,Dc.mk.injEq]at hd;obtain⟨hd1,hd2,hd3,hd4⟩:=hd;cases hd1;subst hd2 hd3 hd4;have l1:xps.length≤1000000000:=by omega
      have l2:xvs.length≤1000000000:=by omega
      apply af;·simp(config := { maxSteps := 3000000 });exact⟨rfl,rfl⟩
      apply gV rfl;rw[bH];apply af;·simp(config := { maxSteps := 3000000 }) [l1,l2];exact⟨rfl,rfl⟩
      apply lB rfl;simp(config := { maxSteps := 3000000 }) [w2,cellsD];exact⟨j+1,⟨⟨de,dp,di,du,dh⟩,xps,xvs,xsl⟩,⟨by omega,hFF⟩,⟨by omega,rfl,rfl,rfl,rfl,rfl,rfl,rfl,rfl⟩,by omega⟩
     ·obtain⟨g1,g2,g3',g4,g7,g5,g6'⟩:=hS;have hk2:k=1∨k=2∨k=3∨k=4∨k=5∨k=6∨k=7∨k=8:=hk;have hI2:FI (j+1) ⟨⟨xe,xp,xi,xu,xh⟩,xps,xvs,xsl⟩:=hI';clear hk hI';have g3:¬xe<de:=by have:de≤xe:=g3';omega
      have g6:td ⟨⟨de,dp,di,du,dh⟩,dps,dvs,dsl⟩ ⟨⟨xe,xp,xi,xu,xh⟩,xps,xvs,xsl⟩ k rp ri rs rv ((j:Int)+1):=g6';clear g3' g6';have l1:dvs.length≤100000:=by omega
      have l2:xvs.length≤100000:=by have:xvs.length≤j+1:=hI2.lv;omega
      have oe:dA xe:=hI2.e;unfold dA at oe;apply af;·simp(config := { maxSteps := 3000000 });exact⟨rfl,rfl⟩
      apply lB rfl;rw[jP];clear hok hA hI hFF hfr r1;rcases hk2 with rfl|rfl|rfl|rfl|rfl|rfl|rfl|rfl;obtain⟨hx0,hm⟩:=g5 rfl;have hx:(⟨xe,xp,xi,xu,xh⟩:Ls)=⟨de+1,rp,ri,ru,true⟩:=hx0;clear hx0;have hs1:dsl=false:=g4 (by simp);cases hx;subst hs1;have hO:True:=trivial;have w4:IntKind.u64.wrap (de+1)=de+1:=wrap_u64 (by omega);rotate_left;iterate 3 have hs1:dsl=false:=g4 (by simp);have hO:=g1 (by simp);subst hs1;have w4:True:=trivial;rotate_left
      iterate 2 obtain⟨hs0,hx0⟩:=g7 (by simp);have hx:(⟨xe,xp,xi,xu,xh⟩:Ls)=⟨de,dp,di,du,dh⟩:=hx0;have hs1:xsl=dsl:=hs0;clear hs0 hx0;cases hx;subst hs1;have hO:True:=trivial;have w4:True:=trivial;clear g1 g2 g4 g5 g7;cases xsl;rotate_left;rotate_left
      have hs1:dsl=false:=g4 (by simp);obtain⟨h7',h8',h9'⟩:=g2 rfl;have h7:dh=true:=h7';have h8:dp=rp:=h8';have h9:di=ri:=h9';clear h7' h8' h9' g1 g2 g4 g5 g7;subst hs1 h7 h8 h9;have hO:True:=trivial;have w4:True:=trivial;rotate_left;obtain⟨hs0,hx0⟩:=g7 (by simp);have hx:(⟨xe,xp,xi,xu,xh⟩:Ls)=⟨de,dp,di,du,dh⟩:=hx0;have hs1:xsl=dsl:=hs0;clear hs0 hx0;cases hx;subst hs1;have hO:True:=trivial;have w4:True:=trivial;clear g1 g2 g4 g5 g7;cases xsl;all_goals
       apply af;·simp(config := { maxSteps := 3000000 }) [hO];exact⟨rfl,rfl⟩
       rw[bH];apply af;·simp(config := { maxSteps := 3000000 });exact⟨rfl,rfl⟩
       apply lB rfl;rw[jP,bH];apply af;·simp(config := { maxSteps := 3000000 }) [g3,w4];exact⟨rfl,rfl⟩
       apply lB rfl;rw[jP,bH];apply af;·simp(config := { maxSteps := 3000000 }) [l1,l2,g6];exact⟨rfl,rfl⟩
       apply lB rfl;rw[jP];simp(config := { maxSteps := 3000000 }) [w2,cellsD];exact⟨j+1,_,⟨by omega,hI2⟩,⟨by omega,rfl,rfl,rfl,rfl,rfl,rfl,rfl,rfl⟩,by omega⟩
   ·have hja:j=l.length:=by omega
    subst hja;simp(config := { maxSteps := 3000000 })
end Go.Proofs.Ytlmkcmfmfahcfaa.Ab
