/- Chapter 17: rows of entries; the order of texts; what a right catalog is; names; as the program and the reference tell it. -/
import Derived.Test.YtlicclncicbajaaGreatY10
import Derived.WalkKit
import Derived.Sort.Defs
set_option linter.unusedVariables false
set_option linter.unusedSimpArgs false
set_option linter.unnecessarySimpa false
set_option maxHeartbeats 40000000
set_option maxRecDepth 100000
namespace Go.Proofs.YtlicclncicbajaaGreat.Ab
open Go Go.RowKit R
theorem jT:∀a:List UInt8,Op.bytesLess a a=false|[]=>rfl|a::x=>by simp[Op.bytesLess,jT x]
theorem lu:∀a b c:List UInt8,Op.bytesLess a b=true→Op.bytesLess b c=true→Op.bytesLess a c=true
 |_,[],_,h,_=>by simp[Op.bytesLess]at h|_,_::_,[],_,h=>by simp[Op.bytesLess]at h|[],_::_,_::_,_,_=>rfl|a::x,b::y,c::z,h1,h2=>by
  simp only[Op.bytesLess,Bool.or_eq_true,decide_eq_true_eq,Bool.and_eq_true,beq_iff_eq]at h1 h2 ⊢;rcases h1 with h1|⟨rfl,h1⟩
  ·rcases h2 with h2|⟨rfl,h2⟩;·exact .inl (UInt8.lt_trans h1 h2)
   ·exact .inl h1
  ·rcases h2 with h2|⟨rfl,h2⟩;·exact .inl h2
   ·exact .inr ⟨rfl,lu x y z h1 h2⟩
theorem Bf:∀a b:List UInt8,Op.bytesLess a b=false→Op.bytesLess b a=false→a=b
 |[],[],_,_=>rfl|[],_::_,h,_=>by simp[Op.bytesLess]at h|_::_,[],_,h=>by simp[Op.bytesLess]at h|a::x,b::y,h1,h2=>by
  simp only[Op.bytesLess,Bool.or_eq_false_iff,decide_eq_false_iff_not,Bool.and_eq_false_iff,beq_eq_false_iff_ne]at h1 h2;have hab:a=b:=by apply UInt8.toNat_inj.1;have h3:¬a.toNat<b.toNat:=h1.1;have h4:¬b.toNat<a.toNat:=h2.1;omega
  subst hab;have h3:=h1.2.resolve_left (fun h=>h rfl);have h4:=h2.2.resolve_left (fun h=>h rfl);rw[Bf x y h3 h4]
theorem Hc {a b:List UInt8} (h:Op.bytesLess a b=true):Op.bytesLess b a=false:=by cases hb:Op.bytesLess b a with|false=>rfl|true=>have:=lu a b a h hb;rw[jT]at this;cases this
theorem vO {a b:List UInt8} (h:Op.bytesLess a b=true):a≠b:=by rintro rfl;rw[jT]at h;cases h
structure En where
 n:List UInt8
 i:Int deriving DecidableEq
def eJ (e:En):List PV:=[.str e.n,.int .u64 e.i]
theorem yQ:∀a b,eJ a=eJ b→a=b:=by rintro⟨k,n⟩ ⟨k',n'⟩ h;simp only[eJ,List.cons.injEq,PV.int.injEq,PV.str.injEq,true_and,and_true]at h;rw[h.1,h.2]
def aO (l:List En):List (List PV):=l.map eJ
@[simp] theorem Ry:aO []=[]:=rfl
@[simp] theorem cD (l:List En):(aO l).length=l.length:=by simp[aO]
theorem fu (l m:List En):aO (l++m)=aO l++aO m:=by simp[aO]
theorem cO (l:List En):∀r∈aO l,r.length=2:=by intro r hr;simp only[aO,List.mem_map]at hr;obtain⟨c,_,rfl⟩:=hr;rfl
theorem dg {l:List En}{i:Nat} (h:i<l.length):rowAt (aO l) (i:Int)=[.str l[i].n,.int .u64 l[i].i]:=by simp[rowAt,aO,h,eJ]
@[simp] theorem Tm (l:List En):dec eJ (aO l)=some l:=gX yQ l
theorem bk {rows:List (List PV)}{l:List En} (h:dec eJ rows=some l):rows=aO l:=gV h
theorem aV (l:List En):bz (aO l):=by intro r hr p hp;simp only[aO,List.mem_map]at hr;obtain⟨c,_,rfl⟩:=hr;simp only[eJ,List.mem_cons,List.not_mem_nil,or_false]at hp;rcases hp with rfl|rfl<;>rfl
def sH (s:List UInt8):List PV:=[.str s]
theorem F3:∀a b,sH a=sH b→a=b:=by intro a b h;simpa[sH]using h
def mR (l:List (List UInt8)):List (List PV):=l.map sH
@[simp] theorem R0:mR []=[]:=rfl
@[simp] theorem JN (l:List (List UInt8)):(mR l).length=l.length:=by simp[mR]
theorem FY {l:List (List UInt8)}{i:Nat} (h:i<l.length):rowAt (mR l) (i:Int)=[.str l[i]]:=by simp[rowAt,mR,h,sH]
@[simp] theorem vC (l:List (List UInt8)):dec sH (mR l)=some l:=gX F3 l
theorem mZ {rows:List (List PV)}{l:List (List UInt8)} (h:dec sH rows=some l):rows=mR l:=gV h
@[simp] theorem dec_s1 (a:List UInt8):dec sH [[.str a]]=some [a]:=vC [a]
@[simp] theorem dec_s2 (a b:List UInt8):dec sH [[.str a],[.str b]]=some [a,b]:=vC [a,b]
def eM (s:List UInt8):Bool:=decide (s≠[])&&decide (s.length≤64)
@[simp] noncomputable def GNm:List AV→Option (Prop×AV)|[.pv (.ro a)]=>(dec sH a).map fun l=>(l.length≤1000000000,.pv (.bool (l.all eM)))|_=>none
theorem VZ:aN Tryz.prog 152 GNm:=by
 intro ys φ r h hφ;unfold GNm at h;split at h
 ·rename_i ra;obtain⟨a,ha,h⟩:=Option.map_eq_some_iff.1 h;cases h;cases mZ ha;refine aq ah (by kernel_rfl) (by conv=>lhs;reduce) (by simp) ?_;simp(config := { maxSteps := 3000000 });refine al (fun i:Nat=>i≤a.length∧(a.take i).all eM=true) (fun i=>⟨[(0,.pv (.ro (mR a))),(2,.pv (.bool false)),(5,.pv (.ro (mR a))),(6,.pv (.int .i64 a.length)),(7,.pv (.int .i64 i))],[]⟩) (fun i=>a.length-i) [] 0 (by simp) ?_ ?_;·simp
  ·rintro i ⟨hi,ht⟩;have w2:IntKind.i64.wrap ((i:Int)+1)=(i:Int)+1:=wrap_i64 (by omega);by_cases hlt:i<a.length
   ·have r1:=FY hlt;have hno:eM a[i]=false→a.all eM=false:=by intro h0;rw[List.all_eq_false];exact⟨a[i],List.getElem_mem hlt,by simp[h0]⟩
    have hyes:eM a[i]=true→(a.take (i+1)).all eM=true:=by intro h0;rw[List.take_succ_eq_append_getElem hlt,List.all_append,ht];simp[h0]
    by_cases hz:a[i]=[];·have hf:=hno (by simp[eM,hz]);simp(config := { maxSteps := 3000000 }) [w2,hlt,r1,hz,hf]
    ·by_cases hl:a[i].length≤64
     ·have hl':(a[i].length:Int)≤64:=by omega
      simp(config := { maxSteps := 3000000 }) [w2,hlt,r1,hz,hl,hl'];exact⟨i+1,⟨by omega,by simpa using hyes (by simp[eM,hz,hl])⟩,by omega,by omega⟩
     ·have hl':¬(a[i].length:Int)≤64:=by omega
      have hf:=hno (by simp[eM,hl]);simp(config := { maxSteps := 3000000 }) [w2,hlt,r1,hz,hl,hl',hf]
   ·rw[List.take_of_length_le (by omega)]at ht;simp(config := { maxSteps := 3000000 }) [hlt,ht]
 ·cases h
@[simp] noncomputable def GrNm:List AV→Option (Prop×AV)|[.pv (.str s)]=>some (True,.pv (.bool (eM s)))|_=>none
def bC (l:List En):Bool:=l.all (fun e=>eM e.n&&decide (e.i≠0))&&decide (l.Pairwise fun a b=>Op.bytesLess a.n b.n=true∧a.i≠b.i)
theorem iF (l:List En):bC l=true↔(∀e∈l,eM e.n=true∧e.i≠0)∧l.Pairwise fun a b=>Op.bytesLess a.n b.n=true∧a.i≠b.i:=by simp only[bC,Bool.and_eq_true,List.all_eq_true,decide_eq_true_eq]
theorem l7 (l:List En) (e:En):bC (l++[e])=true↔bC l=true∧eM e.n=true∧e.i≠0∧∀x∈l,Op.bytesLess x.n e.n=true∧x.i≠e.i:=by
 simp only[iF,List.pairwise_append,List.mem_append,List.mem_singleton,List.pairwise_singleton,true_and];constructor;·rintro⟨h1,h2,h3⟩;exact⟨⟨fun x hx=>h1 x (.inl hx),h2⟩,(h1 e (.inr rfl)).1,(h1 e (.inr rfl)).2,fun x hx=>h3 x hx e rfl⟩
 ·rintro⟨⟨h1,h2⟩,h3,h4,h5⟩;refine⟨?_,h2,?_⟩
  ·rintro x (hx|rfl);·exact h1 x hx
   ·exact⟨h3,h4⟩
  ·rintro x hx _ rfl;exact h5 x hx
theorem yR {l:List En} (k:Nat) (h:bC l=true):bC (l.take k)=true:=by rw[iF]at h ⊢;exact⟨fun e he=>h.1 e (List.mem_of_mem_take he),h.2.sublist (List.take_sublist k l)⟩
theorem yI {l:List En}{i:Nat} (hlt:i<l.length) (h:¬(eM l[i].n=true∧l[i].i≠0∧∀x∈l.take i,Op.bytesLess x.n l[i].n=true∧x.i≠l[i].i)):bC l=false:=by cases hr:bC l with|false=>rfl|true=>have:=yR (i+1) hr;rw[List.take_succ_eq_append_getElem hlt,l7]at this;exact absurd this.2 h
theorem qR {l:List En}{i:Nat} (hlt:i<l.length) (h0:bC (l.take i)=true) (h1:eM l[i].n=true) (h2:l[i].i≠0) (h3:∀x∈l.take i,Op.bytesLess x.n l[i].n=true∧x.i≠l[i].i):bC (l.take (i+1))=true:=by rw[List.take_succ_eq_append_getElem hlt,l7];exact⟨h0,h1,h2,h3⟩
theorem Aw {l:List En}{k:Nat} (hlt:k+1<l.length) (h0:bC (l.take (k+1))=true) (h:Op.bytesLess l[k].n l[k+1].n=true):∀x∈l.take (k+1),Op.bytesLess x.n l[k+1].n=true:=by
 have hk:k<l.length:=by omega
 intro x hx;rw[List.take_succ_eq_append_getElem hk,l7]at h0;rw[List.take_succ_eq_append_getElem hk,List.mem_append,List.mem_singleton]at hx;rcases hx with hx|rfl;·exact lu _ _ _ (h0.2.2.2 x hx).1 h
 ·exact h
def ky (l:List En):List (PV×AV):=(.int .u64 0,.agg [])::l.map fun e=>(.int .u64 e.i,.agg [])
theorem Ej (l:List En) (n:Int):(getM (.int .u64 n) (ky l)).isSome=(decide (n=0)||l.any fun e=>decide (n=e.i)):=by
 unfold ky;have:∀l:List En,(getM (.int .u64 n) (l.map fun e=>(PV.int .u64 e.i,AV.agg []))).isSome=l.any fun e=>decide (n=e.i):=by intro l;induction l with|nil=>rfl|cons e l ih=>
  simp only[List.map_cons,getM,mm,List.any_cons];by_cases h:n=e.i;·simp[h]
  ·simp[h,ih]
 simp only[getM,mm];by_cases h:n=0;·simp[h]
 ·simp[h,this]
theorem Er (l:List En) (k:PV):(getM k (ky l)).getD (.agg [])=.agg []:=by
 unfold ky;have:∀l:List En,(getM k (l.map fun e=>(PV.int .u64 e.i,AV.agg []))).getD (.agg [])=.agg []:=by intro l;induction l with|nil=>rfl|cons e l ih=>
  simp only[List.map_cons,getM];split;·rfl
  ·exact ih
 simp only[getM];split;·rfl
 ·exact this l
theorem zj:∀(es:List (PV×AV)) (k:PV) (v:AV),(getM k es).isSome=false→iY k v es=es++[(k,v)]
 |[],k,v,_=>rfl|e::es,k,v,h=>by
  unfold getM at h;unfold iY;split at h;·cases h
  ·rename_i h1;rw[if_neg h1,zj es k v h];rfl
theorem Ee (l:List En) (e:En):ky l++[(.int .u64 e.i,.agg [])]=ky (l++[e]):=by simp[ky]
theorem Ai (l:List En):fV 9 (ky l)=True:=by simp only[eq_iff_iff,iff_true];intro e he;simp only[ky,List.mem_cons,List.mem_map]at he;rcases he with rfl|⟨x,_,rfl⟩<;>rfl
@[simp] noncomputable def GRt:List AV→Option (Prop×AV)|[.pv (.ro a)]=>(dec eJ a).map fun l=>(l.length≤1000000000,.pv (.bool (bC l)))|_=>none
theorem c_Rt:aN Tryz.prog 112 GRt:=by
 intro ys φ r h hφ;unfold GRt at h;split at h
 ·rename_i ra;obtain⟨a,ha,h⟩:=Option.map_eq_some_iff.1 h;cases h;cases bk ha;refine aq (ag VZ ah) (by kernel_rfl) (by conv=>lhs;reduce) (by simp) ?_;simp(config := { maxSteps := 3000000 });refine al (fun i:Nat=>i≤a.length∧bC (a.take i)=true) (fun i=>⟨[(0,.pv (.ro (aO a))),(2,.pv (.bool false)),(3,.own 8),(11,.pv (.ro (aO a))),(12,.pv (.int .i64 a.length)),(13,.pv (.int .i64 i))],[(8,.map (ky (a.take i)))]⟩) (fun i=>a.length-i) [] 0 (by simp[bC]) ?_ ?_;·simp[ky,iY]
  ·rintro i ⟨hi,ht⟩;have w2:IntKind.i64.wrap ((i:Int)+1)=(i:Int)+1:=wrap_i64 (by omega);by_cases hlt:i<a.length
   ·have r1:=dg hlt;have hk:=Ai (a.take i);have hd:=Er (a.take i);have hg:=Ej (a.take i) a[i].i;have hf:=fun h=>yI hlt h;have htwF:(getM (.int .u64 a[i].i) (ky (a.take i))).isSome=true→bC a=false:=fun htw=>by
     apply hf;rintro⟨_,h2,h3⟩;rw[hg,Bool.or_eq_true,decide_eq_true_eq,List.any_eq_true]at htw;rcases htw with h|⟨x,hx,h⟩;·exact h2 h
     ·exact(h3 x hx).2 (by simpa using(of_decide_eq_true h).symm)
    have hids:(getM (.int .u64 a[i].i) (ky (a.take i))).isSome=false→a[i].i≠0∧∀x∈a.take i,x.i≠a[i].i:=fun htw'=>by rw[hg,Bool.or_eq_false_iff,decide_eq_false_iff_not,List.any_eq_false]at htw';exact⟨htw'.1,fun x hx h=>htw'.2 x hx (by simpa using h.symm)⟩
    have hpm:(getM (.int .u64 a[i].i) (ky (a.take i))).isSome=false→iY (.int .u64 a[i].i) (.agg []) (ky (a.take i))=ky (a.take (i+1)):=fun htw'=>by have:=zj (ky (a.take i)) (.int .u64 a[i].i) (.agg []) htw';rwa[Ee,←List.take_succ_eq_append_getElem hlt]at this
    by_cases h0:i=0;·subst h0;have wm:IntKind.i64.wrap (-1)=-1:=wrap_i64 (by omega);have rm:rowAt (aO a) (-1)=[.str a[0].n,.int .u64 a[0].i]:=r1;have rz:rowAt (aO a) 0=[.str a[0].n,.int .u64 a[0].i]:=r1;simp only[List.take_zero]at hk hd htwF hids hpm;cases htw:(getM (.int .u64 a[0].i) (ky [])).isSome with|true=>have hf':=htwF htw;simp(config := { maxSteps := 3000000 }) [hlt,rm,rz,wm,hk,hd,htw,hf']|false=>cases hnm:eM a[0].n with|true=>have hq:=hpm htw;simp(config := { maxSteps := 3000000 }) [hlt,rm,rz,wm,hk,hd,htw,hnm,hq];exact⟨1,⟨by omega,qR hlt ht hnm (hids htw).1 (by simp)⟩,⟨by rw[wrap_i64 (by omega)];rfl,rfl⟩,by omega⟩|false=>
     have hf':bC a=false:=hf fun h=>by rw[hnm]at h;cases h.1
     simp(config := { maxSteps := 3000000 }) [hlt,rm,rz,wm,hk,hd,htw,hnm,hf']
    ·obtain⟨k,rfl⟩:∃k,i=k+1:=⟨i-1,by omega⟩;have hk2:k<a.length:=by omega
     have r2:=dg hk2;have w3:IntKind.i64.wrap (((k+1:Nat):Int)-1)=(k:Int):=by rw[wrap_i64 (by omega)];omega
     have hp:(0:Int)<((k+1:Nat):Int):=by omega
     have hlti:((k+1:Nat):Int)<a.length:=by omega
     have hlti2:(k:Int)<a.length:=by omega
     have hb0:(0:Int)≤((k+1:Nat):Int):=by omega
     generalize hgen:((k+1:Nat):Int)=I at*;cases htw:(getM (.int .u64 a[k+1].i) (ky (a.take (k+1)))).isSome with|true=>have hf':=htwF htw;simp(config := { maxSteps := 3000000 }) [hlti,hlti2,hb0,r1,r2,w3,hp,hk,hd,htw,hf']|false=>cases hnm:eM a[k+1].n with
      |true=>have hq:=hpm htw;cases hb:Op.bytesLess a[k].n a[k+1].n with|true=>simp(config := { maxSteps := 3000000 }) [hlti,hlti2,hb0,r1,r2,w3,w2,hp,hk,hd,htw,hnm,hq,hb];have h1:=Aw hlt ht hb;have h2:=hids htw;exact⟨k+2,⟨by omega,qR hlt ht hnm h2.1 fun x hx=>⟨h1 x hx,h2.2 x hx⟩⟩,⟨by omega,rfl⟩,by omega⟩|false=>
        have hf':bC a=false:=hf fun h=>by have:=(h.2.2 a[k] (by rw[List.mem_take_iff_getElem];exact⟨k,by omega,rfl⟩)).1;rw[hb]at this;cases this
        simp(config := { maxSteps := 3000000 }) [hlti,hlti2,hb0,r1,r2,w3,hp,hk,hd,htw,hnm,hb,hf']
      |false=>
       have hf':bC a=false:=hf fun h=>by rw[hnm]at h;cases h.1
       simp(config := { maxSteps := 3000000 }) [hlti,hlti2,hb0,r1,r2,w3,hp,hk,hd,htw,hnm,hf']
   ·rw[List.take_of_length_le (by omega)]at ht;simp(config := { maxSteps := 3000000 }) [hlt,ht]
 ·cases h
@[simp] noncomputable def L8:List AV→Option (Prop×AV)|[.pv (.str a)]=>some (True,.pv (.bool false))|_=>none
theorem PF:aN Tryz.prog 182 L8:=by
 intro ys φ r h hφ;unfold L8 at h;split at h;·cases h;refine aq ah (by kernel_rfl) (by conv=>lhs;reduce) (by simp) ?_;simp(config := { maxSteps := 3000000 })
 ·cases h
def uV (a b:List UInt8):Int:=if Op.bytesLess a b=true then-1 else if Op.bytesLess b a=true then 1 else 0
theorem AJ (a b:List UInt8):(uV a b<0)=(Op.bytesLess a b=true):=by
 unfold uV;by_cases h:Op.bytesLess a b=true;·simp[h]
 ·by_cases h2:Op.bytesLess b a=true<;>simp[h,h2]
theorem vw (a b:List UInt8):(uV a b=0)=(a=b):=by
 unfold uV;apply propext;by_cases h:Op.bytesLess a b=true;·simp only[h,if_true];exact⟨fun h=>by omega,fun e=>absurd e (vO h)⟩
 ·by_cases h2:Op.bytesLess b a=true;·simp only[h,h2,if_true,if_false];exact⟨fun h=>by simp at h,fun e=>absurd e.symm (vO h2)⟩
  ·simp only[h,h2,if_false,true_iff];exact⟨fun _=>Bf a b (by simpa using h) (by simpa using h2),fun _=>rfl⟩
@[simp] noncomputable def K1:List AV→Option (Prop×AV)|[.pv (.str a),.pv (.str b)]=>some (True,.pv (.int .i64 (uV a b)))|_=>none
theorem NB:aN Tryz.prog 163 K1:=by
 intro ys φ r h hφ;unfold K1 at h;split at h;·rename_i a b;cases h;refine aq (ag PF ah) (by kernel_rfl) (by conv=>lhs;reduce) (by simp) ?_;unfold uV;cases h1:Op.bytesLess a b with|true=>simp(config := { maxSteps := 3000000 }) [h1]|false=>cases h2:Op.bytesLess b a with|true=>have hne:¬a=b:=fun e=>vO h2 e.symm;simp(config := { maxSteps := 3000000 }) [h1,h2,hne]|false=>have he:=Bf a b h1 h2;subst he;simp(config := { maxSteps := 3000000 }) [jT]
 ·cases h
@[simp] noncomputable def Wl:List AV→Option (Prop×AV)|[.agg [.pv (.str a),.pv (.int .u64 n)],.pv (.str b)]=>some (True,.pv (.int .i64 (uV a b)))|_=>none
theorem c_pl1:aN Tryz.prog 162 Wl:=by
 intro ys φ r h hφ;unfold Wl at h;split at h;·cases h;refine aq (ag NB ah) (by kernel_rfl) (by conv=>lhs;reduce) (by simp) ?_;simp(config := { maxSteps := 3000000 })
 ·cases h
def lb (l:List En) (s:List UInt8):Nat:=l.findIdx fun e=>!Op.bytesLess e.n s
def dD (l:List En) (s:List UInt8):Bool:=match l[lb l s]? with|some e=>decide (e.n=s)|none=>false
theorem LG (l:List En) (s:List UInt8):lb l s≤l.length:=List.findIdx_le_length
theorem Lb {l:List En}{s:List UInt8}{i:Nat} (hi:i≤l.length) (h1:∀(k:Nat) (h:k<l.length),k<i→Op.bytesLess l[k].n s=true) (h2:∀(k:Nat) (h:k<l.length),i≤k→Op.bytesLess l[k].n s=false):lb l s=i:=by
 unfold lb;by_cases hlt:i<l.length;·rw[List.findIdx_eq hlt];refine⟨by simp[h2 i hlt (Nat.le_refl _)],fun j hj=>?_⟩;simp[h1 j (by omega) hj]
 ·have:i=l.length:=by omega
  subst this;rw[List.findIdx_eq_length];intro e he;obtain⟨k,hk,rfl⟩:=List.getElem_of_mem he;simp[h1 k hk hk]
theorem Ku {l:List En}{s:List UInt8}{k:Nat} (h:k<lb l s):Op.bytesLess (l[k]'(Nat.lt_of_lt_of_le h (LG l s))).n s=true:=by have:=List.not_of_lt_findIdx h;simpa using this
theorem iD {l:List En} (hr:bC l=true) {i j:Nat} (hj:j<l.length) (hij:i<j):Op.bytesLess (l[i]'(Nat.lt_trans hij hj)).n l[j].n=true∧(l[i]'(Nat.lt_trans hij hj)).i≠l[j].i:=by rw[iF,List.pairwise_iff_getElem]at hr;exact hr.2 i j (Nat.lt_trans hij hj) hj hij
theorem pg {l:List En}{s:List UInt8} (hr:bC l=true):dD l s=true↔∃e∈l,e.n=s:=by
 unfold dD;constructor
 ·intro h;split at h;·rename_i e he;exact⟨e,List.mem_of_getElem? he,by simpa using h⟩
  ·cases h
 ·rintro⟨e,he,rfl⟩;obtain⟨k,hk,rfl⟩:=List.getElem_of_mem he;have hkl:lb l l[k].n=k:=by
   apply Lb (by omega);·intro j hj hjk;exact(iD hr hk hjk).1
   ·intro j hj hjk;rcases Nat.eq_or_lt_of_le hjk with h|h;·subst h;exact jT _
    ·exact Hc (iD hr hj h).1
  rw[hkl,List.getElem?_eq_getElem hk];simp
theorem tq:fo Tryz.prog 162=true:=by kernel_rfl
@[simp] noncomputable def GBs:List AV→Option (Prop×AV)|[.pv (.ro a),.pv (.str s),.bo f []]=>if f=162 then(dec eJ a).map fun l=>(l.length≤1000000000∧bC l=true,.aJ [.pv (.int .i64 (lb l s)),.pv (.bool (dD l s))]) else none|_=>none
theorem c_Bs:aN Tryz.prog 161 GBs:=by
 intro ys φ r h hφ;unfold GBs at h;split at h
 ·rename_i ra s f;split at h
  ·rename_i hf;subst hf;obtain⟨a,ha,h⟩:=Option.map_eq_some_iff.1 h;cases h;cases bk ha;obtain⟨hl9,hr⟩:=hφ;refine aq (ag c_pl1 ah) (by kernel_rfl) (by conv=>lhs;reduce) (by simp) ?_;simp(config := { maxSteps := 3000000 });refine al (fun q:Nat×Nat=>q.1≤q.2∧q.2≤a.length∧(∀(k:Nat) (h:k<a.length),k<q.1→Op.bytesLess a[k].n s=true)∧(∀(k:Nat) (h:k<a.length),q.2≤k→Op.bytesLess a[k].n s=false)) (fun q=>⟨[(0,.pv (.ro (aO a))),(1,.pv (.str s)),(2,.bo 162 []),(8,.pv (.int .i64 a.length)),(9,.pv (.int .i64 q.1)),(10,.pv (.int .i64 q.2))],[]⟩) (fun q=>q.2-q.1) [] (0,a.length) ?_ ?_ ?_;·exact⟨Nat.zero_le _,Nat.le_refl _,fun k h h2=>absurd h2 (Nat.not_lt_zero k),fun k h h2=>absurd h2 (Nat.not_le.2 h)⟩
   ·simp
   ·rintro⟨i,j⟩ ⟨hij,hj,h1,h2⟩;simp only at hij hj h1 h2;by_cases hlt:i<j
    ·have hlti:(i:Int)<(j:Int):=by omega
     have w1:IntKind.i64.wrap ((i:Int)+(j:Int))=(i:Int)+(j:Int):=wrap_i64 (by omega);have w2:IntKind.u64.wrap ((i:Int)+(j:Int))=(i:Int)+(j:Int):=wrap_u64 (by omega);have hm:(i+j)/2<a.length:=by omega
     obtain⟨m,hmd⟩:∃m,m=(i+j)/2:=⟨_,rfl⟩;rw[←hmd]at hm;have hsh:((i:Int)+(j:Int)).fdiv (2^min 1 IntKind.u64.bits)=(m:Int):=by show((i:Int)+(j:Int)).fdiv 2=(m:Int);rw[Int.fdiv_eq_ediv_of_nonneg _ (by omega)];omega
     have w3:IntKind.i64.wrap (m:Int)=(m:Int):=wrap_i64 (by omega);have w4:IntKind.i64.wrap ((m:Int)+1)=(m:Int)+1:=wrap_i64 (by omega);have r1:=dg hm;have hm0:(0:Int)≤(m:Int):=by omega
     have hm1:(m:Int)<(a.length:Int):=by omega
     cases hb:Op.bytesLess a[m].n s with
     |true=>
      have hneg:uV a[m].n s<0:=by rw[AJ];exact hb
      simp(config := { maxSteps := 3000000 }) [hlt,w1,w2,hsh,w3,w4,r1,hm,hneg,tq];refine⟨m+1,j,⟨by omega,hj,fun k hk hkm=>?_,h2⟩,⟨by omega,rfl⟩,by omega⟩;rcases Nat.lt_or_ge k m with h|h;·exact lu _ _ _ (iD hr hm h).1 hb
      ·have:k=m:=by omega
       subst this;exact hb|false=>
      have hneg:¬uV a[m].n s<0:=by rw[AJ,hb];simp
      simp(config := { maxSteps := 3000000 }) [hlt,w1,w2,hsh,w3,w4,r1,hm,hneg,tq];refine⟨i,m,⟨by omega,by omega,h1,fun k hk hkm=>?_⟩,⟨rfl,rfl⟩,by omega⟩;rcases Nat.lt_or_ge m k with h|h;·cases hq:Op.bytesLess a[k].n s with|false=>rfl|true=>have:=lu _ _ _ (iD hr hk h).1 hq;rw[hb]at this;cases this
      ·have:k=m:=by omega
       subst this;exact hb
    ·have hij':i=j:=by omega
     subst hij';have hlb:lb a s=i:=Lb hj h1 h2;have hfd:dD a s=(match a[i]? with|some e=>decide (e.n=s)|none=>false):=by unfold dD;rw[hlb]
     by_cases hil:i<a.length
     ·have r1:=dg hil;rw[List.getElem?_eq_getElem hil]at hfd;simp only at hfd;have hz:decide (uV a[i].n s=0)=decide (a[i].n=s):=by simp only[vw]
      simp(config := { maxSteps := 3000000 }) [hil,r1,tq,hlb,hfd,vw]
     ·rw[List.getElem?_eq_none (by omega)]at hfd;have r0:rowAt (aO a) (i:Int)=[]:=by simp[rowAt,aO,hil]
      simp(config := { maxSteps := 3000000 }) [hil,hlb,hfd,r0]
  ·cases h
 ·cases h
@[simp] noncomputable def Yb:List AV→Option (Prop×AV)|[.pv (.ro a),.pv (.str s)]=>(dec eJ a).map fun l=>(l.length≤1000000000∧bC l=true,.aJ [.pv (.int .i64 (lb l s)),.pv (.bool (dD l s))])|_=>none
theorem CC:aN Tryz.prog 136 Yb:=by
 intro ys φ r h hφ;unfold Yb at h;split at h;·rename_i ra s;obtain⟨a,ha,h⟩:=Option.map_eq_some_iff.1 h;cases h;cases bk ha;obtain⟨hl9,hr⟩:=hφ;refine aq (ag c_Bs ah) (by kernel_rfl) (by conv=>lhs;reduce) (by simp) ?_;simp(config := { maxSteps := 3000000 }) [hl9,hr]
 ·cases h
def kl (l:List En) (s:List (List UInt8)):Int:=if bC l=true then if s.all eM=true then 0 else 170 else 2
@[simp] noncomputable def ZS:List AV→Option (Prop×AV)|[.pv (.ro a),.pv (.ro b)]=>(dec eJ a).bind fun l=>(dec sH b).map fun s=>(l.length≤1000000000∧s.length≤1000000000,.pv (.int .i64 (kl l s)))|_=>none
theorem HI:aN Tryz.prog 135 ZS:=by
 intro ys φ r h hφ;unfold ZS at h;split at h;·rename_i ra rb;obtain⟨a,ha,h⟩:=Option.bind_eq_some_iff.1 h;obtain⟨b,hb,h⟩:=Option.map_eq_some_iff.1 h;cases h;cases bk ha;cases mZ hb;obtain⟨hl9,hs9⟩:=hφ;refine aq (ag c_Rt (ag VZ ah)) (by kernel_rfl) (by conv=>lhs;reduce) (by simp) ?_;unfold kl;cases hr:bC a with|false=>simp(config := { maxSteps := 3000000 }) [hl9,hr]|true=>generalize hq:b.all eM=q;cases q<;>simp(config := { maxSteps := 3000000 }) [hl9,hs9,hr,hq]
 ·cases h
def gG (l:List En) (s:List UInt8):Int×Int:=if bC l=true then if eM s=true then match l.find? (fun e=>decide (e.n=s)) with|some e=>(e.i,0)|none=>(0,80) else(0,170) else(0,2)
theorem nt {l:List En}{s:List UInt8} (hr:bC l=true) (hn:eM s=true) (hf:dD l s=true):∃h:lb l s<l.length,gG l s=(l[lb l s].i,0)∧l[lb l s].n=s:=by
 have hlt:lb l s<l.length:=by
  unfold dD at hf;split at hf;·rename_i e he;exact(List.getElem?_eq_some_iff.1 he).1
  ·cases hf
 have hs:l[lb l s].n=s:=by unfold dD at hf;rw[List.getElem?_eq_getElem hlt]at hf;simpa using hf
 refine⟨hlt,?_,hs⟩;have hfind:l.find? (fun e=>decide (e.n=s))=some l[lb l s]:=by rw[List.find?_eq_some_iff_getElem];refine⟨by simp[hs],lb l s,hlt,rfl,fun j hj=>?_⟩;have:=vO (Ku hj);simpa using this
 unfold gG;rw[if_pos hr,if_pos hn,hfind]
theorem my {l:List En}{s:List UInt8} (hr:bC l=true) (hn:eM s=true) (hf:dD l s=false):gG l s=(0,80):=by
 have hfind:l.find? (fun e=>decide (e.n=s))=none:=by rw[List.find?_eq_none];intro e he hh;have:=(pg (s:=s) hr).2 ⟨e,he,by simpa using hh⟩;rw[hf]at this;cases this
 unfold gG;rw[if_pos hr,if_pos hn,hfind]
@[simp] noncomputable def Ya:List AV→Option (Prop×AV)|[.pv (.ro a),.pv (.str s)]=>(dec eJ a).map fun l=>(l.length≤1000000000,.aJ [.pv (.int .u64 (gG l s).1),.pv (.int .i64 (gG l s).2)])|_=>none
theorem L2:aN Tryz.prog 140 Ya:=by
 intro ys φ r h hφ;unfold Ya at h;split at h;·rename_i ra s;obtain⟨a,ha,h⟩:=Option.map_eq_some_iff.1 h;cases h;cases bk ha;refine aq (ag HI (ag CC ah)) (by kernel_rfl) (by conv=>lhs;reduce) (by simp) ?_;cases hr:bC a with
  |false=>
   have hg:gG a s=(0,2):=by unfold gG;rw[if_neg (by simp[hr])]
   simp(config := { maxSteps := 3000000 }) [hφ,kl,hr,hg]|true=>cases hn:eM s with
   |false=>
    have hg:gG a s=(0,170):=by unfold gG;rw[if_pos hr,if_neg (by simp[hn])]
    simp(config := { maxSteps := 3000000 }) [hφ,kl,hr,hn,hg]|true=>cases hf:dD a s with|false=>have hg:=my hr hn hf;simp(config := { maxSteps := 3000000 }) [hφ,kl,hr,hn,hf,hg]|true=>obtain⟨hlt,hg,_⟩:=nt hr hn hf;have r1:=dg hlt;simp(config := { maxSteps := 3000000 }) [hφ,kl,hr,hn,hf,hg,r1,hlt]
 ·cases h
@[simp] noncomputable def GNames:List AV→Option (Prop×AV)|[.pv (.ro a)]=>(dec eJ a).map fun l=>(l.length≤100000000,.fr 9 (mR (l.map En.n)))|_=>none
set_option maxHeartbeats 8000000 in theorem zI (w:World) (rows:List (List PV)) (hs2:∀r∈rows,r.length=2) (hp:c9 rows) (i n:Nat) (hn:rows.length=n) (hi:i<n) (hsm:n≤1000000) (nm:List UInt8) (id:Int) (g cap:Nat) (cur:Array Value) (hg0:w.heap[g]?=some (.cells cur 71 (0,0))) (hnc:n≤cap) (hcs:cur.size=cap*2) (htk:cur.toList.take (n*2)=cellW rows) (hroom:cap<n+1) (ad:Addr) (c:Nat) (h0:w.cell? (ad.add 0)=some (.string ⟨nm.toArray⟩)) (h1:w.cell? (ad.add 1)=some (.int .u64 id)):Calls Tryz.prog 139 #[.slice (some ⟨g,0,none⟩) n cap,.int .i64 i,.slice (some ad) 1 c] w fun r w'=>∃V',r=.returned V'∧w'.ownsRow 0 71 2 V' (n+1) ((cellW rows).take (i*2)++[.string ⟨nm.toArray⟩,.int .u64 id]++(cellW rows).drop (i*2))∧w.grownBy w' (Value.slice (some ⟨g,0,none⟩) n cap).ownBlock∧(∀b,V'.ownBlock=some b→(Value.slice (some ⟨g,0,none⟩) n cap).ownBlock=some b∨w.heap.size≤b):=by
 obtain⟨inf,z,hi',hz,hzs,hsz,hby⟩:=jN;have hszm:(Tryz.prog.info? 71).map (·.size)=some 2:=by rw[hi'];simp[hsz]
 have hcl:(cellW rows).length=n*2:=by rw[ep hs2,hn]
 obtain⟨cs,hcse⟩:∃cs,cs=(cellW rows).drop (i*2):=⟨_,rfl⟩;have hcsl:cs.length=(n-i)*2:=by rw[hcse,List.length_drop,hcl];omega
 have hcur:cur.toList.length=cap*2:=by simpa using hcs
 have hone:=jP hp;have hgw:g<w.heap.size:=(Array.getElem?_eq_some_iff.1 hg0).1;have hadw:ad.block<w.heap.size:=by
  have:=h0;rw[add_zero']at this;unfold World.cell? at this;split at this;·rename_i hq;exact(Array.getElem?_eq_some_iff.1 hq).1
  ·cases this
 have hcellA:∀j v,(cellW rows)[j]?=some v→w.cell? ⟨g,j,none⟩=some v:=by
  intro j v hj;rw[←htk,List.getElem?_take]at hj;split at hj;·simp only[World.cell?,hg0];simpa using hj
  ·cases hj
 have hold:(Builtin.firstCells inf.size i (.slice (some ⟨g,0,none⟩) i cap)).run Tryz.prog w.drew=.ok ((cellW rows).take (i*2)).toArray w.drew:=by rw[hsz];exact run_firstCells_some w.drew 2 i ⟨g,0,none⟩ i cap _ (by rw[List.length_take];omega) (fun j v hj=>by
  rw[Addr.add_lit];rw[List.getElem?_take]at hj;split at hj;·rw[Nat.zero_add];exact hcellA j v hj
  ·cases hj)
 have hkk:(n:Int)+1-(i:Int)=((n+1-i:Nat):Int):=by omega
 have hrz:∀ty,(Builtin.append_ #[33,3] ty #[.slice (some ⟨g,0,none⟩) i cap,.int .i64 ((n:Int)+1-(i:Int))]).run Tryz.prog w=.ok (.slice (some ⟨w.heap.size,0,none⟩) (n+1) (grownCap w (n+1) cap 71)) (w.drew.alloc (.cells (((cellW rows).take (i*2)).toArray++Builtin.zeroCells z.cells (n+1-i)++Builtin.zeroCells z.cells (grownCap w (n+1) cap 71-(n+1))) 71)):=fun ty=>by have h:=Lib.run_append_grow_zeros w 33 3 ty 71 inf z .i64 .i64 Tryz.underlying33 Tryz.underlying3 hi' hz (some ⟨g,0,none⟩) i cap ((cellW rows).take (i*2)) hold (n+1-i) (by omega) (by omega) (by omega) (by omega) (by rw[hby];omega) (by rw[hby];exact growslice_fits (by omega) (by omega));rw[show i+(n+1-i)=n+1 from by omega]at h;rw[hkk];exact h
 have hGn:n+1≤grownCap w (n+1) cap 71:=grownCap_ge w _ _ _;have hGm:grownCap w (n+1) cap 71≤maxLen:=grownCap_le_maxLen w (n+1) cap _ (by unfold maxLen;omega);generalize grownCap w (n+1) cap 71=G at hrz hGn hGm;obtain⟨ROW,hROW⟩:∃ROW,ROW=((cellW rows).take (i*2)).toArray++Builtin.zeroCells z.cells (n+1-i)++Builtin.zeroCells z.cells (G-(n+1)):=⟨_,rfl⟩;rw[←hROW]at hrz;have hRl:ROW.size=G*2:=by rw[hROW];simp only[Array.size_append,List.size_toArray,List.length_take,hcl,size_zeroCells,hzs,hsz];omega
 have hRt:ROW.toList.take (i*2)=(cellW rows).take (i*2):=by rw[hROW];simp only[Array.toList_append,List.append_assoc];rw[List.take_append_of_le_length (by rw[List.length_take,hcl];omega),List.take_of_length_le (by rw[List.length_take];omega)]
 obtain⟨N,hN⟩:∃N,N=w.heap.size:=⟨_,rfl⟩;obtain⟨W1,hW1⟩:∃W1,W1=w.drew.alloc (.cells ROW 71):=⟨_,rfl⟩;have hW1N:W1.heap[N]?=some (.cells ROW 71 (0,0)):=by rw[hW1,hN];exact heap_alloc_new w.drew _
 have hW1o:∀k,k<w.heap.size→W1.heap[k]?=w.heap[k]?:=fun k hk=>by rw[hW1];exact Below.heap_alloc w.drew _ k hk
 obtain⟨X1,hX1⟩:∃X1,X1=(ROW.toList.take (i*2)++[Value.string ⟨nm.toArray⟩,Value.int .u64 id]++ROW.toList.drop (i*2+2)).toArray:=⟨_,rfl⟩;have hX1l:X1.size=G*2:=by rw[hX1];simp only[List.size_toArray,List.length_append,List.length_take,List.length_drop,Array.length_toList,hRl,List.length_cons,List.length_nil];omega
 have hold':∀W:World,(∀k,k<w.heap.size→W.heap[k]?=w.heap[k]?)→∀x:Addr,x.block<w.heap.size→W.cell? x=w.cell? x:=fun W hW x hx=>by unfold World.cell?;rw[hW _ hx]
 have hcpA:∀W:World,W.heap=W1.heap→∀sT ty dc,(Builtin.copy_ #[33,sT] ty #[.slice (some ⟨N,i*2,none⟩) (n+1-i) dc,.slice (some ad) 1 c]).run Tryz.prog W=.ok (goInt 1) (W.setRow N X1):=fun W hW sT ty dc=>by
  have:=cW W 33 sT ty 71 N (i*2) (n+1-i) dc ad 1 c 2 ROW 71 [.string ⟨nm.toArray⟩,.int .u64 id] Tryz.underlying33 hszm (by rw[hW];exact hW1N) (by simp only[List.length_cons,List.length_nil,Nat.min_def];split<;>omega) (fun j v hj=>by
   have hab:∀j,(ad.add j).block<w.heap.size:=fun j=>by rw[bH];exact hadw
   have ho:∀k,k<w.heap.size→W.heap[k]?=w.heap[k]?:=fun k hk=>by rw[hW];exact hW1o k hk
   match j with|0=>simp at hj;subst hj;rw[hold' W ho _ (hab 0)];exact h0|1=>simp at hj;subst hj;rw[hold' W ho _ (hab 1)];exact h1|j+2=>simp at hj) (by simp only[List.length_cons,List.length_nil,hRl];omega) (by intro v hv;simp only[List.mem_cons,List.not_mem_nil,or_false]at hv;rcases hv with rfl|rfl<;>rfl);rw[this,hX1];congr 2;simp only[Nat.min_def];split<;>omega
 obtain⟨X2,hX2⟩:∃X2,X2=(X1.toList.take ((i+1)*2)++cs++X1.toList.drop ((i+1)*2+cs.length)).toArray:=⟨_,rfl⟩;have hX2l:X2.size=G*2:=by rw[hX2];simp only[List.size_toArray,List.length_append,List.length_take,List.length_drop,Array.length_toList,hX1l,hcsl];omega
 have hW2o:∀k,k<w.heap.size→(W1.setRow N X1).heap[k]?=w.heap[k]?:=fun k hk=>by rw[setRow_other _ N k _ (by omega)];exact hW1o k hk
 have hcpB:∀W:World,W.heap=(W1.setRow N X1).heap→∀sT ty dc sc,(Builtin.copy_ #[33,sT] ty #[.slice (some ⟨N,(i+1)*2,none⟩) (n-i) dc,.slice (some ⟨g,i*2,none⟩) (n-i) sc]).run Tryz.prog W=.ok (goInt (n-i)) (W.setRow N X2):=fun W hW sT ty dc sc=>by have:=cW W 33 sT ty 71 N ((i+1)*2) (n-i) dc ⟨g,i*2,none⟩ (n-i) sc 2 X1 71 cs Tryz.underlying33 hszm (by rw[hW];exact setRow_heap W1 N ROW X1 _ _ hW1N) (by rw[hcsl];congr 1;simp only[Nat.min_def];split<;>omega) (fun j v hj=>by rw[hold' W (fun k hk=>by rw[hW];exact hW2o k hk) _ (by rw[bH];exact hgw),Addr.add_lit];rw[hcse,List.getElem?_drop]at hj;exact hcellA _ v hj) (by rw[hcsl,hX1l];omega) (fun v hv=>hone v (by rw[hcse]at hv;exact List.mem_of_mem_drop hv));rw[this,hX2];congr 2;simp only[Nat.min_def];split<;>omega
 have key:∀Φ:Ending→World→Prop,(∀w',w'.heap=((W1.setRow N X1).setRow N X2).heap→w'.os=w.os→w'.tape=w.tape→w'.output=w.output→Φ (.returned (.slice (some ⟨N,0,none⟩) (n+1) G)) w')→Calls Tryz.prog 139 #[.slice (some ⟨g,0,none⟩) n cap,.int .i64 i,.slice (some ad) 1 c] w Φ:=by
  intro Φ hΦ;have q1:¬((i:Int)=(n:Int)):=by omega
  have q2:(cap:Int)<(n:Int)+1:=by omega
  have q3:(i:Int)≤(n:Int):=by omega
  have q5:(0:Int)≤(n:Int)+1:=by omega
  have q6:(i:Int)+1≤(n:Int)+1:=by omega
  have q7:IntKind.i64.wrap ((n:Int)+1)=(n:Int)+1:=by rw[IntKind.wrap_i64];omega
  have q8:IntKind.i64.wrap ((i:Int)+1)=(i:Int)+1:=by rw[IntKind.wrap_i64];omega
  have q9:IntKind.i64.wrap ((n:Int)+1-(i:Int))=(n:Int)+1-(i:Int):=by rw[IntKind.wrap_i64];omega
  have q10:((i:Int)+1).toNat=i+1:=by omega
  have q11:(0:Int)≤(i:Int)+1:=by omega
  have q12:¬(G=i+1):=by omega
  have q13:¬(G=i):=by omega
  have q14:(i:Int)≤(n:Int)+1:=by omega
  have q15:¬(cap=i):=by omega
  have mixed:Tryz.prog.follows .mixedOrders=true:=by kernel_rfl
  have hΦ':Φ (.returned (.slice (some ⟨N,0,none⟩) (n+1) G)) (((W1.setRow N X1).drew).setRow N X2):=hΦ _ rfl (by rw[hW1];rfl) (by rw[hW1];rfl) (by rw[hW1];rfl);rw[←hW1]at hrz;subst hN;clear hkk hΦ hold hone hX1 hX2 htk hcur hROW hRt hW1N hW1o hW2o hold' hcellA hW1;go_enter Tryz.func139,Tryz.ntmps139;go_wp2_with(first|(at_builtin;refine Lib.wpList_append_run _ rfl _ _ _ _ rfl _ _ rfl rfl _ _ (hrz _) ?_)|(at_builtin;refine wpList_copy_runI _ rfl _ _ 33 32 rfl _ _ rfl rfl (hcpA _ rfl _ _ _) ?_));go_region_law_o(refine step_copy_runI rfl _ _ 33 33 rfl (.slice (some ⟨w.heap.size,(i+1)*2,none⟩) (n-i) (G-(i+1))) (.slice (some ⟨g,i*2,none⟩) (n-i) (cap-i)) (by simp[Act.eval,Act.put]) (by simp[Act.eval,Act.put]) (hcpB (W1.setRow w.heap.size X1).drew rfl 33 3 (G-(i+1)) (cap-i)) ?_);go_wp2;exact hΦ'
 have e1:X1.toList.take ((i+1)*2)=(cellW rows).take (i*2)++[Value.string ⟨nm.toArray⟩,Value.int .u64 id]:=by
  rw[hX1,hRt];have hl:((cellW rows).take (i*2)++[Value.string ⟨nm.toArray⟩,Value.int .u64 id]).length=(i+1)*2:=by simp only[List.length_append,List.length_take,hcl,List.length_cons,List.length_nil];omega
  rw[←hl];exact List.take_left
 have e3:X2.toList=((cellW rows).take (i*2)++[Value.string ⟨nm.toArray⟩,Value.int .u64 id]++(cellW rows).drop (i*2))++X1.toList.drop ((i+1)*2+cs.length):=by rw[hX2,e1,hcse]
 have e4:((cellW rows).take (i*2)++[Value.string ⟨nm.toArray⟩,Value.int .u64 id]++(cellW rows).drop (i*2)).length=(n+1)*2:=by simp only[List.length_append,List.length_take,List.length_cons,List.length_nil,List.length_drop,hcl];omega
 refine key _ fun w' hh ho ht hou=>⟨_,rfl,⟨e4,.inr ⟨N,G,X2,rfl,Nat.zero_le _,?_,hGn,hGm,hX2l,?_⟩⟩,⟨ho,ht,hou,?_,?_⟩,fun b hb=>.inr ?_⟩;·rw[hh];exact setRow_heap (W1.setRow N X1) N X1 X2 _ _ (setRow_heap W1 N ROW X1 _ _ hW1N)
 ·rw[e3,←e4];exact List.take_left
 ·rw[hh,hW1];simp[World.setRow]
 ·intro k hk hne;rw[hh,setRow_other _ N k _ (by omega)];exact hW2o k hk
 ·simp[Value.ownBlock]at hb;omega
theorem jz {P:Program}{ops:Array Oper}{o:Oper}{a:Act}{w:World}{K:Act→World→Prop}{Q:Exit→Act→World→Prop}{E:Prop} (hg:o.guard=none) (d x:Operand) (dT sT:TypeId) (hop:o.op=Op.call {callee:=Callee.builtin Builtin.append,args:=#[d,x],argTypes:=#[dT,sT]}) (v u:Value) (hd:a.eval d=v) (hx:a.eval x=u) {v':Value}{w':World} (hr:(Builtin.append_ #[dT,sT] o.type #[v,u]).run P w=.ok v' w') (hK:K (a.put o.dst v') w'):if Region.wanted o (yielded ops a.tmps)=true then Oper.wp P o a w K Q else E:=by
 have hw:Region.wanted o (yielded ops a.tmps)=true:=by simp[Region.wanted,hg]
 rw[if_pos hw];unfold Oper.wp;simp[execOp,hop,resolve,invoke,builtin,hd,hx,hr,Result.andThen];exact hK
theorem jO {P:Program} (w:World) {ops:Array Oper}{rest:List Oper}{o:Oper}{a:Act}{Q:Exit→Act→World→Prop} (hgd:o.guard=none) (x:Operand) (t:TypeId) (ho:o.op=.call {callee:=.builtin .clear,args:=#[x],argTypes:=#[t]}) (v:Value) (hx:a.eval x=v) {v':Value}{w':World} (hr:(Builtin.clear_ #[t] o.type #[v]).run P w=.ok v' w') (h:wpList P ops Q rest (a.put o.dst v') w'):wpList P ops Q (o::rest) a w:=wpList_plain hgd fun _ hK=>by unfold Oper.wp execOp;simp only[ho,resolve,invoke,builtin,Sem.run_bind,Sem.run_pure,Result.andThen_ok,List.map_toArray,List.map_cons,List.map_nil,hx,hr];exact hK _ _ h
theorem FI {inf:TypeInfo}{z:Value} (hi:Tryz.prog.info? 71=some inf) (hz:inf.zero=some z):∀v∈z.cells.toList,v.oneCell'=true:=by
 have key:((Tryz.prog.info? 71).bind fun i=>i.zero.map fun z=>z.cells.toList.all (·.oneCell'))=some true:=by kernel_rfl
 rw[hi]at key;simp only[Option.bind_some,hz,Option.map_some,Option.some.injEq]at key;exact List.all_eq_true.1 key
theorem zE (w:World) (rows:List (List PV)) (hs2:∀r∈rows,r.length=2) (hp:c9 rows) (i n:Nat) (hn:rows.length=n) (hi:i<n) (hsm:n≤1000000) (g cap:Nat) (cur:Array Value) (hg0:w.heap[g]?=some (.cells cur 71 (0,0))) (hnc:n≤cap) (hcm:cap≤maxLen) (hcs:cur.size=cap*2) (htk:cur.toList.take (n*2)=cellW rows):Calls Tryz.prog 141 #[.slice (some ⟨g,0,none⟩) n cap,.int .i64 i,.int .i64 ((i:Int)+1)] w fun r w'=>∃V',r=.returned V'∧w'.ownsRow 0 71 2 V' (n-1) ((cellW rows).take (i*2)++(cellW rows).drop ((i+1)*2))∧w.grownBy w' (Value.slice (some ⟨g,0,none⟩) n cap).ownBlock∧(∀b,V'.ownBlock=some b→(Value.slice (some ⟨g,0,none⟩) n cap).ownBlock=some b∨w.heap.size≤b):=by
 obtain⟨inf,z,hi',hz,hzs,hsz,hby⟩:=jN;have hzone:=FI hi' hz;have hcl:(cellW rows).length=n*2:=by rw[ep hs2,hn]
 obtain⟨cs,hcse⟩:∃cs,cs=(cellW rows).drop ((i+1)*2):=⟨_,rfl⟩;have hcsl:cs.length=(n-(i+1))*2:=by rw[hcse,List.length_drop,hcl];omega
 have hcur:cur.toList.length=cap*2:=by simpa using hcs
 have hone:=jP hp;obtain⟨X1,hX1⟩:∃X1,X1=(cur.toList.take (i*2)++cs++cur.toList.drop (i*2+cs.length)).toArray:=⟨_,rfl⟩;have hX1l:X1.size=cap*2:=by rw[hX1];simp only[List.size_toArray,List.length_append,List.length_take,List.length_drop,hcur,hcsl];omega
 have hcell:∀j v,cs[j]?=some v→w.drew.cell? ((⟨g,(i+1)*2,none⟩:Addr).add j)=some v:=by
  intro j v hj;rw[Addr.add_lit];rw[hcse,List.getElem?_drop,←htk,List.getElem?_take]at hj;split at hj;·simp only[World.cell?,World.drew,hg0];simpa using hj
  ·cases hj
 have hap:∀ty (a:Addr) c',(n-(i+1)≠0→a=⟨g,(i+1)*2,none⟩)→(Builtin.append_ #[33,33] ty #[.slice (some ⟨g,0,none⟩) i cap,.slice (some a) (n-(i+1)) c']).run Tryz.prog w.drew=.ok (.slice (some ⟨g,0,none⟩) (n-1) cap) (w.drew.setRow g X1):=by
  intro ty a c' ha;have hfc:(Builtin.firstCells inf.size (n-(i+1)) (.slice (some a) (n-(i+1)) c')).run Tryz.prog w.drew=.ok cs.toArray w.drew:=by rw[hsz];refine run_firstCells_some w.drew 2 (n-(i+1)) a (n-(i+1)) c' cs hcsl fun j v hj=>?_;rw[ha (fun h0=>by rw[h0]at hcsl;have:=(List.getElem?_eq_some_iff.1 hj).1;omega)];exact hcell j v hj
  have hst:=run_storeCells_at Tryz.prog g (i*2) 71 cs 0 cur w.drew hg0 (by rw[hcsl,hcs];omega) (fun v hv=>hone v (by rw[hcse]at hv;exact List.mem_of_mem_drop hv));simp only[Nat.add_zero]at hst;rw[←hX1]at hst;have hlen:∀W:World,(Builtin.lenOf (.slice (some a) (n-(i+1)) c')).run Tryz.prog W=.ok (n-(i+1)) W:=fun W=>rfl;have hroom:n-1≤cap:=by omega
  rw[hsz]at hfc;have hsum:i+(n-(i+1))=n-1:=by omega
  simp[Builtin.append_,run_underlying Tryz.underlying33,sizeOf,typeInfo,hi',hlen,hroom,hfc,Addr.add_lit,hsz,hst,hsum]
 obtain⟨zc,hzc⟩:∃zc,zc=(Builtin.zeroCells z.cells 1).toList:=⟨_,rfl⟩;have hzl:zc.length=2:=by rw[hzc,Array.length_toList,size_zeroCells,hzs,hsz]
 obtain⟨X2,hX2⟩:∃X2,X2=(X1.toList.take ((n-1)*2)++zc++X1.toList.drop ((n-1)*2+zc.length)).toArray:=⟨_,rfl⟩;have hX2l:X2.size=cap*2:=by rw[hX2];simp only[List.size_toArray,List.length_append,List.length_take,List.length_drop,Array.length_toList,hX1l,hzl];omega
 have hclr:∀W:World,W.heap=(w.drew.setRow g X1).heap→∀ty c',(Builtin.clear_ #[33] ty #[.slice (some ⟨g,(n-1)*2,none⟩) 1 c']).run Tryz.prog W=.ok (.tuple #[]) (W.setRow g X2):=by
  intro W hW ty c';have hWg:W.heap[g]?=some (.cells X1 71 (0,0)):=by rw[hW];exact setRow_heap w.drew g cur X1 _ _ hg0
  have hst:=run_storeCells_at Tryz.prog g ((n-1)*2) 71 zc 0 X1 W hWg (by rw[hzl,hX1l];omega) (fun v hv=>hzone v (by rw[hzc]at hv;exact mP _ _ _ hv));simp only[Nat.add_zero]at hst;rw[←hX2,hzc]at hst;have hzr:(zeroValue 71).run Tryz.prog W=.ok z W:=by simp[zeroValue,typeInfo,hi',hz]
  simp[Builtin.clear_,run_underlying Tryz.underlying33,hzr,hst]
 have key:∀Φ:Ending→World→Prop,(∀w',w'.heap=((w.setRow g X1).setRow g X2).heap→w'.os=w.os→w'.tape=w.tape→w'.output=w.output→Φ (.returned (.slice (some ⟨g,0,none⟩) (n-1) cap)) w')→Calls Tryz.prog 141 #[.slice (some ⟨g,0,none⟩) n cap,.int .i64 i,.int .i64 ((i:Int)+1)] w Φ:=by
  intro Φ hΦ;have q1:¬((i:Int)=(i:Int)+1):=by omega
  have q3:(i:Int)≤(n:Int):=by omega
  have q4:(n:Int)≤(cap:Int):=by omega
  have q5:(0:Int)≤(i:Int)+1:=by omega
  have q6:(i:Int)+1≤(n:Int):=by omega
  have q7:(i:Int)≤(i:Int)+1:=by omega
  have q10:((i:Int)+1).toNat=i+1:=by omega
  have q11:((n-1:Nat):Int)≤(n:Int):=by omega
  have q12:¬(cap=n-1):=by omega
  have q13:n-(n-1)=1:=by omega
  have q14:(i:Int)≤(cap:Int):=by omega
  have q15:(i:Int)+1≤(cap:Int):=by omega
  have mixed:Tryz.prog.follows .mixedOrders=true:=by kernel_rfl
  by_cases hcap:cap=i+1
  ·have hap':∀ty,(Builtin.append_ #[33,33] ty #[.slice (some ⟨g,0,none⟩) i cap,.slice (some ⟨g,0,none⟩) 0 0]).run Tryz.prog w.drew=.ok (.slice (some ⟨g,0,none⟩) (n-1) cap) (w.drew.setRow g X1):=fun ty=>by have:=hap ty ⟨g,0,none⟩ 0 (fun h=>by omega);rwa[show n-(i+1)=0 from by omega]at this
   subst hcap;clear hcell hone hX1 hX2 htk hcur hzc hap;go_enter Tryz.func141,Tryz.ntmps141;go_wp2;go_region_law_o(refine jz rfl _ _ 33 33 rfl (.slice (some ⟨g,0,none⟩) i (i+1)) (.slice (some ⟨g,0,none⟩) 0 0) (by simp[Act.eval,Act.put]) (by simp[Act.eval,Act.put]) (hap' 33) ?_);go_wp2_with(at_builtin;refine jO _ rfl _ 33 rfl _ rfl (hclr _ rfl _ _) ?_);exact hΦ _ rfl rfl rfl rfl
  ·have hap':=fun ty c'=>hap ty ⟨g,(i+1)*2,none⟩ c' (fun _=>rfl);clear hcell hone hX1 hX2 htk hcur hzc hap;go_enter Tryz.func141,Tryz.ntmps141;go_wp2;go_region_law_o(refine jz rfl _ _ 33 33 rfl (.slice (some ⟨g,0,none⟩) i cap) (.slice (some ⟨g,(i+1)*2,none⟩) (n-(i+1)) (cap-(i+1))) (by simp[Act.eval,Act.put]) (by simp[Act.eval,Act.put]) (hap' 33 (cap-(i+1))) ?_);go_wp2_with(at_builtin;refine jO _ rfl _ 33 rfl _ rfl (hclr _ rfl _ _) ?_);exact hΦ _ rfl rfl rfl rfl
 have hAt:(cellW rows).take (i*2)=cur.toList.take (i*2):=by rw[←htk,List.take_take,Nat.min_eq_left (by omega)]
 have hA2:((cellW rows).take (i*2)).length=i*2:=by rw[List.length_take];omega
 have e4:((cellW rows).take (i*2)++(cellW rows).drop ((i+1)*2)).length=(n-1)*2:=by rw[List.length_append,hA2,←hcse,hcsl];omega
 have e3:X2.toList.take ((n-1)*2)=(cellW rows).take (i*2)++(cellW rows).drop ((i+1)*2):=by
  have hl:(X1.toList.take ((n-1)*2)).length=(n-1)*2:=by rw[List.length_take,Array.length_toList,hX1l];omega
  have h1:X2.toList.take ((n-1)*2)=X1.toList.take ((n-1)*2):=by rw[hX2];simp only[List.append_assoc];rw[List.take_append_of_le_length (by omega),List.take_of_length_le (by omega)]
  rw[h1,hX1,←hAt,hcse,←e4];exact List.take_left
 refine key _ fun w' hh ho ht hou=>⟨_,rfl,⟨e4,.inr ⟨g,cap,X2,rfl,Nat.zero_le _,?_,by omega,hcm,hX2l,e3⟩⟩,⟨ho,ht,hou,?_,?_⟩,fun b hb=>.inl hb⟩;·rw[hh];exact setRow_heap (w.setRow g X1) g X1 X2 _ _ (setRow_heap w g cur X1 _ _ hg0)
 ·rw[hh];simp[World.setRow]
 ·intro k hk hne;have hkg:k≠g:=fun e=>hne (by rw[e];rfl);rw[hh,setRow_other _ g k _ hkg,setRow_other _ g k _ hkg]
theorem dK (l:List En):c9 (aO l):=by intro r hr p hp;simp only[aO,List.mem_map]at hr;obtain⟨e,_,rfl⟩:=hr;simp only[eJ,List.mem_cons,List.not_mem_nil,or_false]at hp;rcases hp with rfl|rfl<;>rfl
theorem sJ (l:List En) (i:Nat):aO (l.take i)=(aO l).take i:=by simp[aO,List.map_take]
theorem sm (l:List En) (i:Nat):aO (l.drop i)=(aO l).drop i:=by simp[aO,List.map_drop]
def AM (l:List En) (i:Nat) (e:En):List En:=l.take i++e::l.drop i
theorem EE (l:List En) (i:Nat) (e:En):cellW (aO (AM l i e))=(cellW (aO l)).take (i*2)++[Value.string ⟨e.n.toArray⟩,Value.int .u64 e.i]++(cellW (aO l)).drop (i*2):=by unfold AM;rw[show l.take i++e::l.drop i=l.take i++([e]++l.drop i) from rfl,fu,fu,ez,ez,sJ,sm,iT i (cO l),nb i (cO l),List.append_assoc];rfl
theorem EI (l:List En) (i:Nat):cellW (aO (l.take i++l.drop (i+1)))=(cellW (aO l)).take (i*2)++(cellW (aO l)).drop ((i+1)*2):=by rw[fu,ez,sJ,sm,iT i (cO l),nb (i+1) (cO l)]
@[simp] noncomputable def WC:List AV→Option (Prop×AV)|[.fr e a,.pv (.int .i64 i),.pv (.ro [[.str nm,.int .u64 id]])]=>if e=71 then(dec eJ a).map fun l=>(0≤i∧i≤l.length∧l.length≤1000000,.fr 71 (aO (AM l i.toNat ⟨nm,id⟩))) else none|_=>none
theorem U8:m7 Tryz.prog 139 WC:=by
 intro ys φ r h hφ;unfold WC at h;split at h
 ·rename_i e ra i nm id;split at h
  ·rename_i hef;subst hef;obtain⟨l,hl,h⟩:=Option.map_eq_some_iff.1 h;cases h;cases bk hl;obtain⟨h0,h1,h2⟩:=hφ;obtain⟨k,rfl⟩:∃k:Nat,i=(k:Int):=⟨i.toNat,by omega⟩;simp only[Int.toNat_natCast];obtain⟨inf,z,hi,hz,hzs,hsz,hby⟩:=jN;have hins:(AM l k ⟨nm,id⟩).length=l.length+1:=by unfold AM;simp;omega
   refine sC hi (rows:=aO l) (rows':=aO (AM l k ⟨nm,id⟩)) (by rw[hsz];exact cO l) (dK l) (by rw[hsz];exact cO _) (dK _) [.int .i64 (k:Int),.ro [[.str nm,.int .u64 id]]] ?_;intro w S V vals hown hS hlen hv;rw[hsz]at hown ⊢;match vals,hlen with
   |[v1,v2],_=>
    have e1:=(hv 0 v1 _ rfl rfl).aI;subst e1;obtain⟨A,c,rfl,hc,hne⟩:=(hv 1 v2 _ rfl rfl).fP;obtain⟨ad,sz,us,rfl,g1,g2,g3,g4,g5⟩:=hne (by simp);have hs2:sz=2:=(g2 [.str nm,.int .u64 id] (by simp)).symm;subst hs2;have u0:us 0 0=.string ⟨nm.toArray⟩:=(g5 0 0 _ _ rfl rfl).ew;have u1:us 0 1=.int .u64 id:=(g5 0 1 _ _ rfl rfl).aI;have k0:w.cell? (ad.add 0)=some (.string ⟨nm.toArray⟩):=by rw[←u0];exact g3 0 0 (by simp) (by omega)
    have k1:w.cell? (ad.add 1)=some (.int .u64 id):=by rw[←u1];exact g3 0 1 (by simp) (by omega)
    have hb:=(hS _ g1).2;rw[cD,hins,EE];rw[cD]at hown;rcases Nat.lt_or_ge k l.length with hk|hk
    ·rcases hown.2 with⟨_,hn⟩|⟨g,cap,cur,rfl,hb0,hg0,hnc,hcm,hcs,htk⟩;·omega
     ·have hbg:ad.block≠g:=fun e=>hb (by rw[e];rfl);rcases Nat.lt_or_ge cap (l.length+1) with hr|hr;·exact zI w (aO l) (cO l) (dK l) k l.length (cD l) hk h2 nm id g cap cur hg0 hnc hcs htk hr ad c k0 k1
      ·exact zU w (aO l) (cO l) (dK l) k l.length (cD l) hk h2 nm id g cap cur hg0 hcm hcs htk hr ad c hbg k0 k1
    ·have hkl:k=l.length:=by omega
     subst hkl;have hcl:(cellW (aO l)).length=l.length*2:=by rw[ep (cO l),cD]
     rw[List.take_of_length_le (by omega),List.drop_of_length_le (by omega),List.append_nil];have:=BA w V (aO l) (cO l) (dK l) (by simpa using h2) nm id (by rw[cD];exact hown) ad c k0 k1;rw[cD]at this;exact this
  ·cases h
 ·cases h
@[simp] noncomputable def Vl:List AV→Option (Prop×AV)|[.fr e a,.pv (.int .i64 i),.pv (.int .i64 j)]=>if e=71 then(dec eJ a).map fun l=>(0≤i∧i<l.length∧j=i+1∧l.length≤1000000,.fr 71 (aO (l.take i.toNat++l.drop (i.toNat+1)))) else none|_=>none
theorem XO:m7 Tryz.prog 141 Vl:=by
 intro ys φ r h hφ;unfold Vl at h;split at h
 ·rename_i e ra i j;split at h
  ·rename_i hef;subst hef;obtain⟨l,hl,h⟩:=Option.map_eq_some_iff.1 h;cases h;cases bk hl;obtain⟨h0,h1,hj,h2⟩:=hφ;subst hj;obtain⟨k,rfl⟩:∃k:Nat,i=(k:Int):=⟨i.toNat,by omega⟩;simp only[Int.toNat_natCast];obtain⟨inf,z,hi,hz,hzs,hsz,hby⟩:=jN;have hins:(l.take k++l.drop (k+1)).length=l.length-1:=by simp;omega
   refine sC hi (rows:=aO l) (rows':=aO (l.take k++l.drop (k+1))) (by rw[hsz];exact cO l) (dK l) (by rw[hsz];exact cO _) (dK _) [.int .i64 (k:Int),.int .i64 ((k:Int)+1)] ?_;intro w S V vals hown hS hlen hv;rw[hsz]at hown ⊢;match vals,hlen with
   |[v1,v2],_=>
    have e1:=(hv 0 v1 _ rfl rfl).aI;have e2:=(hv 1 v2 _ rfl rfl).aI;subst e1 e2;rw[cD,hins,EI];rw[cD]at hown;rcases hown.2 with⟨_,hn⟩|⟨g,cap,cur,rfl,hb0,hg0,hnc,hcm,hcs,htk⟩;·omega
    ·exact zE w (aO l) (cO l) (dK l) k l.length (cD l) (by omega) h2 g cap cur hg0 hnc hcm hcs htk
  ·cases h
 ·cases h
@[simp] noncomputable def GCl:List AV→Option (Prop×AV)|[.pv (.ro a)]=>(dec eJ a).map fun l=>(l.length≤100000000,.fr 71 (aO l))|_=>none
theorem MN:aN Tryz.prog 59 GCl:=by
 intro ys φ r h hφ;unfold GCl at h;split at h;·rename_i ra;obtain⟨a,ha,h⟩:=Option.map_eq_some_iff.1 h;cases h;cases bk ha;refine aq ah (by kernel_rfl) (by conv=>lhs;reduce) (by simp) ?_;cases a with|nil=>simp(config := { maxSteps := 3000000 }) [lq]|cons x l=>have hx:aO (x::l)=eJ x::aO l:=rfl;simp(config := { maxSteps := 3000000 }) [hx,aH];simp only[List.length_cons]at hφ;exact⟨by omega,by omega,rfl,cO l⟩
 ·cases h
@[simp] noncomputable def GB1:List AV→Option (Prop×AV)|[.agg [.pv (.str a),.pv (.int .u64 b)],.rp [.int .u64 n]]=>some (True,.pv (.bool (decide (b=n))))|_=>none
theorem c_B1:aN Tryz.prog 138 GB1:=by
 intro ys φ r h hφ;unfold GB1 at h;split at h;·cases h;refine aq ah (by kernel_rfl) (by conv=>lhs;reduce) (by simp) ?_;simp(config := { maxSteps := 3000000 })
 ·cases h
theorem CU:fo Tryz.prog 138=true:=by kernel_rfl
def Hb (l:List En) (n:Int):Bool:=l.any fun e=>decide (e.i=n)
@[simp] noncomputable def Yp:List AV→Option (Prop×AV)|[.pv (.ro a),.bo f [.rp [.int .u64 n]]]=>if f=138 then(dec eJ a).map fun l=>(l.length≤1000000000,.pv (.int .i64 (if Hb l n=true then((l.findIdx fun e=>decide (e.i=n):Nat):Int) else-1))) else none|_=>none
theorem Ux:aN Tryz.prog 164 Yp:=by
 intro ys φ r h hφ;unfold Yp at h;split at h
 ·rename_i ra f n;split at h
  ·rename_i hf;subst hf;obtain⟨a,ha,h⟩:=Option.map_eq_some_iff.1 h;cases h;cases bk ha;refine aq (ag c_B1 ah) (by kernel_rfl) (by conv=>lhs;reduce) (by simp) ?_;simp(config := { maxSteps := 3000000 });refine al (fun i:Nat=>i≤a.length∧∀e∈a.take i,¬e.i=n) (fun i=>⟨[(0,.pv (.ro (aO a))),(1,.bo 138 [.rp [.int .u64 n]]),(7,.pv (.int .i64 a.length)),(8,.pv (.int .i64 i))],[]⟩) (fun i=>a.length-i) [] 0 (by simp) ?_ ?_;·simp
   ·rintro i ⟨hi,ht⟩;have w2:IntKind.i64.wrap ((i:Int)+1)=(i:Int)+1:=wrap_i64 (by omega);by_cases hlt:i<a.length
    ·have r1:=dg hlt;by_cases he:a[i].i=n
     ·have eG:Hb a n=true:=by unfold Hb;rw[List.any_eq_true];exact⟨a[i],List.getElem_mem hlt,by simpa using he⟩
      have hfi:a.findIdx (fun e=>decide (e.i=n))=i:=by rw[List.findIdx_eq hlt];refine⟨by simpa using he,fun j hj=>?_⟩;have:=ht a[j] (by rw[List.mem_take_iff_getElem];exact⟨j,by omega,rfl⟩);simpa using this
      simp(config := { maxSteps := 3000000 }) [hlt,r1,CU,he,eG,hfi]
     ·simp(config := { maxSteps := 3000000 }) [hlt,r1,CU,he,w2];refine⟨i+1,⟨by omega,fun e hm=>?_⟩,by omega,by omega⟩;rw[List.take_succ_eq_append_getElem hlt,List.mem_append,List.mem_singleton]at hm;rcases hm with hm|rfl;·exact ht e hm
      ·exact he
    ·rw[List.take_of_length_le (by omega)]at ht;have eG:Hb a n=false:=by unfold Hb;rw[List.any_eq_false];intro e he;simpa using ht e he
     simp(config := { maxSteps := 3000000 }) [hlt,eG]
  ·cases h
 ·cases h
@[simp] noncomputable def GCfC:List AV→Option (Prop×AV)|[.pv (.ro a),.bo f [.rp [.int .u64 n]]]=>if f=138 then(dec eJ a).map fun l=>(l.length≤1000000000,.pv (.bool (Hb l n))) else none|_=>none
theorem XU:aN Tryz.prog 137 GCfC:=by
 intro ys φ r h hφ;unfold GCfC at h;split at h
 ·rename_i ra f n;split at h;·rename_i hf;subst hf;obtain⟨a,ha,h⟩:=Option.map_eq_some_iff.1 h;cases h;cases bk ha;refine aq (ag Ux ah) (by kernel_rfl) (by conv=>lhs;reduce) (by simp) ?_;cases eG:Hb a n with|true=>simp(config := { maxSteps := 3000000 }) [hφ,eG]|false=>simp(config := { maxSteps := 3000000 }) [hφ,eG]
  ·cases h
 ·cases h
def DW (l:List En) (e:En):List En:=AM l (lb l e.n) e
def fw (l:List En) (s:List UInt8) (n:Int):List En×Int:=if(gG l s).2=0 then([],81) else if(gG l s).2≠80 then([],(gG l s).2) else if n=0∨Hb l n=true then([],2) else(DW l ⟨s,n⟩,0)
theorem nM (l:List En) (s:List UInt8):(bC l=false∧gG l s=(0,2))∨(bC l=true∧eM s=false∧gG l s=(0,170))∨(bC l=true∧eM s=true∧dD l s=false∧gG l s=(0,80))∨(bC l=true∧eM s=true∧dD l s=true∧∃h:lb l s<l.length,gG l s=(l[lb l s].i,0)∧l[lb l s].n=s):=by cases hr:bC l with|false=>left;exact⟨rfl,by unfold gG;rw[if_neg (by simp[hr])]⟩|true=>right;cases hn:eM s with|false=>left;exact⟨rfl,rfl,by unfold gG;rw[if_pos hr,if_neg (by simp[hn])]⟩|true=>right;cases hf:dD l s with|false=>left;exact⟨rfl,rfl,rfl,my hr hn hf⟩|true=>right;exact⟨rfl,rfl,rfl,nt hr hn hf⟩
@[simp] noncomputable def LQ:List AV→Option (Prop×AV)|[.pv (.ro a),.pv (.str s),.pv (.int .u64 n)]=>(dec eJ a).map fun l=>(l.length≤100000,.aJ [.fr 71 (aO (fw l s n).1),.pv (.int .i64 (fw l s n).2)])|_=>none
theorem GK:aN Tryz.prog 101 LQ:=by
 intro ys φ r h hφ;unfold LQ at h;split at h
 ·rename_i ra s n;obtain⟨a,ha,h⟩:=Option.map_eq_some_iff.1 h;cases h;cases bk ha;have hl9:a.length≤1000000000:=by omega
  have hl8:a.length≤100000000:=by omega
  have hl6:a.length≤1000000:=by omega
  have hinf:(Tryz.prog.info? 71).isSome=true:=by kernel_rfl
  refine aq (ag HI (ag CC (ag XU (ag MN (eD (p:=0) (k:=998) U8 (by kernel_rfl) ah))))) (by kernel_rfl) (by conv=>lhs;reduce) (by simp) ?_;rcases nM a s with⟨hr,hg⟩|⟨hr,hn,hg⟩|⟨hr,hn,hf,hg⟩|⟨hr,hn,hf,hlt,hg,_⟩
  ·have hb:fw a s n=([],2):=by unfold fw;rw[hg];simp
   simp(config := { maxSteps := 3000000 }) [hl9,kl,hr,hb,hinf]
  ·have hb:fw a s n=([],170):=by unfold fw;rw[hg];simp
   simp(config := { maxSteps := 3000000 }) [hl9,kl,hr,hn,hb,hinf]
  ·by_cases h0:n=0
   ·have hb:fw a s n=([],2):=by unfold fw;rw[hg];simp[h0]
    simp(config := { maxSteps := 3000000 }) [hl9,kl,hr,hn,hf,h0,hb,hinf];try simp[←h0,hb]
   ·cases eG:Hb a n with|true=>
     have hb:fw a s n=([],2):=by unfold fw;rw[hg];simp[eG]
     simp(config := { maxSteps := 3000000 }) [hl9,kl,hr,hn,hf,h0,eG,hb,hinf]|false=>
     have hb:fw a s n=(AM a (lb a s) ⟨s,n⟩,0):=by unfold fw;rw[hg];simp[eG,h0,DW]
     have hlb:=LG a s;simp(config := { maxSteps := 3000000 }) [hl9,hl8,hl6,kl,hr,hn,hf,h0,eG,hb,hinf,hlb];exact aV _
  ·have hb:fw a s n=([],81):=by unfold fw;rw[hg];simp
   simp(config := { maxSteps := 3000000 }) [hl9,kl,hr,hn,hf,hb,hinf]
 ·cases h
@[simp] noncomputable def GrPutE:List AV→Option (Prop×AV)|[.pv (.ro a),.agg [.pv (.str s),.pv (.int .u64 n)]]=>(dec eJ a).map fun l=>(l.length≤1000000∧bC l=true∧dD l s=false,.fr 82 (aO (DW l ⟨s,n⟩)))|_=>none
@[simp] noncomputable def GrBind:List AV→Option (Prop×AV)|[.pv (.ro a),.pv (.str s),.pv (.int .u64 n)]=>(dec eJ a).map fun l=>(l.length≤100000,.aJ [.fr 82 (aO (fw l s n).1),.pv (.int .i64 (fw l s n).2)])|_=>none
def df (l:List En) (s:List UInt8):List En:=l.filter fun e=>!decide (e.n=s)
def nO (l:List En) (s:List UInt8):List En×Int:=if(gG l s).2≠0 then([],(gG l s).2) else(df l s,0)
theorem BZ {l:List En}{s:List UInt8} (hr:bC l=true) (h:lb l s<l.length) (hs:l[lb l s].n=s):df l s=l.take (lb l s)++l.drop (lb l s+1):=by
 have h1:l=l.take (lb l s)++l[lb l s]::l.drop (lb l s+1):=by rw[←List.drop_eq_getElem_cons h,List.take_append_drop]
 have ha:(l.take (lb l s)).filter (fun e=>!decide (e.n=s))=l.take (lb l s):=by rw[List.filter_eq_self];intro e he;rw[List.mem_take_iff_getElem]at he;obtain⟨j,hj,rfl⟩:=he;have:=vO (Ku (l:=l) (s:=s) (k:=j) (by omega));simpa using this
 have hd:(l.drop (lb l s+1)).filter (fun e=>!decide (e.n=s))=l.drop (lb l s+1):=by rw[List.filter_eq_self];intro e he;rw[List.mem_drop_iff_getElem]at he;obtain⟨j,hj,rfl⟩:=he;have:=vO (iD hr (i:=lb l s) (j:=lb l s+1+j) (by omega) (by omega)).1;rw[hs]at this;simpa using fun e=>this e.symm
 unfold df;conv=>lhs;rw[h1]
 rw[List.filter_append,ha,List.filter_cons,hd];simp[hs]
@[simp] noncomputable def U2:List AV→Option (Prop×AV)|[.pv (.ro a),.pv (.str s)]=>(dec eJ a).map fun l=>(l.length≤100000,.aJ [.fr 71 (aO (nO l s).1),.pv (.int .i64 (nO l s).2)])|_=>none
theorem Ml:aN Tryz.prog 102 U2:=by
 intro ys φ r h hφ;unfold U2 at h;split at h
 ·rename_i ra s;obtain⟨a,ha,h⟩:=Option.map_eq_some_iff.1 h;cases h;cases bk ha;have hl9:a.length≤1000000000:=by omega
  have hl8:a.length≤100000000:=by omega
  have hl6:a.length≤1000000:=by omega
  have hinf:(Tryz.prog.info? 71).isSome=true:=by kernel_rfl
  refine aq (ag L2 (ag CC (ag MN (eD (p:=0) (k:=998) XO (by kernel_rfl) ah)))) (by kernel_rfl) (by conv=>lhs;reduce) (by simp) ?_;rcases nM a s with⟨hr,hg⟩|⟨hr,hn,hg⟩|⟨hr,hn,hf,hg⟩|⟨hr,hn,hf,hlt,hg,hs⟩
  ·have hb:nO a s=([],2):=by unfold nO;rw[hg];simp
   simp(config := { maxSteps := 3000000 }) [hl9,hg,hb,hinf]
  ·have hb:nO a s=([],170):=by unfold nO;rw[hg];simp
   simp(config := { maxSteps := 3000000 }) [hl9,hg,hb,hinf]
  ·have hb:nO a s=([],80):=by unfold nO;rw[hg];simp
   simp(config := { maxSteps := 3000000 }) [hl9,hg,hb,hinf]
  ·have hb:nO a s=(a.take (lb a s)++a.drop (lb a s+1),0):=by unfold nO;rw[hg];simp[BZ hr hlt hs]
   have w1:IntKind.i64.wrap ((lb a s:Int)+1)=(lb a s:Int)+1:=wrap_i64 (by omega);simp(config := { maxSteps := 3000000 }) [hl9,hl8,hl6,hg,hr,hf,hb,hinf,hlt,w1]
 ·cases h
@[simp] noncomputable def GrWo:List AV→Option (Prop×AV)|[.pv (.ro a),.pv (.str s)]=>(dec eJ a).map fun l=>(l.length≤1000000,.fr 82 (aO (df l s)))|_=>none
theorem zC (l:List En) (s:List UInt8):(df l s).length≤l.length:=List.length_filter_le _ _
@[simp] noncomputable def GrUnb:List AV→Option (Prop×AV)|[.pv (.ro a),.pv (.str s)]=>(dec eJ a).map fun l=>(l.length≤100000,.aJ [.fr 82 (aO (nO l s).1),.pv (.int .i64 (nO l s).2)])|_=>none
theorem mU {l:List En} (s:List UInt8) (hr:bC l=true):bC (df l s)=true:=by rw[iF]at hr ⊢;exact⟨fun e he=>hr.1 e (List.mem_filter.1 he).1,hr.2.filter _⟩
theorem uU {l:List En}{s t:List UInt8} (hr:bC l=true) (h:dD l t=false):dD (df l s) t=false:=by cases hf:dD (df l s) t with|false=>rfl|true=>obtain⟨e,he,hn⟩:=(pg (mU s hr)).1 hf;have:=(pg (s:=t) hr).2 ⟨e,(List.mem_filter.1 he).1,hn⟩;rw[h]at this;cases this
theorem A8 {l:List En}{s:List UInt8} (hr:bC l=true) {e:En} (he:e∈l) (hs:e.n=s):Hb (df l s) e.i=false:=by
 unfold Hb;rw[List.any_eq_false];intro x hx hi;have hxl:=(List.mem_filter.1 hx).1;have hxn:¬x.n=s:=by simpa using(List.mem_filter.1 hx).2
 have hi':x.i=e.i:=by simpa using hi
 obtain⟨j,hj,rfl⟩:=List.getElem_of_mem hxl;obtain⟨k,hk,rfl⟩:=List.getElem_of_mem he;rcases Nat.lt_trichotomy j k with h|h|h;·exact(iD hr hk h).2 hi'
 ·subst h;exact hxn hs
 ·exact(iD hr hj h).2 hi'.symm
theorem wQ {l:List En}{s t:List UInt8} (hr:bC l=true) (hlt:lb l s<l.length) (hs:l[lb l s].n=s) (ht:eM t=true) (hf:dD l t=false):fw (df l s) t l[lb l s].i=(DW (df l s) ⟨t,l[lb l s].i⟩,0):=by have hg:=my (mU s hr) ht (uU (s:=s) hr hf);have eG:=A8 hr (List.getElem_mem hlt) hs;have h0:l[lb l s].i≠0:=((iF l).1 hr).1 _ (List.getElem_mem hlt)|>.2;unfold fw;rw[hg,if_neg (by simp),if_neg (by simp),if_neg (by simp[eG,h0])]
def kf (l:List En) (s t:List UInt8):List En×Int:=if bC l=true∧(eM s=false∨eM t=false) then([],170) else if(gG l s).2≠0 then([],(gG l s).2) else if(gG l t).2=0 then([],81) else(DW (df l s) ⟨t,(gG l s).1⟩,0)
@[simp] noncomputable def VY:List AV→Option (Prop×AV)|[.pv (.ro a),.pv (.str s),.pv (.str t)]=>(dec eJ a).map fun l=>(l.length≤100000,.aJ [.fr 71 (aO (kf l s t).1),.pv (.int .i64 (kf l s t).2)])|_=>none
@[simp] noncomputable def GrRen:List AV→Option (Prop×AV)|[.pv (.ro a),.pv (.str s),.pv (.str t)]=>(dec eJ a).map fun l=>(l.length≤100000,.aJ [.fr 82 (aO (kf l s t).1),.pv (.int .i64 (kf l s t).2)])|_=>none
theorem Zr:aN Tryz.prog 103 VY:=by
 intro ys φ r h hφ;unfold VY at h;split at h
 ·rename_i ra s t;obtain⟨a,ha,h⟩:=Option.map_eq_some_iff.1 h;cases h;cases bk ha;have hl9:a.length≤1000000000:=by omega
  have hl5:a.length≤100000:=hφ;have hw5:(df a s).length≤100000:=by have:=zC a s;omega
  have hinf:(Tryz.prog.info? 71).isSome=true:=by kernel_rfl
  have fl:∀l,bz (aO l):=aV;refine aq (ag HI (ag L2 (ag CC (ag Ml (ag GK ah))))) (by kernel_rfl) (by conv=>lhs;reduce) (by simp) ?_;apply af;·simp(config := { maxSteps := 3000000 });exact⟨rfl,rfl⟩
  rcases nM a s with⟨hr,hg⟩|⟨hr,hn,hg⟩|⟨hr,hn,hf,hg⟩|⟨hr,hn,hf,hlt,hg,hs⟩
  ·have hb:kf a s t=([],2):=by unfold kf;rw[hg];simp[hr]
   refine b6 (fun _=>False) ?_ (fun _ h=>h.elim);apply af;·simp(config := { maxSteps := 3000000 }) [hl9,kl,hr];exact⟨rfl,rfl⟩
   apply af;·simp(config := { maxSteps := 3000000 }) [];exact⟨rfl,rfl⟩
   apply cj rfl;simp(config := { maxSteps := 3000000 }) [hb,hinf]
  ·have hb:kf a s t=([],170):=by unfold kf;simp[hr,hn]
   refine b6 (fun _=>False) ?_ (fun _ h=>h.elim);apply af;·simp(config := { maxSteps := 3000000 }) [hl9,kl,hr,hn];exact⟨rfl,rfl⟩
   apply af;·simp(config := { maxSteps := 3000000 }) [];exact⟨rfl,rfl⟩
   apply cj rfl;simp(config := { maxSteps := 3000000 }) [hb,hinf]
  ·cases ht:eM t with|false=>
    have hb:kf a s t=([],170):=by unfold kf;simp[hr,ht]
    refine b6 (fun _=>False) ?_ (fun _ h=>h.elim);apply af;·simp(config := { maxSteps := 3000000 }) [hl9,kl,hr,hn,ht];exact⟨rfl,rfl⟩
    apply af;·simp(config := { maxSteps := 3000000 }) [];exact⟨rfl,rfl⟩
    apply cj rfl;simp(config := { maxSteps := 3000000 }) [hb,hinf]|true=>
    have hb:kf a s t=([],80):=by unfold kf;rw[hg];simp[hr,hn,ht]
    rw[bg];apply af;·simp(config := { maxSteps := 3000000 }) [hl9,kl,hr,hn,ht];exact⟨rfl,rfl⟩
    apply af;·simp(config := { maxSteps := 3000000 });exact⟨rfl,rfl⟩
    apply eI rfl;apply af;·simp(config := { maxSteps := 3000000 }) [hl9,hg];exact⟨rfl,rfl⟩
    refine b6 (fun _=>False) ?_ (fun _ h=>h.elim);apply af;·simp(config := { maxSteps := 3000000 }) [];exact⟨rfl,rfl⟩
    apply cj rfl;simp(config := { maxSteps := 3000000 }) [hb,hinf]
  ·cases ht:eM t with|false=>
    have hb:kf a s t=([],170):=by unfold kf;simp[hr,ht]
    refine b6 (fun _=>False) ?_ (fun _ h=>h.elim);apply af;·simp(config := { maxSteps := 3000000 }) [hl9,kl,hr,hn,ht];exact⟨rfl,rfl⟩
    apply af;·simp(config := { maxSteps := 3000000 }) [];exact⟨rfl,rfl⟩
    apply cj rfl;simp(config := { maxSteps := 3000000 }) [hb,hinf]|true=>cases hft:dD a t with
    |true=>
     have hgt:=(nt hr ht hft).2.1;have hb:kf a s t=([],81):=by unfold kf;rw[hg,hgt];simp[hr,hn,ht]
     rw[bg];apply af;·simp(config := { maxSteps := 3000000 }) [hl9,kl,hr,hn,ht];exact⟨rfl,rfl⟩
     apply af;·simp(config := { maxSteps := 3000000 });exact⟨rfl,rfl⟩
     apply eI rfl;apply af;·simp(config := { maxSteps := 3000000 }) [hl9,hg];exact⟨rfl,rfl⟩
     rw[bg];apply af;·simp(config := { maxSteps := 3000000 });exact⟨rfl,rfl⟩
     apply eI rfl;refine b6 (fun _=>False) ?_ (fun _ h=>h.elim);apply af;·simp(config := { maxSteps := 3000000 }) [hl9,hr,hft];exact⟨rfl,rfl⟩
     apply af;·simp(config := { maxSteps := 3000000 }) [];exact⟨rfl,rfl⟩
     apply cj rfl;simp(config := { maxSteps := 3000000 }) [hb,hinf]|false=>
     have hgt:=my hr ht hft;have hb:kf a s t=(DW (df a s) ⟨t,a[lb a s].i⟩,0):=by unfold kf;rw[hg,hgt];simp[hr,hn,ht]
     have hu:nO a s=(df a s,0):=by unfold nO;rw[hg];simp
     have hbw:=wQ hr hlt hs ht hft;rw[bg];apply af;·simp(config := { maxSteps := 3000000 }) [hl9,kl,hr,hn,ht];exact⟨rfl,rfl⟩
     apply af;·simp(config := { maxSteps := 3000000 });exact⟨rfl,rfl⟩
     apply eI rfl;apply af;·simp(config := { maxSteps := 3000000 }) [hl9,hg];exact⟨rfl,rfl⟩
     rw[bg];apply af;·simp(config := { maxSteps := 3000000 });exact⟨rfl,rfl⟩
     apply eI rfl;rw[tM];rw[bg];apply af;·simp(config := { maxSteps := 3000000 }) [hl9,hr,hft];exact⟨rfl,rfl⟩
     apply af;·simp(config := { maxSteps := 3000000 });exact⟨rfl,rfl⟩
     apply eI rfl;apply af;·simp(config := { maxSteps := 3000000 }) [hl5,hu,fl];exact⟨rfl,rfl⟩
     simp(config := { maxSteps := 3000000 }) [hw5,hbw,hb,fl]
 ·cases h
structure Wr (w w':World) (b:Nat) (us:Array Value) (ty:TypeId):Prop where
 os:w'.os=w.os
 tape:w'.tape=w.tape
 output:w'.output=w.output
 size:w'.heap.size=w.heap.size
 here:w'.heap[b]?=some (.cells us ty (0,0))
 block:∀k,k≠b→w'.heap[k]?=w.heap[k]?
theorem uf {w:World}{b:Nat}{us:Array Value}{ty:TypeId} (h:w.heap[b]?=some (.cells us ty (0,0))) (o:Nat) (v:Value):Wr w (w.setCell ⟨b,o,none⟩ v) b (us.setIfInBounds o v) ty:=by
 refine⟨rfl,rfl,rfl,by simp[World.setCell],?_,fun k hk=>?_⟩;·simp[World.setCell,Array.getElem?_modify,h]
 ·simp[World.setCell,Array.getElem?_modify,Ne.symm hk]
theorem fB (a:Value) (b o:Nat) (x:Int) (us:Array Value) (ty:TypeId) (w:World) (h:w.heap[b]?=some (.cells us ty (0,0))) (hx:us[o]?=some (.int .u64 x)):Calls Tryz.prog 242 #[a,.pointer (some ⟨b,o,none⟩)] w fun e w'=>e=.returned (.tuple #[])∧Wr w w' b (us.setIfInBounds o (.int .u64 0)) ty:=by
 have hc:w.cell? ⟨b,o,none⟩=some (.int .u64 x):=by rw[Lib.cell_of_heap h];exact hx
 have hf:w.frozen? ⟨b,o,none⟩=false:=by simp[World.frozen?,h]
 go_enter Tryz.func242,Tryz.ntmps242;go_wp2;exact⟨rfl,_,by kernel_rfl,rfl,uf h o _⟩
theorem yx (b o bt:Nat) (n:List UInt8) (bad:Bool) (us:Array Value) (ty tt:TypeId) (w:World) (hne:b≠bt) (h:w.heap[b]?=some (.cells us ty (0,0))) (hx:us[o]?=some (.string ⟨n.toArray⟩)) (ht:w.heap[bt]?=some (.cells #[.bool bad] tt (0,0))):Calls Tryz.prog 243 #[.pointer (some ⟨bt,0,none⟩),.pointer (some ⟨b,o,none⟩)] w fun e w'=>e=.returned (.tuple #[])∧∃w1,Wr w w1 bt #[.bool (bad||decide (n=[])||decide (64<n.length))] tt∧Wr w1 w' b (us.setIfInBounds o (.string ⟨#[]⟩)) ty:=by
 have hc:w.cell? ⟨b,o,none⟩=some (.string ⟨n.toArray⟩):=by rw[Lib.cell_of_heap h];exact hx
 have hb:w.cell? ⟨bt,0,none⟩=some (.bool bad):=by rw[Lib.cell_of_heap ht];rfl
 have hf:w.frozen? ⟨b,o,none⟩=false:=by simp[World.frozen?,h]
 have hg:w.frozen? ⟨bt,0,none⟩=false:=by simp[World.frozen?,ht]
 have hd:∀v,(w.setCell ⟨bt,0,none⟩ v).cell? ⟨b,o,none⟩=some (.string ⟨n.toArray⟩):=fun v=>by rw[Lib.cell_of_heap (((uf ht 0 v).block b hne).trans h)];exact hx
 have fin:∀v,v=(bad||decide (n=[])||decide (64<n.length))→∃w1,Wr w w1 bt #[.bool (bad||decide (n=[])||decide (64<n.length))] tt∧Wr w1 ((w.setCell ⟨bt,0,none⟩ (.bool v)).setCell ⟨b,o,none⟩ (.string ⟨#[]⟩)) b (us.setIfInBounds o (.string ⟨#[]⟩)) ty:=by rintro v rfl;exact⟨_,uf ht 0 _,uf (((uf ht 0 _).block b hne).trans h) o _⟩
 go_enter Tryz.func243,Tryz.ntmps243;have hd1:=hd (.bool true);have hd2:=hd (.bool false);clear hd;cases bad with|true=>go_wp2;exact⟨rfl,_,by kernel_rfl,rfl,fin _ rfl⟩|false=>
  by_cases h1:n=[];·subst h1;go_wp2;exact⟨rfl,_,by kernel_rfl,rfl,fin _ rfl⟩
  ·go_wp2;refine⟨rfl,_,by kernel_rfl,rfl,fin _ ?_⟩;have:(n.isEmpty||decide (64<(n.length:Int)))=(decide (n=[])||decide (64<n.length)):=by cases n with|nil=>rfl|cons x l=>simp only[List.isEmpty_cons,Bool.false_or,reduceCtorEq,decide_false];exact decide_eq_decide.2 (by omega)
   rw[this,Bool.false_or]
def recC (r:Rc):Array Value:=#[.int .u8 r.k,.int .u64 r.p,.int .u64 r.i,.int .u64 r.s,.int .u64 r.e,.int .u64 r.u,.int .u64 r.v,.int .u64 r.c,.int .u64 r.z,.int .u64 r.m,.string ⟨r.n.toArray⟩,.string ⟨r.t.toArray⟩]
def xL:Nat→Rc→Rc|0,r=>{r with e:=0}|1,r=>{r with u:=0}|2,r=>{r with v:=0}|3,r=>{r with c:=0}|4,r=>{r with z:=0}|5,r=>{r with m:=0}|6,r=>{r with n:=[]}|7,r=>{r with t:=[]}|_,r=>r
def badR:Nat→Rc→Bool→Bool|6,r,b=>b||decide (r.n=[])||decide (64<r.n.length)|7,r,b=>b||decide (r.t=[])||decide (64<r.t.length)|_,_,b=>b
def sE:List Nat→Rc×Bool→Rc×Bool|[],x=>x|q::l,x=>sE l (xL q x.1,badR q x.1 x.2)
theorem aaJ (a b c:Value) (w:World):(Instr.index 235 (.agg #[a,b,c]) (.int .i64 0)).run Tryz.prog w=.ok a w:=by kernel_rfl
theorem Wx (a b c:Value) (w:World):(Instr.index 235 (.agg #[a,b,c]) (.int .i64 1)).run Tryz.prog w=.ok b w:=by kernel_rfl
theorem Ym (a b c:Value) (w:World):(Instr.index 235 (.agg #[a,b,c]) (.int .i64 2)).run Tryz.prog w=.ok c w:=by kernel_rfl
theorem K8 (n:Nat) (a:Addr) (w:World):(method (n+1) 187 (.pointer (some a)) "chartroom/record.number").run Tryz.prog w=.ok (242,.pointer (some a)) w:=by kernel_rfl
theorem m_txt (n:Nat) (a:Addr) (w:World):(method (n+1) 187 (.pointer (some a)) "chartroom/record.text").run Tryz.prog w=.ok (243,.pointer (some a)) w:=by kernel_rfl
theorem a_num (n:Nat) (a:Addr) (w:World):(nilAhead (n+1) 187 (.pointer (some a)) "chartroom/record.number").run Tryz.prog w=.ok (some false) w:=by kernel_rfl
theorem UG (n:Nat) (a:Addr) (w:World):(nilAhead (n+1) 187 (.pointer (some a)) "chartroom/record.text").run Tryz.prog w=.ok (some false) w:=by kernel_rfl
def iOf:Value→Nat|.int _ n=>n.toNat|_=>0
structure Vs (w0 w:World) (br bt:Nat) (r:Rc) (bad:Bool):Prop where
 os:w.os=w0.os
 tape:w.tape=w0.tape
 output:w.output=w0.output
 size:w0.heap.size<w.heap.size
 hr:w.heap[br]?=some (.cells (recC r) 38 (0,0))
 ht:w.heap[bt]?=some (.cells #[.bool bad] 189 (0,0))
 ha:w.heap[w0.heap.size]?=some (.cells #[.pointer (some ⟨br,4,none⟩),.pointer (some ⟨br,5,none⟩),.pointer (some ⟨br,6,none⟩),.pointer (some ⟨br,7,none⟩),.pointer (some ⟨br,8,none⟩),.pointer (some ⟨br,9,none⟩)] 234 (0,0))
 block:∀k,k<w0.heap.size→k≠br→k≠bt→w.heap[k]?=w0.heap[k]?
theorem Vs.drew {w0 w:World}{br bt:Nat}{r:Rc}{bad:Bool} (h:Vs w0 w br bt r bad):Vs w0 w.drew br bt r bad:=⟨h.os,h.tape,h.output,h.size,h.hr,h.ht,h.ha,h.block⟩
theorem Vs.num {w0 w w':World}{br bt:Nat}{r r':Rc}{bad:Bool} (h:Vs w0 w br bt r bad) (hlr:br<w0.heap.size) (hlt:bt<w0.heap.size) (hne:br≠bt) {us:Array Value} (hw:Wr w w' br us 38) (hu:us=recC r'):Vs w0 w' br bt r' bad:=⟨hw.os.trans h.os,hw.tape.trans h.tape,hw.output.trans h.output,by rw[hw.size];exact h.size,by rw[hw.here,hu],(hw.block bt (Ne.symm hne)).trans h.ht,(hw.block _ (by omega)).trans h.ha,fun k h1 h2 h3=>(hw.block k h2).trans (h.block k h1 h2 h3)⟩
theorem Vs.tak {w0 w w':World}{br bt:Nat}{r:Rc}{bad bad':Bool} (h:Vs w0 w br bt r bad) (hlr:br<w0.heap.size) (hlt:bt<w0.heap.size) (hne:br≠bt) (hw:Wr w w' bt #[.bool bad'] 189):Vs w0 w' br bt r bad':=⟨hw.os.trans h.os,hw.tape.trans h.tape,hw.output.trans h.output,by rw[hw.size];exact h.size,(hw.block br hne).trans h.hr,hw.here,(hw.block _ (by omega)).trans h.ha,fun k h1 h2 h3=>(hw.block k h3).trans (h.block k h1 h2 h3)⟩
theorem MI (r:Rc) (bad:Bool) (ps:List Nat) (hps:∀q∈ps,q<8) (hlen:ps.length≤8) (w:World) (br bt:Nat) (hne:br≠bt) (hlr:br<w.heap.size) (hlt:bt<w.heap.size) (A:Option Addr) (c:Nat) (hc:ps.length≤c) (hA:0<ps.length→∃b o,A=some ⟨b,o,none⟩∧b≠br∧b≠bt∧b<w.heap.size∧∀i (h:i<ps.length),w.cell? ⟨b,o+i,none⟩=some (.int .u8 ps[i])) (h1:w.heap[br]?=some (.cells (recC r) 38 (0,0))) (h2:w.heap[bt]?=some (.cells #[.bool bad] 189 (0,0))):Calls Tryz.prog 96 #[.pointer (some ⟨br,0,none⟩),.iface 187 (.pointer (some ⟨bt,0,none⟩)),.slice A ps.length c] w fun e w'=>e=.returned (.tuple #[])∧Vs w w' br bt (sE ps ({r with p:=0,i:=0,s:=0},bad)).1 (sE ps ({r with p:=0,i:=0,s:=0},bad)).2:=by
 go_enter Tryz.func96,Tryz.ntmps96;go_wp2;go_region;have hv0:Vs w ((w.alloc (Obj.cells #[.pointer (some ⟨br,4,none⟩),.pointer (some ⟨br,5,none⟩),.pointer (some ⟨br,6,none⟩),.pointer (some ⟨br,7,none⟩),.pointer (some ⟨br,8,none⟩),.pointer (some ⟨br,9,none⟩)] 234)).drew) br bt r bad:=by
  have g:∀k,k<w.heap.size→((w.alloc (Obj.cells #[.pointer (some ⟨br,4,none⟩),.pointer (some ⟨br,5,none⟩),.pointer (some ⟨br,6,none⟩),.pointer (some ⟨br,7,none⟩),.pointer (some ⟨br,8,none⟩),.pointer (some ⟨br,9,none⟩)] 234)).drew).heap[k]?=w.heap[k]?:=fun k hk=>by show(w.heap.push _)[k]?=_;rw[Array.getElem?_push,if_neg (by omega)]
  refine⟨rfl,rfl,rfl,?_,(g br hlr).trans h1,(g bt hlt).trans h2,?_,fun k hk _ _=>g k hk⟩;·show w.heap.size<(w.heap.push _).size;simp
  ·show(w.heap.push _)[w.heap.size]?=_;simp
 generalize((w.alloc (Obj.cells #[.pointer (some ⟨br,4,none⟩),.pointer (some ⟨br,5,none⟩),.pointer (some ⟨br,6,none⟩),.pointer (some ⟨br,7,none⟩),.pointer (some ⟨br,8,none⟩),.pointer (some ⟨br,9,none⟩)] 234)).drew)=W0 at hv0 ⊢;go_wp2;go_region;replace hv0:=hv0.drew;generalize W0.drew=W1 at hv0 ⊢;go_wp2;have j0:=aaJ;have j1:=Wx;have j2:=Ym;have j3:=K8;refine wp_loop_rounds 4 ?_;rw[rounds_succ];go_wp2_with(go_at_call 242;refine(fB _ br 1 r.p (recC r) _ _ hv0.hr rfl).mono ?_);rintro e W2 ⟨rfl,hw⟩;replace hv0:=hv0.num hlr hlt hne hw (r':={r with p:=0}) rfl;clear hw;go_wp2;rw[rounds_succ];go_wp2_with(go_at_call 242;refine(fB _ br 2 r.i _ _ _ hv0.hr rfl).mono ?_);rintro e W3 ⟨rfl,hw⟩;replace hv0:=hv0.num hlr hlt hne hw (r':={r with p:=0,i:=0}) rfl;clear hw;go_wp2;rw[rounds_succ];go_wp2_with(go_at_call 242;refine(fB _ br 3 r.s _ _ _ hv0.hr rfl).mono ?_);rintro e W4 ⟨rfl,hw⟩;replace hv0:=hv0.num hlr hlt hne hw (r':={r with p:=0,i:=0,s:=0}) rfl;clear hw;go_wp2;rw[rounds_succ];go_wp2;clear j0 j1 j2;go_loopw[49] (fun vi wr=>∃(i:Nat) (x:Rc×Bool),i≤ps.length∧vi=.int .i64 i∧Vs w wr br bt x.1 x.2∧sE (ps.drop i) x=sE ps ({r with p:=0,i:=0,s:=0},bad)) (fun vi _=>ps.length-iOf vi);case atStart=>exact⟨0,({r with p:=0,i:=0,s:=0},bad),by omega,rfl,hv0,rfl⟩
 case round=>
  obtain⟨i,⟨x,bx⟩,hi,rfl,hv,hvis⟩:=hrel;by_cases hlt':i<ps.length
  ·have hli:(i:Int)<(ps.length:Int):=by omega
   obtain⟨b,o,rfl,hb1,hb2,hb3,hcell⟩:=hA (by omega);have hq:=hps _ (List.getElem_mem hlt');have hcc:=hcell i hlt';have hcw:wr.cell? ⟨b,o+i,none⟩=some (.int .u8 ps[i]):=by rw[←hcc];unfold World.cell?;rw[hv.block b hb3 hb1 hb2]
   rw[List.drop_eq_getElem_cons hlt']at hvis;clear hcc hcell hv0 hps;revert hvis hcw hq;generalize ps[i]=q;intro hvis hcw hq;have hq8:q=0∨q=1∨q=2∨q=3∨q=4∨q=5∨q=6∨q=7:=by omega
   have hme:ps.length-iOf (.int .i64 ((i+1:Nat):Int))<ps.length-iOf (.int .i64 (i:Int)):=by show ps.length-(((i+1:Nat):Int)).toNat<ps.length-((i:Int)).toNat;omega
   have k1:=K8;have k2:=a_num;have k3:=m_txt;have k4:=UG;rcases hq8 with rfl|rfl|rfl|rfl|rfl|rfl|rfl|rfl
   ·have hp:wr.cell? ⟨w.heap.size,0,none⟩=some (.pointer (some ⟨br,4,none⟩)):=by rw[Lib.cell_of_heap hv.ha];rfl
    go_wp2;go_region_with(go_at_call 242;refine(fB _ br 4 x.e _ _ _ hv.drew.hr rfl).mono ?_;rintro e W2 ⟨rfl,hw⟩);all_goals replace hv:=hv.drew.num hlr hlt hne hw (r':=xL 0 x) rfl;go_wp2;refine⟨⟨i+1,(_,_),hlt',congrArg (Value.int .i64) (by omega),hv,hvis⟩,hme⟩
   ·have hp:wr.cell? ⟨w.heap.size,1,none⟩=some (.pointer (some ⟨br,5,none⟩)):=by rw[Lib.cell_of_heap hv.ha];rfl
    go_wp2;go_region_with(go_at_call 242;refine(fB _ br 5 x.u _ _ _ hv.drew.hr rfl).mono ?_;rintro e W2 ⟨rfl,hw⟩);all_goals replace hv:=hv.drew.num hlr hlt hne hw (r':=xL 1 x) rfl;go_wp2;refine⟨⟨i+1,(_,_),hlt',congrArg (Value.int .i64) (by omega),hv,hvis⟩,hme⟩
   ·have hp:wr.cell? ⟨w.heap.size,2,none⟩=some (.pointer (some ⟨br,6,none⟩)):=by rw[Lib.cell_of_heap hv.ha];rfl
    go_wp2;go_region_with(go_at_call 242;refine(fB _ br 6 x.v _ _ _ hv.drew.hr rfl).mono ?_;rintro e W2 ⟨rfl,hw⟩);all_goals replace hv:=hv.drew.num hlr hlt hne hw (r':=xL 2 x) rfl;go_wp2;refine⟨⟨i+1,(_,_),hlt',congrArg (Value.int .i64) (by omega),hv,hvis⟩,hme⟩
   ·have hp:wr.cell? ⟨w.heap.size,3,none⟩=some (.pointer (some ⟨br,7,none⟩)):=by rw[Lib.cell_of_heap hv.ha];rfl
    go_wp2;go_region_with(go_at_call 242;refine(fB _ br 7 x.c _ _ _ hv.drew.hr rfl).mono ?_;rintro e W2 ⟨rfl,hw⟩);all_goals replace hv:=hv.drew.num hlr hlt hne hw (r':=xL 3 x) rfl;go_wp2;refine⟨⟨i+1,(_,_),hlt',congrArg (Value.int .i64) (by omega),hv,hvis⟩,hme⟩
   ·have hp:wr.cell? ⟨w.heap.size,4,none⟩=some (.pointer (some ⟨br,8,none⟩)):=by rw[Lib.cell_of_heap hv.ha];rfl
    go_wp2;go_region_with(go_at_call 242;refine(fB _ br 8 x.z _ _ _ hv.drew.hr rfl).mono ?_;rintro e W2 ⟨rfl,hw⟩);all_goals replace hv:=hv.drew.num hlr hlt hne hw (r':=xL 4 x) rfl;go_wp2;refine⟨⟨i+1,(_,_),hlt',congrArg (Value.int .i64) (by omega),hv,hvis⟩,hme⟩
   ·have hp:wr.cell? ⟨w.heap.size,5,none⟩=some (.pointer (some ⟨br,9,none⟩)):=by rw[Lib.cell_of_heap hv.ha];rfl
    go_wp2;go_region_with(go_at_call 242;refine(fB _ br 9 x.m _ _ _ hv.drew.hr rfl).mono ?_;rintro e W2 ⟨rfl,hw⟩);all_goals replace hv:=hv.drew.num hlr hlt hne hw (r':=xL 5 x) rfl;go_wp2;refine⟨⟨i+1,(_,_),hlt',congrArg (Value.int .i64) (by omega),hv,hvis⟩,hme⟩
   ·go_wp2;go_region_with(go_at_call 243;refine(yx br 10 bt x.n bx _ _ _ _ hne hv.drew.hr rfl hv.drew.ht).mono ?_;rintro e W2 ⟨rfl,W3,hw,hw2⟩);all_goals replace hv:=(hv.drew.tak hlr hlt hne hw).num hlr hlt hne hw2 (r':=xL 6 x) rfl;go_wp2;refine⟨⟨i+1,(_,_),hlt',congrArg (Value.int .i64) (by omega),hv,hvis⟩,hme⟩
   ·go_wp2;go_region_with(go_at_call 243;refine(yx br 11 bt x.t bx _ _ _ _ hne hv.drew.hr rfl hv.drew.ht).mono ?_;rintro e W2 ⟨rfl,W3,hw,hw2⟩);all_goals replace hv:=(hv.drew.tak hlr hlt hne hw).num hlr hlt hne hw2 (r':=xL 7 x) rfl;go_wp2;refine⟨⟨i+1,(_,_),hlt',congrArg (Value.int .i64) (by omega),hv,hvis⟩,hme⟩
  ·have hia:i=ps.length:=by omega
   subst hia;rw[List.drop_eq_nil_of_le (Nat.le_refl ps.length)]at hvis;go_wp2;refine⟨rfl,_,by kernel_rfl,rfl,?_⟩;rw[←hvis];exact hv
def jx:List (Int×List Nat):=[(1,[0,1]),(2,[0,1]),(3,[0]),(4,[0,2,4,5]),(5,[2,1]),(6,[2]),(7,[]),(8,[3]),(9,[6]),(10,[6]),(11,[6,7])]
def kF (k:Int):List (Int×List Nat)→Option (List Nat)|[]=>none|x::l=>if k=x.1 then some x.2 else kF k l
def cg (r:Rc):Bool:=match kF r.k jx with|none=>false|some ps=>!decide (65535<r.z)&&!decide (4294967295<r.m)&&!(sE ps ({r with p:=0,i:=0,s:=0},false)).2&&decide ((sE ps ({r with p:=0,i:=0,s:=0},false)).1=⟨r.k,0,0,0,0,0,0,0,0,0,[],[]⟩)
theorem getK (k:Int):ln (.int .u8 k) j5=(kF k jx).map fun l=>gu (l.map fun n:Nat=>(n:Int)):=by
 have:∀l:List (Int×List Nat),ln (.int .u8 k) (l.map fun x=>(PV.int .u8 x.1,gu (x.2.map fun n:Nat=>(n:Int))))=(kF k l).map fun l=>gu (l.map fun n:Nat=>(n:Int)):=by intro l;induction l with|nil=>rfl|cons x l ih=>rw[List.map_cons,GP,ih,kF];split<;>rfl
 exact this jx
theorem kc {S:Nat→Prop}{w w':World}{v:Value} (h:cZ S w v (.mv j5)) (k:Int) (hw:w'.heap=w.heap):∃u,(Instr.lookup 185 v (.int .u8 k) true).run Tryz.prog w'=.ok (.tuple #[u,.bool (kF k jx).isSome]) w'∧cZ S w u (((kF k jx).map fun l=>gu (l.map fun n:Nat=>(n:Int))).getD .nil):=by cases h with|mv b us c es g1 g2 g3 g4 g5 g6=>
 have hm:iZ Tryz.prog 185=some (5,183):=by kernel_rfl
 have hsrt:jA Tryz.prog 5=some 6:=by kernel_rfl
 have hz:zeroV Tryz.prog 183=some (.slice none 0 0):=by kernel_rfl
 have hmt:=fv hm;obtain⟨d,hdk,hkey⟩:=gq hsrt;have hp:dk (.int .u8 k)=6:=rfl;have hks:fm 6 j5:=by simp[j5,BM,dk,mK]
 have hzr:(zeroValue 183).run Tryz.prog w'=.ok (.slice none 0 0) w':=by unfold zeroV at hz;obtain⟨i,hi,hz⟩:=Option.bind_eq_some_iff.1 hz;simp[zeroValue,typeInfo,hi,hz]
 have hh:w'.heap[b]?=some (.map us c):=by rw[hw];exact g2
 have hfind:=ib hkey hp (by decide) us.toList j5 0 hks g4 fun i e u h1 h2=>(g5 i e u h1 h2).1;have gk:=getK k;rcases hfind with⟨h1,h2,_⟩|⟨j,e,u,h1,h2,h3,h4,h5,_⟩;·rw[h2]at gk;cases hf:kF k jx with|some l=>rw[hf]at gk;cases gk|none=>refine⟨.slice none 0 0,?_,.nil⟩;show(Instr.lookup 185 (.map (some b)) (Ab.bR (.int .u8 k)) true).run Tryz.prog w'=_;simp[Instr.lookup,run_underlying hmt,MapKept.run_getObj_map hh,MapKept.run_checkKey hdk (hkey _ hp),MapKept.run_findKey hdk h1,hzr,Result.andThen]
 ·rw[h5]at gk;cases hf:kF k jx with|none=>rw[hf]at gk;cases gk|some l=>
   rw[hf]at gk;refine⟨u.val,?_,?_⟩;·show(Instr.lookup 185 (.map (some b)) (Ab.bR (.int .u8 k)) true).run Tryz.prog w'=_;simp[Instr.lookup,run_underlying hmt,MapKept.run_getObj_map hh,MapKept.run_checkKey hdk (hkey _ hp),MapKept.run_findKey hdk h1,Result.andThen]
   ·simp only[Option.map_some,Option.some.injEq]at gk;rw[Option.map_some,Option.getD_some,←gk];exact g6 j e u h2 h3
theorem jf (w:World):Calls Tryz.prog 95 #[] w fun e w'=>∃v,e=.returned v∧cZ (fun b=>w.heap.size≤b∧b<w'.heap.size) w' v (.mv j5)∧Below w.heap.size w w':=by
 have hc:=Kj [] True _ rfl trivial;have h:=hc w (fun _=>False) (fun _=>.nilIface) [] (fun b hb=>hb.elim) (fun t b ⟨o,ho⟩=>by simp[ab]at ho) ⟨fun t o ho=>by simp[ab]at ho,fun t t' b ⟨o,ho⟩=>by simp[ab]at ho⟩ rfl fun i v x hi=>by simp at hi
 refine h.mono ?_;rintro e w' ⟨v,β',rfl,hf,_,_,hv⟩;exact⟨v,rfl,hv.bh.mono fun b hb=>⟨⟨hb.1.elim False.elim id,hb.2.1⟩,rfl⟩,hf.os,hf.tape,hf.output,hf.size,fun k hk=>hf.block k hk fun⟨t,o,ho,_⟩=>by simp[ab]at ho⟩
theorem iy {W:World}{b:Nat}{r:Rc} (h:W.heap[b]?=some (.cells (recC r) 38 (0,0))):W.cell? ⟨b,0,none⟩=some (.int .u8 r.k)∧W.cell? ⟨b,1,none⟩=some (.int .u64 r.p)∧W.cell? ⟨b,2,none⟩=some (.int .u64 r.i)∧W.cell? ⟨b,3,none⟩=some (.int .u64 r.s)∧W.cell? ⟨b,4,none⟩=some (.int .u64 r.e)∧W.cell? ⟨b,5,none⟩=some (.int .u64 r.u)∧W.cell? ⟨b,6,none⟩=some (.int .u64 r.v)∧W.cell? ⟨b,7,none⟩=some (.int .u64 r.c)∧W.cell? ⟨b,8,none⟩=some (.int .u64 r.z)∧W.cell? ⟨b,9,none⟩=some (.int .u64 r.m)∧W.cell? ⟨b,10,none⟩=some (.string ⟨r.n.toArray⟩)∧W.cell? ⟨b,11,none⟩=some (.string ⟨r.t.toArray⟩):=by
 have g:∀i v,(recC r)[i]?=some v→W.cell? ⟨b,i,none⟩=some v:=fun i v hv=>by rw[Lib.cell_of_heap h];exact hv
 exact⟨g 0 _ rfl,g 1 _ rfl,g 2 _ rfl,g 3 _ rfl,g 4 _ rfl,g 5 _ rfl,g 6 _ rfl,g 7 _ rfl,g 8 _ rfl,g 9 _ rfl,g 10 _ rfl,g 11 _ rfl⟩
theorem B8 {n:Nat}{W:World}{u:Value}{ps:List Nat} (h:cZ (fun b=>n≤b∧b<W.heap.size) W u (gu (ps.map fun n:Nat=>(n:Int)))):∃A c,u=.slice A ps.length c∧ps.length≤c∧(0<ps.length→∃b o,A=some ⟨b,o,none⟩∧n≤b∧b<W.heap.size∧∀i (h:i<ps.length),W.cell? ⟨b,o+i,none⟩=some (.int .u8 ps[i])):=by
 obtain⟨A,c,hv,hc,hne⟩:=cZ.fP h;simp only[List.length_map]at hv hc;refine⟨A,c,hv,hc,fun hp=>?_⟩;obtain⟨ad,sz,us,rfl,g1,g2,g3,g4,g5⟩:=hne (by intro e;have:=congrArg List.length e;simp only[List.length_map,List.length_nil]at this;omega);have hsz:sz=1:=by rw[←g2 [.int .u8 ((ps[0]:Nat):Int)] (by simp only[List.map_map,List.mem_map];exact⟨ps[0],List.getElem_mem hp,rfl⟩)];rfl
 subst hsz;have hcl:∀i (h:i<ps.length),W.cell? (ad.add i)=some (.int .u8 ps[i]):=by
  intro i hi;have hr:((ps.map fun n:Nat=>(n:Int)).map fun n=>[PV.int .u8 n])[i]?=some [.int .u8 ps[i]]:=by simp[hi]
  have h1:=g3 i 0 (by simpa using hi) (by omega);have h2:=(g5 i 0 _ _ hr rfl).aI;rw[h2]at h1;simpa using h1
 obtain⟨b,o,sp⟩:=ad;have hsp:sp=none:=by have hx:=hcl 0 hp;cases sp with|none=>rfl|some s=>exfalso;simp[Addr.add,World.cell?]at hx;try(split at hx<;>simp at hx)
 subst hsp;exact⟨b,o,rfl,g1.1,g1.2,fun i hi=>by have:=hcl i hi;rw[Addr.add_lit]at this;exact this⟩
theorem jG (W:World) (o1 o2:Obj):((W.alloc o1).alloc o2).heap.size=W.heap.size+2:=by show((W.heap.push _).push _).size=_;simp
theorem two_1 (W:World) (o1 o2:Obj):((W.alloc o1).alloc o2).heap[W.heap.size+1]?=some o2:=by show((W.heap.push _).push _)[W.heap.size+1]?=_;rw[Array.getElem?_push,if_pos (by simp)]
theorem Wo (W:World) (o1 o2:Obj):((W.alloc o1).alloc o2).heap[W.heap.size]?=some o1:=by show((W.heap.push _).push _)[W.heap.size]?=_;rw[Array.getElem?_push,if_neg (by simp),Array.getElem?_push,if_pos rfl]
theorem JQ (W:World) (o1 o2:Obj) (k:Nat) (hk:k<W.heap.size):((W.alloc o1).alloc o2).heap[k]?=W.heap[k]?:=by show((W.heap.push _).push _)[k]?=_;rw[Array.getElem?_push,if_neg (by simp;omega),Array.getElem?_push,if_neg (by omega)]
theorem II {k:Int}{ps:List Nat} (h:kF k jx=some ps):ps.length≤8∧∀q∈ps,q<8:=by
 simp only[jx,kF]at h;repeat' split at h
 all_goals first|cases h;decide|cases h
theorem Bx (r:Rc) (w:World):Calls Tryz.prog 61 #[.agg (recC r)] w fun e w'=>e=.returned (.bool (cg r))∧Below w.heap.size w w':=by
 go_enter Tryz.func61,Tryz.ntmps61;have hrec:recC r=#[.int .u8 r.k,.int .u64 r.p,.int .u64 r.i,.int .u64 r.s,.int .u64 r.e,.int .u64 r.u,.int .u64 r.v,.int .u64 r.c,.int .u64 r.z,.int .u64 r.m,.string ⟨r.n.toArray⟩,.string ⟨r.t.toArray⟩]:=rfl;go_wp2;have h0:(w.alloc (Obj.cells (recC r) 38)).heap[w.heap.size]?=some (.cells (recC r) 38 (0,0)):=by show(w.heap.push _)[w.heap.size]?=_;simp
 have hb0:Below w.heap.size w (w.alloc (Obj.cells (recC r) 38)):=(Below.refl _ w).alloc (Nat.le_refl _) _;rw[hrec]at h0 hb0;revert h0 hb0;generalize w.alloc (Obj.cells #[.int .u8 r.k,.int .u64 r.p,.int .u64 r.i,.int .u64 r.s,.int .u64 r.e,.int .u64 r.u,.int .u64 r.v,.int .u64 r.c,.int .u64 r.z,.int .u64 r.m,.string ⟨r.n.toArray⟩,.string ⟨r.t.toArray⟩] 38)=W0;intro h0 hb0;rw[←hrec]at h0;have c1:=(iy h0).1;clear hrec;generalize hbb:w.heap.size=b at h0 hb0 c1 ⊢;have bel:∀W1:World,Below W0.heap.size W0 W1→Below b w W1:=fun W1 hb=>⟨hb.os.trans hb0.os,hb.tape.trans hb0.tape,hb.output.trans hb0.output,Nat.le_trans hb0.size hb.size,fun k hk=>(hb.block k (Nat.lt_of_lt_of_le (hbb▸hk) hb0.size)).trans (hb0.block k hk)⟩;cases hf:kF r.k jx with
 |none=>
  have hR:cg r=false:=by simp[cg,hf]
  go_region_with(go_at_call 95;refine(jf _).mono ?_;rintro e W1 ⟨v,rfl,hv,hb⟩;obtain⟨u,hl,hu⟩:=kc hv r.k (w':=W1) rfl;replace hb:Below W0.heap.size W0 W1:=⟨hb.os,hb.tape,hb.output,hb.size,hb.block⟩;have h1:W1.heap[b]?=some (.cells (recC r) 38 (0,0)):=(hb.block b (Array.getElem?_eq_some_iff.1 h0).1).trans h0;have c2:=(iy h1).1;rw[hf]at hl);all_goals go_wp2;go_ret;exact⟨by rw[hR];rfl,hbb▸bel _ hb⟩|some ps=>
  obtain⟨hl8,hq8⟩:=II hf;by_cases hz:65535<r.z
  ·have hR:cg r=false:=by simp[cg,hf,hz]
   go_region_with(go_at_call 95;refine(jf _).mono ?_;rintro e W1 ⟨v,rfl,hv,hb⟩;obtain⟨u,hl,hu⟩:=kc hv r.k (w':=W1) rfl;replace hb:Below W0.heap.size W0 W1:=⟨hb.os,hb.tape,hb.output,hb.size,hb.block⟩;have h1:W1.heap[b]?=some (.cells (recC r) 38 (0,0)):=(hb.block b (Array.getElem?_eq_some_iff.1 h0).1).trans h0;have hlt:=(Array.getElem?_eq_some_iff.1 h1).1;obtain⟨c2,d1,d2,d3,d4,d5,d6,d7,c3,c4,d8,d9⟩:=iy h1;rw[hf]at hl);all_goals go_wp2;go_ret;exact⟨by rw[hR];rfl,hbb▸bel _ hb⟩
  by_cases hm:4294967295<r.m
  ·have hR:cg r=false:=by simp[cg,hf,hm]
   go_region_with(go_at_call 95;refine(jf _).mono ?_;rintro e W1 ⟨v,rfl,hv,hb⟩;obtain⟨u,hl,hu⟩:=kc hv r.k (w':=W1) rfl;replace hb:Below W0.heap.size W0 W1:=⟨hb.os,hb.tape,hb.output,hb.size,hb.block⟩;have h1:W1.heap[b]?=some (.cells (recC r) 38 (0,0)):=(hb.block b (Array.getElem?_eq_some_iff.1 h0).1).trans h0;have hlt:=(Array.getElem?_eq_some_iff.1 h1).1;obtain⟨c2,d1,d2,d3,d4,d5,d6,d7,c3,c4,d8,d9⟩:=iy h1;rw[hf]at hl);all_goals go_wp2;go_ret;exact⟨by rw[hR];rfl,hbb▸bel _ hb⟩
  have hR:cg r=(!(sE ps ({r with p:=0,i:=0,s:=0},false)).2&&decide ((sE ps ({r with p:=0,i:=0,s:=0},false)).1=⟨r.k,0,0,0,0,0,0,0,0,0,[],[]⟩)):=by unfold cg;rw[hf];dsimp only;rw[decide_eq_false hz,decide_eq_false hm];rfl
  go_region_with(go_at_call 95;refine(jf _).mono ?_;rintro e W1 ⟨v,rfl,hv,hb⟩;obtain⟨u,hl,hu⟩:=kc hv r.k (w':=W1) rfl;replace hb:Below W0.heap.size W0 W1:=⟨hb.os,hb.tape,hb.output,hb.size,hb.block⟩;have h1:W1.heap[b]?=some (.cells (recC r) 38 (0,0)):=(hb.block b (Array.getElem?_eq_some_iff.1 h0).1).trans h0;have hlt:=(Array.getElem?_eq_some_iff.1 h1).1;obtain⟨c2,d1,d2,d3,d4,d5,d6,d7,c3,c4,d8,d9⟩:=iy h1;rw[hf]at hl);all_goals
   rw[hf]at hu;obtain⟨A,c,rfl,hc,hA⟩:=B8 hu;have t2:=JQ W1 (Obj.cells #[.bool false] 189) (Obj.cells (recC r) 38);go_wp2_with(go_at_call 96;refine(MI r false ps hq8 hl8 _ (W1.heap.size+1) W1.heap.size (by omega) ?hlr ?hlt A c hc ?hA ?h1 ?h2).mono ?_);case hlr=>rw[jG];omega
   case hlt=>rw[jG];omega
   case hA=>
    intro hp;obtain⟨bb,o,rfl,e1,e2,e3⟩:=hA hp;refine⟨bb,o,rfl,by omega,by omega,?_,fun i hi=>?_⟩;·rw[jG];omega
    ·rw[←e3 i hi];unfold World.cell?;rw[←t2 bb e2];rfl
   case h1=>exact two_1 _ _ _
   case h2=>exact Wo _ _ _
   rintro e W2 ⟨rfl,hV⟩;have s1:W2.heap[b]?=some (.cells (recC r) 38 (0,0)):=by rw[hV.block b (by rw[jG];omega) (by omega) (by omega)];exact(t2 b hlt).trans h1
   have s2:W2.cell? ⟨W1.heap.size,0,none⟩=some (.bool (sE ps ({r with p:=0,i:=0,s:=0},false)).2):=by rw[Lib.cell_of_heap hV.ht];rfl
   have B1:=bel _ hb;have bel2:Below b w W2:=⟨hV.os.trans B1.os,hV.tape.trans B1.tape,hV.output.trans B1.output,by have:=hV.size;rw[jG]at this;omega,fun k hk=>(hV.block k (by rw[jG];omega) (by omega) (by omega)).trans ((t2 k (by omega)).trans (B1.block k hk))⟩;have hr2:=hV.hr;clear hV t2 d1 d2 d3 d4 d5 d6 d7 d8 d9 hA c2 c3 c4 c1 hv hl hu h1;revert hR s2 hr2;generalize sE ps ({r with p:=0,i:=0,s:=0},false)=x;obtain⟨⟨xk,xp,xi,xs,xe,xu,xv,xc,xz,xm,xn,xt⟩,bx⟩:=x;intro hR s2 hr2;have c1:=(iy s1).1;obtain⟨d0,d1,d2,d3,d4,d5,d6,d7,d8,d9,d10,d11⟩:=iy hr2;cases bx with|true=>go_wp2;go_ret;exact⟨by rw[hR];rfl,hbb▸bel2⟩|false=>
    go_wp2;all_goals go_ret
    all_goals refine⟨?_,hbb▸bel2⟩
    all_goals rw[hR]
    all_goals simp[*]
theorem IP {P:Program}{f:FuncId}{args:List AV}{p:PV}{u:Value} (h:∀(w:World) (S:Nat→Prop) (vals:List Value),vals.length=args.length→(∀(i:Nat) (x:Value) (y:AV),vals[i]?=some x→args[i]?=some y→RV P S w (fun _=>.nilIface) (fun _=>False) x y)→Calls P f vals.toArray w fun e w'=>e=.returned u∧Below w.heap.size w w') (hu:∀S w,cZ S w u p):rT P f [] args [] (.pv p):=by
 intro w S0 β vals hS0 hlt hheap hvl hvr;have hno:∀t,bn (ab []) (fun t=>dm (cellAt (.pv p) t)) t=none:=by
  intro t;show dm (cellAt (.pv p) t)=none;simp only[cellAt,bD];split;·split<;>rfl
  ·rfl
 refine(h w (aS S0 w.heap.size β (ab []) w) vals hvl fun i x y hx hy=>?_).mono ?_;·exact(hvr i x y hx hy).mono (fun b hb=>⟨hb,rfl⟩) (fun t ⟨o,ho⟩=>by simp[ab]at ho)
 ·rintro e w' ⟨rfl,hb⟩;refine⟨_,fun _=>.nilIface,rfl,⟨hb.os,hb.tape,hb.output,hb.size,fun k hk _=>hb.block k hk⟩,⟨fun t o ho=>?_,fun t t' b ⟨o,ho⟩=>?_⟩,fun t b ⟨o,ho⟩=>?_,.pv _ _ (hu _ _)⟩;·rw[hno]at ho;cases ho
  ·rw[hno]at ho;cases ho
  ·rw[hno]at ho;cases ho
def fq (r:Rc):List AV:=[.pv (.int .u8 r.k),.pv (.int .u64 r.p),.pv (.int .u64 r.i),.pv (.int .u64 r.s),.pv (.int .u64 r.e),.pv (.int .u64 r.u),.pv (.int .u64 r.v),.pv (.int .u64 r.c),.pv (.int .u64 r.z),.pv (.int .u64 r.m),.pv (.str r.n),.pv (.str r.t)]
@[simp] def Gm:List AV→Option (Prop×AV)|[.agg [.pv (.int .u8 k),.pv (.int .u64 p),.pv (.int .u64 i),.pv (.int .u64 s),.pv (.int .u64 e),.pv (.int .u64 u),.pv (.int .u64 v),.pv (.int .u64 c),.pv (.int .u64 z),.pv (.int .u64 m),.pv (.str n),.pv (.str t)]]=>some (True,.pv (.bool (cg ⟨k,p,i,s,e,u,v,c,z,m,n,t⟩)))|_=>none
theorem CI:aN Tryz.prog 61 Gm:=by
 intro ys φ r h hφ;unfold Gm at h;split at h;·rename_i k p i s e u v c z m n t;cases h;refine IP (u:=.bool (cg ⟨k,p,i,s,e,u,v,c,z,m,n,t⟩)) (fun w S vals hvl hvr=>?_) fun S w=>.bool _;match vals,hvl with|[v0],_=>obtain⟨us,rfl,hl,hus⟩:=(hvr 0 v0 _ rfl rfl).cN;match us,hl with|[a0,a1,a2,a3,a4,a5,a6,a7,a8,a9,a10,a11],_=>cases(hus 0 _ a0 rfl rfl).aI;cases(hus 1 _ a1 rfl rfl).aI;cases(hus 2 _ a2 rfl rfl).aI;cases(hus 3 _ a3 rfl rfl).aI;cases(hus 4 _ a4 rfl rfl).aI;cases(hus 5 _ a5 rfl rfl).aI;cases(hus 6 _ a6 rfl rfl).aI;cases(hus 7 _ a7 rfl rfl).aI;cases(hus 8 _ a8 rfl rfl).aI;cases(hus 9 _ a9 rfl rfl).aI;cases(hus 10 _ a10 rfl rfl).ew;cases(hus 11 _ a11 rfl rfl).ew;exact Bx ⟨k,p,i,s,e,u,v,c,z,m,n,t⟩ w
 ·cases h
@[simp] def ua (ys:List AV) (K:Rc→Option (Prop×AV)):Option (Prop×AV):=match ys with|[.pv (.int .u8 k),.pv (.int .u64 p),.pv (.int .u64 i),.pv (.int .u64 s),.pv (.int .u64 e),.pv (.int .u64 u),.pv (.int .u64 v),.pv (.int .u64 c),.pv (.int .u64 z),.pv (.int .u64 m),.pv (.str n),.pv (.str t)]=>K ⟨k,p,i,s,e,u,v,c,z,m,n,t⟩|_=>none
theorem nJ {ys:List AV}{K:Rc→Option (Prop×AV)}{x:Prop×AV} (h:ua ys K=some x):∃r,ys=fq r∧K r=some x:=by
 unfold ua at h;split at h;·exact⟨_,rfl,h⟩
 ·cases h
def yr (f:Nat):PV:=.val (.func (.func f) #[] #[])
def kN:List (PV×PV):=[(.int .u8 1,yr 142),(.int .u8 2,yr 143),(.int .u8 3,yr 144),(.int .u8 4,yr 145),(.int .u8 5,yr 146),(.int .u8 6,yr 147),(.int .u8 7,yr 148),(.int .u8 8,yr 149)]
def FR:List AV→Option (Prop×AV)|[]=>some (True,.pv (.mv kN))|_=>none
@[simp] theorem WH:FR []=some (True,.pv (.mv kN)):=rfl
theorem NM:aN Tryz.prog 104 FR:=by
 intro ys φ r h hφ;unfold FR at h;split at h;·cases h;refine aq ah (by kernel_rfl) (by conv=>lhs;reduce) (by simp) ?_;simp(config := { maxSteps := 3000000 }) [kN,yr]
 ·cases h
def GQ (acc:List Int) (x:Int):List Int:=if acc.getLast?=some x then acc else acc++[x]
def ld (l:List Int):List Int:=l.foldl GQ []
theorem EK (l:List Int) (x:Int):ld (l++[x])=GQ (ld l) x:=by simp[ld,List.foldl_append]
theorem Fo (acc:List Int) (x:Int):(GQ acc x).getLast?=some x:=by
 unfold GQ;split;·assumption
 ·simp
theorem jD {l:List Int}{i:Nat} (h:i<l.length):ld (l.take (i+1))=GQ (ld (l.take i)) l[i]:=by rw[List.take_succ_eq_append_getElem h,EK]
theorem vP {l:List Int}{i:Nat} (h:i<l.length):(ld (l.take (i+1))).getLast?=some l[i]:=by rw[jD h,Fo]
theorem Iu (acc:List Int) (x:Int):(GQ acc x).length≤acc.length+1:=by unfold GQ;split<;>simp
theorem tf (l:List Int):∀i,(ld (l.take i)).length≤i
 |0=>by simp[ld]|i+1=>by
  by_cases h:i<l.length;·rw[jD h];have:=Iu (ld (l.take i)) l[i];have:=tf l i;omega
  ·rw[List.take_of_length_le (by omega)];have:=tf l i;rw[List.take_of_length_le (by omega)]at this;omega
def yj (l:List Int):List Int:=l.mergeSort fun x y=>decide (x≤y)
def wx (l:List Int):List Int:=ld (yj l)
theorem Dz (l:List Int):(wx l).length≤l.length:=by have:=tf (yj l) (yj l).length;rw[List.take_of_length_le (Nat.le_refl _)]at this;unfold wx;simpa[yj]using this
theorem Ei (l:List Int) (i:Nat) (x:Int):(cC l).set i [.int .u64 x]=cC (l.set i x):=by unfold cC;rw[List.map_set];rfl
theorem wy (l:List Int):∀r∈cC l,r.length=1:=by intro r hr;simp only[cC,List.mem_map]at hr;obtain⟨c,_,rfl⟩:=hr;rfl
@[simp] noncomputable def U1:List AV→Option (Prop×AV)|[.fr e a]=>if e=22 then(dec dH a).map fun l=>(l.length≤1000000,.fr 22 (cC (ld l))) else none|_=>none
theorem ZV:m7 Tryz.prog 198 U1:=by
 intro ys φ r h hφ;unfold U1 at h;split at h
 ·rename_i e ra;split at h
  ·rename_i he;subst he;obtain⟨a,ha,h⟩:=Option.map_eq_some_iff.1 h;cases h;cases dz ha;have hl6:a.length≤1000000:=hφ;refine mn ah (by kernel_rfl) (by conv=>lhs;reduce) (by simp) (by simp[cP,lZ,iA]) (by simp) ?_;by_cases h2:a.length<2
   ·have h2':(a.length:Int)<2:=by omega
    have hc:ld a=a:=by match a,h2 with|[],_=>rfl|[x],_=>rfl
    simp(config := { maxSteps := 3000000 }) [h2,h2',hc]
   ·have h2':¬(a.length:Int)<2:=by omega
    have w1:IntKind.i64.wrap 1=1:=wrap_i64 (by omega);apply af;·simp(config := { maxSteps := 3000000 });exact⟨rfl,rfl⟩
    apply af;·simp(config := { maxSteps := 3000000 }) [h2,h2'];exact⟨rfl,rfl⟩
    rw[bg];simp(config := { maxSteps := 3000000 });refine al (fun i:Nat=>1≤i∧i≤a.length∧ld (a.take i)=a.take i) (fun i=>⟨[(0,.own 998),(3,.pv (.int .i64 i))],[(998,.arr 22 (cC a))]⟩) (fun i=>a.length-i) [] 1 ⟨by omega,by omega,by cases a with|nil=>rfl|cons x a=>rfl⟩ ?_ ?_;·simp[w1]
    ·rintro i ⟨hi1,hi2,hi3⟩;have w2:IntKind.i64.wrap ((i:Int)+1)=(i:Int)+1:=wrap_i64 (by omega);by_cases hlt:i<a.length
     ·obtain⟨p,rfl⟩:∃p,i=p+1:=⟨i-1,by omega⟩;have hpl:p<a.length:=by omega
      have w3:IntKind.i64.wrap (p:Int)=(p:Int):=wrap_i64 (by omega);have r1:rowAt (cC a) ((p:Int)+1)=[.int .u64 a[p+1]]:=by have:=iw hlt;simpa using this
      have r2:=iw hpl;have q1:(0:Int)≤(p:Int)+1:=by omega
      have q2:(p:Int)+1<a.length:=by omega
      have q3:(p:Int)<a.length:=by omega
      have hla:=vP hpl;by_cases hq:a[p+1]=a[p]
      ·apply af;·simp(config := { maxSteps := 3000000 }) [hlt,q2];exact⟨rfl,rfl⟩
       rw[bg];rw[bd];apply af;·simp(config := { maxSteps := 3000000 }) [w3,r1,r2,q1,q2,q3,hq];exact⟨hpl,rfl,rfl⟩
       apply cj rfl;apply af;·simp(config := { maxSteps := 3000000 }) [q1,q2];exact⟨⟨by omega,wy a⟩,rfl,rfl⟩
       rw[bg];apply af;·simp(config := { maxSteps := 3000000 });exact⟨rfl,rfl⟩
       rw[bd];obtain⟨i,hi⟩:∃i,i=p+1:=⟨_,rfl⟩;have hst:ld (a.take (i+1))=a.take i:=by subst hi;rw[jD hlt,GQ,if_pos (by rw[hla,hq]),hi3]
       refine al (fun x:Nat×Nat×List Int=>1≤x.2.1∧x.1<i+x.2.1∧i+x.2.1≤a.length∧x.2.2.length=a.length∧x.2.2.take x.1=ld (a.take (i+x.2.1))∧x.2.2.drop (i+x.2.1-1)=a.drop (i+x.2.1-1)) (fun x=>⟨[(0,.own 998),(3,.pv (.int .i64 x.1)),(4,.sub 998 22 i a.length),(5,.pv (.int .i64 x.2.1))],[(998,.arr 22 (cC x.2.2))]⟩) (fun x=>a.length-x.2.1) [] (i,1,a) ?_ ?_ ?_;·exact⟨Nat.le_refl _,by show i<i+1;omega,by show i+1≤a.length;omega,rfl,hst.symm,rfl⟩
       ·simp;omega
       ·rintro⟨k,j,b⟩ ⟨h1,h3,h4,h5,h6,h7⟩;dsimp only at h1 h3 h4 h5 h6 h7;obtain⟨m,hm⟩:∃m,m=i+j-1:=⟨_,rfl⟩;rw[←hm]at h7;have hm1:i+j=m+1:=by omega
        rw[hm1]at h6;have u2:IntKind.i64.wrap ((j:Int)+1)=(j:Int)+1:=wrap_i64 (by omega);have u3:IntKind.i64.wrap ((k:Int)+1)=(k:Int)+1:=wrap_i64 (by omega);have u4:IntKind.i64.wrap ((j:Int)-1)=(j:Int)-1:=wrap_i64 (by omega);have u5:(i:Int)+((j:Int)-1)=(m:Int):=by omega
        obtain⟨n,hn⟩:∃n,n=m+1:=⟨_,rfl⟩;have u6:(i:Int)+(j:Int)=(n:Int):=by omega
        rw[←hn]at h6;by_cases hjl:(j:Int)<(a.length:Int)-(i:Int)
        ·have hna:n<a.length:=by omega
         have hma:m<a.length:=by omega
         have hnb:n<b.length:=by omega
         have hmb:m<b.length:=by omega
         have hkb:k<b.length:=by omega
         have e1:=List.drop_eq_getElem_cons hmb;have e2:=List.drop_eq_getElem_cons hma;have e3:b[m]=a[m]∧b.drop n=a.drop n:=by rw[h7,e2]at e1;injection e1 with e1 e4;exact⟨e1.symm,by rw[hn];exact e4.symm⟩
         have e4:b[n]=a[n]:=by have e5:=List.drop_eq_getElem_cons hnb;have e6:=List.drop_eq_getElem_cons hna;rw[e3.2,e6]at e5;injection e5 with e5 _;exact e5.symm
         have r3:=iw hnb;have r4:=iw hmb;have r5:=iw hkb;rw[e4]at r3;rw[e3.1]at r4;have hla:(ld (a.take n)).getLast?=some a[m]:=by rw[hn];exact vP hma
         have hstep:=jD hna;have hin:i+(j+1)=n+1:=by omega
         have j1:(0:Int)≤(j:Int)-1:=by omega
         have j2:(j:Int)-1<(a.length:Int)-(i:Int):=by omega
         have j3:(k:Int)<(b.length:Int):=by omega
         by_cases hq2:a[n]=a[m];·rw[GQ,if_pos (by rw[hla,hq2])]at hstep;simp(config := { maxSteps := 3000000 }) [hjl,u2,u3,u4,u5,u6,r3,r4,j1,j2,j3,hq2];exact⟨hnb,by omega,hmb,k,j+1,b,⟨by omega,by omega,by omega,h5,by rw[hin,hstep,h6],by rw[hin];exact e3.2⟩,⟨⟨rfl,by omega⟩,rfl⟩,by omega⟩
         ·rw[GQ,if_neg (by rw[hla];simp;exact fun h=>hq2 h.symm)]at hstep;simp(config := { maxSteps := 3000000 }) [hjl,u2,u3,u4,u5,u6,r3,r4,j1,j2,j3,hq2,Ei,r5];refine⟨hnb,by omega,hmb,hnb,hkb,k+1,j+1,b.set k a[n],⟨by omega,by omega,by omega,by rw[List.length_set];exact h5,?_,?_⟩,⟨⟨by omega,by omega⟩,rfl⟩,by omega⟩;·rw[hin,hstep,←h6,List.take_succ_eq_append_getElem (by simp;omega)];simp[List.take_set_of_le]
          ·rw[hin,Nat.add_sub_cancel,List.drop_set_of_lt (by omega)];exact e3.2
        ·have hma:m+1=a.length:=by omega
         have h6:b.take k=ld a:=by rw[h6,hn,hma,List.take_length]
         have h3r:=wy b;simp(config := { maxSteps := 3000000 }) [hjl];refine⟨⟨by omega,h3r⟩,⟨by omega,?_⟩,?_⟩
         ·rintro x (hx|⟨_,rfl⟩|hx);·exact h3r x (List.mem_of_mem_take hx)
          ·rfl
          ·exact h3r x (List.mem_of_mem_drop hx)
         ·rw[List.take_append_of_le_length (by simp;omega),List.take_take,Nat.min_self,←h6];simp[cC,List.map_take]
      ·have hst:ld (a.take (p+1+1))=a.take (p+1+1):=by rw[jD hlt,GQ,if_neg (by rw[hla];simp;exact fun h=>hq h.symm),hi3,←List.take_succ_eq_append_getElem hlt]
       simp(config := { maxSteps := 3000000 }) [w2,w3,r1,r2,q1,q2,q3,hq];exact⟨hpl,p+2,⟨by omega,by omega,hst⟩,by rw[wrap_i64 (by omega)];omega,by omega⟩
     ·have hia:i=a.length:=by omega
      subst hia;rw[List.take_length]at hi3;simp(config := { maxSteps := 3000000 }) [hi3]
  ·cases h
 ·cases h
@[simp] noncomputable def Gnums:List AV→Option (Prop×AV)|[.pv (.ro a),.pv (.ro b)]=>(dec dH a).bind fun la=>(dec dH b).map fun lb=>(la.length≤1000000000,.pv (.bool (decide (la=lb))))|_=>none
@[simp] noncomputable def GrV:List AV→Option (Prop×AV)|[.pv (.ro a)]=>(dec rowP a).map fun l=>(l.length≤1000000,.fr 22 (cC (wx (l.map Pn.v))))|_=>none
@[simp] noncomputable def GSp:List AV→Option (Prop×AV)|[.aJ [.agg [.fr e a]]]=>if e=134 then(dec rowP a).map fun l=>(l.length≤1000000,.bo 0 [.aJ [],.agg [.fr 134 (aw (l.map fun _=>⟨77,77,0⟩))]]) else none|_=>none
end Go.Proofs.YtlicclncicbajaaGreat.Ab
namespace Go.Proofs.YtlicclncicbajaaGreat.Ab
open Go Go.RowKit Go.Sort R
@[simp] noncomputable def UA:List AV→Option (Prop×AV)|[.pv (.int .u64 a)]=>some (True,.pv (.bool false))|_=>none
theorem c_nan:aN Tryz.prog 156 UA:=by
 intro ys φ r h hφ;unfold UA at h;split at h;·cases h;refine aq ah (by kernel_rfl) (by conv=>lhs;reduce) (by simp) ?_;simp(config := { maxSteps := 3000000 })
 ·cases h
@[simp] noncomputable def KR:List AV→Option (Prop×AV)|[.pv (.int k a),.pv (.int m b)]=>some (k=.u64∧m=.u64,.pv (.bool (ltInt a b)))|_=>none
theorem nd:aN Tryz.prog 214 KR:=by
 intro ys φ r h hφ;unfold KR at h;split at h;·cases h;obtain⟨rfl,rfl⟩:=hφ;refine aq (ag c_nan ah) (by kernel_rfl) (by conv=>lhs;reduce) (by simp) ?_;simp(config := { maxSteps := 3000000 }) [ltInt]
 ·cases h
def rA (d:Array Int):List (List PV):=cC d.toList
@[simp] theorem Ed (d:Array Int):(rA d).length=d.size:=by simp[rA]
def gA (d:Array Int) (i:Nat):Int:=d[i]!
theorem bm {d:Array Int}{i:Nat} (h:i<d.size):rowAt (rA d) (i:Int)=[.int .u64 (gA d i)]:=by have:=iw (l:=d.toList) (i:=i) (by simpa using h);unfold rA gA;rw[this,getElem!_pos d i h];rfl
@[simp] theorem rA_set (d:Array Int) (i:Nat) (x:Int):(rA d).set i [.int .u64 x]=rA (d.setIfInBounds i x):=by unfold rA cC;rw[Array.toList_setIfInBounds,List.map_set];rfl
theorem Af (l:List Int):cC l=rA l.toArray:=rfl
theorem size_swp (d:Array Int) (i j:Nat):(swp d i j).size=d.size:=by simp[swp]
noncomputable def Ek (F:Array Int→Nat→Nat→Array Int):List AV→Option (Prop×AV)|[.aJ [.fr e a],.pv (.int .i64 p),.pv (.int .i64 q)]=>if e=22 then(dec dH a).map fun l=>(0≤p∧p≤q∧q≤(l.length:Int)∧l.length≤1000000,.bo 0 [.aJ [],.fr 22 (rA (F l.toArray p.toNat q.toNat))]) else none|_=>none
theorem ir (d:Array Int):dec dH (rA d)=some d.toList:=mD _
@[simp] theorem Ginp_eq (F:Array Int→Nat→Nat→Array Int) (e:TypeId) (d:Array Int) (p q:Int):Ek F [.aJ [.fr e (rA d)],.pv (.int .i64 p),.pv (.int .i64 q)]=if e=22 then some (0≤p∧p≤q∧q≤(d.size:Int)∧d.size≤1000000,.bo 0 [.aJ [],.fr 22 (rA (F d p.toNat q.toNat))]) else none:=by show(if e=22 then(dec dH (rA d)).map _ else none)=_;rw[ir];simp
theorem tr {F:Array Int→Nat→Nat→Array Int}{ys:List AV}{φ:Prop}{r:AV} (h:Ek F ys=some (φ,r)):∃(d:Array Int) (p q:Int),ys=[.aJ [.fr 22 (rA d)],.pv (.int .i64 p),.pv (.int .i64 q)]∧φ=(0≤p∧p≤q∧q≤(d.size:Int)∧d.size≤1000000)∧r=.bo 0 [.aJ [],.fr 22 (rA (F d p.toNat q.toNat))]:=by
 unfold Ek at h;split at h
 ·split at h;·rename_i e;subst e;obtain⟨l,hl,h⟩:=Option.map_eq_some_iff.1 h;cases h;cases dz hl;exact⟨l.toArray,_,_,by rw[Af],by simp,rfl⟩
  ·cases h
 ·cases h
theorem mW (a:Nat):∀(j:Nat) (d:Array Int),(insInner ltInt a j d).size=d.size
 |0,d=>rfl|j+1,d=>by
  unfold insInner;split;·rw[mW a j,size_swp]
  ·rfl
theorem MH:dr Tryz.prog 208 (Ek (insertionSort ltInt)):=by
 intro ys φ r h hφ;obtain⟨d,p,q,rfl,rfl,rfl⟩:=tr h;obtain⟨h1,h2,h3,h4⟩:=hφ;obtain⟨a,rfl⟩:∃a:Nat,p=a:=⟨p.toNat,by omega⟩;obtain⟨b,rfl⟩:∃b:Nat,q=b:=⟨q.toNat,by omega⟩;rw[Int.toNat_natCast,Int.toNat_natCast];refine bU (ag nd ah) (by kernel_rfl) (by conv=>lhs;reduce) (by simp) rfl (by simp) ?_;have w0:IntKind.i64.wrap ((a:Int)+1)=(a:Int)+1:=wrap_i64 (by omega);generalize hW:insertionSort ltInt d a b=W;simp(config := { maxSteps := 3000000 }) [w0];refine al (fun x:Nat×Array Int=>(a+1≤x.1∧x.1≤max (a+1) b)∧x.2.size=d.size∧insOuter ltInt a b x.1 x.2=W) (fun x=>⟨[(0,.own 999),(1,.pv (.int .i64 (a:Int))),(2,.pv (.int .i64 (b:Int))),(6,.pv (.int .i64 (x.1:Int)))],[(999,.arr 22 (rA x.2))]⟩) (fun x=>max (a+1) b-x.1) [] (a+1,d) ⟨⟨Nat.le_refl _,Nat.le_max_left _ _⟩,rfl,hW⟩ ?_ ?_;·simp
 ·rintro⟨i,D⟩ ⟨⟨hi1,hi2⟩,hD,hI⟩;have hi1:a+1≤i:=hi1;have hi2:i≤max (a+1) b:=hi2;have hD:D.size=d.size:=hD;have hI:insOuter ltInt a b i D=W:=hI;have w2:IntKind.i64.wrap ((i:Int)+1)=(i:Int)+1:=wrap_i64 (by omega);by_cases hlt:i<b
  ·unfold insOuter at hI;rw[if_pos hlt]at hI;obtain⟨T,hT⟩:∃T,T=insInner ltInt a i D:=⟨_,rfl⟩;rw[←hT]at hI;have hTs:T.size=d.size:=by rw[hT,mW,hD]
   apply af;·simp(config := { maxSteps := 3000000 }) [hlt];exact⟨rfl,rfl⟩
   rw[bg];rw[bd];apply af;·simp(config := { maxSteps := 3000000 });exact⟨rfl,rfl⟩
   rw[bd];refine al (fun y:Nat×Array Int=>(a≤y.1∧y.1≤i)∧y.2.size=d.size∧insInner ltInt a y.1 y.2=T) (fun y=>⟨[(0,.own 999),(1,.pv (.int .i64 (a:Int))),(2,.pv (.int .i64 (b:Int))),(6,.pv (.int .i64 (i:Int))),(7,.pv (.int .i64 (y.1:Int)))],[(999,.arr 22 (rA y.2))]⟩) (fun y=>y.1) [] (i,D) ⟨⟨by omega,Nat.le_refl _⟩,hD,hT.symm⟩ ?_ ?_;·simp
   ·rintro⟨j,E⟩ ⟨⟨hj1,hj2⟩,hE,hJ⟩;have hj1:a≤j:=hj1;have hj2:j≤i:=hj2;have hE:E.size=d.size:=hE;have hJ:insInner ltInt a j E=T:=hJ;have q3:(j:Int)<(E.size:Int):=by omega
    have r1:=bm (d:=E) (i:=j) (by omega);cases j with|zero=>
     have ha0:a=0:=by omega
     subst ha0;have hJ:E=T:=hJ;subst hJ;have w3:IntKind.i64.wrap (-1)=-1:=wrap_i64 (by omega);have r2:rowAt (rA E) (-1)=[.int .u64 (gA E 0)]:=bm (d:=E) (i:=0) (by omega);have r1:rowAt (rA E) 0=[.int .u64 (gA E 0)]:=r1;simp(config := { maxSteps := 3000000 }) [w3,r1,r2,w2];exact⟨i+1,E,⟨by omega,hE,hI⟩,⟨by omega,rfl⟩,by omega⟩|succ k=>
     have w3:IntKind.i64.wrap ((k:Int)+1-1)=(k:Int):=by rw[wrap_i64 (by omega)];omega
     have w4:IntKind.i64.wrap (k:Int)=(k:Int):=wrap_i64 (by omega);have r1:rowAt (rA E) ((k:Int)+1)=[.int .u64 (gA E (k+1))]:=by simpa using r1
     have r2:=bm (d:=E) (i:=k) (by omega);have q2:(0:Int)≤(k:Int)+1:=by omega
     have q3:(k:Int)+1<(E.size:Int):=by omega
     have q4:(k:Int)<(E.size:Int):=by omega
     unfold insInner at hJ;by_cases hja:a<k+1
     ·have q1:(a:Int)<(k:Int)+1:=by omega
      cases hl:ltInt E[k+1]! E[k]! with|true=>have hl2:ltInt (gA E (k+1)) (gA E k)=true:=hl;rw[hl,if_pos (by simp;omega)]at hJ;have r3:=bm (d:=E.setIfInBounds (k+1) (gA E k)) (i:=k) (by rw[Array.size_setIfInBounds];omega);simp(config := { maxSteps := 3000000 }) [w3,w4,r1,r2,r3,q1,q2,q3,q4,hl2];exact⟨by omega,k,swp E (k+1) k,⟨by omega,by rw[size_swp,hE],hJ⟩,⟨rfl,rfl⟩,by omega⟩|false=>have hl2:ltInt (gA E (k+1)) (gA E k)=false:=hl;rw[hl,if_neg (by simp)]at hJ;subst hJ;simp(config := { maxSteps := 3000000 }) [w3,w4,r1,r2,q1,q2,q3,q4,hl2,w2];exact⟨by omega,i+1,E,⟨by omega,hE,hI⟩,⟨by omega,rfl⟩,by omega⟩
     ·have q1:¬(a:Int)<(k:Int)+1:=by omega
      rw[if_neg (by simp;omega)]at hJ;subst hJ;simp(config := { maxSteps := 3000000 }) [w3,w4,r1,r2,q1,q2,q3,q4,w2];exact⟨i+1,E,⟨by omega,hE,hI⟩,⟨by omega,rfl⟩,by omega⟩
  ·unfold insOuter at hI;rw[if_neg hlt]at hI;subst hI;simp(config := { maxSteps := 3000000 }) [hlt]
end Go.Proofs.YtlicclncicbajaaGreat.Ab
