/- Chapter 14: rows of pins; whether ids rise; whether two are the same; the reference's rows. -/
import Derived.Test.YtlmkcmfmfahcfaaZ10
import Derived.Sort.Defs
set_option linter.unusedVariables false
set_option linter.unusedSimpArgs false
set_option linter.unnecessarySimpa false
set_option maxHeartbeats 40000000
set_option maxRecDepth 100000
namespace Go.Proofs.Ytlmkcmfmfahcfaa.Ab
open Go Go.RowKit R
structure Pn where
 i:Int
 v:Int
 u:Int
 deriving DecidableEq
def rowP (e:Pn):List PV:=[.int .u64 e.i,.int .u64 e.v,.int .u64 e.u]
theorem rowP_inj:∀a b,rowP a=rowP b→a=b:=by
 rintro⟨k,n,t⟩ ⟨k',n',t'⟩ h
 simp only [rowP,List.cons.injEq,PV.int.injEq,true_and,and_true]at h
 obtain⟨h1,h2,h3⟩:=h
 rw [h1,h2,h3]
def rowsP (l:List Pn):List (List PV):=l.map rowP
@[simp] theorem rowsP_nil:rowsP []=[]:=rfl
@[simp] theorem rowsP_length (l:List Pn):(rowsP l).length=l.length:=by simp [rowsP]
theorem rowsP_append (l m:List Pn):rowsP (l++m)=rowsP l++rowsP m:=by simp [rowsP]
theorem rowsP_three (l:List Pn):∀r∈rowsP l,r.length=3:=by
 intro r hr
 simp only [rowsP,List.mem_map]at hr
 obtain⟨c,_,rfl⟩:=hr
 rfl
theorem rowsP_at {l:List Pn}{i:Nat} (h:i < l.length):rowAt (rowsP l) (i:Int)=[.int .u64 l[i].i,.int .u64 l[i].v,.int .u64 l[i].u]:=by
 simp [rowAt,rowsP,h,rowP]
@[simp] theorem dec_rowsP (l:List Pn):dec rowP (rowsP l)=some l:=dec_map rowP_inj l
theorem dec_rowsP_inv {rows:List (List PV)}{l:List Pn} (h:dec rowP rows=some l):rows=rowsP l:=dec_inv h
theorem flat_rowsP (l:List Pn):flatRows (rowsP l):=by
 intro r hr p hp
 simp only [rowsP,List.mem_map]at hr
 obtain⟨c,_,rfl⟩:=hr
 simp only [rowP,List.mem_cons,List.not_mem_nil,or_false]at hp
 rcases hp with rfl | rfl | rfl<;>rfl
def riseP (l:List Pn):Bool:=(List.range (l.length - 1)).all fun k=>match l[k]?,l[k+1]? with
 |some a,some b=>decide (a.i < b.i)
 | _,_=>true
theorem riseP_iff (l:List Pn):riseP l=true↔∀(k:Nat) (h:k+1 < l.length),l[k].i < l[k+1].i:=by
 unfold riseP
 rw [List.all_eq_true]
 constructor
 ·intro h k hk
  have:=h k (by rw [List.mem_range];omega)
  rw [List.getElem?_eq_getElem (by omega),List.getElem?_eq_getElem hk]at this
  simpa using this
 ·intro h k hk
  rw [List.mem_range]at hk
  rw [List.getElem?_eq_getElem (by omega),List.getElem?_eq_getElem (show k+1 < l.length by omega)]
  simpa using h k (by omega)
theorem riseP_not {l:List Pn}{k:Nat} (h:k+1 < l.length) (hk:l[k+1].i≤l[k].i):riseP l=false:=by
 cases hr:riseP l with
 |false=>rfl
 |true=>have:=(riseP_iff l).1 hr k h;omega
noncomputable def GpR:List AV→Option (Prop × AV)
 | [.agg [.pv (.ro a)]]=>(dec rowP a).map fun l=>(l.length≤1000000000,.pv (.bool (riseP l)))
 | _=>none
@[simp] theorem GpR_eq (a:List (List PV)):GpR [.agg [.pv (.ro a)]]=(dec rowP a).map fun l=>(l.length≤1000000000,.pv (.bool (riseP l))):=rfl
noncomputable def GrR:List AV→Option (Prop × AV)
 | [.pv (.ro a)]=>(dec rowP a).map fun l=>(l.length≤1000000000,.pv (.bool (riseP l)))
 | _=>none
@[simp] theorem GrR_eq (a:List (List PV)):GrR [.pv (.ro a)]=(dec rowP a).map fun l=>(l.length≤1000000000,.pv (.bool (riseP l))):=rfl
theorem c_pRight:ConT Try.prog 64 GpR:=by
 intro ys φ r h hφ
 unfold GpR at h
 split at h
 ·rename_i ra
  obtain⟨a,ha,h⟩:=Option.map_eq_some_iff.1 h
  cases h
  cases dec_rowsP_inv ha
  refine con_of tab_nil (by kernel_rfl) fn64 (by simp) ?_
  unfold body64
  simp (config := { maxSteps := 3000000 })
  refine vwp_loop (fun i:Nat=>i≤a.length∧∀(k:Nat) (h:k+1 < a.length),k+1 < i→a[k].i < a[k+1].i) (fun i=>⟨[(1,.ptr 1 0),(6,.pv (.int .i64 a.length)),(7,.pv (.int .i64 i))],[(1,.box [.pv (.ro (rowsP a))])]⟩) (fun i=>a.length - i) [] 0 ?_ ?_ ?_
  ·exact⟨Nat.zero_le _,fun k h h2=>absurd h2 (by omega)⟩
  ·simp
  ·rintro i ⟨hi,ht⟩
   have w2:IntKind.i64.wrap ((i:Int)+1)=(i:Int)+1:=wrap_i64 (by omega)
   have w3:IntKind.i64.wrap ((i:Int) - 1)=(i:Int) - 1:=wrap_i64 (by omega)
   by_cases hlt:i < a.length
   ·have r1:=rowsP_at hlt
    by_cases h0:i=0
    ·subst h0
     have wm:IntKind.i64.wrap (-1) = -1:=wrap_i64 (by omega)
     have rm:rowAt (rowsP a) (-1)=[.int .u64 a[0].i,.int .u64 a[0].v,.int .u64 a[0].u]:=r1
     have rz:rowAt (rowsP a) 0=[.int .u64 a[0].i,.int .u64 a[0].v,.int .u64 a[0].u]:=r1
     simp (config := { maxSteps := 3000000 }) [hlt,rm,rz,wm]
     exact⟨1,⟨by omega,fun k h h2=>absurd h2 (by omega)⟩,by rw [wrap_i64 (by omega)];rfl,by omega⟩
    ·obtain⟨k,hik⟩:∃k,i=k+1:=⟨i - 1,by omega⟩
     have hk:k < a.length:=by omega
     have r2:=rowsP_at hk
     have w3:IntKind.i64.wrap ((i:Int) - 1)=(k:Int):=by rw [wrap_i64 (by omega)];omega
     have h0i : 0 < i:=by omega
     simp (config := { maxSteps := 3000000 }) [w2,w3,hlt,hk,r1,r2,h0i]
     subst hik
     refine⟨fun h=>riseP_not (k:=k) hlt h,fun h=>⟨k+2,⟨by omega,fun j hj h2=>?_⟩,by omega,by omega⟩⟩
     by_cases hjk:j=k
     ·subst hjk;exact h
     ·exact ht j hj (by omega)
   ·simp (config := { maxSteps := 3000000 }) [hlt]
    rw [riseP_iff]
    exact fun k h=>ht k h (by omega)
 ·cases h
noncomputable def GS1:List AV→Option (Prop × AV)
 | [.agg [.pv (.int .u64 a),.pv (.int .u64 b),.pv (.int .u64 c)],.agg [.pv (.int .u64 d),.pv (.int .u64 e),.pv (.int .u64 f)]]=>some (True,.pv (.bool (decide (a=d) && (decide (b=e) && decide (c=f)))))
 | _=>none
@[simp] theorem GS1_eq (a b c d e f:Int):GS1 [.agg [.pv (.int .u64 a),.pv (.int .u64 b),.pv (.int .u64 c)],.agg [.pv (.int .u64 d),.pv (.int .u64 e),.pv (.int .u64 f)]]=some (True,.pv (.bool (decide (a=d) && (decide (b=e) && decide (c=f))))):=rfl
theorem c_S1:ConT Try.prog 42 GS1:=by
 intro ys φ r h hφ
 unfold GS1 at h
 split at h
 ·cases h
  refine con_of tab_nil (by kernel_rfl) fn42 (by simp) ?_
  unfold body42
  simp (config := { maxSteps := 3000000 })
 ·cases h
noncomputable def GrS:List AV→Option (Prop × AV)
 | [.pv (.ro a),.pv (.ro b)]=>(dec rowP a).bind fun la=>(dec rowP b).map fun lb=>(la.length≤1000000000,.pv (.bool (decide (la=lb))))
 | _=>none
@[simp] theorem GrS_eq (a b:List (List PV)):GrS [.pv (.ro a),.pv (.ro b)]=(dec rowP a).bind fun la=>(dec rowP b).map fun lb=>(la.length≤1000000000,.pv (.bool (decide (la=lb)))):=rfl
theorem c_rSame:ConT Try.prog 28 GrS:=by
 intro ys φ r h hφ
 unfold GrS at h
 split at h
 ·rename_i ra rb
  obtain⟨a,ha,h⟩:=Option.bind_eq_some_iff.1 h
  obtain⟨b,hb,h⟩:=Option.map_eq_some_iff.1 h
  cases h
  cases dec_rowsP_inv ha
  cases dec_rowsP_inv hb
  refine con_of tab_nil (by kernel_rfl) fn28 (by simp) ?_
  unfold body28
  simp (config := { maxSteps := 3000000 })
  refine⟨fun hne=>?_,fun hlen=>?_⟩
  ·intro e;exact hne (by rw [e])
  refine vwp_loop (fun i:Nat=>i≤a.length∧a.take i=b.take i) (fun i=>⟨[(0,.pv (.ro (rowsP a))),(1,.pv (.ro (rowsP b))),(5,.pv (.int .i64 i))],[]⟩) (fun i=>a.length - i) [] 0 (by simp) ?_ ?_
  ·simp
  ·rintro i ⟨hi,ht⟩
   have w2:IntKind.i64.wrap ((i:Int)+1)=(i:Int)+1:=wrap_i64 (by omega)
   by_cases hlt:i < a.length
   ·have r1:=rowsP_at hlt
    have hlb:i < b.length:=by omega
    have r2:=rowsP_at hlb
    simp (config := { maxSteps := 3000000 }) [w2,hlt,hlb,r1,r2]
    refine⟨fun hne e=>by subst e;simp at hne,fun h1 h2 h3=>⟨i+1,⟨by omega,?_⟩,by omega,by omega⟩⟩
    rw [List.take_succ_eq_append_getElem hlt,List.take_succ_eq_append_getElem hlb,ht]
    congr 2
    exact rowP_inj _ _ (by simp only [rowP,h1,h2,h3])
   ·simp (config := { maxSteps := 3000000 }) [hlt]
    rw [List.take_of_length_le (by omega),List.take_of_length_le (by omega)]at ht
    exact ht
 ·cases h
noncomputable def GEq:List AV→Option (Prop × AV)
 | [.pv (.ro a),.pv (.ro b),.clo f []]=>if f=42 then (dec rowP a).bind fun la=>(dec rowP b).map fun lb=>(la.length≤1000000000,.pv (.bool (decide (la=lb)))) else none
 | _=>none
@[simp] theorem GEq_eq (a b:List (List PV)) (f:FuncId):GEq [.pv (.ro a),.pv (.ro b),.clo f []]=if f=42 then (dec rowP a).bind fun la=>(dec rowP b).map fun lb=>(la.length≤1000000000,.pv (.bool (decide (la=lb)))) else none:=rfl
theorem isfnS1:isFn Try.prog 42=true:=by kernel_rfl
theorem c_Eq:ConT Try.prog 41 GEq:=by
 intro ys φ r h hφ
 unfold GEq at h
 split at h
 ·rename_i ra rb f
  split at h
  ·rename_i hf
   subst hf
   obtain⟨a,ha,h⟩:=Option.bind_eq_some_iff.1 h
   obtain⟨b,hb,h⟩:=Option.map_eq_some_iff.1 h
   cases h
   cases dec_rowsP_inv ha
   cases dec_rowsP_inv hb
   refine con_of (tab_cons c_S1 tab_nil) (by kernel_rfl) fn41 (by simp) ?_
   unfold body41
   simp (config := { maxSteps := 3000000 })
   refine⟨fun hne=>?_,fun hlen=>?_⟩
   ·intro e;exact hne (by rw [e])
   refine vwp_loop (fun i:Nat=>i≤a.length∧a.take i=b.take i) (fun i=>⟨[(0,.pv (.ro (rowsP a))),(1,.pv (.ro (rowsP b))),(2,.clo 42 []),(15,.pv (.ro (rowsP a))),(16,.pv (.int .i64 a.length)),(17,.pv (.int .i64 i))],[]⟩) (fun i=>a.length - i) [] 0 (by simp) ?_ ?_
   ·simp
   ·rintro i ⟨hi,ht⟩
    have w2:IntKind.i64.wrap ((i:Int)+1)=(i:Int)+1:=wrap_i64 (by omega)
    by_cases hlt:i < a.length
    ·have r1:=rowsP_at hlt
     have hlb:i < b.length:=by omega
     have r2:=rowsP_at hlb
     simp (config := { maxSteps := 3000000 }) [w2,hlt,hlb,r1,r2,isfnS1]
     refine⟨fun hne e=>by subst e;simp at hne,fun h1 h2 h3=>⟨i+1,⟨by omega,?_⟩,by omega,by omega⟩⟩
     rw [List.take_succ_eq_append_getElem hlt,List.take_succ_eq_append_getElem hlb,ht]
     congr 2
     exact rowP_inj _ _ (by simp only [rowP,h1,h2,h3])
    ·simp (config := { maxSteps := 3000000 }) [hlt]
     rw [List.take_of_length_le (by omega),List.take_of_length_le (by omega)]at ht
     exact ht
  ·cases h
 ·cases h
noncomputable def GpS:List AV→Option (Prop × AV)
 | [.agg [.pv (.ro a)],.agg [.pv (.ro b)]]=>(dec rowP a).bind fun la=>(dec rowP b).map fun lb=>(la.length≤1000000000,.pv (.bool (decide (la=lb))))
 | _=>none
@[simp] theorem GpS_eq (a b:List (List PV)):GpS [.agg [.pv (.ro a)],.agg [.pv (.ro b)]]=(dec rowP a).bind fun la=>(dec rowP b).map fun lb=>(la.length≤1000000000,.pv (.bool (decide (la=lb)))):=rfl
theorem c_pSame:ConT Try.prog 21 GpS:=by
 intro ys φ r h hφ
 unfold GpS at h
 split at h
 ·rename_i ra rb
  obtain⟨a,ha,h⟩:=Option.bind_eq_some_iff.1 h
  obtain⟨b,hb,h⟩:=Option.map_eq_some_iff.1 h
  cases h
  cases dec_rowsP_inv ha
  cases dec_rowsP_inv hb
  refine con_of (tab_cons c_Eq tab_nil) (by kernel_rfl) fn21 (by simp) ?_
  unfold body21
  simp (config := { maxSteps := 3000000 })
  exact hφ
 ·cases h
noncomputable def Gpref:List AV→Option (Prop × AV)
 | [.agg [.pv (.ro a)]]=>(dec rowP a).map fun l=>(l.length≤100000000,.fr 100 (rowsP l))
 | _=>none
@[simp] theorem Gpref_eq (a:List (List PV)):Gpref [.agg [.pv (.ro a)]]=(dec rowP a).map fun l=>(l.length≤100000000,.fr 100 (rowsP l)):=rfl
noncomputable def GpCl:List AV→Option (Prop × AV)
 | [.pv (.ro a)]=>(dec rowP a).map fun l=>(l.length≤100000000,.fr 86 (rowsP l))
 | _=>none
@[simp] theorem GpCl_eq (a:List (List PV)):GpCl [.pv (.ro a)]=(dec rowP a).map fun l=>(l.length≤100000000,.fr 86 (rowsP l)):=rfl
theorem c_pClone:ConT Try.prog 29 GpCl:=by
 intro ys φ r h hφ
 unfold GpCl at h
 split at h
 ·rename_i ra
  obtain⟨a,ha,h⟩:=Option.map_eq_some_iff.1 h
  cases h
  cases dec_rowsP_inv ha
  refine con_of tab_nil (by kernel_rfl) fn29 (by simp) ?_
  unfold body29
  cases a with
  |nil=>
   simp (config := { maxSteps := 3000000 }) [exNil_eq]
  |cons x l=>
   have hx:rowsP (x::l)=rowP x::rowsP l:=rfl
   simp (config := { maxSteps := 3000000 }) [hx,maxLen_eq]
   simp only [List.length_cons]at hφ
   exact⟨by omega,by omega,rfl,rowsP_three l⟩
 ·cases h
noncomputable def GOf1:List AV→Option (Prop × AV)
 | [.agg [.pv (.int .u64 a),.pv (.int .u64 b),.pv (.int .u64 c)],.rp [.int .u64 n]]=>some (True,.pv (.bool (decide (b=n))))
 | _=>none
@[simp] theorem GOf1_eq (a b c n:Int):GOf1 [.agg [.pv (.int .u64 a),.pv (.int .u64 b),.pv (.int .u64 c)],.rp [.int .u64 n]]=some (True,.pv (.bool (decide (b=n)))):=rfl
noncomputable def GRm1:List AV→Option (Prop × AV)
 | [.agg [.pv (.int .u64 a),.pv (.int .u64 b),.pv (.int .u64 c)],.rp [.int .u64 n]]=>some (True,.pv (.bool (decide (a=n))))
 | _=>none
@[simp] theorem GRm1_eq (a b c n:Int):GRm1 [.agg [.pv (.int .u64 a),.pv (.int .u64 b),.pv (.int .u64 c)],.rp [.int .u64 n]]=some (True,.pv (.bool (decide (a=n)))):=rfl
theorem c_Rm1:ConT Try.prog 66 GRm1:=by
 intro ys φ r h hφ
 unfold GRm1 at h
 split at h
 ·cases h
  refine con_of tab_nil (by kernel_rfl) fn66 (by simp) ?_
  unfold body66
  simp (config := { maxSteps := 3000000 })
 ·cases h
def isP (f:FuncId) (n:Int) (e:Pn):Bool:=decide (e.i=n)
def idxP (p:Pn→Bool) (l:List Pn):Int:=if l.findIdx p < l.length then (l.findIdx p:Nat) else -1
theorem idxP_at {p:Pn→Bool}{l:List Pn}{i:Nat} (hi:i < l.length) (h:p l[i]=true) (ha:∀e∈l.take i,p e=false):idxP p l=(i:Int):=by
 have:l.findIdx p=i:=by
  rw [List.findIdx_eq hi]
  refine⟨h,fun j hj=>?_⟩
  exact ha l[j] (by rw [List.mem_take_iff_getElem];exact⟨j,by omega,rfl⟩)
 unfold idxP
 rw [this,if_pos hi]
theorem idxP_none {p:Pn→Bool}{l:List Pn} (ha:∀e∈l,p e=false):idxP p l = -1:=by
 have:l.findIdx p=l.length:=by
  rw [List.findIdx_eq_length]
  exact ha
 unfold idxP
 rw [this,if_neg (by omega)]
theorem idxP_neg (p:Pn→Bool) (l:List Pn):(0≤idxP p l)=(l.any p=true):=by
 apply propext
 by_cases h:l.any p=true
 ·obtain⟨e,he,hr⟩:=List.any_eq_true.1 h
  have:l.findIdx p < l.length:=by
   rw [List.findIdx_lt_length]
   exact⟨e,he,hr⟩
  unfold idxP
  rw [if_pos this]
  simp [h]
 ·have h':l.any p=false:=by simpa using h
  rw [List.any_eq_false]at h'
  rw [idxP_none fun e he=>by simpa using h' e he]
  simp [h]
noncomputable def GIx:List AV→Option (Prop × AV)
 | [.pv (.ro a),.clo f [.rp [.int .u64 n]]]=>if f=66 then (dec rowP a).map fun l=>(l.length≤1000000000,.pv (.int .i64 (idxP (isP f n) l))) else none
 | _=>none
@[simp] theorem GIx_eq (a:List (List PV)) (f:FuncId) (n:Int):GIx [.pv (.ro a),.clo f [.rp [.int .u64 n]]]=if f=66 then (dec rowP a).map fun l=>(l.length≤1000000000,.pv (.int .i64 (idxP (isP f n) l))) else none:=rfl
theorem isfnRm1:isFn Try.prog 66=true:=by kernel_rfl
theorem c_Ix:ConT Try.prog 65 GIx:=by
 intro ys φ r h hφ
 unfold GIx at h
 split at h
 ·rename_i ra f n
  split at h
  ·rename_i hf
   obtain⟨a,ha,h⟩:=Option.map_eq_some_iff.1 h
   cases h
   cases dec_rowsP_inv ha
   have hfn:isFn Try.prog f=true:=by rw [hf];exact isfnRm1
   refine con_of (tab_cons c_Rm1 tab_nil) (by kernel_rfl) fn65 (by simp) ?_
   unfold body65
   simp (config := { maxSteps := 3000000 })
   refine vwp_loop (fun i:Nat=>i≤a.length∧∀e∈a.take i,isP f n e=false) (fun i=>⟨[(0,.pv (.ro (rowsP a))),(1,.clo f [.rp [.int .u64 n]]),(7,.pv (.int .i64 a.length)),(8,.pv (.int .i64 i))],[]⟩) (fun i=>a.length - i) [] 0 (by simp) ?_ ?_
   ·simp
   ·rintro i ⟨hi,ht⟩
    have w2:IntKind.i64.wrap ((i:Int)+1)=(i:Int)+1:=wrap_i64 (by omega)
    by_cases hlt:i < a.length
    ·have r1:=rowsP_at hlt
     have hr:isP f n a[i]=false→∀e∈a.take (i+1),isP f n e=false:=by
      intro h0 e he
      rw [List.take_succ_eq_append_getElem hlt,List.mem_append]at he
      rcases he with he | he
      ·exact ht e he
      ·rw [List.mem_singleton]at he;rw [he];exact h0
     subst hf
     ·have hp:isP 66 n a[i]=decide (a[i].i=n):=rfl
      simp (config := { maxSteps := 3000000 }) [w2,hlt,r1,hfn]
      refine⟨fun h=>(idxP_at hlt (by rw [hp];simpa using h) ht).symm,fun h=>⟨i+1,⟨by omega,hr (by rw [hp];simpa using h)⟩,by omega,by omega⟩⟩
    ·simp (config := { maxSteps := 3000000 }) [hlt]
     rw [List.take_of_length_le (by omega)]at ht
     exact (idxP_none ht).symm
  ·cases h
 ·cases h
def rowN (n:Int):List PV:=[.int .u64 n]
theorem rowN_inj:∀a b,rowN a=rowN b→a=b:=by
 intro a b h
 simpa [rowN]using h
def rowsN (l:List Int):List (List PV):=l.map rowN
@[simp] theorem rowsN_nil:rowsN []=[]:=rfl
@[simp] theorem rowsN_length (l:List Int):(rowsN l).length=l.length:=by simp [rowsN]
theorem rowsN_append (l m:List Int):rowsN (l++m)=rowsN l++rowsN m:=by simp [rowsN]
theorem rowsN_at {l:List Int}{i:Nat} (h:i < l.length):rowAt (rowsN l) (i:Int)=[.int .u64 l[i]]:=by
 simp [rowAt,rowsN,h,rowN]
@[simp] theorem dec_rowsN (l:List Int):dec rowN (rowsN l)=some l:=dec_map rowN_inj l
theorem dec_rowsN_inv {rows:List (List PV)}{l:List Int} (h:dec rowN rows=some l):rows=rowsN l:=dec_inv h
theorem flat_bytes (l:List UInt8):flatRows (bytesRow l):=by
 intro r hr p hp
 simp only [bytesRow,List.mem_map]at hr
 obtain⟨c,_,rfl⟩:=hr
 simp only [List.mem_singleton]at hp
 subst hp;rfl
theorem flat_rowsN (l:List Int):flatRows (rowsN l):=by
 intro r hr p hp
 simp only [rowsN,List.mem_map]at hr
 obtain⟨c,_,rfl⟩:=hr
 simp only [rowN,List.mem_singleton]at hp
 subst hp;rfl
def okN (n:Int):Prop:=0≤n∧n≤18446744073709551615
def allL (l:List Int):List UInt8:=l.flatMap vputP
noncomputable def GAll:List AV→Option (Prop × AV)
 | [.pv (.ro a)]=>(dec rowN a).map fun l=>(l.length≤1000000∧(∀n∈l,okN n),.fr 5 (bytesRow (allL l)))
 | _=>none
@[simp] theorem GAll_eq (a:List (List PV)):GAll [.pv (.ro a)]=(dec rowN a).map fun l=>(l.length≤1000000∧(∀n∈l,okN n),.fr 5 (bytesRow (allL l))):=rfl
def okP' (e:Pn):Prop:=okN e.i∧okN e.v∧okN e.u
def pinB (e:Pn):List UInt8:=vputP e.i++(vputP e.v++vputP e.u)
def pinsB (l:List Pn):List UInt8:=l.flatMap pinB
def putPs (l:List Pn):List UInt8:=vputP l.length++pinsB l
noncomputable def GpPut:List AV→Option (Prop × AV)
 | [.agg [.pv (.ro a)]]=>(dec rowP a).map fun l=>(l.length≤1000000∧(∀n∈l,okP' n),.fr 5 (bytesRow (putPs l)))
 | _=>none
@[simp] theorem GpPut_eq (a:List (List PV)):GpPut [.agg [.pv (.ro a)]]=(dec rowP a).map fun l=>(l.length≤1000000∧(∀n∈l,okP' n),.fr 5 (bytesRow (putPs l))):=rfl
noncomputable def GrPut:List AV→Option (Prop × AV)
 | [.pv (.ro a)]=>(dec rowP a).map fun l=>(l.length≤1000000∧(∀n∈l,okP' n),.fr 5 (bytesRow (putPs l)))
 | _=>none
@[simp] theorem GrPut_eq (a:List (List PV)):GrPut [.pv (.ro a)]=(dec rowP a).map fun l=>(l.length≤1000000∧(∀n∈l,okP' n),.fr 5 (bytesRow (putPs l))):=rfl
def takeAG (b:List UInt8):Nat→Int→List Int × Int × Int
 | 0,p=>([],p,0)
 |k+1,p=>if (takeL b p).2.2≠0 then ([],0,(takeL b p).2.2) else
   if (takeAG b k (takeL b p).2.1).2.2≠0 then ([],0,(takeAG b k (takeL b p).2.1).2.2) else ((takeL b p).1::(takeAG b k (takeL b p).2.1).1,(takeAG b k (takeL b p).2.1).2.1,0)
def takeA (b:List UInt8) (p:Int) (k:Nat):List Int × Int × Int:=if (takeAG b k p).2.2≠0 then ([],p,(takeAG b k p).2.2) else takeAG b k p
def ahead (L:List Int) (q:List Int × Int × Int):List Int × Int × Int:=if q.2.2≠0 then ([],0,q.2.2) else (L++q.1,q.2.1,0)
noncomputable def GtA:List AV→Option (Prop × AV)
 | [.pv (.ro b),.pv (.int .i64 p),.pv (.int .i64 k)]=>(dec byteR b).map fun l=>(l.length≤1000000000∧-9223372036854775808≤p∧p≤9223372036854775807∧0≤k∧k≤1000,.tup [.fr 23 (rowsN (takeA l p k.toNat).1),.pv (.int .i64 (takeA l p k.toNat).2.1),.pv (.int .i64 (takeA l p k.toNat).2.2)])
 | _=>none
@[simp] theorem GtA_eq (b:List (List PV)) (p k:Int):GtA [.pv (.ro b),.pv (.int .i64 p),.pv (.int .i64 k)]=(dec byteR b).map fun l=>(l.length≤1000000000∧-9223372036854775808≤p∧p≤9223372036854775807∧0≤k∧k≤1000,.tup [.fr 23 (rowsN (takeA l p k.toNat).1),.pv (.int .i64 (takeA l p k.toNat).2.1),.pv (.int .i64 (takeA l p k.toNat).2.2)]):=rfl
def pnOf:List Int→Pn
 | [a,b,c]=>⟨a,b,c⟩
 | _=>⟨0,0,0⟩
def takePG (b:List UInt8):Nat→Int→Int→List Pn × Int × Int
 | 0,_,q=>([],q,0)
 |f+1,n,q=>if n≤0 then ([],q,0) else if (takeAG b 3 q).2.2≠0 then ([],0,(takeAG b 3 q).2.2) else
   if (takePG b f (n - 1) (takeAG b 3 q).2.1).2.2≠0 then ([],0,(takePG b f (n - 1) (takeAG b 3 q).2.1).2.2)
   else (pnOf (takeAG b 3 q).1::(takePG b f (n - 1) (takeAG b 3 q).2.1).1,(takePG b f (n - 1) (takeAG b 3 q).2.1).2.1,0)
def takeP (b:List UInt8) (p:Int):List Pn × Int × Int:=
 if (takeL b p).2.2≠0 then ([],p,(takeL b p).2.2) else
  if (takePG b (b.length+1) (takeL b p).1 (takeL b p).2.1).2.2≠0 then ([],p,(takePG b (b.length+1) (takeL b p).1 (takeL b p).2.1).2.2) else
   if riseP (takePG b (b.length+1) (takeL b p).1 (takeL b p).2.1).1=false then ([],p,2) else takePG b (b.length+1) (takeL b p).1 (takeL b p).2.1
noncomputable def GrTk:List AV→Option (Prop × AV)
 | [.pv (.ro b),.pv (.int .i64 p)]=>(dec byteR b).map fun l=>(l.length≤100000000∧-9223372036854775808≤p∧p≤9223372036854775807,.tup [.fr 100 (rowsP (takeP l p).1),.pv (.int .i64 (takeP l p).2.1),.pv (.int .i64 (takeP l p).2.2)])
 | _=>none
@[simp] theorem GrTk_eq (b:List (List PV)) (p:Int):GrTk [.pv (.ro b),.pv (.int .i64 p)]=(dec byteR b).map fun l=>(l.length≤100000000∧-9223372036854775808≤p∧p≤9223372036854775807,.tup [.fr 100 (rowsP (takeP l p).1),.pv (.int .i64 (takeP l p).2.1),.pv (.int .i64 (takeP l p).2.2)]):=rfl
noncomputable def GpTk:List AV→Option (Prop × AV)
 | [.pv (.ro b),.pv (.int .i64 p)]=>(dec byteR b).map fun l=>(l.length≤100000000∧-9223372036854775808≤p∧p≤9223372036854775807,.tup [.agg [.fr 86 (rowsP (takeP l p).1)],.pv (.int .i64 (takeP l p).2.1),.pv (.int .i64 (takeP l p).2.2)])
 | _=>none
@[simp] theorem GpTk_eq (b:List (List PV)) (p:Int):GpTk [.pv (.ro b),.pv (.int .i64 p)]=(dec byteR b).map fun l=>(l.length≤100000000∧-9223372036854775808≤p∧p≤9223372036854775807,.tup [.agg [.fr 86 (rowsP (takeP l p).1)],.pv (.int .i64 (takeP l p).2.1),.pv (.int .i64 (takeP l p).2.2)]):=rfl
def pastB (n u s:Int):Bool:=decide (u+s < n)
noncomputable def GPast:List AV→Option (Prop × AV)
 | [.pv (.int .u64 n),.pv (.int .u64 u),.pv (.int .u64 s)]=>some (okN n∧okN u∧okN s,.pv (.bool (pastB n u s)))
 | _=>none
@[simp] theorem GPast_eq (n u s:Int):GPast [.pv (.int .u64 n),.pv (.int .u64 u),.pv (.int .u64 s)]=some (okN n∧okN u∧okN s,.pv (.bool (pastB n u s))):=rfl
theorem c_past:ConT Try.prog 69 GPast:=by
 intro ys φ r h hφ
 unfold GPast at h
 split at h
 ·rename_i n u s
  cases h
  obtain⟨⟨n1,n2⟩,⟨u1,u2⟩,⟨s1,s2⟩⟩:=hφ
  refine con_of tab_nil (by kernel_rfl) fn69 (by simp) ?_
  unfold body69
  unfold pastB
  by_cases hc:u+s < 18446744073709551616
  ·have e1:(u+s) / 18446744073709551616=0:=by omega
   have e2:(u+s) % 18446744073709551616=u+s:=by omega
   simp (config := { maxSteps := 3000000 }) [e1,e2,u1,s1]
  ·have e1:(u+s) / 18446744073709551616=1:=by omega
   have e2:¬ (u+s < n):=by omega
   simp (config := { maxSteps := 3000000 }) [e1,e2,u1,s1]
 ·cases h
noncomputable def GLv1:List AV→Option (Prop × AV)
 | [.agg [.pv (.int .u64 a),.pv (.int .u64 b),.pv (.int .u64 c)],.rp [.int .u64 n],.rp [.int .u64 s]]=>some (okN n∧okN c∧okN s,.pv (.bool (pastB n c s)))
 | _=>none
@[simp] theorem GLv1_eq (a b c n s:Int):GLv1 [.agg [.pv (.int .u64 a),.pv (.int .u64 b),.pv (.int .u64 c)],.rp [.int .u64 n],.rp [.int .u64 s]]=some (okN n∧okN c∧okN s,.pv (.bool (pastB n c s))):=rfl
theorem c_Lv1:ConT Try.prog 68 GLv1:=by
 intro ys φ r h hφ
 unfold GLv1 at h
 split at h
 ·cases h
  obtain⟨h1,h2,h3⟩:=hφ
  refine con_of (tab_cons c_past tab_nil) (by kernel_rfl) fn68 (by simp) ?_
  unfold body68
  simp (config := { maxSteps := 3000000 }) [h1,h2,h3]
 ·cases h
theorem isfnLv1:isFn Try.prog 68=true:=by kernel_rfl
def pastP (n s:Int) (e:Pn):Bool:=pastB n e.u s
noncomputable def GIxL:List AV→Option (Prop × AV)
 | [.pv (.ro a),.clo f [.rp [.int .u64 n],.rp [.int .u64 s]]]=>if f=68 then (dec rowP a).map fun l=>(l.length≤1000000000∧okN n∧okN s∧∀e∈l,okN e.u,.pv (.int .i64 (idxP (pastP n s) l))) else none
 | _=>none
@[simp] theorem GIxL_eq (a:List (List PV)) (f:FuncId) (n s:Int):GIxL [.pv (.ro a),.clo f [.rp [.int .u64 n],.rp [.int .u64 s]]]=if f=68 then (dec rowP a).map fun l=>(l.length≤1000000000∧okN n∧okN s∧∀e∈l,okN e.u,.pv (.int .i64 (idxP (pastP n s) l))) else none:=rfl
theorem c_IxL:ConT Try.prog 65 GIxL:=by
 intro ys φ r h hφ
 unfold GIxL at h
 split at h
 ·rename_i ra f n s
  split at h
  ·rename_i hf
   subst hf
   obtain⟨a,ha,h⟩:=Option.map_eq_some_iff.1 h
   cases h
   cases dec_rowsP_inv ha
   obtain⟨hl,o1,o2,o3⟩:=hφ
   have hfn:=isfnLv1
   refine con_of (tab_cons c_Lv1 tab_nil) (by kernel_rfl) fn65 (by simp) ?_
   unfold body65
   simp (config := { maxSteps := 3000000 })
   refine vwp_loop (fun i:Nat=>i≤a.length∧∀e∈a.take i,pastP n s e=false) (fun i=>⟨[(0,.pv (.ro (rowsP a))),(1,.clo 68 [.rp [.int .u64 n],.rp [.int .u64 s]]),(7,.pv (.int .i64 a.length)),(8,.pv (.int .i64 i))],[]⟩) (fun i=>a.length - i) [] 0 (by simp) ?_ ?_
   ·simp
   ·rintro i ⟨hi,ht⟩
    have w2:IntKind.i64.wrap ((i:Int)+1)=(i:Int)+1:=wrap_i64 (by omega)
    by_cases hlt:i < a.length
    ·have r1:=rowsP_at hlt
     have o4:okN a[i].u:=o3 _ (List.getElem_mem hlt)
     have hr:pastP n s a[i]=false→∀e∈a.take (i+1),pastP n s e=false:=by
      intro h0 e he
      rw [List.take_succ_eq_append_getElem hlt,List.mem_append]at he
      rcases he with he | he
      ·exact ht e he
      ·rw [List.mem_singleton]at he;rw [he];exact h0
     by_cases hp:pastP n s a[i]=true
     ·have hp':pastB n a[i].u s=true:=hp
      simp (config := { maxSteps := 3000000 }) [w2,hlt,r1,hfn,o1,o2,o4,hp']
      exact (idxP_at hlt hp ht).symm
     ·have hp0:pastP n s a[i]=false:=by simpa using hp
      have hp':pastB n a[i].u s=false:=hp0
      simp (config := { maxSteps := 3000000 }) [w2,hlt,r1,hfn,o1,o2,o4,hp']
      exact⟨i+1,⟨by omega,hr hp0⟩,by omega,by omega⟩
    ·simp (config := { maxSteps := 3000000 }) [hlt]
     rw [List.take_of_length_le (by omega)]at ht
     exact (idxP_none ht).symm
  ·cases h
 ·cases h
theorem idxP_filter {p:Pn→Bool}{l:List Pn}{k:Nat} (h:idxP p l=(k:Int)):k < l.length∧(l.take (k+1)).filter (fun e=>!p e)=l.take k:=by
 unfold idxP at h
 split at h
 ·rename_i hlt
  have hk:l.findIdx p=k:=by omega
  rw [hk]at hlt
  refine⟨hlt,?_⟩
  obtain⟨h1,h2⟩:=(List.findIdx_eq hlt).1 hk
  rw [List.take_succ_eq_append_getElem hlt,List.filter_append]
  have hf:(l.take k).filter (fun e=>!p e)=l.take k:=by
   rw [List.filter_eq_self]
   intro e he
   rw [List.mem_take_iff_getElem]at he
   obtain⟨j,hj,rfl⟩:=he
   have:=h2 j (by omega)
   simpa using this
  rw [hf]
  simp [h1]
 ·omega
theorem rowsP_set (l:List Pn) (i:Nat) (e:Pn):(rowsP l).set i [.int .u64 e.i,.int .u64 e.v,.int .u64 e.u]=rowsP (l.set i e):=by
 unfold rowsP
 rw [List.map_set]
 rfl
def liveL (l:List Pn) (n s:Int):List Pn:=l.filter fun e=>!pastP n s e
noncomputable def GdelP:List AV→Option (Prop × AV)
 | [.fr e a,.clo f [.rp [.int .u64 n],.rp [.int .u64 s]]]=>if e=86∧f=68 then (dec rowP a).map fun l=>(l.length≤1000000∧okN n∧okN s∧∀e∈l,okN e.u,.fr 86 (rowsP (liveL l n s))) else none
 | _=>none
@[simp] theorem GdelP_eq (e:TypeId) (a:List (List PV)) (f:FuncId) (n s:Int):GdelP [.fr e a,.clo f [.rp [.int .u64 n],.rp [.int .u64 s]]]=if e=86∧f=68 then (dec rowP a).map fun l=>(l.length≤1000000∧okN n∧okN s∧∀e∈l,okN e.u,.fr 86 (rowsP (liveL l n s))) else none:=rfl
theorem c_delP:ConTU Try.prog 70 GdelP:=by
 intro ys φ r h hφ
 unfold GdelP at h
 split at h
 ·rename_i e ra f n s
  split at h
  ·rename_i hef
   obtain⟨rfl,rfl⟩:=hef
   obtain⟨a,ha,h⟩:=Option.map_eq_some_iff.1 h
   cases h
   cases dec_rowsP_inv ha
   obtain⟨hl6,o1,o2,o3⟩:=hφ
   refine con_ofU (tab_cons c_IxL (tab_cons c_Lv1 tab_nil)) (by kernel_rfl) fn70 (by simp) (by simp [resOK,res1,resC]) (by simp) ?_
   unfold body70
   have hl9:a.length≤1000000000:=by omega
   have isfn3:=isfnLv1
   by_cases hr:a.any (pastP n s)=true
   ·have hw : 0≤idxP (pastP n s) a:=by rw [idxP_neg];exact hr
    obtain⟨k,hk⟩:=Int.eq_ofNat_of_zero_le hw
    obtain⟨hkl,hkf⟩:=idxP_filter hk
    have hne:¬ ((k:Int) = -1):=by omega
    have w1:IntKind.i64.wrap ((k:Int)+1)=(k:Int)+1:=wrap_i64 (by omega)
    simp (config := { maxSteps := 3000000 }) [hk,hne,w1,hl9,o1,o2]
    refine⟨o3,?_⟩
    refine vwp_loop (fun x:Nat × Nat × List Pn=>x.1 < x.2.1∧x.2.1≤a.length∧x.2.2.length=a.length∧x.2.2.take x.1=(a.take x.2.1).filter (fun e=>!pastP n s e)∧x.2.2.drop x.2.1=a.drop x.2.1)
     (fun x=>⟨[(0,.own 998),(1,.clo 68 [.rp [.int .u64 n],.rp [.int .u64 s]]),(5,.pv (.int .i64 x.1)),(6,.pv (.int .i64 x.2.1))],[(998,.arr 86 (rowsP x.2.2))]⟩) (fun x=>a.length - x.2.1) [] (k,k+1,a) ?_ ?_ ?_
    ·exact⟨by simp,by simp;omega,rfl,by simp [hkf],rfl⟩
    ·simp
    ·rintro⟨i,j,b⟩ ⟨h1,h2,h3,h4,h5⟩
     dsimp only at h1 h2 h3 h4 h5
     have w2:IntKind.i64.wrap ((j:Int)+1)=(j:Int)+1:=wrap_i64 (by omega)
     have w3:IntKind.i64.wrap ((i:Int)+1)=(i:Int)+1:=wrap_i64 (by omega)
     by_cases hlt:j < a.length
     ·have hjb:j < b.length:=by omega
      have hib:i < b.length:=by omega
      have o4:okN a[j].u:=o3 _ (List.getElem_mem hlt)
      have hbj:b[j]=a[j]:=by
       have e1:=List.drop_eq_getElem_cons hjb
       have e2:=List.drop_eq_getElem_cons hlt
       rw [h5,e2]at e1
       injection e1 with e1 _;exact e1.symm
      have r1:=rowsP_at hjb
      rw [hbj]at r1
      have r2:=rowsP_at hib
      have hib':(i:Int) < a.length:=by omega
      have hdrop:∀e,(b.set i e).drop (j+1)=a.drop (j+1):=by
       intro e
       rw [List.drop_set_of_lt (by omega)]
       have e1:(b.drop j).drop 1=(a.drop j).drop 1:=by rw [h5]
       simpa [List.drop_drop]using e1
      by_cases hq:pastP n s a[j]=true
      ·have hq':pastB n a[j].u s=true:=hq
       simp (config := { maxSteps := 3000000 }) [w2,w3,hlt,hjb,r1,r2,h3,hq',rowsP_set,hib',o1,o2,o4,isfn3]
       refine⟨i,j+1,b,⟨by omega,by omega,h3,?_,?_⟩,⟨⟨rfl,by omega⟩,rfl⟩,by omega⟩
       ·rw [List.take_succ_eq_append_getElem hlt,List.filter_append,←h4]
        simp [hq]
       ·have e1:(b.drop j).drop 1=(a.drop j).drop 1:=by rw [h5]
        simpa [List.drop_drop]using e1
      ·have hq0:pastP n s a[j]=false:=by simpa using hq
       have hq':pastB n a[j].u s=false:=hq0
       simp (config := { maxSteps := 3000000 }) [w2,w3,hlt,hjb,r1,r2,h3,hq',rowsP_set,hib',o1,o2,o4,isfn3]
       refine⟨by omega,i+1,j+1,b.set i a[j],⟨by omega,by omega,by simp [h3],?_,hdrop _⟩,⟨⟨by omega,by omega⟩,rfl⟩,by omega⟩
       rw [List.take_succ_eq_append_getElem hlt,List.filter_append,←h4,List.take_succ_eq_append_getElem (by simp;omega)]
       simp [hq0,List.take_set_of_le]
     ·simp (config := { maxSteps := 3000000 }) [hlt,h3]
      have hja:j=a.length:=by omega
      subst hja
      rw [List.take_length]at h4
      have h3r:=rowsP_three b
      refine⟨⟨by omega,h3r⟩,⟨by omega,?_⟩,?_⟩
      ·rintro x (hx | ⟨_,rfl⟩ | hx)
       ·exact h3r x (List.mem_of_mem_take hx)
       ·rfl
       ·exact h3r x (List.mem_of_mem_drop hx)
      ·rw [List.take_append_of_le_length (by simp;omega),List.take_take,Nat.min_self]
       unfold liveL
       rw [←h4]
       simp [rowsP,List.map_take]
   ·have hw:idxP (pastP n s) a = -1:=by
     apply idxP_none
     have:=hr
     simp only [List.any_eq_true,not_exists,not_and]at this
     intro e he;simpa using this e he
    have hfil:liveL a n s=a:=by
     unfold liveL;rw [List.filter_eq_self];intro e he
     have:=hr
     simp only [List.any_eq_true,not_exists,not_and]at this
     simpa using this e he
    simp (config := { maxSteps := 3000000 }) [hw,hfil,hl9,o1,o2]
    exact o3
  ·cases h
 ·cases h
noncomputable def GpLive:List AV→Option (Prop × AV)
 | [.agg [.pv (.ro a)],.pv (.int .u64 n),.pv (.int .u64 s)]=>(dec rowP a).map fun l=>(l.length≤1000000∧okN n∧okN s∧∀e∈l,okN e.u,.agg [.fr 86 (rowsP (liveL l n s))])
 | _=>none
@[simp] theorem GpLive_eq (a:List (List PV)) (n s:Int):GpLive [.agg [.pv (.ro a)],.pv (.int .u64 n),.pv (.int .u64 s)]=(dec rowP a).map fun l=>(l.length≤1000000∧okN n∧okN s∧∀e∈l,okN e.u,.agg [.fr 86 (rowsP (liveL l n s))]):=rfl
theorem c_Live:ConT Try.prog 55 GpLive:=by
 intro ys φ r h hφ
 unfold GpLive at h
 split at h
 ·rename_i ra n s
  obtain⟨a,ha,h⟩:=Option.map_eq_some_iff.1 h
  cases h
  cases dec_rowsP_inv ha
  obtain⟨hl6,o1,o2,o3⟩:=hφ
  have hl8:a.length≤100000000:=by omega
  refine con_of (tab_cons c_pClone (tab_consU (p:=0) (k:=998) c_delP (by kernel_rfl) tab_nil)) (by kernel_rfl) fn55 (by simp) ?_
  unfold body55
  simp (config := { maxSteps := 3000000 }) [hl6,hl8,o1,o2]
  exact⟨o3,flat_rowsP _⟩
 ·cases h
noncomputable def GrLive:List AV→Option (Prop × AV)
 | [.pv (.ro a),.pv (.int .u64 n),.pv (.int .u64 s)]=>(dec rowP a).map fun l=>(l.length≤1000000∧okN n∧okN s∧∀e∈l,okN e.u,.fr 100 (rowsP (liveL l n s)))
 | _=>none
@[simp] theorem GrLive_eq (a:List (List PV)) (n s:Int):GrLive [.pv (.ro a),.pv (.int .u64 n),.pv (.int .u64 s)]=(dec rowP a).map fun l=>(l.length≤1000000∧okN n∧okN s∧∀e∈l,okN e.u,.fr 100 (rowsP (liveL l n s))):=rfl
def addP (l:List Pn) (e:Pn):List Pn × Int:=if riseP (l++[e])=true then (l++[e],0) else ([],2)
noncomputable def GpAdd:List AV→Option (Prop × AV)
 | [.agg [.pv (.ro a)],.agg [.pv (.int .u64 x),.pv (.int .u64 y),.pv (.int .u64 z)]]=>(dec rowP a).map fun l=>(l.length≤1000000,.tup [.agg [.fr 86 (rowsP (addP l ⟨x,y,z⟩).1)],.pv (.int .i64 (addP l ⟨x,y,z⟩).2)])
 | _=>none
@[simp] theorem GpAdd_eq (a:List (List PV)) (x y z:Int):GpAdd [.agg [.pv (.ro a)],.agg [.pv (.int .u64 x),.pv (.int .u64 y),.pv (.int .u64 z)]]=(dec rowP a).map fun l=>(l.length≤1000000,.tup [.agg [.fr 86 (rowsP (addP l ⟨x,y,z⟩).1)],.pv (.int .i64 (addP l ⟨x,y,z⟩).2)]):=rfl
theorem c_pAdd:ConT Try.prog 53 GpAdd:=by
 intro ys φ r h hφ
 unfold GpAdd at h
 split at h
 ·rename_i ra x y z
  obtain⟨a,ha,h⟩:=Option.map_eq_some_iff.1 h
  cases h
  cases dec_rowsP_inv ha
  have hl8:a.length≤100000000:=by omega
  have hinf:(Try.prog.info? 86).isSome=true:=by kernel_rfl
  have hap:rowsP a++[[PV.int .u64 x,.int .u64 y,.int .u64 z]]=rowsP (a++[⟨x,y,z⟩]):=by rw [rowsP_append];rfl
  refine con_of (tab_cons c_pClone (tab_cons c_pRight tab_nil)) (by kernel_rfl) fn53 (by simp) ?_
  unfold body53
  unfold addP
  by_cases hr:riseP (a++[⟨x,y,z⟩])=true
  ·simp (config := { maxSteps := 3000000 }) [hl8,hr,hap,hinf,maxLen_eq]
   exact⟨⟨by omega,by omega⟩,by omega⟩
  ·simp (config := { maxSteps := 3000000 }) [hl8,hr,hap,hinf,maxLen_eq]
   exact⟨⟨by omega,by omega⟩,by omega⟩
 ·cases h
noncomputable def GrAdd:List AV→Option (Prop × AV)
 | [.pv (.ro a),.agg [.pv (.int .u64 x),.pv (.int .u64 y),.pv (.int .u64 z)]]=>(dec rowP a).map fun l=>(l.length≤1000000,.tup [.fr 100 (rowsP (addP l ⟨x,y,z⟩).1),.pv (.int .i64 (addP l ⟨x,y,z⟩).2)])
 | _=>none
@[simp] theorem GrAdd_eq (a:List (List PV)) (x y z:Int):GrAdd [.pv (.ro a),.agg [.pv (.int .u64 x),.pv (.int .u64 y),.pv (.int .u64 z)]]=(dec rowP a).map fun l=>(l.length≤1000000,.tup [.fr 100 (rowsP (addP l ⟨x,y,z⟩).1),.pv (.int .i64 (addP l ⟨x,y,z⟩).2)]):=rfl
def remL (n:Int):List Pn→List Pn
 | []=>[]
 |e::l=>if e.i=n then l else e::remL n l
def hasI (l:List Pn) (n:Int):Bool:=l.any fun e=>decide (e.i=n)
def remP (l:List Pn) (n:Int):List Pn × Int:=if hasI l n=true then (remL n l,0) else ([],80)
theorem remL_idx (n:Int):∀l:List Pn,hasI l n=true→∃k:Nat,idxP (fun e=>decide (e.i=n)) l=(k:Int)∧k < l.length∧remL n l=l.take k++l.drop (k+1)
 | [],h=>by simp [hasI]at h
 |x::l,h=>by
  by_cases hx:x.i=n
  ·refine⟨0,?_,by simp,by simp [remL,hx]⟩
   exact idxP_at (i:=0) (by simp) (by simpa using hx) (by simp)
  ·have h':hasI l n=true:=by simpa [hasI,hx]using h
   obtain⟨k,h1,h2,h3⟩:=remL_idx n l h'
   refine⟨k+1,?_,by simp;omega,by simp [remL,hx,h3]⟩
   unfold idxP at h1 ⊢
   split at h1
   ·rename_i hlt
    have hf:(x::l).findIdx (fun e=>decide (e.i=n))=l.findIdx (fun e=>decide (e.i=n))+1:=by
     rw [List.findIdx_cons];simp [hx]
    rw [hf,if_pos (by rw [List.length_cons];omega)]
    omega
   ·omega
noncomputable def GGrow:List AV→Option (Prop × AV)
 | [.pv .nil,.pv (.int .i64 n)]=>some (0≤n∧n≤1000000,.fr 86 [])
 | _=>none
@[simp] theorem GGrow_eq (n:Int):GGrow [.pv .nil,.pv (.int .i64 n)]=some (0≤n∧n≤1000000,.fr 86 []):=rfl
theorem c_Grow:ConTU Try.prog 78 GGrow:=by
 intro ys φ r h hφ
 unfold GGrow at h
 split at h
 ·rename_i n
  cases h
  obtain⟨h1,h2⟩:=hφ
  have hinf:(Try.prog.info? 86).isSome=true:=by kernel_rfl
  have w0:IntKind.i64.wrap 0=0:=wrap_i64 (by omega)
  have w1:IntKind.i64.wrap n=n:=wrap_i64 (by omega)
  refine con_ofU tab_nil (by kernel_rfl) fn78 (by simp) (by simp [resOK,res1,resC]) (by simp) ?_
  unfold body78
  have hn0:¬ n < 0:=by omega
  by_cases h0 : 0 < n
  ·simp (config := { maxSteps := 3000000 }) [hn0,h0,w0,w1,hinf]
   exact⟨h1,by omega,by omega⟩
  ·simp (config := { maxSteps := 3000000 }) [hn0,h0,w0,w1,hinf]
 ·cases h
noncomputable def GCat:List AV→Option (Prop × AV)
 | [.pv (.ro [[.ro a],[.ro b]])]=>(dec rowP a).bind fun la=>(dec rowP b).map fun lb=>(la.length≤100000∧lb.length≤100000,.fr 86 (rowsP (la++lb)))
 | _=>none
@[simp] theorem GCat_eq (a b:List (List PV)):GCat [.pv (.ro [[.ro a],[.ro b]])]=(dec rowP a).bind fun la=>(dec rowP b).map fun lb=>(la.length≤100000∧lb.length≤100000,.fr 86 (rowsP (la++lb))):=rfl
theorem c_Cat:ConT Try.prog 67 GCat:=by
 intro ys φ r h hφ
 unfold GCat at h
 split at h
 ·rename_i ra rb
  obtain⟨a,ha,h⟩:=Option.bind_eq_some_iff.1 h
  obtain⟨b,hb,h⟩:=Option.map_eq_some_iff.1 h
  cases h
  cases dec_rowsP_inv ha
  cases dec_rowsP_inv hb
  obtain⟨hla,hlb⟩:=hφ
  have h3a:=rowsP_three a
  have h3b:=rowsP_three b
  have w1:IntKind.i64.wrap 1=1:=wrap_i64 (by omega)
  have w2:IntKind.i64.wrap 2=2:=wrap_i64 (by omega)
  have wa:IntKind.i64.wrap (a.length:Int)=a.length:=wrap_i64 (by omega)
  have wab:IntKind.i64.wrap ((a.length:Int)+(b.length:Int))=(a.length:Int)+(b.length:Int):=wrap_i64 (by omega)
  have r0:rowAt [[PV.ro (rowsP a)],[PV.ro (rowsP b)]] 0=[.ro (rowsP a)]:=rfl
  have r1:rowAt [[PV.ro (rowsP a)],[PV.ro (rowsP b)]] 1=[.ro (rowsP b)]:=rfl
  have ga:¬ ((a.length:Int) < 0):=by omega
  have gab:¬ ((a.length:Int)+(b.length:Int) < 0):=by omega
  have gc:(a.length:Int)+(b.length:Int)≤1000000:=by omega
  have gd:(0:Int)≤(a.length:Int)+(b.length:Int):=by omega
  refine con_of (tab_consU (p:=0) (k:=997) c_Grow (by kernel_rfl) tab_nil) (by kernel_rfl) fn67 (by simp) ?_
  unfold body67
  simp (config := { maxSteps := 3000000 })
  refine vwp_loop (fun i:Nat=>i=0∨i=1∨i=2) (fun i=>⟨[(0,.pv (.ro [[.ro (rowsP a)],[.ro (rowsP b)]])),(2,.own 2),(3,.pv (.int .i64 (if i=0 then 0 else if i=1 then (a.length:Int) else (a.length:Int)+(b.length:Int)))),(9,.pv (.ro [[.ro (rowsP a)],[.ro (rowsP b)]])),(10,.pv (.int .i64 2)),(11,.pv (.int .i64 i))],[(2,.arr 86 [])]⟩) (fun i=>2 - i) [] 0 (by simp) ?_ ?_
  ·simp
  ·rintro i (rfl | rfl | rfl)
   ·simp (config := { maxSteps := 3000000 }) [r0,wa,ga,w1]
   ·simp (config := { maxSteps := 3000000 }) [r1,wab,gab,w2]
   ·simp (config := { maxSteps := 3000000 }) [gc,gd]
    refine vwp_loop (fun i:Nat=>i=0∨i=1∨i=2) (fun i=>⟨[(0,.pv (.ro [[.ro (rowsP a)],[.ro (rowsP b)]])),(2,.own 2),(6,.own 24),(25,.pv (.ro [[.ro (rowsP a)],[.ro (rowsP b)]])),(26,.pv (.int .i64 2)),(27,.pv (.int .i64 i))],[(2,.arr 86 []),(24,.arr 86 (if i=0 then [] else if i=1 then rowsP a else rowsP (a++b)))]⟩) (fun i=>2 - i) [] 0 (by simp) ?_ ?_
    ·simp
    ·rintro i (rfl | rfl | rfl)
     ·simp (config := { maxSteps := 3000000 }) [r0,w1,maxLen_eq]
      exact⟨by omega,by omega,h3a⟩
     ·simp (config := { maxSteps := 3000000 }) [r1,w2,maxLen_eq]
      exact⟨⟨by omega,by omega,h3b⟩,(rowsP_append a b).symm⟩
     ·simp (config := { maxSteps := 3000000 })
 ·cases h
noncomputable def GpRem:List AV→Option (Prop × AV)
 | [.agg [.pv (.ro a)],.pv (.int .u64 n)]=>(dec rowP a).map fun l=>(l.length≤100000,.tup [.agg [.fr 86 (rowsP (remP l n).1)],.pv (.int .i64 (remP l n).2)])
 | _=>none
@[simp] theorem GpRem_eq (a:List (List PV)) (n:Int):GpRem [.agg [.pv (.ro a)],.pv (.int .u64 n)]=(dec rowP a).map fun l=>(l.length≤100000,.tup [.agg [.fr 86 (rowsP (remP l n).1)],.pv (.int .i64 (remP l n).2)]):=rfl
theorem cut_rowsP (l:List Pn) (i j:Int):cut (rowsP l) i j=rowsP ((l.take j.toNat).drop i.toNat):=by
 unfold cut rowsP
 rw [List.map_drop,List.map_take]
theorem c_pRem:ConT Try.prog 54 GpRem:=by
 intro ys φ r h hφ
 unfold GpRem at h
 split at h
 ·rename_i ra n
  obtain⟨a,ha,h⟩:=Option.map_eq_some_iff.1 h
  cases h
  cases dec_rowsP_inv ha
  have hl9:a.length≤1000000000:=by omega
  have hinf:(Try.prog.info? 86).isSome=true:=by kernel_rfl
  have h3:=rowsP_three a
  have his:isP 66 n=fun e=>decide (e.i=n):=by
   rfl
  refine con_of (tab_cons c_Ix (tab_cons c_Cat tab_nil)) (by kernel_rfl) fn54 (by simp) ?_
  unfold body54
  unfold remP
  by_cases hh:hasI a n=true
  ·obtain⟨k,hk,hkl,hke⟩:=remL_idx n a hh
   have hn0:¬ ((k:Int) < 0):=by omega
   have w1:IntKind.i64.wrap ((k:Int)+1)=(k:Int)+1:=wrap_i64 (by omega)
   have c1:cut (rowsP a) 0 (k:Int)=rowsP (a.take k):=by rw [cut_rowsP];simp
   have c2:cut (rowsP a) ((k:Int)+1) (a.length:Int)=rowsP (a.drop (k+1)):=by
    rw [cut_rowsP,show ((k:Int)+1).toNat=k+1 from by omega];simp
   have hl1:(a.take k).length≤100000:=by rw [List.length_take];omega
   have hl2:(a.drop (k+1)).length≤100000:=by rw [List.length_drop];omega
   have hf:∀l,flatRows (rowsP l):=flat_rowsP
   simp (config := { maxSteps := 3000000 }) [hh,hl9,his,hk,hn0,w1,c1,c2,hl1,hl2,hke,hf,hinf]
   exact⟨⟨by omega,h3⟩,⟨by omega,by omega,h3⟩,by omega,by omega⟩
  ·have hh':hasI a n=false:=by simpa using hh
   have hk:idxP (fun e=>decide (e.i=n)) a = -1:=by
    apply idxP_none
    intro e he
    unfold hasI at hh'
    rw [List.any_eq_false]at hh'
    simpa using hh' e he
   simp (config := { maxSteps := 3000000 }) [hh,hl9,his,hk,hinf]
 ·cases h
noncomputable def GrRem:List AV→Option (Prop × AV)
 | [.pv (.ro a),.pv (.int .u64 n)]=>(dec rowP a).map fun l=>(l.length≤100000,.tup [.fr 100 (rowsP (remP l n).1),.pv (.int .i64 (remP l n).2)])
 | _=>none
@[simp] theorem GrRem_eq (a:List (List PV)) (n:Int):GrRem [.pv (.ro a),.pv (.int .u64 n)]=(dec rowP a).map fun l=>(l.length≤100000,.tup [.fr 100 (rowsP (remP l n).1),.pv (.int .i64 (remP l n).2)]):=rfl
def ofP (l:List Pn) (n:Int):Bool:=l.any fun e=>decide (e.v=n)
noncomputable def GpOf:List AV→Option (Prop × AV)
 | [.agg [.pv (.ro a)],.pv (.int .u64 n)]=>(dec rowP a).map fun l=>(l.length≤1000000000,.pv (.bool (ofP l n)))
 | _=>none
@[simp] theorem GpOf_eq (a:List (List PV)) (n:Int):GpOf [.agg [.pv (.ro a)],.pv (.int .u64 n)]=(dec rowP a).map fun l=>(l.length≤1000000000,.pv (.bool (ofP l n))):=rfl
noncomputable def GrOf:List AV→Option (Prop × AV)
 | [.pv (.ro a),.pv (.int .u64 n)]=>(dec rowP a).map fun l=>(l.length≤1000000000,.pv (.bool (ofP l n)))
 | _=>none
@[simp] theorem GrOf_eq (a:List (List PV)) (n:Int):GrOf [.pv (.ro a),.pv (.int .u64 n)]=(dec rowP a).map fun l=>(l.length≤1000000000,.pv (.bool (ofP l n))):=rfl
end Go.Proofs.Ytlmkcmfmfahcfaa.Ab
namespace Go.Proofs.Ytlmkcmfmfahcfaa.Ab
open Go Go.RowKit
section
variable {P:Program}{Γ:Tab}
theorem withO_mono {α:Type}{o:Option α}{K K' : α→Prop} (h:∀x,K x→K' x) (hs:withO o K):withO o K':=by
 cases o with
 |none=>exact hs
 |some x=>exact h x hs
theorem semCall_mono {d:Option Nat}{f:FuncId}{xs:List AV}{objs:Nat→Option AO}{C C':Eff→Prop} (h:∀e,C e→C' e) (hs:semCall P Γ d f xs objs C):semCall P Γ d f xs objs C':=by
 unfold semCall at hs ⊢
 refine withO_mono (fun d hs=>⟨hs.1,withO_mono (fun ys hs=>withO_mono (fun x hs=>?_) hs) hs.2⟩) hs
 exact⟨hs.1,hs.2.1,hs.2.2.1,hs.2.2.2.1,h _ hs.2.2.2.2⟩
theorem stepI_wk {i:AI}{K K':St→Prop} (h:∀st,K st→K' st) {st:St} (hs:stepI P Γ i K st):stepI P Γ i K' st:=by
 obtain⟨e,he,hk⟩:=stepI_iff.1 hs
 exact stepI_iff.2 ⟨e,he,h _ hk⟩
theorem stepF_mono {i:AI}{f:FuncId}{K K':St→Prop} (h:∀st,K st→K' st) {st:St} (hs:stepF P Γ i f K st):stepF P Γ i f K' st:=by
 unfold stepF at hs ⊢
 refine withO_mono (fun ys hs=>withO_mono (fun x hs=>?_) hs) hs
 split at hs
 ·rename_i hc
  rw [if_pos hc]
  exact semCall_mono (fun e he=>h _ he) hs
 ·rename_i hc
  rw [if_neg hc]
  exact stepI_wk h hs
theorem pickJ_mono {b f:Bool}{A B A' B':Prop} (hA:A→A') (hB:B→B') (h:pickJ b f A B):pickJ b f A' B':=by
 cases b with
 |false=>exact hA h
 |true=>cases f with
  |false=>exact hA h
  |true=>exact hB h
theorem stepJ_mono {i:AI}{K K':St→Prop} (h:∀st,K st→K' st) {st:St} (hs:stepJ P Γ i K st):stepJ P Γ i K' st:=by
 unfold stepJ at hs ⊢
 split at hs
 ·exact stepI_wk h hs
 ·exact pickJ_mono (stepI_wk h) (h _) hs
theorem stepXo_mono {i:AI}{K K':St→Prop} (h:∀st,K st→K' st) {st:St} (hs:stepXo P Γ i K st):stepXo P Γ i K' st:=by
 have hE:∀{st:St}{d:Option Nat}{x:XK}{xs:List AV},stepEx d x xs K st→stepEx d x xs K' st:=by
  intro st d x xs hs
  unfold stepEx at hs ⊢
  split at hs
  ·exact withO_mono (fun d hs=>⟨hs.1,h _ hs.2⟩) hs
  ·exact⟨hs.1,withO_mono (fun es hs=>⟨hs.1,hs.2.1,hs.2.2.1,h _ hs.2.2.2⟩) hs.2⟩
  ·exact⟨hs.1,withO_mono (fun es hs=>⟨hs.1,hs.2.1,h _ hs.2.2⟩) hs.2⟩
  ·unfold exAdd at hs ⊢
   split at hs
   ·exact⟨hs.1,hs.2.1,h _ hs.2.2⟩
   ·exact hs
  ·exact⟨hs.1,withO_mono (fun rows hs b hb=>h _ (hs b hb)) hs.2⟩
  ·exact⟨hs.1,h _ hs.2⟩
  ·unfold exAppz at hs ⊢
   split at hs
   ·exact withO_mono (fun d hs=>⟨hs.1,hs.2.1,hs.2.2.1,h _ hs.2.2.2⟩) hs
   ·exact hs
  ·exact withO_mono (fun d hs=>⟨hs.1,hs.2.1,hs.2.2.1,h _ hs.2.2.2⟩) hs
  ·unfold exMks at hs ⊢
   split at hs
   ·exact withO_mono (fun d hs=>⟨hs.1,hs.2.1,hs.2.2.1,h _ hs.2.2.2⟩) hs
   ·exact hs
  ·exact⟨hs.1,hs.2.1,hs.2.2.1,hs.2.2.2.1,h _ hs.2.2.2.2⟩
  ·exact⟨hs.1,withO_mono (fun r hs=>⟨hs.1,h _ hs.2⟩) hs.2⟩
  ·unfold exMore at hs ⊢
   split at hs
   ·unfold exRst at hs ⊢
    split at hs
    ·exact⟨hs.1,withO_mono (fun r hs=>⟨hs.1,hs.2.1,h _ hs.2.2⟩) hs.2⟩
    ·exact hs
   ·unfold exPubk at hs ⊢
    split at hs
    ·exact⟨hs.1,withO_mono (fun r hs=>withO_mono (fun j hs=>withO_mono (fun s hs=>withO_mono (fun ps hs=>h _ hs) hs) hs) hs) hs.2⟩
    ·exact hs
   ·exact withO_mono (fun d hs=>⟨hs.1,h _ hs.2⟩) hs
   ·unfold exPuv at hs ⊢
    split at hs
    ·exact⟨hs.1,withO_mono (fun r hs=>⟨hs.1,hs.2.1,h _ hs.2.2⟩) hs.2⟩
    ·exact hs
   ·unfold exGev at hs ⊢
    split at hs
    ·exact⟨hs.1,withO_mono (fun r hs=>⟨hs.1,hs.2.1,hs.2.2.1,h _ hs.2.2.2⟩) hs.2⟩
    ·exact hs
   ·unfold exDlv at hs ⊢
    split at hs
    ·exact⟨hs.1,withO_mono (fun r hs=>⟨hs.1,hs.2.1,h _ hs.2.2⟩) hs.2⟩
    ·exact hs
   ·exact⟨hs.1,withO_mono (fun r hs=>h _ hs) hs.2⟩
   ·unfold exRng at hs ⊢
    split at hs
    ·exact withO_mono (fun d hs=>⟨hs.1,hs.2.1,h _ hs.2.2⟩) hs
    ·exact hs
   ·unfold exNxt at hs ⊢
    split at hs
    ·exact⟨hs.1,withO_mono (fun r hs=>⟨fun e=>h _ (hs.1 e),fun e l m q=>h _ (hs.2 e l m q)⟩) hs.2⟩
    ·exact hs
   ·unfold exEnt at hs ⊢
    split at hs
    ·exact⟨hs.1,withO_mono (fun r hs=>withO_mono (fun e hs=>h _ hs) hs) hs.2⟩
    ·exact hs
   ·exact hs
 unfold stepXo at hs ⊢
 split at hs
 ·exact hE hs
 ·unfold stepEg at hs ⊢
  refine withO_mono (fun c hs=>?_) hs
  split at hs
  ·rename_i h1;rw [if_pos h1];exact hE hs
  ·rename_i h1;rw [if_neg h1];exact h _ hs
 ·exact stepJ_mono h hs
 ·rename_i e sz zs e1 e2
  unfold stepClr at hs ⊢
  exact⟨hs.1,withO_mono (fun X hs=>withO_mono (fun r hs=>h _ hs) hs) hs.2⟩
 ·unfold stepH stepHF at hs ⊢
  split at hs
  ·split at hs
   ·rename_i h0
    rw [if_pos h0]
    refine withO_mono (fun c hs=>?_) hs
    split at hs
    ·rename_i h2;rw [if_pos h2];exact stepG_mono h hs
    ·rename_i h2;rw [if_neg h2];exact h _ hs
   ·exact hs.elim
  refine pickJ_mono (fun hs=>?_) (h _) hs
  refine withO_mono (fun c hs=>withO_mono (fun ys hs=>withO_mono (fun x hs=>?_) hs) hs) hs
  split at hs
  ·rename_i h1
   rw [if_pos h1]
   split at hs
   ·rename_i h2;rw [if_pos h2];exact stepF_mono h hs
   ·rename_i h2;rw [if_neg h2];exact h _ hs
  ·rename_i h1
   rw [if_neg h1]
   exact stepI_wk h hs
 ·unfold stepC at hs ⊢
  split at hs
  ·refine⟨hs.1,withO_mono (fun x hs=>⟨hs.1,?_⟩) hs.2⟩
   have hs:=hs.2
   unfold stepCF at hs ⊢
   split at hs
   ·split at hs
    ·rename_i h1;rw [if_pos h1];exact stepG_mono h hs
    ·exact hs.elim
   ·exact semCall_mono (fun e he=>h _ he) hs
  ·refine pickJ_mono (fun hs=>?_) (h _) hs
   unfold stepCg at hs ⊢
   refine withO_mono (fun c hs=>withO_mono (fun x hs=>⟨hs.1,?_⟩) hs) hs
   have hs:=hs.2
   unfold stepCgF at hs ⊢
   split at hs
   ·split at hs
    ·rename_i h1
     rw [if_pos h1]
     split at hs
     ·rename_i h2;rw [if_pos h2];exact⟨hs.1,stepG_mono h hs.2⟩
     ·rename_i h2;rw [if_neg h2];exact h _ hs
    ·exact hs.elim
   unfold semGc at hs ⊢
   exact withO_mono (fun ys hs=>withO_mono (fun x hs=>⟨hs.1,hs.2.1,hs.2.2.1,hs.2.2.2.1,hs.2.2.2.2.1,h _ hs.2.2.2.2.2⟩) hs) hs
 ·unfold stepFU at hs ⊢
  split at hs
  ·split at hs
   ·rename_i h1
    rw [if_pos h1]
    unfold stepN at hs ⊢
    exact withO_mono (fun d hs=>⟨hs.1,withO_mono (fun ys hs=>withO_mono (fun x hs=>⟨hs.1,hs.2.1,hs.2.2.1,hs.2.2.2.1,h _ hs.2.2.2.2⟩) hs) hs.2⟩) hs
   ·rename_i h1
    rw [if_neg h1]
    split at hs
    ·rename_i h2;rw [if_pos h2];exact stepG_mono h hs
    rename_i h2
    rw [if_neg h2]
    unfold stepU at hs ⊢
    refine withO_mono (fun d hs=>⟨hs.1,withO_mono (fun X hs=>withO_mono (fun T hs=>⟨hs.1,withO_mono (fun ys hs=>withO_mono (fun x hs=>?_) hs) hs.2⟩) hs) hs.2⟩) hs
    exact⟨hs.1,hs.2.1,hs.2.2.1,hs.2.2.2.1,h _ hs.2.2.2.2⟩
  ·exact stepF_mono h hs
 ·exact stepI_wk h hs
 ·exact stepJ_mono h hs
theorem stepX_mono {i:AI}{K K':St→Prop} (h:∀st,K st→K' st) {st:St} (hs:stepX P Γ i K st):stepX P Γ i K' st:=by
 unfold stepX at hs ⊢
 split at hs
 ·split at hs
  ·rename_i h1;rw [if_pos h1]
   exact⟨hs.1,withO_mono (fun r hs=>⟨hs.1,hs.2.1,h _ hs.2.2⟩) hs.2⟩
  ·rename_i h1;rw [if_neg h1];exact stepXo_mono h hs
 ·exact stepXo_mono h hs
theorem stepsX_mono {K K':St→Prop} (h:∀st,K st→K' st):∀{is:List AI}{st:St},stepsX P Γ is K st→stepsX P Γ is K' st
 | [],st,hs=>h st hs
 |i::is,st,hs=>stepX_mono (fun st hs=>stepsX_mono h hs) hs
theorem steps_wk {K K':St→Prop} (h:∀st,K st→K' st):∀{is:List AI}{st:St},steps P Γ is K st→steps P Γ is K' st
 | [],st,hs=>h st hs
 |i::is,st,hs=>stepD_mono (fun st hs=>steps_wk h hs) hs
theorem vwp_mono:∀{a:AC}{K K':St→Prop}{J J':Exit→St→Prop}{st:St},(∀st,K st→K' st)→(∀e st,J e st→J' e st)→vwp P Γ a K J st→vwp P Γ a K' J' st
 |.skip,_,_,_,_,st,h,_,hs=>h st hs
 |.reg is d keep,_,_,_,_,st,h,_,hs=>by
  unfold vwp at hs ⊢
  split at hs
  ·rename_i hd;rw [if_pos hd];exact steps_wk (fun st hs=>h _ hs) hs
  ·rename_i hd;rw [if_neg hd];exact stepsX_mono (fun st hs=>h _ hs) hs
 |.seq a b,_,_,_,_,st,h,hj,hs=>vwp_mono (a:=a) (fun st hs=>vwp_mono (a:=b) h hj hs) hj hs
 |.cond x a b,_,_,_,_,st,h,hj,hs=>withO_mono (fun c hs=>⟨fun e=>vwp_mono (a:=a) h hj (hs.1 e),fun e=>vwp_mono (a:=b) h hj (hs.2 e)⟩) (show withO _ _ from hs)
 |.block id a,K,K',J,J',st,h,hj,hs=>vwp_mono (a:=a) h (fun e st hs=>by
   cases e with
   |exit id'=>
    simp only [inBlk]at hs ⊢
    split at hs
    ·rename_i h1;rw [if_pos h1];exact h _ hs
    ·rename_i h1;rw [if_neg h1];exact hj _ _ hs
   | _=>exact hj _ _ hs) (show vwp P Γ a K (inBlk id K J) st from hs)
 |.loop a,_,_,_,_,st,h,hj,hs=>by
  obtain⟨ι,F,μ,ad,shs,i0,hw,hr⟩:=hs
  exact⟨ι,F,μ,ad,shs,i0,hw,fun i=>vwp_mono (a:=a) (fun st hs=>hs) hj (hr i)⟩
 |.exit id,_,_,_,_,st,_,hj,hs=>hj _ _ hs
 |.ret,_,_,_,_,st,_,hj,hs=>hj _ _ hs
theorem vwp_cut {a b:AC}{K:St→Prop}{J:Exit→St→Prop}{st:St} (vs:List (Nat × AV)) (os:List (Nat × AO)) (h1:vwp P Γ a (fun st'=>st'=⟨look vs,lookO os⟩) J st) (h2:vwp P Γ b K J ⟨look vs,lookO os⟩):vwp P Γ (.seq a b) K J st:=
 vwp_mono (a:=a) (fun st' (hs:st'=_)=>by rw [hs];exact h2) (fun _ _ h=>h) h1
theorem vwp_cT {x:Operand}{a b:AC}{K:St→Prop}{J:Exit→St→Prop}{vs:List (Nat × AV)}{os:List (Nat × AO)} (h:boolOf (ev (look vs) x)=some true) (h1:vwp P Γ a K J ⟨look vs,lookO os⟩):vwp P Γ (.cond x a b) K J ⟨look vs,lookO os⟩:=by
 rw [R.vwp_cond,h]
 exact⟨fun _=>h1,fun e=>Bool.noConfusion e⟩
theorem vwp_cF {x:Operand}{a b:AC}{K:St→Prop}{J:Exit→St→Prop}{vs:List (Nat × AV)}{os:List (Nat × AO)} (h:boolOf (ev (look vs) x)=some false) (h1:vwp P Γ b K J ⟨look vs,lookO os⟩):vwp P Γ (.cond x a b) K J ⟨look vs,lookO os⟩:=by
 rw [R.vwp_cond,h]
 exact⟨fun e=>Bool.noConfusion e,fun _=>h1⟩
theorem vwp_at {a:AC}{K:St→Prop}{J:Exit→St→Prop}{st:St} (vs:List (Nat × AV)) (os:List (Nat × AO)) (h1:vwp P Γ a (fun st'=>st'=⟨look vs,lookO os⟩) J st) (h2:K ⟨look vs,lookO os⟩):vwp P Γ a K J st:=
 vwp_mono (a:=a) (fun st' (hs:st'=_)=>by rw [hs];exact h2) (fun _ _ h=>h) h1
theorem vwp_cutB {a b:AC}{K:St→Prop}{J:Exit→St→Prop}{st:St} (Q:St→Prop) (h1:vwp P Γ a Q J st) (h2:∀st',Q st'→vwp P Γ b K J st'):vwp P Γ (.seq a b) K J st:=
 vwp_mono (a:=a) (fun st' hs=>h2 st' hs) (fun _ _ h=>h) h1
theorem stepsX_cut {is js:List AI}{K:St→Prop}{st:St} (vs:List (Nat × AV)) (os:List (Nat × AO)) (h1:stepsX P Γ is (fun st'=>st'=⟨look vs,lookO os⟩) st) (h2:stepsX P Γ js K ⟨look vs,lookO os⟩):stepsX P Γ (is++js) K st:=by
 have key:∀(is:List AI) (st:St),stepsX P Γ is (fun st'=>stepsX P Γ js K st') st→stepsX P Γ (is++js) K st:=by
  intro is
  induction is with
  |nil=>exact fun st h=>h
  |cons i is ih=>exact fun st h=>stepX_mono (fun st hs=>ih st hs) h
 exact key is st (stepsX_mono (fun st' (hs:st'=_)=>by rw [hs];exact h2) h1)
theorem stepsX_at (k:Nat) {is:List AI}{K:St→Prop}{st:St} (vs:List (Nat × AV)) (os:List (Nat × AO)) (h1:stepsX P Γ (is.take k) (fun st'=>st'=⟨look vs,lookO os⟩) st) (h2:stepsX P Γ (is.drop k) K ⟨look vs,lookO os⟩):stepsX P Γ is K st:=by
 have:=stepsX_cut vs os h1 h2
 rwa [List.take_append_drop]at this
theorem stepsX_spl (k:Nat) {is l1 l2:List AI}{K:St→Prop}{st:St}{vs:List (Nat × AV)}{os:List (Nat × AO)} (e1:is.take k=l1) (e2:is.drop k=l2) (h1:stepsX P Γ l1 (fun st'=>st'=⟨look vs,lookO os⟩) st) (h2:stepsX P Γ l2 K ⟨look vs,lookO os⟩):stepsX P Γ is K st:=by
 subst e1 e2
 exact stepsX_at k vs os h1 h2
end
end Go.Proofs.Ytlmkcmfmfahcfaa.Ab
namespace Go.Proofs.Ytlmkcmfmfahcfaa.Ab
open Go Go.RowKit R
structure Vn where
 n:Int
 b:Int
 p:Int
 i:Int
 s:Int
 z:Int
 m:Int
 t:List UInt8
 inl:Bool
 hid:Bool
 deriving DecidableEq
def v0:Vn:=⟨0,0,0,0,0,0,0,[],false,false⟩
def rowV (v:Vn):List PV:=[.int .u64 v.n,.int .u64 v.b,.int .u64 v.p,.int .u64 v.i,.int .u64 v.s,.int .u64 v.z,.int .u64 v.m,.str v.t,.bool v.inl,.bool v.hid]
def cellsV (v:Vn):List AV:=[.pv (.int .u64 v.n),.pv (.int .u64 v.b),.pv (.int .u64 v.p),.pv (.int .u64 v.i),.pv (.int .u64 v.s),.pv (.int .u64 v.z),.pv (.int .u64 v.m),.pv (.str v.t),.pv (.bool v.inl),.pv (.bool v.hid)]
theorem rowV_inj:∀a b,rowV a=rowV b→a=b:=by
 intro a b h
 cases a;cases b
 simpa [rowV]using h
def rowsV (l:List Vn):List (List PV):=l.map rowV
@[simp] theorem rowsV_nil:rowsV []=[]:=rfl
@[simp] theorem rowsV_length (l:List Vn):(rowsV l).length=l.length:=by simp [rowsV]
theorem rowsV_append (l m:List Vn):rowsV (l++m)=rowsV l++rowsV m:=by simp [rowsV]
theorem rowsV_ten (l:List Vn):∀r∈rowsV l,r.length=10:=by
 intro r hr
 simp only [rowsV,List.mem_map]at hr
 obtain⟨c,_,rfl⟩:=hr
 rfl
theorem rowsV_at {l:List Vn}{i:Nat} (h:i < l.length):rowAt (rowsV l) (i:Int)=[.int .u64 l[i].n,.int .u64 l[i].b,.int .u64 l[i].p,.int .u64 l[i].i,.int .u64 l[i].s,.int .u64 l[i].z,.int .u64 l[i].m,.str l[i].t,.bool l[i].inl,.bool l[i].hid]:=by
 simp [rowAt,rowsV,h,rowV]
theorem rowsV_cut (l:List Vn) (i:Nat):cut (rowsV l) 0 (i:Int)=rowsV (l.take i):=by simp [cut,rowsV]
@[simp] theorem dec_rowsV (l:List Vn):dec rowV (rowsV l)=some l:=dec_map rowV_inj l
theorem dec_rowsV_inv {rows:List (List PV)}{l:List Vn} (h:dec rowV rows=some l):rows=rowsV l:=dec_inv h
theorem flat_rowsV (l:List Vn):flatRows (rowsV l):=by
 intro r hr p hp
 simp only [rowsV,List.mem_map]at hr
 obtain⟨c,_,rfl⟩:=hr
 simp only [rowV,List.mem_cons,List.not_mem_nil,or_false]at hp
 rcases hp with rfl | rfl | rfl | rfl | rfl | rfl | rfl | rfl | rfl | rfl<;>rfl
def baseV (v:Vn):Int:=if v.inl=true then 0 else v.b
def Gbase:List AV→Option (Prop × AV)
 | [.agg [.pv (.int .u64 _),.pv (.int .u64 b),.pv (.int .u64 _),.pv (.int .u64 _),.pv (.int .u64 _),.pv (.int .u64 _),.pv (.int .u64 _),.pv (.str _),.pv (.bool inl),.pv (.bool _)]]=>some (True,.pv (.int .u64 (if inl=true then 0 else b)))
 | _=>none
@[simp] theorem Gbase_eq (n b p i s z m:Int) (t:List UInt8) (inl hid:Bool):Gbase [.agg [.pv (.int .u64 n),.pv (.int .u64 b),.pv (.int .u64 p),.pv (.int .u64 i),.pv (.int .u64 s),.pv (.int .u64 z),.pv (.int .u64 m),.pv (.str t),.pv (.bool inl),.pv (.bool hid)]]=some (True,.pv (.int .u64 (if inl=true then 0 else b))):=rfl
theorem c_base:ConT Try.prog 62 Gbase:=by
 intro ys φ r h hφ
 unfold Gbase at h
 split at h
 ·rename_i n b p i s z m t inl hid
  cases h
  refine con_of tab_nil (by kernel_rfl) fn62 (by simp) ?_
  unfold body62
  cases inl<;>simp (config := { maxSteps := 3000000 })
 ·cases h
def ixV (l:List Vn) (n:Int):Int:=if l.findIdx (fun v=>decide (v.n=n)) < l.length then (l.findIdx (fun v=>decide (v.n=n)):Int) else -1
theorem ixV_at {l:List Vn}{n:Int}{i:Nat} (h:i < l.length) (hq:l[i].n=n) (ht:∀v∈l.take i,¬ v.n=n):ixV l n=i:=by
 have hf:l.findIdx (fun v=>decide (v.n=n))=i:=by
  rw [List.findIdx_eq h]
  refine⟨by simpa using hq,fun j hj=>?_⟩
  have:l[j]∈l.take i:=by
   rw [List.mem_take_iff_getElem]
   exact⟨j,by omega,rfl⟩
  simpa using ht _ this
 unfold ixV
 rw [hf,if_pos h]
theorem ixV_none {l:List Vn}{n:Int} (ht:∀v∈l,¬ v.n=n):ixV l n = -1:=by
 have hf:l.findIdx (fun v=>decide (v.n=n))=l.length:=by
  rw [List.findIdx_eq_length]
  intro v hv
  simpa using ht v hv
 unfold ixV
 rw [hf,if_neg (by omega)]
theorem ixV_cases (l:List Vn) (n:Int):(∃i,∃h:i < l.length,ixV l n=i∧l[i].n=n∧∀v∈l.take i,¬ v.n=n)∨(ixV l n = -1∧∀v∈l,¬ v.n=n):=by
 by_cases h:∃v∈l,v.n=n
 ·left
  have hlt:l.findIdx (fun v=>decide (v.n=n)) < l.length:=by
   rw [List.findIdx_lt_length]
   obtain⟨v,hv,hn⟩:=h
   exact⟨v,hv,by simpa using hn⟩
  have h1:l[l.findIdx (fun v=>decide (v.n=n))].n=n:=by
   have:=List.findIdx_getElem (w:=hlt)
   simpa using this
  have h2:∀v∈l.take (l.findIdx (fun v=>decide (v.n=n))),¬ v.n=n:=by
   intro v hv
   rw [List.mem_take_iff_getElem]at hv
   obtain⟨j,hj,rfl⟩:=hv
   have:=List.not_of_lt_findIdx (show j < l.findIdx (fun v=>decide (v.n=n)) by omega)
   simpa using this
  exact⟨_,hlt,ixV_at hlt h1 h2,h1,h2⟩
 ·right
  have h':∀v∈l,¬ v.n=n:=fun v hv hn=>h ⟨v,hv,hn⟩
  exact⟨ixV_none h',h'⟩
def Gof1:List AV→Option (Prop × AV)
 | [.agg [.pv (.int .u64 a),.pv (.int .u64 _),.pv (.int .u64 _),.pv (.int .u64 _),.pv (.int .u64 _),.pv (.int .u64 _),.pv (.int .u64 _),.pv (.str _),.pv (.bool _),.pv (.bool _)],.rp [.int .u64 n]]=>some (True,.pv (.bool (decide (a=n))))
 | _=>none
@[simp] theorem Gof1_eq (n b p i s z m q:Int) (t:List UInt8) (inl hid:Bool):Gof1 [.agg [.pv (.int .u64 n),.pv (.int .u64 b),.pv (.int .u64 p),.pv (.int .u64 i),.pv (.int .u64 s),.pv (.int .u64 z),.pv (.int .u64 m),.pv (.str t),.pv (.bool inl),.pv (.bool hid)],.rp [.int .u64 q]]=some (True,.pv (.bool (decide (n=q)))):=rfl
theorem c_of1:ConT Try.prog 59 Gof1:=by
 intro ys φ r h hφ
 unfold Gof1 at h
 split at h
 ·cases h
  refine con_of tab_nil (by kernel_rfl) fn59 (by simp) ?_
  unfold body59
  simp (config := { maxSteps := 3000000 })
 ·cases h
theorem isfnof1:isFn Try.prog 59=true:=by kernel_rfl
noncomputable def GixV:List AV→Option (Prop × AV)
 | [.pv (.ro a),.clo f [.rp [.int .u64 n]]]=>if f=59 then (dec rowV a).map fun l=>(l.length≤1000000000,.pv (.int .i64 (ixV l n))) else none
 | _=>none
@[simp] theorem GixV_eq (a:List (List PV)) (f:FuncId) (n:Int):GixV [.pv (.ro a),.clo f [.rp [.int .u64 n]]]=if f=59 then (dec rowV a).map fun l=>(l.length≤1000000000,.pv (.int .i64 (ixV l n))) else none:=rfl
theorem c_ixV:ConT Try.prog 58 GixV:=by
 intro ys φ r h hφ
 unfold GixV at h
 split at h
 ·rename_i ra f n
  split at h
  ·rename_i hf
   subst hf
   obtain⟨a,ha,h⟩:=Option.map_eq_some_iff.1 h
   cases h
   cases dec_rowsV_inv ha
   refine con_of (tab_cons c_of1 tab_nil) (by kernel_rfl) fn58 (by simp) ?_
   unfold body58
   simp (config := { maxSteps := 3000000 })
   refine vwp_loop (fun i:Nat=>i≤a.length∧∀v∈a.take i,¬ v.n=n) (fun i=>⟨[(0,.pv (.ro (rowsV a))),(1,.clo 59 [.rp [.int .u64 n]]),(7,.pv (.int .i64 a.length)),(8,.pv (.int .i64 i))],[]⟩) (fun i=>a.length - i) [] 0 (by simp) ?_ ?_
   ·simp
   ·rintro i ⟨hi,ht⟩
    have w2:IntKind.i64.wrap ((i:Int)+1)=(i:Int)+1:=wrap_i64 (by omega)
    by_cases hlt:i < a.length
    ·have r1:=rowsV_at hlt
     have hr:¬ a[i].n=n→∀v∈a.take (i+1),¬ v.n=n:=by
      intro h0 e he
      rw [List.take_succ_eq_append_getElem hlt,List.mem_append]at he
      rcases he with he | he
      ·exact ht e he
      ·rw [List.mem_singleton]at he;rw [he];exact h0
     simp (config := { maxSteps := 3000000 }) [w2,hlt,r1,isfnof1]
     refine⟨fun h=>(ixV_at hlt h ht).symm,fun h=>⟨i+1,⟨by omega,hr h⟩,by omega,by omega⟩⟩
    ·simp (config := { maxSteps := 3000000 }) [hlt]
     rw [List.take_of_length_le (by omega)]at ht
     exact (ixV_none ht).symm
  ·cases h
 ·cases h
noncomputable def Gof:List AV→Option (Prop × AV)
 | [.pv (.ro a),.pv (.int .u64 n)]=>(dec rowV a).map fun l=>(l.length≤1000000000,.pv (.int .i64 (ixV l n)))
 | _=>none
@[simp] theorem Gof_eq (a:List (List PV)) (n:Int):Gof [.pv (.ro a),.pv (.int .u64 n)]=(dec rowV a).map fun l=>(l.length≤1000000000,.pv (.int .i64 (ixV l n))):=rfl
theorem c_of:ConT Try.prog 43 Gof:=by
 intro ys φ r h hφ
 unfold Gof at h
 split at h
 ·rename_i ra n
  obtain⟨a,ha,h⟩:=Option.map_eq_some_iff.1 h
  cases h
  cases dec_rowsV_inv ha
  refine con_of (tab_cons c_ixV tab_nil) (by kernel_rfl) fn43 (by simp) ?_
  unfold body43
  simp (config := { maxSteps := 3000000 }) [hφ]
 ·cases h
def prevN (l:List Vn) (i:Nat):Int:=match i with
 | 0=>0
 |i+1=>((l[i]?).getD v0).n
def okAt (l:List Vn) (i:Nat):Bool:=decide (prevN l i < ((l[i]?).getD v0).n) && (decide (baseV ((l[i]?).getD v0)=0) || decide (0≤ixV (l.take i) (baseV ((l[i]?).getD v0))))
def rightV (l:List Vn):Bool:=(List.range l.length).all (okAt l)
theorem rightV_iff (l:List Vn):rightV l=true↔∀i,i < l.length→okAt l i=true:=by
 unfold rightV
 rw [List.all_eq_true]
 exact⟨fun h i hi=>h i (List.mem_range.2 hi),fun h i hi=>h i (List.mem_range.1 hi)⟩
theorem rightV_not {l:List Vn}{i:Nat} (hi:i < l.length) (h:okAt l i=false):rightV l=false:=by
 cases hr:rightV l with
 |false=>rfl
 |true=>rw [(rightV_iff l).1 hr i hi]at h;cases h
noncomputable def GRv:List AV→Option (Prop × AV)
 | [.pv (.ro a)]=>(dec rowV a).map fun l=>(l.length≤1000000000,.pv (.bool (rightV l)))
 | _=>none
@[simp] theorem GRv_eq (a:List (List PV)):GRv [.pv (.ro a)]=(dec rowV a).map fun l=>(l.length≤1000000000,.pv (.bool (rightV l))):=rfl
theorem c_Rv:ConT Try.prog 46 GRv:=by
 intro ys φ r h hφ
 unfold GRv at h
 split at h
 ·rename_i ra
  obtain⟨a,ha,h⟩:=Option.map_eq_some_iff.1 h
  cases h
  cases dec_rowsV_inv ha
  refine con_of (tab_cons c_base (tab_cons c_of tab_nil)) (by kernel_rfl) fn46 (by simp) ?_
  unfold body46
  simp (config := { maxSteps := 3000000 })
  refine vwp_loop (fun i:Nat=>i≤a.length∧∀j,j < i→okAt a j=true) (fun i=>⟨[(0,.pv (.ro (rowsV a))),(2,.pv (.bool false)),(3,.pv (.int .u64 (prevN a i))),(6,.pv (.ro (rowsV a))),(7,.pv (.int .i64 a.length)),(8,.pv (.int .i64 i))],[]⟩) (fun i=>a.length - i) [] 0 (by simp) ?_ ?_
  ·simp [prevN]
  ·rintro i ⟨hi,ht⟩
   have w2:IntKind.i64.wrap ((i:Int)+1)=(i:Int)+1:=wrap_i64 (by omega)
   by_cases hlt:i < a.length
   ·have r1:=rowsV_at hlt
    have hg:(a[i]?).getD v0=a[i]:=by rw [List.getElem?_eq_getElem hlt];rfl
    have hpn:prevN a (i+1)=a[i].n:=by simp only [prevN];rw [hg]
    have hok:okAt a i=(decide (prevN a i < a[i].n) && (decide (baseV a[i]=0) || decide (0≤ixV (a.take i) (baseV a[i])))):=by unfold okAt;rw [hg]
    have hnext:okAt a i=true→∀j,j < i+1→okAt a j=true:=by
     intro h j hj
     by_cases hji:j=i
     ·rw [hji];exact h
     ·exact ht j (by omega)
    have hbad:okAt a i=false→rightV a=false:=rightV_not hlt
    have hcut:=rowsV_cut a i
    have htl:(a.take i).length≤1000000000:=by rw [List.length_take];omega
    have hbv:(if a[i].inl=true then 0 else a[i].b)=baseV a[i]:=rfl
    have hmin:min i a.length≤1000000000:=by omega
    by_cases h1:a[i].n≤prevN a i
    ·have hb:=hbad (by rw [hok,Bool.and_eq_false_iff];left;simp;omega)
     simp (config := { maxSteps := 3000000 }) [w2,hlt,r1,h1,hb,hbv,hcut,hmin]
    ·have h1':prevN a i < a[i].n:=by omega
     by_cases h2:baseV a[i]=0
     ·simp (config := { maxSteps := 3000000 }) [w2,hlt,r1,h1,h2,hbv,hcut,hmin]
      exact⟨i+1,⟨by omega,hnext (by rw [hok];simp [h1',h2])⟩,⟨hpn.symm,by omega⟩,by omega⟩
     ·simp (config := { maxSteps := 3000000 }) [w2,hlt,r1,h1,h2,hbv,hcut,hmin]
      refine⟨⟨hi,rowsV_ten a⟩,fun h=>hbad (by rw [hok];simp [h1',h2];omega),fun h=>⟨i+1,⟨by omega,hnext (by rw [hok];simp [h1',h2,h])⟩,⟨hpn.symm,by omega⟩,by omega⟩⟩
   ·have:i=a.length:=by omega
    subst this
    have hr:rightV a=true:=(rightV_iff a).2 ht
    simp (config := { maxSteps := 3000000 }) [hr]
 ·cases h
def seenV (l:List Vn):List Vn:=l.filter fun v=>!v.hid
theorem seenV_len (l:List Vn):(seenV l).length≤l.length:=List.length_filter_le _ _
theorem seenV_take {l:List Vn}{i:Nat} (h:i < l.length):seenV (l.take (i+1))=if l[i].hid=true then seenV (l.take i) else seenV (l.take i)++[l[i]]:=by
 rw [List.take_succ_eq_append_getElem h]
 unfold seenV
 rw [List.filter_append]
 cases hh:l[i].hid<;>simp [hh]
noncomputable def GSeen (e:TypeId):List AV→Option (Prop × AV)
 | [.pv (.ro a)]=>(dec rowV a).map fun l=>(l.length≤1000000,.fr e (rowsV (seenV l)))
 | _=>none
@[simp] theorem GSeen_eq (e:TypeId) (a:List (List PV)):GSeen e [.pv (.ro a)]=(dec rowV a).map fun l=>(l.length≤1000000,.fr e (rowsV (seenV l))):=rfl
theorem c_Seen:ConT Try.prog 17 (GSeen 61):=by
 intro ys φ r h hφ
 unfold GSeen at h
 split at h
 ·rename_i ra
  obtain⟨a,ha,h⟩:=Option.map_eq_some_iff.1 h
  cases h
  cases dec_rowsV_inv ha
  refine con_of tab_nil (by kernel_rfl) fn17 (by simp) ?_
  unfold body17
  simp (config := { maxSteps := 3000000 })
  refine vwp_loop (fun i:Nat=>i≤a.length) (fun i=>⟨[(0,.pv (.ro (rowsV a))),(2,.own 2),(5,.pv (.ro (rowsV a))),(6,.pv (.int .i64 a.length)),(7,.pv (.int .i64 i))],[(2,.arr 61 (rowsV (seenV (a.take i))))]⟩) (fun i=>a.length - i) [] 0 (by simp) ?_ ?_
  ·simp [seenV]
  ·intro i hi
   have w2:IntKind.i64.wrap ((i:Int)+1)=(i:Int)+1:=wrap_i64 (by omega)
   by_cases hlt:i < a.length
   ·have r1:=rowsV_at hlt
    have hs:=seenV_take hlt
    have hl:=seenV_len (a.take i)
    have hl1:(a.take i).length≤1000000:=by rw [List.length_take];omega
    cases hh:a[i].hid with
    |true=>
     rw [hh,if_pos rfl]at hs
     simp (config := { maxSteps := 3000000 }) [w2,hlt,r1,hh]
     exact⟨i+1,by omega,⟨by omega,by rw [hs]⟩,by omega⟩
    |false=>
     rw [hh,if_neg (by simp)]at hs
     simp (config := { maxSteps := 3000000 }) [w2,hlt,r1,hh,maxLen_eq]
     refine⟨⟨by omega,by omega⟩,i+1,by omega,⟨by omega,?_⟩,by omega⟩
     rw [hs,rowsV_append]
     simp [rowsV,rowV,hh]
   ·simp (config := { maxSteps := 3000000 }) [hlt]
    rw [List.take_of_length_le (by omega)]
 ·cases h
def gtVn (l:List Vn) (n:Int):Option Vn:=(seenV l).find? fun v=>decide (v.n=n)
theorem getV_at {l:List Vn}{n:Int}{i:Nat} (h:i < (seenV l).length) (hq:(seenV l)[i].n=n) (ht:∀v∈(seenV l).take i,¬ v.n=n):gtVn l n=some (seenV l)[i]:=by
 unfold gtVn
 rw [List.find?_eq_some_iff_getElem]
 refine⟨by simpa using hq,i,h,rfl,fun j hj=>?_⟩
 have:(seenV l)[j]∈(seenV l).take i:=by
  rw [List.mem_take_iff_getElem]
  exact⟨j,by omega,rfl⟩
 simpa using ht _ this
theorem getV_none {l:List Vn}{n:Int} (ht:∀v∈seenV l,¬ v.n=n):gtVn l n=none:=by
 unfold gtVn
 rw [List.find?_eq_none]
 intro v hv
 simpa using ht v hv
noncomputable def GGv:List AV→Option (Prop × AV)
 | [.pv (.ro a),.pv (.int .u64 n)]=>(dec rowV a).map fun l=>(l.length≤1000000,.tup [.agg (cellsV ((gtVn l n).getD v0)),.pv (.bool (gtVn l n).isSome)])
 | _=>none
@[simp] theorem GGv_eq (a:List (List PV)) (n:Int):GGv [.pv (.ro a),.pv (.int .u64 n)]=(dec rowV a).map fun l=>(l.length≤1000000,.tup [.agg (cellsV ((gtVn l n).getD v0)),.pv (.bool (gtVn l n).isSome)]):=rfl
theorem c_Gv:ConT Try.prog 23 GGv:=by
 intro ys φ r h hφ
 unfold GGv at h
 split at h
 ·rename_i ra n
  obtain⟨a,ha,h⟩:=Option.map_eq_some_iff.1 h
  cases h
  cases dec_rowsV_inv ha
  have hs9:(seenV a).length≤1000000000:=by have:=seenV_len a;omega
  have fl:∀l,flatRows (rowsV l):=flat_rowsV
  refine con_of (tab_cons c_Seen (tab_cons c_of tab_nil)) (by kernel_rfl) fn23 (by simp) ?_
  unfold body23
  rcases ixV_cases (seenV a) n with ⟨i,hi,h1,h2,h3⟩ | ⟨h1,h2⟩
  ·have r1:=rowsV_at hi
   have hg:=getV_at hi h2 h3
   simp (config := { maxSteps := 3000000 }) [hφ,hs9,fl,h1,r1,hi,hg,cellsV]
  ·have hg:=getV_none h2
   simp (config := { maxSteps := 3000000 }) [hφ,hs9,fl,h1,hg,cellsV,v0]
 ·cases h
def curV (l:List Vn):Option Vn:=(seenV l).getLast?
noncomputable def GCv:List AV→Option (Prop × AV)
 | [.pv (.ro a)]=>(dec rowV a).map fun l=>(l.length≤1000000,.tup [.agg (cellsV ((curV l).getD v0)),.pv (.bool (curV l).isSome)])
 | _=>none
@[simp] theorem GCv_eq (a:List (List PV)):GCv [.pv (.ro a)]=(dec rowV a).map fun l=>(l.length≤1000000,.tup [.agg (cellsV ((curV l).getD v0)),.pv (.bool (curV l).isSome)]):=rfl
theorem c_Cv:ConT Try.prog 71 GCv:=by
 intro ys φ r h hφ
 unfold GCv at h
 split at h
 ·rename_i ra
  obtain⟨a,ha,h⟩:=Option.map_eq_some_iff.1 h
  cases h
  cases dec_rowsV_inv ha
  have hsl:=seenV_len a
  have fl:∀l,flatRows (rowsV l):=flat_rowsV
  refine con_of (tab_cons c_Seen tab_nil) (by kernel_rfl) fn71 (by simp) ?_
  unfold body71
  by_cases hn:seenV a=[]
  ·have hc:curV a=none:=by unfold curV;rw [hn];rfl
   simp (config := { maxSteps := 3000000 }) [hφ,fl,hn,hc,cellsV,v0]
  ·have hl : 0 < (seenV a).length:=List.length_pos_iff.2 hn
   have hlt:(seenV a).length - 1 < (seenV a).length:=by omega
   have r1:=rowsV_at hlt
   have hcast:(((seenV a).length - 1:Nat):Int)=((seenV a).length:Int) - 1:=by omega
   rw [hcast]at r1
   have hc:curV a=some (seenV a)[(seenV a).length - 1]:=by
    unfold curV;rw [List.getLast?_eq_getElem?,List.getElem?_eq_getElem hlt]
   have w1:IntKind.i64.wrap (((seenV a).length:Int) - 1)=((seenV a).length:Int) - 1:=wrap_i64 (by omega)
   have hne:¬ ((seenV a).length:Int)=0:=by omega
   have b1:(0:Int)≤((seenV a).length:Int) - 1:=by omega
   have b2:((seenV a).length:Int) - 1 < (seenV a).length:=by omega
   simp (config := { maxSteps := 3000000 }) [hφ,fl,hn,hc,w1,hne,b1,b2,r1,cellsV]
   omega
 ·cases h
theorem c_made:ConT Try.prog 60 Gbase:=by
 intro ys φ r h hφ
 unfold Gbase at h
 split at h
 ·rename_i n b p i s z m t inl hid
  cases h
  refine con_of tab_nil (by kernel_rfl) fn60 (by simp) ?_
  unfold body60
  cases inl<;>simp (config := { maxSteps := 3000000 })
 ·cases h
noncomputable def Gfind:List AV→Option (Prop × AV)
 | [.pv (.ro a),.pv (.int .i64 k),.pv (.int .u64 n)]=>(dec rowV a).map fun l=>(l.length≤1000000000∧0≤k∧k≤l.length,.pv (.int .i64 (ixV (l.take k.toNat) n)))
 | _=>none
@[simp] theorem Gfind_eq (a:List (List PV)) (k n:Int):Gfind [.pv (.ro a),.pv (.int .i64 k),.pv (.int .u64 n)]=(dec rowV a).map fun l=>(l.length≤1000000000∧0≤k∧k≤l.length,.pv (.int .i64 (ixV (l.take k.toNat) n))):=rfl
theorem c_find:ConT Try.prog 61 Gfind:=by
 intro ys φ r h hφ
 unfold Gfind at h
 split at h
 ·rename_i ra k n
  obtain⟨a,ha,h⟩:=Option.map_eq_some_iff.1 h
  cases h
  cases dec_rowsV_inv ha
  obtain⟨hl,h0,hk⟩:=hφ
  obtain⟨k,rfl⟩:∃q:Nat,k=(q:Int):=⟨k.toNat,by omega⟩
  simp only [Int.toNat_natCast]
  have hk':k≤a.length:=by omega
  refine con_of tab_nil (by kernel_rfl) fn61 (by simp) ?_
  unfold body61
  simp (config := { maxSteps := 3000000 })
  refine vwp_loop (fun i:Nat=>i≤k∧∀v∈a.take i,¬ v.n=n) (fun i=>⟨[(0,.pv (.ro (rowsV a))),(1,.pv (.int .i64 k)),(2,.pv (.int .u64 n)),(7,.pv (.int .i64 i))],[]⟩) (fun i=>k - i) [] 0 (by simp) ?_ ?_
  ·simp
  ·rintro i ⟨hi,ht⟩
   have w2:IntKind.i64.wrap ((i:Int)+1)=(i:Int)+1:=wrap_i64 (by omega)
   by_cases hik:(i:Int) < k
   ·have hlt:i < a.length:=by omega
    have r1:=rowsV_at hlt
    by_cases hn:a[i].n=n
    ·have hx:ixV (a.take k) n=i:=by
      refine ixV_at (by rw [List.length_take];omega) (by rw [List.getElem_take];exact hn) ?_
      rw [List.take_take,Nat.min_eq_left (by omega)];exact ht
     simp (config := { maxSteps := 3000000 }) [w2,hik,hlt,r1,hn,hx]
    ·simp (config := { maxSteps := 3000000 }) [w2,hik,hlt,r1,hn]
     refine⟨i+1,⟨by omega,fun v hv=>?_⟩,by omega,by omega⟩
     rw [List.take_succ_eq_append_getElem hlt,List.mem_append]at hv
     rcases hv with hv | hv
     ·exact ht v hv
     ·rw [List.mem_singleton]at hv;rw [hv];exact hn
   ·have:i=k:=by omega
    subst this
    have hx:ixV (a.take i) n = -1:=ixV_none ht
    simp (config := { maxSteps := 3000000 }) [hx]
 ·cases h
def okV (v:Vn):Prop:=0≤v.n∧v.n≤18446744073709551615∧0≤v.b∧v.b≤18446744073709551615
theorem baseV_pos {v:Vn} (h:okV v):0≤baseV v:=by
 unfold baseV;split
 ·omega
 ·exact h.2.2.1
noncomputable def GrRv:List AV→Option (Prop × AV)
 | [.pv (.ro a)]=>(dec rowV a).map fun l=>(l.length≤1000000000∧∀v∈l,okV v,.pv (.bool (rightV l)))
 | _=>none
@[simp] theorem GrRv_eq (a:List (List PV)):GrRv [.pv (.ro a)]=(dec rowV a).map fun l=>(l.length≤1000000000∧∀v∈l,okV v,.pv (.bool (rightV l))):=rfl
theorem c_rRv:ConT Try.prog 45 GrRv:=by
 intro ys φ r h hφ
 unfold GrRv at h
 split at h
 ·rename_i ra
  obtain⟨a,ha,h⟩:=Option.map_eq_some_iff.1 h
  cases h
  cases dec_rowsV_inv ha
  obtain⟨hl9,hov⟩:=hφ
  refine con_of (tab_cons c_made (tab_cons c_find tab_nil)) (by kernel_rfl) fn45 (by simp) ?_
  unfold body45
  simp (config := { maxSteps := 3000000 })
  refine vwp_loop (fun i:Nat=>i≤a.length∧∀j,j < i→okAt a j=true) (fun i=>⟨[(0,.pv (.ro (rowsV a))),(2,.pv (.bool false)),(3,.pv (.int .i64 i))],[]⟩) (fun i=>a.length - i) [] 0 (by simp) ?_ ?_
  ·simp
  ·rintro i ⟨hi,ht⟩
   have w2:IntKind.i64.wrap ((i:Int)+1)=(i:Int)+1:=wrap_i64 (by omega)
   by_cases hlt:i < a.length
   ·have r1:=rowsV_at hlt
    have hg:(a[i]?).getD v0=a[i]:=by rw [List.getElem?_eq_getElem hlt];rfl
    have ho:=hov a[i] (List.getElem_mem hlt)
    have hb0:=baseV_pos ho
    have hok:okAt a i=(decide (prevN a i < a[i].n) && (decide (baseV a[i]=0) || decide (0≤ixV (a.take i) (baseV a[i])))):=by unfold okAt;rw [hg]
    have hnext:okAt a i=true→∀j,j < i+1→okAt a j=true:=by
     intro h j hj
     by_cases hji:j=i
     ·rw [hji];exact h
     ·exact ht j (by omega)
    have hbad:okAt a i=false→rightV a=false:=rightV_not hlt
    have hbv:(if a[i].inl=true then 0 else a[i].b)=baseV a[i]:=rfl
    have hn0:=ho.1
    have him:i - 1 < a.length:=by omega
    have rm:rowAt (rowsV a) ((i:Int) - 1)=[.int .u64 a[i - 1].n,.int .u64 a[i - 1].b,.int .u64 a[i - 1].p,.int .u64 a[i - 1].i,.int .u64 a[i - 1].s,.int .u64 a[i - 1].z,.int .u64 a[i - 1].m,.str a[i - 1].t,.bool a[i - 1].inl,.bool a[i - 1].hid]:=by
     rw [←rowsV_at him]
     unfold rowAt
     congr 1
     omega
    have w1:IntKind.i64.wrap ((i:Int) - 1)=(i:Int) - 1:=wrap_i64 (by omega)
    have hop:=(hov a[i - 1] (List.getElem_mem him)).1
    have hpi : 0 < i→prevN a i=a[i - 1].n:=by
     intro h0
     obtain⟨q,rfl⟩:∃q,i=q+1:=⟨i - 1,by omega⟩
     have hq:q < a.length:=by omega
     simp only [prevN,Nat.add_sub_cancel]
     rw [List.getElem?_eq_getElem hq];rfl
    have hp0:¬ 0 < i→prevN a i=0:=by
     intro h0
     have:i=0:=by omega
     subst this;rfl
    have hmin:min i a.length=i:=by omega
    by_cases h1:a[i].n=0
    ·have hb:=hbad (by
      rw [hok,Bool.and_eq_false_iff];left
      simp only [decide_eq_false_iff_not]
      by_cases h0 : 0 < i
      ·rw [hpi h0];omega
      ·rw [hp0 h0];omega)
     simp (config := { maxSteps := 3000000 }) [w1,w2,hlt,r1,rm,h1,hb,hbv]
    ·by_cases h0 : 0 < i
     ·have hpi':=hpi h0
      have hb1 : 1≤(i:Int):=by omega
      have hb2:(i:Int) - 1 < a.length:=by omega
      have hne:¬ i=0:=by omega
      by_cases h3:a[i].n≤a[i - 1].n
      ·have h3':¬ a[i - 1].n < a[i].n:=by omega
       have hb:=hbad (by rw [hok,Bool.and_eq_false_iff];left;simp;omega)
       simp (config := { maxSteps := 3000000 }) [w1,w2,hlt,r1,rm,h1,h0,hb1,hb2,hne,h3,h3',hb,hbv]
      ·have hlp:prevN a i < a[i].n:=by omega
       have h3':a[i - 1].n < a[i].n:=by omega
       by_cases h2:baseV a[i]=0
       ·simp (config := { maxSteps := 3000000 }) [w1,w2,hlt,r1,rm,h1,h0,hb1,hb2,hne,h3,h3',h2,hbv]
        exact⟨i+1,⟨by omega,hnext (by rw [hok];simp [hlp,h2])⟩,by omega,by omega⟩
       ·have h2' : 0 < baseV a[i]:=by omega
        simp (config := { maxSteps := 3000000 }) [w1,w2,hlt,r1,rm,h1,h0,hb1,hb2,hne,h3,h3',h2,h2',hbv]
        exact⟨⟨hl9,hi⟩,fun h=>hbad (by rw [hok];simp [hlp,h2];omega),fun h=>⟨i+1,⟨by omega,hnext (by rw [hok];simp [hlp,h])⟩,by omega,by omega⟩⟩
     ·have hlp:prevN a i < a[i].n:=by rw [hp0 h0];omega
      have hz:(i=0)=True:=by simp;omega
      have h0f:(0 < i)=False:=by simp;omega
      by_cases h2:baseV a[i]=0
      ·simp (config := { maxSteps := 3000000 }) [w1,w2,hlt,r1,rm,h1,h0f,hz,h2,hbv]
       exact⟨i+1,⟨by omega,hnext (by rw [hok];simp [hlp,h2])⟩,by omega,by omega⟩
      ·have h2' : 0 < baseV a[i]:=by omega
       simp (config := { maxSteps := 3000000 }) [w1,w2,hlt,r1,rm,h1,h0f,hz,h2,h2',hbv]
       exact⟨⟨hl9,hi⟩,fun h=>hbad (by rw [hok];simp [hlp,h2];omega),fun h=>⟨i+1,⟨by omega,hnext (by rw [hok];simp [hlp,h])⟩,by omega,by omega⟩⟩
   ·have:i=a.length:=by omega
    subst this
    have hr:rightV a=true:=(rightV_iff a).2 ht
    simp (config := { maxSteps := 3000000 }) [hr]
 ·cases h
theorem c_rSeen:ConT Try.prog 44 (GSeen 84):=by
 intro ys φ r h hφ
 unfold GSeen at h
 split at h
 ·rename_i ra
  obtain⟨a,ha,h⟩:=Option.map_eq_some_iff.1 h
  cases h
  cases dec_rowsV_inv ha
  refine con_of tab_nil (by kernel_rfl) fn44 (by simp) ?_
  unfold body44
  simp (config := { maxSteps := 3000000 })
  refine vwp_loop (fun i:Nat=>i≤a.length) (fun i=>⟨[(0,.pv (.ro (rowsV a))),(3,.own 3),(4,.pv (.int .i64 i))],[(3,.arr 84 (rowsV (seenV (a.take i))))]⟩) (fun i=>a.length - i) [] 0 (by simp) ?_ ?_
  ·simp [seenV]
  ·intro i hi
   have w2:IntKind.i64.wrap ((i:Int)+1)=(i:Int)+1:=wrap_i64 (by omega)
   by_cases hlt:i < a.length
   ·have r1:=rowsV_at hlt
    have hs:=seenV_take hlt
    have hl:=seenV_len (a.take i)
    have hl1:(a.take i).length≤1000000:=by rw [List.length_take];omega
    cases hh:a[i].hid with
    |true=>
     rw [hh,if_pos rfl]at hs
     simp (config := { maxSteps := 3000000 }) [w2,hlt,r1,hh]
     exact⟨i+1,by omega,⟨by omega,by rw [hs]⟩,by omega⟩
    |false=>
     rw [hh,if_neg (by simp)]at hs
     simp (config := { maxSteps := 3000000 }) [w2,hlt,r1,hh,maxLen_eq]
     refine⟨⟨by omega,by omega⟩,i+1,by omega,⟨by omega,?_⟩,by omega⟩
     rw [hs,rowsV_append]
     simp [rowsV,rowV,hh]
   ·simp (config := { maxSteps := 3000000 }) [hlt]
    rw [List.take_of_length_le (by omega)]
 ·cases h
def Gone:List AV→Option (Prop × AV)
 | [.agg [.pv (.int .u64 n),.pv (.int .u64 b),.pv (.int .u64 p),.pv (.int .u64 i),.pv (.int .u64 s),.pv (.int .u64 z),.pv (.int .u64 m),.pv (.str t),.pv (.bool inl),.pv (.bool hid)]]=>some (True,.agg [.pv (.int .u64 n),.pv (.int .u64 b),.pv (.int .u64 p),.pv (.int .u64 i),.pv (.int .u64 s),.pv (.int .u64 z),.pv (.int .u64 m),.pv (.str t),.pv (.bool inl),.pv (.bool hid)])
 | _=>none
@[simp] theorem Gone_eq (n b p i s z m:Int) (t:List UInt8) (inl hid:Bool):Gone [.agg [.pv (.int .u64 n),.pv (.int .u64 b),.pv (.int .u64 p),.pv (.int .u64 i),.pv (.int .u64 s),.pv (.int .u64 z),.pv (.int .u64 m),.pv (.str t),.pv (.bool inl),.pv (.bool hid)]]=some (True,.agg [.pv (.int .u64 n),.pv (.int .u64 b),.pv (.int .u64 p),.pv (.int .u64 i),.pv (.int .u64 s),.pv (.int .u64 z),.pv (.int .u64 m),.pv (.str t),.pv (.bool inl),.pv (.bool hid)]):=rfl
noncomputable def GRefV:List AV→Option (Prop × AV)
 | [.pv (.ro a)]=>(dec rowV a).map fun l=>(l.length≤1000000,.fr 84 (rowsV l))
 | _=>none
@[simp] theorem GRefV_eq (a:List (List PV)):GRefV [.pv (.ro a)]=(dec rowV a).map fun l=>(l.length≤1000000,.fr 84 (rowsV l)):=rfl
noncomputable def GSmV:List AV→Option (Prop × AV)
 | [.pv (.ro a),.pv (.ro b)]=>(dec rowV a).bind fun la=>(dec rowV b).map fun lb=>(la.length≤1000000,.pv (.bool (decide (la=lb))))
 | _=>none
@[simp] theorem GSmV_eq (a b:List (List PV)):GSmV [.pv (.ro a),.pv (.ro b)]=(dec rowV a).bind fun la=>(dec rowV b).map fun lb=>(la.length≤1000000,.pv (.bool (decide (la=lb)))):=rfl
def fewV (l:List Vn):Bool:=decide (l.length≤12) && l.all fun v=>decide (v.t.length≤100)
noncomputable def GFewV:List AV→Option (Prop × AV)
 | [.pv (.ro a)]=>(dec rowV a).map fun l=>(True,.pv (.bool (fewV l)))
 | _=>none
@[simp] theorem GFewV_eq (a:List (List PV)):GFewV [.pv (.ro a)]=(dec rowV a).map fun l=>(True,.pv (.bool (fewV l))):=rfl
def rowI (n:Int):List PV:=[.int .i64 n]
def rowsI (l:List Int):List (List PV):=l.map rowI
@[simp] theorem rowsI_nil:rowsI []=[]:=rfl
def numsV (l:List Vn):List Int:=l.map fun v=>IntKind.i64.wrap v.n
noncomputable def GnumsV:List AV→Option (Prop × AV)
 | [.pv (.ro a)]=>(dec rowV a).map fun l=>(l.length≤1000000,.fr 3 (rowsI (numsV l)))
 | _=>none
@[simp] theorem GnumsV_eq (a:List (List PV)):GnumsV [.pv (.ro a)]=(dec rowV a).map fun l=>(l.length≤1000000,.fr 3 (rowsI (numsV l))):=rfl
noncomputable def GSmI:List AV→Option (Prop × AV)
 | [.pv (.ro a),.pv (.ro b)]=>(dec rowI a).bind fun la=>(dec rowI b).map fun lb=>(la.length≤1000000000,.pv (.bool (decide (la=lb))))
 | _=>none
@[simp] theorem GSmI_eq (a b:List (List PV)):GSmI [.pv (.ro a),.pv (.ro b)]=(dec rowI a).bind fun la=>(dec rowI b).map fun lb=>(la.length≤1000000000,.pv (.bool (decide (la=lb)))):=rfl
structure Ls where
 e:Int
 p:Int
 i:Int
 u:Int
 h:Bool
 deriving DecidableEq
def cellsL (l:Ls):List AV:=[.pv (.int .u64 l.e),.pv (.int .u64 l.p),.pv (.int .u64 l.i),.pv (.int .u64 l.u),.pv (.bool l.h)]
def mostN:Int:=18446744073709551615
def ownsL (l:Ls) (p i e:Int):Bool:=l.h && decide (l.p=p) && decide (l.i=i) && decide (l.e=e)
def nextL (l:Ls):Int × Int:=if l.e=mostN then (0,131) else (l.e+1,0)
def grantL (l:Ls) (p i u:Int):Ls × Int:=if l.e=mostN then (l,131) else (⟨l.e+1,p,i,u,true⟩,0)
def renewL (l:Ls) (u:Int):Ls:=⟨l.e,l.p,l.i,max l.u u,l.h⟩
def releaseL (l:Ls):Ls:=⟨l.e,l.p,l.i,l.u,false⟩
def GOwns:List AV→Option (Prop × AV)
 | [.agg [.pv (.int .u64 e),.pv (.int .u64 p),.pv (.int .u64 i),.pv (.int .u64 u),.pv (.bool h)],.pv (.int .u64 q),.pv (.int .u64 j),.pv (.int .u64 f)]=>some (True,.pv (.bool (ownsL ⟨e,p,i,u,h⟩ q j f)))
 | _=>none
@[simp] theorem GOwns_eq (e p i u q j f:Int) (h:Bool):GOwns [.agg [.pv (.int .u64 e),.pv (.int .u64 p),.pv (.int .u64 i),.pv (.int .u64 u),.pv (.bool h)],.pv (.int .u64 q),.pv (.int .u64 j),.pv (.int .u64 f)]=some (True,.pv (.bool (ownsL ⟨e,p,i,u,h⟩ q j f))):=rfl
theorem c_Owns:ConT Try.prog 9 GOwns:=by
 intro ys φ r h hφ
 unfold GOwns at h
 split at h
 ·rename_i e p i u h' q j f
  cases h
  refine con_of tab_nil (by kernel_rfl) fn9 (by simp) ?_
  unfold body9
  cases h' with
  |false=>simp (config := { maxSteps := 3000000 }) [ownsL]
  |true=>
   by_cases h1:p=q
   ·by_cases h2:i=j
    ·by_cases h3:e=f<;>simp (config := { maxSteps := 3000000 }) [ownsL,h1,h2,h3]
    ·simp (config := { maxSteps := 3000000 }) [ownsL,h1,h2]
   ·simp (config := { maxSteps := 3000000 }) [ownsL,h1]
 ·cases h
def GNext:List AV→Option (Prop × AV)
 | [.agg [.pv (.int .u64 e),.pv (.int .u64 p),.pv (.int .u64 i),.pv (.int .u64 u),.pv (.bool h)]]=>some (okN e,.tup [.pv (.int .u64 (nextL ⟨e,p,i,u,h⟩).1),.pv (.int .i64 (nextL ⟨e,p,i,u,h⟩).2)])
 | _=>none
@[simp] theorem GNext_eq (e p i u:Int) (h:Bool):GNext [.agg [.pv (.int .u64 e),.pv (.int .u64 p),.pv (.int .u64 i),.pv (.int .u64 u),.pv (.bool h)]]=some (okN e,.tup [.pv (.int .u64 (nextL ⟨e,p,i,u,h⟩).1),.pv (.int .i64 (nextL ⟨e,p,i,u,h⟩).2)]):=rfl
theorem c_Next:ConT Try.prog 63 GNext:=by
 intro ys φ r h hφ
 unfold GNext at h
 split at h
 ·rename_i e p i u h'
  cases h
  obtain⟨o1,o2⟩:=hφ
  refine con_of tab_nil (by kernel_rfl) fn63 (by simp) ?_
  unfold body63
  by_cases h1:e=18446744073709551615
  ·simp (config := { maxSteps := 3000000 }) [nextL,mostN,h1]
  ·have w1:IntKind.u64.wrap (e+1)=e+1:=wrap_u64 (by omega)
   simp (config := { maxSteps := 3000000 }) [nextL,mostN,h1,w1]
 ·cases h
def GGrant:List AV→Option (Prop × AV)
 | [.agg [.pv (.int .u64 e),.pv (.int .u64 p),.pv (.int .u64 i),.pv (.int .u64 u),.pv (.bool h)],.pv (.int .u64 q),.pv (.int .u64 j),.pv (.int .u64 v)]=>some (okN e,.tup [.agg (cellsL (grantL ⟨e,p,i,u,h⟩ q j v).1),.pv (.int .i64 (grantL ⟨e,p,i,u,h⟩ q j v).2)])
 | _=>none
@[simp] theorem GGrant_eq (e p i u q j v:Int) (h:Bool):GGrant [.agg [.pv (.int .u64 e),.pv (.int .u64 p),.pv (.int .u64 i),.pv (.int .u64 u),.pv (.bool h)],.pv (.int .u64 q),.pv (.int .u64 j),.pv (.int .u64 v)]=some (okN e,.tup [.agg (cellsL (grantL ⟨e,p,i,u,h⟩ q j v).1),.pv (.int .i64 (grantL ⟨e,p,i,u,h⟩ q j v).2)]):=rfl
theorem c_Grant:ConT Try.prog 48 GGrant:=by
 intro ys φ r h hφ
 unfold GGrant at h
 split at h
 ·rename_i e p i u h' q j v
  cases h
  refine con_of (tab_cons c_Next tab_nil) (by kernel_rfl) fn48 (by simp) ?_
  unfold body48
  by_cases h1:e=18446744073709551615
  ·simp (config := { maxSteps := 3000000 }) [nextL,grantL,mostN,cellsL,h1]
   exact h1 ▸ hφ
  ·simp (config := { maxSteps := 3000000 }) [nextL,grantL,mostN,cellsL,h1]
   exact hφ
 ·cases h
def GRenew:List AV→Option (Prop × AV)
 | [.agg [.pv (.int .u64 e),.pv (.int .u64 p),.pv (.int .u64 i),.pv (.int .u64 u),.pv (.bool h)],.pv (.int .u64 v)]=>some (True,.agg (cellsL (renewL ⟨e,p,i,u,h⟩ v)))
 | _=>none
@[simp] theorem GRenew_eq (e p i u v:Int) (h:Bool):GRenew [.agg [.pv (.int .u64 e),.pv (.int .u64 p),.pv (.int .u64 i),.pv (.int .u64 u),.pv (.bool h)],.pv (.int .u64 v)]=some (True,.agg (cellsL (renewL ⟨e,p,i,u,h⟩ v))):=rfl
theorem c_Renew:ConT Try.prog 50 GRenew:=by
 intro ys φ r h hφ
 unfold GRenew at h
 split at h
 ·cases h
  refine con_of tab_nil (by kernel_rfl) fn50 (by simp) ?_
  unfold body50
  simp (config := { maxSteps := 3000000 }) [renewL,cellsL]
 ·cases h
def GRel:List AV→Option (Prop × AV)
 | [.agg [.pv (.int .u64 e),.pv (.int .u64 p),.pv (.int .u64 i),.pv (.int .u64 u),.pv (.bool h)]]=>some (True,.agg (cellsL (releaseL ⟨e,p,i,u,h⟩)))
 | _=>none
@[simp] theorem GRel_eq (e p i u:Int) (h:Bool):GRel [.agg [.pv (.int .u64 e),.pv (.int .u64 p),.pv (.int .u64 i),.pv (.int .u64 u),.pv (.bool h)]]=some (True,.agg (cellsL (releaseL ⟨e,p,i,u,h⟩))):=rfl
theorem c_Rel:ConT Try.prog 51 GRel:=by
 intro ys φ r h hφ
 unfold GRel at h
 split at h
 ·cases h
  refine con_of tab_nil (by kernel_rfl) fn51 (by simp) ?_
  unfold body51
  simp (config := { maxSteps := 3000000 }) [releaseL,cellsL]
 ·cases h
noncomputable def decO {α:Type} (f : α→AV) (y:AV):Option α:=open Classical in if h:∃p,f p=y then some h.choose else none
theorem decO_inv {α:Type}{f : α→AV}{y:AV}{p : α} (h:decO f y=some p):y=f p:=by
 unfold decO at h
 split at h
 ·rename_i h'
  cases h
  exact h'.choose_spec.symm
 ·cases h
theorem decO_eq {α:Type}{f : α→AV} (inj:∀p q,f p=f q→p=q) (p : α):decO f (f p)=some p:=by
 unfold decO
 have h:∃q,f q=f p:=⟨p,rfl⟩
 rw [dif_pos h]
 exact congrArg some (inj _ _ h.choose_spec)
structure Rc where
 k:Int
 p:Int
 i:Int
 s:Int
 e:Int
 u:Int
 v:Int
 c:Int
 z:Int
 m:Int
 n:List UInt8
 t:List UInt8
 deriving DecidableEq
structure Ap where
 l:Ls
 ps:List Pn
 vs:List Vn
 sl:Bool
 r:Rc
 n:Int
 s:Int
def apT (a:Ap):AV:=.bx [.pv (.int .u64 a.l.e),.pv (.int .u64 a.l.p),.pv (.int .u64 a.l.i),.pv (.int .u64 a.l.u),.pv (.bool a.l.h),.fr 86 (rowsP a.ps),.fr 61 (rowsV a.vs),.pv (.bool a.sl),
 .pv (.int .u8 a.r.k),.pv (.int .u64 a.r.p),.pv (.int .u64 a.r.i),.pv (.int .u64 a.r.s),.pv (.int .u64 a.r.e),.pv (.int .u64 a.r.u),.pv (.int .u64 a.r.v),.pv (.int .u64 a.r.c),.pv (.int .u64 a.r.z),.pv (.int .u64 a.r.m),.pv (.str a.r.n),.pv (.str a.r.t),.pv (.int .u64 a.n),.pv (.int .u64 a.s)]
def apR (a:Ap):AV:=.rp [.int .u64 a.l.e,.int .u64 a.l.p,.int .u64 a.l.i,.int .u64 a.l.u,.bool a.l.h,.ro (rowsP a.ps),.ro (rowsV a.vs),.bool a.sl,
 .int .u8 a.r.k,.int .u64 a.r.p,.int .u64 a.r.i,.int .u64 a.r.s,.int .u64 a.r.e,.int .u64 a.r.u,.int .u64 a.r.v,.int .u64 a.r.c,.int .u64 a.r.z,.int .u64 a.r.m,.str a.r.n,.str a.r.t,.int .u64 a.n,.int .u64 a.s]
theorem map_inj' {α β:Type}{f : α→β} (hf:∀a b,f a=f b→a=b):∀{l m:List α},l.map f=m.map f→l=m
 | [],[],_=>rfl
 | [],_::_,h=>by cases h
 | _::_,[],h=>by cases h
 |a::l,b::m,h=>by
  simp only [List.map_cons,List.cons.injEq]at h
  rw [hf _ _ h.1,map_inj' hf h.2]
theorem apT_inj:∀p q,apT p=apT q→p=q:=by
 rintro⟨⟨e,p,i,u,h⟩,ps,vs,sl,⟨k,rp,ri,rs,re,ru,rv,rc,rz,rm,rn,rt⟩,n,s⟩ ⟨⟨e',p',i',u',h'⟩,ps',vs',sl',⟨k',rp',ri',rs',re',ru',rv',rc',rz',rm',rn',rt'⟩,n',s'⟩ hh
 simp only [apT,AV.bx.injEq,List.cons.injEq,AV.pv.injEq,PV.int.injEq,PV.bool.injEq,PV.str.injEq,AV.fr.injEq,true_and,and_true]at hh
 obtain⟨rfl,rfl,rfl,rfl,rfl,h1,h2,rfl,rfl,rfl,rfl,rfl,rfl,rfl,rfl,rfl,rfl,rfl,rfl,rfl,rfl,rfl⟩:=hh
 rw [map_inj' rowP_inj h1,map_inj' rowV_inj h2]
theorem apR_inj:∀p q,apR p=apR q→p=q:=by
 rintro⟨⟨e,p,i,u,h⟩,ps,vs,sl,⟨k,rp,ri,rs,re,ru,rv,rc,rz,rm,rn,rt⟩,n,s⟩ ⟨⟨e',p',i',u',h'⟩,ps',vs',sl',⟨k',rp',ri',rs',re',ru',rv',rc',rz',rm',rn',rt'⟩,n',s'⟩ hh
 simp only [apR,AV.rp.injEq,List.cons.injEq,PV.int.injEq,PV.bool.injEq,PV.str.injEq,PV.ro.injEq,true_and,and_true]at hh
 obtain⟨rfl,rfl,rfl,rfl,rfl,h1,h2,rfl,rfl,rfl,rfl,rfl,rfl,rfl,rfl,rfl,rfl,rfl,rfl,rfl,rfl,rfl⟩:=hh
 rw [map_inj' rowP_inj h1,map_inj' rowV_inj h2]
@[simp] theorem decAT_eq (e p i u:Int) (h:Bool) (ps:List Pn) (vs:List Vn) (sl:Bool) (k rp ri rs re ru rv rc rz rm:Int) (rn rt:List UInt8) (n s:Int) :
  decO apT (.bx [.pv (.int .u64 e),.pv (.int .u64 p),.pv (.int .u64 i),.pv (.int .u64 u),.pv (.bool h),.fr 86 (rowsP ps),.fr 61 (rowsV vs),.pv (.bool sl),.pv (.int .u8 k),.pv (.int .u64 rp),.pv (.int .u64 ri),.pv (.int .u64 rs),.pv (.int .u64 re),.pv (.int .u64 ru),.pv (.int .u64 rv),.pv (.int .u64 rc),.pv (.int .u64 rz),.pv (.int .u64 rm),.pv (.str rn),.pv (.str rt),.pv (.int .u64 n),.pv (.int .u64 s)])=some ⟨⟨e,p,i,u,h⟩,ps,vs,sl,⟨k,rp,ri,rs,re,ru,rv,rc,rz,rm,rn,rt⟩,n,s⟩:=
 decO_eq apT_inj ⟨⟨e,p,i,u,h⟩,ps,vs,sl,⟨k,rp,ri,rs,re,ru,rv,rc,rz,rm,rn,rt⟩,n,s⟩
@[simp] theorem decAR_eq (e p i u:Int) (h:Bool) (ps:List Pn) (vs:List Vn) (sl:Bool) (k rp ri rs re ru rv rc rz rm:Int) (rn rt:List UInt8) (n s:Int) :
  decO apR (.rp [.int .u64 e,.int .u64 p,.int .u64 i,.int .u64 u,.bool h,.ro (rowsP ps),.ro (rowsV vs),.bool sl,.int .u8 k,.int .u64 rp,.int .u64 ri,.int .u64 rs,.int .u64 re,.int .u64 ru,.int .u64 rv,.int .u64 rc,.int .u64 rz,.int .u64 rm,.str rn,.str rt,.int .u64 n,.int .u64 s])=some ⟨⟨e,p,i,u,h⟩,ps,vs,sl,⟨k,rp,ri,rs,re,ru,rv,rc,rz,rm,rn,rt⟩,n,s⟩:=
 decO_eq apR_inj ⟨⟨e,p,i,u,h⟩,ps,vs,sl,⟨k,rp,ri,rs,re,ru,rv,rc,rz,rm,rn,rt⟩,n,s⟩
noncomputable def GOw:List AV→Option (Prop × AV)
 | [y]=>(decO apR y).map fun a=>(True,.pv (.bool (ownsL a.l a.r.p a.r.i a.r.e)))
 | _=>none
@[simp] theorem GOw_eq (y:AV):GOw [y]=(decO apR y).map fun a=>(True,.pv (.bool (ownsL a.l a.r.p a.r.i a.r.e))):=rfl
theorem c_Ow:ConT Try.prog 49 GOw:=by
 intro ys φ r h hφ
 unfold GOw at h
 split at h
 ·obtain⟨a,ha,h⟩:=Option.map_eq_some_iff.1 h
  cases h
  cases decO_inv ha
  refine con_of (tab_cons c_Owns tab_nil) (by kernel_rfl) fn49 (by simp) ?_
  unfold body49
  simp (config := { maxSteps := 3000000 }) [apR]
 ·cases h
def sealA (a:Ap):Ap × Bool:=(⟨a.l,a.ps,a.vs,true,a.r,a.n,a.s⟩,!a.sl && a.l.h && decide (a.l.p=a.r.p) && decide (a.l.i=a.r.i))
def renewA (a:Ap):Ap × Bool:=(⟨renewL a.l a.r.u,a.ps,a.vs,a.sl,a.r,a.n,a.s⟩,!a.sl && ownsL a.l a.r.p a.r.i a.r.e)
def releaseA (a:Ap):Ap × Bool:=(⟨releaseL a.l,a.ps,a.vs,a.sl,a.r,a.n,a.s⟩,!a.sl && ownsL a.l a.r.p a.r.i a.r.e)
def grantA (a:Ap):Ap × Bool:=(⟨(grantL a.l a.r.p a.r.i a.r.u).1,a.ps,a.vs,a.sl,a.r,a.n,a.s⟩,!a.sl && decide ((grantL a.l a.r.p a.r.i a.r.u).2=0) && decide ((grantL a.l a.r.p a.r.i a.r.u).1.e=a.r.e))
noncomputable def GDo (C:Ap→Prop) (F:Ap→Ap × Bool):List AV→Option (Prop × AV)
 | [.tup [y]]=>(decO apT y).map fun a=>(C a,.clo 0 [.pv (.bool (F a).2),apT (F a).1])
 | _=>none
@[simp] theorem GDo_eq (C:Ap→Prop) (F:Ap→Ap × Bool) (y:AV):GDo C F [.tup [y]]=(decO apT y).map fun a=>(C a,.clo 0 [.pv (.bool (F a).2),apT (F a).1]):=rfl
theorem c_renewA:ConTG Try.prog 32 (GDo (fun _=>True) renewA):=by
 intro ys φ r h hφ
 unfold GDo at h
 split at h
 ·obtain⟨a,ha,h⟩:=Option.map_eq_some_iff.1 h
  cases h
  cases decO_inv ha
  obtain⟨⟨e,p,i,u,h'⟩,ps,vs,sl,⟨k,rp,ri,rs,re,ru,rv,rc,rz,rm,rn,rt⟩,n,s⟩:=a
  refine con_ofG (tab_cons c_Ow (tab_cons c_Renew tab_nil)) (by kernel_rfl) fn32 (by simp) rfl (by simp [apT]) ?_
  unfold body32
  cases sl<;>simp (config := { maxSteps := 3000000 }) [apT,renewA,cellsL,renewL]
 ·cases h
theorem c_releaseA:ConTG Try.prog 33 (GDo (fun _=>True) releaseA):=by
 intro ys φ r h hφ
 unfold GDo at h
 split at h
 ·obtain⟨a,ha,h⟩:=Option.map_eq_some_iff.1 h
  cases h
  cases decO_inv ha
  obtain⟨⟨e,p,i,u,h'⟩,ps,vs,sl,⟨k,rp,ri,rs,re,ru,rv,rc,rz,rm,rn,rt⟩,n,s⟩:=a
  refine con_ofG (tab_cons c_Ow (tab_cons c_Rel tab_nil)) (by kernel_rfl) fn33 (by simp) rfl (by simp [apT]) ?_
  unfold body33
  cases sl<;>simp (config := { maxSteps := 3000000 }) [apT,releaseA,cellsL,releaseL]
 ·cases h
theorem c_sealA:ConTG Try.prog 37 (GDo (fun _=>True) sealA):=by
 intro ys φ r h hφ
 unfold GDo at h
 split at h
 ·obtain⟨a,ha,h⟩:=Option.map_eq_some_iff.1 h
  cases h
  cases decO_inv ha
  obtain⟨⟨e,p,i,u,h'⟩,ps,vs,sl,⟨k,rp,ri,rs,re,ru,rv,rc,rz,rm,rn,rt⟩,n,s⟩:=a
  refine con_ofG tab_nil (by kernel_rfl) fn37 (by simp) rfl (by simp [apT]) ?_
  unfold body37
  cases sl<;>cases h'<;>simp (config := { maxSteps := 3000000 }) [apT,sealA,cellsL]
 ·cases h
theorem c_grantA:ConTG Try.prog 31 (GDo (fun a=>okN a.l.e) grantA):=by
 intro ys φ r h hφ
 unfold GDo at h
 split at h
 ·obtain⟨a,ha,h⟩:=Option.map_eq_some_iff.1 h
  cases h
  cases decO_inv ha
  obtain⟨⟨e,p,i,u,h'⟩,ps,vs,sl,⟨k,rp,ri,rs,re,ru,rv,rc,rz,rm,rn,rt⟩,n,s⟩:=a
  have oe:okN e:=hφ
  refine con_ofG (tab_cons c_Grant tab_nil) (by kernel_rfl) fn31 (by simp) rfl (by simp [apT]) ?_
  unfold body31
  by_cases h1:e=mostN
  ·cases sl<;>simp (config := { maxSteps := 3000000 }) [apT,grantA,cellsL,grantL,h1,oe]
   all_goals exact h1 ▸ oe
  ·cases sl<;>simp (config := { maxSteps := 3000000 }) [apT,grantA,cellsL,grantL,h1,oe]
 ·cases h
noncomputable def GClV:List AV→Option (Prop × AV)
 | [.pv (.ro a)]=>(dec rowV a).map fun l=>(l.length≤1000000,.fr 61 (rowsV l))
 | _=>none
@[simp] theorem GClV_eq (a:List (List PV)):GClV [.pv (.ro a)]=(dec rowV a).map fun l=>(l.length≤1000000,.fr 61 (rowsV l)):=rfl
theorem c_ClV:ConT Try.prog 30 GClV:=by
 intro ys φ r h hφ
 unfold GClV at h
 split at h
 ·rename_i ra
  obtain⟨a,ha,h⟩:=Option.map_eq_some_iff.1 h
  cases h
  cases dec_rowsV_inv ha
  refine con_of tab_nil (by kernel_rfl) fn30 (by simp) ?_
  unfold body30
  cases a with
  |nil=>
   simp (config := { maxSteps := 3000000 }) [exNil_eq]
  |cons x l=>
   have hx:rowsV (x::l)=rowV x::rowsV l:=rfl
   simp (config := { maxSteps := 3000000 }) [hx,maxLen_eq]
   simp only [List.length_cons]at hφ
   exact⟨by omega,by omega,rfl,rowsV_ten l⟩
 ·cases h
def Gplain:List AV→Option (Prop × AV)
 | [.pv (.int .u64 n),.pv (.str t)]=>some (True,.agg [.pv (.int .u64 n),.pv (.int .u64 0),.pv (.int .u64 0),.pv (.int .u64 0),.pv (.int .u64 0),.pv (.int .u64 0),.pv (.int .u64 0),.pv (.str t),.pv (.bool true),.pv (.bool false)])
 | _=>none
@[simp] theorem Gplain_eq (n:Int) (t:List UInt8):Gplain [.pv (.int .u64 n),.pv (.str t)]=some (True,.agg [.pv (.int .u64 n),.pv (.int .u64 0),.pv (.int .u64 0),.pv (.int .u64 0),.pv (.int .u64 0),.pv (.int .u64 0),.pv (.int .u64 0),.pv (.str t),.pv (.bool true),.pv (.bool false)]):=rfl
theorem c_plain:ConT Try.prog 47 Gplain:=by
 intro ys φ r h hφ
 unfold Gplain at h
 split at h
 ·cases h
  refine con_of tab_nil (by kernel_rfl) fn47 (by simp) ?_
  unfold body47
  simp (config := { maxSteps := 3000000 })
 ·cases h
def plainV (n:Int) (t:List UInt8):Vn:=⟨n,0,0,0,0,0,0,t,true,false⟩
def lastN (l:List Vn):Int:=((l.getLast?).getD v0).n
theorem right_step {l:List Vn} (hr:rightV l=true) {i:Nat} (h:i+1 < l.length):l[i].n < l[i+1].n:=by
 have:=(rightV_iff l).1 hr (i+1) h
 unfold okAt at this
 rw [Bool.and_eq_true]at this
 have h1:=this.1
 simp only [prevN,List.getElem?_eq_getElem h,List.getElem?_eq_getElem (show i < l.length by omega),Option.getD_some,decide_eq_true_eq]at h1
 exact h1
theorem right_mono {l:List Vn} (hr:rightV l=true) {i:Nat}:∀(d:Nat) (h:i+d < l.length),l[i].n≤l[i+d].n
 | 0,h=>Int.le_refl _
 |d+1,h=>by
  have h1:=right_mono hr d (show i+d < l.length by omega)
  have h2:=right_step hr (i:=i+d) (by omega)
  have:l[i+(d+1)].n=l[i+d+1].n:=rfl
  omega
def rowSt (s:List UInt8):List PV:=[.str s]
theorem rowSt_inj:∀a b,rowSt a=rowSt b→a=b:=by
 intro a b h
 simpa [rowSt]using h
def rowsSt (l:List (List UInt8)):List (List PV):=l.map rowSt
@[simp] theorem rowsSt_nil:rowsSt []=[]:=rfl
@[simp] theorem rowsSt_length (l:List (List UInt8)):(rowsSt l).length=l.length:=by simp [rowsSt]
theorem rowsSt_at {l:List (List UInt8)}{i:Nat} (h:i < l.length):rowAt (rowsSt l) (i:Int)=[.str l[i]]:=by
 simp [rowAt,rowsSt,h,rowSt]
@[simp] theorem dec_rowsSt (l:List (List UInt8)):dec rowSt (rowsSt l)=some l:=dec_map rowSt_inj l
theorem dec_rowsSt_inv {rows:List (List PV)}{l:List (List UInt8)} (h:dec rowSt rows=some l):rows=rowsSt l:=dec_inv h
noncomputable def GCop:List AV→Option (Prop × AV)
 | [.agg [.pv (.int .u64 e),.pv (.int .u64 p),.pv (.int .u64 i),.pv (.int .u64 u),.pv (.bool h),.pv (.ro a),.pv (.ro b),.pv (.bool sl)]]=>(dec rowP a).bind fun ps=>(dec rowV b).map fun vs=>(ps.length≤100000∧vs.length≤100000,.agg [.pv (.int .u64 e),.pv (.int .u64 p),.pv (.int .u64 i),.pv (.int .u64 u),.pv (.bool h),.fr 86 (rowsP ps),.fr 61 (rowsV vs),.pv (.bool sl)])
 | _=>none
@[simp] theorem GCop_eq (e p i u:Int) (h sl:Bool) (a b:List (List PV)):GCop [.agg [.pv (.int .u64 e),.pv (.int .u64 p),.pv (.int .u64 i),.pv (.int .u64 u),.pv (.bool h),.pv (.ro a),.pv (.ro b),.pv (.bool sl)]]=(dec rowP a).bind fun ps=>(dec rowV b).map fun vs=>(ps.length≤100000∧vs.length≤100000,.agg [.pv (.int .u64 e),.pv (.int .u64 p),.pv (.int .u64 i),.pv (.int .u64 u),.pv (.bool h),.fr 86 (rowsP ps),.fr 61 (rowsV vs),.pv (.bool sl)]):=rfl
theorem c_Cop:ConT Try.prog 18 GCop:=by
 intro ys φ r h hφ
 unfold GCop at h
 split at h
 ·obtain⟨ps,hp,h⟩:=Option.bind_eq_some_iff.1 h
  obtain⟨vs,hv,h⟩:=Option.map_eq_some_iff.1 h
  cases h
  cases dec_rowsP_inv hp
  cases dec_rowsV_inv hv
  obtain⟨h1,h2⟩:=hφ
  have h3:ps.length≤100000000:=by omega
  have h4:vs.length≤1000000:=by omega
  refine con_of (tab_cons c_pClone (tab_cons c_ClV tab_nil)) (by kernel_rfl) fn18 (by simp) ?_
  unfold body18
  simp (config := { maxSteps := 3000000 }) [h3,h4]
 ·cases h
def partV (l:List Int):PV:=.ro (l.map fun n=>[.int .u8 n])
def kindsV:List (PV × PV):=[(.int .u8 1,partV [0,1]),(.int .u8 2,partV [0,1]),(.int .u8 3,partV [0]),(.int .u8 4,partV [0,2,4,5]),(.int .u8 5,partV [2,1]),(.int .u8 6,partV [2]),(.int .u8 7,partV []),(.int .u8 8,partV [3]),(.int .u8 9,partV [6]),(.int .u8 10,partV [6]),(.int .u8 11,partV [6,7])]
def GKinds:List AV→Option (Prop × AV)
 | []=>some (True,.pv (.mv kindsV))
 | _=>none
@[simp] theorem GKinds_eq:GKinds []=some (True,.pv (.mv kindsV)):=rfl
theorem c_Kinds:ConT Try.prog 39 GKinds:=by
 intro ys φ r h hφ
 unfold GKinds at h
 split at h
 ·cases h
  refine con_of tab_nil (by kernel_rfl) fn39 (by simp) ?_
  unfold body39
  simp (config := { maxSteps := 3000000 }) [kindsV,partV]
 ·cases h
def fnV (f:Nat):PV:=.val (.func (.func f) #[] #[])
def doesV:List (PV × PV):=[(.int .u8 1,fnV 31),(.int .u8 2,fnV 32),(.int .u8 3,fnV 33),(.int .u8 4,fnV 34),(.int .u8 5,fnV 35),(.int .u8 6,fnV 36),(.int .u8 7,fnV 37),(.int .u8 8,fnV 38)]
def GDoes:List AV→Option (Prop × AV)
 | []=>some (True,.pv (.mv doesV))
 | _=>none
@[simp] theorem GDoes_eq:GDoes []=some (True,.pv (.mv doesV)):=rfl
theorem c_Does:ConT Try.prog 19 GDoes:=by
 intro ys φ r h hφ
 unfold GDoes at h
 split at h
 ·cases h
  refine con_of tab_nil (by kernel_rfl) fn19 (by simp) ?_
  unfold body19
  simp (config := { maxSteps := 3000000 }) [doesV,fnV]
 ·cases h
def stC (acc:List Int) (x:Int):List Int:=if acc.getLast? = some x then acc else acc++[x]
def cmpU (l:List Int):List Int:=l.foldl stC []
theorem cmpU_snoc (l:List Int) (x:Int):cmpU (l++[x])=stC (cmpU l) x:=by simp [cmpU,List.foldl_append]
theorem stC_last (acc:List Int) (x:Int):(stC acc x).getLast? = some x:=by
 unfold stC
 split
 ·assumption
 ·simp
theorem cmpU_take {l:List Int}{i:Nat} (h:i < l.length):cmpU (l.take (i+1))=stC (cmpU (l.take i)) l[i]:=by
 rw [List.take_succ_eq_append_getElem h,cmpU_snoc]
theorem cmpU_last {l:List Int}{i:Nat} (h:i < l.length):(cmpU (l.take (i+1))).getLast? = some l[i]:=by
 rw [cmpU_take h,stC_last]
theorem stC_len (acc:List Int) (x:Int):(stC acc x).length≤acc.length+1:=by
 unfold stC;split<;>simp
theorem cmpU_len (l:List Int):∀i,(cmpU (l.take i)).length≤i
 | 0=>by simp [cmpU]
 |i+1=>by
  by_cases h:i < l.length
  ·rw [cmpU_take h];have:=stC_len (cmpU (l.take i)) l[i];have:=cmpU_len l i;omega
  ·rw [List.take_of_length_le (by omega)]
   have:=cmpU_len l i
   rw [List.take_of_length_le (by omega)]at this
   omega
def srtU (l:List Int):List Int:=l.mergeSort fun x y=>decide (x≤y)
def versL (l:List Int):List Int:=cmpU (srtU l)
theorem versL_len (l:List Int):(versL l).length≤l.length:=by
 have:=cmpU_len (srtU l) (srtU l).length
 rw [List.take_of_length_le (Nat.le_refl _)]at this
 unfold versL;simpa [srtU]using this
theorem rowsN_set (l:List Int) (i:Nat) (x:Int):(rowsN l).set i [.int .u64 x]=rowsN (l.set i x):=by
 unfold rowsN
 rw [List.map_set]
 rfl
theorem rowsN_one (l:List Int):∀r∈rowsN l,r.length=1:=by
 intro r hr
 simp only [rowsN,List.mem_map]at hr
 obtain⟨c,_,rfl⟩:=hr
 rfl
noncomputable def GCmp:List AV→Option (Prop × AV)
 | [.fr e a]=>if e=23 then (dec rowN a).map fun l=>(l.length≤1000000,.fr 23 (rowsN (cmpU l))) else none
 | _=>none
@[simp] theorem GCmp_eq (e:TypeId) (a:List (List PV)):GCmp [.fr e a]=if e=23 then (dec rowN a).map fun l=>(l.length≤1000000,.fr 23 (rowsN (cmpU l))) else none:=rfl
theorem c_Cmp:ConTU Try.prog 77 GCmp:=by
 intro ys φ r h hφ
 unfold GCmp at h
 split at h
 ·rename_i e ra
  split at h
  ·rename_i he
   subst he
   obtain⟨a,ha,h⟩:=Option.map_eq_some_iff.1 h
   cases h
   cases dec_rowsN_inv ha
   have hl6:a.length≤1000000:=hφ
   refine con_ofU tab_nil (by kernel_rfl) fn77 (by simp) (by simp [resOK,res1,resC]) (by simp) ?_
   unfold body77
   by_cases h2:a.length < 2
   ·have h2':(a.length:Int) < 2:=by omega
    have hc:cmpU a=a:=by
     match a,h2 with
     | [],_=>rfl
     | [x],_=>rfl
    simp (config := { maxSteps := 3000000 }) [h2,h2',hc]
   ·have h2':¬ (a.length:Int) < 2:=by omega
    have w1:IntKind.i64.wrap 1=1:=wrap_i64 (by omega)
    apply vwp_cut
    ·simp (config := { maxSteps := 3000000 })
     exact⟨rfl,rfl⟩
    apply vwp_cut
    ·simp (config := { maxSteps := 3000000 }) [h2,h2']
     exact⟨rfl,rfl⟩
    rw [vwp_seq]
    simp (config := { maxSteps := 3000000 })
    refine vwp_loop (fun i:Nat=>1≤i∧i≤a.length∧cmpU (a.take i)=a.take i) (fun i=>⟨[(0,.own 998),(3,.pv (.int .i64 i))],[(998,.arr 23 (rowsN a))]⟩) (fun i=>a.length - i) [] 1 ⟨by omega,by omega,by cases a with
     |nil=>rfl
     |cons x a=>rfl⟩ ?_ ?_
    ·simp [w1]
    ·rintro i ⟨hi1,hi2,hi3⟩
     have w2:IntKind.i64.wrap ((i:Int)+1)=(i:Int)+1:=wrap_i64 (by omega)
     by_cases hlt:i < a.length
     ·obtain⟨p,rfl⟩:∃p,i=p+1:=⟨i - 1,by omega⟩
      have hpl:p < a.length:=by omega
      have w3:IntKind.i64.wrap (p:Int)=(p:Int):=wrap_i64 (by omega)
      have r1:rowAt (rowsN a) ((p:Int)+1)=[.int .u64 a[p+1]]:=by have:=rowsN_at hlt;simpa using this
      have r2:=rowsN_at hpl
      have q1:(0:Int)≤(p:Int)+1:=by omega
      have q2:(p:Int)+1 < a.length:=by omega
      have q3:(p:Int) < a.length:=by omega
      have hla:=cmpU_last hpl
      by_cases hq:a[p+1]=a[p]
      ·apply vwp_cut
       ·simp (config := { maxSteps := 3000000 }) [hlt,q2]
        exact⟨rfl,rfl⟩
       rw [vwp_seq]
       rw [vwp_block]
       apply vwp_cut
       ·simp (config := { maxSteps := 3000000 }) [w3,r1,r2,q1,q2,q3,hq]
        exact⟨hpl,rfl,rfl⟩
       apply vwp_cT rfl
       apply vwp_cut
       ·simp (config := { maxSteps := 3000000 }) [q1,q2]
        exact⟨⟨by omega,rowsN_one a⟩,rfl,rfl⟩
       rw [vwp_seq]
       apply vwp_cut
       ·simp (config := { maxSteps := 3000000 })
        exact⟨rfl,rfl⟩
       rw [vwp_block]
       obtain⟨i,hi⟩:∃i,i=p+1:=⟨_,rfl⟩
       have hst:cmpU (a.take (i+1))=a.take i:=by
        subst hi
        rw [cmpU_take hlt,stC,if_pos (by rw [hla,hq]),hi3]
       refine vwp_loop (fun x:Nat × Nat × List Int=>1≤x.2.1∧x.1 < i+x.2.1∧i+x.2.1≤a.length∧x.2.2.length=a.length∧x.2.2.take x.1=cmpU (a.take (i+x.2.1))∧x.2.2.drop (i+x.2.1 - 1)=a.drop (i+x.2.1 - 1))
        (fun x=>⟨[(0,.own 998),(3,.pv (.int .i64 x.1)),(4,.sub 998 23 i a.length),(5,.pv (.int .i64 x.2.1))],[(998,.arr 23 (rowsN x.2.2))]⟩) (fun x=>a.length - x.2.1) [] (i,1,a) ?_ ?_ ?_
       ·exact⟨Nat.le_refl _,by show i < i+1;omega,by show i+1≤a.length;omega,rfl,hst.symm,rfl⟩
       ·simp
        omega
       ·rintro⟨k,j,b⟩ ⟨h1,h3,h4,h5,h6,h7⟩
        dsimp only at h1 h3 h4 h5 h6 h7
        obtain⟨m,hm⟩:∃m,m=i+j - 1:=⟨_,rfl⟩
        rw [←hm]at h7
        have hm1:i+j=m+1:=by omega
        rw [hm1]at h6
        have u2:IntKind.i64.wrap ((j:Int)+1)=(j:Int)+1:=wrap_i64 (by omega)
        have u3:IntKind.i64.wrap ((k:Int)+1)=(k:Int)+1:=wrap_i64 (by omega)
        have u4:IntKind.i64.wrap ((j:Int) - 1)=(j:Int) - 1:=wrap_i64 (by omega)
        have u5:(i:Int)+((j:Int) - 1)=(m:Int):=by omega
        obtain⟨n,hn⟩:∃n,n=m+1:=⟨_,rfl⟩
        have u6:(i:Int)+(j:Int)=(n:Int):=by omega
        rw [←hn]at h6
        by_cases hjl:(j:Int) < (a.length:Int) - (i:Int)
        ·have hna:n < a.length:=by omega
         have hma:m < a.length:=by omega
         have hnb:n < b.length:=by omega
         have hmb:m < b.length:=by omega
         have hkb:k < b.length:=by omega
         have e1:=List.drop_eq_getElem_cons hmb
         have e2:=List.drop_eq_getElem_cons hma
         have e3:b[m]=a[m]∧b.drop n=a.drop n:=by
          rw [h7,e2]at e1
          injection e1 with e1 e4
          exact⟨e1.symm,by rw [hn];exact e4.symm⟩
         have e4:b[n]=a[n]:=by
          have e5:=List.drop_eq_getElem_cons hnb
          have e6:=List.drop_eq_getElem_cons hna
          rw [e3.2,e6]at e5
          injection e5 with e5 _;exact e5.symm
         have r3:=rowsN_at hnb
         have r4:=rowsN_at hmb
         have r5:=rowsN_at hkb
         rw [e4]at r3
         rw [e3.1]at r4
         have hla:(cmpU (a.take n)).getLast? = some a[m]:=by rw [hn];exact cmpU_last hma
         have hstep:=cmpU_take hna
         have hin:i+(j+1)=n+1:=by omega
         have j1:(0:Int)≤(j:Int) - 1:=by omega
         have j2:(j:Int) - 1 < (a.length:Int) - (i:Int):=by omega
         have j3:(k:Int) < (b.length:Int):=by omega
         by_cases hq2:a[n]=a[m]
         ·rw [stC,if_pos (by rw [hla,hq2])]at hstep
          simp (config := { maxSteps := 3000000 }) [hjl,u2,u3,u4,u5,u6,r3,r4,j1,j2,j3,hq2]
          exact⟨hnb,by omega,hmb,k,j+1,b,⟨by omega,by omega,by omega,h5,by rw [hin,hstep,h6],by rw [hin];exact e3.2⟩,⟨⟨rfl,by omega⟩,rfl⟩,by omega⟩
         ·rw [stC,if_neg (by rw [hla];simp;exact fun h=>hq2 h.symm)]at hstep
          simp (config := { maxSteps := 3000000 }) [hjl,u2,u3,u4,u5,u6,r3,r4,j1,j2,j3,hq2,rowsN_set,r5]
          refine⟨hnb,by omega,hmb,hnb,hkb,k+1,j+1,b.set k a[n],⟨by omega,by omega,by omega,by rw [List.length_set];exact h5,?_,?_⟩,⟨⟨by omega,by omega⟩,rfl⟩,by omega⟩
          ·rw [hin,hstep,←h6,List.take_succ_eq_append_getElem (by simp;omega)]
           simp [List.take_set_of_le]
          ·rw [hin,Nat.add_sub_cancel,List.drop_set_of_lt (by omega)]
           exact e3.2
        ·have hma:m+1=a.length:=by omega
         have h6:b.take k=cmpU a:=by rw [h6,hn,hma,List.take_length]
         have h3r:=rowsN_one b
         simp (config := { maxSteps := 3000000 }) [hjl]
         refine⟨⟨by omega,h3r⟩,⟨by omega,?_⟩,?_⟩
         ·rintro x (hx | ⟨_,rfl⟩ | hx)
          ·exact h3r x (List.mem_of_mem_take hx)
          ·rfl
          ·exact h3r x (List.mem_of_mem_drop hx)
         ·rw [List.take_append_of_le_length (by simp;omega),List.take_take,Nat.min_self,←h6]
          simp [rowsN,List.map_take]
      ·have hst:cmpU (a.take (p+1+1))=a.take (p+1+1):=by
        rw [cmpU_take hlt,stC,if_neg (by rw [hla];simp;exact fun h=>hq h.symm),hi3,←List.take_succ_eq_append_getElem hlt]
       simp (config := { maxSteps := 3000000 }) [w2,w3,r1,r2,q1,q2,q3,hq]
       exact⟨hpl,p+2,⟨by omega,by omega,hst⟩,by rw [wrap_i64 (by omega)];omega,by omega⟩
     ·have hia:i=a.length:=by omega
      subst hia
      rw [List.take_length]at hi3
      simp (config := { maxSteps := 3000000 }) [hi3]
  ·cases h
 ·cases h
noncomputable def Gnums:List AV→Option (Prop × AV)
 | [.pv (.ro a),.pv (.ro b)]=>(dec rowN a).bind fun la=>(dec rowN b).map fun lb=>(la.length≤1000000000,.pv (.bool (decide (la=lb))))
 | _=>none
@[simp] theorem Gnums_eq (a b:List (List PV)):Gnums [.pv (.ro a),.pv (.ro b)]=(dec rowN a).bind fun la=>(dec rowN b).map fun lb=>(la.length≤1000000000,.pv (.bool (decide (la=lb)))):=rfl
noncomputable def GrV:List AV→Option (Prop × AV)
 | [.pv (.ro a)]=>(dec rowP a).map fun l=>(l.length≤1000000,.fr 23 (rowsN (versL (l.map Pn.v))))
 | _=>none
@[simp] theorem GrV_eq (a:List (List PV)):GrV [.pv (.ro a)]=(dec rowP a).map fun l=>(l.length≤1000000,.fr 23 (rowsN (versL (l.map Pn.v)))):=rfl
noncomputable def GSp:List AV→Option (Prop × AV)
 | [.tup [.agg [.fr e a]]]=>if e=86 then (dec rowP a).map fun l=>(l.length≤1000000,.clo 0 [.tup [],.agg [.fr 86 (rowsP (l.map fun _=>⟨77,77,0⟩))]]) else none
 | _=>none
@[simp] theorem GSp_eq (e:TypeId) (a:List (List PV)):GSp [.tup [.agg [.fr e a]]]=if e=86 then (dec rowP a).map fun l=>(l.length≤1000000,.clo 0 [.tup [],.agg [.fr 86 (rowsP (l.map fun _=>⟨77,77,0⟩))]]) else none:=rfl
end Go.Proofs.Ytlmkcmfmfahcfaa.Ab
namespace Go.Proofs.Ytlmkcmfmfahcfaa.Ab
open Go Go.RowKit Go.Sort R
noncomputable def Gnan:List AV→Option (Prop × AV)
 | [.pv (.int .u64 a)]=>some (True,.pv (.bool false))
 | _=>none
@[simp] theorem Gnan_eq (a:Int):Gnan [.pv (.int .u64 a)]=some (True,.pv (.bool false)):=rfl
theorem c_nan:ConT Try.prog 100 Gnan:=by
 intro ys φ r h hφ
 unfold Gnan at h
 split at h
 ·cases h
  refine con_of tab_nil (by kernel_rfl) fn100 (by simp) ?_
  unfold body100
  simp (config := { maxSteps := 3000000 })
 ·cases h
noncomputable def Gless:List AV→Option (Prop × AV)
 | [.pv (.int k a),.pv (.int m b)]=>some (k=.u64∧m=.u64,.pv (.bool (ltInt a b)))
 | _=>none
@[simp] theorem Gless_eq (k m:IntKind) (a b:Int):Gless [.pv (.int k a),.pv (.int m b)]=some (k=.u64∧m=.u64,.pv (.bool (ltInt a b))):=rfl
theorem c_less:ConT Try.prog 90 Gless:=by
 intro ys φ r h hφ
 unfold Gless at h
 split at h
 ·cases h
  obtain⟨rfl,rfl⟩:=hφ
  refine con_of (tab_cons c_nan tab_nil) (by kernel_rfl) fn90 (by simp) ?_
  unfold body90
  simp (config := { maxSteps := 3000000 }) [ltInt]
 ·cases h
def rA (d:Array Int):List (List PV):=rowsN d.toList
@[simp] theorem rA_length (d:Array Int):(rA d).length=d.size:=by simp [rA]
def gA (d:Array Int) (i:Nat):Int:=d[i]!
theorem rA_at {d:Array Int}{i:Nat} (h:i < d.size):rowAt (rA d) (i:Int)=[.int .u64 (gA d i)]:=by
 have:=rowsN_at (l:=d.toList) (i:=i) (by simpa using h)
 unfold rA gA
 rw [this,getElem!_pos d i h]
 rfl
@[simp] theorem rA_set (d:Array Int) (i:Nat) (x:Int):(rA d).set i [.int .u64 x]=rA (d.setIfInBounds i x):=by
 unfold rA rowsN
 rw [Array.toList_setIfInBounds,List.map_set]
 rfl
theorem rA_of (l:List Int):rowsN l=rA l.toArray:=rfl
theorem size_swp (d:Array Int) (i j:Nat):(swp d i j).size=d.size:=by simp [swp]
noncomputable def Ginp (F:Array Int→Nat→Nat→Array Int):List AV→Option (Prop × AV)
 | [.tup [.fr e a],.pv (.int .i64 p),.pv (.int .i64 q)]=>if e=23 then (dec rowN a).map fun l=>(0≤p∧p≤q∧q≤(l.length:Int)∧l.length≤1000000,.clo 0 [.tup [],.fr 23 (rA (F l.toArray p.toNat q.toNat))]) else none
 | _=>none
theorem dec_rA (d:Array Int):dec rowN (rA d)=some d.toList:=dec_rowsN _
@[simp] theorem Ginp_eq (F:Array Int→Nat→Nat→Array Int) (e:TypeId) (d:Array Int) (p q:Int):Ginp F [.tup [.fr e (rA d)],.pv (.int .i64 p),.pv (.int .i64 q)]=if e=23 then some (0≤p∧p≤q∧q≤(d.size:Int)∧d.size≤1000000,.clo 0 [.tup [],.fr 23 (rA (F d p.toNat q.toNat))]) else none:=by
 show (if e=23 then (dec rowN (rA d)).map _ else none)=_
 rw [dec_rA]
 simp
theorem Ginp_inv {F:Array Int→Nat→Nat→Array Int}{ys:List AV}{φ:Prop}{r:AV} (h:Ginp F ys=some (φ,r)):∃(d:Array Int) (p q:Int),ys=[.tup [.fr 23 (rA d)],.pv (.int .i64 p),.pv (.int .i64 q)]∧φ=(0≤p∧p≤q∧q≤(d.size:Int)∧d.size≤1000000)∧r=.clo 0 [.tup [],.fr 23 (rA (F d p.toNat q.toNat))]:=by
 unfold Ginp at h
 split at h
 ·split at h
  ·rename_i e
   subst e
   obtain⟨l,hl,h⟩:=Option.map_eq_some_iff.1 h
   cases h
   cases dec_rowsN_inv hl
   exact⟨l.toArray,_,_,by rw [rA_of],by simp,rfl⟩
  ·cases h
 ·cases h
theorem insInner_size (a:Nat):∀(j:Nat) (d:Array Int),(insInner ltInt a j d).size=d.size
 | 0,d=>rfl
 |j+1,d=>by
  unfold insInner
  split
  ·rw [insInner_size a j,size_swp]
  ·rfl
theorem c_insG:ConTG Try.prog 84 (Ginp (insertionSort ltInt)):=by
 intro ys φ r h hφ
 obtain⟨d,p,q,rfl,rfl,rfl⟩:=Ginp_inv h
 obtain⟨h1,h2,h3,h4⟩:=hφ
 obtain⟨a,rfl⟩:∃a:Nat,p=a:=⟨p.toNat,by omega⟩
 obtain⟨b,rfl⟩:∃b:Nat,q=b:=⟨q.toNat,by omega⟩
 rw [Int.toNat_natCast,Int.toNat_natCast]
 refine con_ofG (tab_cons c_less tab_nil) (by kernel_rfl) fn84 (by simp) rfl (by simp) ?_
 unfold body84
 have w0:IntKind.i64.wrap ((a:Int)+1)=(a:Int)+1:=wrap_i64 (by omega)
 generalize hW:insertionSort ltInt d a b=W
 simp (config := { maxSteps := 3000000 }) [w0]
 refine vwp_loop (fun x:Nat × Array Int=>(a+1≤x.1∧x.1≤max (a+1) b)∧x.2.size=d.size∧insOuter ltInt a b x.1 x.2=W) (fun x=>⟨[(0,.own 999),(1,.pv (.int .i64 (a:Int))),(2,.pv (.int .i64 (b:Int))),(6,.pv (.int .i64 (x.1:Int)))],[(999,.arr 23 (rA x.2))]⟩) (fun x=>max (a+1) b - x.1) [] (a+1,d) ⟨⟨Nat.le_refl _,Nat.le_max_left _ _⟩,rfl,hW⟩ ?_ ?_
 ·simp
 ·rintro⟨i,D⟩ ⟨⟨hi1,hi2⟩,hD,hI⟩
  have hi1:a+1≤i:=hi1
  have hi2:i≤max (a+1) b:=hi2
  have hD:D.size=d.size:=hD
  have hI:insOuter ltInt a b i D=W:=hI
  have w2:IntKind.i64.wrap ((i:Int)+1)=(i:Int)+1:=wrap_i64 (by omega)
  by_cases hlt:i < b
  ·unfold insOuter at hI
   rw [if_pos hlt]at hI
   obtain⟨T,hT⟩:∃T,T=insInner ltInt a i D:=⟨_,rfl⟩
   rw [←hT]at hI
   have hTs:T.size=d.size:=by rw [hT,insInner_size,hD]
   apply vwp_cut
   ·simp (config := { maxSteps := 3000000 }) [hlt]
    exact⟨rfl,rfl⟩
   rw [vwp_seq]
   rw [vwp_block]
   apply vwp_cut
   ·simp (config := { maxSteps := 3000000 })
    exact⟨rfl,rfl⟩
   rw [vwp_block]
   refine vwp_loop (fun y:Nat × Array Int=>(a≤y.1∧y.1≤i)∧y.2.size=d.size∧insInner ltInt a y.1 y.2=T) (fun y=>⟨[(0,.own 999),(1,.pv (.int .i64 (a:Int))),(2,.pv (.int .i64 (b:Int))),(6,.pv (.int .i64 (i:Int))),(7,.pv (.int .i64 (y.1:Int)))],[(999,.arr 23 (rA y.2))]⟩) (fun y=>y.1) [] (i,D) ⟨⟨by omega,Nat.le_refl _⟩,hD,hT.symm⟩ ?_ ?_
   ·simp
   ·rintro⟨j,E⟩ ⟨⟨hj1,hj2⟩,hE,hJ⟩
    have hj1:a≤j:=hj1
    have hj2:j≤i:=hj2
    have hE:E.size=d.size:=hE
    have hJ:insInner ltInt a j E=T:=hJ
    have q3:(j:Int) < (E.size:Int):=by omega
    have r1:=rA_at (d:=E) (i:=j) (by omega)
    cases j with
    |zero=>
     have ha0:a=0:=by omega
     subst ha0
     have hJ:E=T:=hJ
     subst hJ
     have w3:IntKind.i64.wrap (-1) = -1:=wrap_i64 (by omega)
     have r2:rowAt (rA E) (-1)=[.int .u64 (gA E 0)]:=rA_at (d:=E) (i:=0) (by omega)
     have r1:rowAt (rA E) 0=[.int .u64 (gA E 0)]:=r1
     simp (config := { maxSteps := 3000000 }) [w3,r1,r2,w2]
     exact⟨i+1,E,⟨by omega,hE,hI⟩,⟨by omega,rfl⟩,by omega⟩
    |succ k=>
     have w3:IntKind.i64.wrap ((k:Int)+1 - 1)=(k:Int):=by rw [wrap_i64 (by omega)];omega
     have w4:IntKind.i64.wrap (k:Int)=(k:Int):=wrap_i64 (by omega)
     have r1:rowAt (rA E) ((k:Int)+1)=[.int .u64 (gA E (k+1))]:=by simpa using r1
     have r2:=rA_at (d:=E) (i:=k) (by omega)
     have q2:(0:Int)≤(k:Int)+1:=by omega
     have q3:(k:Int)+1 < (E.size:Int):=by omega
     have q4:(k:Int) < (E.size:Int):=by omega
     unfold insInner at hJ
     by_cases hja:a < k+1
     ·have q1:(a:Int) < (k:Int)+1:=by omega
      cases hl:ltInt E[k+1]! E[k]! with
      |true=>
       have hl2:ltInt (gA E (k+1)) (gA E k)=true:=hl
       rw [hl,if_pos (by simp;omega)]at hJ
       have r3:=rA_at (d:=E.setIfInBounds (k+1) (gA E k)) (i:=k) (by rw [Array.size_setIfInBounds];omega)
       simp (config := { maxSteps := 3000000 }) [w3,w4,r1,r2,r3,q1,q2,q3,q4,hl2]
       exact⟨by omega,k,swp E (k+1) k,⟨by omega,by rw [size_swp,hE],hJ⟩,⟨rfl,rfl⟩,by omega⟩
      |false=>
       have hl2:ltInt (gA E (k+1)) (gA E k)=false:=hl
       rw [hl,if_neg (by simp)]at hJ
       subst hJ
       simp (config := { maxSteps := 3000000 }) [w3,w4,r1,r2,q1,q2,q3,q4,hl2,w2]
       exact⟨by omega,i+1,E,⟨by omega,hE,hI⟩,⟨by omega,rfl⟩,by omega⟩
     ·have q1:¬ (a:Int) < (k:Int)+1:=by omega
      rw [if_neg (by simp;omega)]at hJ
      subst hJ
      simp (config := { maxSteps := 3000000 }) [w3,w4,r1,r2,q1,q2,q3,q4,w2]
      exact⟨i+1,E,⟨by omega,hE,hI⟩,⟨by omega,rfl⟩,by omega⟩
  ·unfold insOuter at hI
   rw [if_neg hlt]at hI
   subst hI
   simp (config := { maxSteps := 3000000 }) [hlt]
end Go.Proofs.Ytlmkcmfmfahcfaa.Ab
