/- Chapter 15: a row of versions turned about. -/
import Derived.Test.YtlmkcmfmfahcfaaZ12
import Derived.WalkKit
set_option linter.unusedVariables false
set_option linter.unusedSimpArgs false
set_option linter.unnecessarySimpa false
set_option maxHeartbeats 40000000
set_option maxRecDepth 100000
namespace Go.Proofs.Ytlmkcmfmfahcfaa.Ab
open Go Go.RowKit R
def revI (l m:List Vn) (i:Nat):Prop:=m.length=l.length∧∀k (h:k < m.length) (h':k < l.length) (h'':l.length - 1 - k < l.length),(k < i∨l.length - i≤k→m[k]=l[l.length - 1 - k])∧(i≤k∧k < l.length - i→m[k]=l[k])
theorem revI_zero (l:List Vn):revI l l 0:=⟨rfl,fun k h h' h''=>⟨fun h1=>by omega,fun _=>rfl⟩⟩
theorem revI_end {l m:List Vn}{i:Nat} (h:revI l m i) (hi:l.length≤2*i+1):m=l.reverse:=by
 obtain⟨hl,hk⟩:=h
 apply List.ext_getElem
 ·simp [hl]
 ·intro k h1 h2
  rw [List.getElem_reverse]
  have h3:=hk k h1 (by omega) (by omega)
  by_cases hc:k < i∨l.length - i≤k
  ·exact h3.1 hc
  ·have:=h3.2 (by omega)
   rw [this]
   congr 1
   omega
theorem revI_step {l m:List Vn}{i:Nat} (h:revI l m i) (hi : 2*i+1 < l.length) (h1:i < m.length) (h2:l.length - 1 - i < m.length):revI l ((m.set i m[l.length - 1 - i]).set (l.length - 1 - i) m[i]) (i+1):=by
 obtain⟨hl,hk⟩:=h
 refine⟨by simp [hl],fun k h3 h4 h5=>?_⟩
 have ha:=(hk i h1 (by omega) (by omega)).2 (by omega)
 have hb:=(hk (l.length - 1 - i) h2 (by omega) (by omega)).2 (by omega)
 simp only [List.getElem_set]
 constructor
 ·intro hc
  by_cases e1:l.length - 1 - i=k
  ·rw [if_pos e1,ha]
   congr 1
   omega
  ·rw [if_neg e1]
   by_cases e2:i=k
   ·subst e2
    rw [if_pos rfl,hb]
   ·rw [if_neg e2]
    exact (hk k (by omega) h4 h5).1 (by omega)
 ·intro hc
  rw [if_neg (by omega),if_neg (by omega)]
  exact (hk k (by omega) h4 h5).2 (by omega)
noncomputable def GRev:List AV→Option (Prop × AV)
 | [.tup [.fr e a]]=>if e=61 then (dec rowV a).map fun l=>(l.length≤1000000,.clo 0 [.tup [],.fr 61 (rowsV l.reverse)]) else none
 | _=>none
@[simp] theorem GRev_eq (e:TypeId) (a:List (List PV)):GRev [.tup [.fr e a]]=if e=61 then (dec rowV a).map fun l=>(l.length≤1000000,.clo 0 [.tup [],.fr 61 (rowsV l.reverse)]) else none:=rfl
theorem c_Rev:ConTU Try.prog 81 GRev:=by
 intro ys φ r h hφ
 unfold GRev at h
 split at h
 ·rename_i e ra
  split at h
  ·rename_i hef
   subst hef
   obtain⟨a,ha,h⟩:=Option.map_eq_some_iff.1 h
   cases h
   cases dec_rowsV_inv ha
   have w0:IntKind.i64.wrap ((a.length:Int) - 1)=(a.length:Int) - 1:=wrap_i64 (by omega)
   refine con_ofU tab_nil (by kernel_rfl) fn81 (by simp) (by simp [resOK,res1,resC]) (by simp) ?_
   unfold body81
   simp (config := { maxSteps := 3000000 }) [w0]
   refine vwp_loop (fun x:Nat × List Vn=>revI a x.2 x.1∧2*x.1≤a.length+1) (fun x=>⟨[(0,.own 999),(2,.pv (.int .i64 x.1)),(3,.pv (.int .i64 ((a.length:Int) - 1 - x.1)))],[(999,.arr 61 (rowsV x.2))]⟩) (fun x=>a.length - x.1) [] (0,a) ⟨revI_zero a,by simp⟩ ?_ ?_
   ·simp
   ·rintro⟨i,m⟩ ⟨hm,h2⟩
    dsimp only at hm h2
    have hml:=hm.1
    have w1:IntKind.i64.wrap ((i:Int)+1)=(i:Int)+1:=wrap_i64 (by omega)
    have w2:IntKind.i64.wrap ((a.length:Int) - 1 - i - 1)=(a.length:Int) - 1 - i - 1:=wrap_i64 (by omega)
    by_cases hlt:(i:Int) < (a.length:Int) - 1 - i
    ·have hi:i < m.length:=by omega
     have hj:a.length - 1 - i < m.length:=by omega
     have hst:=revI_step hm (by omega) hi hj
     have r1:=rowsV_at hi
     have r2:=rowsV_at hj
     have hc:((a.length - 1 - i:Nat):Int)=(a.length:Int) - 1 - i:=by omega
     rw [hc]at r2
     have b1 : 0≤(a.length:Int) - 1 - i:=by omega
     have b2:(a.length:Int) - 1 - i < m.length:=by omega
     have b3:(i:Int)≤(a.length:Int) - 1:=by omega
     have r3:rowAt ((rowsV m).set i [.int .u64 m[a.length - 1 - i].n,.int .u64 m[a.length - 1 - i].b,.int .u64 m[a.length - 1 - i].p,.int .u64 m[a.length - 1 - i].i,.int .u64 m[a.length - 1 - i].s,.int .u64 m[a.length - 1 - i].z,.int .u64 m[a.length - 1 - i].m,.str m[a.length - 1 - i].t,.bool m[a.length - 1 - i].inl,.bool m[a.length - 1 - i].hid]) ((a.length:Int) - 1 - i)=[.int .u64 m[a.length - 1 - i].n,.int .u64 m[a.length - 1 - i].b,.int .u64 m[a.length - 1 - i].p,.int .u64 m[a.length - 1 - i].i,.int .u64 m[a.length - 1 - i].s,.int .u64 m[a.length - 1 - i].z,.int .u64 m[a.length - 1 - i].m,.str m[a.length - 1 - i].t,.bool m[a.length - 1 - i].inl,.bool m[a.length - 1 - i].hid]:=by
      rw [←r2]
      unfold rowAt
      rw [show ((a.length:Int) - 1 - i).toNat=a.length - 1 - i from by omega,List.getD_eq_getElem?_getD,List.getD_eq_getElem?_getD,List.getElem?_set_ne (by omega)]
     have hrows:((rowsV m).set i (rowV m[a.length - 1 - i])).set (a.length - 1 - i) (rowV m[i])=rowsV ((m.set i m[a.length - 1 - i]).set (a.length - 1 - i) m[i]):=by
      simp only [rowsV,List.map_set]
     simp only [rowV]at hrows
     simp (config := { maxSteps := 3000000 }) [w1,w2,hlt,r1,r2,hi,b1,b2,b3,r3]
     exact⟨i+1,_,⟨hst,by omega⟩,⟨⟨by omega,by omega⟩,hrows⟩,by omega⟩
    ·have he:=revI_end hm (by omega)
     simp (config := { maxSteps := 3000000 }) [hlt,he]
  ·cases h
 ·cases h
def atV (l:List Vn) (i:Nat):Vn:=(l[i]?).getD v0
theorem atV_eq {l:List Vn}{i:Nat} (h:i < l.length):atV l i=l[i]:=by unfold atV;rw [List.getElem?_eq_getElem h];rfl
def planF (l:List Vn):Nat→Nat→List Vn
 | 0,i=>[atV l i]
 |f+1,i=>if baseV (atV l i)=0 then [atV l i] else planF l f (ixV l (baseV (atV l i))).toNat++[atV l i]
def planV (l:List Vn) (n:Int):List Vn × Int:=
 if rightV l=false then ([],2) else match gtVn l n with
  |none=>([],150)
  |some v=>(planF l l.length (ixV l v.n).toNat,0)
theorem base_at {l:List Vn} (hr:rightV l=true) {i:Nat} (h:i < l.length) (hb:baseV l[i]≠0):∃j,∃hj:j < i,ixV l (baseV l[i])=(j:Int)∧l[j].n=baseV l[i]:=by
 have hok:=(rightV_iff l).1 hr i h
 unfold okAt at hok
 rw [List.getElem?_eq_getElem h]at hok
 simp only [Option.getD_some,Bool.and_eq_true,Bool.or_eq_true,decide_eq_true_eq]at hok
 have h0:=hok.2.resolve_left hb
 rcases ixV_cases (l.take i) (baseV l[i]) with ⟨j,hj,h1,h2,h3⟩ | ⟨h1,_⟩
 ·rw [List.length_take]at hj
  have hji:j < i:=by omega
  have hjl:j < l.length:=by omega
  rw [List.getElem_take]at h2
  refine⟨j,hji,ixV_at hjl h2 fun v hv=>h3 v ?_,h2⟩
  rwa [List.take_take,Nat.min_eq_left (by omega)]
 ·omega
theorem right_ne {l:List Vn} (hr:rightV l=true) {i j:Nat} (hi:i < l.length) (hj:j < l.length) (h:l[i].n=l[j].n):i=j:=by
 rcases Nat.lt_trichotomy i j with hlt | he | hlt
 ·have h1:=right_mono hr (i:=i) (j - 1 - i) (by omega)
  have e1:i+(j - 1 - i)=j - 1:=by omega
  simp only [e1]at h1
  have h2:=right_step hr (i:=j - 1) (by omega)
  have e2:j - 1+1=j:=by omega
  simp only [e2]at h2
  omega
 ·exact he
 ·have h1:=right_mono hr (i:=j) (i - 1 - j) (by omega)
  have e1:j+(i - 1 - j)=i - 1:=by omega
  simp only [e1]at h1
  have h2:=right_step hr (i:=i - 1) (by omega)
  have e2:i - 1+1=i:=by omega
  simp only [e2]at h2
  omega
theorem ix_self {l:List Vn} (hr:rightV l=true) {i:Nat} (h:i < l.length):ixV l l[i].n=i:=by
 rcases ixV_cases l l[i].n with ⟨j,hj,h1,h2,_⟩ | ⟨_,h2⟩
 ·rw [h1,right_ne hr hj h h2]
 ·exact absurd rfl (h2 l[i] (List.getElem_mem h))
theorem get_at {l:List Vn}{n:Int}{v:Vn} (h:gtVn l n=some v):∃i,∃h:i < l.length,v=l[i]∧v.n=n:=by
 unfold gtVn at h
 have h1:=List.mem_of_find?_eq_some h
 have h2:=List.find?_some h
 obtain⟨i,hi,rfl⟩:=List.getElem_of_mem (List.mem_filter.1 h1).1
 exact⟨i,hi,rfl,by simpa using h2⟩
noncomputable def GPlan (e:TypeId):List AV→Option (Prop × AV)
 | [.pv (.ro a),.pv (.int .u64 n)]=>(dec rowV a).map fun l=>(l.length≤100000∧(∀v∈l,okV v),.tup [.fr e (rowsV (planV l n).1),.pv (.int .i64 (planV l n).2)])
 | _=>none
@[simp] theorem GPlan_eq (e:TypeId) (a:List (List PV)) (n:Int):GPlan e [.pv (.ro a),.pv (.int .u64 n)]=(dec rowV a).map fun l=>(l.length≤100000∧(∀v∈l,okV v),.tup [.fr e (rowsV (planV l n).1),.pv (.int .i64 (planV l n).2)]):=rfl
theorem c_Plan:ConT Try.prog 73 (GPlan 61):=by
 intro ys φ r h hφ
 unfold GPlan at h
 split at h
 ·rename_i ra n
  obtain⟨a,ha,h⟩:=Option.map_eq_some_iff.1 h
  cases h
  cases dec_rowsV_inv ha
  obtain⟨hl5,hov⟩:=hφ
  have hl9:a.length≤1000000000:=by omega
  have hl6:a.length≤1000000:=by omega
  have fl:∀l,flatRows (rowsV l):=flat_rowsV
  refine con_of (tab_cons c_Rv (tab_cons c_Gv (tab_cons c_base (tab_cons c_of (tab_consU (p:=0) (k:=999) c_Rev (by kernel_rfl) tab_nil))))) (by kernel_rfl) fn73 (by simp) ?_
  unfold body73
  cases hr:rightV a with
  |false=>
   have hp:planV a n=([],2):=by simp [planV,hr]
   simp (config := { maxSteps := 3000000 }) [hl9,hr,hp]
  |true=>
  cases hg:gtVn a n with
  |none=>
   have hp:planV a n=([],150):=by simp [planV,hr,hg]
   simp (config := { maxSteps := 3000000 }) [hl9,hl6,hr,hp,hg,cellsV,v0]
  |some v=>
  obtain⟨i0,hi0,hv,hvn⟩:=get_at hg
  have hp:planV a n=(planF a a.length i0,0):=by
   simp only [planV,hr,hg]
   rw [if_neg (by simp),hv,ix_self hr hi0,Int.toNat_natCast]
  rw [hp]
  generalize hW:planF a a.length i0=W
  apply vwp_cut
  ·simp (config := { maxSteps := 3000000 })
   exact⟨rfl,rfl⟩
  apply vwp_cut
  ·simp (config := { maxSteps := 3000000 }) [hl9,hr]
   exact⟨rfl,rfl⟩
  apply vwp_cut
  ·simp (config := { maxSteps := 3000000 }) [hl9,hl6,hg,cellsV]
   exact⟨rfl,rfl⟩
  apply vwp_cut
  ·simp (config := { maxSteps := 3000000 })
   exact⟨rfl,rfl⟩
  simp (config := { maxSteps := 3000000 })
  refine vwp_loop (fun x:Nat × Nat × List Vn=>x.1 < a.length∧x.1≤x.2.1∧x.2.2.length+x.1≤a.length∧W=planF a x.2.1 x.1++x.2.2.reverse)
   (fun x=>⟨[(0,.pv (.ro (rowsV a))),(6,.ptr 6 0),(8,.own 8)],[(6,.box (cellsV (atV a x.1))),(8,.arr 61 (rowsV x.2.2))]⟩) (fun x=>x.1) [] (i0,a.length,[]) ?_ ?_ ?_
  ·exact⟨hi0,by show i0≤a.length;omega,by simp;omega,by simp [hW]⟩
  ·simp [cellsV,atV_eq hi0,hv]
  ·rintro⟨i,f,o⟩ ⟨hi,hf,hol,hWe⟩
   dsimp only at hi hf hol hWe
   rw [atV_eq hi]
   have hbv:(if a[i].inl=true then 0 else a[i].b)=baseV a[i]:=rfl
   have hol6:o.length≤100000:=by omega
   have hrow:rowsV o++[[PV.int .u64 a[i].n,.int .u64 a[i].b,.int .u64 a[i].p,.int .u64 a[i].i,.int .u64 a[i].s,.int .u64 a[i].z,.int .u64 a[i].m,.str a[i].t,.bool a[i].inl,.bool a[i].hid]]=rowsV (o++[a[i]]):=by
    rw [rowsV_append];rfl
   have b1:(o.length+1)*80≤140737488355328:=by omega
   have b2:o.length≤9223372036854775806:=by omega
   by_cases hb:baseV a[i]=0
   ·have hWr:W=(o++[a[i]]).reverse:=by
     have hpl:planF a f i=[a[i]]:=by
      cases f with
      |zero=>rw [planF,atV_eq hi]
      |succ f=>rw [planF,atV_eq hi,if_pos hb]
     rw [hWe,hpl];simp
    have hon:o.length+1≤1000000:=by omega
    simp (config := { maxSteps := 3000000 }) [cellsV,hbv,hb,maxLen_eq,hrow,b1,b2,fl,hon]
    rw [hWr,List.reverse_append];rfl
   ·obtain⟨j,hji,hjx,hjn⟩:=base_at hr hi hb
    have hjl:j < a.length:=by omega
    obtain⟨f,rfl⟩:∃g,f=g+1:=⟨f - 1,by omega⟩
    have hpl:planF a (f+1) i=planF a f j++[a[i]]:=by
     rw [planF,atV_eq hi,if_neg hb,hjx,Int.toNat_natCast]
    have r1:=rowsV_at hjl
    simp (config := { maxSteps := 3000000 }) [cellsV,hbv,hb,maxLen_eq,hrow,b1,b2,hl9,hjx,r1,hjl]
    refine⟨j,f,o++[a[i]],⟨hjl,by omega,by rw [List.length_append,List.length_singleton];omega,?_⟩,⟨?_,rfl⟩,hji⟩
    ·rw [hWe,hpl];simp
    ·rw [atV_eq hjl];exact⟨rfl,rfl,rfl,rfl,rfl,rfl,rfl,rfl,rfl,rfl⟩
 ·cases h
theorem planF_len {l:List Vn}:∀(f i:Nat),(planF l f i).length≤f+1
 | 0,i=>by simp [planF]
 |f+1,i=>by
  rw [planF]
  split
  ·simp
  ·have:=planF_len (l:=l) f (ixV l (baseV (atV l i))).toNat
   simp only [List.length_append,List.length_singleton]
   omega
noncomputable def Grp (k:Nat):List AV→Option (Prop × AV)
 | [.pv (.ro a),.agg [.pv (.int .u64 n),.pv (.int .u64 b),.pv (.int .u64 p),.pv (.int .u64 i),.pv (.int .u64 s),.pv (.int .u64 z),.pv (.int .u64 m),.pv (.str t),.pv (.bool inl),.pv (.bool hid)]]=>(dec rowV a).map fun l=>(l.length≤100000∧rightV l=true∧(∀v∈l,okV v)∧∃q,q < k∧q < l.length∧atV l q=⟨n,b,p,i,s,z,m,t,inl,hid⟩,.fr 84 (rowsV (planF l l.length (ixV l n).toNat)))
 | _=>none
@[simp] theorem Grp_eq (k:Nat) (a:List (List PV)) (n b p i s z m:Int) (t:List UInt8) (inl hid:Bool):Grp k [.pv (.ro a),.agg [.pv (.int .u64 n),.pv (.int .u64 b),.pv (.int .u64 p),.pv (.int .u64 i),.pv (.int .u64 s),.pv (.int .u64 z),.pv (.int .u64 m),.pv (.str t),.pv (.bool inl),.pv (.bool hid)]]=(dec rowV a).map fun l=>(l.length≤100000∧rightV l=true∧(∀v∈l,okV v)∧∃q,q < k∧q < l.length∧atV l q=⟨n,b,p,i,s,z,m,t,inl,hid⟩,.fr 84 (rowsV (planF l l.length (ixV l n).toNat))):=rfl
def rowU (n:Int):List PV:=[.int .u64 n]
theorem rowU_inj:∀a b,rowU a=rowU b→a=b:=by
 intro a b h
 simpa [rowU]using h
def rowsU (l:List Int):List (List PV):=l.map rowU
@[simp] theorem rowsU_nil:rowsU []=[]:=rfl
@[simp] theorem rowsU_length (l:List Int):(rowsU l).length=l.length:=by simp [rowsU]
theorem rowsU_at {l:List Int}{i:Nat} (h:i < l.length):rowAt (rowsU l) (i:Int)=[.int .u64 l[i]]:=by
 simp [rowAt,rowsU,h,rowU]
@[simp] theorem dec_rowsU (l:List Int):dec rowU (rowsU l)=some l:=dec_map rowU_inj l
theorem dec_rowsU_inv {rows:List (List PV)}{l:List Int} (h:dec rowU rows=some l):rows=rowsU l:=dec_inv h
def inU (l:List Int) (n:Int):Bool:=decide (n∈l)
theorem inU_at {l:List Int}{n:Int}{i:Nat} (h:i < l.length) (hq:l[i]=n):inU l n=true:=by
 unfold inU;rw [decide_eq_true_eq,←hq];exact List.getElem_mem h
theorem inU_none {l:List Int}{n:Int} (h:∀x∈l,¬ x=n):inU l n=false:=by
 unfold inU;rw [decide_eq_false_iff_not];exact fun hn=>h n hn rfl
def ixU (l:List Int) (n:Int):Int:=if inU l n=true then (l.findIdx (fun x=>decide (x=n)):Int) else -1
theorem ixU_at {l:List Int}{n:Int}{i:Nat} (h:i < l.length) (hq:l[i]=n) (ht:∀x∈l.take i,¬ x=n):ixU l n=i:=by
 have hf:l.findIdx (fun x=>decide (x=n))=i:=by
  rw [List.findIdx_eq h]
  refine⟨by simpa using hq,fun j hj=>?_⟩
  have:l[j]∈l.take i:=by
   rw [List.mem_take_iff_getElem]
   exact⟨j,by omega,rfl⟩
  simpa using ht _ this
 unfold ixU
 rw [inU_at h hq,if_pos rfl,hf]
theorem ixU_none {l:List Int}{n:Int} (h:∀x∈l,¬ x=n):ixU l n = -1:=by
 unfold ixU;rw [inU_none h,if_neg (by simp)]
theorem ixU_in (l:List Int) (n:Int):decide (0≤ixU l n)=inU l n:=by
 unfold ixU
 cases inU l n<;>simp
noncomputable def GixU:List AV→Option (Prop × AV)
 | [.pv (.ro a),.pv (.int .u64 n)]=>(dec rowU a).map fun l=>(l.length≤1000000000,.pv (.int .i64 (ixU l n)))
 | _=>none
@[simp] theorem GixU_eq (a:List (List PV)) (n:Int):GixU [.pv (.ro a),.pv (.int .u64 n)]=(dec rowU a).map fun l=>(l.length≤1000000000,.pv (.int .i64 (ixU l n))):=rfl
theorem c_ixU:ConT Try.prog 80 GixU:=by
 intro ys φ r h hφ
 unfold GixU at h
 split at h
 ·rename_i ra n
  obtain⟨a,ha,h⟩:=Option.map_eq_some_iff.1 h
  cases h
  cases dec_rowsU_inv ha
  refine con_of tab_nil (by kernel_rfl) fn80 (by simp) ?_
  unfold body80
  simp (config := { maxSteps := 3000000 })
  refine vwp_loop (fun i:Nat=>i≤a.length∧∀x∈a.take i,¬ x=n) (fun i=>⟨[(0,.pv (.ro (rowsU a))),(1,.pv (.int .u64 n)),(7,.pv (.int .i64 a.length)),(8,.pv (.int .i64 i))],[]⟩) (fun i=>a.length - i) [] 0 (by simp) ?_ ?_
  ·simp
  ·rintro i ⟨hi,ht⟩
   have w2:IntKind.i64.wrap ((i:Int)+1)=(i:Int)+1:=wrap_i64 (by omega)
   by_cases hlt:i < a.length
   ·have r1:=rowsU_at hlt
    by_cases hq:a[i]=n
    ·have hx:=ixU_at hlt hq ht
     simp (config := { maxSteps := 3000000 }) [w2,hlt,r1,hq,hx]
    ·have hq':¬ n=a[i]:=fun e=>hq e.symm
     simp (config := { maxSteps := 3000000 }) [w2,hlt,r1,hq']
     refine⟨i+1,⟨by omega,fun x hx=>?_⟩,by omega,by omega⟩
     rw [List.take_succ_eq_append_getElem hlt,List.mem_append]at hx
     rcases hx with hx | hx
     ·exact ht x hx
     ·rw [List.mem_singleton]at hx;rw [hx];exact hq
   ·rw [List.take_of_length_le (by omega)]at ht
    have hx:=ixU_none ht
    simp (config := { maxSteps := 3000000 }) [hlt,hx]
 ·cases h
noncomputable def GinU:List AV→Option (Prop × AV)
 | [.pv (.ro a),.pv (.int .u64 n)]=>(dec rowU a).map fun l=>(l.length≤1000000000,.pv (.bool (inU l n)))
 | _=>none
@[simp] theorem GinU_eq (a:List (List PV)) (n:Int):GinU [.pv (.ro a),.pv (.int .u64 n)]=(dec rowU a).map fun l=>(l.length≤1000000000,.pv (.bool (inU l n))):=rfl
theorem c_cnU:ConT Try.prog 72 GinU:=by
 intro ys φ r h hφ
 unfold GinU at h
 split at h
 ·rename_i ra n
  obtain⟨a,ha,h⟩:=Option.map_eq_some_iff.1 h
  cases h
  cases dec_rowsU_inv ha
  have hq:=ixU_in a n
  refine con_of (tab_cons c_ixU tab_nil) (by kernel_rfl) fn72 (by simp) ?_
  unfold body72
  simp (config := { maxSteps := 3000000 }) [hφ,hq]
 ·cases h
def hasK (ks:List PV) (n:Int):Bool:=ks.any (eqP (.int .u64 n))
def Gfg1:List AV→Option (Prop × AV)
 | [.agg [.pv (.int .u64 n),.pv (.int .u64 _),.pv (.int .u64 _),.pv (.int .u64 _),.pv (.int .u64 _),.pv (.int .u64 _),.pv (.int .u64 _),.pv (.str _),.pv (.bool _),.pv (.bool _)],.rp [.mp ks]]=>some ((∀x∈ks,srt x=9),.pv (.bool (!hasK ks n)))
 | _=>none
@[simp] theorem Gfg1_eq (n b p i s z m:Int) (t:List UInt8) (inl hid:Bool) (ks:List PV):Gfg1 [.agg [.pv (.int .u64 n),.pv (.int .u64 b),.pv (.int .u64 p),.pv (.int .u64 i),.pv (.int .u64 s),.pv (.int .u64 z),.pv (.int .u64 m),.pv (.str t),.pv (.bool inl),.pv (.bool hid)],.rp [.mp ks]]=some ((∀x∈ks,srt x=9),.pv (.bool (!hasK ks n))):=rfl
theorem c_fg1:ConT Try.prog 75 Gfg1:=by
 intro ys φ r h hφ
 unfold Gfg1 at h
 split at h
 ·cases h
  refine con_of tab_nil (by kernel_rfl) fn75 (by simp) ?_
  unfold body75
  simp (config := { maxSteps := 3000000 }) [splice]
  exact⟨hφ,rfl⟩
 ·cases h
theorem isfnfg1:isFn Try.prog 75=true:=by kernel_rfl
def ixQ (p:Vn→Bool) (l:List Vn):Int:=if l.findIdx p < l.length then (l.findIdx p:Int) else -1
theorem ixQ_at {p:Vn→Bool}{l:List Vn}{i:Nat} (h:i < l.length) (hq:p l[i]=true) (ht:∀v∈l.take i,p v=false):ixQ p l=i:=by
 have hf:l.findIdx p=i:=by
  rw [List.findIdx_eq h]
  refine⟨hq,fun j hj=>?_⟩
  have:l[j]∈l.take i:=by
   rw [List.mem_take_iff_getElem]
   exact⟨j,by omega,rfl⟩
  exact ht _ this
 unfold ixQ
 rw [hf,if_pos h]
theorem ixQ_none {p:Vn→Bool}{l:List Vn} (ht:∀v∈l,p v=false):ixQ p l = -1:=by
 have hf:l.findIdx p=l.length:=by
  rw [List.findIdx_eq_length]
  exact ht
 unfold ixQ
 rw [hf,if_neg (by omega)]
theorem ixQ_neg (p:Vn→Bool) (l:List Vn):0≤ixQ p l↔l.any p=true:=by
 unfold ixQ
 split
 ·rename_i h
  have:=List.findIdx_lt_length.1 h
  simp only [List.any_eq_true]
  exact⟨fun _=>this,fun _=>by omega⟩
 ·rename_i h
  rw [List.findIdx_lt_length]at h
  simp only [List.any_eq_true]
  exact⟨fun h'=>by omega,fun h'=>absurd h' h⟩
theorem ixQ_filter {p:Vn→Bool}{l:List Vn}{k:Nat} (h:ixQ p l=(k:Int)):k < l.length∧(l.take (k+1)).filter (fun e=>!p e)=l.take k:=by
 unfold ixQ at h
 split at h
 ·rename_i hlt
  have hk:l.findIdx p=k:=by omega
  rw [hk]at hlt
  refine⟨hlt,?_⟩
  obtain⟨h1,h2⟩:=(List.findIdx_eq hlt).1 hk
  rw [List.take_succ_eq_append_getElem hlt,List.filter_append]
  have hf:(l.take k).filter (fun e=>!p e)=l.take k:=by
   rw [List.filter_eq_self]
   intro e he
   rw [List.mem_take_iff_getElem]at he
   obtain⟨j,hj,rfl⟩:=he
   have:=h2 j (by omega)
   simpa using this
  rw [hf]
  simp [h1]
 ·omega
def outK (ks:List PV) (v:Vn):Bool:=!hasK ks v.n
noncomputable def GixK:List AV→Option (Prop × AV)
 | [.pv (.ro a),.clo f [.rp [.mp ks]]]=>if f=75 then (dec rowV a).map fun l=>(l.length≤1000000000∧∀x∈ks,srt x=9,.pv (.int .i64 (ixQ (outK ks) l))) else none
 | _=>none
@[simp] theorem GixK_eq (a:List (List PV)) (f:FuncId) (ks:List PV):GixK [.pv (.ro a),.clo f [.rp [.mp ks]]]=if f=75 then (dec rowV a).map fun l=>(l.length≤1000000000∧∀x∈ks,srt x=9,.pv (.int .i64 (ixQ (outK ks) l))) else none:=rfl
theorem c_ixK:ConT Try.prog 58 GixK:=by
 intro ys φ r h hφ
 unfold GixK at h
 split at h
 ·rename_i ra f ks
  split at h
  ·rename_i hf
   subst hf
   obtain⟨a,ha,h⟩:=Option.map_eq_some_iff.1 h
   cases h
   cases dec_rowsV_inv ha
   obtain⟨hφ,hks⟩:=hφ
   refine con_of (tab_cons c_fg1 tab_nil) (by kernel_rfl) fn58 (by simp) ?_
   unfold body58
   simp (config := { maxSteps := 3000000 })
   refine vwp_loop (fun i:Nat=>i≤a.length∧∀v∈a.take i,outK ks v=false) (fun i=>⟨[(0,.pv (.ro (rowsV a))),(1,.clo 75 [.rp [.mp ks]]),(7,.pv (.int .i64 a.length)),(8,.pv (.int .i64 i))],[]⟩) (fun i=>a.length - i) [] 0 (by simp) ?_ ?_
   ·simp
   ·rintro i ⟨hi,ht⟩
    have w2:IntKind.i64.wrap ((i:Int)+1)=(i:Int)+1:=wrap_i64 (by omega)
    by_cases hlt:i < a.length
    ·have r1:=rowsV_at hlt
     have hr:outK ks a[i]=false→∀v∈a.take (i+1),outK ks v=false:=by
      intro h0 e he
      rw [List.take_succ_eq_append_getElem hlt,List.mem_append]at he
      rcases he with he | he
      ·exact ht e he
      ·rw [List.mem_singleton]at he;rw [he];exact h0
     simp (config := { maxSteps := 3000000 }) [w2,hlt,r1,isfnfg1]
     refine⟨hks,fun h=>(ixQ_at hlt (by simp [outK,h]) ht).symm,fun h=>⟨i+1,⟨by omega,hr (by simp [outK,h])⟩,by omega,by omega⟩⟩
    ·simp (config := { maxSteps := 3000000 }) [hlt]
     rw [List.take_of_length_le (by omega)]at ht
     exact (ixQ_none ht).symm
  ·cases h
 ·cases h
theorem rowsV_set (l:List Vn) (i:Nat) (e:Vn):(rowsV l).set i [.int .u64 e.n,.int .u64 e.b,.int .u64 e.p,.int .u64 e.i,.int .u64 e.s,.int .u64 e.z,.int .u64 e.m,.str e.t,.bool e.inl,.bool e.hid]=rowsV (l.set i e):=by
 unfold rowsV
 rw [List.map_set]
 rfl
def inK (ks:List PV) (l:List Vn):List Vn:=l.filter fun v=>!outK ks v
noncomputable def GdelV:List AV→Option (Prop × AV)
 | [.fr e a,.clo f [.rp [.mp ks]]]=>if e=61∧f=75 then (dec rowV a).map fun l=>(l.length≤1000000∧∀x∈ks,srt x=9,.fr 61 (rowsV (inK ks l))) else none
 | _=>none
@[simp] theorem GdelV_eq (e:TypeId) (a:List (List PV)) (f:FuncId) (ks:List PV):GdelV [.fr e a,.clo f [.rp [.mp ks]]]=if e=61∧f=75 then (dec rowV a).map fun l=>(l.length≤1000000∧∀x∈ks,srt x=9,.fr 61 (rowsV (inK ks l))) else none:=rfl
theorem c_delV:ConTU Try.prog 74 GdelV:=by
 intro ys φ r h hφ
 unfold GdelV at h
 split at h
 ·rename_i e ra f ks
  split at h
  ·rename_i hef
   obtain⟨rfl,rfl⟩:=hef
   obtain⟨a,ha,h⟩:=Option.map_eq_some_iff.1 h
   cases h
   cases dec_rowsV_inv ha
   obtain⟨hl6,hks⟩:=hφ
   refine con_ofU (tab_cons c_ixK (tab_cons c_fg1 tab_nil)) (by kernel_rfl) fn74 (by simp) (by simp [resOK,res1,resC]) (by simp) ?_
   unfold body74
   have hl9:a.length≤1000000000:=by omega
   have isfn3:=isfnfg1
   by_cases hr:a.any (outK ks)=true
   ·have hw : 0≤ixQ (outK ks) a:=(ixQ_neg _ _).2 hr
    obtain⟨k,hk⟩:=Int.eq_ofNat_of_zero_le hw
    obtain⟨hkl,hkf⟩:=ixQ_filter hk
    have hne:¬ ((k:Int) = -1):=by omega
    have w1:IntKind.i64.wrap ((k:Int)+1)=(k:Int)+1:=wrap_i64 (by omega)
    simp (config := { maxSteps := 3000000 }) [hk,hne,w1,hl9]
    refine⟨hks,?_⟩
    refine vwp_loop (fun x:Nat × Nat × List Vn=>x.1 < x.2.1∧x.2.1≤a.length∧x.2.2.length=a.length∧x.2.2.take x.1=(a.take x.2.1).filter (fun e=>!outK ks e)∧x.2.2.drop x.2.1=a.drop x.2.1)
     (fun x=>⟨[(0,.own 998),(1,.clo 75 [.rp [.mp ks]]),(5,.pv (.int .i64 x.1)),(6,.pv (.int .i64 x.2.1))],[(998,.arr 61 (rowsV x.2.2))]⟩) (fun x=>a.length - x.2.1) [] (k,k+1,a) ?_ ?_ ?_
    ·exact⟨by simp,by simp;omega,rfl,by simp [hkf],rfl⟩
    ·simp
    ·rintro⟨i,j,b⟩ ⟨h1,h2,h3,h4,h5⟩
     dsimp only at h1 h2 h3 h4 h5
     have w2:IntKind.i64.wrap ((j:Int)+1)=(j:Int)+1:=wrap_i64 (by omega)
     have w3:IntKind.i64.wrap ((i:Int)+1)=(i:Int)+1:=wrap_i64 (by omega)
     by_cases hlt:j < a.length
     ·have hjb:j < b.length:=by omega
      have hib:i < b.length:=by omega
      have hbj:b[j]=a[j]:=by
       have e1:=List.drop_eq_getElem_cons hjb
       have e2:=List.drop_eq_getElem_cons hlt
       rw [h5,e2]at e1
       injection e1 with e1 _;exact e1.symm
      have r1:=rowsV_at hjb
      rw [hbj]at r1
      have r2:=rowsV_at hib
      have hib':(i:Int) < a.length:=by omega
      have hdrop:∀e,(b.set i e).drop (j+1)=a.drop (j+1):=by
       intro e
       rw [List.drop_set_of_lt (by omega)]
       have e1:(b.drop j).drop 1=(a.drop j).drop 1:=by rw [h5]
       simpa [List.drop_drop]using e1
      by_cases hq:outK ks a[j]=true
      ·have hq':hasK ks a[j].n=false:=by simpa [outK]using hq
       simp (config := { maxSteps := 3000000 }) [w2,w3,hlt,hjb,r1,r2,h3,hq',rowsV_set,hib',isfn3]
       refine⟨hks,i,j+1,b,⟨by omega,by omega,h3,?_,?_⟩,⟨⟨rfl,by omega⟩,rfl⟩,by omega⟩
       ·rw [List.take_succ_eq_append_getElem hlt,List.filter_append,←h4]
        simp [hq]
       ·have e1:(b.drop j).drop 1=(a.drop j).drop 1:=by rw [h5]
        simpa [List.drop_drop]using e1
      ·have hq0:outK ks a[j]=false:=by simpa using hq
       have hq':hasK ks a[j].n=true:=by simpa [outK]using hq
       simp (config := { maxSteps := 3000000 }) [w2,w3,hlt,hjb,r1,r2,h3,hq',rowsV_set,hib',isfn3]
       refine⟨hks,by omega,i+1,j+1,b.set i a[j],⟨by omega,by omega,by simp [h3],?_,hdrop _⟩,⟨⟨by omega,by omega⟩,rfl⟩,by omega⟩
       rw [List.take_succ_eq_append_getElem hlt,List.filter_append,←h4,List.take_succ_eq_append_getElem (by simp;omega)]
       simp [hq0,List.take_set_of_le]
     ·simp (config := { maxSteps := 3000000 }) [hlt,h3]
      have hja:j=a.length:=by omega
      subst hja
      rw [List.take_length]at h4
      have h3r:=rowsV_ten b
      refine⟨⟨by omega,h3r⟩,⟨by omega,?_⟩,?_⟩
      ·rintro x (hx | ⟨_,rfl⟩ | hx)
       ·exact h3r x (List.mem_of_mem_take hx)
       ·rfl
       ·exact h3r x (List.mem_of_mem_drop hx)
      ·rw [List.take_append_of_le_length (by simp;omega),List.take_take,Nat.min_self]
       unfold inK
       rw [←h4]
       simp [rowsV,List.map_take]
   ·have hw:ixQ (outK ks) a = -1:=by
     apply ixQ_none
     have:=hr
     simp only [List.any_eq_true,not_exists,not_and]at this
     intro e he;simpa using this e he
    have hfil:inK ks a=a:=by
     unfold inK;rw [List.filter_eq_self];intro e he
     have:=hr
     simp only [List.any_eq_true,not_exists,not_and]at this
     simpa using this e he
    simp (config := { maxSteps := 3000000 }) [hw,hfil,hl9]
    exact hks
  ·cases h
 ·cases h
def hidF (c:Int) (keep:List Int) (v:Vn):Vn:={ v with hid:=v.hid || (!decide (v.n=c) && !inU keep v.n) }
def curN (l:List Vn):Int:=((curV l).getD v0).n
def hidL (l:List Vn) (keep:List Int):List Vn:=l.map (hidF (curN l) keep)
def needB (o:List Vn) (n:Int):Bool:=(List.range o.length).any fun k=>!(atV o k).hid && (planF o o.length k).any fun w=>decide (w.n=n)
def forgetV (l:List Vn) (keep:List Int):List Vn:=if rightV l=false then [] else (hidL l keep).filter fun v=>needB (hidL l keep) v.n
theorem ixV_map {f:Vn→Vn} (hf:∀v,(f v).n=v.n) (l:List Vn) (n:Int):ixV (l.map f) n=ixV l n:=by
 unfold ixV
 rw [List.findIdx_map]
 have:((fun v:Vn=>decide (v.n=n)) ∘ f)=fun v:Vn=>decide (v.n=n):=by funext v;simp [hf]
 rw [this,List.length_map]
theorem right_map {f:Vn→Vn} (hf:∀v,(f v).n=v.n) (hb:∀v,baseV (f v)=baseV v) (l:List Vn):rightV (l.map f)=rightV l:=by
 have key:∀i,i < l.length→okAt (l.map f) i=okAt l i:=by
  intro i hi
  have h1:(l.map f)[i]? = some (f l[i]):=by simp [hi]
  have h2:l[i]? = some l[i]:=List.getElem?_eq_getElem hi
  have h3:prevN (l.map f) i=prevN l i:=by
   unfold prevN
   cases i with
   |zero=>rfl
   |succ i=>
    have hi':i < l.length:=by omega
    simp [hi',hf]
  unfold okAt
  rw [h1,h2,h3]
  simp only [Option.getD_some,hf,hb]
  rw [←List.map_take,ixV_map hf]
 unfold rightV
 rw [List.length_map]
 have:∀l':List Nat,(∀i∈l',i < l.length)→l'.all (okAt (l.map f))=l'.all (okAt l):=by
  intro l'
  induction l' with
  |nil=>intro _;rfl
  |cons x l' ih=>
   intro h
   simp only [List.all_cons]
   rw [key x (h x (by simp)),ih fun i hi=>h i (by simp [hi])]
 exact this _ fun i hi=>List.mem_range.1 hi
theorem right_hid (l:List Vn) (keep:List Int):rightV (hidL l keep)=rightV l:=right_map (f:=hidF (curN l) keep) (fun _=>rfl) (fun _=>rfl) l
theorem okV_hid {l:List Vn} (h:∀v∈l,okV v) (keep:List Int):∀v∈hidL l keep,okV v:=by
 intro v hv
 obtain⟨w,hw,rfl⟩:=List.mem_map.1 hv
 exact h w hw
theorem hidL_len (l:List Vn) (keep:List Int):(hidL l keep).length=l.length:=by simp [hidL]
def setU (ns:List Int):List (PV × AV):=ns.map fun n=>(.int .u64 n,.agg [])
def putU (n:Int) (ns:List Int):List Int:=if n∈ns then ns else ns++[n]
theorem setU_put (n:Int):∀ns:List Int,putM (.int .u64 n) (.agg []) (setU ns)=setU (putU n ns)
 | []=>by simp [setU,putU,putM]
 |m::ns=>by
  have ih:=setU_put n ns
  unfold setU at ih ⊢
  simp only [List.map_cons,putM,eqP]
  by_cases h:n=m
  ·subst h
   simp [putU]
  ·have h':decide (n=m)=false:=by simpa using h
   simp only [h',Bool.false_eq_true,if_false,ih]
   unfold putU
   by_cases hn:n∈ns
   ·simp [hn]
   ·simp [hn,h]
theorem setU_keys (ns:List Int):keysOK 9 (setU ns):=by
 intro e he
 obtain⟨n,_,rfl⟩:=List.mem_map.1 he
 rfl
theorem setU_unit (ns:List Int):(setU ns).all (fun e=>unitB e.2)=true:=by
 rw [List.all_eq_true]
 intro e he
 obtain⟨n,_,rfl⟩:=List.mem_map.1 he
 rfl
def keysU (ns:List Int):List PV:=ns.map (.int .u64)
theorem setU_fst (ns:List Int):(setU ns).map (·.1)=keysU ns:=by simp [setU,keysU]
theorem keysU_srt (ns:List Int):∀x∈keysU ns,srt x=9:=by
 intro x hx
 obtain⟨n,_,rfl⟩:=List.mem_map.1 hx
 rfl
theorem keysU_has (ns:List Int) (n:Int):hasK (keysU ns) n=decide (n∈ns):=by
 unfold hasK keysU
 induction ns with
 |nil=>simp
 |cons m ns ih=>
  simp only [List.map_cons,List.any_cons,ih,eqP,List.mem_cons]
  by_cases h:n=m<;>simp [h]
theorem putU_mem (m n:Int) (ns:List Int):m∈putU n ns↔m=n∨m∈ns:=by
 unfold putU
 split
 ·rename_i h
  exact⟨.inr,fun h'=>h'.elim (fun e=>e ▸ h) id⟩
 ·simp only [List.mem_append,List.mem_singleton]
  exact⟨fun h=>h.elim .inr .inl,fun h=>h.elim .inr .inl⟩
def planN (o:List Vn) (v:Vn):List Int:=(planV o v.n).1.map (·.n)
theorem need_iff {o:List Vn} (hr:rightV o=true) (n:Int):needB o n=true↔∃v∈seenV o,n∈planN o v:=by
 unfold needB
 simp only [List.any_eq_true,List.mem_range,Bool.and_eq_true,Bool.not_eq_true',decide_eq_true_eq]
 constructor
 ·rintro⟨k,hk,hh,w,hw,hn⟩
  rw [atV_eq hk]at hh
  have hs:o[k]∈seenV o:=by unfold seenV;simp [hh]
  refine⟨o[k],hs,?_⟩
  have hg:∃v,gtVn o o[k].n=some v:=by
   unfold gtVn
   cases hf:(seenV o).find? fun v=>decide (v.n=o[k].n) with
   |some v=>exact⟨v,rfl⟩
   |none=>rw [List.find?_eq_none]at hf;exact absurd (decide_eq_true rfl) (hf _ hs)
  obtain⟨v,hg⟩:=hg
  obtain⟨i,hi,hv,hvn⟩:=get_at hg
  have hp:planV o o[k].n=(planF o o.length k,0):=by
   simp only [planV,hr,hg]
   rw [if_neg (by simp),hvn,ix_self hr hk,Int.toNat_natCast]
  unfold planN
  rw [hp]
  exact List.mem_map.2 ⟨w,hw,hn⟩
 ·rintro⟨v,hv,hn⟩
  have hv':v∈o∧v.hid=false:=by unfold seenV at hv;simpa using hv
  obtain⟨k,hk,rfl⟩:=List.getElem_of_mem hv'.1
  have hg:∃v,gtVn o o[k].n=some v:=by
   unfold gtVn
   cases hf:(seenV o).find? fun v=>decide (v.n=o[k].n) with
   |some v=>exact⟨v,rfl⟩
   |none=>rw [List.find?_eq_none]at hf;exact absurd (decide_eq_true rfl) (hf _ hv)
  obtain⟨v,hg⟩:=hg
  obtain⟨i,hi,hv1,hvn⟩:=get_at hg
  have hp:planV o o[k].n=(planF o o.length k,0):=by
   simp only [planV,hr,hg]
   rw [if_neg (by simp),hvn,ix_self hr hk,Int.toNat_natCast]
  unfold planN at hn
  rw [hp]at hn
  obtain⟨w,hw,hwn⟩:=List.mem_map.1 hn
  exact⟨k,hk,by rw [atV_eq hk];exact hv'.2,w,hw,hwn⟩
theorem planV_len {o:List Vn} (n:Int):(planV o n).1.length≤o.length+1:=by
 unfold planV
 split
 ·simp
 ·split
  ·simp
  ·exact planF_len _ _
def mxhV (f:Vn→Vn) (a:List Vn) (i:Nat):List Vn:=(a.take i).map f++a.drop i
theorem mxhV_len (f:Vn→Vn) (a:List Vn) (i:Nat):(mxhV f a i).length=a.length:=by simp [mxhV];omega
theorem mxhV_set (f:Vn→Vn) {a:List Vn}{i:Nat} (h:i < a.length):(mxhV f a i).set i (f a[i])=mxhV f a (i+1):=by
 unfold mxhV
 rw [List.set_append,if_neg (by simp;omega)]
 simp only [List.length_map,List.length_take]
 rw [Nat.min_eq_left (show i≤a.length by omega),Nat.sub_self,List.drop_eq_getElem_cons h,List.set_cons_zero,List.take_succ_eq_append_getElem h,List.map_append]
 simp only [List.map_cons,List.map_nil,List.append_assoc,List.cons_append,List.nil_append]
theorem mxhV_at (f:Vn→Vn) {a:List Vn}{i:Nat} (h:i < a.length):(mxhV f a i)[i]'(by rw [mxhV_len];exact h)=a[i]:=by
 unfold mxhV
 rw [List.getElem_append_right (by simp;omega)]
 simp only [List.length_map,List.length_take,Nat.min_eq_left (show i≤a.length by omega),Nat.sub_self]
 simp
noncomputable def GForget (e:TypeId):List AV→Option (Prop × AV)
 | [.pv (.ro a),.pv (.ro k)]=>(dec rowV a).bind fun l=>(dec rowU k).map fun ks=>(l.length≤100000∧ks.length≤1000000∧(∀v∈l,okV v),.fr e (rowsV (forgetV l ks)))
 | _=>none
@[simp] theorem GForget_eq (e:TypeId) (a k:List (List PV)):GForget e [.pv (.ro a),.pv (.ro k)]=(dec rowV a).bind fun l=>(dec rowU k).map fun ks=>(l.length≤100000∧ks.length≤1000000∧(∀v∈l,okV v),.fr e (rowsV (forgetV l ks))):=rfl
theorem c_Forget:ConT Try.prog 56 (GForget 61):=by
 intro ys φ r h hφ
 unfold GForget at h
 split at h
 ·rename_i ra rk
  obtain⟨a,ha,h⟩:=Option.bind_eq_some_iff.1 h
  obtain⟨ks,hk,h⟩:=Option.map_eq_some_iff.1 h
  cases h
  cases dec_rowsV_inv ha
  cases dec_rowsU_inv hk
  obtain⟨hl5,hk6,hov⟩:=hφ
  have hl9:a.length≤1000000000:=by omega
  have hl6:a.length≤1000000:=by omega
  have hk9:ks.length≤1000000000:=by omega
  have fl:∀l,flatRows (rowsV l):=flat_rowsV
  refine con_of (tab_cons c_Rv (tab_cons c_ClV (tab_cons c_Cv (tab_cons c_cnU (tab_cons c_Seen (tab_cons c_Plan (tab_consU (p:=0) (k:=998) c_delV (by kernel_rfl) tab_nil))))))) (by kernel_rfl) fn56 (by simp) ?_
  unfold body56
  cases hr:rightV a with
  |false=>
   have hp:forgetV a ks=[]:=by simp [forgetV,hr]
   simp (config := { maxSteps := 3000000 }) [hl9,hr,hp]
  |true=>
  have hp:forgetV a ks=(hidL a ks).filter fun v=>needB (hidL a ks) v.n:=by simp [forgetV,hr]
  rw [hp]
  have hrO:=(right_hid a ks).trans hr
  have hovO:=okV_hid hov ks
  have hlO:=hidL_len a ks
  have hO:hidL a ks=a.map (hidF (curN a) ks):=rfl
  have hcur:((curV a).getD v0).n=curN a:=rfl
  generalize hidL a ks=O at hrO hovO hlO hO
  generalize hcc:(curV a).getD v0=cc at hcur
  simp (config := { maxSteps := 3000000 }) [hl9,hl6,hr,hcc,cellsV]
  refine vwp_loop (fun i:Nat=>i≤a.length) (fun i=>⟨[(1,.pv (.ro (rowsU ks))),(5,.own 21),(6,.ptr 6 0),(27,.own 21),(28,.pv (.int .i64 a.length)),(29,.pv (.int .i64 i))],[(21,.arr 61 (rowsV (mxhV (hidF (curN a) ks) a i))),(6,.box (cellsV cc))]⟩) (fun i=>a.length - i) [] 0 (by simp) ?_ ?_
  ·simp [mxhV,cellsV]
  ·rintro i hi
   have w2:IntKind.i64.wrap ((i:Int)+1)=(i:Int)+1:=wrap_i64 (by omega)
   have hml:=mxhV_len (hidF (curN a) ks) a i
   by_cases hlt:i < a.length
   ·have r1:=rowsV_at (l:=mxhV (hidF (curN a) ks) a i) (i:=i) (by omega)
    rw [mxhV_at _ hlt]at r1
    have hst:=mxhV_set (hidF (curN a) ks) hlt
    have hrs:=fun e=>rowsV_set (mxhV (hidF (curN a) ks) a i) i e
    have hfin:∀b,b=(hidF (curN a) ks a[i]).hid→(rowsV (mxhV (hidF (curN a) ks) a i)).set i [.int .u64 a[i].n,.int .u64 a[i].b,.int .u64 a[i].p,.int .u64 a[i].i,.int .u64 a[i].s,.int .u64 a[i].z,.int .u64 a[i].m,.str a[i].t,.bool a[i].inl,.bool b]=rowsV (mxhV (hidF (curN a) ks) a (i+1)):=by
     intro b hb
     rw [←hst,←hrs]
     subst hb;rfl
    have hhid:(hidF (curN a) ks a[i]).hid=(a[i].hid || (!decide (a[i].n=curN a) && !inU ks a[i].n)):=rfl
    cases hh:a[i].hid with
    |true=>
     rw [hh]at r1 hhid
     simp (config := { maxSteps := 3000000 }) [w2,hlt,hml,r1,cellsV]
     exact⟨i+1,by omega,⟨by omega,hfin _ (by rw [hhid];rfl)⟩,by omega⟩
    |false=>
     rw [hh]at r1 hhid
     by_cases hn:a[i].n=curN a
     ·simp (config := { maxSteps := 3000000 }) [w2,hlt,hml,r1,cellsV,hcur,hn]
      refine⟨i+1,by omega,⟨by omega,?_⟩,by omega⟩
      rw [←hfin false (by rw [hhid];simp [hn]),hn]
     ·simp (config := { maxSteps := 3000000 }) [w2,hlt,hml,r1,cellsV,hcur,hn]
      exact⟨hk9,i+1,by omega,⟨by omega,hfin _ (by rw [hhid];simp [hn])⟩,by omega⟩
   ·have hie:i=a.length:=by omega
    subst hie
    have hmx:mxhV (hidF (curN a) ks) a a.length=O:=by rw [hO];unfold mxhV;simp
    rw [hmx]
    have hm1:(Value.map none).oneCell'=true:=rfl
    have hm2:cv (Value.map none)=.pv (.val (.map none)):=rfl
    have hlO6:O.length≤1000000:=by omega
    simp (config := { maxSteps := 3000000 }) [cellsV,hm1,hm2,hlO6,fl]
    have hs6:(seenV O).length≤1000000:=Nat.le_trans (List.length_filter_le _ _) hlO6
    have hO5:O.length≤100000:=by omega
    refine vwp_loop (fun x:Nat × List Int=>x.1≤(seenV O).length∧∀n,n∈x.2↔∃v∈(seenV O).take x.1,n∈planN O v)
     (fun x=>⟨[(5,.own 21),(10,.ptr 10 0),(57,.own 57),(58,.pv (.int .i64 (seenV O).length)),(59,.pv (.int .i64 x.1))],[(57,.arr 61 (rowsV (seenV O))),(10,.box [.own 55]),(55,.map (setU x.2)),(21,.arr 61 (rowsV O))]⟩) (fun x=>(seenV O).length - x.1) [] (0,[]) ?_ ?_ ?_
    ·exact⟨by simp,by simp⟩
    ·simp [setU]
    ·rintro⟨j,ns⟩ ⟨hj,hns⟩
     dsimp only at hj hns
     have w4:IntKind.i64.wrap ((j:Int)+1)=(j:Int)+1:=wrap_i64 (by omega)
     by_cases hjl:j < (seenV O).length
     ·have r2:=rowsV_at hjl
      have hpl:=planV_len (o:=O) (seenV O)[j].n
      have hpN:planN O (seenV O)[j]=(planV O (seenV O)[j].n).1.map (fun v:Vn=>v.n):=rfl
      have hnext:∀ns':List Int,(∀n:Int,n∈ns'↔n∈ns∨n∈planN O (seenV O)[j])→∀n:Int,n∈ns'↔∃v∈(seenV O).take (j+1),n∈planN O v:=by
       intro ns' hn' n
       rw [hn',hns,List.take_succ_eq_append_getElem hjl]
       constructor
       ·rintro (⟨v,hv,hm⟩ | hm)
        ·exact⟨v,List.mem_append.2 (.inl hv),hm⟩
        ·exact⟨_,List.mem_append.2 (.inr (List.mem_singleton.2 rfl)),hm⟩
       ·rintro⟨v,hv,hm⟩
        rw [List.mem_append,List.mem_singleton]at hv
        rcases hv with hv | rfl
        ·exact .inl ⟨v,hv,hm⟩
        ·exact .inr hm
      simp (config := { maxSteps := 3000000 }) [w4,hjl,r2,fl,hO5,hovO]
      generalize hW:(planV O (seenV O)[j].n).1=W at hpl hpN
      refine⟨hovO,?_⟩
      refine vwp_loop (fun x:Nat × List Int=>x.1≤W.length∧∀n,n∈x.2↔n∈ns∨n∈(W.take x.1).map (fun v:Vn=>v.n))
       (fun x=>⟨[(5,.own 21),(10,.ptr 10 0),(57,.own 57),(58,.pv (.int .i64 (seenV O).length)),(59,.pv (.int .i64 j)),(70,.own 67),(71,.pv (.int .i64 W.length)),(72,.pv (.int .i64 x.1))],[(67,.arr 61 (rowsV W)),(57,.arr 61 (rowsV (seenV O))),(10,.box [.own 55]),(55,.map (setU x.2)),(21,.arr 61 (rowsV O))]⟩) (fun x=>W.length - x.1) [] (0,ns) ?_ ?_ ?_
      ·exact⟨by simp,by simp⟩
      ·simp
      ·rintro⟨k,ms⟩ ⟨hk',hms⟩
       dsimp only at hk' hms
       have w5:IntKind.i64.wrap ((k:Int)+1)=(k:Int)+1:=wrap_i64 (by omega)
       have hks9:=setU_keys ms
       by_cases hkl:k < W.length
       ·have r3:=rowsV_at hkl
        have hput:=setU_put W[k].n ms
        simp (config := { maxSteps := 3000000 }) [w5,hkl,r3,hks9,hput]
        refine⟨k+1,putU W[k].n ms,⟨by omega,fun n=>?_⟩,⟨by omega,rfl⟩,by omega⟩
        rw [putU_mem,hms,←List.map_take,List.take_succ_eq_append_getElem hkl]
        simp only [List.map_append,List.map_cons,List.map_nil,List.mem_append,List.mem_singleton]
        constructor
        ·rintro (h | h | h)
         ·exact .inr (.inr h)
         ·exact .inl h
         ·exact .inr (.inl h)
        ·rintro (h | h | h)
         ·exact .inr (.inl h)
         ·exact .inr (.inr h)
         ·exact .inl h
       ·have hke:k=W.length:=by omega
        subst hke
        simp (config := { maxSteps := 3000000 }) [w4,hjl]
        exact⟨j+1,ms,⟨by omega,hnext ms fun n=>by rw [hms,List.take_length,hpN]⟩,⟨by omega,rfl⟩,by omega⟩
     ·have hje:j=(seenV O).length:=by omega
      subst hje
      rw [List.take_length]at hns
      have hun:=setU_unit ns
      have hfs:=setU_fst ns
      have hkk:=keysU_srt ns
      have hin:inK (keysU ns) O=O.filter fun v=>needB O v.n:=by
       unfold inK
       congr 1
       funext v
       simp only [outK,keysU_has,Bool.not_not]
       rw [Bool.eq_iff_iff,decide_eq_true_eq,hns,need_iff hrO]
      have hkm:∀t es,killO t (.map es)=.map es:=fun _ _=>rfl
      simp (config := { maxSteps := 3000000 }) [hun,hfs,hin,hlO6,fl,hkm]
      exact hkk
 ·cases h
def unpinA (a:Ap):Ap × Bool:=(⟨a.l,(remP a.ps a.r.v).1,a.vs,a.sl,a.r,a.n,a.s⟩,decide ((remP a.ps a.r.v).2=0))
def pinA (a:Ap):Ap × Bool:=(⟨a.l,(addP a.ps ⟨a.n,a.r.v,a.r.u⟩).1,a.vs,a.sl,a.r,a.n,a.s⟩,(gtVn a.vs a.r.v).isSome && decide ((addP a.ps ⟨a.n,a.r.v,a.r.u⟩).2=0))
def newVn (a:Ap):Vn:=⟨a.n,a.r.v,a.r.p,a.r.i,a.r.s,a.r.z,a.r.m,[],false,false⟩
def commitA (a:Ap):Ap × Bool:=(⟨a.l,a.ps,(addV a.vs (newVn a)).1,a.sl,a.r,a.n,a.s⟩,!a.sl && ownsL a.l a.r.p a.r.i a.r.e && decide ((addV a.vs (newVn a)).2=0))
noncomputable def compactA (a:Ap):Ap × Bool:=(⟨a.l,liveL a.ps a.r.c a.s,forgetV a.vs (versL ((liveL a.ps a.r.c a.s).map Pn.v)),a.sl,a.r,a.n,a.s⟩,true)
theorem c_unpinA:ConTG Try.prog 36 (GDo (fun a=>a.ps.length≤100000) unpinA):=by
 intro ys φ r h hφ
 unfold GDo at h
 split at h
 ·obtain⟨a,ha,h⟩:=Option.map_eq_some_iff.1 h
  cases h
  cases decO_inv ha
  obtain⟨⟨e,p,i,u,h'⟩,ps,vs,sl,⟨k,rp,ri,rs,re,ru,rv,rc,rz,rm,rn,rt⟩,n,s⟩:=a
  refine con_ofG (tab_cons c_pRem tab_nil) (by kernel_rfl) fn36 (by simp) rfl (by simp [apT]) ?_
  unfold body36
  have h1:ps.length≤100000:=hφ
  simp (config := { maxSteps := 3000000 }) [apT,unpinA,h1,flat_rowsP]
 ·cases h
theorem c_pinA:ConTG Try.prog 35 (GDo (fun a=>a.ps.length≤1000000∧a.vs.length≤1000000) pinA):=by
 intro ys φ r h hφ
 unfold GDo at h
 split at h
 ·obtain⟨a,ha,h⟩:=Option.map_eq_some_iff.1 h
  cases h
  cases decO_inv ha
  obtain⟨⟨e,p,i,u,h'⟩,ps,vs,sl,⟨k,rp,ri,rs,re,ru,rv,rc,rz,rm,rn,rt⟩,n,s⟩:=a
  refine con_ofG (tab_cons c_pAdd (tab_cons c_Gv tab_nil)) (by kernel_rfl) fn35 (by simp) rfl (by simp [apT]) ?_
  unfold body35
  obtain⟨h1,h2⟩:=hφ
  have h1:ps.length≤1000000:=h1
  have h2:vs.length≤1000000:=h2
  simp (config := { maxSteps := 3000000 }) [apT,pinA,h1,h2,flat_rowsP,cellsV]
 ·cases h
theorem c_commitA:ConTG Try.prog 34 (GDo (fun a=>a.vs.length≤100000∧(∀v∈a.vs,okV v)∧okV (newVn a)) commitA):=by
 intro ys φ r h hφ
 unfold GDo at h
 split at h
 ·obtain⟨a,ha,h⟩:=Option.map_eq_some_iff.1 h
  cases h
  cases decO_inv ha
  obtain⟨⟨e,p,i,u,h'⟩,ps,vs,sl,⟨k,rp,ri,rs,re,ru,rv,rc,rz,rm,rn,rt⟩,n,s⟩:=a
  refine con_ofG (tab_cons c_AddV (tab_cons c_Ow tab_nil)) (by kernel_rfl) fn34 (by simp) rfl (by simp [apT]) ?_
  unfold body34
  obtain⟨h1,h2,h3⟩:=hφ
  have h1:vs.length≤100000:=h1
  have h2:∀v∈vs,okV v:=h2
  have h3:okV ⟨n,rv,rp,ri,rs,rz,rm,[],false,false⟩:=h3
  cases sl <;>
  simp (config := { maxSteps := 3000000 }) [apT,commitA,newVn,h1,h3,flat_rowsV]
  ·exact⟨⟨h2,h3⟩,rfl⟩
  ·exact⟨h2,h3⟩
 ·cases h
theorem c_compactA:ConTG Try.prog 38 (GDo (fun a=>a.ps.length < 50∧(∀e∈a.ps,okP' e)∧okN a.r.c∧okN a.s∧a.vs.length≤100000∧∀v∈a.vs,okV v) compactA):=by
 intro ys φ r h hφ
 unfold GDo at h
 split at h
 ·obtain⟨a,ha,h⟩:=Option.map_eq_some_iff.1 h
  cases h
  cases decO_inv ha
  obtain⟨⟨e,p,i,u,h'⟩,ps,vs,sl,⟨k,rp,ri,rs,re,ru,rv,rc,rz,rm,rn,rt⟩,n,s⟩:=a
  refine con_ofG (tab_cons c_Live (tab_cons c_pV (tab_cons c_Forget tab_nil))) (by kernel_rfl) fn38 (by simp) rfl (by simp [apT]) ?_
  unfold body38
  obtain⟨h1,h2,h3,h4,h5,h6⟩:=hφ
  have h1:ps.length < 50:=h1
  have h3:okN rc:=h3
  have h4:okN s:=h4
  have h5:vs.length≤100000:=h5
  have h7:ps.length≤1000000:=by omega
  have h8:(liveL ps rc s).length < 50:=by
   have:=List.length_filter_le (fun e=>!pastP rc s e) ps
   unfold liveL
   omega
  have h9:(versL ((liveL ps rc s).map Pn.v)).length≤1000000:=by
   have:=versL_len ((liveL ps rc s).map Pn.v)
   rw [List.length_map]at this
   omega
  have hU:∀l:List Int,rowsN l=rowsU l:=fun _=>rfl
  have fU:∀l:List Int,flatRows (rowsU l):=flat_rowsN
  have h10:∀e∈ps,okN e.u:=fun e he=>(h2 e he).2.2
  have h11:(∀e∈ps,okN e.u)=True:=eq_true h10
  simp (config := { maxSteps := 3000000 }) [apT,compactA,h1,h3,h4,h5,h7,h8,h9,hU,fU,flat_rowsP,flat_rowsV]
  exact⟨h10,h6⟩
 ·cases h
structure Wr (w w':World) (b:Nat) (us:Array Value) (ty:TypeId):Prop where
 os:w'.os=w.os
 tape:w'.tape=w.tape
 output:w'.output=w.output
 size:w'.heap.size=w.heap.size
 here:w'.heap[b]? = some (.cells us ty (0,0))
 block:∀k,k≠b→w'.heap[k]? = w.heap[k]?
theorem wr_set {w:World}{b:Nat}{us:Array Value}{ty:TypeId} (h:w.heap[b]? = some (.cells us ty (0,0))) (o:Nat) (v:Value):Wr w (w.setCell ⟨b,o,none⟩ v) b (us.setIfInBounds o v) ty:=by
 refine⟨rfl,rfl,rfl,by simp [World.setCell],?_,fun k hk=>?_⟩
 ·simp [World.setCell,Array.getElem?_modify,h]
 ·simp [World.setCell,Array.getElem?_modify,Ne.symm hk]
theorem num_walk (a:Value) (b o:Nat) (x:Int) (us:Array Value) (ty:TypeId) (w:World) (h:w.heap[b]? = some (.cells us ty (0,0))) (hx:us[o]? = some (.int .u64 x)) :
  Calls Try.prog 119 #[a,.pointer (some ⟨b,o,none⟩)] w fun e w'=>e=.returned (.tuple #[])∧Wr w w' b (us.setIfInBounds o (.int .u64 0)) ty:=by
 have hc:w.cell? ⟨b,o,none⟩=some (.int .u64 x):=by rw [Lib.cell_of_heap h];exact hx
 have hf:w.frozen? ⟨b,o,none⟩=false:=by simp [World.frozen?,h]
 go_enter Try.func119,Try.ntmps119
 go_wp2
 exact⟨rfl,_,by kernel_rfl,rfl,wr_set h o _⟩
theorem txt_walk (b o bt:Nat) (n:List UInt8) (bad:Bool) (us:Array Value) (ty tt:TypeId) (w:World) (hne:b≠bt) (h:w.heap[b]? = some (.cells us ty (0,0))) (hx:us[o]? = some (.string ⟨n.toArray⟩)) (ht:w.heap[bt]? = some (.cells #[.bool bad] tt (0,0))) :
  Calls Try.prog 120 #[.pointer (some ⟨bt,0,none⟩),.pointer (some ⟨b,o,none⟩)] w fun e w'=>e=.returned (.tuple #[]) ∧
  ∃w1,Wr w w1 bt #[.bool (bad || decide (n=[]) || decide (64 < n.length))] tt∧Wr w1 w' b (us.setIfInBounds o (.string ⟨#[]⟩)) ty:=by
 have hc:w.cell? ⟨b,o,none⟩=some (.string ⟨n.toArray⟩):=by rw [Lib.cell_of_heap h];exact hx
 have hb:w.cell? ⟨bt,0,none⟩=some (.bool bad):=by rw [Lib.cell_of_heap ht];rfl
 have hf:w.frozen? ⟨b,o,none⟩=false:=by simp [World.frozen?,h]
 have hg:w.frozen? ⟨bt,0,none⟩=false:=by simp [World.frozen?,ht]
 have hd:∀v,(w.setCell ⟨bt,0,none⟩ v).cell? ⟨b,o,none⟩=some (.string ⟨n.toArray⟩):=fun v=>by
  rw [Lib.cell_of_heap (((wr_set ht 0 v).block b hne).trans h)];exact hx
 have fin:∀v,v=(bad || decide (n=[]) || decide (64 < n.length))→∃w1,Wr w w1 bt #[.bool (bad || decide (n=[]) || decide (64 < n.length))] tt∧Wr w1 ((w.setCell ⟨bt,0,none⟩ (.bool v)).setCell ⟨b,o,none⟩ (.string ⟨#[]⟩)) b (us.setIfInBounds o (.string ⟨#[]⟩)) ty:=by
  rintro v rfl
  exact⟨_,wr_set ht 0 _,wr_set (((wr_set ht 0 _).block b hne).trans h) o _⟩
 go_enter Try.func120,Try.ntmps120
 have hd1:=hd (.bool true)
 have hd2:=hd (.bool false)
 clear hd
 cases bad with
 |true=>
  go_wp2
  exact⟨rfl,_,by kernel_rfl,rfl,fin _ rfl⟩
 |false=>
  by_cases h1:n=[]
  ·subst h1
   go_wp2
   exact⟨rfl,_,by kernel_rfl,rfl,fin _ rfl⟩
  ·go_wp2
   refine⟨rfl,_,by kernel_rfl,rfl,fin _ ?_⟩
   have:(n.isEmpty || decide (64 < (n.length:Int)))=(decide (n=[]) || decide (64 < n.length)):=by
    cases n with
    |nil=>rfl
    |cons x l=>simp only [List.isEmpty_cons,Bool.false_or,reduceCtorEq,decide_false];exact decide_eq_decide.2 (by omega)
   rw [this,Bool.false_or]
def recC (r:Rc):Array Value:=#[.int .u8 r.k,.int .u64 r.p,.int .u64 r.i,.int .u64 r.s,.int .u64 r.e,.int .u64 r.u,.int .u64 r.v,.int .u64 r.c,.int .u64 r.z,.int .u64 r.m,.string ⟨r.n.toArray⟩,.string ⟨r.t.toArray⟩]
def clrR:Nat→Rc→Rc
 | 0,r=>{ r with e:=0 }
 | 1,r=>{ r with u:=0 }
 | 2,r=>{ r with v:=0 }
 | 3,r=>{ r with c:=0 }
 | 4,r=>{ r with z:=0 }
 | 5,r=>{ r with m:=0 }
 | 6,r=>{ r with n:=[] }
 | 7,r=>{ r with t:=[] }
 | _,r=>r
def badR:Nat→Rc→Bool→Bool
 | 6,r,b=>b || decide (r.n=[]) || decide (64 < r.n.length)
 | 7,r,b=>b || decide (r.t=[]) || decide (64 < r.t.length)
 | _,_,b=>b
def visR:List Nat→Rc × Bool→Rc × Bool
 | [],x=>x
 |q::l,x=>visR l (clrR q x.1,badR q x.1 x.2)
theorem ix3_0 (a b c:Value) (w:World):(Instr.index 122 (.agg #[a,b,c]) (.int .i64 0)).run Try.prog w=.ok a w:=by kernel_rfl
theorem ix3_1 (a b c:Value) (w:World):(Instr.index 122 (.agg #[a,b,c]) (.int .i64 1)).run Try.prog w=.ok b w:=by kernel_rfl
theorem ix3_2 (a b c:Value) (w:World):(Instr.index 122 (.agg #[a,b,c]) (.int .i64 2)).run Try.prog w=.ok c w:=by kernel_rfl
theorem m_num (n : Nat) (a : Addr) (w : World) : (method (n + 1) 93 (.pointer (some a)) "chartroom/record.number").run Try.prog w = .ok (119, .pointer (some a)) w := by kernel_rfl
theorem m_txt (n : Nat) (a : Addr) (w : World) : (method (n + 1) 93 (.pointer (some a)) "chartroom/record.text").run Try.prog w = .ok (120, .pointer (some a)) w := by kernel_rfl
theorem a_num (n : Nat) (a : Addr) (w : World) : (nilAhead (n + 1) 93 (.pointer (some a)) "chartroom/record.number").run Try.prog w = .ok (some false) w := by kernel_rfl
theorem a_txt (n : Nat) (a : Addr) (w : World) : (nilAhead (n + 1) 93 (.pointer (some a)) "chartroom/record.text").run Try.prog w = .ok (some false) w := by kernel_rfl
def iOf:Value→Nat
 |.int _ n=>n.toNat
 | _=>0
structure Vs (w0 w:World) (br bt:Nat) (r:Rc) (bad:Bool):Prop where
 os:w.os=w0.os
 tape:w.tape=w0.tape
 output:w.output=w0.output
 size:w0.heap.size < w.heap.size
 hr:w.heap[br]? = some (.cells (recC r) 35 (0,0))
 ht:w.heap[bt]? = some (.cells #[.bool bad] 95 (0,0))
 ha:w.heap[w0.heap.size]? = some (.cells #[.pointer (some ⟨br,4,none⟩),.pointer (some ⟨br,5,none⟩),.pointer (some ⟨br,6,none⟩),.pointer (some ⟨br,7,none⟩),.pointer (some ⟨br,8,none⟩),.pointer (some ⟨br,9,none⟩)] 121 (0,0))
 block:∀k,k < w0.heap.size→k≠br→k≠bt→w.heap[k]? = w0.heap[k]?
theorem Vs.drew {w0 w:World}{br bt:Nat}{r:Rc}{bad:Bool} (h:Vs w0 w br bt r bad):Vs w0 w.drew br bt r bad:=⟨h.os,h.tape,h.output,h.size,h.hr,h.ht,h.ha,h.block⟩
theorem Vs.num {w0 w w':World}{br bt:Nat}{r r':Rc}{bad:Bool} (h:Vs w0 w br bt r bad) (hlr:br < w0.heap.size) (hlt:bt < w0.heap.size) (hne:br≠bt) {us:Array Value} (hw:Wr w w' br us 35) (hu:us=recC r'):Vs w0 w' br bt r' bad:=
 ⟨hw.os.trans h.os,hw.tape.trans h.tape,hw.output.trans h.output,by rw [hw.size];exact h.size,by rw [hw.here,hu],(hw.block bt (Ne.symm hne)).trans h.ht,(hw.block _ (by omega)).trans h.ha,fun k h1 h2 h3=>(hw.block k h2).trans (h.block k h1 h2 h3)⟩
theorem Vs.tak {w0 w w':World}{br bt:Nat}{r:Rc}{bad bad':Bool} (h:Vs w0 w br bt r bad) (hlr:br < w0.heap.size) (hlt:bt < w0.heap.size) (hne:br≠bt) (hw:Wr w w' bt #[.bool bad'] 95):Vs w0 w' br bt r bad':=
 ⟨hw.os.trans h.os,hw.tape.trans h.tape,hw.output.trans h.output,by rw [hw.size];exact h.size,(hw.block br hne).trans h.hr,hw.here,(hw.block _ (by omega)).trans h.ha,fun k h1 h2 h3=>(hw.block k h3).trans (h.block k h1 h2 h3)⟩
theorem v_walk (r:Rc) (bad:Bool) (ps:List Nat) (hps:∀q∈ps,q < 8) (hlen:ps.length≤8) (w:World) (br bt:Nat) (hne:br≠bt) (hlr:br < w.heap.size) (hlt:bt < w.heap.size) (A:Option Addr) (c:Nat) (hc:ps.length≤c)
  (hA : 0 < ps.length→∃b o,A=some ⟨b,o,none⟩∧b≠br∧b≠bt∧b < w.heap.size∧∀i (h:i < ps.length),w.cell? ⟨b,o+i,none⟩=some (.int .u8 ps[i]))
  (h1:w.heap[br]? = some (.cells (recC r) 35 (0,0))) (h2:w.heap[bt]? = some (.cells #[.bool bad] 95 (0,0))) :
  Calls Try.prog 40 #[.pointer (some ⟨br,0,none⟩),.iface 93 (.pointer (some ⟨bt,0,none⟩)),.slice A ps.length c] w fun e w'=>
  e=.returned (.tuple #[])∧Vs w w' br bt (visR ps ({ r with p:=0,i:=0,s:=0 },bad)).1 (visR ps ({ r with p:=0,i:=0,s:=0 },bad)).2:=by
 go_enter Try.func40,Try.ntmps40
 go_wp2
 go_region
 have hv0:Vs w ((w.alloc (Obj.cells #[.pointer (some ⟨br,4,none⟩),.pointer (some ⟨br,5,none⟩),.pointer (some ⟨br,6,none⟩),.pointer (some ⟨br,7,none⟩),.pointer (some ⟨br,8,none⟩),.pointer (some ⟨br,9,none⟩)] 121)).drew) br bt r bad:=by
  have g:∀k,k < w.heap.size→((w.alloc (Obj.cells #[.pointer (some ⟨br,4,none⟩),.pointer (some ⟨br,5,none⟩),.pointer (some ⟨br,6,none⟩),.pointer (some ⟨br,7,none⟩),.pointer (some ⟨br,8,none⟩),.pointer (some ⟨br,9,none⟩)] 121)).drew).heap[k]? = w.heap[k]?:=fun k hk=>by
   show (w.heap.push _)[k]? = _
   rw [Array.getElem?_push,if_neg (by omega)]
  refine⟨rfl,rfl,rfl,?_,(g br hlr).trans h1,(g bt hlt).trans h2,?_,fun k hk _ _=>g k hk⟩
  ·show w.heap.size < (w.heap.push _).size
   simp
  ·show (w.heap.push _)[w.heap.size]? = _
   simp
 generalize ((w.alloc (Obj.cells #[.pointer (some ⟨br,4,none⟩),.pointer (some ⟨br,5,none⟩),.pointer (some ⟨br,6,none⟩),.pointer (some ⟨br,7,none⟩),.pointer (some ⟨br,8,none⟩),.pointer (some ⟨br,9,none⟩)] 121)).drew)=W0 at hv0 ⊢
 go_wp2
 go_region
 replace hv0:=hv0.drew
 generalize W0.drew=W1 at hv0 ⊢
 go_wp2
 have j0:=ix3_0
 have j1:=ix3_1
 have j2:=ix3_2
 have j3:=m_num
 refine wp_loop_rounds 4 ?_
 rw [rounds_succ]
 go_wp2_with (go_at_call 119;refine (num_walk _ br 1 r.p (recC r) _ _ hv0.hr rfl).mono ?_)
 rintro e W2 ⟨rfl,hw⟩
 replace hv0:=hv0.num hlr hlt hne hw (r':={ r with p:=0 }) rfl
 clear hw
 go_wp2
 rw [rounds_succ]
 go_wp2_with (go_at_call 119;refine (num_walk _ br 2 r.i _ _ _ hv0.hr rfl).mono ?_)
 rintro e W3 ⟨rfl,hw⟩
 replace hv0:=hv0.num hlr hlt hne hw (r':={ r with p:=0,i:=0 }) rfl
 clear hw
 go_wp2
 rw [rounds_succ]
 go_wp2_with (go_at_call 119;refine (num_walk _ br 3 r.s _ _ _ hv0.hr rfl).mono ?_)
 rintro e W4 ⟨rfl,hw⟩
 replace hv0:=hv0.num hlr hlt hne hw (r':={ r with p:=0,i:=0,s:=0 }) rfl
 clear hw
 go_wp2
 rw [rounds_succ]
 go_wp2
 clear j0 j1 j2
 go_loopw [49] (fun vi wr=>∃(i:Nat) (x:Rc × Bool),i≤ps.length∧vi=.int .i64 i∧Vs w wr br bt x.1 x.2∧visR (ps.drop i) x=visR ps ({ r with p:=0,i:=0,s:=0 },bad)) (fun vi _=>ps.length - iOf vi)
 case atStart=>
  exact⟨0,({ r with p:=0,i:=0,s:=0 },bad),by omega,rfl,hv0,rfl⟩
 case round=>
  obtain⟨i,⟨x,bx⟩,hi,rfl,hv,hvis⟩:=hrel
  by_cases hlt':i < ps.length
  ·have hli:(i:Int) < (ps.length:Int):=by omega
   obtain⟨b,o,rfl,hb1,hb2,hb3,hcell⟩:=hA (by omega)
   have hq:=hps _ (List.getElem_mem hlt')
   have hcc:=hcell i hlt'
   have hcw:wr.cell? ⟨b,o+i,none⟩=some (.int .u8 ps[i]):=by
    rw [←hcc];unfold World.cell?;rw [hv.block b hb3 hb1 hb2]
   rw [List.drop_eq_getElem_cons hlt']at hvis
   clear hcc hcell hv0 hps
   revert hvis hcw hq
   generalize ps[i]=q
   intro hvis hcw hq
   have hq8:q=0∨q=1∨q=2∨q=3∨q=4∨q=5∨q=6∨q=7:=by omega
   have hme:ps.length - iOf (.int .i64 ((i+1:Nat):Int)) < ps.length - iOf (.int .i64 (i:Int)):=by
    show ps.length - (((i+1:Nat):Int)).toNat < ps.length - ((i:Int)).toNat
    omega
   have k1:=m_num
   have k2:=a_num
   have k3:=m_txt
   have k4:=a_txt
   rcases hq8 with rfl | rfl | rfl | rfl | rfl | rfl | rfl | rfl
   ·have hp:wr.cell? ⟨w.heap.size,0,none⟩=some (.pointer (some ⟨br,4,none⟩)):=by rw [Lib.cell_of_heap hv.ha];rfl
    go_wp2
    go_region_with (go_at_call 119;refine (num_walk _ br 4 x.e _ _ _ hv.drew.hr rfl).mono ?_;rintro e W2 ⟨rfl,hw⟩)
    all_goals
     replace hv:=hv.drew.num hlr hlt hne hw (r':=clrR 0 x) rfl
     go_wp2
     refine⟨⟨i+1,(_,_),hlt',congrArg (Value.int .i64) (by omega),hv,hvis⟩,hme⟩
   ·have hp:wr.cell? ⟨w.heap.size,1,none⟩=some (.pointer (some ⟨br,5,none⟩)):=by rw [Lib.cell_of_heap hv.ha];rfl
    go_wp2
    go_region_with (go_at_call 119;refine (num_walk _ br 5 x.u _ _ _ hv.drew.hr rfl).mono ?_;rintro e W2 ⟨rfl,hw⟩)
    all_goals
     replace hv:=hv.drew.num hlr hlt hne hw (r':=clrR 1 x) rfl
     go_wp2
     refine⟨⟨i+1,(_,_),hlt',congrArg (Value.int .i64) (by omega),hv,hvis⟩,hme⟩
   ·have hp:wr.cell? ⟨w.heap.size,2,none⟩=some (.pointer (some ⟨br,6,none⟩)):=by rw [Lib.cell_of_heap hv.ha];rfl
    go_wp2
    go_region_with (go_at_call 119;refine (num_walk _ br 6 x.v _ _ _ hv.drew.hr rfl).mono ?_;rintro e W2 ⟨rfl,hw⟩)
    all_goals
     replace hv:=hv.drew.num hlr hlt hne hw (r':=clrR 2 x) rfl
     go_wp2
     refine⟨⟨i+1,(_,_),hlt',congrArg (Value.int .i64) (by omega),hv,hvis⟩,hme⟩
   ·have hp:wr.cell? ⟨w.heap.size,3,none⟩=some (.pointer (some ⟨br,7,none⟩)):=by rw [Lib.cell_of_heap hv.ha];rfl
    go_wp2
    go_region_with (go_at_call 119;refine (num_walk _ br 7 x.c _ _ _ hv.drew.hr rfl).mono ?_;rintro e W2 ⟨rfl,hw⟩)
    all_goals
     replace hv:=hv.drew.num hlr hlt hne hw (r':=clrR 3 x) rfl
     go_wp2
     refine⟨⟨i+1,(_,_),hlt',congrArg (Value.int .i64) (by omega),hv,hvis⟩,hme⟩
   ·have hp:wr.cell? ⟨w.heap.size,4,none⟩=some (.pointer (some ⟨br,8,none⟩)):=by rw [Lib.cell_of_heap hv.ha];rfl
    go_wp2
    go_region_with (go_at_call 119;refine (num_walk _ br 8 x.z _ _ _ hv.drew.hr rfl).mono ?_;rintro e W2 ⟨rfl,hw⟩)
    all_goals
     replace hv:=hv.drew.num hlr hlt hne hw (r':=clrR 4 x) rfl
     go_wp2
     refine⟨⟨i+1,(_,_),hlt',congrArg (Value.int .i64) (by omega),hv,hvis⟩,hme⟩
   ·have hp:wr.cell? ⟨w.heap.size,5,none⟩=some (.pointer (some ⟨br,9,none⟩)):=by rw [Lib.cell_of_heap hv.ha];rfl
    go_wp2
    go_region_with (go_at_call 119;refine (num_walk _ br 9 x.m _ _ _ hv.drew.hr rfl).mono ?_;rintro e W2 ⟨rfl,hw⟩)
    all_goals
     replace hv:=hv.drew.num hlr hlt hne hw (r':=clrR 5 x) rfl
     go_wp2
     refine⟨⟨i+1,(_,_),hlt',congrArg (Value.int .i64) (by omega),hv,hvis⟩,hme⟩
   ·go_wp2
    go_region_with (go_at_call 120;refine (txt_walk br 10 bt x.n bx _ _ _ _ hne hv.drew.hr rfl hv.drew.ht).mono ?_;rintro e W2 ⟨rfl,W3,hw,hw2⟩)
    all_goals
     replace hv:=(hv.drew.tak hlr hlt hne hw).num hlr hlt hne hw2 (r':=clrR 6 x) rfl
     go_wp2
     refine⟨⟨i+1,(_,_),hlt',congrArg (Value.int .i64) (by omega),hv,hvis⟩,hme⟩
   ·go_wp2
    go_region_with (go_at_call 120;refine (txt_walk br 11 bt x.t bx _ _ _ _ hne hv.drew.hr rfl hv.drew.ht).mono ?_;rintro e W2 ⟨rfl,W3,hw,hw2⟩)
    all_goals
     replace hv:=(hv.drew.tak hlr hlt hne hw).num hlr hlt hne hw2 (r':=clrR 7 x) rfl
     go_wp2
     refine⟨⟨i+1,(_,_),hlt',congrArg (Value.int .i64) (by omega),hv,hvis⟩,hme⟩
  ·have hia:i=ps.length:=by omega
   subst hia
   rw [List.drop_eq_nil_of_le (Nat.le_refl ps.length)]at hvis
   go_wp2
   refine⟨rfl,_,by kernel_rfl,rfl,?_⟩
   rw [←hvis]
   exact hv
def partsK:List (Int × List Nat):=[(1,[0,1]),(2,[0,1]),(3,[0]),(4,[0,2,4,5]),(5,[2,1]),(6,[2]),(7,[]),(8,[3]),(9,[6]),(10,[6]),(11,[6,7])]
def findK (k:Int):List (Int × List Nat)→Option (List Nat)
 | []=>none
 |x::l=>if k=x.1 then some x.2 else findK k l
def rightR (r:Rc):Bool:=match findK r.k partsK with
 |none=>false
 |some ps=>!decide (65535 < r.z) && !decide (4294967295 < r.m) && !(visR ps ({ r with p:=0,i:=0,s:=0 },false)).2 && decide ((visR ps ({ r with p:=0,i:=0,s:=0 },false)).1=⟨r.k,0,0,0,0,0,0,0,0,0,[],[]⟩)
theorem getK (k:Int):getV (.int .u8 k) kindsV=(findK k partsK).map fun l=>partV (l.map fun n:Nat=>(n:Int)):=by
 have:∀l:List (Int × List Nat),getV (.int .u8 k) (l.map fun x=>(PV.int .u8 x.1,partV (x.2.map fun n:Nat=>(n:Int))))=(findK k l).map fun l=>partV (l.map fun n:Nat=>(n:Int)):=by
  intro l
  induction l with
  |nil=>rfl
  |cons x l ih=>
   rw [List.map_cons,getV_int,ih,findK]
   split<;>rfl
 exact this partsK
theorem look_kinds {S:Nat→Prop}{w w':World}{v:Value} (h:RPV S w v (.mv kindsV)) (k:Int) (hw:w'.heap=w.heap):∃u,(Instr.lookup 91 v (.int .u8 k) true).run Try.prog w'=.ok (.tuple #[u,.bool (findK k partsK).isSome]) w' ∧
  RPV S w u (((findK k partsK).map fun l=>partV (l.map fun n:Nat=>(n:Int))).getD .nil):=by
 cases h with
 |mv b us c es g1 g2 g3 g4 g5 g6=>
  have hm:mapT Try.prog 91=some (5,89):=by kernel_rfl
  have hsrt:srtT Try.prog 5=some 6:=by kernel_rfl
  have hz:zeroV Try.prog 89=some (.slice none 0 0):=by kernel_rfl
  have hmt:=mapT_inv hm
  obtain⟨d,hdk,hkey⟩:=srtT_key hsrt
  have hp:srt (.int .u8 k)=6:=rfl
  have hks:keysV 6 kindsV:=by simp [kindsV,keysV_cons,srt,kIdx]
  have hzr:(zeroValue 89).run Try.prog w'=.ok (.slice none 0 0) w':=by
   unfold zeroV at hz
   obtain⟨i,hi,hz⟩:=Option.bind_eq_some_iff.1 hz
   simp [zeroValue,typeInfo,hi,hz]
  have hh:w'.heap[b]? = some (.map us c):=by rw [hw];exact g2
  have hfind:=find_mapV hkey hp (by decide) us.toList kindsV 0 hks g4 fun i e u h1 h2=>(g5 i e u h1 h2).1
  have gk:=getK k
  rcases hfind with ⟨h1,h2,_⟩ | ⟨j,e,u,h1,h2,h3,h4,h5,_⟩
  ·rw [h2]at gk
   cases hf:findK k partsK with
   |some l=>rw [hf]at gk;cases gk
   |none=>
    refine⟨.slice none 0 0,?_,.nil⟩
    show (Instr.lookup 91 (.map (some b)) (Ab.keyV (.int .u8 k)) true).run Try.prog w'=_
    simp [Instr.lookup,run_underlying hmt,MapKept.run_getObj_map hh,MapKept.run_checkKey hdk (hkey _ hp),MapKept.run_findKey hdk h1,hzr,Result.andThen]
  ·rw [h5]at gk
   cases hf:findK k partsK with
   |none=>rw [hf]at gk;cases gk
   |some l=>
    rw [hf]at gk
    refine⟨u.val,?_,?_⟩
    ·show (Instr.lookup 91 (.map (some b)) (Ab.keyV (.int .u8 k)) true).run Try.prog w'=_
     simp [Instr.lookup,run_underlying hmt,MapKept.run_getObj_map hh,MapKept.run_checkKey hdk (hkey _ hp),MapKept.run_findKey hdk h1,Result.andThen]
    ·simp only [Option.map_some,Option.some.injEq]at gk
     rw [Option.map_some,Option.getD_some,←gk]
     exact g6 j e u h2 h3
theorem kinds_calls (w:World):Calls Try.prog 39 #[] w fun e w'=>∃v,e=.returned v∧RPV (fun b=>w.heap.size≤b∧b < w'.heap.size) w' v (.mv kindsV)∧Below w.heap.size w w':=by
 have hc:=c_Kinds [] True _ rfl trivial
 have h:=hc w (fun _=>False) (fun _=>.nilIface) [] (fun b hb=>hb.elim) (fun t b ⟨o,ho⟩=>by simp [lookO]at ho)
  ⟨fun t o ho=>by simp [lookO]at ho,fun t t' b ⟨o,ho⟩=>by simp [lookO]at ho⟩ rfl fun i v x hi=>by simp at hi
 refine h.mono ?_
 rintro e w' ⟨v,β',rfl,hf,_,_,hv⟩
 exact⟨v,rfl,hv.pv_inv.mono fun b hb=>⟨⟨hb.1.elim False.elim id,hb.2.1⟩,rfl⟩,hf.os,hf.tape,hf.output,hf.size,fun k hk=>hf.block k hk fun ⟨t,o,ho,_⟩=>by simp [lookO]at ho⟩
theorem rec_cell {W:World}{b:Nat}{r:Rc} (h:W.heap[b]? = some (.cells (recC r) 35 (0,0))):W.cell? ⟨b,0,none⟩=some (.int .u8 r.k)∧W.cell? ⟨b,1,none⟩=some (.int .u64 r.p)∧W.cell? ⟨b,2,none⟩=some (.int .u64 r.i)∧W.cell? ⟨b,3,none⟩=some (.int .u64 r.s)∧W.cell? ⟨b,4,none⟩=some (.int .u64 r.e)∧W.cell? ⟨b,5,none⟩=some (.int .u64 r.u)∧W.cell? ⟨b,6,none⟩=some (.int .u64 r.v)∧W.cell? ⟨b,7,none⟩=some (.int .u64 r.c)∧W.cell? ⟨b,8,none⟩=some (.int .u64 r.z)∧W.cell? ⟨b,9,none⟩=some (.int .u64 r.m)∧W.cell? ⟨b,10,none⟩=some (.string ⟨r.n.toArray⟩)∧W.cell? ⟨b,11,none⟩=some (.string ⟨r.t.toArray⟩):=by
 have g:∀i v,(recC r)[i]? = some v→W.cell? ⟨b,i,none⟩=some v:=fun i v hv=>by rw [Lib.cell_of_heap h];exact hv
 exact⟨g 0 _ rfl,g 1 _ rfl,g 2 _ rfl,g 3 _ rfl,g 4 _ rfl,g 5 _ rfl,g 6 _ rfl,g 7 _ rfl,g 8 _ rfl,g 9 _ rfl,g 10 _ rfl,g 11 _ rfl⟩
theorem part_slice {n:Nat}{W:World}{u:Value}{ps:List Nat} (h:RPV (fun b=>n≤b∧b < W.heap.size) W u (partV (ps.map fun n:Nat=>(n:Int)))):∃A c,u=.slice A ps.length c∧ps.length≤c ∧
  (0 < ps.length→∃b o,A=some ⟨b,o,none⟩∧n≤b∧b < W.heap.size∧∀i (h:i < ps.length),W.cell? ⟨b,o+i,none⟩=some (.int .u8 ps[i])):=by
 obtain⟨A,c,hv,hc,hne⟩:=RPV.ro_inv h
 simp only [List.length_map]at hv hc
 refine⟨A,c,hv,hc,fun hp=>?_⟩
 obtain⟨ad,sz,us,rfl,g1,g2,g3,g4,g5⟩:=hne (by intro e;have:=congrArg List.length e;simp only [List.length_map,List.length_nil]at this;omega)
 have hsz:sz=1:=by
  rw [←g2 [.int .u8 ((ps[0]:Nat):Int)] (by simp only [List.map_map,List.mem_map];exact⟨ps[0],List.getElem_mem hp,rfl⟩)]
  rfl
 subst hsz
 have hcl:∀i (h:i < ps.length),W.cell? (ad.add i)=some (.int .u8 ps[i]):=by
  intro i hi
  have hr:((ps.map fun n:Nat=>(n:Int)).map fun n=>[PV.int .u8 n])[i]? = some [.int .u8 ps[i]]:=by simp [hi]
  have h1:=g3 i 0 (by simpa using hi) (by omega)
  have h2:=(g5 i 0 _ _ hr rfl).int_inv
  rw [h2]at h1
  simpa using h1
 obtain⟨b,o,sp⟩:=ad
 have hsp:sp=none:=by
  have hx:=hcl 0 hp
  cases sp with
  |none=>rfl
  |some s=>
   exfalso
   simp [Addr.add,World.cell?]at hx
   try (split at hx<;>simp at hx)
 subst hsp
 exact⟨b,o,rfl,g1.1,g1.2,fun i hi=>by have:=hcl i hi;rw [Addr.add_lit]at this;exact this⟩
theorem two_size (W:World) (o1 o2:Obj):((W.alloc o1).alloc o2).heap.size=W.heap.size+2:=by
 show ((W.heap.push _).push _).size=_
 simp
theorem two_1 (W:World) (o1 o2:Obj):((W.alloc o1).alloc o2).heap[W.heap.size+1]? = some o2:=by
 show ((W.heap.push _).push _)[W.heap.size+1]? = _
 rw [Array.getElem?_push,if_pos (by simp)]
theorem two_0 (W:World) (o1 o2:Obj):((W.alloc o1).alloc o2).heap[W.heap.size]? = some o1:=by
 show ((W.heap.push _).push _)[W.heap.size]? = _
 rw [Array.getElem?_push,if_neg (by simp),Array.getElem?_push,if_pos rfl]
theorem two_old (W:World) (o1 o2:Obj) (k:Nat) (hk:k < W.heap.size):((W.alloc o1).alloc o2).heap[k]? = W.heap[k]?:=by
 show ((W.heap.push _).push _)[k]? = _
 rw [Array.getElem?_push,if_neg (by simp;omega),Array.getElem?_push,if_neg (by omega)]
theorem find_ok {k:Int}{ps:List Nat} (h:findK k partsK=some ps):ps.length≤8∧∀q∈ps,q < 8:=by
 simp only [partsK,findK]at h
 repeat' split at h
 all_goals first | cases h;decide | cases h
theorem right_walk (r:Rc) (w:World):Calls Try.prog 20 #[.agg (recC r)] w fun e w'=>e=.returned (.bool (rightR r))∧Below w.heap.size w w':=by
 go_enter Try.func20,Try.ntmps20
 have hrec:recC r = #[.int .u8 r.k,.int .u64 r.p,.int .u64 r.i,.int .u64 r.s,.int .u64 r.e,.int .u64 r.u,.int .u64 r.v,.int .u64 r.c,.int .u64 r.z,.int .u64 r.m,.string ⟨r.n.toArray⟩,.string ⟨r.t.toArray⟩]:=rfl
 go_wp2
 have h0:(w.alloc (Obj.cells (recC r) 35)).heap[w.heap.size]? = some (.cells (recC r) 35 (0,0)):=by
  show (w.heap.push _)[w.heap.size]? = _
  simp
 have hb0:Below w.heap.size w (w.alloc (Obj.cells (recC r) 35)):=(Below.refl _ w).alloc (Nat.le_refl _) _
 rw [hrec]at h0 hb0
 revert h0 hb0
 generalize w.alloc (Obj.cells #[.int .u8 r.k,.int .u64 r.p,.int .u64 r.i,.int .u64 r.s,.int .u64 r.e,.int .u64 r.u,.int .u64 r.v,.int .u64 r.c,.int .u64 r.z,.int .u64 r.m,.string ⟨r.n.toArray⟩,.string ⟨r.t.toArray⟩] 35)=W0
 intro h0 hb0
 rw [←hrec]at h0
 have c1:=(rec_cell h0).1
 clear hrec
 generalize hbb:w.heap.size=b at h0 hb0 c1 ⊢
 have bel:∀W1:World,Below W0.heap.size W0 W1→Below b w W1:=fun W1 hb=>⟨hb.os.trans hb0.os,hb.tape.trans hb0.tape,hb.output.trans hb0.output,Nat.le_trans hb0.size hb.size,fun k hk=>(hb.block k (Nat.lt_of_lt_of_le (hbb ▸ hk) hb0.size)).trans (hb0.block k hk)⟩
 cases hf:findK r.k partsK with
 |none=>
  have hR:rightR r=false:=by simp [rightR,hf]
  go_region_with (go_at_call 39;refine (kinds_calls _).mono ?_;rintro e W1 ⟨v,rfl,hv,hb⟩;obtain⟨u,hl,hu⟩:=look_kinds hv r.k (w':=W1) rfl;replace hb:Below W0.heap.size W0 W1:=⟨hb.os,hb.tape,hb.output,hb.size,hb.block⟩;have h1:W1.heap[b]? = some (.cells (recC r) 35 (0,0)):=(hb.block b (Array.getElem?_eq_some_iff.1 h0).1).trans h0;have c2:=(rec_cell h1).1;rw [hf]at hl)
  all_goals
   go_wp2
   go_ret
   exact⟨by rw [hR];rfl,hbb ▸ bel _ hb⟩
 |some ps=>
  obtain⟨hl8,hq8⟩:=find_ok hf
  by_cases hz : 65535 < r.z
  ·have hR:rightR r=false:=by simp [rightR,hf,hz]
   go_region_with (go_at_call 39;refine (kinds_calls _).mono ?_;rintro e W1 ⟨v,rfl,hv,hb⟩;obtain⟨u,hl,hu⟩:=look_kinds hv r.k (w':=W1) rfl;replace hb:Below W0.heap.size W0 W1:=⟨hb.os,hb.tape,hb.output,hb.size,hb.block⟩;have h1:W1.heap[b]? = some (.cells (recC r) 35 (0,0)):=(hb.block b (Array.getElem?_eq_some_iff.1 h0).1).trans h0;have hlt:=(Array.getElem?_eq_some_iff.1 h1).1;obtain⟨c2,d1,d2,d3,d4,d5,d6,d7,c3,c4,d8,d9⟩:=rec_cell h1;rw [hf]at hl)
   all_goals
    go_wp2
    go_ret
    exact⟨by rw [hR];rfl,hbb ▸ bel _ hb⟩
  by_cases hm : 4294967295 < r.m
  ·have hR:rightR r=false:=by simp [rightR,hf,hm]
   go_region_with (go_at_call 39;refine (kinds_calls _).mono ?_;rintro e W1 ⟨v,rfl,hv,hb⟩;obtain⟨u,hl,hu⟩:=look_kinds hv r.k (w':=W1) rfl;replace hb:Below W0.heap.size W0 W1:=⟨hb.os,hb.tape,hb.output,hb.size,hb.block⟩;have h1:W1.heap[b]? = some (.cells (recC r) 35 (0,0)):=(hb.block b (Array.getElem?_eq_some_iff.1 h0).1).trans h0;have hlt:=(Array.getElem?_eq_some_iff.1 h1).1;obtain⟨c2,d1,d2,d3,d4,d5,d6,d7,c3,c4,d8,d9⟩:=rec_cell h1;rw [hf]at hl)
   all_goals
    go_wp2
    go_ret
    exact⟨by rw [hR];rfl,hbb ▸ bel _ hb⟩
  have hR:rightR r=(!(visR ps ({ r with p:=0,i:=0,s:=0 },false)).2 && decide ((visR ps ({ r with p:=0,i:=0,s:=0 },false)).1=⟨r.k,0,0,0,0,0,0,0,0,0,[],[]⟩)):=by
   unfold rightR;rw [hf];dsimp only;rw [decide_eq_false hz,decide_eq_false hm];rfl
  go_region_with (go_at_call 39;refine (kinds_calls _).mono ?_;rintro e W1 ⟨v,rfl,hv,hb⟩;obtain⟨u,hl,hu⟩:=look_kinds hv r.k (w':=W1) rfl;replace hb:Below W0.heap.size W0 W1:=⟨hb.os,hb.tape,hb.output,hb.size,hb.block⟩;have h1:W1.heap[b]? = some (.cells (recC r) 35 (0,0)):=(hb.block b (Array.getElem?_eq_some_iff.1 h0).1).trans h0;have hlt:=(Array.getElem?_eq_some_iff.1 h1).1;obtain⟨c2,d1,d2,d3,d4,d5,d6,d7,c3,c4,d8,d9⟩:=rec_cell h1;rw [hf]at hl)
  all_goals
   rw [hf]at hu
   obtain⟨A,c,rfl,hc,hA⟩:=part_slice hu
   have t2:=two_old W1 (Obj.cells #[.bool false] 95) (Obj.cells (recC r) 35)
   go_wp2_with (go_at_call 40;refine (v_walk r false ps hq8 hl8 _ (W1.heap.size+1) W1.heap.size (by omega) ?hlr ?hlt A c hc ?hA ?h1 ?h2).mono ?_)
   case hlr=>rw [two_size];omega
   case hlt=>rw [two_size];omega
   case hA=>
    intro hp
    obtain⟨bb,o,rfl,e1,e2,e3⟩:=hA hp
    refine⟨bb,o,rfl,by omega,by omega,?_,fun i hi=>?_⟩
    ·rw [two_size];omega
    ·rw [←e3 i hi];unfold World.cell?;rw [←t2 bb e2];rfl
   case h1=>exact two_1 _ _ _
   case h2=>exact two_0 _ _ _
   rintro e W2 ⟨rfl,hV⟩
   have s1:W2.heap[b]? = some (.cells (recC r) 35 (0,0)):=by
    rw [hV.block b (by rw [two_size];omega) (by omega) (by omega)]
    exact (t2 b hlt).trans h1
   have s2:W2.cell? ⟨W1.heap.size,0,none⟩=some (.bool (visR ps ({ r with p:=0,i:=0,s:=0 },false)).2):=by rw [Lib.cell_of_heap hV.ht];rfl
   have B1:=bel _ hb
   have bel2:Below b w W2:=⟨hV.os.trans B1.os,hV.tape.trans B1.tape,hV.output.trans B1.output,by have:=hV.size;rw [two_size]at this;omega,fun k hk=>(hV.block k (by rw [two_size];omega) (by omega) (by omega)).trans ((t2 k (by omega)).trans (B1.block k hk))⟩
   have hr2:=hV.hr
   clear hV t2 d1 d2 d3 d4 d5 d6 d7 d8 d9 hA c2 c3 c4 c1 hv hl hu h1
   revert hR s2 hr2
   generalize visR ps ({ r with p:=0,i:=0,s:=0 },false)=x
   obtain⟨⟨xk,xp,xi,xs,xe,xu,xv,xc,xz,xm,xn,xt⟩,bx⟩:=x
   intro hR s2 hr2
   have c1:=(rec_cell s1).1
   obtain⟨d0,d1,d2,d3,d4,d5,d6,d7,d8,d9,d10,d11⟩:=rec_cell hr2
   cases bx with
   |true=>
    go_wp2
    go_ret
    exact⟨by rw [hR];rfl,hbb ▸ bel2⟩
   |false=>
    go_wp2
    all_goals go_ret
    all_goals refine⟨?_,hbb ▸ bel2⟩
    all_goals rw [hR]
    all_goals simp [*]
theorem con_one {P:Program}{f:FuncId}{args:List AV}{p:PV}{u:Value} (h:∀(w:World) (S:Nat→Prop) (vals:List Value),vals.length=args.length →
   (∀(i:Nat) (x:Value) (y:AV),vals[i]? = some x→args[i]? = some y→RV P S w (fun _=>.nilIface) (fun _=>False) x y) →
   Calls P f vals.toArray w fun e w'=>e=.returned u∧Below w.heap.size w w')
  (hu:∀S w,RPV S w u p):Con P f [] args [] (.pv p):=by
 intro w S0 β vals hS0 hlt hheap hvl hvr
 have hno:∀t,unionO (lookO []) (fun t=>frO (cellAt (.pv p) t)) t=none:=by
  intro t
  show frO (cellAt (.pv p) t)=none
  simp only [cellAt,cellAt1]
  split
  ·split<;>rfl
  ·rfl
 refine (h w (okS S0 w.heap.size β (lookO []) w) vals hvl fun i x y hx hy=>?_).mono ?_
 ·exact (hvr i x y hx hy).mono (fun b hb=>⟨hb,rfl⟩) (fun t ⟨o,ho⟩=>by simp [lookO]at ho)
 ·rintro e w' ⟨rfl,hb⟩
  refine⟨_,fun _=>.nilIface,rfl,⟨hb.os,hb.tape,hb.output,hb.size,fun k hk _=>hb.block k hk⟩,⟨fun t o ho=>?_,fun t t' b ⟨o,ho⟩=>?_⟩,fun t b ⟨o,ho⟩=>?_,.pv _ _ (hu _ _)⟩
  ·rw [hno]at ho;cases ho
  ·rw [hno]at ho;cases ho
  ·rw [hno]at ho;cases ho
def GRight:List AV→Option (Prop × AV)
 | [.agg [.pv (.int .u8 k),.pv (.int .u64 p),.pv (.int .u64 i),.pv (.int .u64 s),.pv (.int .u64 e),.pv (.int .u64 u),.pv (.int .u64 v),.pv (.int .u64 c),.pv (.int .u64 z),.pv (.int .u64 m),.pv (.str n),.pv (.str t)]]=>some (True,.pv (.bool (rightR ⟨k,p,i,s,e,u,v,c,z,m,n,t⟩)))
 | _=>none
@[simp] theorem GRight_eq (k p i s e u v c z m:Int) (n t:List UInt8):GRight [.agg [.pv (.int .u8 k),.pv (.int .u64 p),.pv (.int .u64 i),.pv (.int .u64 s),.pv (.int .u64 e),.pv (.int .u64 u),.pv (.int .u64 v),.pv (.int .u64 c),.pv (.int .u64 z),.pv (.int .u64 m),.pv (.str n),.pv (.str t)]]=some (True,.pv (.bool (rightR ⟨k,p,i,s,e,u,v,c,z,m,n,t⟩))):=rfl
theorem c_Right:ConT Try.prog 20 GRight:=by
 intro ys φ r h hφ
 unfold GRight at h
 split at h
 ·rename_i k p i s e u v c z m n t
  cases h
  refine con_one (u:=.bool (rightR ⟨k,p,i,s,e,u,v,c,z,m,n,t⟩)) (fun w S vals hvl hvr=>?_) fun S w=>.bool _
  match vals,hvl with
  | [v0],_=>
   obtain⟨us,rfl,hl,hus⟩:=(hvr 0 v0 _ rfl rfl).agg_inv
   match us,hl with
   | [a0,a1,a2,a3,a4,a5,a6,a7,a8,a9,a10,a11],_=>
    cases (hus 0 _ a0 rfl rfl).int_inv
    cases (hus 1 _ a1 rfl rfl).int_inv
    cases (hus 2 _ a2 rfl rfl).int_inv
    cases (hus 3 _ a3 rfl rfl).int_inv
    cases (hus 4 _ a4 rfl rfl).int_inv
    cases (hus 5 _ a5 rfl rfl).int_inv
    cases (hus 6 _ a6 rfl rfl).int_inv
    cases (hus 7 _ a7 rfl rfl).int_inv
    cases (hus 8 _ a8 rfl rfl).int_inv
    cases (hus 9 _ a9 rfl rfl).int_inv
    cases (hus 10 _ a10 rfl rfl).str_inv
    cases (hus 11 _ a11 rfl rfl).str_inv
    exact right_walk ⟨k,p,i,s,e,u,v,c,z,m,n,t⟩ w
 ·cases h
noncomputable def doA (a:Ap):Option (Ap × Bool):=
 if a.r.k=1 then some (grantA a) else if a.r.k=2 then some (renewA a) else if a.r.k=3 then some (releaseA a) else if a.r.k=4 then some (commitA a) else if a.r.k=5 then some (pinA a) else if a.r.k=6 then some (unpinA a) else if a.r.k=7 then some (sealA a) else if a.r.k=8 then some (compactA a) else none
def cellsDf (a:Ap):List AV:=[.pv (.int .u64 a.l.e),.pv (.int .u64 a.l.p),.pv (.int .u64 a.l.i),.pv (.int .u64 a.l.u),.pv (.bool a.l.h),.fr 86 (rowsP a.ps),.fr 61 (rowsV a.vs),.pv (.bool a.sl)]
noncomputable def applyA (a:Ap):Ap × Int:=match doA a with
 |none=>(a,220)
 |some x=>if rightR a.r=true∧x.2=true then (x.1,0) else (a,220)
def okA (a:Ap):Prop:=okN a.l.e∧a.ps.length < 50∧a.vs.length≤100000∧(∀e∈a.ps,okP' e)∧(∀v∈a.vs,okV v)∧okN a.r.c∧okN a.s∧okV (newVn a)
noncomputable def GApp:List AV→Option (Prop × AV)
 | [.agg [.pv (.int .u64 e),.pv (.int .u64 p),.pv (.int .u64 i),.pv (.int .u64 u),.pv (.bool h),.pv (.ro a),.pv (.ro b),.pv (.bool sl)],.agg [.pv (.int .u8 k),.pv (.int .u64 rp),.pv (.int .u64 ri),.pv (.int .u64 rs),.pv (.int .u64 re),.pv (.int .u64 ru),.pv (.int .u64 rv),.pv (.int .u64 rc),.pv (.int .u64 rz),.pv (.int .u64 rm),.pv (.str rn),.pv (.str rt)],.pv (.int .u64 n),.pv (.int .u64 s)]=>(dec rowP a).bind fun ps=>(dec rowV b).map fun vs=>
  (okA ⟨⟨e,p,i,u,h⟩,ps,vs,sl,⟨k,rp,ri,rs,re,ru,rv,rc,rz,rm,rn,rt⟩,n,s⟩,.tup [.agg (cellsDf (applyA ⟨⟨e,p,i,u,h⟩,ps,vs,sl,⟨k,rp,ri,rs,re,ru,rv,rc,rz,rm,rn,rt⟩,n,s⟩).1),.pv (.int .i64 (applyA ⟨⟨e,p,i,u,h⟩,ps,vs,sl,⟨k,rp,ri,rs,re,ru,rv,rc,rz,rm,rn,rt⟩,n,s⟩).2)])
 | _=>none
theorem c_App:ConT Try.prog 7 GApp:=by
 intro ys φ r h hφ
 unfold GApp at h
 split at h
 ·rename_i e p i u h' ra rb sl k rp ri rs re ru rv rc rz rm rn rt n s
  obtain⟨ps,hp,h⟩:=Option.bind_eq_some_iff.1 h
  obtain⟨vs,hv,h⟩:=Option.map_eq_some_iff.1 h
  cases h
  cases dec_rowsP_inv hp
  cases dec_rowsV_inv hv
  obtain⟨h1,h2,h3,h4,h5,h6,h7,h8⟩:=hφ
  have h2:ps.length < 50:=h2
  have h3:vs.length≤100000:=h3
  have h9:ps.length≤100000:=by omega
  refine con_of (tab_cons c_Cop (tab_cons c_Does (tab_cons c_Right (tab_consG (ks:=[2]) c_grantA (by kernel_rfl) (tab_consG (ks:=[2]) c_renewA (by kernel_rfl) (tab_consG (ks:=[2]) c_releaseA (by kernel_rfl) (tab_consG (ks:=[2]) c_commitA (by kernel_rfl) (tab_consG (ks:=[2]) c_pinA (by kernel_rfl) (tab_consG (ks:=[2]) c_unpinA (by kernel_rfl) (tab_consG (ks:=[2]) c_sealA (by kernel_rfl) (tab_consG (ks:=[2]) c_compactA (by kernel_rfl) tab_nil))))))))))) (by kernel_rfl) fn7 (by simp) ?_
  unfold body7
  apply vwp_cut
  ·simp (config := { maxSteps := 3000000 })
   exact⟨rfl,rfl⟩
  apply vwp_cut
  ·simp (config := { maxSteps := 3000000 }) [h9,h3]
   exact⟨rfl,rfl⟩
  have hE:okN e:=h1
  have hP:(∀e∈ps,okP' e)=True:=eq_true h4
  have hV:(∀v∈vs,okV v)=True:=eq_true h5
  have hC:okN rc:=h6
  have hS:okN s:=h7
  have hP6:ps.length≤1000000:=by omega
  have hV6:vs.length≤1000000:=by omega
  clear hp hv
  have hk:k=1∨k=2∨k=3∨k=4∨k=5∨k=6∨k=7∨k=8∨((k≠1∧k≠2∧k≠3∧k≠4)∧k≠5∧k≠6∧k≠7∧k≠8):=by omega
  rcases hk with rfl | rfl | rfl | rfl | rfl | rfl | rfl | rfl | ⟨⟨k1,k2,k3,k4⟩,k5,k6,k7,k8⟩
  ·have hA:applyA ⟨⟨e,p,i,u,h'⟩,ps,vs,sl,⟨1,rp,ri,rs,re,ru,rv,rc,rz,rm,rn,rt⟩,n,s⟩=if rightR ⟨1,rp,ri,rs,re,ru,rv,rc,rz,rm,rn,rt⟩=true∧(grantA ⟨⟨e,p,i,u,h'⟩,ps,vs,sl,⟨1,rp,ri,rs,re,ru,rv,rc,rz,rm,rn,rt⟩,n,s⟩).2=true then ((grantA ⟨⟨e,p,i,u,h'⟩,ps,vs,sl,⟨1,rp,ri,rs,re,ru,rv,rc,rz,rm,rn,rt⟩,n,s⟩).1,0) else (⟨⟨e,p,i,u,h'⟩,ps,vs,sl,⟨1,rp,ri,rs,re,ru,rv,rc,rz,rm,rn,rt⟩,n,s⟩,220):=rfl
   rw [hA]
   apply vwp_cut
   ·simp (config := { maxSteps := 3000000 }) [doesV,fnV]
    exact⟨rfl,rfl,rfl⟩
   generalize hx:grantA ⟨⟨e,p,i,u,h'⟩,ps,vs,sl,⟨1,rp,ri,rs,re,ru,rv,rc,rz,rm,rn,rt⟩,n,s⟩=x
   obtain⟨⟨⟨e',p',i',u',h''⟩,ps',vs',sl',⟨k',rp',ri',rs',re',ru',rv',rc',rz',rm',rn',rt'⟩,n',s'⟩,b⟩:=x
   rw [vwp_seq]
   cases hR:rightR ⟨1,rp,ri,rs,re,ru,rv,rc,rz,rm,rn,rt⟩ with
   |false=>
    apply vwp_cut
    ·simp (config := { maxSteps := 3000000 }) [hR]
     exact⟨rfl,rfl⟩
    simp (config := { maxSteps := 3000000 }) [hR,h9,h3,cellsDf]
   |true=>
    apply vwp_cut
    ·simp (config := { maxSteps := 3000000 }) [hR,hx,apT,hE]
     exact⟨by kernel_rfl,rfl,rfl⟩
    cases b with
    |false=>simp (config := { maxSteps := 3000000 }) [hR,h9,h3,cellsDf]
    |true=>simp (config := { maxSteps := 3000000 }) [hR,cellsDf]
  ·have hA:applyA ⟨⟨e,p,i,u,h'⟩,ps,vs,sl,⟨2,rp,ri,rs,re,ru,rv,rc,rz,rm,rn,rt⟩,n,s⟩=if rightR ⟨2,rp,ri,rs,re,ru,rv,rc,rz,rm,rn,rt⟩=true∧(renewA ⟨⟨e,p,i,u,h'⟩,ps,vs,sl,⟨2,rp,ri,rs,re,ru,rv,rc,rz,rm,rn,rt⟩,n,s⟩).2=true then ((renewA ⟨⟨e,p,i,u,h'⟩,ps,vs,sl,⟨2,rp,ri,rs,re,ru,rv,rc,rz,rm,rn,rt⟩,n,s⟩).1,0) else (⟨⟨e,p,i,u,h'⟩,ps,vs,sl,⟨2,rp,ri,rs,re,ru,rv,rc,rz,rm,rn,rt⟩,n,s⟩,220):=rfl
   rw [hA]
   apply vwp_cut
   ·simp (config := { maxSteps := 3000000 }) [doesV,fnV]
    exact⟨rfl,rfl,rfl⟩
   generalize hx:renewA ⟨⟨e,p,i,u,h'⟩,ps,vs,sl,⟨2,rp,ri,rs,re,ru,rv,rc,rz,rm,rn,rt⟩,n,s⟩=x
   obtain⟨⟨⟨e',p',i',u',h''⟩,ps',vs',sl',⟨k',rp',ri',rs',re',ru',rv',rc',rz',rm',rn',rt'⟩,n',s'⟩,b⟩:=x
   rw [vwp_seq]
   cases hR:rightR ⟨2,rp,ri,rs,re,ru,rv,rc,rz,rm,rn,rt⟩ with
   |false=>
    apply vwp_cut
    ·simp (config := { maxSteps := 3000000 }) [hR]
     exact⟨rfl,rfl⟩
    simp (config := { maxSteps := 3000000 }) [hR,h9,h3,cellsDf]
   |true=>
    apply vwp_cut
    ·simp (config := { maxSteps := 3000000 }) [hR,hx,apT]
     exact⟨by kernel_rfl,rfl,rfl⟩
    cases b with
    |false=>simp (config := { maxSteps := 3000000 }) [hR,h9,h3,cellsDf]
    |true=>simp (config := { maxSteps := 3000000 }) [hR,cellsDf]
  ·have hA:applyA ⟨⟨e,p,i,u,h'⟩,ps,vs,sl,⟨3,rp,ri,rs,re,ru,rv,rc,rz,rm,rn,rt⟩,n,s⟩=if rightR ⟨3,rp,ri,rs,re,ru,rv,rc,rz,rm,rn,rt⟩=true∧(releaseA ⟨⟨e,p,i,u,h'⟩,ps,vs,sl,⟨3,rp,ri,rs,re,ru,rv,rc,rz,rm,rn,rt⟩,n,s⟩).2=true then ((releaseA ⟨⟨e,p,i,u,h'⟩,ps,vs,sl,⟨3,rp,ri,rs,re,ru,rv,rc,rz,rm,rn,rt⟩,n,s⟩).1,0) else (⟨⟨e,p,i,u,h'⟩,ps,vs,sl,⟨3,rp,ri,rs,re,ru,rv,rc,rz,rm,rn,rt⟩,n,s⟩,220):=rfl
   rw [hA]
   apply vwp_cut
   ·simp (config := { maxSteps := 3000000 }) [doesV,fnV]
    exact⟨rfl,rfl,rfl⟩
   generalize hx:releaseA ⟨⟨e,p,i,u,h'⟩,ps,vs,sl,⟨3,rp,ri,rs,re,ru,rv,rc,rz,rm,rn,rt⟩,n,s⟩=x
   obtain⟨⟨⟨e',p',i',u',h''⟩,ps',vs',sl',⟨k',rp',ri',rs',re',ru',rv',rc',rz',rm',rn',rt'⟩,n',s'⟩,b⟩:=x
   rw [vwp_seq]
   cases hR:rightR ⟨3,rp,ri,rs,re,ru,rv,rc,rz,rm,rn,rt⟩ with
   |false=>
    apply vwp_cut
    ·simp (config := { maxSteps := 3000000 }) [hR]
     exact⟨rfl,rfl⟩
    simp (config := { maxSteps := 3000000 }) [hR,h9,h3,cellsDf]
   |true=>
    apply vwp_cut
    ·simp (config := { maxSteps := 3000000 }) [hR,hx,apT]
     exact⟨by kernel_rfl,rfl,rfl⟩
    cases b with
    |false=>simp (config := { maxSteps := 3000000 }) [hR,h9,h3,cellsDf]
    |true=>simp (config := { maxSteps := 3000000 }) [hR,cellsDf]
  ·have hA:applyA ⟨⟨e,p,i,u,h'⟩,ps,vs,sl,⟨4,rp,ri,rs,re,ru,rv,rc,rz,rm,rn,rt⟩,n,s⟩=if rightR ⟨4,rp,ri,rs,re,ru,rv,rc,rz,rm,rn,rt⟩=true∧(commitA ⟨⟨e,p,i,u,h'⟩,ps,vs,sl,⟨4,rp,ri,rs,re,ru,rv,rc,rz,rm,rn,rt⟩,n,s⟩).2=true then ((commitA ⟨⟨e,p,i,u,h'⟩,ps,vs,sl,⟨4,rp,ri,rs,re,ru,rv,rc,rz,rm,rn,rt⟩,n,s⟩).1,0) else (⟨⟨e,p,i,u,h'⟩,ps,vs,sl,⟨4,rp,ri,rs,re,ru,rv,rc,rz,rm,rn,rt⟩,n,s⟩,220):=rfl
   rw [hA]
   have hN:okV (newVn ⟨⟨e,p,i,u,h'⟩,ps,vs,sl,⟨4,rp,ri,rs,re,ru,rv,rc,rz,rm,rn,rt⟩,n,s⟩):=h8
   apply vwp_cut
   ·simp (config := { maxSteps := 3000000 }) [doesV,fnV]
    exact⟨rfl,rfl,rfl⟩
   generalize hx:commitA ⟨⟨e,p,i,u,h'⟩,ps,vs,sl,⟨4,rp,ri,rs,re,ru,rv,rc,rz,rm,rn,rt⟩,n,s⟩=x
   obtain⟨⟨⟨e',p',i',u',h''⟩,ps',vs',sl',⟨k',rp',ri',rs',re',ru',rv',rc',rz',rm',rn',rt'⟩,n',s'⟩,b⟩:=x
   rw [vwp_seq]
   cases hR:rightR ⟨4,rp,ri,rs,re,ru,rv,rc,rz,rm,rn,rt⟩ with
   |false=>
    apply vwp_cut
    ·simp (config := { maxSteps := 3000000 }) [hR]
     exact⟨rfl,rfl⟩
    simp (config := { maxSteps := 3000000 }) [hR,h9,h3,cellsDf]
   |true=>
    apply vwp_cut
    ·simp (config := { maxSteps := 3000000 }) [hR,hx,apT,h3,hV,hN]
     exact⟨by kernel_rfl,rfl,rfl⟩
    cases b with
    |false=>simp (config := { maxSteps := 3000000 }) [hR,h9,h3,cellsDf]
    |true=>simp (config := { maxSteps := 3000000 }) [hR,cellsDf]
  ·have hA:applyA ⟨⟨e,p,i,u,h'⟩,ps,vs,sl,⟨5,rp,ri,rs,re,ru,rv,rc,rz,rm,rn,rt⟩,n,s⟩=if rightR ⟨5,rp,ri,rs,re,ru,rv,rc,rz,rm,rn,rt⟩=true∧(pinA ⟨⟨e,p,i,u,h'⟩,ps,vs,sl,⟨5,rp,ri,rs,re,ru,rv,rc,rz,rm,rn,rt⟩,n,s⟩).2=true then ((pinA ⟨⟨e,p,i,u,h'⟩,ps,vs,sl,⟨5,rp,ri,rs,re,ru,rv,rc,rz,rm,rn,rt⟩,n,s⟩).1,0) else (⟨⟨e,p,i,u,h'⟩,ps,vs,sl,⟨5,rp,ri,rs,re,ru,rv,rc,rz,rm,rn,rt⟩,n,s⟩,220):=rfl
   rw [hA]
   apply vwp_cut
   ·simp (config := { maxSteps := 3000000 }) [doesV,fnV]
    exact⟨rfl,rfl,rfl⟩
   generalize hx:pinA ⟨⟨e,p,i,u,h'⟩,ps,vs,sl,⟨5,rp,ri,rs,re,ru,rv,rc,rz,rm,rn,rt⟩,n,s⟩=x
   obtain⟨⟨⟨e',p',i',u',h''⟩,ps',vs',sl',⟨k',rp',ri',rs',re',ru',rv',rc',rz',rm',rn',rt'⟩,n',s'⟩,b⟩:=x
   rw [vwp_seq]
   cases hR:rightR ⟨5,rp,ri,rs,re,ru,rv,rc,rz,rm,rn,rt⟩ with
   |false=>
    apply vwp_cut
    ·simp (config := { maxSteps := 3000000 }) [hR]
     exact⟨rfl,rfl⟩
    simp (config := { maxSteps := 3000000 }) [hR,h9,h3,cellsDf]
   |true=>
    apply vwp_cut
    ·simp (config := { maxSteps := 3000000 }) [hR,hx,apT,hP6,hV6]
     exact⟨by kernel_rfl,rfl,rfl⟩
    cases b with
    |false=>simp (config := { maxSteps := 3000000 }) [hR,h9,h3,cellsDf]
    |true=>simp (config := { maxSteps := 3000000 }) [hR,cellsDf]
  ·have hA:applyA ⟨⟨e,p,i,u,h'⟩,ps,vs,sl,⟨6,rp,ri,rs,re,ru,rv,rc,rz,rm,rn,rt⟩,n,s⟩=if rightR ⟨6,rp,ri,rs,re,ru,rv,rc,rz,rm,rn,rt⟩=true∧(unpinA ⟨⟨e,p,i,u,h'⟩,ps,vs,sl,⟨6,rp,ri,rs,re,ru,rv,rc,rz,rm,rn,rt⟩,n,s⟩).2=true then ((unpinA ⟨⟨e,p,i,u,h'⟩,ps,vs,sl,⟨6,rp,ri,rs,re,ru,rv,rc,rz,rm,rn,rt⟩,n,s⟩).1,0) else (⟨⟨e,p,i,u,h'⟩,ps,vs,sl,⟨6,rp,ri,rs,re,ru,rv,rc,rz,rm,rn,rt⟩,n,s⟩,220):=rfl
   rw [hA]
   apply vwp_cut
   ·simp (config := { maxSteps := 3000000 }) [doesV,fnV]
    exact⟨rfl,rfl,rfl⟩
   generalize hx:unpinA ⟨⟨e,p,i,u,h'⟩,ps,vs,sl,⟨6,rp,ri,rs,re,ru,rv,rc,rz,rm,rn,rt⟩,n,s⟩=x
   obtain⟨⟨⟨e',p',i',u',h''⟩,ps',vs',sl',⟨k',rp',ri',rs',re',ru',rv',rc',rz',rm',rn',rt'⟩,n',s'⟩,b⟩:=x
   rw [vwp_seq]
   cases hR:rightR ⟨6,rp,ri,rs,re,ru,rv,rc,rz,rm,rn,rt⟩ with
   |false=>
    apply vwp_cut
    ·simp (config := { maxSteps := 3000000 }) [hR]
     exact⟨rfl,rfl⟩
    simp (config := { maxSteps := 3000000 }) [hR,h9,h3,cellsDf]
   |true=>
    apply vwp_cut
    ·simp (config := { maxSteps := 3000000 }) [hR,hx,apT,h9]
     exact⟨by kernel_rfl,rfl,rfl⟩
    cases b with
    |false=>simp (config := { maxSteps := 3000000 }) [hR,h9,h3,cellsDf]
    |true=>simp (config := { maxSteps := 3000000 }) [hR,cellsDf]
  ·have hA:applyA ⟨⟨e,p,i,u,h'⟩,ps,vs,sl,⟨7,rp,ri,rs,re,ru,rv,rc,rz,rm,rn,rt⟩,n,s⟩=if rightR ⟨7,rp,ri,rs,re,ru,rv,rc,rz,rm,rn,rt⟩=true∧(sealA ⟨⟨e,p,i,u,h'⟩,ps,vs,sl,⟨7,rp,ri,rs,re,ru,rv,rc,rz,rm,rn,rt⟩,n,s⟩).2=true then ((sealA ⟨⟨e,p,i,u,h'⟩,ps,vs,sl,⟨7,rp,ri,rs,re,ru,rv,rc,rz,rm,rn,rt⟩,n,s⟩).1,0) else (⟨⟨e,p,i,u,h'⟩,ps,vs,sl,⟨7,rp,ri,rs,re,ru,rv,rc,rz,rm,rn,rt⟩,n,s⟩,220):=rfl
   rw [hA]
   apply vwp_cut
   ·simp (config := { maxSteps := 3000000 }) [doesV,fnV]
    exact⟨rfl,rfl,rfl⟩
   generalize hx:sealA ⟨⟨e,p,i,u,h'⟩,ps,vs,sl,⟨7,rp,ri,rs,re,ru,rv,rc,rz,rm,rn,rt⟩,n,s⟩=x
   obtain⟨⟨⟨e',p',i',u',h''⟩,ps',vs',sl',⟨k',rp',ri',rs',re',ru',rv',rc',rz',rm',rn',rt'⟩,n',s'⟩,b⟩:=x
   rw [vwp_seq]
   cases hR:rightR ⟨7,rp,ri,rs,re,ru,rv,rc,rz,rm,rn,rt⟩ with
   |false=>
    apply vwp_cut
    ·simp (config := { maxSteps := 3000000 }) [hR]
     exact⟨rfl,rfl⟩
    simp (config := { maxSteps := 3000000 }) [hR,h9,h3,cellsDf]
   |true=>
    apply vwp_cut
    ·simp (config := { maxSteps := 3000000 }) [hR,hx,apT]
     exact⟨by kernel_rfl,rfl,rfl⟩
    cases b with
    |false=>simp (config := { maxSteps := 3000000 }) [hR,h9,h3,cellsDf]
    |true=>simp (config := { maxSteps := 3000000 }) [hR,cellsDf]
  ·have hA:applyA ⟨⟨e,p,i,u,h'⟩,ps,vs,sl,⟨8,rp,ri,rs,re,ru,rv,rc,rz,rm,rn,rt⟩,n,s⟩=if rightR ⟨8,rp,ri,rs,re,ru,rv,rc,rz,rm,rn,rt⟩=true∧(compactA ⟨⟨e,p,i,u,h'⟩,ps,vs,sl,⟨8,rp,ri,rs,re,ru,rv,rc,rz,rm,rn,rt⟩,n,s⟩).2=true then ((compactA ⟨⟨e,p,i,u,h'⟩,ps,vs,sl,⟨8,rp,ri,rs,re,ru,rv,rc,rz,rm,rn,rt⟩,n,s⟩).1,0) else (⟨⟨e,p,i,u,h'⟩,ps,vs,sl,⟨8,rp,ri,rs,re,ru,rv,rc,rz,rm,rn,rt⟩,n,s⟩,220):=rfl
   rw [hA]
   apply vwp_cut
   ·simp (config := { maxSteps := 3000000 }) [doesV,fnV]
    exact⟨rfl,rfl,rfl⟩
   generalize hx:compactA ⟨⟨e,p,i,u,h'⟩,ps,vs,sl,⟨8,rp,ri,rs,re,ru,rv,rc,rz,rm,rn,rt⟩,n,s⟩=x
   obtain⟨⟨⟨e',p',i',u',h''⟩,ps',vs',sl',⟨k',rp',ri',rs',re',ru',rv',rc',rz',rm',rn',rt'⟩,n',s'⟩,b⟩:=x
   rw [vwp_seq]
   cases hR:rightR ⟨8,rp,ri,rs,re,ru,rv,rc,rz,rm,rn,rt⟩ with
   |false=>
    apply vwp_cut
    ·simp (config := { maxSteps := 3000000 }) [hR]
     exact⟨rfl,rfl⟩
    simp (config := { maxSteps := 3000000 }) [hR,h9,h3,cellsDf]
   |true=>
    apply vwp_cut
    ·simp (config := { maxSteps := 3000000 }) [hR,hx,apT,h2,hP,hC,hS,h3,hV]
     exact⟨by kernel_rfl,rfl,rfl⟩
    cases b with
    |false=>simp (config := { maxSteps := 3000000 }) [hR,h9,h3,cellsDf]
    |true=>simp (config := { maxSteps := 3000000 }) [hR,cellsDf]
  ·have hA:applyA ⟨⟨e,p,i,u,h'⟩,ps,vs,sl,⟨k,rp,ri,rs,re,ru,rv,rc,rz,rm,rn,rt⟩,n,s⟩=(⟨⟨e,p,i,u,h'⟩,ps,vs,sl,⟨k,rp,ri,rs,re,ru,rv,rc,rz,rm,rn,rt⟩,n,s⟩,220):=by
    simp only [applyA,doA,k1,k2,k3,k4,k5,k6,k7,k8,if_false]
   rw [hA]
   apply vwp_cut
   ·simp (config := { maxSteps := 3000000 }) [doesV,fnV,k1,k2,k3,k4,k5,k6,k7,k8]
    exact⟨rfl,rfl,rfl⟩
   have hnf:cvp Value.nilFunc=PV.val Value.nilFunc:=rfl
   simp (config := { maxSteps := 3000000 }) [h9,h3,cellsDf,hnf]
 ·cases h
structure Dc where
 l:Ls
 ps:List Pn
 vs:List Vn
 sl:Bool
 deriving DecidableEq
def cellsD (d:Dc):List AV:=[.pv (.int .u64 d.l.e),.pv (.int .u64 d.l.p),.pv (.int .u64 d.l.i),.pv (.int .u64 d.l.u),.pv (.bool d.l.h),.pv (.ro (rowsP d.ps)),.pv (.ro (rowsV d.vs)),.pv (.bool d.sl)]
noncomputable def withD (ys:List AV) (K:Dc→Option (Prop × AV)):Option (Prop × AV):=match ys with
 | [.pv (.int .u64 e),.pv (.int .u64 p),.pv (.int .u64 i),.pv (.int .u64 u),.pv (.bool h),.pv (.ro a),.pv (.ro b),.pv (.bool sl)]=>(dec rowP a).bind fun ps=>(dec rowV b).bind fun vs=>K ⟨⟨e,p,i,u,h⟩,ps,vs,sl⟩
 | _=>none
@[simp] theorem withD_eq (e p i u:Int) (h sl:Bool) (a b:List (List PV)) (K:Dc→Option (Prop × AV)):withD [.pv (.int .u64 e),.pv (.int .u64 p),.pv (.int .u64 i),.pv (.int .u64 u),.pv (.bool h),.pv (.ro a),.pv (.ro b),.pv (.bool sl)] K=(dec rowP a).bind fun ps=>(dec rowV b).bind fun vs=>K ⟨⟨e,p,i,u,h⟩,ps,vs,sl⟩:=rfl
theorem withD_inv {ys:List AV}{K:Dc→Option (Prop × AV)}{x:Prop × AV} (h:withD ys K=some x):∃d,ys=cellsD d∧K d=some x:=by
 unfold withD at h
 split at h
 ·obtain⟨ps,hp,h1⟩:=Option.bind_eq_some_iff.1 h
  obtain⟨vs,hv,h2⟩:=Option.bind_eq_some_iff.1 h1
  rw [dec_rowsP_inv hp,dec_rowsV_inv hv]
  exact⟨_,rfl,h2⟩
 ·cases h
noncomputable def GdP:List AV→Option (Prop × AV)
 | [.agg [.pv (.ro a)]]=>(dec rowP a).map fun l=>(l.length≤100000,.fr 100 (rowsP l))
 | _=>none
@[simp] theorem GdP_eq (a:List (List PV)):GdP [.agg [.pv (.ro a)]]=(dec rowP a).map fun l=>(l.length≤100000,.fr 100 (rowsP l)):=rfl
theorem c_dP:ConT Try.prog 24 GdP:=by
 intro ys φ r h hφ
 unfold GdP at h
 split at h
 ·obtain⟨a,ha,h⟩:=Option.map_eq_some_iff.1 h
  cases h
  cases dec_rowsP_inv ha
  have hl:a.length≤100000:=hφ
  refine con_of tab_nil (by kernel_rfl) fn24 (by simp) ?_
  unfold body24
  simp (config := { maxSteps := 3000000 })
  refine vwp_loop (fun i:Nat=>i≤a.length) (fun i=>⟨[(1,.ptr 1 0),(2,.own 2),(3,.own 3),(4,.pv (.int .i64 i))],[(1,.box [.pv (.ro (rowsP a))]),(2,.arr 100 []),(3,.arr 100 (rowsP (a.take i)))]⟩) (fun i=>a.length - i) [] 0 (by simp) ?_ ?_
  ·simp
  ·intro i hi
   have w2:IntKind.i64.wrap ((i:Int)+1)=(i:Int)+1:=wrap_i64 (by omega)
   by_cases hlt:i < a.length
   ·have r1:=rowsP_at hlt
    simp (config := { maxSteps := 3000000 }) [w2,hlt,r1,maxLen_eq]
    refine⟨⟨by omega,by omega⟩,i+1,by omega,⟨by omega,?_⟩,by omega⟩
    rw [List.take_succ_eq_append_getElem hlt,rowsP_append];rfl
   ·simp (config := { maxSteps := 3000000 }) [hlt]
    rw [List.take_of_length_le (by omega)]
 ·cases h
noncomputable def GdV:List AV→Option (Prop × AV)
 | [.pv (.ro a)]=>(dec rowV a).map fun l=>(l.length≤100000,.fr 84 (rowsV l))
 | _=>none
@[simp] theorem GdV_eq (a:List (List PV)):GdV [.pv (.ro a)]=(dec rowV a).map fun l=>(l.length≤100000,.fr 84 (rowsV l)):=rfl
theorem c_dV:ConT Try.prog 25 GdV:=by
 intro ys φ r h hφ
 unfold GdV at h
 split at h
 ·obtain⟨a,ha,h⟩:=Option.map_eq_some_iff.1 h
  cases h
  cases dec_rowsV_inv ha
  have hl:a.length≤100000:=hφ
  refine con_of tab_nil (by kernel_rfl) fn25 (by simp) ?_
  unfold body25
  simp (config := { maxSteps := 3000000 })
  refine vwp_loop (fun i:Nat=>i≤a.length) (fun i=>⟨[(0,.pv (.ro (rowsV a))),(2,.own 2),(3,.own 3),(4,.pv (.int .i64 i))],[(2,.arr 84 []),(3,.arr 84 (rowsV (a.take i)))]⟩) (fun i=>a.length - i) [] 0 (by simp) ?_ ?_
  ·simp
  ·intro i hi
   have w2:IntKind.i64.wrap ((i:Int)+1)=(i:Int)+1:=wrap_i64 (by omega)
   by_cases hlt:i < a.length
   ·have r1:=rowsV_at hlt
    simp (config := { maxSteps := 3000000 }) [w2,hlt,r1,maxLen_eq]
    refine⟨⟨by omega,by omega⟩,i+1,by omega,⟨by omega,?_⟩,by omega⟩
    rw [List.take_succ_eq_append_getElem hlt,rowsV_append];rfl
   ·simp (config := { maxSteps := 3000000 }) [hlt]
    rw [List.take_of_length_le (by omega)]
 ·cases h
noncomputable def GdD:List AV→Option (Prop × AV)
 | [.agg ys]=>withD ys fun d=>some (d.ps.length≤100000∧d.vs.length≤100000,.agg [.pv (.int .u64 d.l.e),.pv (.int .u64 d.l.p),.pv (.int .u64 d.l.i),.pv (.int .u64 d.l.u),.pv (.bool d.l.h),.fr 100 (rowsP d.ps),.fr 84 (rowsV d.vs),.pv (.bool d.sl)])
 | _=>none
@[simp] theorem GdD_eq (ys:List AV):GdD [.agg ys]=withD ys fun d=>some (d.ps.length≤100000∧d.vs.length≤100000,.agg [.pv (.int .u64 d.l.e),.pv (.int .u64 d.l.p),.pv (.int .u64 d.l.i),.pv (.int .u64 d.l.u),.pv (.bool d.l.h),.fr 100 (rowsP d.ps),.fr 84 (rowsV d.vs),.pv (.bool d.sl)]):=rfl
theorem c_dD:ConT Try.prog 12 GdD:=by
 intro ys φ r h hφ
 unfold GdD at h
 split at h
 ·obtain⟨d,hd,h2⟩:=withD_inv h
  subst hd
  clear h
  cases h2
  obtain⟨h1,h2⟩:=hφ
  refine con_of (tab_cons c_dP (tab_cons c_dV tab_nil)) (by kernel_rfl) fn12 (by simp) ?_
  unfold body12
  simp (config := { maxSteps := 3000000 }) [cellsD,h1,h2]
 ·cases h
noncomputable def inlD (d:Dc) (ts:List (List UInt8)):Dc × Int:=if (inlinedV d.vs ts).2=0 then (⟨d.l,d.ps,(inlinedV d.vs ts).1,d.sl⟩,0) else (⟨⟨0,0,0,0,false⟩,[],[],false⟩,(inlinedV d.vs ts).2)
noncomputable def GDIn (e1 e2:TypeId):List AV→Option (Prop × AV)
 | [.agg ys,.pv (.ro ts)]=>withD ys fun d=>(dec rowSt ts).map fun ts=>(d.ps.length≤100000∧d.vs.length≤100000∧(∀v∈d.vs,okV v),.tup [.agg [.pv (.int .u64 (inlD d ts).1.l.e),.pv (.int .u64 (inlD d ts).1.l.p),.pv (.int .u64 (inlD d ts).1.l.i),.pv (.int .u64 (inlD d ts).1.l.u),.pv (.bool (inlD d ts).1.l.h),.fr e1 (rowsP (inlD d ts).1.ps),.fr e2 (rowsV (inlD d ts).1.vs),.pv (.bool (inlD d ts).1.sl)],.pv (.int .i64 (inlD d ts).2)])
 | _=>none
@[simp] theorem GDIn_eq (e1 e2:TypeId) (ys:List AV) (ts:List (List PV)):GDIn e1 e2 [.agg ys,.pv (.ro ts)]=withD ys fun d=>(dec rowSt ts).map fun ts=>(d.ps.length≤100000∧d.vs.length≤100000∧(∀v∈d.vs,okV v),.tup [.agg [.pv (.int .u64 (inlD d ts).1.l.e),.pv (.int .u64 (inlD d ts).1.l.p),.pv (.int .u64 (inlD d ts).1.l.i),.pv (.int .u64 (inlD d ts).1.l.u),.pv (.bool (inlD d ts).1.l.h),.fr e1 (rowsP (inlD d ts).1.ps),.fr e2 (rowsV (inlD d ts).1.vs),.pv (.bool (inlD d ts).1.sl)],.pv (.int .i64 (inlD d ts).2)]):=rfl
theorem c_DIn:ConT Try.prog 14 (GDIn 86 61):=by
 intro ys φ r h hφ
 unfold GDIn at h
 split at h
 ·obtain⟨d,hd,h2⟩:=withD_inv h
  subst hd
  clear h
  obtain⟨ts,hts,h3⟩:=Option.map_eq_some_iff.1 h2
  clear h2
  cases h3
  cases dec_rowsSt_inv hts
  obtain⟨h1,h2,h3⟩:=hφ
  have h4:(∀v∈d.vs,okV v)=True:=eq_true h3
  have hi1:(Try.prog.info? 86).isSome=true:=by kernel_rfl
  have hi2:(Try.prog.info? 61).isSome=true:=by kernel_rfl
  refine con_of (tab_cons c_Inl (tab_cons c_Cop tab_nil)) (by kernel_rfl) fn14 (by simp) ?_
  unfold body14
  apply vwp_cut
  ·simp (config := { maxSteps := 3000000 }) [cellsD]
   exact⟨rfl,rfl⟩
  apply vwp_cut
  ·simp (config := { maxSteps := 3000000 }) [h2,h4]
   exact⟨rfl,rfl⟩
  unfold inlD
  generalize inlinedV d.vs ts=x
  obtain⟨x,e⟩:=x
  by_cases he:e=0
  ·subst he
   apply vwp_cut
   ·simp (config := { maxSteps := 3000000 })
    exact⟨rfl,rfl⟩
   apply vwp_cut
   ·simp (config := { maxSteps := 3000000 }) [h1,h2]
    exact⟨rfl,rfl⟩
   apply vwp_cut
   ·simp (config := { maxSteps := 3000000 })
    exact⟨rfl,rfl⟩
   simp (config := { maxSteps := 3000000 })
  ·simp (config := { maxSteps := 3000000 }) [he,hi1,hi2]
 ·cases h
def fewRec (n t:List UInt8):Bool:=decide (n.length≤100) && decide (t.length≤100)
def GFewR:List AV→Option (Prop × AV)
 | [.agg [.pv (.int .u8 k),.pv (.int .u64 p),.pv (.int .u64 i),.pv (.int .u64 s),.pv (.int .u64 e),.pv (.int .u64 u),.pv (.int .u64 v),.pv (.int .u64 c),.pv (.int .u64 z),.pv (.int .u64 m),.pv (.str n),.pv (.str t)]]=>some (True,.pv (.bool (fewRec n t)))
 | _=>none
@[simp] theorem GFewR_eq (k p i s e u v c z m:Int) (n t:List UInt8):GFewR [.agg [.pv (.int .u8 k),.pv (.int .u64 p),.pv (.int .u64 i),.pv (.int .u64 s),.pv (.int .u64 e),.pv (.int .u64 u),.pv (.int .u64 v),.pv (.int .u64 c),.pv (.int .u64 z),.pv (.int .u64 m),.pv (.str n),.pv (.str t)]]=some (True,.pv (.bool (fewRec n t))):=rfl
def fewD (d:Dc):Bool:=d.vs.all (fun v=>decide (v.t.length≤100)) && decide (d.ps.length≤20) && decide (d.vs.length≤20)
noncomputable def GFewD:List AV→Option (Prop × AV)
 | [.agg ys]=>withD ys fun d=>some (d.vs.length≤maxLen,.pv (.bool (fewD d)))
 | _=>none
@[simp] theorem GFewD_eq (ys:List AV):GFewD [.agg ys]=withD ys fun d=>some (d.vs.length≤maxLen,.pv (.bool (fewD d))):=rfl
theorem c_FewD:ConT Try.prog 11 GFewD:=by
 intro ys φ r h hφ
 unfold GFewD at h
 split at h
 ·obtain⟨d,hd,h2⟩:=withD_inv h
  subst hd
  clear h
  cases h2
  obtain⟨⟨e,p,i,u,h'⟩,ps,vs,sl⟩:=d
  have hl:vs.length≤maxLen:=hφ
  rw [maxLen_eq]at hl
  refine con_of tab_nil (by kernel_rfl) fn11 (by simp) ?_
  unfold body11
  simp (config := { maxSteps := 3000000 }) [cellsD]
  refine vwp_loop (fun i:Nat=>i≤vs.length∧∀v∈vs.take i,v.t.length≤100) (fun j=>⟨[(1,.ptr 1 0),(2,.pv (.bool false)),(3,.pv (.int .i64 j))],[(1,.box [.pv (.int .u64 e),.pv (.int .u64 p),.pv (.int .u64 i),.pv (.int .u64 u),.pv (.bool h'),.pv (.ro (rowsP ps)),.pv (.ro (rowsV vs)),.pv (.bool sl)])]⟩) (fun i=>vs.length - i) [] 0 (by simp) ?_ ?_
  ·simp
  ·rintro j ⟨hj,ht⟩
   by_cases hlt:j < vs.length
   ·have r1:=rowsV_at hlt
    have w2:IntKind.i64.wrap ((j:Int)+1)=(j:Int)+1:=wrap_i64 (by omega)
    by_cases h1:(100:Int) < vs[j].t.length
    ·have hf:fewD ⟨⟨e,p,i,u,h'⟩,ps,vs,sl⟩=false:=by
      unfold fewD
      have:(vs.all fun v=>decide (v.t.length≤100))=false:=by
       rw [List.all_eq_false]
       exact⟨vs[j],List.getElem_mem hlt,by simp;omega⟩
      simp [this]
     simp (config := { maxSteps := 3000000 }) [w2,hlt,r1,h1,hf]
    ·have h1':(vs[j].t.length:Int)≤100:=by omega
     simp (config := { maxSteps := 3000000 }) [w2,hlt,r1,h1,h1']
     refine⟨j+1,⟨by omega,fun v hv=>?_⟩,by omega,by omega⟩
     rw [List.take_succ_eq_append_getElem hlt,List.mem_append]at hv
     rcases hv with hv | hv
     ·exact ht v hv
     ·simp only [List.mem_singleton]at hv;subst hv;omega
   ·rw [List.take_of_length_le (by omega)]at ht
    have hf:fewD ⟨⟨e,p,i,u,h'⟩,ps,vs,sl⟩=(decide (ps.length≤20) && decide (vs.length≤20)):=by
     unfold fewD
     have:(vs.all fun v=>decide (v.t.length≤100))=true:=by
      rw [List.all_eq_true]
      exact fun v hv=>decide_eq_true (ht v hv)
     simp [this]
    have e1:∀n:Nat,decide ((n:Int)≤20)=decide (n≤20):=fun n=>decide_eq_decide.2 (by omega)
    by_cases h2:(ps.length:Int)≤20<;>simp (config := { maxSteps := 3000000 }) [hlt,hf,h2,←e1]
 ·cases h
theorem Vn_eq {a b:Vn}:a=b↔a.n=b.n∧a.b=b.b∧a.p=b.p∧a.i=b.i∧a.s=b.s∧a.z=b.z∧a.m=b.m∧a.t=b.t∧a.inl=b.inl∧a.hid=b.hid:=by
 cases a;cases b;simp
noncomputable def GEqV:List AV→Option (Prop × AV)
 | [.pv (.ro a),.pv (.ro b)]=>(dec rowV a).bind fun a=>(dec rowV b).map fun b=>(a.length≤1000000000,.pv (.bool (decide (a=b))))
 | _=>none
@[simp] theorem GEqV_eq (a b:List (List PV)):GEqV [.pv (.ro a),.pv (.ro b)]=(dec rowV a).bind fun a=>(dec rowV b).map fun b=>(a.length≤1000000000,.pv (.bool (decide (a=b)))):=rfl
theorem c_EqV:ConT Try.prog 22 GEqV:=by
 intro ys φ r h hφ
 unfold GEqV at h
 split at h
 ·obtain⟨a,ha,h1⟩:=Option.bind_eq_some_iff.1 h
  obtain⟨b,hb,h2⟩:=Option.map_eq_some_iff.1 h1
  clear h h1
  cases h2
  cases dec_rowsV_inv ha
  cases dec_rowsV_inv hb
  have hl:a.length≤1000000000:=hφ
  refine con_of tab_nil (by kernel_rfl) fn22 (by simp) ?_
  unfold body22
  simp (config := { maxSteps := 3000000 })
  refine⟨fun hne=>?_,fun hlen=>?_⟩
  ·intro e;exact hne (by rw [e])
  refine vwp_loop (fun i:Nat=>i≤a.length∧a.take i=b.take i) (fun i=>⟨[(0,.pv (.ro (rowsV a))),(1,.pv (.ro (rowsV b))),(12,.pv (.int .i64 a.length)),(13,.pv (.int .i64 i))],[]⟩) (fun i=>a.length - i) [] 0 (by simp) ?_ ?_
  ·simp
  ·rintro i ⟨hi,ht⟩
   have w2:IntKind.i64.wrap ((i:Int)+1)=(i:Int)+1:=wrap_i64 (by omega)
   by_cases hlt:i < a.length
   ·have r1:=rowsV_at hlt
    have hlb:i < b.length:=by omega
    have r2:=rowsV_at hlb
    by_cases he:a[i]=b[i]
    ·obtain⟨f1,f2,f3,f4,f5,f6,f7,f8,f9,f10⟩:=Vn_eq.1 he
     simp (config := { maxSteps := 3000000 }) [w2,hlt,hlb,r1,r2,f1,f2,f3,f4,f5,f6,f7,f8,f9,f10]
     refine⟨i+1,⟨by omega,?_⟩,by omega,by omega⟩
     rw [List.take_succ_eq_append_getElem hlt,List.take_succ_eq_append_getElem hlb,ht,he]
    ·have hn:¬ a=b:=fun e=>he (by subst e;rfl)
     simp (config := { maxSteps := 3000000 }) [w2,hlt,hlb,r1,r2,hn]
     exact fun f1 f2 f3 f4 f5 f6 f7 f8 f9 f10=>absurd (Vn_eq.2 ⟨f1,f2,f3,f4,f5,f6,f7,f8,f9,f10⟩) he
   ·simp (config := { maxSteps := 3000000 }) [hlt]
    rw [List.take_of_length_le (by omega),List.take_of_length_le (by omega)]at ht
    exact ht
 ·cases h
noncomputable def GSD:List AV→Option (Prop × AV)
 | [.agg xs,.agg ys]=>withD xs fun a=>withD ys fun b=>some (a.ps.length≤1000000000∧a.vs.length≤1000000000,.pv (.bool (decide (a=b))))
 | _=>none
@[simp] theorem GSD_eq (xs ys:List AV):GSD [.agg xs,.agg ys]=withD xs fun a=>withD ys fun b=>some (a.ps.length≤1000000000∧a.vs.length≤1000000000,.pv (.bool (decide (a=b)))):=rfl
theorem c_SD:ConT Try.prog 8 GSD:=by
 intro ys φ r h hφ
 unfold GSD at h
 split at h
 ·obtain⟨a,ha,h1⟩:=withD_inv h
  obtain⟨b,hb,h2⟩:=withD_inv h1
  subst ha hb
  clear h h1
  cases h2
  obtain⟨⟨e,p,i,u,h'⟩,ps,vs,sl⟩:=a
  obtain⟨⟨e2,p2,i2,u2,h2'⟩,ps2,vs2,sl2⟩:=b
  obtain⟨h1,h2⟩:=hφ
  have h1:ps.length≤1000000000:=h1
  have h2:vs.length≤1000000000:=h2
  refine con_of (tab_cons c_pSame (tab_cons c_EqV tab_nil)) (by kernel_rfl) fn8 (by simp) ?_
  unfold body8
  have hs:(sl == sl2)=decide (sl=sl2):=by cases sl<;>cases sl2<;>rfl
  simp (config := { maxSteps := 3000000 }) [cellsD,h1,h2]
  rw [hs]
  ac_rfl
 ·cases h
theorem c_rSD:ConT Try.prog 15 GSD:=by
 intro ys φ r h hφ
 unfold GSD at h
 split at h
 ·obtain⟨a,ha,h1⟩:=withD_inv h
  obtain⟨b,hb,h2⟩:=withD_inv h1
  subst ha hb
  clear h h1
  cases h2
  obtain⟨⟨e,p,i,u,h'⟩,ps,vs,sl⟩:=a
  obtain⟨⟨e2,p2,i2,u2,h2'⟩,ps2,vs2,sl2⟩:=b
  obtain⟨h1,h2⟩:=hφ
  have h1:ps.length≤1000000000:=h1
  have h2:vs.length≤1000000000:=h2
  refine con_of (tab_cons c_rSame tab_nil) (by kernel_rfl) fn15 (by simp) ?_
  unfold body15
  apply vwp_cut
  ·simp (config := { maxSteps := 3000000 }) [cellsD]
   exact⟨rfl,rfl⟩
  rw [vwp_seq]
  simp (config := { maxSteps := 3000000 }) [h1]
  refine⟨fun hx a1 a2 a3 a4 a5 a6 a7 a8=>?_,?_⟩
  ·subst a1 a2 a3 a4 a5 a6 a7 a8
   simp at hx
  ·rintro rfl rfl rfl rfl rfl rfl rfl hlen
   have hlen:vs.length=vs2.length:=by omega
   refine vwp_loop (fun i:Nat=>i≤vs.length∧vs.take i=vs2.take i) (fun j=>⟨[(2,.ptr 2 0),(3,.ptr 3 0),(5,.pv (.int .i64 j))],[(2,.box [.pv (.int .u64 e),.pv (.int .u64 p),.pv (.int .u64 i),.pv (.int .u64 u),.pv (.bool h'),.pv (.ro (rowsP ps)),.pv (.ro (rowsV vs)),.pv (.bool sl)]),(3,.box [.pv (.int .u64 e),.pv (.int .u64 p),.pv (.int .u64 i),.pv (.int .u64 u),.pv (.bool h'),.pv (.ro (rowsP ps)),.pv (.ro (rowsV vs2)),.pv (.bool sl)])]⟩) (fun i=>vs.length - i) [] 0 (by simp) ?_ ?_
   ·simp
   ·rintro j ⟨hj,ht⟩
    have w2:IntKind.i64.wrap ((j:Int)+1)=(j:Int)+1:=wrap_i64 (by omega)
    by_cases hlt:j < vs.length
    ·have r1:=rowsV_at hlt
     have hlb:j < vs2.length:=by omega
     have r2:=rowsV_at hlb
     by_cases he:vs[j]=vs2[j]
     ·obtain⟨f1,f2,f3,f4,f5,f6,f7,f8,f9,f10⟩:=Vn_eq.1 he
      simp (config := { maxSteps := 3000000 }) [w2,hlt,hlb,r1,r2,f1,f2,f3,f4,f5,f6,f7,f8,f9,f10]
      refine⟨j+1,⟨by omega,?_⟩,by omega,by omega⟩
      rw [List.take_succ_eq_append_getElem hlt,List.take_succ_eq_append_getElem hlb,ht,he]
     ·have hn:¬ vs=vs2:=fun e=>he (by subst e;rfl)
      simp (config := { maxSteps := 3000000 }) [w2,hlt,hlb,r1,r2,hn]
      exact fun f1 f2 f3 f4 f5 f6 f7 f8 f9 f10=>absurd (Vn_eq.2 ⟨f1,f2,f3,f4,f5,f6,f7,f8,f9,f10⟩) he
    ·simp (config := { maxSteps := 3000000 }) [hlt]
     rw [List.take_of_length_le (by omega),List.take_of_length_le (by omega)]at ht
     exact ht
 ·cases h
def GSpD (e1 e2:TypeId):List AV→Option (Prop × AV)
 | [.agg [.pv (.int .u64 e),.pv (.int .u64 p),.pv (.int .u64 i),.pv (.int .u64 u),.pv (.bool h),.fr x ra,.fr y rb,.pv (.bool sl)]]=>if x=e1∧y=e2 then some (ra.length≤1000000∧rb.length≤1000000∧(∀r∈ra,r.length=3)∧∀r∈rb,r.length=10,.clo 0 [.tup []]) else none
 | _=>none
@[simp] theorem GSpD_eq (e1 e2:TypeId) (e p i u:Int) (h sl:Bool) (x y:TypeId) (ra rb:List (List PV)):GSpD e1 e2 [.agg [.pv (.int .u64 e),.pv (.int .u64 p),.pv (.int .u64 i),.pv (.int .u64 u),.pv (.bool h),.fr x ra,.fr y rb,.pv (.bool sl)]]=if x=e1∧y=e2 then some (ra.length≤1000000∧rb.length≤1000000∧(∀r∈ra,r.length=3)∧∀r∈rb,r.length=10,.clo 0 [.tup []]) else none:=rfl
theorem c_SpD:ConTG Try.prog 16 (GSpD 86 61):=by
 intro ys φ r h hφ
 unfold GSpD at h
 split at h
 ·rename_i e p i u h' x ra y rb sl
  split at h
  ·rename_i hxy
   obtain⟨rfl,rfl⟩:=hxy
   cases h
   obtain⟨l1,l2,l3,l4⟩:=hφ
   refine con_ofG tab_nil (by kernel_rfl) fn16 (by simp) rfl (by simp) ?_
   unfold body16
   apply vwp_cut
   ·simp (config := { maxSteps := 3000000 })
    exact⟨rfl,rfl⟩
   rw [vwp_seq]
   apply vwp_cut
   ·simp (config := { maxSteps := 3000000 })
    exact⟨rfl,rfl⟩
   rw [vwp_block]
   refine vwp_loop (fun x:Nat × List (List PV)=>x.1≤ra.length∧x.2.length=ra.length∧∀r∈x.2,r.length=3) (fun x=>⟨[(1,.ptr 1 0),(2,.pv (.int .i64 (x.1:Int)))],[(1,.box [.pv (.int .u64 e),.pv (.int .u64 p),.pv (.int .u64 i),.pv (.int .u64 u),.pv (.bool h'),.own 998,.own 1998,.pv (.bool sl)]),(998,.arr 86 x.2),(1998,.arr 61 rb)]⟩) (fun x=>ra.length - x.1) [] (0,ra) ⟨by simp,rfl,l3⟩ ?_ ?_
   ·simp
   ·rintro⟨j,b⟩ ⟨hj,hb,hr⟩
    have hj:j≤ra.length:=hj
    have hb:b.length=ra.length:=hb
    have hr:∀r∈b,r.length=3:=hr
    have w2:IntKind.i64.wrap ((j:Int)+1)=(j:Int)+1:=wrap_i64 (by omega)
    by_cases hlt:j < ra.length
    ·have r1:(rowAt b (j:Int)).length=3:=by
      simp only [rowAt,Int.toNat_natCast,List.getD_eq_getElem?_getD,List.getElem?_eq_getElem (show j < b.length by omega),Option.getD_some]
      exact hr _ (List.getElem_mem _)
     have r2:(rowAt b (j:Int)).drop 3=[]:=List.drop_eq_nil_of_le (by omega)
     simp (config := { maxSteps := 3000000 }) [w2,hlt,r1,r2,hb]
     exact⟨j+1,_,⟨by omega,by rw [List.length_set];exact hb,fun r hr'=>(List.mem_or_eq_of_mem_set hr').elim (hr r) fun e=>by rw [e];rfl⟩,⟨by omega,rfl⟩,by omega⟩
    ·have hja:j=ra.length:=by omega
     subst hja
     simp (config := { maxSteps := 3000000 }) [hb]
     refine vwp_loop (fun x:Nat × List (List PV)=>x.1≤rb.length∧x.2.length=rb.length∧∀r∈x.2,r.length=10) (fun x=>⟨[(1,.ptr 1 0),(3,.pv (.int .i64 (x.1:Int)))],[(1,.box [.pv (.int .u64 e),.pv (.int .u64 p),.pv (.int .u64 i),.pv (.int .u64 u),.pv (.bool h'),.own 998,.own 1998,.pv (.bool sl)]),(998,.arr 86 b),(1998,.arr 61 x.2)]⟩) (fun x=>rb.length - x.1) [] (0,rb) ⟨by simp,rfl,l4⟩ ?_ ?_
     ·simp
     ·rintro⟨j,c⟩ ⟨hj,hc,hr⟩
      have hj:j≤rb.length:=hj
      have hc:c.length=rb.length:=hc
      have hr:∀r∈c,r.length=10:=hr
      have w2:IntKind.i64.wrap ((j:Int)+1)=(j:Int)+1:=wrap_i64 (by omega)
      by_cases hlt:j < rb.length
      ·have r1:(rowAt c (j:Int)).length=10:=by
        simp only [rowAt,Int.toNat_natCast,List.getD_eq_getElem?_getD,List.getElem?_eq_getElem (show j < c.length by omega),Option.getD_some]
        exact hr _ (List.getElem_mem _)
       have r2:(rowAt c (j:Int)).drop 10=[]:=List.drop_eq_nil_of_le (by omega)
       simp (config := { maxSteps := 3000000 }) [w2,hlt,r1,r2,hc]
       exact⟨j+1,_,⟨by omega,by rw [List.length_set];exact hc,fun r hr'=>(List.mem_or_eq_of_mem_set hr').elim (hr r) fun e=>by rw [e];rfl⟩,⟨by omega,rfl⟩,by omega⟩
      ·simp (config := { maxSteps := 3000000 }) [hlt,hc]
  ·cases h
 ·cases h
@[simp] theorem GApp_eq (e p i u:Int) (h:Bool) (a b:List (List PV)) (sl:Bool) (k rp ri rs re ru rv rc rz rm:Int) (rn rt:List UInt8) (n s:Int):GApp [.agg [.pv (.int .u64 e),.pv (.int .u64 p),.pv (.int .u64 i),.pv (.int .u64 u),.pv (.bool h),.pv (.ro a),.pv (.ro b),.pv (.bool sl)],.agg [.pv (.int .u8 k),.pv (.int .u64 rp),.pv (.int .u64 ri),.pv (.int .u64 rs),.pv (.int .u64 re),.pv (.int .u64 ru),.pv (.int .u64 rv),.pv (.int .u64 rc),.pv (.int .u64 rz),.pv (.int .u64 rm),.pv (.str rn),.pv (.str rt)],.pv (.int .u64 n),.pv (.int .u64 s)]=(dec rowP a).bind fun ps=>(dec rowV b).map fun vs=>
  (okA ⟨⟨e,p,i,u,h⟩,ps,vs,sl,⟨k,rp,ri,rs,re,ru,rv,rc,rz,rm,rn,rt⟩,n,s⟩,.tup [.agg (cellsDf (applyA ⟨⟨e,p,i,u,h⟩,ps,vs,sl,⟨k,rp,ri,rs,re,ru,rv,rc,rz,rm,rn,rt⟩,n,s⟩).1),.pv (.int .i64 (applyA ⟨⟨e,p,i,u,h⟩,ps,vs,sl,⟨k,rp,ri,rs,re,ru,rv,rc,rz,rm,rn,rt⟩,n,s⟩).2)]):=rfl
def p3:Pn:=⟨3,2,5⟩
def x2:Vn:=⟨2,0,7,1,0,0,0,[],false,false⟩
def x4:Vn:=⟨4,2,7,1,0,0,0,[],false,false⟩
def x2h:Vn:=⟨2,0,7,1,0,0,0,[],false,true⟩
theorem kA:applyA ⟨⟨0,0,0,0,false⟩,[],[],false,⟨1,7,1,0,1,9,0,0,0,0,[],[]⟩,1,0⟩=(⟨⟨1,7,1,9,true⟩,[],[],false,⟨1,7,1,0,1,9,0,0,0,0,[],[]⟩,1,0⟩,0):=by kernel_rfl
theorem oA:okA ⟨⟨0,0,0,0,false⟩,[],[],false,⟨1,7,1,0,1,9,0,0,0,0,[],[]⟩,1,0⟩:=by
 simp [okA,okN,okP',okV,newVn,p3,x2,x4]
theorem kB:applyA ⟨⟨1,7,1,9,true⟩,[],[],false,⟨4,7,1,0,1,0,0,0,0,0,[],[]⟩,2,0⟩=(⟨⟨1,7,1,9,true⟩,[],[x2],false,⟨4,7,1,0,1,0,0,0,0,0,[],[]⟩,2,0⟩,0):=by kernel_rfl
theorem oB:okA ⟨⟨1,7,1,9,true⟩,[],[],false,⟨4,7,1,0,1,0,0,0,0,0,[],[]⟩,2,0⟩:=by
 simp [okA,okN,okP',okV,newVn,p3,x2,x4]
theorem kC:applyA ⟨⟨1,7,1,9,true⟩,[],[x2],false,⟨5,0,0,0,0,5,2,0,0,0,[],[]⟩,3,0⟩=(⟨⟨1,7,1,9,true⟩,[p3],[x2],false,⟨5,0,0,0,0,5,2,0,0,0,[],[]⟩,3,0⟩,0):=by kernel_rfl
theorem oC:okA ⟨⟨1,7,1,9,true⟩,[],[x2],false,⟨5,0,0,0,0,5,2,0,0,0,[],[]⟩,3,0⟩:=by
 simp [okA,okN,okP',okV,newVn,p3,x2,x4]
theorem kX:applyA ⟨⟨1,7,1,9,true⟩,[p3],[x2],false,⟨4,7,1,0,1,0,2,0,0,0,[],[]⟩,4,0⟩=(⟨⟨1,7,1,9,true⟩,[p3],[x2,x4],false,⟨4,7,1,0,1,0,2,0,0,0,[],[]⟩,4,0⟩,0):=by kernel_rfl
theorem oX:okA ⟨⟨1,7,1,9,true⟩,[p3],[x2],false,⟨4,7,1,0,1,0,2,0,0,0,[],[]⟩,4,0⟩:=by
 simp [okA,okN,okP',okV,newVn,p3,x2,x4]
theorem kY:applyA ⟨⟨1,7,1,9,true⟩,[p3],[x2,x4],false,⟨8,0,0,0,0,0,0,3,0,0,[],[]⟩,5,0⟩=(⟨⟨1,7,1,9,true⟩,[p3],[x2,x4],false,⟨8,0,0,0,0,0,0,3,0,0,[],[]⟩,5,0⟩,0):=by kernel_rfl
theorem oY:okA ⟨⟨1,7,1,9,true⟩,[p3],[x2,x4],false,⟨8,0,0,0,0,0,0,3,0,0,[],[]⟩,5,0⟩:=by
 simp [okA,okN,okP',okV,newVn,p3,x2,x4]
theorem kZ:applyA ⟨⟨1,7,1,9,true⟩,[p3],[x2,x4],false,⟨8,0,0,0,0,0,0,6,0,0,[],[]⟩,5,0⟩=(⟨⟨1,7,1,9,true⟩,[],[x2h,x4],false,⟨8,0,0,0,0,0,0,6,0,0,[],[]⟩,5,0⟩,0):=by kernel_rfl
theorem oZ:okA ⟨⟨1,7,1,9,true⟩,[p3],[x2,x4],false,⟨8,0,0,0,0,0,0,6,0,0,[],[]⟩,5,0⟩:=by
 simp [okA,okN,okP',okV,newVn,p3,x2,x4]
theorem kK:applyA ⟨⟨0,0,0,0,false⟩,[],[],false,⟨4,7,1,0,0,0,0,0,0,0,[],[]⟩,1,0⟩=(⟨⟨0,0,0,0,false⟩,[],[],false,⟨4,7,1,0,0,0,0,0,0,0,[],[]⟩,1,0⟩,220):=by kernel_rfl
theorem oK:okA ⟨⟨0,0,0,0,false⟩,[],[],false,⟨4,7,1,0,0,0,0,0,0,0,[],[]⟩,1,0⟩:=by
 simp [okA,okN,okP',okV,newVn,p3,x2,x4]
theorem kM:applyA ⟨⟨0,0,0,0,false⟩,[],[],false,⟨1,0,0,0,2,0,0,0,0,0,[],[]⟩,1,0⟩=(⟨⟨0,0,0,0,false⟩,[],[],false,⟨1,0,0,0,2,0,0,0,0,0,[],[]⟩,1,0⟩,220):=by kernel_rfl
theorem oM:okA ⟨⟨0,0,0,0,false⟩,[],[],false,⟨1,0,0,0,2,0,0,0,0,0,[],[]⟩,1,0⟩:=by
 simp [okA,okN,okP',okV,newVn,p3,x2,x4]
theorem sY:seenV [x2,x4]=[x2,x4]:=rfl
theorem sZ:seenV [x2h,x4]=[x4]:=rfl
theorem fN:flatRows []:=fun _ h=>by cases h
theorem rX:rowAt (rowsV [x2]) 0=[.int .u64 2,.int .u64 0,.int .u64 7,.int .u64 1,.int .u64 0,.int .u64 0,.int .u64 0,.str [],.bool false,.bool false]:=rfl
theorem rZ:rowAt (rowsV [x2h,x4]) 0=[.int .u64 2,.int .u64 0,.int .u64 7,.int .u64 1,.int .u64 0,.int .u64 0,.int .u64 0,.str [],.bool false,.bool true]:=rfl
noncomputable def GWkD:List AV→Option (Prop × AV)
 | []=>some (True,.pv (.bool true))
 | _=>none
@[simp] theorem GWkD_eq:GWkD []=some (True,.pv (.bool true)):=rfl
theorem c_wkD:ConT Try.prog 5 GWkD:=by
 intro ys φ r h hφ
 unfold GWkD at h
 split at h
 ·cases h
  refine con_of (tab_cons c_App (tab_cons c_Owns (tab_cons c_Seen tab_nil))) (by kernel_rfl) fn5 (by simp) ?_
  unfold body5
  apply vwp_cut
  ·simp (config := { maxSteps := 3000000 })
   exact⟨rfl,rfl⟩
  apply vwp_cut
  ·simp (config := { maxSteps := 3000000 })
   exact⟨rfl,rfl⟩
  apply vwp_cut
  ·simp (config := { maxSteps := 3000000 }) [kA,oA,cellsDf,fN,flat_rowsP,flat_rowsV]
   exact⟨rfl,rfl⟩
  apply vwp_cut
  ·simp (config := { maxSteps := 3000000 }) [kB,oB,cellsDf,fN,flat_rowsP,flat_rowsV]
   exact⟨rfl,rfl⟩
  apply vwp_cut
  ·simp (config := { maxSteps := 3000000 }) [kC,oC,cellsDf,fN,flat_rowsP,flat_rowsV]
   exact⟨rfl,rfl⟩
  apply vwp_cut
  ·simp (config := { maxSteps := 3000000 }) [kX,oX,cellsDf,fN,flat_rowsP,flat_rowsV]
   exact⟨rfl,rfl⟩
  apply vwp_cut
  ·simp (config := { maxSteps := 3000000 }) [kY,oY,cellsDf,fN,flat_rowsP,flat_rowsV]
   exact⟨rfl,rfl⟩
  apply vwp_cut
  ·simp (config := { maxSteps := 3000000 }) [kZ,oZ,cellsDf,fN,flat_rowsP,flat_rowsV]
   exact⟨rfl,rfl⟩
  apply vwp_cut
  ·simp (config := { maxSteps := 3000000 }) [kK,oK,cellsDf,fN,flat_rowsP,flat_rowsV]
   exact⟨rfl,rfl⟩
  apply vwp_cut
  ·simp (config := { maxSteps := 3000000 }) [kM,oM,cellsDf,fN,flat_rowsP,flat_rowsV]
   exact⟨rfl,rfl⟩
  apply vwp_cut
  ·simp (config := { maxSteps := 3000000 })
   exact⟨rfl,rfl⟩
  apply vwp_cut
  ·refine (show stepsX _ _ _ _ _ from ?_)
   apply stepsX_spl 10 rfl rfl
   ·simp (config := { maxSteps := 3000000 }) [ownsL,sY,sZ,rX,rZ,flat_rowsV]
    exact⟨rfl,rfl⟩
   apply stepsX_spl 8 rfl rfl
   ·simp (config := { maxSteps := 3000000 }) [ownsL,sY,sZ,rX,rZ,flat_rowsV]
    exact⟨rfl,rfl⟩
   apply stepsX_spl 8 rfl rfl
   ·simp (config := { maxSteps := 3000000 }) [ownsL,sY,sZ,rX,rZ,flat_rowsV]
    exact⟨rfl,rfl⟩
   apply stepsX_spl 7 rfl rfl
   ·simp (config := { maxSteps := 3000000 }) [ownsL,sY,sZ,rX,rZ,flat_rowsV]
    exact⟨rfl,rfl⟩
   apply stepsX_spl 7 rfl rfl
   ·simp (config := { maxSteps := 3000000 }) [ownsL,sY,sZ,rX,rZ,flat_rowsV]
    exact⟨rfl,rfl⟩
   apply stepsX_spl 6 rfl rfl
   ·simp (config := { maxSteps := 3000000 }) [ownsL,sY,sZ,rX,rZ,flat_rowsV]
    exact⟨rfl,rfl⟩
   simp (config := { maxSteps := 3000000 }) [rZ]
   exact⟨rfl,rfl⟩
  simp (config := { maxSteps := 3000000 })
 ·cases h
noncomputable def GrDI:List AV→Option (Prop × AV)
 | [.agg ys,.pv (.ro ts)]=>withD ys fun d=>(dec rowSt ts).map fun ts=>(d.ps.length≤100000∧d.vs.length≤100000∧(∀v∈d.vs,okV v),.tup [.agg [.pv (.int .u64 (inlD d ts).1.l.e),.pv (.int .u64 (inlD d ts).1.l.p),.pv (.int .u64 (inlD d ts).1.l.i),.pv (.int .u64 (inlD d ts).1.l.u),.pv (.bool (inlD d ts).1.l.h),.pv (.ro (rowsP (inlD d ts).1.ps)),.pv (.ro (rowsV (inlD d ts).1.vs)),.pv (.bool (inlD d ts).1.sl)],.pv (.int .i64 (inlD d ts).2)])
 | _=>none
@[simp] theorem GrDI_eq (ys:List AV) (ts:List (List PV)):GrDI [.agg ys,.pv (.ro ts)]=withD ys fun d=>(dec rowSt ts).map fun ts=>(d.ps.length≤100000∧d.vs.length≤100000∧(∀v∈d.vs,okV v),.tup [.agg [.pv (.int .u64 (inlD d ts).1.l.e),.pv (.int .u64 (inlD d ts).1.l.p),.pv (.int .u64 (inlD d ts).1.l.i),.pv (.int .u64 (inlD d ts).1.l.u),.pv (.bool (inlD d ts).1.l.h),.pv (.ro (rowsP (inlD d ts).1.ps)),.pv (.ro (rowsV (inlD d ts).1.vs)),.pv (.bool (inlD d ts).1.sl)],.pv (.int .i64 (inlD d ts).2)]):=rfl
theorem c_rDI:ConT Try.prog 13 GrDI:=by
 intro ys φ r h hφ
 unfold GrDI at h
 split at h
 ·obtain⟨d,hd,h2⟩:=withD_inv h
  subst hd
  clear h
  obtain⟨ts,hts,h3⟩:=Option.map_eq_some_iff.1 h2
  clear h2
  cases h3
  cases dec_rowsSt_inv hts
  obtain⟨h1,h2,h3⟩:=hφ
  have h4:(∀v∈d.vs,okV v)=True:=eq_true h3
  have hi2:(Try.prog.info? 84).isSome=true:=by kernel_rfl
  refine con_of (tab_cons c_rInl tab_nil) (by kernel_rfl) fn13 (by simp) ?_
  unfold body13
  apply vwp_cut
  ·simp (config := { maxSteps := 3000000 }) [cellsD]
   exact⟨rfl,rfl⟩
  apply vwp_cut
  ·simp (config := { maxSteps := 3000000 }) [h2,h4]
   exact⟨rfl,rfl⟩
  unfold inlD
  generalize inlinedV d.vs ts=x
  obtain⟨x,e⟩:=x
  by_cases he:e=0
  ·subst he
   apply vwp_cut
   ·simp (config := { maxSteps := 3000000 })
    exact⟨rfl,rfl⟩
   simp (config := { maxSteps := 3000000 })
  ·simp (config := { maxSteps := 3000000 }) [he,hi2]
 ·cases h
theorem inlD_len (d:Dc) (ts:List (List UInt8)) (h1:d.ps.length≤100000) (h2:d.vs.length≤100000):(inlD d ts).1.ps.length≤100000∧(inlD d ts).1.vs.length≤100000:=by
 have:(inlinedV d.vs ts).1.length≤d.vs.length:=by
  unfold inlinedV;split
  ·simp
  ·have:=seenV_len (l:=d.vs)
   simp [inlV];omega
 unfold inlD
 split
 ·exact⟨h1,by show (inlinedV d.vs ts).1.length≤100000;omega⟩
 ·exact⟨by simp,by simp⟩
theorem few_len {d:Dc} (h:fewD d=true):d.ps.length≤20∧d.vs.length≤20:=by
 simp only [fewD,Bool.and_eq_true,decide_eq_true_eq]at h
 exact⟨h.1.2,h.2⟩
theorem c_docInl (d o:Dc) (ts:List (List UInt8)) (hd:d.vs.length≤maxLen) (ho:o.vs.length≤maxLen) (hV:∀v∈d.vs,okV v) (hts:ts.length≤maxLen) :
  Con Try.prog 4 [] [.agg (cellsD d),.agg (cellsD o),.pv (.ro (rowsSt ts))] [] (.pv (.bool true)):=by
 refine con_of (tab_cons c_FewD (tab_cons c_wkD (tab_cons c_dD (tab_cons c_rDI (tab_cons c_DIn (tab_cons c_rSD (tab_consG (ks:=[1]) c_SpD (by kernel_rfl) (tab_cons c_SD tab_nil)))))))) (by kernel_rfl) fn4 (by simp) ?_
 unfold body4
 apply vwp_cut
 ·simp (config := { maxSteps := 3000000 }) [cellsD]
  exact⟨rfl,rfl⟩
 cases hf:fewD d with
 |false=>simp (config := { maxSteps := 3000000 }) [hf,hd]
 |true=>
  cases hg:fewD o with
  |false=>simp (config := { maxSteps := 3000000 }) [hf,hd,hg,ho]
  |true=>
   by_cases hl:(20:Int) < ts.length
   ·simp (config := { maxSteps := 3000000 }) [hf,hd,hg,ho,hl]
   apply vwp_cut
   ·simp (config := { maxSteps := 3000000 }) [hf,hd,hg,ho,hl]
    exact⟨rfl,rfl⟩
   obtain⟨p1,p2⟩:=few_len hf
   obtain⟨q1,q2⟩:=few_len hg
   have p3:d.ps.length≤100000:=by omega
   have p4:d.vs.length≤100000:=by omega
   have q3:o.ps.length≤100000:=by omega
   have q4:o.vs.length≤100000:=by omega
   apply vwp_cut
   ·apply vwp_cut
    ·simp (config := { maxSteps := 3000000 })
     exact⟨rfl,rfl⟩
    rw [vwp_block]
    refine vwp_loop (fun i:Nat=>i≤ts.length) (fun j=>⟨[(2,.pv (.ro (rowsSt ts))),(3,.ptr 3 0),(4,.ptr 4 0),(7,.pv (.int .i64 j))],[(3,.box (cellsD d)),(4,.box (cellsD o))]⟩) (fun i=>ts.length - i) [] 0 (by simp) ?_ ?_
    ·simp [cellsD]
    ·intro j hj
     have w2:IntKind.i64.wrap ((j:Int)+1)=(j:Int)+1:=wrap_i64 (by omega)
     by_cases hlt:j < ts.length
     ·have r1:=rowsSt_at hlt
      by_cases h1:(100:Int) < ts[j].length
      ·simp (config := { maxSteps := 3000000 }) [w2,hlt,r1,h1]
      ·have h1':(ts[j].length:Int)≤100:=by omega
       simp (config := { maxSteps := 3000000 }) [w2,hlt,r1,h1,h1']
       exact⟨j+1,by omega,⟨by omega,by simp [cellsD]⟩,by omega⟩
     ·have hja:j=ts.length:=by omega
      subst hja
      simp (config := { maxSteps := 3000000 })
      exact⟨rfl,rfl⟩
   apply vwp_cut
   ·simp (config := { maxSteps := 3000000 }) [p3,p4,cellsD]
    exact⟨rfl,rfl⟩
   have hV':(∀v∈d.vs,okV v)=True:=eq_true hV
   have hin:=inlD_len d ts p3 p4
   obtain⟨⟨de,dp,di,du,dh⟩,dps,dvs,dsl⟩:=d
   obtain⟨⟨oe,op,oi,ou,oh⟩,ops,ovs,osl⟩:=o
   simp only []at p3 p4 q3 q4 hV'
   apply vwp_cut
   ·simp (config := { maxSteps := 3000000 }) [p3,p4,hV']
    exact⟨rfl,rfl⟩
   generalize hx:inlD ⟨⟨de,dp,di,du,dh⟩,dps,dvs,dsl⟩ ts=x at *
   obtain⟨⟨⟨xe,xp,xi,xu,xh⟩,xps,xvs,xsl⟩,e⟩:=x
   obtain⟨x1,x2⟩:=hin
   apply vwp_cut
   ·simp (config := { maxSteps := 3000000 }) [p3,p4,hV',hx,flat_rowsP,flat_rowsV]
    exact⟨rfl,rfl⟩
   simp only []at x1 x2
   have x3:xps.length≤1000000000:=by omega
   have x4:xvs.length≤1000000000:=by omega
   have x5:xps.length≤1000000:=by omega
   have x6:xvs.length≤1000000:=by omega
   have p5:dps.length≤1000000000:=by omega
   have p6:dvs.length≤1000000000:=by omega
   apply vwp_cut
   ·apply vwp_cut
    ·simp (config := { maxSteps := 3000000 }) [x1,x2,x3,x4,flat_rowsP,flat_rowsV]
     exact⟨rfl,rfl⟩
    simp (config := { maxSteps := 3000000 })
    exact⟨rfl,rfl⟩
   have r3:∀r∈rowsP xps,r.length=3:=by
    intro r hr
    simp only [rowsP,List.mem_map]at hr
    obtain⟨c,_,rfl⟩:=hr
    rfl
   have r4:=rowsV_ten xvs
   have r3':(∀r∈rowsP xps,r.length=3)=True:=eq_true r3
   have r4':(∀r∈rowsV xvs,r.length=10)=True:=eq_true r4
   apply vwp_cut
   ·simp (config := { maxSteps := 3000000 }) [x5,x6,r3',r4',flat_rowsP,flat_rowsV]
    exact⟨rfl,rfl⟩
   have q5:ops.length≤1000000000:=by omega
   have q6:ovs.length≤1000000000:=by omega
   simp (config := { maxSteps := 3000000 }) [p3,p4,p5,p6,q3,q4,q5,q6,flat_rowsP,flat_rowsV]
end Go.Proofs.Ytlmkcmfmfahcfaa.Ab
