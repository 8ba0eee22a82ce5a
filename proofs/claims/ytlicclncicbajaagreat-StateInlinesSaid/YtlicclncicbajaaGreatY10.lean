/- Chapter 15: versions as plain data; which one has a number; whether they are right; which are seen. The program's side. -/
import Derived.Test.YtlicclncicbajaaGreatY9
import Derived.Test.YtlicclncicbajaaGreatChecked
import Derived.WalkKit
import Derived.Laws.CopyRow
import Derived.Laws.NewBlocks
import Derived.Lib.AppendZerosOnto
import Derived.Lib.Overlaps
import Derived.Lib.Walk
import Derived.Lib.SliceRun
import Derived.Laws.Externs
import Derived.Shelf.Spec.SlicesInsert
set_option linter.unusedVariables false
set_option linter.unusedSimpArgs false
set_option linter.unnecessarySimpa false
set_option maxHeartbeats 40000000
set_option maxRecDepth 100000
namespace Go.Proofs.YtlicclncicbajaaGreat.Ab
open Go Go.RowKit R
structure Vn where
 n:Int
 b:Int
 p:Int
 i:Int
 s:Int
 z:Int
 m:Int
 t:List UInt8
 inl:Bool
 eG:Bool deriving DecidableEq
def v0:Vn:=⟨0,0,0,0,0,0,0,[],false,false⟩
def cL (v:Vn):List PV:=[.int .u64 v.n,.int .u64 v.b,.int .u64 v.p,.int .u64 v.i,.int .u64 v.s,.int .u64 v.z,.int .u64 v.m,.str v.t,.bool v.inl,.bool v.eG]
def cT (v:Vn):List AV:=[.pv (.int .u64 v.n),.pv (.int .u64 v.b),.pv (.int .u64 v.p),.pv (.int .u64 v.i),.pv (.int .u64 v.s),.pv (.int .u64 v.z),.pv (.int .u64 v.m),.pv (.str v.t),.pv (.bool v.inl),.pv (.bool v.eG)]
theorem oy:∀a b,cL a=cL b→a=b:=by intro a b h;cases a;cases b;simpa[cL]using h
def az (l:List Vn):List (List PV):=l.map cL
@[simp] theorem RG:az []=[]:=rfl
@[simp] theorem Jt (l:List Vn):(az l).length=l.length:=by simp[az]
theorem dN (l m:List Vn):az (l++m)=az l++az m:=by simp[az]
theorem mC (l:List Vn):∀r∈az l,r.length=10:=by intro r hr;simp only[az,List.mem_map]at hr;obtain⟨c,_,rfl⟩:=hr;rfl
theorem bq {l:List Vn}{i:Nat} (h:i<l.length):rowAt (az l) (i:Int)=[.int .u64 l[i].n,.int .u64 l[i].b,.int .u64 l[i].p,.int .u64 l[i].i,.int .u64 l[i].s,.int .u64 l[i].z,.int .u64 l[i].m,.str l[i].t,.bool l[i].inl,.bool l[i].eG]:=by simp[rowAt,az,h,cL]
theorem DM (l:List Vn) (i:Nat):cut (az l) 0 (i:Int)=az (l.take i):=by simp[cut,az]
@[simp] theorem DZ (l:List Vn):dec cL (az l)=some l:=gX oy l
theorem aF {rows:List (List PV)}{l:List Vn} (h:dec cL rows=some l):rows=az l:=gV h
theorem aP (l:List Vn):bz (az l):=by intro r hr p hp;simp only[az,List.mem_map]at hr;obtain⟨c,_,rfl⟩:=hr;simp only[cL,List.mem_cons,List.not_mem_nil,or_false]at hp;rcases hp with rfl|rfl|rfl|rfl|rfl|rfl|rfl|rfl|rfl|rfl<;>rfl
def cY (v:Vn):Int:=if v.inl=true then 0 else v.b
@[simp] def CT:List AV→Option (Prop×AV)|[.agg [.pv (.int .u64 _),.pv (.int .u64 b),.pv (.int .u64 _),.pv (.int .u64 _),.pv (.int .u64 _),.pv (.int .u64 _),.pv (.int .u64 _),.pv (.str _),.pv (.bool inl),.pv (.bool _)]]=>some (True,.pv (.int .u64 (if inl=true then 0 else b)))|_=>none
theorem BS:aN Tryz.prog 150 CT:=by
 intro ys φ r h hφ;unfold CT at h;split at h;·rename_i n b p i s z m t inl eG;cases h;refine aq ah (by kernel_rfl) (by conv=>lhs;reduce) (by simp) ?_;cases inl<;>simp(config := { maxSteps := 3000000 })
 ·cases h
def tz (l:List Vn) (n:Int):Int:=if l.findIdx (fun v=>decide (v.n=n))<l.length then(l.findIdx (fun v=>decide (v.n=n)):Int) else-1
theorem xB {l:List Vn}{n:Int}{i:Nat} (h:i<l.length) (hq:l[i].n=n) (ht:∀v∈l.take i,¬v.n=n):tz l n=i:=by
 have hf:l.findIdx (fun v=>decide (v.n=n))=i:=by
  rw[List.findIdx_eq h];refine⟨by simpa using hq,fun j hj=>?_⟩;have:l[j]∈l.take i:=by rw[List.mem_take_iff_getElem];exact⟨j,by omega,rfl⟩
  simpa using ht _ this
 unfold tz;rw[hf,if_pos h]
theorem tK {l:List Vn}{n:Int} (ht:∀v∈l,¬v.n=n):tz l n=-1:=by
 have hf:l.findIdx (fun v=>decide (v.n=n))=l.length:=by rw[List.findIdx_eq_length];intro v hv;simpa using ht v hv
 unfold tz;rw[hf,if_neg (by omega)]
theorem pG (l:List Vn) (n:Int):(∃i,∃h:i<l.length,tz l n=i∧l[i].n=n∧∀v∈l.take i,¬v.n=n)∨(tz l n=-1∧∀v∈l,¬v.n=n):=by
 by_cases h:∃v∈l,v.n=n
 ·left;have hlt:l.findIdx (fun v=>decide (v.n=n))<l.length:=by rw[List.findIdx_lt_length];obtain⟨v,hv,hn⟩:=h;exact⟨v,hv,by simpa using hn⟩
  have h1:l[l.findIdx (fun v=>decide (v.n=n))].n=n:=by have:=List.findIdx_getElem (w:=hlt);simpa using this
  have h2:∀v∈l.take (l.findIdx (fun v=>decide (v.n=n))),¬v.n=n:=by intro v hv;rw[List.mem_take_iff_getElem]at hv;obtain⟨j,hj,rfl⟩:=hv;have:=List.not_of_lt_findIdx (show j<l.findIdx (fun v=>decide (v.n=n)) by omega);simpa using this
  exact⟨_,hlt,xB hlt h1 h2,h1,h2⟩
 ·right;have h':∀v∈l,¬v.n=n:=fun v hv hn=>h ⟨v,hv,hn⟩;exact⟨tK h',h'⟩
@[simp] def WG:List AV→Option (Prop×AV)|[.agg [.pv (.int .u64 a),.pv (.int .u64 _),.pv (.int .u64 _),.pv (.int .u64 _),.pv (.int .u64 _),.pv (.int .u64 _),.pv (.int .u64 _),.pv (.str _),.pv (.bool _),.pv (.bool _)],.rp [.int .u64 n]]=>some (True,.pv (.bool (decide (a=n))))|_=>none
theorem c_of1:aN Tryz.prog 179 WG:=by
 intro ys φ r h hφ;unfold WG at h;split at h;·cases h;refine aq ah (by kernel_rfl) (by conv=>lhs;reduce) (by simp) ?_;simp(config := { maxSteps := 3000000 })
 ·cases h
theorem JR:fo Tryz.prog 179=true:=by kernel_rfl
@[simp] noncomputable def GixV:List AV→Option (Prop×AV)|[.pv (.ro a),.bo f [.rp [.int .u64 n]]]=>if f=179 then(dec cL a).map fun l=>(l.length≤1000000000,.pv (.int .i64 (tz l n))) else none|_=>none
theorem XG:aN Tryz.prog 178 GixV:=by
 intro ys φ r h hφ;unfold GixV at h;split at h
 ·rename_i ra f n;split at h
  ·rename_i hf;subst hf;obtain⟨a,ha,h⟩:=Option.map_eq_some_iff.1 h;cases h;cases aF ha;refine aq (ag c_of1 ah) (by kernel_rfl) (by conv=>lhs;reduce) (by simp) ?_;simp(config := { maxSteps := 3000000 });refine al (fun i:Nat=>i≤a.length∧∀v∈a.take i,¬v.n=n) (fun i=>⟨[(0,.pv (.ro (az a))),(1,.bo 179 [.rp [.int .u64 n]]),(7,.pv (.int .i64 a.length)),(8,.pv (.int .i64 i))],[]⟩) (fun i=>a.length-i) [] 0 (by simp) ?_ ?_;·simp
   ·rintro i ⟨hi,ht⟩;have w2:IntKind.i64.wrap ((i:Int)+1)=(i:Int)+1:=wrap_i64 (by omega);by_cases hlt:i<a.length
    ·have r1:=bq hlt;have hr:¬a[i].n=n→∀v∈a.take (i+1),¬v.n=n:=by
      intro h0 e he;rw[List.take_succ_eq_append_getElem hlt,List.mem_append]at he;rcases he with he|he;·exact ht e he
      ·rw[List.mem_singleton]at he;rw[he];exact h0
     simp(config := { maxSteps := 3000000 }) [w2,hlt,r1,JR];refine⟨fun h=>(xB hlt h ht).symm,fun h=>⟨i+1,⟨by omega,hr h⟩,by omega,by omega⟩⟩
    ·simp(config := { maxSteps := 3000000 }) [hlt];rw[List.take_of_length_le (by omega)]at ht;exact(tK ht).symm
  ·cases h
 ·cases h
@[simp] noncomputable def Gof:List AV→Option (Prop×AV)|[.pv (.ro a),.pv (.int .u64 n)]=>(dec cL a).map fun l=>(l.length≤1000000000,.pv (.int .i64 (tz l n)))|_=>none
theorem PB:aN Tryz.prog 151 Gof:=by
 intro ys φ r h hφ;unfold Gof at h;split at h;·rename_i ra n;obtain⟨a,ha,h⟩:=Option.map_eq_some_iff.1 h;cases h;cases aF ha;refine aq (ag XG ah) (by kernel_rfl) (by conv=>lhs;reduce) (by simp) ?_;simp(config := { maxSteps := 3000000 }) [hφ]
 ·cases h
def fL (l:List Vn) (i:Nat):Int:=match i with|0=>0|i+1=>((l[i]?).getD v0).n
def jb (l:List Vn) (i:Nat):Bool:=decide (fL l i<((l[i]?).getD v0).n)&&(decide (cY ((l[i]?).getD v0)=0)||decide (0≤tz (l.take i) (cY ((l[i]?).getD v0))))
def bQ (l:List Vn):Bool:=(List.range l.length).all (jb l)
theorem iE (l:List Vn):bQ l=true↔∀i,i<l.length→jb l i=true:=by unfold bQ;rw[List.all_eq_true];exact⟨fun h i hi=>h i (List.mem_range.2 hi),fun h i hi=>h i (List.mem_range.1 hi)⟩
theorem sx {l:List Vn}{i:Nat} (hi:i<l.length) (h:jb l i=false):bQ l=false:=by cases hr:bQ l with|false=>rfl|true=>rw[(iE l).1 hr i hi]at h;cases h
@[simp] noncomputable def GRv:List AV→Option (Prop×AV)|[.pv (.ro a)]=>(dec cL a).map fun l=>(l.length≤1000000000,.pv (.bool (bQ l)))|_=>none
theorem Fj:aN Tryz.prog 108 GRv:=by
 intro ys φ r h hφ;unfold GRv at h;split at h
 ·rename_i ra;obtain⟨a,ha,h⟩:=Option.map_eq_some_iff.1 h;cases h;cases aF ha;refine aq (ag BS (ag PB ah)) (by kernel_rfl) (by conv=>lhs;reduce) (by simp) ?_;simp(config := { maxSteps := 3000000 });refine al (fun i:Nat=>i≤a.length∧∀j,j<i→jb a j=true) (fun i=>⟨[(0,.pv (.ro (az a))),(2,.pv (.bool false)),(3,.pv (.int .u64 (fL a i))),(6,.pv (.ro (az a))),(7,.pv (.int .i64 a.length)),(8,.pv (.int .i64 i))],[]⟩) (fun i=>a.length-i) [] 0 (by simp) ?_ ?_;·simp[fL]
  ·rintro i ⟨hi,ht⟩;have w2:IntKind.i64.wrap ((i:Int)+1)=(i:Int)+1:=wrap_i64 (by omega);by_cases hlt:i<a.length
   ·have r1:=bq hlt;have hg:(a[i]?).getD v0=a[i]:=by rw[List.getElem?_eq_getElem hlt];rfl
    have hpn:fL a (i+1)=a[i].n:=by simp only[fL];rw[hg]
    have hok:jb a i=(decide (fL a i<a[i].n)&&(decide (cY a[i]=0)||decide (0≤tz (a.take i) (cY a[i])))):=by unfold jb;rw[hg]
    have hnext:jb a i=true→∀j,j<i+1→jb a j=true:=by
     intro h j hj;by_cases hji:j=i;·rw[hji];exact h
     ·exact ht j (by omega)
    have hbad:jb a i=false→bQ a=false:=sx hlt;have hcut:=DM a i;have htl:(a.take i).length≤1000000000:=by rw[List.length_take];omega
    have hbv:(if a[i].inl=true then 0 else a[i].b)=cY a[i]:=rfl;have hmin:min i a.length≤1000000000:=by omega
    by_cases h1:a[i].n≤fL a i;·have hb:=hbad (by rw[hok,Bool.and_eq_false_iff];left;simp;omega);simp(config := { maxSteps := 3000000 }) [w2,hlt,r1,h1,hb,hbv,hcut,hmin]
    ·have h1':fL a i<a[i].n:=by omega
     by_cases h2:cY a[i]=0;·simp(config := { maxSteps := 3000000 }) [w2,hlt,r1,h1,h2,hbv,hcut,hmin];exact⟨i+1,⟨by omega,hnext (by rw[hok];simp[h1',h2])⟩,⟨hpn.symm,by omega⟩,by omega⟩
     ·simp(config := { maxSteps := 3000000 }) [w2,hlt,r1,h1,h2,hbv,hcut,hmin];refine⟨⟨hi,mC a⟩,fun h=>hbad (by rw[hok];simp[h1',h2];omega),fun h=>⟨i+1,⟨by omega,hnext (by rw[hok];simp[h1',h2,h])⟩,⟨hpn.symm,by omega⟩,by omega⟩⟩
   ·have:i=a.length:=by omega
    subst this;have hr:bQ a=true:=(iE a).2 ht;simp(config := { maxSteps := 3000000 }) [hr]
 ·cases h
def aW (l:List Vn):List Vn:=l.filter fun v=>!v.eG
theorem fO (l:List Vn):(aW l).length≤l.length:=List.length_filter_le _ _
theorem uG {l:List Vn}{i:Nat} (h:i<l.length):aW (l.take (i+1))=if l[i].eG=true then aW (l.take i) else aW (l.take i)++[l[i]]:=by rw[List.take_succ_eq_append_getElem h];unfold aW;rw[List.filter_append];cases hh:l[i].eG<;>simp[hh]
@[simp] noncomputable def CP (e:TypeId):List AV→Option (Prop×AV)|[.pv (.ro a)]=>(dec cL a).map fun l=>(l.length≤1000000,.fr e (az (aW l)))|_=>none
theorem ym:aN Tryz.prog 107 (CP 108):=by
 intro ys φ r h hφ;unfold CP at h;split at h
 ·rename_i ra;obtain⟨a,ha,h⟩:=Option.map_eq_some_iff.1 h;cases h;cases aF ha;refine aq ah (by kernel_rfl) (by conv=>lhs;reduce) (by simp) ?_;simp(config := { maxSteps := 3000000 });refine al (fun i:Nat=>i≤a.length) (fun i=>⟨[(0,.pv (.ro (az a))),(2,.own 2),(5,.pv (.ro (az a))),(6,.pv (.int .i64 a.length)),(7,.pv (.int .i64 i))],[(2,.arr 108 (az (aW (a.take i))))]⟩) (fun i=>a.length-i) [] 0 (by simp) ?_ ?_;·simp[aW]
  ·intro i hi;have w2:IntKind.i64.wrap ((i:Int)+1)=(i:Int)+1:=wrap_i64 (by omega);by_cases hlt:i<a.length
   ·have r1:=bq hlt;have hs:=uG hlt;have hl:=fO (a.take i);have hl1:(a.take i).length≤1000000:=by rw[List.length_take];omega
    cases hh:a[i].eG with|true=>rw[hh,if_pos rfl]at hs;simp(config := { maxSteps := 3000000 }) [w2,hlt,r1,hh];exact⟨i+1,by omega,⟨by omega,by rw[hs]⟩,by omega⟩|false=>rw[hh,if_neg (by simp)]at hs;simp(config := { maxSteps := 3000000 }) [w2,hlt,r1,hh,aH];refine⟨⟨by omega,by omega⟩,i+1,by omega,⟨by omega,?_⟩,by omega⟩;rw[hs,dN];simp[az,cL,hh]
   ·simp(config := { maxSteps := 3000000 }) [hlt];rw[List.take_of_length_le (by omega)]
 ·cases h
def lp (l:List Vn) (n:Int):Option Vn:=(aW l).find? fun v=>decide (v.n=n)
theorem JE {l:List Vn}{n:Int}{i:Nat} (h:i<(aW l).length) (hq:(aW l)[i].n=n) (ht:∀v∈(aW l).take i,¬v.n=n):lp l n=some (aW l)[i]:=by
 unfold lp;rw[List.find?_eq_some_iff_getElem];refine⟨by simpa using hq,i,h,rfl,fun j hj=>?_⟩;have:(aW l)[j]∈(aW l).take i:=by rw[List.mem_take_iff_getElem];exact⟨j,by omega,rfl⟩
 simpa using ht _ this
theorem D9 {l:List Vn}{n:Int} (ht:∀v∈aW l,¬v.n=n):lp l n=none:=by unfold lp;rw[List.find?_eq_none];intro v hv;simpa using ht v hv
@[simp] noncomputable def GGv:List AV→Option (Prop×AV)|[.pv (.ro a),.pv (.int .u64 n)]=>(dec cL a).map fun l=>(l.length≤1000000,.aJ [.agg (cT ((lp l n).getD v0)),.pv (.bool (lp l n).isSome)])|_=>none
theorem N3:aN Tryz.prog 172 GGv:=by
 intro ys φ r h hφ;unfold GGv at h;split at h
 ·rename_i ra n;obtain⟨a,ha,h⟩:=Option.map_eq_some_iff.1 h;cases h;cases aF ha;have hs9:(aW a).length≤1000000000:=by have:=fO a;omega
  have fl:∀l,bz (az l):=aP;refine aq (ag ym (ag PB ah)) (by kernel_rfl) (by conv=>lhs;reduce) (by simp) ?_;rcases pG (aW a) n with⟨i,hi,h1,h2,h3⟩|⟨h1,h2⟩;·have r1:=bq hi;have hg:=JE hi h2 h3;simp(config := { maxSteps := 3000000 }) [hφ,hs9,fl,h1,r1,hi,hg,cT]
  ·have hg:=D9 h2;simp(config := { maxSteps := 3000000 }) [hφ,hs9,fl,h1,hg,cT,v0]
 ·cases h
def yi (l:List Vn):Option Vn:=(aW l).getLast?
@[simp] noncomputable def GCv:List AV→Option (Prop×AV)|[.pv (.ro a)]=>(dec cL a).map fun l=>(l.length≤1000000,.aJ [.agg (cT ((yi l).getD v0)),.pv (.bool (yi l).isSome)])|_=>none
theorem c_Cv:aN Tryz.prog 192 GCv:=by
 intro ys φ r h hφ;unfold GCv at h;split at h
 ·rename_i ra;obtain⟨a,ha,h⟩:=Option.map_eq_some_iff.1 h;cases h;cases aF ha;have hsl:=fO a;have fl:∀l,bz (az l):=aP;refine aq (ag ym ah) (by kernel_rfl) (by conv=>lhs;reduce) (by simp) ?_;by_cases hn:aW a=[]
  ·have hc:yi a=none:=by unfold yi;rw[hn];rfl
   simp(config := { maxSteps := 3000000 }) [hφ,fl,hn,hc,cT,v0]
  ·have hl:0<(aW a).length:=List.length_pos_iff.2 hn;have hlt:(aW a).length-1<(aW a).length:=by omega
   have r1:=bq hlt;have hcast:(((aW a).length-1:Nat):Int)=((aW a).length:Int)-1:=by omega
   rw[hcast]at r1;have hc:yi a=some (aW a)[(aW a).length-1]:=by unfold yi;rw[List.getLast?_eq_getElem?,List.getElem?_eq_getElem hlt]
   have w1:IntKind.i64.wrap (((aW a).length:Int)-1)=((aW a).length:Int)-1:=wrap_i64 (by omega);have hne:¬((aW a).length:Int)=0:=by omega
   have b1:(0:Int)≤((aW a).length:Int)-1:=by omega
   have b2:((aW a).length:Int)-1<(aW a).length:=by omega
   simp(config := { maxSteps := 3000000 }) [hφ,fl,hn,hc,w1,hne,b1,b2,r1,cT];omega
 ·cases h
theorem N4:aN Tryz.prog 125 CT:=by
 intro ys φ r h hφ;unfold CT at h;split at h;·rename_i n b p i s z m t inl eG;cases h;refine aq ah (by kernel_rfl) (by conv=>lhs;reduce) (by simp) ?_;cases inl<;>simp(config := { maxSteps := 3000000 })
 ·cases h
@[simp] noncomputable def K4:List AV→Option (Prop×AV)|[.pv (.ro a),.pv (.int .i64 k),.pv (.int .u64 n)]=>(dec cL a).map fun l=>(l.length≤1000000000∧0≤k∧k≤l.length,.pv (.int .i64 (tz (l.take k.toNat) n)))|_=>none
theorem MU:aN Tryz.prog 130 K4:=by
 intro ys φ r h hφ;unfold K4 at h;split at h
 ·rename_i ra k n;obtain⟨a,ha,h⟩:=Option.map_eq_some_iff.1 h;cases h;cases aF ha;obtain⟨hl,h0,hk⟩:=hφ;obtain⟨k,rfl⟩:∃q:Nat,k=(q:Int):=⟨k.toNat,by omega⟩;simp only[Int.toNat_natCast];have hk':k≤a.length:=by omega
  refine aq ah (by kernel_rfl) (by conv=>lhs;reduce) (by simp) ?_;simp(config := { maxSteps := 3000000 });refine al (fun i:Nat=>i≤k∧∀v∈a.take i,¬v.n=n) (fun i=>⟨[(0,.pv (.ro (az a))),(1,.pv (.int .i64 k)),(2,.pv (.int .u64 n)),(7,.pv (.int .i64 i))],[]⟩) (fun i=>k-i) [] 0 (by simp) ?_ ?_;·simp
  ·rintro i ⟨hi,ht⟩;have w2:IntKind.i64.wrap ((i:Int)+1)=(i:Int)+1:=wrap_i64 (by omega);by_cases hik:(i:Int)<k
   ·have hlt:i<a.length:=by omega
    have r1:=bq hlt;by_cases hn:a[i].n=n
    ·have hx:tz (a.take k) n=i:=by refine xB (by rw[List.length_take];omega) (by rw[List.getElem_take];exact hn) ?_;rw[List.take_take,Nat.min_eq_left (by omega)];exact ht
     simp(config := { maxSteps := 3000000 }) [w2,hik,hlt,r1,hn,hx]
    ·simp(config := { maxSteps := 3000000 }) [w2,hik,hlt,r1,hn];refine⟨i+1,⟨by omega,fun v hv=>?_⟩,by omega,by omega⟩;rw[List.take_succ_eq_append_getElem hlt,List.mem_append]at hv;rcases hv with hv|hv;·exact ht v hv
     ·rw[List.mem_singleton]at hv;rw[hv];exact hn
   ·have:i=k:=by omega
    subst this;have hx:tz (a.take i) n=-1:=tK ht;simp(config := { maxSteps := 3000000 }) [hx]
 ·cases h
def jC (v:Vn):Prop:=0≤v.n∧v.n≤18446744073709551615∧0≤v.b∧v.b≤18446744073709551615
theorem DC {v:Vn} (h:jC v):0≤cY v:=by
 unfold cY;split;·omega
 ·exact h.2.2.1
@[simp] noncomputable def US:List AV→Option (Prop×AV)|[.pv (.ro a)]=>(dec cL a).map fun l=>(l.length≤1000000000∧∀v∈l,jC v,.pv (.bool (bQ l)))|_=>none
theorem XB:aN Tryz.prog 106 US:=by
 intro ys φ r h hφ
 unfold US at h
 split at h
 ·rename_i ra
  obtain⟨a,ha,h⟩:=Option.map_eq_some_iff.1 h
  cases h
  cases aF ha
  obtain⟨hl9,hov⟩:=hφ
  refine aq (ag N4 (ag MU ah)) (by kernel_rfl) (by conv=>lhs;reduce) (by simp) ?_
  simp (config := { maxSteps := 3000000 })
  refine al (fun i:Nat=>i≤a.length∧∀j,j < i→jb a j=true) (fun i=>⟨[(0,.pv (.ro (az a))),(2,.pv (.bool false)),(3,.pv (.int .i64 i))],[]⟩) (fun i=>a.length - i) [] 0 (by simp) ?_ ?_
  ·simp
  ·rintro i ⟨hi,ht⟩
   have w2:IntKind.i64.wrap ((i:Int)+1)=(i:Int)+1:=wrap_i64 (by omega)
   by_cases hlt:i < a.length
   ·have r1:=bq hlt
    have hg:(a[i]?).getD v0=a[i]:=by rw [List.getElem?_eq_getElem hlt];rfl
    have ho:=hov a[i] (List.getElem_mem hlt)
    have hb0:=DC ho
    have hok:jb a i=(decide (fL a i < a[i].n) && (decide (cY a[i]=0) || decide (0≤tz (a.take i) (cY a[i])))):=by unfold jb;rw [hg]
    have hnext:jb a i=true→∀j,j < i+1→jb a j=true:=by
     intro h j hj
     by_cases hji:j=i
     ·rw [hji];exact h
     ·exact ht j (by omega)
    have hbad:jb a i=false→bQ a=false:=sx hlt
    have hbv:(if a[i].inl=true then 0 else a[i].b)=cY a[i]:=rfl
    have hn0:=ho.1
    have him:i - 1 < a.length:=by omega
    have rm:rowAt (az a) ((i:Int) - 1)=[.int .u64 a[i - 1].n,.int .u64 a[i - 1].b,.int .u64 a[i - 1].p,.int .u64 a[i - 1].i,.int .u64 a[i - 1].s,.int .u64 a[i - 1].z,.int .u64 a[i - 1].m,.str a[i - 1].t,.bool a[i - 1].inl,.bool a[i - 1].eG]:=by
     rw [←bq him]
     unfold rowAt
     congr 1
     omega
    have w1:IntKind.i64.wrap ((i:Int) - 1)=(i:Int) - 1:=wrap_i64 (by omega)
    have hop:=(hov a[i - 1] (List.getElem_mem him)).1
    have hpi : 0 < i→fL a i=a[i - 1].n:=by
     intro h0
     obtain⟨q,rfl⟩:∃q,i=q+1:=⟨i - 1,by omega⟩
     have hq:q < a.length:=by omega
     simp only [fL,Nat.add_sub_cancel]
     rw [List.getElem?_eq_getElem hq];rfl
    have hp0:¬ 0 < i→fL a i=0:=by
     intro h0
     have:i=0:=by omega
     subst this;rfl
    have hmin:min i a.length=i:=by omega
    by_cases h1:a[i].n=0
    ·have hb:=hbad (by
      rw [hok,Bool.and_eq_false_iff];left
      simp only [decide_eq_false_iff_not]
      by_cases h0 : 0 < i
      ·rw [hpi h0];omega
      ·rw [hp0 h0];omega)
     simp (config := { maxSteps := 3000000 }) [w1,w2,hlt,r1,rm,h1,hb,hbv]
    ·by_cases h0 : 0 < i
     ·have hpi':=hpi h0
      have hb1 : 1≤(i:Int):=by omega
      have hb2:(i:Int) - 1 < a.length:=by omega
      have hne:¬ i=0:=by omega
      by_cases h3:a[i].n≤a[i - 1].n
      ·have h3':¬ a[i - 1].n < a[i].n:=by omega
       have hb:=hbad (by rw [hok,Bool.and_eq_false_iff];left;simp;omega)
       simp (config := { maxSteps := 3000000 }) [w1,w2,hlt,r1,rm,h1,h0,hb1,hb2,hne,h3,h3',hb,hbv]
      ·have hlp:fL a i < a[i].n:=by omega
       have h3':a[i - 1].n < a[i].n:=by omega
       by_cases h2:cY a[i]=0
       ·simp (config := { maxSteps := 3000000 }) [w1,w2,hlt,r1,rm,h1,h0,hb1,hb2,hne,h3,h3',h2,hbv]
        exact⟨i+1,⟨by omega,hnext (by rw [hok];simp [hlp,h2])⟩,by omega,by omega⟩
       ·have h2' : 0 < cY a[i]:=by omega
        simp (config := { maxSteps := 3000000 }) [w1,w2,hlt,r1,rm,h1,h0,hb1,hb2,hne,h3,h3',h2,h2',hbv]
        exact⟨⟨hl9,hi⟩,fun h=>hbad (by rw [hok];simp [hlp,h2];omega),fun h=>⟨i+1,⟨by omega,hnext (by rw [hok];simp [hlp,h])⟩,by omega,by omega⟩⟩
     ·have hlp:fL a i < a[i].n:=by rw [hp0 h0];omega
      have hz:(i=0)=True:=by simp;omega
      have h0f:(0 < i)=False:=by simp;omega
      by_cases h2:cY a[i]=0
      ·simp (config := { maxSteps := 3000000 }) [w1,w2,hlt,r1,rm,h1,h0f,hz,h2,hbv]
       exact⟨i+1,⟨by omega,hnext (by rw [hok];simp [hlp,h2])⟩,by omega,by omega⟩
      ·have h2' : 0 < cY a[i]:=by omega
       simp (config := { maxSteps := 3000000 }) [w1,w2,hlt,r1,rm,h1,h0f,hz,h2,h2',hbv]
       exact⟨⟨hl9,hi⟩,fun h=>hbad (by rw [hok];simp [hlp,h2];omega),fun h=>⟨i+1,⟨by omega,hnext (by rw [hok];simp [hlp,h])⟩,by omega,by omega⟩⟩
   ·have:i=a.length:=by omega
    subst this
    have hr:bQ a=true:=(iE a).2 ht
    simp (config := { maxSteps := 3000000 }) [hr]
 ·cases h
theorem JM:aN Tryz.prog 105 (CP 144):=by
 intro ys φ r h hφ;unfold CP at h;split at h
 ·rename_i ra;obtain⟨a,ha,h⟩:=Option.map_eq_some_iff.1 h;cases h;cases aF ha;refine aq ah (by kernel_rfl) (by conv=>lhs;reduce) (by simp) ?_;simp(config := { maxSteps := 3000000 });refine al (fun i:Nat=>i≤a.length) (fun i=>⟨[(0,.pv (.ro (az a))),(3,.own 3),(4,.pv (.int .i64 i))],[(3,.arr 144 (az (aW (a.take i))))]⟩) (fun i=>a.length-i) [] 0 (by simp) ?_ ?_;·simp[aW]
  ·intro i hi;have w2:IntKind.i64.wrap ((i:Int)+1)=(i:Int)+1:=wrap_i64 (by omega);by_cases hlt:i<a.length
   ·have r1:=bq hlt;have hs:=uG hlt;have hl:=fO (a.take i);have hl1:(a.take i).length≤1000000:=by rw[List.length_take];omega
    cases hh:a[i].eG with|true=>rw[hh,if_pos rfl]at hs;simp(config := { maxSteps := 3000000 }) [w2,hlt,r1,hh];exact⟨i+1,by omega,⟨by omega,by rw[hs]⟩,by omega⟩|false=>rw[hh,if_neg (by simp)]at hs;simp(config := { maxSteps := 3000000 }) [w2,hlt,r1,hh,aH];refine⟨⟨by omega,by omega⟩,i+1,by omega,⟨by omega,?_⟩,by omega⟩;rw[hs,dN];simp[az,cL,hh]
   ·simp(config := { maxSteps := 3000000 }) [hlt];rw[List.take_of_length_le (by omega)]
 ·cases h
@[simp] def Gone:List AV→Option (Prop×AV)|[.agg [.pv (.int .u64 n),.pv (.int .u64 b),.pv (.int .u64 p),.pv (.int .u64 i),.pv (.int .u64 s),.pv (.int .u64 z),.pv (.int .u64 m),.pv (.str t),.pv (.bool inl),.pv (.bool eG)]]=>some (True,.agg [.pv (.int .u64 n),.pv (.int .u64 b),.pv (.int .u64 p),.pv (.int .u64 i),.pv (.int .u64 s),.pv (.int .u64 z),.pv (.int .u64 m),.pv (.str t),.pv (.bool inl),.pv (.bool eG)])|_=>none
@[simp] noncomputable def GRefV:List AV→Option (Prop×AV)|[.pv (.ro a)]=>(dec cL a).map fun l=>(l.length≤1000000,.fr 144 (az l))|_=>none
theorem Xi {x y:Vn}:(x.n=y.n∧x.b=y.b∧x.p=y.p∧x.i=y.i∧x.s=y.s∧x.z=y.z∧x.m=y.m∧x.t=y.t∧x.inl=y.inl∧x.eG=y.eG)↔x=y:=by cases x;cases y;simp
theorem Gi (x y:Vn):ja [.int .u64 x.n,.int .u64 x.b,.int .u64 x.p,.int .u64 x.i,.int .u64 x.s,.int .u64 x.z,.int .u64 x.m,.str x.t,.bool x.inl,.bool x.eG] [.int .u64 y.n,.int .u64 y.b,.int .u64 y.p,.int .u64 y.i,.int .u64 y.s,.int .u64 y.z,.int .u64 y.m,.str y.t,.bool y.inl,.bool y.eG]=decide (x=y):=by rw[Bool.eq_iff_iff];simp only[ja,mm,Bool.and_eq_true,decide_eq_true_eq,Bool.and_true];rw[←Xi]
@[simp] noncomputable def GSmV:List AV→Option (Prop×AV)|[.pv (.ro a),.pv (.ro b)]=>(dec cL a).bind fun la=>(dec cL b).map fun lb=>(la.length≤1000000,.pv (.bool (decide (la=lb))))|_=>none
def fewV (l:List Vn):Bool:=decide (l.length≤12)&&l.all fun v=>decide (v.t.length≤100)
@[simp] noncomputable def GFewV:List AV→Option (Prop×AV)|[.pv (.ro a)]=>(dec cL a).map fun l=>(True,.pv (.bool (fewV l)))|_=>none
def N8 (n:Int):List PV:=[.int .i64 n]
def Kt (l:List Int):List (List PV):=l.map N8
@[simp] theorem Tw:Kt []=[]:=rfl
def U3 (l:List Vn):List Int:=l.map fun v=>IntKind.i64.wrap v.n
@[simp] noncomputable def GnumsV:List AV→Option (Prop×AV)|[.pv (.ro a)]=>(dec cL a).map fun l=>(l.length≤1000000,.fr 3 (Kt (U3 l)))|_=>none
@[simp] noncomputable def GSmI:List AV→Option (Prop×AV)|[.pv (.ro a),.pv (.ro b)]=>(dec N8 a).bind fun la=>(dec N8 b).map fun lb=>(la.length≤1000000000,.pv (.bool (decide (la=lb))))|_=>none
structure Ls where
 e:Int
 p:Int
 i:Int
 u:Int
 h:Bool deriving DecidableEq
def gJ (l:Ls):List AV:=[.pv (.int .u64 l.e),.pv (.int .u64 l.p),.pv (.int .u64 l.i),.pv (.int .u64 l.u),.pv (.bool l.h)]
def pb:Int:=18446744073709551615
def nY (l:Ls) (p i e:Int):Bool:=l.h&&decide (l.p=p)&&decide (l.i=i)&&decide (l.e=e)
def wJ (l:Ls):Int×Int:=if l.e=pb then(0,131) else(l.e+1,0)
def kk (l:Ls) (p i u:Int):Ls×Int:=if l.e=pb then(l,131) else(⟨l.e+1,p,i,u,true⟩,0)
def xb (l:Ls) (u:Int):Ls:=⟨l.e,l.p,l.i,max l.u u,l.h⟩
def nX (l:Ls):Ls:=⟨l.e,l.p,l.i,l.u,false⟩
@[simp] def K6:List AV→Option (Prop×AV)|[.agg [.pv (.int .u64 e),.pv (.int .u64 p),.pv (.int .u64 i),.pv (.int .u64 u),.pv (.bool h)],.pv (.int .u64 q),.pv (.int .u64 j),.pv (.int .u64 f)]=>some (True,.pv (.bool (nY ⟨e,p,i,u,h⟩ q j f)))|_=>none
theorem OB:aN Tryz.prog 185 K6:=by
 intro ys φ r h hφ;unfold K6 at h;split at h;·rename_i e p i u h' q j f;cases h;refine aq ah (by kernel_rfl) (by conv=>lhs;reduce) (by simp) ?_;cases h' with|false=>simp(config := { maxSteps := 3000000 }) [nY]|true=>
  by_cases h1:p=q
  ·by_cases h2:i=j;·by_cases h3:e=f<;>simp(config := { maxSteps := 3000000 }) [nY,h1,h2,h3]
   ·simp(config := { maxSteps := 3000000 }) [nY,h1,h2]
  ·simp(config := { maxSteps := 3000000 }) [nY,h1]
 ·cases h
@[simp] def KW:List AV→Option (Prop×AV)|[.agg [.pv (.int .u64 e),.pv (.int .u64 p),.pv (.int .u64 i),.pv (.int .u64 u),.pv (.bool h)]]=>some (cU e,.aJ [.pv (.int .u64 (wJ ⟨e,p,i,u,h⟩).1),.pv (.int .i64 (wJ ⟨e,p,i,u,h⟩).2)])|_=>none
theorem Ns:aN Tryz.prog 184 KW:=by
 intro ys φ r h hφ;unfold KW at h;split at h
 ·rename_i e p i u h';cases h;obtain⟨o1,o2⟩:=hφ;refine aq ah (by kernel_rfl) (by conv=>lhs;reduce) (by simp) ?_;by_cases h1:e=18446744073709551615;·simp(config := { maxSteps := 3000000 }) [wJ,pb,h1]
  ·have w1:IntKind.u64.wrap (e+1)=e+1:=wrap_u64 (by omega);simp(config := { maxSteps := 3000000 }) [wJ,pb,h1,w1]
 ·cases h
@[simp] def Fc:List AV→Option (Prop×AV)|[.agg [.pv (.int .u64 e),.pv (.int .u64 p),.pv (.int .u64 i),.pv (.int .u64 u),.pv (.bool h)],.pv (.int .u64 q),.pv (.int .u64 j),.pv (.int .u64 v)]=>some (cU e,.aJ [.agg (gJ (kk ⟨e,p,i,u,h⟩ q j v).1),.pv (.int .i64 (kk ⟨e,p,i,u,h⟩ q j v).2)])|_=>none
theorem Ix:aN Tryz.prog 167 Fc:=by
 intro ys φ r h hφ;unfold Fc at h;split at h
 ·rename_i e p i u h' q j v;cases h;refine aq (ag Ns ah) (by kernel_rfl) (by conv=>lhs;reduce) (by simp) ?_;by_cases h1:e=18446744073709551615;·simp(config := { maxSteps := 3000000 }) [wJ,kk,pb,gJ,h1];exact h1▸hφ
  ·simp(config := { maxSteps := 3000000 }) [wJ,kk,pb,gJ,h1];exact hφ
 ·cases h
@[simp] def Gp:List AV→Option (Prop×AV)|[.agg [.pv (.int .u64 e),.pv (.int .u64 p),.pv (.int .u64 i),.pv (.int .u64 u),.pv (.bool h)],.pv (.int .u64 v)]=>some (True,.agg (gJ (xb ⟨e,p,i,u,h⟩ v)))|_=>none
theorem J7:aN Tryz.prog 169 Gp:=by
 intro ys φ r h hφ;unfold Gp at h;split at h;·cases h;refine aq ah (by kernel_rfl) (by conv=>lhs;reduce) (by simp) ?_;simp(config := { maxSteps := 3000000 }) [xb,gJ]
 ·cases h
@[simp] def VB:List AV→Option (Prop×AV)|[.agg [.pv (.int .u64 e),.pv (.int .u64 p),.pv (.int .u64 i),.pv (.int .u64 u),.pv (.bool h)]]=>some (True,.agg (gJ (nX ⟨e,p,i,u,h⟩)))|_=>none
theorem Wa:aN Tryz.prog 170 VB:=by
 intro ys φ r h hφ;unfold VB at h;split at h;·cases h;refine aq ah (by kernel_rfl) (by conv=>lhs;reduce) (by simp) ?_;simp(config := { maxSteps := 3000000 }) [nX,gJ]
 ·cases h
noncomputable def rN {α:Type} (f:α→AV) (y:AV):Option α:=open Classical in if h:∃p,f p=y then some h.choose else none
theorem dQ {α:Type}{f:α→AV}{y:AV}{p:α} (h:rN f y=some p):y=f p:=by
 unfold rN at h;split at h;·rename_i h';cases h;exact h'.choose_spec.symm
 ·cases h
theorem xf {α:Type}{f:α→AV} (inj:∀p q,f p=f q→p=q) (p:α):rN f (f p)=some p:=by unfold rN;have h:∃q,f q=f p:=⟨p,rfl⟩;rw[dif_pos h];exact congrArg some (inj _ _ h.choose_spec)
structure Rc where
 k:Int
 p:Int
 i:Int
 s:Int
 e:Int
 u:Int
 v:Int
 c:Int
 z:Int
 m:Int
 n:List UInt8
 t:List UInt8 deriving DecidableEq
structure Ap where
 l:Ls
 ps:List Pn
 vs:List Vn
 sl:Bool
 r:Rc
 n:Int
 s:Int
def nF (a:Ap):AV:=.bx [.pv (.int .u64 a.l.e),.pv (.int .u64 a.l.p),.pv (.int .u64 a.l.i),.pv (.int .u64 a.l.u),.pv (.bool a.l.h),.fr 134 (aw a.ps),.fr 108 (az a.vs),.pv (.bool a.sl),.pv (.int .u8 a.r.k),.pv (.int .u64 a.r.p),.pv (.int .u64 a.r.i),.pv (.int .u64 a.r.s),.pv (.int .u64 a.r.e),.pv (.int .u64 a.r.u),.pv (.int .u64 a.r.v),.pv (.int .u64 a.r.c),.pv (.int .u64 a.r.z),.pv (.int .u64 a.r.m),.pv (.str a.r.n),.pv (.str a.r.t),.pv (.int .u64 a.n),.pv (.int .u64 a.s)]
def Sr (a:Ap):AV:=.rp [.int .u64 a.l.e,.int .u64 a.l.p,.int .u64 a.l.i,.int .u64 a.l.u,.bool a.l.h,.ro (aw a.ps),.ro (az a.vs),.bool a.sl,.int .u8 a.r.k,.int .u64 a.r.p,.int .u64 a.r.i,.int .u64 a.r.s,.int .u64 a.r.e,.int .u64 a.r.u,.int .u64 a.r.v,.int .u64 a.r.c,.int .u64 a.r.z,.int .u64 a.r.m,.str a.r.n,.str a.r.t,.int .u64 a.n,.int .u64 a.s]
theorem fx {α β:Type}{f:α→β} (hf:∀a b,f a=f b→a=b):∀{l m:List α},l.map f=m.map f→l=m|[],[],_=>rfl|[],_::_,h=>by cases h|_::_,[],h=>by cases h|a::l,b::m,h=>by simp only[List.map_cons,List.cons.injEq]at h;rw[hf _ _ h.1,fx hf h.2]
theorem H6:∀p q,nF p=nF q→p=q:=by rintro⟨⟨e,p,i,u,h⟩,ps,vs,sl,⟨k,rp,ri,rs,re,ru,rv,rc,rz,rm,rn,rt⟩,n,s⟩ ⟨⟨e',p',i',u',h'⟩,ps',vs',sl',⟨k',rp',ri',rs',re',ru',rv',rc',rz',rm',rn',rt'⟩,n',s'⟩ hh;simp only[nF,AV.bx.injEq,List.cons.injEq,AV.pv.injEq,PV.int.injEq,PV.bool.injEq,PV.str.injEq,AV.fr.injEq,true_and,and_true]at hh;obtain⟨rfl,rfl,rfl,rfl,rfl,h1,h2,rfl,rfl,rfl,rfl,rfl,rfl,rfl,rfl,rfl,rfl,rfl,rfl,rfl,rfl,rfl⟩:=hh;rw[fx iS h1,fx oy h2]
theorem JC:∀p q,Sr p=Sr q→p=q:=by rintro⟨⟨e,p,i,u,h⟩,ps,vs,sl,⟨k,rp,ri,rs,re,ru,rv,rc,rz,rm,rn,rt⟩,n,s⟩ ⟨⟨e',p',i',u',h'⟩,ps',vs',sl',⟨k',rp',ri',rs',re',ru',rv',rc',rz',rm',rn',rt'⟩,n',s'⟩ hh;simp only[Sr,AV.rp.injEq,List.cons.injEq,PV.int.injEq,PV.bool.injEq,PV.str.injEq,PV.ro.injEq,true_and,and_true]at hh;obtain⟨rfl,rfl,rfl,rfl,rfl,h1,h2,rfl,rfl,rfl,rfl,rfl,rfl,rfl,rfl,rfl,rfl,rfl,rfl,rfl,rfl,rfl⟩:=hh;rw[fx iS h1,fx oy h2]
@[simp] theorem Y3 (e p i u:Int) (h:Bool) (ps:List Pn) (vs:List Vn) (sl:Bool) (k rp ri rs re ru rv rc rz rm:Int) (rn rt:List UInt8) (n s:Int):rN nF (.bx [.pv (.int .u64 e),.pv (.int .u64 p),.pv (.int .u64 i),.pv (.int .u64 u),.pv (.bool h),.fr 134 (aw ps),.fr 108 (az vs),.pv (.bool sl),.pv (.int .u8 k),.pv (.int .u64 rp),.pv (.int .u64 ri),.pv (.int .u64 rs),.pv (.int .u64 re),.pv (.int .u64 ru),.pv (.int .u64 rv),.pv (.int .u64 rc),.pv (.int .u64 rz),.pv (.int .u64 rm),.pv (.str rn),.pv (.str rt),.pv (.int .u64 n),.pv (.int .u64 s)])=some ⟨⟨e,p,i,u,h⟩,ps,vs,sl,⟨k,rp,ri,rs,re,ru,rv,rc,rz,rm,rn,rt⟩,n,s⟩:=xf H6 ⟨⟨e,p,i,u,h⟩,ps,vs,sl,⟨k,rp,ri,rs,re,ru,rv,rc,rz,rm,rn,rt⟩,n,s⟩
@[simp] theorem XL (e p i u:Int) (h:Bool) (ps:List Pn) (vs:List Vn) (sl:Bool) (k rp ri rs re ru rv rc rz rm:Int) (rn rt:List UInt8) (n s:Int):rN Sr (.rp [.int .u64 e,.int .u64 p,.int .u64 i,.int .u64 u,.bool h,.ro (aw ps),.ro (az vs),.bool sl,.int .u8 k,.int .u64 rp,.int .u64 ri,.int .u64 rs,.int .u64 re,.int .u64 ru,.int .u64 rv,.int .u64 rc,.int .u64 rz,.int .u64 rm,.str rn,.str rt,.int .u64 n,.int .u64 s])=some ⟨⟨e,p,i,u,h⟩,ps,vs,sl,⟨k,rp,ri,rs,re,ru,rv,rc,rz,rm,rn,rt⟩,n,s⟩:=xf JC ⟨⟨e,p,i,u,h⟩,ps,vs,sl,⟨k,rp,ri,rs,re,ru,rv,rc,rz,rm,rn,rt⟩,n,s⟩
@[simp] noncomputable def GOw:List AV→Option (Prop×AV)|[y]=>(rN Sr y).map fun a=>(True,.pv (.bool (nY a.l a.r.p a.r.i a.r.e)))|_=>none
theorem O9:aN Tryz.prog 168 GOw:=by
 intro ys φ r h hφ;unfold GOw at h;split at h;·obtain⟨a,ha,h⟩:=Option.map_eq_some_iff.1 h;cases h;cases dQ ha;refine aq (ag OB ah) (by kernel_rfl) (by conv=>lhs;reduce) (by simp) ?_;simp(config := { maxSteps := 3000000 }) [Sr]
 ·cases h
def wE (a:Ap):Ap×Bool:=(⟨a.l,a.ps,a.vs,true,a.r,a.n,a.s⟩,!a.sl&&a.l.h&&decide (a.l.p=a.r.p)&&decide (a.l.i=a.r.i))
def pn (a:Ap):Ap×Bool:=(⟨xb a.l a.r.u,a.ps,a.vs,a.sl,a.r,a.n,a.s⟩,!a.sl&&nY a.l a.r.p a.r.i a.r.e)
def jY (a:Ap):Ap×Bool:=(⟨nX a.l,a.ps,a.vs,a.sl,a.r,a.n,a.s⟩,!a.sl&&nY a.l a.r.p a.r.i a.r.e)
def nh (a:Ap):Ap×Bool:=(⟨(kk a.l a.r.p a.r.i a.r.u).1,a.ps,a.vs,a.sl,a.r,a.n,a.s⟩,!a.sl&&decide ((kk a.l a.r.p a.r.i a.r.u).2=0)&&decide ((kk a.l a.r.p a.r.i a.r.u).1.e=a.r.e))
@[simp] noncomputable def AP (C:Ap→Prop) (F:Ap→Ap×Bool):List AV→Option (Prop×AV)|[.aJ [y]]=>(rN nF y).map fun a=>(C a,.bo 0 [.pv (.bool (F a).2),nF (F a).1])|_=>none
theorem FM:dr Tryz.prog 143 (AP (fun _=>True) pn):=by
 intro ys φ r h hφ;unfold AP at h;split at h;·obtain⟨a,ha,h⟩:=Option.map_eq_some_iff.1 h;cases h;cases dQ ha;obtain⟨⟨e,p,i,u,h'⟩,ps,vs,sl,⟨k,rp,ri,rs,re,ru,rv,rc,rz,rm,rn,rt⟩,n,s⟩:=a;refine bU (ag O9 (ag J7 ah)) (by kernel_rfl) (by conv=>lhs;reduce) (by simp) rfl (by simp[nF]) ?_;cases sl<;>simp(config := { maxSteps := 3000000 }) [nF,pn,gJ,xb]
 ·cases h
theorem BW:dr Tryz.prog 144 (AP (fun _=>True) jY):=by
 intro ys φ r h hφ;unfold AP at h;split at h;·obtain⟨a,ha,h⟩:=Option.map_eq_some_iff.1 h;cases h;cases dQ ha;obtain⟨⟨e,p,i,u,h'⟩,ps,vs,sl,⟨k,rp,ri,rs,re,ru,rv,rc,rz,rm,rn,rt⟩,n,s⟩:=a;refine bU (ag O9 (ag Wa ah)) (by kernel_rfl) (by conv=>lhs;reduce) (by simp) rfl (by simp[nF]) ?_;cases sl<;>simp(config := { maxSteps := 3000000 }) [nF,jY,gJ,nX]
 ·cases h
theorem Ia:dr Tryz.prog 148 (AP (fun _=>True) wE):=by
 intro ys φ r h hφ;unfold AP at h;split at h;·obtain⟨a,ha,h⟩:=Option.map_eq_some_iff.1 h;cases h;cases dQ ha;obtain⟨⟨e,p,i,u,h'⟩,ps,vs,sl,⟨k,rp,ri,rs,re,ru,rv,rc,rz,rm,rn,rt⟩,n,s⟩:=a;refine bU ah (by kernel_rfl) (by conv=>lhs;reduce) (by simp) rfl (by simp[nF]) ?_;cases sl<;>cases h'<;>simp(config := { maxSteps := 3000000 }) [nF,wE,gJ]
 ·cases h
theorem Gu:dr Tryz.prog 142 (AP (fun a=>cU a.l.e) nh):=by
 intro ys φ r h hφ;unfold AP at h;split at h
 ·obtain⟨a,ha,h⟩:=Option.map_eq_some_iff.1 h;cases h;cases dQ ha;obtain⟨⟨e,p,i,u,h'⟩,ps,vs,sl,⟨k,rp,ri,rs,re,ru,rv,rc,rz,rm,rn,rt⟩,n,s⟩:=a;have oe:cU e:=hφ;refine bU (ag Ix ah) (by kernel_rfl) (by conv=>lhs;reduce) (by simp) rfl (by simp[nF]) ?_;by_cases h1:e=pb;·cases sl<;>simp(config := { maxSteps := 3000000 }) [nF,nh,gJ,kk,h1,oe];all_goals exact h1▸oe
  ·cases sl<;>simp(config := { maxSteps := 3000000 }) [nF,nh,gJ,kk,h1,oe]
 ·cases h
@[simp] noncomputable def Z3:List AV→Option (Prop×AV)|[.pv (.ro a)]=>(dec cL a).map fun l=>(l.length≤1000000,.fr 108 (az l))|_=>none
theorem Ci:aN Tryz.prog 58 Z3:=by
 intro ys φ r h hφ;unfold Z3 at h;split at h;·rename_i ra;obtain⟨a,ha,h⟩:=Option.map_eq_some_iff.1 h;cases h;cases aF ha;refine aq ah (by kernel_rfl) (by conv=>lhs;reduce) (by simp) ?_;cases a with|nil=>simp(config := { maxSteps := 3000000 }) [lq]|cons x l=>have hx:az (x::l)=cL x::az l:=rfl;simp(config := { maxSteps := 3000000 }) [hx,aH];simp only[List.length_cons]at hφ;exact⟨by omega,by omega,rfl,mC l⟩
 ·cases h
@[simp] def Gw:List AV→Option (Prop×AV)|[.pv (.int .u64 n),.pv (.str t)]=>some (True,.agg [.pv (.int .u64 n),.pv (.int .u64 0),.pv (.int .u64 0),.pv (.int .u64 0),.pv (.int .u64 0),.pv (.int .u64 0),.pv (.int .u64 0),.pv (.str t),.pv (.bool true),.pv (.bool false)])|_=>none
theorem CO:aN Tryz.prog 109 Gw:=by
 intro ys φ r h hφ;unfold Gw at h;split at h;·cases h;refine aq ah (by kernel_rfl) (by conv=>lhs;reduce) (by simp) ?_;simp(config := { maxSteps := 3000000 })
 ·cases h
def mb (n:Int) (t:List UInt8):Vn:=⟨n,0,0,0,0,0,0,t,true,false⟩
def CR (l:List Vn):Int:=((l.getLast?).getD v0).n
theorem nN {l:List Vn} (hr:bQ l=true) {i:Nat} (h:i+1<l.length):l[i].n<l[i+1].n:=by have:=(iE l).1 hr (i+1) h;unfold jb at this;rw[Bool.and_eq_true]at this;have h1:=this.1;simp only[fL,List.getElem?_eq_getElem h,List.getElem?_eq_getElem (show i<l.length by omega),Option.getD_some,decide_eq_true_eq]at h1;exact h1
theorem nI {l:List Vn} (hr:bQ l=true) {i:Nat}:∀(d:Nat) (h:i+d<l.length),l[i].n≤l[i+d].n|0,h=>Int.le_refl _|d+1,h=>by have h1:=nI hr d (show i+d<l.length by omega);have h2:=nN hr (i:=i+d) (by omega);have:l[i+(d+1)].n=l[i+d+1].n:=rfl;omega
def kG (s:List UInt8):List PV:=[.str s]
theorem El:∀a b,kG a=kG b→a=b:=by intro a b h;simpa[kG]using h
def eV (l:List (List UInt8)):List (List PV):=l.map kG
@[simp] theorem Nn:eV []=[]:=rfl
@[simp] theorem HX (l:List (List UInt8)):(eV l).length=l.length:=by simp[eV]
theorem px {l:List (List UInt8)}{i:Nat} (h:i<l.length):rowAt (eV l) (i:Int)=[.str l[i]]:=by simp[rowAt,eV,h,kG]
@[simp] theorem ON (l:List (List UInt8)):dec kG (eV l)=some l:=gX El l
theorem dF {rows:List (List PV)}{l:List (List UInt8)} (h:dec kG rows=some l):rows=eV l:=gV h
@[simp] noncomputable def VH:List AV→Option (Prop×AV)|[.agg [.pv (.int .u64 e),.pv (.int .u64 p),.pv (.int .u64 i),.pv (.int .u64 u),.pv (.bool h),.pv (.ro a),.pv (.ro b),.pv (.bool sl)]]=>(dec rowP a).bind fun ps=>(dec cL b).map fun vs=>(ps.length≤100000∧vs.length≤100000,.agg [.pv (.int .u64 e),.pv (.int .u64 p),.pv (.int .u64 i),.pv (.int .u64 u),.pv (.bool h),.fr 134 (aw ps),.fr 108 (az vs),.pv (.bool sl)])|_=>none
theorem Ko:aN Tryz.prog 68 VH:=by
 intro ys φ r h hφ;unfold VH at h;split at h
 ·obtain⟨ps,hp,h⟩:=Option.bind_eq_some_iff.1 h;obtain⟨vs,hv,h⟩:=Option.map_eq_some_iff.1 h;cases h;cases aE hp;cases aF hv;obtain⟨h1,h2⟩:=hφ;have h3:ps.length≤100000000:=by omega
  have h4:vs.length≤1000000:=by omega
  refine aq (ag oI (ag Ci ah)) (by kernel_rfl) (by conv=>lhs;reduce) (by simp) ?_;simp(config := { maxSteps := 3000000 }) [h3,h4]
 ·cases h
def gu (l:List Int):PV:=.ro (l.map fun n=>[.int .u8 n])
def j5:List (PV×PV):=[(.int .u8 1,gu [0,1]),(.int .u8 2,gu [0,1]),(.int .u8 3,gu [0]),(.int .u8 4,gu [0,2,4,5]),(.int .u8 5,gu [2,1]),(.int .u8 6,gu [2]),(.int .u8 7,gu []),(.int .u8 8,gu [3]),(.int .u8 9,gu [6]),(.int .u8 10,gu [6]),(.int .u8 11,gu [6,7])]
def Bt:List AV→Option (Prop×AV)|[]=>some (True,.pv (.mv j5))|_=>none
@[simp] theorem R1:Bt []=some (True,.pv (.mv j5)):=rfl
theorem Kj:aN Tryz.prog 95 Bt:=by
 intro ys φ r h hφ;unfold Bt at h;split at h;·cases h;refine aq ah (by kernel_rfl) (by conv=>lhs;reduce) (by simp) ?_;simp(config := { maxSteps := 3000000 }) [j5,gu]
 ·cases h
def gB (l:List Vn) (v:Vn):List Vn×Int:=if bQ l=false∨v.eG=true∨v.n=0∨(0<l.length∧v.n≤CR l) then([],2) else if cY v≠0∧(lp l (cY v)).isSome=false then([],150) else(l++[v],0)
@[simp] noncomputable def VG (e:TypeId):List AV→Option (Prop×AV)|[.pv (.ro a),.agg [.pv (.int .u64 n),.pv (.int .u64 b),.pv (.int .u64 p),.pv (.int .u64 i),.pv (.int .u64 s),.pv (.int .u64 z),.pv (.int .u64 m),.pv (.str t),.pv (.bool inl),.pv (.bool eG)]]=>(dec cL a).map fun l=>(l.length≤100000∧(∀v∈l,jC v)∧jC ⟨n,b,p,i,s,z,m,t,inl,eG⟩,.aJ [.fr e (az (gB l ⟨n,b,p,i,s,z,m,t,inl,eG⟩).1),.pv (.int .i64 (gB l ⟨n,b,p,i,s,z,m,t,inl,eG⟩).2)])|_=>none
theorem Oi:aN Tryz.prog 171 (VG 108):=by
 intro ys φ r h hφ;unfold VG at h;split at h
 ·rename_i ra n b p i s z m t inl eG;obtain⟨a,ha,h⟩:=Option.map_eq_some_iff.1 h;cases h;cases aF ha;obtain⟨hl5,hov,hvv⟩:=hφ;have hl9:a.length≤1000000000:=by omega
  have hl6:a.length≤1000000:=by omega
  have fl:∀l,bz (az l):=aP;have hbv:(if inl=true then 0 else b)=cY ⟨n,b,p,i,s,z,m,t,inl,eG⟩:=rfl;refine aq (ag Fj (ag BS (ag N3 (ag Ci ah)))) (by kernel_rfl) (by conv=>lhs;reduce) (by simp) ?_;by_cases h0:0<a.length
  ·have w1:IntKind.i64.wrap ((a.length:Int)-1)=(a.length:Int)-1:=wrap_i64 (by omega);have hlt:a.length-1<a.length:=by omega
   have r1:=bq hlt;rw[show((a.length-1:Nat):Int)=(a.length:Int)-1 from by omega]at r1;have hln:a[a.length-1].n=CR a:=by unfold CR;rw[List.getLast?_eq_getElem?,List.getElem?_eq_getElem hlt];rfl
   rw[hln]at r1;have b1:1≤(a.length:Int):=by omega
   have b2:(a.length:Int)-1<a.length:=by omega
   cases hr:bQ a with|false=>
    have hi:gB a ⟨n,b,p,i,s,z,m,t,inl,eG⟩=([],2):=by simp[gB,hr]
    simp(config := { maxSteps := 3000000 }) [hl9,hl6,hr,hi,fl,w1,r1,h0,b1,b2]|true=>cases eG with
   |true=>
    have hi:gB a ⟨n,b,p,i,s,z,m,t,inl,true⟩=([],2):=by simp[gB,hr]
    simp(config := { maxSteps := 3000000 }) [hl9,hl6,hr,hi,fl,w1,r1,h0,b1,b2]|false=>
   by_cases hn:n=0
   ·have hi:gB a ⟨n,b,p,i,s,z,m,t,inl,false⟩=([],2):=by simp[gB,hr,hn]
    simp(config := { maxSteps := 3000000 }) [hl9,hl6,hr,hi,fl,w1,r1,h0,b1,b2,hn];try(rw[←hn];simp[hi])
   by_cases hle:n≤CR a
   ·have hi:gB a ⟨n,b,p,i,s,z,m,t,inl,false⟩=([],2):=by simp[gB,hr,hn,hle,h0]
    simp(config := { maxSteps := 3000000 }) [hl9,hl6,hr,hi,fl,w1,r1,h0,b1,b2,hn,hle]
   by_cases hb:cY ⟨n,b,p,i,s,z,m,t,inl,false⟩=0
   ·have hi:gB a ⟨n,b,p,i,s,z,m,t,inl,false⟩=(a++[⟨n,b,p,i,s,z,m,t,inl,false⟩],0):=by simp[gB,hr,hn,hle,h0,hb]
    simp(config := { maxSteps := 3000000 }) [hl9,hl6,hr,fl,w1,r1,h0,b1,b2,hn,hle,hbv,cT,hb,hi,aH];exact⟨⟨by omega,by omega⟩,by rw[dN];rfl⟩
   ·cases hg:(lp a (cY ⟨n,b,p,i,s,z,m,t,inl,false⟩)).isSome with|false=>
     have hi:gB a ⟨n,b,p,i,s,z,m,t,inl,false⟩=([],150):=by simp[gB,hr,hn,hle,h0,hb,hg]
     simp(config := { maxSteps := 3000000 }) [hl9,hl6,hr,fl,w1,r1,h0,b1,b2,hn,hle,hbv,cT,hb,hi,hg]|true=>
     have hi:gB a ⟨n,b,p,i,s,z,m,t,inl,false⟩=(a++[⟨n,b,p,i,s,z,m,t,inl,false⟩],0):=by simp[gB,hr,hn,hle,h0,hb,hg]
     simp(config := { maxSteps := 3000000 }) [hl9,hl6,hr,fl,w1,r1,h0,b1,b2,hn,hle,hbv,cT,hb,hi,hg,aH];exact⟨⟨by omega,by omega⟩,by rw[dN];rfl⟩
  ·have:a=[]:=List.eq_nil_of_length_eq_zero (by omega);subst this;have hr:bQ []=true:=rfl;have r0:∀k:Int,rowAt [] k=[]:=fun k=>by simp[rowAt]
   have hd0:dec cL []=some []:=DZ [];have hg0:∀q,lp [] q=none:=fun q=>rfl;have f0:bz []:=aP [];cases eG with
   |true=>
    have hi:gB [] ⟨n,b,p,i,s,z,m,t,inl,true⟩=([],2):=by simp[gB,hr]
    simp(config := { maxSteps := 3000000 }) [hr,hi,r0,hd0,f0]|false=>
   by_cases hn:n=0
   ·have hi:gB [] ⟨n,b,p,i,s,z,m,t,inl,false⟩=([],2):=by simp[gB,hr,hn]
    simp(config := { maxSteps := 3000000 }) [hr,hi,r0,hd0,f0,hn];try(rw[←hn];simp[hi])
   by_cases hb:cY ⟨n,b,p,i,s,z,m,t,inl,false⟩=0
   ·have hi:gB [] ⟨n,b,p,i,s,z,m,t,inl,false⟩=([⟨n,b,p,i,s,z,m,t,inl,false⟩],0):=by simp[gB,hr,hn,hb]
    simp(config := { maxSteps := 3000000 }) [hr,hi,r0,hd0,f0,hg0,hn,hb,hbv,aH,v0,cT];rfl
   ·have hi:gB [] ⟨n,b,p,i,s,z,m,t,inl,false⟩=([],150):=by simp[gB,hr,hn,hb,hg0]
    simp(config := { maxSteps := 3000000 }) [hr,hi,r0,hd0,f0,hg0,hn,hb,hbv,v0,cT]
 ·cases h
def ll (l:List Vn) (ts:List (List UInt8)):List Vn:=List.zipWith (fun(v:Vn) t=>mb v.n t) l ts
def b7 (l:List Vn) (ts:List (List UInt8)):List Vn×Int:=if bQ l=false∨ts.length≠(aW l).length then([],2) else(ll (aW l) ts,0)
theorem vA {l:List Vn}{ts:List (List UInt8)}{i:Nat} (h1:i<l.length) (h2:i<ts.length):ll (l.take (i+1)) (ts.take (i+1))=ll (l.take i) (ts.take i)++[mb l[i].n ts[i]]:=by unfold ll;rw[List.take_succ_eq_append_getElem h1,List.take_succ_eq_append_getElem h2,List.zipWith_append (by simp;omega)];rfl
@[simp] noncomputable def JY (e:TypeId):List AV→Option (Prop×AV)|[.pv (.ro a),.pv (.ro ts)]=>(dec cL a).bind fun l=>(dec kG ts).map fun ts=>(l.length≤100000∧(∀v∈l,jC v),.aJ [.fr e (az (b7 l ts).1),.pv (.int .i64 (b7 l ts).2)])|_=>none
theorem Nw:aN Tryz.prog 66 (JY 144):=by
 intro ys φ r h hφ;unfold JY at h;split at h
 ·rename_i ra rts;obtain⟨a,ha,h⟩:=Option.bind_eq_some_iff.1 h;obtain⟨ts,hts,h⟩:=Option.map_eq_some_iff.1 h;cases h;cases aF ha;cases dF hts;obtain⟨hl5,hov⟩:=hφ;have hl9:a.length≤1000000000:=by omega
  have hl6:a.length≤1000000:=by omega
  have hsl:=fO a;have fl:∀l,bz (az l):=aP;refine aq (ag JM (ag XB ah)) (by kernel_rfl) (by conv=>lhs;reduce) (by simp) ?_;cases hr:bQ a with
  |false=>
   have hi:b7 a ts=([],2):=by simp[b7,hr]
   simp(config := { maxSteps := 3000000 }) [hl9,hl6,hr,hi,fl];exact hov|true=>
   by_cases hq:ts.length=(aW a).length
   ·have hi:b7 a ts=(ll (aW a) ts,0):=by simp[b7,hr,hq]
    simp(config := { maxSteps := 3000000 }) [hl9,hl6,hr,hi,fl,hq];refine⟨hov,?_⟩;refine al (fun i:Nat=>i≤ts.length) (fun i=>⟨[(1,.pv (.ro (eV ts))),(6,.own 10),(7,.own 7),(8,.pv (.int .i64 i))],[(10,.arr 144 (az (aW a))),(7,.arr 144 (az (ll ((aW a).take i) (ts.take i))))]⟩) (fun i=>ts.length-i) [] 0 (by simp) ?_ ?_;·simp[ll]
    ·intro i hi;have w2:IntKind.i64.wrap ((i:Int)+1)=(i:Int)+1:=wrap_i64 (by omega);by_cases hlt:i<ts.length
     ·have hls:i<(aW a).length:=by omega
      have r1:=bq hls;have r2:=px hlt;have hil:(ll ((aW a).take i) (ts.take i)).length=i:=by simp[ll];omega
      simp(config := { maxSteps := 3000000 }) [w2,hlt,hls,r1,r2,aH,hil];refine⟨⟨by omega,by omega⟩,i+1,by omega,⟨by omega,?_⟩,by omega⟩;rw[vA hls hlt,dN];rfl
     ·simp(config := { maxSteps := 3000000 }) [hlt];refine⟨by omega,fun _=>?_⟩;rw[List.take_of_length_le (by omega),List.take_of_length_le (by omega)]
   ·have hi:b7 a ts=([],2):=by simp[b7,hr,hq]
    have hq':¬((aW a).length:Int)=ts.length:=by omega
    simp(config := { maxSteps := 3000000 }) [hl9,hl6,hr,hi,fl,hq'];exact hov
 ·cases h
def sR (l:List Vn) (ts:List (List UInt8)) (i:Nat):List Vn:=ll (l.take i) (ts.take i)++l.drop i
theorem FD {l:List Vn}{ts:List (List UInt8)}{i:Nat} (h:ts.length=l.length) (hi:i≤l.length):(sR l ts i).length=l.length:=by simp[sR,ll];omega
theorem JB {l:List Vn}{ts:List (List UInt8)}{i:Nat} (h:ts.length=l.length) (hi:i<l.length):rowAt (az (sR l ts i)) (i:Int)=cL l[i]:=by
 have hlen:(ll (l.take i) (ts.take i)).length=i:=by simp[ll];omega
 have hm:(sR l ts i)[i]?=some l[i]:=by unfold sR;rw[List.getElem?_append_right (by omega),hlen,Nat.sub_self,List.getElem?_drop,Nat.add_zero,List.getElem?_eq_getElem hi]
 simp[rowAt,az,hm]
theorem Hi {l:List Vn}{ts:List (List UInt8)}{i:Nat} (h:ts.length=l.length) (hi:i<l.length):(az (sR l ts i)).set i (cL (mb l[i].n (ts[i]'(by omega))))=az (sR l ts (i+1)):=by
 have hlen:(ll (l.take i) (ts.take i)).length=i:=by simp[ll];omega
 have hts:i<ts.length:=by omega
 unfold sR;rw[vA hi hts,List.drop_eq_getElem_cons hi];simp only[az,List.map_append,List.map_cons,List.map_nil];rw[List.set_append_right _ _ (by simp[hlen])];simp[hlen]
theorem UD:aN Tryz.prog 67 (JY 108):=by
 intro ys φ r h hφ;unfold JY at h;split at h
 ·rename_i ra rts;obtain⟨a,ha,h⟩:=Option.bind_eq_some_iff.1 h;obtain⟨ts,hts,h⟩:=Option.map_eq_some_iff.1 h;cases h;cases aF ha;cases dF hts;obtain⟨hl5,hov⟩:=hφ;have hl9:a.length≤1000000000:=by omega
  have hl6:a.length≤1000000:=by omega
  have hsl:=fO a;have fl:∀l,bz (az l):=aP;refine aq (ag ym (ag Fj (ag CO ah))) (by kernel_rfl) (by conv=>lhs;reduce) (by simp) ?_;cases hr:bQ a with
  |false=>
   have hi:b7 a ts=([],2):=by simp[b7,hr]
   simp(config := { maxSteps := 3000000 }) [hl9,hl6,hr,hi,fl]|true=>
   by_cases hq:ts.length=(aW a).length
   ·have hi:b7 a ts=(ll (aW a) ts,0):=by simp[b7,hr,hq]
    simp(config := { maxSteps := 3000000 }) [hl9,hl6,hr,hi,fl,hq];refine al (fun i:Nat=>i≤(aW a).length) (fun i=>⟨[(1,.pv (.ro (eV ts))),(6,.own 10),(21,.own 10),(22,.pv (.int .i64 (aW a).length)),(23,.pv (.int .i64 i))],[(10,.arr 108 (az (sR (aW a) ts i)))]⟩) (fun i=>(aW a).length-i) [] 0 (by simp) ?_ ?_;·simp[sR,ll]
    ·intro i hi;have w2:IntKind.i64.wrap ((i:Int)+1)=(i:Int)+1:=wrap_i64 (by omega);have hml:=FD (i:=i) hq hi;by_cases hlt:i<(aW a).length
     ·have hls:i<ts.length:=by omega
      have r1:=JB hq hlt;have r2:=px hls;have hset:=Hi hq hlt;simp only[cL,mb]at r1 hset;simp(config := { maxSteps := 3000000 }) [w2,hlt,hls,r1,r2,hml];exact⟨i+1,by omega,⟨by omega,hset⟩,by omega⟩
     ·simp(config := { maxSteps := 3000000 }) [hlt,hml];unfold sR;rw[List.take_of_length_le (by omega),List.take_of_length_le (by omega),List.drop_eq_nil_of_le (by omega),List.append_nil]
   ·have hi:b7 a ts=([],2):=by simp[b7,hr,hq]
    have hq':¬(ts.length:Int)=(aW a).length:=by omega
    simp(config := { maxSteps := 3000000 }) [hl9,hl6,hr,hi,fl,hq']
 ·cases h
structure Dc where
 l:Ls
 ps:List Pn
 vs:List Vn
 sl:Bool deriving DecidableEq
def cellsD (d:Dc):List AV:=[.pv (.int .u64 d.l.e),.pv (.int .u64 d.l.p),.pv (.int .u64 d.l.i),.pv (.int .u64 d.l.u),.pv (.bool d.l.h),.pv (.ro (aw d.ps)),.pv (.ro (az d.vs)),.pv (.bool d.sl)]
noncomputable def m9 (ys:List AV) (K:Dc→Option (Prop×AV)):Option (Prop×AV):=match ys with|[.pv (.int .u64 e),.pv (.int .u64 p),.pv (.int .u64 i),.pv (.int .u64 u),.pv (.bool h),.pv (.ro a),.pv (.ro b),.pv (.bool sl)]=>(dec rowP a).bind fun ps=>(dec cL b).bind fun vs=>K ⟨⟨e,p,i,u,h⟩,ps,vs,sl⟩|_=>none
@[simp] theorem X9 (e p i u:Int) (h sl:Bool) (a b:List (List PV)) (K:Dc→Option (Prop×AV)):m9 [.pv (.int .u64 e),.pv (.int .u64 p),.pv (.int .u64 i),.pv (.int .u64 u),.pv (.bool h),.pv (.ro a),.pv (.ro b),.pv (.bool sl)] K=(dec rowP a).bind fun ps=>(dec cL b).bind fun vs=>K ⟨⟨e,p,i,u,h⟩,ps,vs,sl⟩:=rfl
theorem ey {ys:List AV}{K:Dc→Option (Prop×AV)}{x:Prop×AV} (h:m9 ys K=some x):∃d,ys=cellsD d∧K d=some x:=by
 unfold m9 at h;split at h;·obtain⟨ps,hp,h1⟩:=Option.bind_eq_some_iff.1 h;obtain⟨vs,hv,h2⟩:=Option.bind_eq_some_iff.1 h1;rw[aE hp,aF hv];exact⟨_,rfl,h2⟩
 ·cases h
@[simp] noncomputable def GdP:List AV→Option (Prop×AV)|[.agg [.pv (.ro a)]]=>(dec rowP a).map fun l=>(l.length≤100000,.fr 162 (aw l))|_=>none
theorem c_dP:aN Tryz.prog 44 GdP:=by
 intro ys φ r h hφ;unfold GdP at h;split at h
 ·obtain⟨a,ha,h⟩:=Option.map_eq_some_iff.1 h;cases h;cases aE ha;have hl:a.length≤100000:=hφ;refine aq ah (by kernel_rfl) (by conv=>lhs;reduce) (by simp) ?_;simp(config := { maxSteps := 3000000 });refine al (fun i:Nat=>i≤a.length) (fun i=>⟨[(1,.ptr 1 0),(2,.own 2),(3,.own 3),(4,.pv (.int .i64 i))],[(1,.box [.pv (.ro (aw a))]),(2,.arr 162 []),(3,.arr 162 (aw (a.take i)))]⟩) (fun i=>a.length-i) [] 0 (by simp) ?_ ?_;·simp
  ·intro i hi;have w2:IntKind.i64.wrap ((i:Int)+1)=(i:Int)+1:=wrap_i64 (by omega);by_cases hlt:i<a.length;·have r1:=bM hlt;simp(config := { maxSteps := 3000000 }) [w2,hlt,r1,aH];refine⟨⟨by omega,by omega⟩,i+1,by omega,⟨by omega,?_⟩,by omega⟩;rw[List.take_succ_eq_append_getElem hlt,dM];rfl
   ·simp(config := { maxSteps := 3000000 }) [hlt];rw[List.take_of_length_le (by omega)]
 ·cases h
@[simp] noncomputable def GdV:List AV→Option (Prop×AV)|[.pv (.ro a)]=>(dec cL a).map fun l=>(l.length≤100000,.fr 144 (az l))|_=>none
theorem c_dV:aN Tryz.prog 45 GdV:=by
 intro ys φ r h hφ;unfold GdV at h;split at h
 ·obtain⟨a,ha,h⟩:=Option.map_eq_some_iff.1 h;cases h;cases aF ha;have hl:a.length≤100000:=hφ;refine aq ah (by kernel_rfl) (by conv=>lhs;reduce) (by simp) ?_;simp(config := { maxSteps := 3000000 });refine al (fun i:Nat=>i≤a.length) (fun i=>⟨[(0,.pv (.ro (az a))),(2,.own 2),(3,.own 3),(4,.pv (.int .i64 i))],[(2,.arr 144 []),(3,.arr 144 (az (a.take i)))]⟩) (fun i=>a.length-i) [] 0 (by simp) ?_ ?_;·simp
  ·intro i hi;have w2:IntKind.i64.wrap ((i:Int)+1)=(i:Int)+1:=wrap_i64 (by omega);by_cases hlt:i<a.length;·have r1:=bq hlt;simp(config := { maxSteps := 3000000 }) [w2,hlt,r1,aH];refine⟨⟨by omega,by omega⟩,i+1,by omega,⟨by omega,?_⟩,by omega⟩;rw[List.take_succ_eq_append_getElem hlt,dN];rfl
   ·simp(config := { maxSteps := 3000000 }) [hlt];rw[List.take_of_length_le (by omega)]
 ·cases h
@[simp] noncomputable def GdD:List AV→Option (Prop×AV)|[.agg ys]=>m9 ys fun d=>some (d.ps.length≤100000∧d.vs.length≤100000,.agg [.pv (.int .u64 d.l.e),.pv (.int .u64 d.l.p),.pv (.int .u64 d.l.i),.pv (.int .u64 d.l.u),.pv (.bool d.l.h),.fr 162 (aw d.ps),.fr 144 (az d.vs),.pv (.bool d.sl)])|_=>none
theorem ZZ:aN Tryz.prog 24 GdD:=by
 intro ys φ r h hφ;unfold GdD at h;split at h;·obtain⟨d,hd,h2⟩:=ey h;subst hd;clear h;cases h2;obtain⟨h1,h2⟩:=hφ;refine aq (ag c_dP (ag c_dV ah)) (by kernel_rfl) (by conv=>lhs;reduce) (by simp) ?_;simp(config := { maxSteps := 3000000 }) [cellsD,h1,h2]
 ·cases h
noncomputable def fE (d:Dc) (ts:List (List UInt8)):Dc×Int:=if(b7 d.vs ts).2=0 then(⟨d.l,d.ps,(b7 d.vs ts).1,d.sl⟩,0) else(⟨⟨0,0,0,0,false⟩,[],[],false⟩,(b7 d.vs ts).2)
@[simp] noncomputable def ZP (e1 e2:TypeId):List AV→Option (Prop×AV)|[.agg ys,.pv (.ro ts)]=>m9 ys fun d=>(dec kG ts).map fun ts=>(d.ps.length≤100000∧d.vs.length≤100000∧(∀v∈d.vs,jC v),.aJ [.agg [.pv (.int .u64 (fE d ts).1.l.e),.pv (.int .u64 (fE d ts).1.l.p),.pv (.int .u64 (fE d ts).1.l.i),.pv (.int .u64 (fE d ts).1.l.u),.pv (.bool (fE d ts).1.l.h),.fr e1 (aw (fE d ts).1.ps),.fr e2 (az (fE d ts).1.vs),.pv (.bool (fE d ts).1.sl)],.pv (.int .i64 (fE d ts).2)])|_=>none
theorem Xk:aN Tryz.prog 34 (ZP 134 108):=by
 intro ys φ r h hφ;unfold ZP at h;split at h
 ·obtain⟨d,hd,h2⟩:=ey h;subst hd;clear h;obtain⟨ts,hts,h3⟩:=Option.map_eq_some_iff.1 h2;clear h2;cases h3;cases dF hts;obtain⟨h1,h2,h3⟩:=hφ;have h4:(∀v∈d.vs,jC v)=True:=eq_true h3;have hi1:(Tryz.prog.info? 134).isSome=true:=by kernel_rfl
  have hi2:(Tryz.prog.info? 108).isSome=true:=by kernel_rfl
  refine aq (ag UD (ag Ko ah)) (by kernel_rfl) (by conv=>lhs;reduce) (by simp) ?_;apply af;·simp(config := { maxSteps := 3000000 }) [cellsD];exact⟨rfl,rfl⟩
  apply af;·simp(config := { maxSteps := 3000000 }) [h2,h4];exact⟨rfl,rfl⟩
  unfold fE;generalize b7 d.vs ts=x;obtain⟨x,e⟩:=x;by_cases he:e=0
  ·subst he;apply af;·simp(config := { maxSteps := 3000000 });exact⟨rfl,rfl⟩
   apply af;·simp(config := { maxSteps := 3000000 }) [h1,h2];exact⟨rfl,rfl⟩
   apply af;·simp(config := { maxSteps := 3000000 });exact⟨rfl,rfl⟩
   simp(config := { maxSteps := 3000000 })
  ·simp(config := { maxSteps := 3000000 }) [he,hi1,hi2]
 ·cases h
def BP (a b:Int):Int:=if a<b then-1 else if b<a then 1 else 0
@[simp] def LM:List AV→Option (Prop×AV)|[.pv (.int .u64 _)]=>some (True,.pv (.bool false))|_=>none
theorem NR:aN Tryz.prog 156 LM:=by
 intro ys φ r h hφ;unfold LM at h;split at h;·cases h;refine aq ah (by kernel_rfl) (by conv=>lhs;reduce) (by simp) ?_;simp(config := { maxSteps := 3000000 })
 ·cases h
@[simp] def Lq:List AV→Option (Prop×AV)|[.pv (.int .u64 a),.pv (.int .u64 b)]=>some (True,.pv (.int .i64 (BP a b)))|_=>none
theorem OD:aN Tryz.prog 120 Lq:=by
 intro ys φ r h hφ;unfold Lq at h;split at h
 ·rename_i a b;cases h;refine aq (ag NR ah) (by kernel_rfl) (by conv=>lhs;reduce) (by simp) ?_;unfold BP;by_cases h1:a<b;·simp(config := { maxSteps := 3000000 }) [h1]
  ·by_cases h2:b<a<;>simp(config := { maxSteps := 3000000 }) [h1,h2]
 ·cases h
@[simp] def GOr:List AV→Option (Prop×AV)|[.pv (.ro [[.int .i64 a],[.int .i64 b]])]=>some (True,.pv (.int .i64 (if a=0 then b else a)))|_=>none
theorem c_Or:aN Tryz.prog 119 GOr:=by
 intro ys φ r h hφ;unfold GOr at h;split at h
 ·rename_i a b;cases h;refine aq ah (by kernel_rfl) (by conv=>lhs;reduce) (by simp) ?_;simp(config := { maxSteps := 3000000 });refine al (fun i:Nat=>i≤2∧(1≤i→a=0)∧(2≤i→b=0)) (fun i=>⟨[(0,.pv (.ro [[.int .i64 a],[.int .i64 b]])),(2,.pv (.int .i64 0)),(3,.pv (.int .i64 0)),(6,.pv (.ro [[.int .i64 a],[.int .i64 b]])),(7,.pv (.int .i64 2)),(8,.pv (.int .i64 (i:Int)))],[]⟩) (fun i=>2-i) [] 0 (by simp) ?_ ?_;·simp
  ·rintro i ⟨hi,h1,h2⟩;rcases(show i=0∨i=1∨i=2 by omega) with rfl|rfl|rfl
   ·by_cases ha:a=0;·simp(config := { maxSteps := 3000000 }) [ha,rowAt];exact⟨1,by simp,rfl,by omega⟩
    ·simp(config := { maxSteps := 3000000 }) [ha,rowAt]
   ·have ha:=h1 (by omega);by_cases hb:b=0;·simp(config := { maxSteps := 3000000 }) [ha,hb,rowAt];exact⟨2,by simp,rfl,by omega⟩
    ·simp(config := { maxSteps := 3000000 }) [ha,hb,rowAt]
   ·simp(config := { maxSteps := 3000000 }) [h1 (by omega),h2 (by omega)]
 ·cases h
def F2 (a b:Pn):Int:=if BP a.i b.i=0 then BP a.v b.v else BP a.i b.i
@[simp] def La:List AV→Option (Prop×AV)|[.agg [.pv (.int .u64 p),.pv (.int .u64 i),.pv (.int .u64 s)],.agg [.pv (.int .u64 p'),.pv (.int .u64 i'),.pv (.int .u64 s')]]=>some (True,.pv (.int .i64 (F2 ⟨p,i,s⟩ ⟨p',i',s'⟩)))|_=>none
theorem Fz:aN Tryz.prog 73 La:=by
 intro ys φ r h hφ;unfold La at h;split at h;·cases h;refine aq (ag c_Or (ag OD ah)) (by kernel_rfl) (by conv=>lhs;reduce) (by simp) ?_;simp(config := { maxSteps := 3000000 }) [F2]
 ·cases h
def rI (w x:Pn):Bool:=decide (F2 x w=0)
def Eu (w x:Pn):Bool:=decide (0<F2 x w)
@[simp] def GW (f:Pn→Pn→Bool):List AV→Option (Prop×AV)|[.agg [.pv (.int .u64 p),.pv (.int .u64 i),.pv (.int .u64 s)],.rp [.int .u64 p',.int .u64 i',.int .u64 s']]=>some (True,.pv (.bool (f ⟨p',i',s'⟩ ⟨p,i,s⟩)))|_=>none
theorem c_W1:aN Tryz.prog 98 (GW rI):=by
 intro ys φ r h hφ;unfold GW at h;split at h;·cases h;refine aq (ag Fz ah) (by kernel_rfl) (by conv=>lhs;reduce) (by simp) ?_;simp(config := { maxSteps := 3000000 }) [rI]
 ·cases h
theorem c_W2:aN Tryz.prog 99 (GW Eu):=by
 intro ys φ r h hφ;unfold GW at h;split at h;·cases h;refine aq (ag Fz ah) (by kernel_rfl) (by conv=>lhs;reduce) (by simp) ?_;simp(config := { maxSteps := 3000000 }) [Eu]
 ·cases h
theorem CK:fo Tryz.prog 98=true:=by kernel_rfl
theorem CX:fo Tryz.prog 99=true:=by kernel_rfl
def G4 (q:Pn→Bool) (l:List Pn):Int:=if l.any q=true then(l.findIdx q:Int) else-1
def Yn (f:FuncId):Option (Pn→Pn→Bool):=if f=98 then some rI else if f=99 then some Eu else none
@[simp] noncomputable def Vm:List AV→Option (Prop×AV)|[.pv (.ro a),.bo f [.rp [.int .u64 p,.int .u64 i,.int .u64 s]]]=>(Yn f).bind fun q=>(dec rowP a).map fun l=>(l.length≤1000000000,.pv (.int .i64 (G4 (q ⟨p,i,s⟩) l)))|_=>none
theorem WY:aN Tryz.prog 97 Vm:=by
 intro ys φ r h hφ;unfold Vm at h;split at h
 ·rename_i ra f p n s;obtain⟨q,hq,h⟩:=Option.bind_eq_some_iff.1 h;obtain⟨a,ha,h⟩:=Option.map_eq_some_iff.1 h;cases h;cases aE ha;have hq:(f=98∧q=rI)∨(f=99∧q=Eu):=by
   unfold Yn at hq;split at hq;·rename_i hf;cases hq;exact .inl ⟨hf,rfl⟩
   ·split at hq;·rename_i hf;cases hq;exact .inr ⟨hf,rfl⟩
    ·cases hq
  refine aq (ag c_W1 (ag c_W2 ah)) (by kernel_rfl) (by conv=>lhs;reduce) (by simp) ?_;simp(config := { maxSteps := 3000000 });refine al (fun i:Nat=>i≤a.length∧∀e∈a.take i,¬q ⟨p,n,s⟩ e=true) (fun i=>⟨[(0,.pv (.ro (aw a))),(1,.bo f [.rp [.int .u64 p,.int .u64 n,.int .u64 s]]),(7,.pv (.int .i64 a.length)),(8,.pv (.int .i64 i))],[]⟩) (fun i=>a.length-i) [] 0 (by simp) ?_ ?_;·simp
  ·rintro i ⟨hi,ht⟩;have w2:IntKind.i64.wrap ((i:Int)+1)=(i:Int)+1:=wrap_i64 (by omega);by_cases hlt:i<a.length;·have r1:=bM hlt;cases he:q ⟨p,n,s⟩ a[i]with
    |true=>
     have eG:a.any (q ⟨p,n,s⟩)=true:=List.any_eq_true.2 ⟨a[i],List.getElem_mem hlt,he⟩;have hfi:a.findIdx (q ⟨p,n,s⟩)=i:=by rw[List.findIdx_eq hlt];refine⟨he,fun j hj=>?_⟩;have:=ht a[j] (by rw[List.mem_take_iff_getElem];exact⟨j,by omega,rfl⟩);simpa using this
     rcases hq with⟨rfl,rfl⟩|⟨rfl,rfl⟩<;>simp(config := { maxSteps := 3000000 }) [hlt,r1,CK,CX,he,eG,hfi,G4]|false=>
     have hnx:i+1≤a.length∧∀e∈a.take (i+1),¬q ⟨p,n,s⟩ e=true:=by
      refine⟨by omega,fun e hm=>?_⟩;rw[List.take_succ_eq_append_getElem hlt,List.mem_append,List.mem_singleton]at hm;rcases hm with hm|rfl;·exact ht e hm
      ·rw[he];decide
     rcases hq with⟨rfl,rfl⟩|⟨rfl,rfl⟩<;>·simp(config := { maxSteps := 3000000 }) [hlt,r1,CK,CX,he,w2];exact⟨i+1,by simpa using hnx,by omega,by omega⟩
   ·rw[List.take_of_length_le (by omega)]at ht;have eG:a.any (q ⟨p,n,s⟩)=false:=by rw[List.any_eq_false];exact ht
    simp(config := { maxSteps := 3000000 }) [hlt,eG,G4]
 ·cases h
@[simp] noncomputable def Z1:List AV→Option (Prop×AV)|[.pv (.ro a)]=>(dec rowP a).map fun l=>(l.length≤100000000,.fr 84 (aw l))|_=>none
theorem ZI:aN Tryz.prog 60 Z1:=by
 intro ys φ r h hφ;unfold Z1 at h;split at h;·rename_i ra;obtain⟨a,ha,h⟩:=Option.map_eq_some_iff.1 h;cases h;cases aE ha;refine aq ah (by kernel_rfl) (by conv=>lhs;reduce) (by simp) ?_;cases a with|nil=>simp(config := { maxSteps := 3000000 }) [lq]|cons x l=>have hx:aw (x::l)=rowP x::aw l:=rfl;simp(config := { maxSteps := 3000000 }) [hx,aH];simp only[List.length_cons]at hφ;exact⟨by omega,by omega,rfl,bI l⟩
 ·cases h
def FT:PV→Value|.int k n=>.int k n|.bool b=>.bool b|.str l=>.string ⟨l.toArray⟩|_=>undef
def xX:PV→Bool|.int _ _|.bool _|.str _=>true|_=>false
def cellW (rows:List (List PV)):List Value:=rows.flatMap fun r=>r.map FT
def c9 (rows:List (List PV)):Prop:=∀r∈rows,∀p∈r,xX p=true
theorem N1 {S:Nat→Prop}{w:World}{v:Value}{p:PV} (h:cZ S w v p) (hp:xX p=true):v=FT p:=by cases h<;>first|rfl|cases hp
theorem I6 (S:Nat→Prop) (w:World) {p:PV} (hp:xX p=true):cZ S w (FT p) p∧(FT p).oneCell'=true:=by cases p with|int k n=>exact⟨.int k n,rfl⟩|bool b=>exact⟨.bool b,rfl⟩|str l=>exact⟨.str l,rfl⟩|_=>cases hp
theorem CN {p:PV} (hp:xX p=true):(FT p).oneCell'=true:=by cases p<;>first|rfl|cases hp
theorem ez (a b:List (List PV)):cellW (a++b)=cellW a++cellW b:=by simp[cellW]
theorem ep {sz:Nat}:∀{rows:List (List PV)},(∀r∈rows,r.length=sz)→(cellW rows).length=rows.length*sz|[],_=>by simp[cellW]|r::rows,h=>by have ih:=ep (rows:=rows) fun r hr=>h r (by simp[hr]);have h0:=h r (by simp);unfold cellW at ih ⊢;simp only[List.flatMap_cons,List.length_append,List.length_map,List.length_cons,ih,h0,Nat.succ_mul];omega
theorem pE {sz:Nat}:∀{rows:List (List PV)},(∀r∈rows,r.length=sz)→∀{i j:Nat}{r:List PV}{p:PV},rows[i]?=some r→r[j]?=some p→(cellW rows)[i*sz+j]?=some (FT p)
 |[],_,i,j,r,p,h,_=>by simp at h|r0::rows,hs,0,j,r,p,h,hj=>by simp only[List.getElem?_cons_zero,Option.some.injEq]at h;subst h;have hlt:j<r0.length:=(List.getElem?_eq_some_iff.1 hj).1;simp only[cellW,List.flatMap_cons,Nat.zero_mul,Nat.zero_add];rw[List.getElem?_append_left (by simpa using hlt),List.getElem?_map,hj];rfl|r0::rows,hs,i+1,j,r,p,h,hj=>by
  have ih:=pE (rows:=rows) (fun r hr=>hs r (by simp[hr])) (i:=i) (by simpa using h) hj;have h0:=hs r0 (by simp);have e1:(i+1)*sz+j-(r0.map FT).length=i*sz+j:=by rw[List.length_map,h0,Nat.succ_mul];omega
  simp only[cellW,List.flatMap_cons];rw[List.getElem?_append_right (by rw[List.length_map,h0,Nat.succ_mul];omega),e1];exact ih
theorem FG {sz:Nat}{w:World}{S:Nat→Prop}{rows:List (List PV)}{us:List Value} (hs:∀r∈rows,r.length=sz) (hp:c9 rows) (hl:us.length=rows.length*sz) (h:∀(i j:Nat) (r:List PV) (p:PV),rows[i]?=some r→r[j]?=some p→∃u,us[i*sz+j]?=some u∧u.oneCell'=true∧cZ S w u p):us=cellW rows:=by
 apply List.ext_getElem?;intro k;by_cases hk:k<rows.length*sz
 ·have hsz:0<sz:=by rcases Nat.eq_zero_or_pos sz with h0|h0;rw[h0]at hk;omega;exact h0
  have hi:k/sz<rows.length:=(Nat.div_lt_iff_lt_mul hsz).2 hk;have hr:rows[k/sz]?=some rows[k/sz]:=List.getElem?_eq_getElem hi;have hrl:(rows[k/sz]).length=sz:=hs _ (List.getElem_mem hi);have hj:k%sz<(rows[k/sz]).length:=by rw[hrl];exact Nat.mod_lt _ hsz
  have hpj:(rows[k/sz])[k%sz]?=some (rows[k/sz])[k%sz]:=List.getElem?_eq_getElem hj;have hk2:k/sz*sz+k%sz=k:=by rw[Nat.mul_comm];exact Nat.div_add_mod k sz
  obtain⟨u,hu,_,hru⟩:=h _ _ _ _ hr hpj;have hpl:=hp _ (List.getElem_mem hi) _ (List.getElem_mem hj);have:=pE hs hr hpj;rw[hk2]at hu this;rw[hu,this,N1 hru hpl]
 ·rw[List.getElem?_eq_none (by omega),List.getElem?_eq_none (by rw[ep hs];omega)]
theorem jP {rows:List (List PV)} (hp:c9 rows):∀u∈cellW rows,u.oneCell'=true:=by intro u hu;simp only[cellW,List.mem_flatMap,List.mem_map]at hu;obtain⟨r,hr,p,hpr,rfl⟩:=hu;exact CN (hp r hr p hpr)
theorem sC {P:Program}{f:FuncId}{e:TypeId}{inf:TypeInfo} (hi:P.info? e=some inf) {rows rows':List (List PV)} (hs:∀r∈rows,r.length=inf.size) (hp:c9 rows) (hs':∀r∈rows',r.length=inf.size) (hp':c9 rows') (zs:List PV) (H:∀(w:World) (S:Nat→Prop) (V:Value) (vals:List Value),w.ownsRow 0 e inf.size V rows.length (cellW rows)→(∀b,S b→b<w.heap.size∧V.ownBlock≠some b)→vals.length=zs.length→(∀(i:Nat) (v:Value) (p:PV),vals[i]?=some v→zs[i]?=some p→cZ S w v p)→Calls P f (V::vals).toArray w fun r w'=>∃V',r=.returned V'∧w'.ownsRow 0 e inf.size V' rows'.length (cellW rows')∧w.grownBy w' V.ownBlock∧(∀b,V'.ownBlock=some b→V.ownBlock=some b∨w.heap.size≤b)):A9 P f (.fr e rows::zs.map .pv) (.fr e rows'):=by intro w S0 β vals a1 a2 a3 a4 a5;have hmk:lI (.fr e rows::zs.map AV.pv)=[(998,.arr e rows)]:=rfl;rw[hmk]at a2 a3 a5 ⊢;match vals,a4 with
 |V::vs,a4=>
  have hV:=a5 0 V (.own 998) rfl rfl;obtain⟨hVe,hVd⟩:=hV.aR;obtain⟨inf',us,hi',hown,hrl,hcs⟩:=a3.holds 998 (.arr e rows) rfl;have:inf'=inf:=by rw[hi]at hi';injection hi' with h;exact h.symm
  subst this;have hus:=FG hs hp hown.1 hcs;subst hus;rw[←hVe]at hown;have hob:=(gm hown).1;have hlive:∀b,live β (ab [(998,AO.arr e rows)]) b↔V.ownBlock=some b:=by
   intro b;constructor
   ·rintro⟨t,o,ho,hb⟩;by_cases ht:t=998;·subst ht;rw[←hVe,hob]at hb;exact hb
    ·simp[ab,ht]at ho
   ·intro hb;exact⟨998,_,rfl,by rw[←hVe,hob];exact hb⟩
  refine(H w (aS S0 w.heap.size β (ab [(998,AO.arr e rows)]) w) V vs hown (fun b hb=>⟨hb.2.1,fun h=>hb.2.2 ((hlive b).2 h)⟩) (by simpa using a4) (fun i v p hv hp=>?_)).mono ?_;·have:=a5 (i+1) v (.pv p) (by simpa using hv) (by simp[hp,FO]);exact this.bh
  ·rintro r w' ⟨V',rfl,hown',hg,hbl⟩;have hob':=(gm hown').1;have hobj:(bn (ab (dW (.fr e rows'))) fun t=>dm (cellAt (bS (.fr e rows')) t))=fun t=>if t=0 then some (.arr e rows') else none:=by
    funext t;show(bn (ab []) fun t=>dm (cellAt (.fr e rows') t)) t=_;simp only[bn,ab,cellAt,bD];by_cases h0:t=0;·subst h0;rfl
    ·by_cases h1:t%1000=0
     ·have:t/1000≠0:=by omega
      simp[h0,h1,this,dm]
     ·simp[h0,h1,dm]
   refine⟨V',fun _=>V',rfl,⟨hg.os,hg.tape,hg.output,hg.size,fun b hb hnl=>hg.block b hb fun h=>hnl ((hlive b).2 h.symm)⟩,?_,?_,?_,?_⟩
   ·rw[hobj];refine⟨fun t o ho=>?_,fun t t' b ⟨o,ho⟩ ⟨o',ho'⟩ _ _=>?_⟩
    ·by_cases h0:t=0;·subst h0;simp only[if_true,Option.some.injEq]at ho;subst ho;refine⟨inf',cellW rows',hi,hown',hs',fun i j r p h1 h2=>?_⟩;have hpl:=hp' r (List.mem_of_getElem? h1) p (List.mem_of_getElem? h2);exact⟨FT p,pE hs' h1 h2,CN hpl,(I6 _ w' hpl).1⟩
     ·simp[h0]at ho
    ·by_cases h0:t=0<;>by_cases h1:t'=0;·rw[h0,h1]
     ·simp[h1]at ho'
     ·simp[h0]at ho
     ·simp[h0]at ho
   ·rintro t b _ hb;rw[hob']at hb;rcases hbl b hb with h|h;·exact .inr ((hlive b).2 h)
    ·exact .inl h
   ·rintro t ⟨o,ho⟩;simp[dW,ab]at ho
   ·rw[hobj];exact .own 0 ⟨.arr e rows',by simp⟩|[],a4=>simp at a4
theorem cW {P:Program} (w:World) (dT sT ty elem:TypeId) (g o dLen dCap:Nat) (a:Addr) (sLen sCap sz:Nat) (cur:Array Value) (t:TypeId) (cs:List Value) (hu:P.underlying dT=some (.slice elem)) (hs:(P.info? elem).map (·.size)=some sz) (hg:w.heap[g]?=some (.cells cur t (0,0))) (hn:cs.length=Nat.min sLen dLen*sz) (hsrc:∀j v,cs[j]?=some v→w.cell? (a.add j)=some v) (hfit:o+cs.length≤cur.size) (h1:∀v∈cs,v.oneCell'=true):(Builtin.copy_ #[dT,sT] ty #[.slice (some ⟨g,o,none⟩) dLen dCap,.slice (some a) sLen sCap]).run P w=.ok (goInt (Nat.min sLen dLen)) (w.setRow g (cur.toList.take o++cs++cur.toList.drop (o+cs.length)).toArray):=by have hl:=run_firstCells_some (P:=P) (w:=w) sz (Nat.min sLen dLen) a sLen sCap cs hn hsrc;have hst:=run_storeCells_at P g o t cs 0 cur w hg (by simpa using hfit) h1;cases hq:P.info? elem with|none=>simp[hq]at hs|some i=>
 have hi:i.size=sz:=by simpa[hq]using hs
 simp only[Nat.add_zero]at hst;simp[Builtin.copy_,run_underlying hu,Builtin.lenOf,sizeOf,typeInfo,hq,hi,hl,hst]
theorem jH {P:Program} (w:World) (tS tR e:TypeId) (ht:P.underlying tS=some (.slice e)) (size:Nat) (hz:∀w,(Go.sizeOf e).run P w=.ok size w) (a b:Addr) (la ca lb cb:Nat) (hne:a.block≠b.block) {va:Value}{cur:Array Value}{tb:TypeId} (ha:w.cell? a=some va) (hb:w.heap[b.block]?=some (.cells cur tb (0,0))) (hcur:0<cur.size):(Extern.SlicesOverlaps.overlaps #[tS,tS] #[tR] #[.slice (some a) la ca,.slice (some b) lb cb]).run P w=.ok (.bool false) w:=by
 have hnb:(a.block !=b.block)=true:=by simpa using hne
 have hnb':(a.block==b.block)=false:=by simpa using hne
 have hfb:∀n,w.frozen? ⟨b.block,n,none⟩=false:=fun n=>by simp[World.frozen?,hb]
 have hfb':w.frozen? b=false:=by simp[World.frozen?,hb]
 have hsb:w.shape? b.block=some (tb,cur.size):=by simp[World.shape?,hb]
 obtain⟨ca',ta,fa,hca,hla⟩:∃c t f,w.heap[a.block]?=some (.cells c t f)∧0<c.size:=by
  unfold World.cell? at ha;split at ha
  ·rename_i c t f hc;refine⟨c,t,f,hc,?_⟩;split at ha;·cases ha
   ·have:=(Array.getElem?_eq_some_iff.1 ha).1;omega
  ·cases ha
 have hsa:w.shape? a.block=some (ta,ca'.size):=by simp[World.shape?,hca]
 change Sem.run P (α:=Value) (do
  let some t:=(#[tS,tS]:Array TypeId)[0]?|stuck "slices.overlaps: no parameter types"
  let .slice elem←underlying t|stuck "slices.overlaps: slice type expected"
  let size←sizeOf elem match(some a:Option Addr),(some b:Option Addr) with
  |some a,some b=>if la=0∨lb=0∨size=0 then pure (Value.bool false) else if a.block !=b.block&&(←frozen a)&&(←frozen b) then unsupported .addressObserved else do
    if a.block !=b.block then do noView a;noView b if←mayBeOne a b then return Value.bool ((←choose (.extern "sameAddr.stringBytes" 2))==1)
    pure (Value.bool (a.block==b.block&&a.off<b.off+lb*size&&b.off<a.off+la*size))|_,_=>pure (Value.bool false)) w=_;by_cases h0:la=0∨lb=0∨size=0;·simp[run_underlying ht,hz,h0]
 ·obtain⟨m,hm⟩:∃m,cur.size=m+1:=⟨cur.size-1,by omega⟩;obtain⟨m',hm'⟩:∃m,ca'.size=m+1:=⟨ca'.size-1,by omega⟩;rw[hm]at hsb;rw[hm']at hsa;cases hfa:w.frozen? a<;>cases hfe:w.frozen? ⟨a.block,m'+1,none⟩<;>simp[run_underlying ht,hz,h0,hnb,hnb',frozen,noView,viewAt,mayBeOne,stringish,shape,Sem.run,hsa,hsb,hfb,hfb',hfa,hfe]
theorem jN:∃inf z,Tryz.prog.info? 71=some inf∧inf.zero=some z∧z.cells.size=inf.size∧inf.size=2∧inf.bytes=24:=by refine⟨_,_,rfl,rfl,?_,?_,?_⟩<;>kernel_rfl
theorem BA (w:World) (V:Value) (rows:List (List PV)) (hs2:∀r∈rows,r.length=2) (hp:c9 rows) (hsm:rows.length≤1000000) (nm:List UInt8) (id:Int) (hown:w.ownsRow 0 71 2 V rows.length (cellW rows)) (ad:Addr) (c:Nat) (h0:w.cell? (ad.add 0)=some (.string ⟨nm.toArray⟩)) (h1:w.cell? (ad.add 1)=some (.int .u64 id)):Calls Tryz.prog 139 #[V,.int .i64 rows.length,.slice (some ad) 1 c] w fun r w'=>∃V',r=.returned V'∧w'.ownsRow 0 71 2 V' (rows.length+1) (cellW rows++[.string ⟨nm.toArray⟩,.int .u64 id])∧w.grownBy w' V.ownBlock∧(∀b,V'.ownBlock=some b→V.ownBlock=some b∨w.heap.size≤b):=by
 obtain⟨inf,z,hi,hz,hzs,hsz,hby⟩:=jN;have hsrc:Src Tryz.prog inf.size 32 (.slice (some ad) 1 c) 1 [.string ⟨nm.toArray⟩,.int .u64 id] w:=by
  rw[hsz];refine Src.ofSlice w Tryz.underlying32 ad 1 c _ (by simp) (fun j u hj=>?_) (fun u hu=>?_);·match j with|0=>simp at hj;subst hj;exact h0|1=>simp at hj;subst hj;exact h1|j+2=>simp at hj
  ·simp only[List.mem_cons,List.not_mem_nil,or_false]at hu;rcases hu with rfl|rfl<;>rfl
 rw[←hsz]at hown;obtain⟨v',w',hrun,hown',hg,hbl⟩:=oQ w 33 32 33 71 inf z Tryz.underlying33 hi hz hzs (by omega) V rows.length (cellW rows) hown (.slice (some ad) 1 c) 1 _ hsrc (by unfold maxLen;omega) (by rw[hby];omega);rw[hsz]at hown' hown;have hfin:∃V',(Ending.returned v':Ending)=.returned V'∧w'.ownsRow 0 71 2 V' (rows.length+1) (cellW rows++[.string ⟨nm.toArray⟩,.int .u64 id])∧w.grownBy w' V.ownBlock∧(∀b,V'.ownBlock=some b→V.ownBlock=some b∨w.heap.size≤b):=⟨v',rfl,hown',hg,fun b hb=>by
  rcases hbl with h|h;·rw[h]at hb;exact .inl hb
  ·rw[h]at hb;injection hb with hb;exact .inr (by omega)⟩;have key:∀Φ:Ending→World→Prop,Φ (.returned v') w'→Calls Tryz.prog 139 #[V,.int .i64 rows.length,.slice (some ad) 1 c] w Φ:=by
  intro Φ hΦ;rcases hown.2 with⟨rfl,hn⟩|⟨g,cap,cur,rfl,hb0,hg0,hnc,hcm,hcs,htk⟩;·obtain rfl:rows=[]:=List.eq_nil_of_length_eq_zero hn;simp only[List.length_nil];clear hown hbl hg hown' hfin;go_enter Tryz.func139,Tryz.ntmps139;go_wp2_with(at_builtin;refine Lib.wpList_append_run _ rfl _ _ _ _ rfl _ _ rfl rfl _ _ hrun ?_);all_goals exact hΦ
  ·generalize hn:rows.length=n at*;have e1:(0:Int)≤(n:Int):=by omega
   have e2:(n:Int)≤(n:Int):=by omega
   clear hown hbl hg hown' hfin;go_enter Tryz.func139,Tryz.ntmps139;go_wp2_with(at_builtin;refine Lib.wpList_append_run _ rfl _ _ _ _ rfl _ _ rfl rfl _ _ hrun ?_);all_goals exact hΦ
 exact key _ hfin
theorem iT {sz:Nat}:∀{rows:List (List PV)} (i:Nat),(∀r∈rows,r.length=sz)→cellW (rows.take i)=(cellW rows).take (i*sz)
 |[],i,_=>by simp[cellW]|r::rows,0,_=>by simp[cellW]|r::rows,i+1,h=>by
  have ih:=iT (rows:=rows) i fun r hr=>h r (by simp[hr]);have h0:=h r (by simp);unfold cellW at ih ⊢;simp only[List.take_succ_cons,List.flatMap_cons,ih];have e1:(i+1)*sz-(r.map FT).length=i*sz:=by rw[List.length_map,h0,Nat.succ_mul];omega
  have e2:(r.map FT).take ((i+1)*sz)=r.map FT:=List.take_of_length_le (by rw[List.length_map,h0,Nat.succ_mul];omega);rw[List.take_append,e1,e2]
theorem nb {sz:Nat}{rows:List (List PV)} (i:Nat) (h:∀r∈rows,r.length=sz):cellW (rows.drop i)=(cellW rows).drop (i*sz):=by
 have h1:=iT i h;have h2:cellW (rows.take i)++cellW (rows.drop i)=cellW rows:=by rw[←ez,List.take_append_drop]
 rw[h1]at h2;have h3:=List.take_append_drop (i*sz) (cellW rows);exact List.append_cancel_left (h2.trans h3.symm)
set_option maxHeartbeats 8000000 in theorem zU (w:World) (rows:List (List PV)) (hs2:∀r∈rows,r.length=2) (hp:c9 rows) (i n:Nat) (hn:rows.length=n) (hi:i<n) (hsm:n≤1000000) (nm:List UInt8) (id:Int) (g cap:Nat) (cur:Array Value) (hg0:w.heap[g]?=some (.cells cur 71 (0,0))) (hcm:cap≤maxLen) (hcs:cur.size=cap*2) (htk:cur.toList.take (n*2)=cellW rows) (hroom:n+1≤cap) (ad:Addr) (c:Nat) (hb:ad.block≠g) (h0:w.cell? (ad.add 0)=some (.string ⟨nm.toArray⟩)) (h1:w.cell? (ad.add 1)=some (.int .u64 id)):Calls Tryz.prog 139 #[.slice (some ⟨g,0,none⟩) n cap,.int .i64 i,.slice (some ad) 1 c] w fun r w'=>∃V',r=.returned V'∧w'.ownsRow 0 71 2 V' (n+1) ((cellW rows).take (i*2)++[.string ⟨nm.toArray⟩,.int .u64 id]++(cellW rows).drop (i*2))∧w.grownBy w' (Value.slice (some ⟨g,0,none⟩) n cap).ownBlock∧(∀b,V'.ownBlock=some b→(Value.slice (some ⟨g,0,none⟩) n cap).ownBlock=some b∨w.heap.size≤b):=by
 obtain⟨inf,z,hi',hz,hzs,hsz,hby⟩:=jN;have hszm:(Tryz.prog.info? 71).map (·.size)=some 2:=by rw[hi'];simp[hsz]
 have hcl:(cellW rows).length=n*2:=by rw[ep hs2,hn]
 obtain⟨cs,hcse⟩:∃cs,cs=(cellW rows).drop (i*2):=⟨_,rfl⟩;have hcsl:cs.length=(n-i)*2:=by rw[hcse,List.length_drop,hcl];omega
 have hcur:cur.toList.length=cap*2:=by simpa using hcs
 have hone:=jP hp;obtain⟨X1,hX1⟩:∃X1,X1=(cur.toList.take ((i+1)*2)++cs++cur.toList.drop ((i+1)*2+cs.length)).toArray:=⟨_,rfl⟩;have hX1l:X1.size=cap*2:=by rw[hX1];simp only[List.size_toArray,List.length_append,List.length_take,List.length_drop,hcur,hcsl];omega
 have hcell:∀j v,cs[j]?=some v→w.cell? ((⟨g,i*2,none⟩:Addr).add j)=some v:=by
  intro j v hj;rw[Addr.add_lit];have hjl:j<cs.length:=(List.getElem?_eq_some_iff.1 hj).1;rw[hcse,List.getElem?_drop,←htk,List.getElem?_take]at hj;split at hj;·simp only[World.cell?,hg0];simpa using hj
  ·cases hj
 have hcp1:∀sT ty dc sc,(Builtin.copy_ #[33,sT] ty #[.slice (some ⟨g,(i+1)*2,none⟩) (n-i) dc,.slice (some ⟨g,i*2,none⟩) (n+1-i) sc]).run Tryz.prog w.drew=.ok (goInt (n-i)) (w.drew.setRow g X1):=fun sT ty dc sc=>by have:=cW w.drew 33 sT ty 71 g ((i+1)*2) (n-i) dc ⟨g,i*2,none⟩ (n+1-i) sc 2 cur 71 cs Tryz.underlying33 hszm hg0 (by rw[hcsl];congr 1;simp only[Nat.min_def];split<;>omega) hcell (by rw[hcsl,hcs];omega) (fun v hv=>hone v (by rw[hcse]at hv;exact List.mem_of_mem_drop hv));rw[this,hX1];congr 2;simp only[Nat.min_def];split<;>omega
 obtain⟨X2,hX2⟩:∃X2,X2=(X1.toList.take (i*2)++[Value.string ⟨nm.toArray⟩,Value.int .u64 id]++X1.toList.drop (i*2+2)).toArray:=⟨_,rfl⟩;have hcp2:∀W:World,W.heap=(w.drew.setRow g X1).heap→∀sT ty dc,(Builtin.copy_ #[33,sT] ty #[.slice (some ⟨g,i*2,none⟩) (n+1-i) dc,.slice (some ad) 1 c]).run Tryz.prog W=.ok (goInt 1) (W.setRow g X2):=fun W hW sT ty dc=>by
  have hWg:W.heap[g]?=some (.cells X1 71 (0,0)):=by rw[hW];exact setRow_heap w.drew g cur X1 _ _ hg0
  have hWc:∀x:Addr,x.block≠g→W.cell? x=w.cell? x:=fun x hx=>by have:(w.drew.setRow g X1).cell? x=w.drew.cell? x:=cell_setRow_other w.drew g X1 x hx;unfold World.cell? at this ⊢;rw[hW];exact this
  have:=cW W 33 sT ty 71 g (i*2) (n+1-i) dc ad 1 c 2 X1 71 [.string ⟨nm.toArray⟩,.int .u64 id] Tryz.underlying33 hszm hWg (by simp only[List.length_cons,List.length_nil,Nat.min_def];split<;>omega) (fun j v hj=>by
   have hab:∀j,(ad.add j).block≠g:=fun j=>by rw[bH];exact hb
   match j with|0=>simp at hj;subst hj;rw[hWc _ (hab 0)];exact h0|1=>simp at hj;subst hj;rw[hWc _ (hab 1)];exact h1|j+2=>simp at hj) (by simp only[List.length_cons,List.length_nil,hX1l];omega) (by intro v hv;simp only[List.mem_cons,List.not_mem_nil,or_false]at hv;rcases hv with rfl|rfl<;>rfl);rw[this,hX2];congr 2;simp only[Nat.min_def];split<;>omega
 have hzr:∀w,(Go.sizeOf 71).run Tryz.prog w=.ok 2 w:=fun w=>by rw[qx hi' w,hsz]
 have hov:∀W:World,W.heap=w.heap→∀o lb cb,(callFunc 165 #[.slice (some ad) 1 c,.slice (some ⟨g,o,none⟩) lb cb]).run Tryz.prog W=.ok (.value (.bool false)) W:=fun W hW o lb cb=>by rw[run_callFunc_extern Tryz.func165 (by kernel_rfl) (by kernel_rfl) (by kernel_rfl) (e:=Extern.SlicesOverlaps.overlaps #[32,32] #[4]) (by kernel_rfl),jH W 32 4 71 Tryz.underlying32 2 hzr ad ⟨g,o,none⟩ 1 c lb cb hb (va:=.string ⟨nm.toArray⟩) (cur:=cur) (tb:=71) (by rw[add_zero']at h0;unfold World.cell? at h0 ⊢;rw[hW];exact h0) (by rw[hW];exact hg0) (by omega)];rfl
 have key:∀Φ:Ending→World→Prop,(∀w',w'.heap=((w.setRow g X1).setRow g X2).heap→w'.os=w.os→w'.tape=w.tape→w'.output=w.output→Φ (.returned (.slice (some ⟨g,0,none⟩) (n+1) cap)) w')→Calls Tryz.prog 139 #[.slice (some ⟨g,0,none⟩) n cap,.int .i64 i,.slice (some ad) 1 c] w Φ:=by
  intro Φ hΦ;have q1:¬((i:Int)=(n:Int)):=by omega
  have q2:¬((cap:Int)<(n:Int)+1):=by omega
  have q3:(i:Int)≤(n:Int):=by omega
  have q4:(n:Int)+1≤(cap:Int):=by omega
  have q5:(0:Int)≤(n:Int)+1:=by omega
  have q6:(i:Int)+1≤(n:Int)+1:=by omega
  have q7:IntKind.i64.wrap ((n:Int)+1)=(n:Int)+1:=by rw[IntKind.wrap_i64];omega
  have q8:IntKind.i64.wrap ((i:Int)+1)=(i:Int)+1:=by rw[IntKind.wrap_i64];omega
  have q9:((n:Int)+1).toNat=n+1:=by omega
  have q10:((i:Int)+1).toNat=i+1:=by omega
  have q11:(0:Int)≤(i:Int)+1:=by omega
  have q12:¬(cap=i+1):=by omega
  have q13:¬(cap=i):=by omega
  have q14:(i:Int)≤(n:Int)+1:=by omega
  have mixed:Tryz.prog.follows .mixedOrders=true:=by kernel_rfl
  clear hcell hone hX1 hX2 htk hcur;go_enter Tryz.func139,Tryz.ntmps139;go_wp2_with(simp only[hov]);go_region_law_o(refine step_copy_runI rfl _ _ 33 33 rfl _ _ (by simp[Act.eval,Act.put]) (by simp[Act.eval,Act.put]) (hcp1 _ _ _ _) ?_);go_wp2_with(at_builtin;refine wpList_copy_runI _ rfl _ _ 33 32 rfl _ _ rfl rfl (hcp2 _ rfl _ _ _) ?_);exact hΦ _ rfl rfl rfl rfl
 have hAt:(cellW rows).take (i*2)=cur.toList.take (i*2):=by rw[←htk,List.take_take,Nat.min_eq_left (by omega)]
 have e1:X1.toList.take (i*2)=(cellW rows).take (i*2):=by rw[hX1,hAt];simp only[List.append_assoc];rw[List.take_append_of_le_length (by rw[List.length_take];omega),List.take_take,Nat.min_eq_left (by omega)]
 have e2:∃rest,X1.toList.drop (i*2+2)=cs++rest:=by refine⟨cur.toList.drop ((i+1)*2+cs.length),?_⟩;rw[hX1];simp only[List.append_assoc];rw[show i*2+2=(cur.toList.take ((i+1)*2)).length from by rw[List.length_take];omega,List.drop_left]
 obtain⟨rest,e2⟩:=e2;have hA2:((cellW rows).take (i*2)).length=i*2:=by rw[List.length_take];omega
 have e3:X2.toList=((cellW rows).take (i*2)++[Value.string ⟨nm.toArray⟩,Value.int .u64 id]++(cellW rows).drop (i*2))++rest:=by rw[hX2,e1,e2,hcse];simp only[List.append_assoc]
 have e4:((cellW rows).take (i*2)++[Value.string ⟨nm.toArray⟩,Value.int .u64 id]++(cellW rows).drop (i*2)).length=(n+1)*2:=by simp only[List.length_append,hA2,List.length_cons,List.length_nil,List.length_drop,hcl];omega
 have hX2l:X2.size=cap*2:=by rw[hX2];simp only[List.size_toArray,List.length_append,List.length_take,List.length_drop,Array.length_toList,hX1l,List.length_cons,List.length_nil];omega
 refine key _ fun w' hh ho ht hou=>⟨_,rfl,⟨e4,.inr ⟨g,cap,X2,rfl,Nat.zero_le _,?_,hroom,hcm,hX2l,?_⟩⟩,⟨ho,ht,hou,?_,?_⟩,fun b hb=>.inl hb⟩;·rw[hh];exact setRow_heap (w.setRow g X1) g X1 X2 _ _ (setRow_heap w g cur X1 _ _ hg0)
 ·rw[e3,←e4];exact List.take_left
 ·rw[hh];simp[World.setRow]
 ·intro k hk hne;have hkg:k≠g:=fun e=>hne (by rw[e];rfl);rw[hh,setRow_other _ g k _ hkg,setRow_other _ g k _ hkg]
theorem pd:∃inf z,Tryz.prog.info? 84=some inf∧inf.zero=some z∧z.cells.size=inf.size∧inf.size=3∧inf.bytes=24:=by refine⟨_,_,rfl,rfl,?_,?_,?_⟩<;>kernel_rfl
theorem Aj (w:World) (V:Value) (rows:List (List PV)) (hs2:∀r∈rows,r.length=3) (hp:c9 rows) (hsm:rows.length≤1000000) (n1 n2 n3:Int) (hown:w.ownsRow 0 84 3 V rows.length (cellW rows)) (ad:Addr) (c:Nat) (h0:w.cell? (ad.add 0)=some (.int .u64 n1)) (h1:w.cell? (ad.add 1)=some (.int .u64 n2)) (h2:w.cell? (ad.add 2)=some (.int .u64 n3)):Calls Tryz.prog 100 #[V,.int .i64 rows.length,.slice (some ad) 1 c] w fun r w'=>∃V',r=.returned V'∧w'.ownsRow 0 84 3 V' (rows.length+1) (cellW rows++[.int .u64 n1,.int .u64 n2,.int .u64 n3])∧w.grownBy w' V.ownBlock∧(∀b,V'.ownBlock=some b→V.ownBlock=some b∨w.heap.size≤b):=by
 obtain⟨inf,z,hi,hz,hzs,hsz,hby⟩:=pd;have hsrc:Src Tryz.prog inf.size 34 (.slice (some ad) 1 c) 1 [.int .u64 n1,.int .u64 n2,.int .u64 n3] w:=by
  rw[hsz];refine Src.ofSlice w Tryz.underlying34 ad 1 c _ (by simp) (fun j u hj=>?_) (fun u hu=>?_);·match j with|0=>simp at hj;subst hj;exact h0|1=>simp at hj;subst hj;exact h1|2=>simp at hj;subst hj;exact h2|j+3=>simp at hj
  ·simp only[List.mem_cons,List.not_mem_nil,or_false]at hu;rcases hu with rfl|rfl|rfl<;>rfl
 rw[←hsz]at hown;obtain⟨v',w',hrun,hown',hg,hbl⟩:=oQ w 34 34 34 84 inf z Tryz.underlying34 hi hz hzs (by omega) V rows.length (cellW rows) hown (.slice (some ad) 1 c) 1 _ hsrc (by unfold maxLen;omega) (by rw[hby];omega);rw[hsz]at hown' hown;have hfin:∃V',(Ending.returned v':Ending)=.returned V'∧w'.ownsRow 0 84 3 V' (rows.length+1) (cellW rows++[.int .u64 n1,.int .u64 n2,.int .u64 n3])∧w.grownBy w' V.ownBlock∧(∀b,V'.ownBlock=some b→V.ownBlock=some b∨w.heap.size≤b):=⟨v',rfl,hown',hg,fun b hb=>by
  rcases hbl with h|h;·rw[h]at hb;exact .inl hb
  ·rw[h]at hb;injection hb with hb;exact .inr (by omega)⟩;have key:∀Φ:Ending→World→Prop,Φ (.returned v') w'→Calls Tryz.prog 100 #[V,.int .i64 rows.length,.slice (some ad) 1 c] w Φ:=by
  intro Φ hΦ;rcases hown.2 with⟨rfl,hn⟩|⟨g,cap,cur,rfl,hb0,hg0,hnc,hcm,hcs,htk⟩;·obtain rfl:rows=[]:=List.eq_nil_of_length_eq_zero hn;simp only[List.length_nil];clear hown hbl hg hown' hfin;go_enter Tryz.func100,Tryz.ntmps100;go_wp2_with(at_builtin;refine Lib.wpList_append_run _ rfl _ _ _ _ rfl _ _ rfl rfl _ _ hrun ?_);all_goals exact hΦ
  ·generalize hn:rows.length=n at*;have e1:(0:Int)≤(n:Int):=by omega
   have e2:(n:Int)≤(n:Int):=by omega
   clear hown hbl hg hown' hfin;go_enter Tryz.func100,Tryz.ntmps100;go_wp2_with(at_builtin;refine Lib.wpList_append_run _ rfl _ _ _ _ rfl _ _ rfl rfl _ _ hrun ?_);all_goals exact hΦ
 exact key _ hfin
set_option maxHeartbeats 8000000 in theorem yn (w:World) (rows:List (List PV)) (hs2:∀r∈rows,r.length=3) (hp:c9 rows) (i n:Nat) (hn:rows.length=n) (hi:i<n) (hsm:n≤1000000) (n1 n2 n3:Int) (g cap:Nat) (cur:Array Value) (hg0:w.heap[g]?=some (.cells cur 84 (0,0))) (hcm:cap≤maxLen) (hcs:cur.size=cap*3) (htk:cur.toList.take (n*3)=cellW rows) (hroom:n+1≤cap) (ad:Addr) (c:Nat) (hb:ad.block≠g) (h0:w.cell? (ad.add 0)=some (.int .u64 n1)) (h1:w.cell? (ad.add 1)=some (.int .u64 n2)) (h2:w.cell? (ad.add 2)=some (.int .u64 n3)):Calls Tryz.prog 100 #[.slice (some ⟨g,0,none⟩) n cap,.int .i64 i,.slice (some ad) 1 c] w fun r w'=>∃V',r=.returned V'∧w'.ownsRow 0 84 3 V' (n+1) ((cellW rows).take (i*3)++[.int .u64 n1,.int .u64 n2,.int .u64 n3]++(cellW rows).drop (i*3))∧w.grownBy w' (Value.slice (some ⟨g,0,none⟩) n cap).ownBlock∧(∀b,V'.ownBlock=some b→(Value.slice (some ⟨g,0,none⟩) n cap).ownBlock=some b∨w.heap.size≤b):=by
 obtain⟨inf,z,hi',hz,hzs,hsz,hby⟩:=pd;have hszm:(Tryz.prog.info? 84).map (·.size)=some 3:=by rw[hi'];simp[hsz]
 have hcl:(cellW rows).length=n*3:=by rw[ep hs2,hn]
 obtain⟨cs,hcse⟩:∃cs,cs=(cellW rows).drop (i*3):=⟨_,rfl⟩;have hcsl:cs.length=(n-i)*3:=by rw[hcse,List.length_drop,hcl];omega
 have hcur:cur.toList.length=cap*3:=by simpa using hcs
 have hone:=jP hp;obtain⟨X1,hX1⟩:∃X1,X1=(cur.toList.take ((i+1)*3)++cs++cur.toList.drop ((i+1)*3+cs.length)).toArray:=⟨_,rfl⟩;have hX1l:X1.size=cap*3:=by rw[hX1];simp only[List.size_toArray,List.length_append,List.length_take,List.length_drop,hcur,hcsl];omega
 have hcell:∀j v,cs[j]?=some v→w.cell? ((⟨g,i*3,none⟩:Addr).add j)=some v:=by
  intro j v hj;rw[Addr.add_lit];have hjl:j<cs.length:=(List.getElem?_eq_some_iff.1 hj).1;rw[hcse,List.getElem?_drop,←htk,List.getElem?_take]at hj;split at hj;·simp only[World.cell?,hg0];simpa using hj
  ·cases hj
 have hcp1:∀sT ty dc sc,(Builtin.copy_ #[34,sT] ty #[.slice (some ⟨g,(i+1)*3,none⟩) (n-i) dc,.slice (some ⟨g,i*3,none⟩) (n+1-i) sc]).run Tryz.prog w.drew=.ok (goInt (n-i)) (w.drew.setRow g X1):=fun sT ty dc sc=>by have:=cW w.drew 34 sT ty 84 g ((i+1)*3) (n-i) dc ⟨g,i*3,none⟩ (n+1-i) sc 3 cur 84 cs Tryz.underlying34 hszm hg0 (by rw[hcsl];congr 1;simp only[Nat.min_def];split<;>omega) hcell (by rw[hcsl,hcs];omega) (fun v hv=>hone v (by rw[hcse]at hv;exact List.mem_of_mem_drop hv));rw[this,hX1];congr 2;simp only[Nat.min_def];split<;>omega
 obtain⟨X2,hX2⟩:∃X2,X2=(X1.toList.take (i*3)++[Value.int .u64 n1,Value.int .u64 n2,Value.int .u64 n3]++X1.toList.drop (i*3+3)).toArray:=⟨_,rfl⟩;have hcp2:∀W:World,W.heap=(w.drew.setRow g X1).heap→∀sT ty dc,(Builtin.copy_ #[34,sT] ty #[.slice (some ⟨g,i*3,none⟩) (n+1-i) dc,.slice (some ad) 1 c]).run Tryz.prog W=.ok (goInt 1) (W.setRow g X2):=fun W hW sT ty dc=>by
  have hWg:W.heap[g]?=some (.cells X1 84 (0,0)):=by rw[hW];exact setRow_heap w.drew g cur X1 _ _ hg0
  have hWc:∀x:Addr,x.block≠g→W.cell? x=w.cell? x:=fun x hx=>by have:(w.drew.setRow g X1).cell? x=w.drew.cell? x:=cell_setRow_other w.drew g X1 x hx;unfold World.cell? at this ⊢;rw[hW];exact this
  have:=cW W 34 sT ty 84 g (i*3) (n+1-i) dc ad 1 c 3 X1 84 [.int .u64 n1,.int .u64 n2,.int .u64 n3] Tryz.underlying34 hszm hWg (by simp only[List.length_cons,List.length_nil,Nat.min_def];split<;>omega) (fun j v hj=>by
   have hab:∀j,(ad.add j).block≠g:=fun j=>by rw[bH];exact hb
   match j with|0=>simp at hj;subst hj;rw[hWc _ (hab 0)];exact h0|1=>simp at hj;subst hj;rw[hWc _ (hab 1)];exact h1|2=>simp at hj;subst hj;rw[hWc _ (hab 2)];exact h2|j+3=>simp at hj) (by simp only[List.length_cons,List.length_nil,hX1l];omega) (by intro v hv;simp only[List.mem_cons,List.not_mem_nil,or_false]at hv;rcases hv with rfl|rfl|rfl<;>rfl);rw[this,hX2];congr 2;simp only[Nat.min_def];split<;>omega
 have hzr:∀w,(Go.sizeOf 84).run Tryz.prog w=.ok 3 w:=fun w=>by rw[qx hi' w,hsz]
 have hov:∀W:World,W.heap=w.heap→∀o lb cb,(callFunc 133 #[.slice (some ad) 1 c,.slice (some ⟨g,o,none⟩) lb cb]).run Tryz.prog W=.ok (.value (.bool false)) W:=fun W hW o lb cb=>by rw[run_callFunc_extern Tryz.func133 (by kernel_rfl) (by kernel_rfl) (by kernel_rfl) (e:=Extern.SlicesOverlaps.overlaps #[34,34] #[4]) (by kernel_rfl),jH W 34 4 84 Tryz.underlying34 3 hzr ad ⟨g,o,none⟩ 1 c lb cb hb (va:=.int .u64 n1) (cur:=cur) (tb:=84) (by rw[add_zero']at h0;unfold World.cell? at h0 ⊢;rw[hW];exact h0) (by rw[hW];exact hg0) (by omega)];rfl
 have key:∀Φ:Ending→World→Prop,(∀w',w'.heap=((w.setRow g X1).setRow g X2).heap→w'.os=w.os→w'.tape=w.tape→w'.output=w.output→Φ (.returned (.slice (some ⟨g,0,none⟩) (n+1) cap)) w')→Calls Tryz.prog 100 #[.slice (some ⟨g,0,none⟩) n cap,.int .i64 i,.slice (some ad) 1 c] w Φ:=by
  intro Φ hΦ;have q1:¬((i:Int)=(n:Int)):=by omega
  have q2:¬((cap:Int)<(n:Int)+1):=by omega
  have q3:(i:Int)≤(n:Int):=by omega
  have q4:(n:Int)+1≤(cap:Int):=by omega
  have q5:(0:Int)≤(n:Int)+1:=by omega
  have q6:(i:Int)+1≤(n:Int)+1:=by omega
  have q7:IntKind.i64.wrap ((n:Int)+1)=(n:Int)+1:=by rw[IntKind.wrap_i64];omega
  have q8:IntKind.i64.wrap ((i:Int)+1)=(i:Int)+1:=by rw[IntKind.wrap_i64];omega
  have q9:((n:Int)+1).toNat=n+1:=by omega
  have q10:((i:Int)+1).toNat=i+1:=by omega
  have q11:(0:Int)≤(i:Int)+1:=by omega
  have q12:¬(cap=i+1):=by omega
  have q13:¬(cap=i):=by omega
  have q14:(i:Int)≤(n:Int)+1:=by omega
  have mixed:Tryz.prog.follows .mixedOrders=true:=by kernel_rfl
  clear hcell hone hX1 hX2 htk hcur;go_enter Tryz.func100,Tryz.ntmps100;go_wp2_with(simp only[hov]);go_region_law_o(refine step_copy_runI rfl _ _ 34 34 rfl _ _ (by simp[Act.eval,Act.put]) (by simp[Act.eval,Act.put]) (hcp1 _ _ _ _) ?_);go_wp2_with(at_builtin;refine wpList_copy_runI _ rfl _ _ 34 34 rfl _ _ rfl rfl (hcp2 _ rfl _ _ _) ?_);exact hΦ _ rfl rfl rfl rfl
 have hAt:(cellW rows).take (i*3)=cur.toList.take (i*3):=by rw[←htk,List.take_take,Nat.min_eq_left (by omega)]
 have e1:X1.toList.take (i*3)=(cellW rows).take (i*3):=by rw[hX1,hAt];simp only[List.append_assoc];rw[List.take_append_of_le_length (by rw[List.length_take];omega),List.take_take,Nat.min_eq_left (by omega)]
 have e2:∃rest,X1.toList.drop (i*3+3)=cs++rest:=by refine⟨cur.toList.drop ((i+1)*3+cs.length),?_⟩;rw[hX1];simp only[List.append_assoc];rw[show i*3+3=(cur.toList.take ((i+1)*3)).length from by rw[List.length_take];omega,List.drop_left]
 obtain⟨rest,e2⟩:=e2;have hA2:((cellW rows).take (i*3)).length=i*3:=by rw[List.length_take];omega
 have e3:X2.toList=((cellW rows).take (i*3)++[Value.int .u64 n1,Value.int .u64 n2,Value.int .u64 n3]++(cellW rows).drop (i*3))++rest:=by rw[hX2,e1,e2,hcse];simp only[List.append_assoc]
 have e4:((cellW rows).take (i*3)++[Value.int .u64 n1,Value.int .u64 n2,Value.int .u64 n3]++(cellW rows).drop (i*3)).length=(n+1)*3:=by simp only[List.length_append,hA2,List.length_cons,List.length_nil,List.length_drop,hcl];omega
 have hX2l:X2.size=cap*3:=by rw[hX2];simp only[List.size_toArray,List.length_append,List.length_take,List.length_drop,Array.length_toList,hX1l,List.length_cons,List.length_nil];omega
 refine key _ fun w' hh ho ht hou=>⟨_,rfl,⟨e4,.inr ⟨g,cap,X2,rfl,Nat.zero_le _,?_,hroom,hcm,hX2l,?_⟩⟩,⟨ho,ht,hou,?_,?_⟩,fun b hb=>.inl hb⟩;·rw[hh];exact setRow_heap (w.setRow g X1) g X1 X2 _ _ (setRow_heap w g cur X1 _ _ hg0)
 ·rw[e3,←e4];exact List.take_left
 ·rw[hh];simp[World.setRow]
 ·intro k hk hne;have hkg:k≠g:=fun e=>hne (by rw[e];rfl);rw[hh,setRow_other _ g k _ hkg,setRow_other _ g k _ hkg]
set_option maxHeartbeats 8000000 in
theorem xw (w:World) (rows:List (List PV)) (hs2:∀r∈rows,r.length=3) (hp:c9 rows) (i n:Nat) (hn:rows.length=n) (hi:i < n) (hsm:n≤1000000) (n1 n2 n3:Int)
 (g cap:Nat) (cur:Array Value) (hg0:w.heap[g]? = some (.cells cur 84 (0,0))) (hnc:n≤cap) (hcs:cur.size=cap*3) (htk:cur.toList.take (n*3)=cellW rows) (hroom:cap < n+1) (ad:Addr) (c:Nat)
 (h0:w.cell? (ad.add 0)=some (.int .u64 n1)) (h1:w.cell? (ad.add 1)=some (.int .u64 n2)) (h2:w.cell? (ad.add 2)=some (.int .u64 n3)) :
 Calls Tryz.prog 100 #[.slice (some ⟨g,0,none⟩) n cap,.int .i64 i,.slice (some ad) 1 c] w fun r w'=>∃V',r=.returned V' ∧
  w'.ownsRow 0 84 3 V' (n+1) ((cellW rows).take (i*3)++[.int .u64 n1,.int .u64 n2,.int .u64 n3]++(cellW rows).drop (i*3))∧w.grownBy w' (Value.slice (some ⟨g,0,none⟩) n cap).ownBlock∧(∀b,V'.ownBlock=some b→(Value.slice (some ⟨g,0,none⟩) n cap).ownBlock=some b∨w.heap.size≤b):=by
 obtain⟨inf,z,hi',hz,hzs,hsz,hby⟩:=pd
 have hszm:(Tryz.prog.info? 84).map (·.size)=some 3:=by rw [hi'];simp [hsz]
 have hcl:(cellW rows).length=n*3:=by rw [ep hs2,hn]
 obtain⟨cs,hcse⟩:∃cs,cs=(cellW rows).drop (i*3):=⟨_,rfl⟩
 have hcsl:cs.length=(n - i)*3:=by rw [hcse,List.length_drop,hcl];omega
 have hcur:cur.toList.length=cap*3:=by simpa using hcs
 have hone:=jP hp
 have hgw:g < w.heap.size:=(Array.getElem?_eq_some_iff.1 hg0).1
 have hadw:ad.block < w.heap.size:=by
  have:=h0
  rw [add_zero']at this
  unfold World.cell? at this
  split at this
  ·rename_i hq;exact (Array.getElem?_eq_some_iff.1 hq).1
  ·cases this
 have hcellA:∀j v,(cellW rows)[j]? = some v→w.cell? ⟨g,j,none⟩=some v:=by
  intro j v hj
  rw [←htk,List.getElem?_take]at hj
  split at hj
  ·simp only [World.cell?,hg0]
   simpa using hj
  ·cases hj
 have hold:(Builtin.firstCells inf.size i (.slice (some ⟨g,0,none⟩) i cap)).run Tryz.prog w.drew=.ok ((cellW rows).take (i*3)).toArray w.drew:=by
  rw [hsz]
  exact run_firstCells_some w.drew 3 i ⟨g,0,none⟩ i cap _ (by rw [List.length_take];omega) (fun j v hj=>by
   rw [Addr.add_lit]
   rw [List.getElem?_take]at hj
   split at hj
   ·rw [Nat.zero_add];exact hcellA j v hj
   ·cases hj)
 have hkk:(n:Int)+1 - (i:Int)=((n+1 - i:Nat):Int):=by omega
 have hrz:∀ty,(Builtin.append_ #[34,3] ty #[.slice (some ⟨g,0,none⟩) i cap,.int .i64 ((n:Int)+1 - (i:Int))]).run Tryz.prog w =
  .ok (.slice (some ⟨w.heap.size,0,none⟩) (n+1) (grownCap w (n+1) cap 84)) (w.drew.alloc (.cells (((cellW rows).take (i*3)).toArray++Builtin.zeroCells z.cells (n+1 - i)++Builtin.zeroCells z.cells (grownCap w (n+1) cap 84 - (n+1))) 84)):=fun ty=>by
  have h:=Lib.run_append_grow_zeros w 34 3 ty 84 inf z .i64 .i64 Tryz.underlying34 Tryz.underlying3 hi' hz (some ⟨g,0,none⟩) i cap ((cellW rows).take (i*3)) hold (n+1 - i) (by omega) (by omega) (by omega) (by omega) (by rw [hby];omega) (by rw [hby];exact growslice_fits (by omega) (by omega))
  rw [show i+(n+1 - i)=n+1 from by omega]at h
  rw [hkk]
  exact h
 have hGn:n+1≤grownCap w (n+1) cap 84:=grownCap_ge w _ _ _
 have hGm:grownCap w (n+1) cap 84≤maxLen:=grownCap_le_maxLen w (n+1) cap _ (by unfold maxLen;omega)
 generalize grownCap w (n+1) cap 84=G at hrz hGn hGm
 obtain⟨ROW,hROW⟩:∃ROW,ROW=((cellW rows).take (i*3)).toArray++Builtin.zeroCells z.cells (n+1 - i)++Builtin.zeroCells z.cells (G - (n+1)):=⟨_,rfl⟩
 rw [←hROW]at hrz
 have hRl:ROW.size=G*3:=by
  rw [hROW];simp only [Array.size_append,List.size_toArray,List.length_take,hcl,size_zeroCells,hzs,hsz];omega
 have hRt:ROW.toList.take (i*3)=(cellW rows).take (i*3):=by
  rw [hROW]
  simp only [Array.toList_append,List.append_assoc]
  rw [List.take_append_of_le_length (by rw [List.length_take,hcl];omega),List.take_of_length_le (by rw [List.length_take];omega)]
 obtain⟨N,hN⟩:∃N,N=w.heap.size:=⟨_,rfl⟩
 obtain⟨W1,hW1⟩:∃W1,W1=w.drew.alloc (.cells ROW 84):=⟨_,rfl⟩
 have hW1N:W1.heap[N]? = some (.cells ROW 84 (0,0)):=by rw [hW1,hN];exact heap_alloc_new w.drew _
 have hW1o:∀k,k < w.heap.size→W1.heap[k]? = w.heap[k]?:=fun k hk=>by rw [hW1];exact Below.heap_alloc w.drew _ k hk
 obtain⟨X1,hX1⟩:∃X1,X1=(ROW.toList.take (i*3)++[Value.int .u64 n1,Value.int .u64 n2,Value.int .u64 n3]++ROW.toList.drop (i*3+3)).toArray:=⟨_,rfl⟩
 have hX1l:X1.size=G*3:=by
  rw [hX1];simp only [List.size_toArray,List.length_append,List.length_take,List.length_drop,Array.length_toList,hRl,List.length_cons,List.length_nil];omega
 have hold':∀W:World,(∀k,k < w.heap.size→W.heap[k]? = w.heap[k]?)→∀x:Addr,x.block < w.heap.size→W.cell? x=w.cell? x:=fun W hW x hx=>by
  unfold World.cell?
  rw [hW _ hx]
 have hcpA:∀W:World,W.heap=W1.heap→∀sT ty dc,(Builtin.copy_ #[34,sT] ty #[.slice (some ⟨N,i*3,none⟩) (n+1 - i) dc,.slice (some ad) 1 c]).run Tryz.prog W=.ok (goInt 1) (W.setRow N X1):=fun W hW sT ty dc=>by
  have:=cW W 34 sT ty 84 N (i*3) (n+1 - i) dc ad 1 c 3 ROW 84 [.int .u64 n1,.int .u64 n2,.int .u64 n3] Tryz.underlying34 hszm (by rw [hW];exact hW1N)
   (by simp only [List.length_cons,List.length_nil,Nat.min_def];split<;>omega)
   (fun j v hj=>by
    have hab:∀j,(ad.add j).block < w.heap.size:=fun j=>by rw [bH];exact hadw
    have ho:∀k,k < w.heap.size→W.heap[k]? = w.heap[k]?:=fun k hk=>by rw [hW];exact hW1o k hk
    match j with
    | 0=>simp at hj;subst hj;rw [hold' W ho _ (hab 0)];exact h0
    | 1=>simp at hj;subst hj;rw [hold' W ho _ (hab 1)];exact h1
    | 2=>simp at hj;subst hj;rw [hold' W ho _ (hab 2)];exact h2
    |j+3=>simp at hj)
   (by simp only [List.length_cons,List.length_nil,hRl];omega) (by
    intro v hv
    simp only [List.mem_cons,List.not_mem_nil,or_false]at hv
    rcases hv with rfl | rfl | rfl<;>rfl)
  rw [this,hX1]
  congr 2
  simp only [Nat.min_def];split<;>omega
 obtain⟨X2,hX2⟩:∃X2,X2=(X1.toList.take ((i+1)*3)++cs++X1.toList.drop ((i+1)*3+cs.length)).toArray:=⟨_,rfl⟩
 have hX2l:X2.size=G*3:=by
  rw [hX2];simp only [List.size_toArray,List.length_append,List.length_take,List.length_drop,Array.length_toList,hX1l,hcsl];omega
 have hW2o:∀k,k < w.heap.size→(W1.setRow N X1).heap[k]? = w.heap[k]?:=fun k hk=>by rw [setRow_other _ N k _ (by omega)];exact hW1o k hk
 have hcpB:∀W:World,W.heap=(W1.setRow N X1).heap→∀sT ty dc sc,(Builtin.copy_ #[34,sT] ty #[.slice (some ⟨N,(i+1)*3,none⟩) (n - i) dc,.slice (some ⟨g,i*3,none⟩) (n - i) sc]).run Tryz.prog W=.ok (goInt (n - i)) (W.setRow N X2):=fun W hW sT ty dc sc=>by
  have:=cW W 34 sT ty 84 N ((i+1)*3) (n - i) dc ⟨g,i*3,none⟩ (n - i) sc 3 X1 84 cs Tryz.underlying34 hszm
   (by rw [hW];exact setRow_heap W1 N ROW X1 _ _ hW1N)
   (by rw [hcsl];congr 1;simp only [Nat.min_def];split<;>omega)
   (fun j v hj=>by
    rw [hold' W (fun k hk=>by rw [hW];exact hW2o k hk) _ (by rw [bH];exact hgw),Addr.add_lit]
    rw [hcse,List.getElem?_drop]at hj
    exact hcellA _ v hj)
   (by rw [hcsl,hX1l];omega) (fun v hv=>hone v (by rw [hcse]at hv;exact List.mem_of_mem_drop hv))
  rw [this,hX2]
  congr 2
  simp only [Nat.min_def];split<;>omega
 have key:∀Φ:Ending→World→Prop,(∀w',w'.heap=((W1.setRow N X1).setRow N X2).heap→w'.os=w.os→w'.tape=w.tape→w'.output=w.output→Φ (.returned (.slice (some ⟨N,0,none⟩) (n+1) G)) w') →
  Calls Tryz.prog 100 #[.slice (some ⟨g,0,none⟩) n cap,.int .i64 i,.slice (some ad) 1 c] w Φ:=by
  intro Φ hΦ
  have q1:¬ ((i:Int)=(n:Int)):=by omega
  have q2:(cap:Int) < (n:Int)+1:=by omega
  have q3:(i:Int)≤(n:Int):=by omega
  have q5:(0:Int)≤(n:Int)+1:=by omega
  have q6:(i:Int)+1≤(n:Int)+1:=by omega
  have q7:IntKind.i64.wrap ((n:Int)+1)=(n:Int)+1:=by rw [IntKind.wrap_i64];omega
  have q8:IntKind.i64.wrap ((i:Int)+1)=(i:Int)+1:=by rw [IntKind.wrap_i64];omega
  have q9:IntKind.i64.wrap ((n:Int)+1 - (i:Int))=(n:Int)+1 - (i:Int):=by rw [IntKind.wrap_i64];omega
  have q10:((i:Int)+1).toNat=i+1:=by omega
  have q11:(0:Int)≤(i:Int)+1:=by omega
  have q12:¬ (G=i+1):=by omega
  have q13:¬ (G=i):=by omega
  have q14:(i:Int)≤(n:Int)+1:=by omega
  have q15:¬ (cap=i):=by omega
  have mixed:Tryz.prog.follows .mixedOrders=true:=by kernel_rfl
  have hΦ' : Φ (.returned (.slice (some ⟨N,0,none⟩) (n+1) G)) (((W1.setRow N X1).drew).setRow N X2):=hΦ _ rfl (by rw [hW1];rfl) (by rw [hW1];rfl) (by rw [hW1];rfl)
  rw [←hW1]at hrz
  subst hN
  clear hkk hΦ hold hone hX1 hX2 htk hcur hROW hRt hW1N hW1o hW2o hold' hcellA hW1
  go_enter Tryz.func100,Tryz.ntmps100
  go_wp2_with (first
   | (at_builtin;refine Lib.wpList_append_run _ rfl _ _ _ _ rfl _ _ rfl rfl _ _ (hrz _) ?_)
   | (at_builtin;refine wpList_copy_runI _ rfl _ _ 34 34 rfl _ _ rfl rfl (hcpA _ rfl _ _ _) ?_))
  go_region_law_o (refine step_copy_runI rfl _ _ 34 34 rfl (.slice (some ⟨w.heap.size,(i+1)*3,none⟩) (n - i) (G - (i+1))) (.slice (some ⟨g,i*3,none⟩) (n - i) (cap - i)) (by simp [Act.eval,Act.put]) (by simp [Act.eval,Act.put]) (hcpB (W1.setRow w.heap.size X1).drew rfl 34 3 (G - (i+1)) (cap - i)) ?_)
  go_wp2
  exact hΦ'
 have e1:X1.toList.take ((i+1)*3)=(cellW rows).take (i*3)++[Value.int .u64 n1,Value.int .u64 n2,Value.int .u64 n3]:=by
  rw [hX1,hRt]
  have hl:((cellW rows).take (i*3)++[Value.int .u64 n1,Value.int .u64 n2,Value.int .u64 n3]).length=(i+1)*3:=by
   simp only [List.length_append,List.length_take,hcl,List.length_cons,List.length_nil];omega
  rw [←hl]
  exact List.take_left
 have e3:X2.toList=((cellW rows).take (i*3)++[Value.int .u64 n1,Value.int .u64 n2,Value.int .u64 n3]++(cellW rows).drop (i*3))++X1.toList.drop ((i+1)*3+cs.length):=by
  rw [hX2,e1,hcse]
 have e4:((cellW rows).take (i*3)++[Value.int .u64 n1,Value.int .u64 n2,Value.int .u64 n3]++(cellW rows).drop (i*3)).length=(n+1)*3:=by
  simp only [List.length_append,List.length_take,List.length_cons,List.length_nil,List.length_drop,hcl];omega
 refine key _ fun w' hh ho ht hou=>⟨_,rfl,⟨e4,.inr ⟨N,G,X2,rfl,Nat.zero_le _,?_,hGn,hGm,hX2l,?_⟩⟩,⟨ho,ht,hou,?_,?_⟩,fun b hb=>.inr ?_⟩
 ·rw [hh]
  exact setRow_heap (W1.setRow N X1) N X1 X2 _ _ (setRow_heap W1 N ROW X1 _ _ hW1N)
 ·rw [e3,←e4];exact List.take_left
 ·rw [hh,hW1];simp [World.setRow]
 ·intro k hk hne
  rw [hh,setRow_other _ N k _ (by omega)]
  exact hW2o k hk
 ·simp [Value.ownBlock]at hb;omega
theorem gE (l:List Pn):c9 (aw l):=by intro r hr p hp;simp only[aw,List.mem_map]at hr;obtain⟨e,_,rfl⟩:=hr;simp only[rowP,List.mem_cons,List.not_mem_nil,or_false]at hp;rcases hp with rfl|rfl|rfl<;>rfl
def zA (l:List Pn) (i:Nat) (e:Pn):List Pn:=l.take i++e::l.drop i
theorem Bj (l:List Pn) (i:Nat) (e:Pn):cellW (aw (zA l i e))=(cellW (aw l)).take (i*3)++[Value.int .u64 e.i,Value.int .u64 e.v,Value.int .u64 e.u]++(cellW (aw l)).drop (i*3):=by
 unfold zA;have h1:aw (l.take i)=(aw l).take i:=by simp[aw,List.map_take]
 have h2:aw (l.drop i)=(aw l).drop i:=by simp[aw,List.map_drop]
 rw[show l.take i++e::l.drop i=l.take i++([e]++l.drop i) from rfl,dM,dM,ez,ez,h1,h2,iT i (bI l),nb i (bI l),List.append_assoc];rfl
@[simp] noncomputable def LX:List AV→Option (Prop×AV)|[.fr e a,.pv (.int .i64 i),.pv (.ro [[.int .u64 x,.int .u64 y,.int .u64 z]])]=>if e=84 then(dec rowP a).map fun l=>(0≤i∧i≤l.length∧l.length≤1000000,.fr 84 (aw (zA l i.toNat ⟨x,y,z⟩))) else none|_=>none
theorem Nx:m7 Tryz.prog 100 LX:=by
 intro ys φ r h hφ;unfold LX at h;split at h
 ·rename_i e ra i n1 n2 n3;split at h
  ·rename_i hef;subst hef;obtain⟨l,hl,h⟩:=Option.map_eq_some_iff.1 h;cases h;cases aE hl;obtain⟨h0,h1,h2⟩:=hφ;obtain⟨k,rfl⟩:∃k:Nat,i=(k:Int):=⟨i.toNat,by omega⟩;simp only[Int.toNat_natCast];obtain⟨inf,z,hi,hz,hzs,hsz,hby⟩:=pd;have hins:(zA l k ⟨n1,n2,n3⟩).length=l.length+1:=by unfold zA;simp;omega
   refine sC hi (rows:=aw l) (rows':=aw (zA l k ⟨n1,n2,n3⟩)) (by rw[hsz];exact bI l) (gE l) (by rw[hsz];exact bI _) (gE _) [.int .i64 (k:Int),.ro [[.int .u64 n1,.int .u64 n2,.int .u64 n3]]] ?_;intro w S V vals hown hS hlen hv;rw[hsz]at hown ⊢;match vals,hlen with
   |[v1,v2],_=>
    have e1:=(hv 0 v1 _ rfl rfl).aI;subst e1;obtain⟨A,c,rfl,hc,hne⟩:=(hv 1 v2 _ rfl rfl).fP;obtain⟨ad,sz,us,rfl,g1,g2,g3,g4,g5⟩:=hne (by simp);have hs2:sz=3:=(g2 [.int .u64 n1,.int .u64 n2,.int .u64 n3] (by simp)).symm;subst hs2;have k0:w.cell? (ad.add 0)=some (.int .u64 n1):=by rw[←(g5 0 0 _ _ rfl rfl).aI];exact g3 0 0 (by simp) (by omega)
    have k1:w.cell? (ad.add 1)=some (.int .u64 n2):=by rw[←(g5 0 1 _ _ rfl rfl).aI];exact g3 0 1 (by simp) (by omega)
    have k2:w.cell? (ad.add 2)=some (.int .u64 n3):=by rw[←(g5 0 2 _ _ rfl rfl).aI];exact g3 0 2 (by simp) (by omega)
    have hb:=(hS _ g1).2;rw[dO,hins,Bj];rw[dO]at hown;rcases Nat.lt_or_ge k l.length with hk|hk
    ·rcases hown.2 with⟨_,hn⟩|⟨g,cap,cur,rfl,hb0,hg0,hnc,hcm,hcs,htk⟩;·omega
     ·have hbg:ad.block≠g:=fun e=>hb (by rw[e];rfl);rcases Nat.lt_or_ge cap (l.length+1) with hr|hr;·exact xw w (aw l) (bI l) (gE l) k l.length (dO l) hk h2 n1 n2 n3 g cap cur hg0 hnc hcs htk hr ad c k0 k1 k2
      ·exact yn w (aw l) (bI l) (gE l) k l.length (dO l) hk h2 n1 n2 n3 g cap cur hg0 hcm hcs htk hr ad c hbg k0 k1 k2
    ·have hkl:k=l.length:=by omega
     subst hkl;have hcl:(cellW (aw l)).length=l.length*3:=by rw[ep (bI l),dO]
     rw[List.take_of_length_le (by omega),List.drop_of_length_le (by omega),List.append_nil];have:=Aj w V (aw l) (bI l) (gE l) (by simpa using h2) n1 n2 n3 (by rw[dO];exact hown) ad c k0 k1 k2;rw[dO]at this;exact this
  ·cases h
 ·cases h
end Go.Proofs.YtlicclncicbajaaGreat.Ab
