/- Chapter 15: versions as plain data; which one has a number; whether they are right; which are seen. The program's side. -/
import Derived.Test.YtlmkcmfmfahcfaaGreatX11
import Derived.Sort.Defs
import Derived.Sort.WalkC
set_option linter.unusedVariables false
set_option linter.unusedSimpArgs false
set_option linter.unnecessarySimpa false
set_option maxHeartbeats 40000000
set_option maxRecDepth 100000
namespace Go.Proofs.YtlmkcmfmfahcfaaGreat.Ab
open Go Go.RowKit R
structure Vn where
 n:Int
 b:Int
 p:Int
 i:Int
 s:Int
 z:Int
 m:Int
 t:List UInt8
 inl:Bool
 fO:Bool deriving DecidableEq
def v0:Vn:=⟨0,0,0,0,0,0,0,[],false,false⟩
def cQ (v:Vn):List PV:=[.int .u64 v.n,.int .u64 v.b,.int .u64 v.p,.int .u64 v.i,.int .u64 v.s,.int .u64 v.z,.int .u64 v.m,.str v.t,.bool v.inl,.bool v.fO]
def cK (v:Vn):List AV:=[.pv (.int .u64 v.n),.pv (.int .u64 v.b),.pv (.int .u64 v.p),.pv (.int .u64 v.i),.pv (.int .u64 v.s),.pv (.int .u64 v.z),.pv (.int .u64 v.m),.pv (.str v.t),.pv (.bool v.inl),.pv (.bool v.fO)]
theorem se:∀a b,cQ a=cQ b→a=b:=by intro a b h;cases a;cases b;simpa[cQ]using h
def aF (l:List Vn):List (List PV):=l.map cQ
@[simp] theorem Nl:aF []=[]:=rfl
@[simp] theorem F2 (l:List Vn):(aF l).length=l.length:=by simp[aF]
theorem c7 (l m:List Vn):aF (l++m)=aF l++aF m:=by simp[aF]
theorem oh (l:List Vn):∀r∈aF l,r.length=10:=by intro r hr;simp only[aF,List.mem_map]at hr;obtain⟨c,_,rfl⟩:=hr;rfl
theorem bB {l:List Vn}{i:Nat} (h:i<l.length):rowAt (aF l) (i:Int)=[.int .u64 l[i].n,.int .u64 l[i].b,.int .u64 l[i].p,.int .u64 l[i].i,.int .u64 l[i].s,.int .u64 l[i].z,.int .u64 l[i].m,.str l[i].t,.bool l[i].inl,.bool l[i].fO]:=by simp[rowAt,aF,h,cQ]
theorem BK (l:List Vn) (i:Nat):cut (aF l) 0 (i:Int)=aF (l.take i):=by simp[cut,aF]
@[simp] theorem BJ (l:List Vn):dec cQ (aF l)=some l:=ni se l
theorem aG {rows:List (List PV)}{l:List Vn} (h:dec cQ rows=some l):rows=aF l:=mP h
theorem aO (l:List Vn):bV (aF l):=by intro r hr p hp;simp only[aF,List.mem_map]at hr;obtain⟨c,_,rfl⟩:=hr;simp only[cQ,List.mem_cons,List.not_mem_nil,or_false]at hp;rcases hp with rfl|rfl|rfl|rfl|rfl|rfl|rfl|rfl|rfl|rfl<;>rfl
def cM (v:Vn):Int:=if v.inl=true then 0 else v.b
@[simp] def AB:List AV→Option (Prop×AV)|[.agg [.pv (.int .u64 _),.pv (.int .u64 b),.pv (.int .u64 _),.pv (.int .u64 _),.pv (.int .u64 _),.pv (.int .u64 _),.pv (.int .u64 _),.pv (.str _),.pv (.bool inl),.pv (.bool _)]]=>some (True,.pv (.int .u64 (if inl=true then 0 else b)))|_=>none
theorem zm:aV Tryz.prog 122 AB:=by
 intro ys φ r h hφ;unfold AB at h;split at h;·rename_i n b p i s z m t inl fO;cases h;refine ax aj (by kernel_rfl) fn122 (by simp) ?_;unfold body122;cases inl<;>simp(config := { maxSteps := 3000000 })
 ·cases h
def sM (l:List Vn) (n:Int):Int:=if l.findIdx (fun v=>decide (v.n=n))<l.length then(l.findIdx (fun v=>decide (v.n=n)):Int) else-1
theorem vK {l:List Vn}{n:Int}{i:Nat} (h:i<l.length) (hq:l[i].n=n) (ht:∀v∈l.take i,¬v.n=n):sM l n=i:=by
 have hf:l.findIdx (fun v=>decide (v.n=n))=i:=by
  rw[List.findIdx_eq h];refine⟨by simpa using hq,fun j hj=>?_⟩;have:l[j]∈l.take i:=by rw[List.mem_take_iff_getElem];exact⟨j,by omega,rfl⟩
  simpa using ht _ this
 unfold sM;rw[hf,if_pos h]
theorem sB {l:List Vn}{n:Int} (ht:∀v∈l,¬v.n=n):sM l n=-1:=by
 have hf:l.findIdx (fun v=>decide (v.n=n))=l.length:=by rw[List.findIdx_eq_length];intro v hv;simpa using ht v hv
 unfold sM;rw[hf,if_neg (by omega)]
theorem nZ (l:List Vn) (n:Int):(∃i,∃h:i<l.length,sM l n=i∧l[i].n=n∧∀v∈l.take i,¬v.n=n)∨(sM l n=-1∧∀v∈l,¬v.n=n):=by
 by_cases h:∃v∈l,v.n=n
 ·left;have hlt:l.findIdx (fun v=>decide (v.n=n))<l.length:=by rw[List.findIdx_lt_length];obtain⟨v,hv,hn⟩:=h;exact⟨v,hv,by simpa using hn⟩
  have h1:l[l.findIdx (fun v=>decide (v.n=n))].n=n:=by have:=List.findIdx_getElem (w:=hlt);simpa using this
  have h2:∀v∈l.take (l.findIdx (fun v=>decide (v.n=n))),¬v.n=n:=by intro v hv;rw[List.mem_take_iff_getElem]at hv;obtain⟨j,hj,rfl⟩:=hv;have:=List.not_of_lt_findIdx (show j<l.findIdx (fun v=>decide (v.n=n)) by omega);simpa using this
  exact⟨_,hlt,vK hlt h1 h2,h1,h2⟩
 ·right;have h':∀v∈l,¬v.n=n:=fun v hv hn=>h ⟨v,hv,hn⟩;exact⟨sB h',h'⟩
@[simp] def QW:List AV→Option (Prop×AV)|[.agg [.pv (.int .u64 a),.pv (.int .u64 _),.pv (.int .u64 _),.pv (.int .u64 _),.pv (.int .u64 _),.pv (.int .u64 _),.pv (.int .u64 _),.pv (.str _),.pv (.bool _),.pv (.bool _)],.rp [.int .u64 n]]=>some (True,.pv (.bool (decide (a=n))))|_=>none
theorem UT:aV Tryz.prog 142 QW:=by
 intro ys φ r h hφ;unfold QW at h;split at h;·cases h;refine ax aj (by kernel_rfl) fn142 (by simp) ?_;unfold body142;simp(config := { maxSteps := 3000000 })
 ·cases h
theorem FK:fQ Tryz.prog 142=true:=by kernel_rfl
@[simp] noncomputable def T6:List AV→Option (Prop×AV)|[.pv (.ro a),.bA f [.rp [.int .u64 n]]]=>if f=142 then(dec cQ a).map fun l=>(l.length≤1000000000,.pv (.int .i64 (sM l n))) else none|_=>none
theorem Ro:aV Tryz.prog 124 T6:=by
 intro ys φ r h hφ;unfold T6 at h;split at h
 ·rename_i ra f n;split at h
  ·rename_i hf;subst hf;obtain⟨a,ha,h⟩:=Option.map_eq_some_iff.1 h;cases h;cases aG ha;refine ax (ah UT aj) (by kernel_rfl) fn124 (by simp) ?_;unfold body124;simp(config := { maxSteps := 3000000 });refine au (fun i:Nat=>i≤a.length∧∀v∈a.take i,¬v.n=n) (fun i=>⟨[(0,.pv (.ro (aF a))),(1,.bA 142 [.rp [.int .u64 n]]),(7,.pv (.int .i64 a.length)),(8,.pv (.int .i64 i))],[]⟩) (fun i=>a.length-i) [] 0 (by simp) ?_ ?_;·simp
   ·rintro i ⟨hi,ht⟩;have w2:IntKind.i64.wrap ((i:Int)+1)=(i:Int)+1:=wrap_i64 (by omega);by_cases hlt:i<a.length
    ·have r1:=bB hlt;have hr:¬a[i].n=n→∀v∈a.take (i+1),¬v.n=n:=by
      intro h0 e he;rw[List.take_succ_eq_append_getElem hlt,List.mem_append]at he;rcases he with he|he;·exact ht e he
      ·rw[List.mem_singleton]at he;rw[he];exact h0
     simp(config := { maxSteps := 3000000 }) [w2,hlt,r1,FK];refine⟨fun h=>(vK hlt h ht).symm,fun h=>⟨i+1,⟨by omega,hr h⟩,by omega,by omega⟩⟩
    ·simp(config := { maxSteps := 3000000 }) [hlt];rw[List.take_of_length_le (by omega)]at ht;exact(sB ht).symm
  ·cases h
 ·cases h
@[simp] noncomputable def Zj:List AV→Option (Prop×AV)|[.pv (.ro a),.pv (.int .u64 n)]=>(dec cQ a).map fun l=>(l.length≤1000000000,.pv (.int .i64 (sM l n)))|_=>none
theorem IA:aV Tryz.prog 123 Zj:=by
 intro ys φ r h hφ;unfold Zj at h;split at h;·rename_i ra n;obtain⟨a,ha,h⟩:=Option.map_eq_some_iff.1 h;cases h;cases aG ha;refine ax (ah Ro aj) (by kernel_rfl) fn123 (by simp) ?_;unfold body123;simp(config := { maxSteps := 3000000 }) [hφ]
 ·cases h
def eX (l:List Vn) (i:Nat):Int:=match i with|0=>0|i+1=>((l[i]?).getD v0).n
def im (l:List Vn) (i:Nat):Bool:=decide (eX l i<((l[i]?).getD v0).n)&&(decide (cM ((l[i]?).getD v0)=0)||decide (0≤sM (l.take i) (cM ((l[i]?).getD v0))))
def bD (l:List Vn):Bool:=(List.range l.length).all (im l)
theorem gY (l:List Vn):bD l=true↔∀i,i<l.length→im l i=true:=by unfold bD;rw[List.all_eq_true];exact⟨fun h i hi=>h i (List.mem_range.2 hi),fun h i hi=>h i (List.mem_range.1 hi)⟩
theorem sN {l:List Vn}{i:Nat} (hi:i<l.length) (h:im l i=false):bD l=false:=by cases hr:bD l with|false=>rfl|true=>rw[(gY l).1 hr i hi]at h;cases h
@[simp] noncomputable def ZN:List AV→Option (Prop×AV)|[.pv (.ro a)]=>(dec cQ a).map fun l=>(l.length≤1000000000,.pv (.bool (bD l)))|_=>none
theorem CS:aV Tryz.prog 92 ZN:=by
 intro ys φ r h hφ;unfold ZN at h;split at h
 ·rename_i ra;obtain⟨a,ha,h⟩:=Option.map_eq_some_iff.1 h;cases h;cases aG ha;refine ax (ah zm (ah IA aj)) (by kernel_rfl) fn92 (by simp) ?_;unfold body92;simp(config := { maxSteps := 3000000 });refine au (fun i:Nat=>i≤a.length∧∀j,j<i→im a j=true) (fun i=>⟨[(0,.pv (.ro (aF a))),(2,.pv (.bool false)),(3,.pv (.int .u64 (eX a i))),(6,.pv (.ro (aF a))),(7,.pv (.int .i64 a.length)),(8,.pv (.int .i64 i))],[]⟩) (fun i=>a.length-i) [] 0 (by simp) ?_ ?_;·simp[eX]
  ·rintro i ⟨hi,ht⟩;have w2:IntKind.i64.wrap ((i:Int)+1)=(i:Int)+1:=wrap_i64 (by omega);by_cases hlt:i<a.length
   ·have r1:=bB hlt;have hg:(a[i]?).getD v0=a[i]:=by rw[List.getElem?_eq_getElem hlt];rfl
    have hpn:eX a (i+1)=a[i].n:=by simp only[eX];rw[hg]
    have hok:im a i=(decide (eX a i<a[i].n)&&(decide (cM a[i]=0)||decide (0≤sM (a.take i) (cM a[i])))):=by unfold im;rw[hg]
    have hnext:im a i=true→∀j,j<i+1→im a j=true:=by
     intro h j hj;by_cases hji:j=i;·rw[hji];exact h
     ·exact ht j (by omega)
    have hbad:im a i=false→bD a=false:=sN hlt;have hcut:=BK a i;have htl:(a.take i).length≤1000000000:=by rw[List.length_take];omega
    have hbv:(if a[i].inl=true then 0 else a[i].b)=cM a[i]:=rfl;have hmin:min i a.length≤1000000000:=by omega
    by_cases h1:a[i].n≤eX a i;·have hb:=hbad (by rw[hok,Bool.and_eq_false_iff];left;simp;omega);simp(config := { maxSteps := 3000000 }) [w2,hlt,r1,h1,hb,hbv,hcut,hmin]
    ·have h1':eX a i<a[i].n:=by omega
     by_cases h2:cM a[i]=0;·simp(config := { maxSteps := 3000000 }) [w2,hlt,r1,h1,h2,hbv,hcut,hmin];exact⟨i+1,⟨by omega,hnext (by rw[hok];simp[h1',h2])⟩,⟨hpn.symm,by omega⟩,by omega⟩
     ·simp(config := { maxSteps := 3000000 }) [w2,hlt,r1,h1,h2,hbv,hcut,hmin];refine⟨⟨hi,oh a⟩,fun h=>hbad (by rw[hok];simp[h1',h2];omega),fun h=>⟨i+1,⟨by omega,hnext (by rw[hok];simp[h1',h2,h])⟩,⟨hpn.symm,by omega⟩,by omega⟩⟩
   ·have:i=a.length:=by omega
    subst this;have hr:bD a=true:=(gY a).2 ht;simp(config := { maxSteps := 3000000 }) [hr]
 ·cases h
def bh (l:List Vn):List Vn:=l.filter fun v=>!v.fO
theorem nY (l:List Vn):(bh l).length≤l.length:=List.length_filter_le _ _
theorem yu {l:List Vn}{i:Nat} (h:i<l.length):bh (l.take (i+1))=if l[i].fO=true then bh (l.take i) else bh (l.take i)++[l[i]]:=by rw[List.take_succ_eq_append_getElem h];unfold bh;rw[List.filter_append];cases hh:l[i].fO<;>simp[hh]
@[simp] noncomputable def Hb (e:TypeId):List AV→Option (Prop×AV)|[.pv (.ro a)]=>(dec cQ a).map fun l=>(l.length≤1000000,.fr e (aF (bh l)))|_=>none
theorem vP:aV Tryz.prog 23 (Hb 73):=by
 intro ys φ r h hφ;unfold Hb at h;split at h
 ·rename_i ra;obtain⟨a,ha,h⟩:=Option.map_eq_some_iff.1 h;cases h;cases aG ha;refine ax aj (by kernel_rfl) fn23 (by simp) ?_;unfold body23;simp(config := { maxSteps := 3000000 });refine au (fun i:Nat=>i≤a.length) (fun i=>⟨[(0,.pv (.ro (aF a))),(2,.own 2),(5,.pv (.ro (aF a))),(6,.pv (.int .i64 a.length)),(7,.pv (.int .i64 i))],[(2,.arr 73 (aF (bh (a.take i))))]⟩) (fun i=>a.length-i) [] 0 (by simp) ?_ ?_;·simp[bh]
  ·intro i hi;have w2:IntKind.i64.wrap ((i:Int)+1)=(i:Int)+1:=wrap_i64 (by omega);by_cases hlt:i<a.length
   ·have r1:=bB hlt;have hs:=yu hlt;have hl:=nY (a.take i);have hl1:(a.take i).length≤1000000:=by rw[List.length_take];omega
    cases hh:a[i].fO with|true=>rw[hh,if_pos rfl]at hs;simp(config := { maxSteps := 3000000 }) [w2,hlt,r1,hh];exact⟨i+1,by omega,⟨by omega,by rw[hs]⟩,by omega⟩|false=>rw[hh,if_neg (by simp)]at hs;simp(config := { maxSteps := 3000000 }) [w2,hlt,r1,hh,aI];refine⟨⟨by omega,by omega⟩,i+1,by omega,⟨by omega,?_⟩,by omega⟩;rw[hs,c7];simp[aF,cQ,hh]
   ·simp(config := { maxSteps := 3000000 }) [hlt];rw[List.take_of_length_le (by omega)]
 ·cases h
def jX (l:List Vn) (n:Int):Option Vn:=(bh l).find? fun v=>decide (v.n=n)
theorem FV {l:List Vn}{n:Int}{i:Nat} (h:i<(bh l).length) (hq:(bh l)[i].n=n) (ht:∀v∈(bh l).take i,¬v.n=n):jX l n=some (bh l)[i]:=by
 unfold jX;rw[List.find?_eq_some_iff_getElem];refine⟨by simpa using hq,i,h,rfl,fun j hj=>?_⟩;have:(bh l)[j]∈(bh l).take i:=by rw[List.mem_take_iff_getElem];exact⟨j,by omega,rfl⟩
 simpa using ht _ this
theorem BT {l:List Vn}{n:Int} (ht:∀v∈bh l,¬v.n=n):jX l n=none:=by unfold jX;rw[List.find?_eq_none];intro v hv;simpa using ht v hv
@[simp] noncomputable def ZG:List AV→Option (Prop×AV)|[.pv (.ro a),.pv (.int .u64 n)]=>(dec cQ a).map fun l=>(l.length≤1000000,.aL [.agg (cK ((jX l n).getD v0)),.pv (.bool (jX l n).isSome)])|_=>none
theorem K8:aV Tryz.prog 102 ZG:=by
 intro ys φ r h hφ;unfold ZG at h;split at h
 ·rename_i ra n;obtain⟨a,ha,h⟩:=Option.map_eq_some_iff.1 h;cases h;cases aG ha;have hs9:(bh a).length≤1000000000:=by have:=nY a;omega
  have fl:∀l,bV (aF l):=aO;refine ax (ah vP (ah IA aj)) (by kernel_rfl) fn102 (by simp) ?_;unfold body102;rcases nZ (bh a) n with⟨i,hi,h1,h2,h3⟩|⟨h1,h2⟩;·have r1:=bB hi;have hg:=FV hi h2 h3;simp(config := { maxSteps := 3000000 }) [hφ,hs9,fl,h1,r1,hi,hg,cK]
  ·have hg:=BT h2;simp(config := { maxSteps := 3000000 }) [hφ,hs9,fl,h1,hg,cK,v0]
 ·cases h
def vu (l:List Vn):Option Vn:=(bh l).getLast?
@[simp] noncomputable def Zw:List AV→Option (Prop×AV)|[.pv (.ro a)]=>(dec cQ a).map fun l=>(l.length≤1000000,.aL [.agg (cK ((vu l).getD v0)),.pv (.bool (vu l).isSome)])|_=>none
theorem YY:aV Tryz.prog 135 Zw:=by
 intro ys φ r h hφ;unfold Zw at h;split at h
 ·rename_i ra;obtain⟨a,ha,h⟩:=Option.map_eq_some_iff.1 h;cases h;cases aG ha;have hsl:=nY a;have fl:∀l,bV (aF l):=aO;refine ax (ah vP aj) (by kernel_rfl) fn135 (by simp) ?_;unfold body135;by_cases hn:bh a=[]
  ·have hc:vu a=none:=by unfold vu;rw[hn];rfl
   simp(config := { maxSteps := 3000000 }) [hφ,fl,hn,hc,cK,v0]
  ·have hl:0<(bh a).length:=List.length_pos_iff.2 hn;have hlt:(bh a).length-1<(bh a).length:=by omega
   have r1:=bB hlt;have hcast:(((bh a).length-1:Nat):Int)=((bh a).length:Int)-1:=by omega
   rw[hcast]at r1;have hc:vu a=some (bh a)[(bh a).length-1]:=by unfold vu;rw[List.getLast?_eq_getElem?,List.getElem?_eq_getElem hlt]
   have w1:IntKind.i64.wrap (((bh a).length:Int)-1)=((bh a).length:Int)-1:=wrap_i64 (by omega);have hne:¬((bh a).length:Int)=0:=by omega
   have b1:(0:Int)≤((bh a).length:Int)-1:=by omega
   have b2:((bh a).length:Int)-1<(bh a).length:=by omega
   simp(config := { maxSteps := 3000000 }) [hφ,fl,hn,hc,w1,hne,b1,b2,r1,cK];omega
 ·cases h
theorem J7:aV Tryz.prog 105 AB:=by
 intro ys φ r h hφ;unfold AB at h;split at h;·rename_i n b p i s z m t inl fO;cases h;refine ax aj (by kernel_rfl) fn105 (by simp) ?_;unfold body105;cases inl<;>simp(config := { maxSteps := 3000000 })
 ·cases h
@[simp] noncomputable def G6:List AV→Option (Prop×AV)|[.pv (.ro a),.pv (.int .i64 k),.pv (.int .u64 n)]=>(dec cQ a).map fun l=>(l.length≤1000000000∧0≤k∧k≤l.length,.pv (.int .i64 (sM (l.take k.toNat) n)))|_=>none
theorem JK:aV Tryz.prog 109 G6:=by
 intro ys φ r h hφ;unfold G6 at h;split at h
 ·rename_i ra k n;obtain⟨a,ha,h⟩:=Option.map_eq_some_iff.1 h;cases h;cases aG ha;obtain⟨hl,h0,hk⟩:=hφ;obtain⟨k,rfl⟩:∃q:Nat,k=(q:Int):=⟨k.toNat,by omega⟩;simp only[Int.toNat_natCast];have hk':k≤a.length:=by omega
  refine ax aj (by kernel_rfl) fn109 (by simp) ?_;unfold body109;simp(config := { maxSteps := 3000000 });refine au (fun i:Nat=>i≤k∧∀v∈a.take i,¬v.n=n) (fun i=>⟨[(0,.pv (.ro (aF a))),(1,.pv (.int .i64 k)),(2,.pv (.int .u64 n)),(7,.pv (.int .i64 i))],[]⟩) (fun i=>k-i) [] 0 (by simp) ?_ ?_;·simp
  ·rintro i ⟨hi,ht⟩;have w2:IntKind.i64.wrap ((i:Int)+1)=(i:Int)+1:=wrap_i64 (by omega);by_cases hik:(i:Int)<k
   ·have hlt:i<a.length:=by omega
    have r1:=bB hlt;by_cases hn:a[i].n=n
    ·have hx:sM (a.take k) n=i:=by refine vK (by rw[List.length_take];omega) (by rw[List.getElem_take];exact hn) ?_;rw[List.take_take,Nat.min_eq_left (by omega)];exact ht
     simp(config := { maxSteps := 3000000 }) [w2,hik,hlt,r1,hn,hx]
    ·simp(config := { maxSteps := 3000000 }) [w2,hik,hlt,r1,hn];refine⟨i+1,⟨by omega,fun v hv=>?_⟩,by omega,by omega⟩;rw[List.take_succ_eq_append_getElem hlt,List.mem_append]at hv;rcases hv with hv|hv;·exact ht v hv
     ·rw[List.mem_singleton]at hv;rw[hv];exact hn
   ·have:i=k:=by omega
    subst this;have hx:sM (a.take i) n=-1:=sB ht;simp(config := { maxSteps := 3000000 }) [hx]
 ·cases h
def iq (v:Vn):Prop:=0≤v.n∧v.n≤18446744073709551615∧0≤v.b∧v.b≤18446744073709551615
theorem BE {v:Vn} (h:iq v):0≤cM v:=by
 unfold cM;split;·omega
 ·exact h.2.2.1
@[simp] noncomputable def Ry:List AV→Option (Prop×AV)|[.pv (.ro a)]=>(dec cQ a).map fun l=>(l.length≤1000000000∧∀v∈l,iq v,.pv (.bool (bD l)))|_=>none
theorem Hm:aV Tryz.prog 96 Ry:=by
 intro ys φ r h hφ
 unfold Ry at h
 split at h
 ·rename_i ra
  obtain⟨a,ha,h⟩:=Option.map_eq_some_iff.1 h
  cases h
  cases aG ha
  obtain⟨hl9,hov⟩:=hφ
  refine ax (ah J7 (ah JK aj)) (by kernel_rfl) fn96 (by simp) ?_
  unfold body96
  simp (config := { maxSteps := 3000000 })
  refine au (fun i:Nat=>i≤a.length∧∀j,j < i→im a j=true) (fun i=>⟨[(0,.pv (.ro (aF a))),(2,.pv (.bool false)),(3,.pv (.int .i64 i))],[]⟩) (fun i=>a.length - i) [] 0 (by simp) ?_ ?_
  ·simp
  ·rintro i ⟨hi,ht⟩
   have w2:IntKind.i64.wrap ((i:Int)+1)=(i:Int)+1:=wrap_i64 (by omega)
   by_cases hlt:i < a.length
   ·have r1:=bB hlt
    have hg:(a[i]?).getD v0=a[i]:=by rw [List.getElem?_eq_getElem hlt];rfl
    have ho:=hov a[i] (List.getElem_mem hlt)
    have hb0:=BE ho
    have hok:im a i=(decide (eX a i < a[i].n) && (decide (cM a[i]=0) || decide (0≤sM (a.take i) (cM a[i])))):=by unfold im;rw [hg]
    have hnext:im a i=true→∀j,j < i+1→im a j=true:=by
     intro h j hj
     by_cases hji:j=i
     ·rw [hji];exact h
     ·exact ht j (by omega)
    have hbad:im a i=false→bD a=false:=sN hlt
    have hbv:(if a[i].inl=true then 0 else a[i].b)=cM a[i]:=rfl
    have hn0:=ho.1
    have him:i - 1 < a.length:=by omega
    have rm:rowAt (aF a) ((i:Int) - 1)=[.int .u64 a[i - 1].n,.int .u64 a[i - 1].b,.int .u64 a[i - 1].p,.int .u64 a[i - 1].i,.int .u64 a[i - 1].s,.int .u64 a[i - 1].z,.int .u64 a[i - 1].m,.str a[i - 1].t,.bool a[i - 1].inl,.bool a[i - 1].fO]:=by
     rw [←bB him]
     unfold rowAt
     congr 1
     omega
    have w1:IntKind.i64.wrap ((i:Int) - 1)=(i:Int) - 1:=wrap_i64 (by omega)
    have hop:=(hov a[i - 1] (List.getElem_mem him)).1
    have hpi : 0 < i→eX a i=a[i - 1].n:=by
     intro h0
     obtain⟨q,rfl⟩:∃q,i=q+1:=⟨i - 1,by omega⟩
     have hq:q < a.length:=by omega
     simp only [eX,Nat.add_sub_cancel]
     rw [List.getElem?_eq_getElem hq];rfl
    have hp0:¬ 0 < i→eX a i=0:=by
     intro h0
     have:i=0:=by omega
     subst this;rfl
    have hmin:min i a.length=i:=by omega
    by_cases h1:a[i].n=0
    ·have hb:=hbad (by
      rw [hok,Bool.and_eq_false_iff];left
      simp only [decide_eq_false_iff_not]
      by_cases h0 : 0 < i
      ·rw [hpi h0];omega
      ·rw [hp0 h0];omega)
     simp (config := { maxSteps := 3000000 }) [w1,w2,hlt,r1,rm,h1,hb,hbv]
    ·by_cases h0 : 0 < i
     ·have hpi':=hpi h0
      have hb1 : 1≤(i:Int):=by omega
      have hb2:(i:Int) - 1 < a.length:=by omega
      have hne:¬ i=0:=by omega
      by_cases h3:a[i].n≤a[i - 1].n
      ·have h3':¬ a[i - 1].n < a[i].n:=by omega
       have hb:=hbad (by rw [hok,Bool.and_eq_false_iff];left;simp;omega)
       simp (config := { maxSteps := 3000000 }) [w1,w2,hlt,r1,rm,h1,h0,hb1,hb2,hne,h3,h3',hb,hbv]
      ·have hlp:eX a i < a[i].n:=by omega
       have h3':a[i - 1].n < a[i].n:=by omega
       by_cases h2:cM a[i]=0
       ·simp (config := { maxSteps := 3000000 }) [w1,w2,hlt,r1,rm,h1,h0,hb1,hb2,hne,h3,h3',h2,hbv]
        exact⟨i+1,⟨by omega,hnext (by rw [hok];simp [hlp,h2])⟩,by omega,by omega⟩
       ·have h2' : 0 < cM a[i]:=by omega
        simp (config := { maxSteps := 3000000 }) [w1,w2,hlt,r1,rm,h1,h0,hb1,hb2,hne,h3,h3',h2,h2',hbv]
        exact⟨⟨hl9,hi⟩,fun h=>hbad (by rw [hok];simp [hlp,h2];omega),fun h=>⟨i+1,⟨by omega,hnext (by rw [hok];simp [hlp,h])⟩,by omega,by omega⟩⟩
     ·have hlp:eX a i < a[i].n:=by rw [hp0 h0];omega
      have hz:(i=0)=True:=by simp;omega
      have h0f:(0 < i)=False:=by simp;omega
      by_cases h2:cM a[i]=0
      ·simp (config := { maxSteps := 3000000 }) [w1,w2,hlt,r1,rm,h1,h0f,hz,h2,hbv]
       exact⟨i+1,⟨by omega,hnext (by rw [hok];simp [hlp,h2])⟩,by omega,by omega⟩
      ·have h2' : 0 < cM a[i]:=by omega
       simp (config := { maxSteps := 3000000 }) [w1,w2,hlt,r1,rm,h1,h0f,hz,h2,h2',hbv]
       exact⟨⟨hl9,hi⟩,fun h=>hbad (by rw [hok];simp [hlp,h2];omega),fun h=>⟨i+1,⟨by omega,hnext (by rw [hok];simp [hlp,h])⟩,by omega,by omega⟩⟩
   ·have:i=a.length:=by omega
    subst this
    have hr:bD a=true:=(gY a).2 ht
    simp (config := { maxSteps := 3000000 }) [hr]
 ·cases h
@[simp] def Z3:List AV→Option (Prop×AV)|[.agg [.pv (.int .u64 n),.pv (.int .u64 b),.pv (.int .u64 p),.pv (.int .u64 i),.pv (.int .u64 s),.pv (.int .u64 z),.pv (.int .u64 m),.pv (.str t),.pv (.bool inl),.pv (.bool fO)]]=>some (True,.agg [.pv (.int .u64 n),.pv (.int .u64 b),.pv (.int .u64 p),.pv (.int .u64 i),.pv (.int .u64 s),.pv (.int .u64 z),.pv (.int .u64 m),.pv (.str t),.pv (.bool inl),.pv (.bool fO)])|_=>none
@[simp] noncomputable def ZD:List AV→Option (Prop×AV)|[.pv (.ro a)]=>(dec cQ a).map fun l=>(l.length≤1000000,.fr 92 (aF l))|_=>none
theorem Hl {x y:Vn}:(x.n=y.n∧x.b=y.b∧x.p=y.p∧x.i=y.i∧x.s=y.s∧x.z=y.z∧x.m=y.m∧x.t=y.t∧x.inl=y.inl∧x.fO=y.fO)↔x=y:=by cases x;cases y;simp
theorem DL (x y:Vn):ir [.int .u64 x.n,.int .u64 x.b,.int .u64 x.p,.int .u64 x.i,.int .u64 x.s,.int .u64 x.z,.int .u64 x.m,.str x.t,.bool x.inl,.bool x.fO] [.int .u64 y.n,.int .u64 y.b,.int .u64 y.p,.int .u64 y.i,.int .u64 y.s,.int .u64 y.z,.int .u64 y.m,.str y.t,.bool y.inl,.bool y.fO]=decide (x=y):=by rw[Bool.eq_iff_iff];simp only[ir,lJ,Bool.and_eq_true,decide_eq_true_eq,Bool.and_true];rw[←Hl]
@[simp] noncomputable def Z0:List AV→Option (Prop×AV)|[.pv (.ro a),.pv (.ro b)]=>(dec cQ a).bind fun la=>(dec cQ b).map fun lb=>(la.length≤1000000,.pv (.bool (decide (la=lb))))|_=>none
def YG (l:List Vn):Bool:=decide (l.length≤12)&&l.all fun v=>decide (v.t.length≤100)
@[simp] noncomputable def ZO:List AV→Option (Prop×AV)|[.pv (.ro a)]=>(dec cQ a).map fun l=>(True,.pv (.bool (YG l)))|_=>none
def KJ (n:Int):List PV:=[.int .i64 n]
def Hg (l:List Int):List (List PV):=l.map KJ
@[simp] theorem NK:Hg []=[]:=rfl
def Se (l:List Vn):List Int:=l.map fun v=>IntKind.i64.wrap v.n
@[simp] noncomputable def Yc:List AV→Option (Prop×AV)|[.pv (.ro a)]=>(dec cQ a).map fun l=>(l.length≤1000000,.fr 3 (Hg (Se l)))|_=>none
@[simp] noncomputable def ZX:List AV→Option (Prop×AV)|[.pv (.ro a),.pv (.ro b)]=>(dec KJ a).bind fun la=>(dec KJ b).map fun lb=>(la.length≤1000000000,.pv (.bool (decide (la=lb))))|_=>none
structure Ls where
 e:Int
 p:Int
 i:Int
 u:Int
 h:Bool deriving DecidableEq
def fT (l:Ls):List AV:=[.pv (.int .u64 l.e),.pv (.int .u64 l.p),.pv (.int .u64 l.i),.pv (.int .u64 l.u),.pv (.bool l.h)]
def sk:Int:=18446744073709551615
def ib (l:Ls) (p i e:Int):Bool:=l.h&&decide (l.p=p)&&decide (l.i=i)&&decide (l.e=e)
def uE (l:Ls):Int×Int:=if l.e=sk then(0,131) else(l.e+1,0)
def jk (l:Ls) (p i u:Int):Ls×Int:=if l.e=sk then(l,131) else(⟨l.e+1,p,i,u,true⟩,0)
def uT (l:Ls) (u:Int):Ls:=⟨l.e,l.p,l.i,max l.u u,l.h⟩
def nb (l:Ls):Ls:=⟨l.e,l.p,l.i,l.u,false⟩
@[simp] def Ht:List AV→Option (Prop×AV)|[.agg [.pv (.int .u64 e),.pv (.int .u64 p),.pv (.int .u64 i),.pv (.int .u64 u),.pv (.bool h)],.pv (.int .u64 q),.pv (.int .u64 j),.pv (.int .u64 f)]=>some (True,.pv (.bool (ib ⟨e,p,i,u,h⟩ q j f)))|_=>none
theorem En:aV Tryz.prog 26 Ht:=by
 intro ys φ r h hφ;unfold Ht at h;split at h;·rename_i e p i u h' q j f;cases h;refine ax aj (by kernel_rfl) fn26 (by simp) ?_;unfold body26;cases h' with|false=>simp(config := { maxSteps := 3000000 }) [ib]|true=>
  by_cases h1:p=q
  ·by_cases h2:i=j;·by_cases h3:e=f<;>simp(config := { maxSteps := 3000000 }) [ib,h1,h2,h3]
   ·simp(config := { maxSteps := 3000000 }) [ib,h1,h2]
  ·simp(config := { maxSteps := 3000000 }) [ib,h1]
 ·cases h
@[simp] def Hw:List AV→Option (Prop×AV)|[.agg [.pv (.int .u64 e),.pv (.int .u64 p),.pv (.int .u64 i),.pv (.int .u64 u),.pv (.bool h)]]=>some (cW e,.aL [.pv (.int .u64 (uE ⟨e,p,i,u,h⟩).1),.pv (.int .i64 (uE ⟨e,p,i,u,h⟩).2)])|_=>none
theorem KX:aV Tryz.prog 128 Hw:=by
 intro ys φ r h hφ;unfold Hw at h;split at h
 ·rename_i e p i u h';cases h;obtain⟨o1,o2⟩:=hφ;refine ax aj (by kernel_rfl) fn128 (by simp) ?_;unfold body128;by_cases h1:e=18446744073709551615;·simp(config := { maxSteps := 3000000 }) [uE,sk,h1]
  ·have w1:IntKind.u64.wrap (e+1)=e+1:=wrap_u64 (by omega);simp(config := { maxSteps := 3000000 }) [uE,sk,h1,w1]
 ·cases h
@[simp] def C5:List AV→Option (Prop×AV)|[.agg [.pv (.int .u64 e),.pv (.int .u64 p),.pv (.int .u64 i),.pv (.int .u64 u),.pv (.bool h)],.pv (.int .u64 q),.pv (.int .u64 j),.pv (.int .u64 v)]=>some (cW e,.aL [.agg (fT (jk ⟨e,p,i,u,h⟩ q j v).1),.pv (.int .i64 (jk ⟨e,p,i,u,h⟩ q j v).2)])|_=>none
theorem Fa:aV Tryz.prog 112 C5:=by
 intro ys φ r h hφ;unfold C5 at h;split at h
 ·rename_i e p i u h' q j v;cases h;refine ax (ah KX aj) (by kernel_rfl) fn112 (by simp) ?_;unfold body112;by_cases h1:e=18446744073709551615;·simp(config := { maxSteps := 3000000 }) [uE,jk,sk,fT,h1];exact h1▸hφ
  ·simp(config := { maxSteps := 3000000 }) [uE,jk,sk,fT,h1];exact hφ
 ·cases h
@[simp] def Ej:List AV→Option (Prop×AV)|[.agg [.pv (.int .u64 e),.pv (.int .u64 p),.pv (.int .u64 i),.pv (.int .u64 u),.pv (.bool h)],.pv (.int .u64 v)]=>some (True,.agg (fT (uT ⟨e,p,i,u,h⟩ v)))|_=>none
theorem Fb:aV Tryz.prog 114 Ej:=by
 intro ys φ r h hφ;unfold Ej at h;split at h;·cases h;refine ax aj (by kernel_rfl) fn114 (by simp) ?_;unfold body114;simp(config := { maxSteps := 3000000 }) [uT,fT]
 ·cases h
@[simp] def Tf:List AV→Option (Prop×AV)|[.agg [.pv (.int .u64 e),.pv (.int .u64 p),.pv (.int .u64 i),.pv (.int .u64 u),.pv (.bool h)]]=>some (True,.agg (fT (nb ⟨e,p,i,u,h⟩)))|_=>none
theorem TT:aV Tryz.prog 115 Tf:=by
 intro ys φ r h hφ;unfold Tf at h;split at h;·cases h;refine ax aj (by kernel_rfl) fn115 (by simp) ?_;unfold body115;simp(config := { maxSteps := 3000000 }) [nb,fT]
 ·cases h
noncomputable def xJ {α:Type} (f:α→AV) (y:AV):Option α:=open Classical in if h:∃p,f p=y then some h.choose else none
theorem eN {α:Type}{f:α→AV}{y:AV}{p:α} (h:xJ f y=some p):y=f p:=by
 unfold xJ at h;split at h;·rename_i h';cases h;exact h'.choose_spec.symm
 ·cases h
theorem AY {α:Type}{f:α→AV} (inj:∀p q,f p=f q→p=q) (p:α):xJ f (f p)=some p:=by unfold xJ;have h:∃q,f q=f p:=⟨p,rfl⟩;rw[dif_pos h];exact congrArg some (inj _ _ h.choose_spec)
structure Rc where
 k:Int
 p:Int
 i:Int
 s:Int
 e:Int
 u:Int
 v:Int
 c:Int
 z:Int
 m:Int
 n:List UInt8
 t:List UInt8 deriving DecidableEq
structure Ap where
 l:Ls
 ps:List Pn
 vs:List Vn
 sl:Bool
 r:Rc
 n:Int
 s:Int
def mC (a:Ap):AV:=.bx [.pv (.int .u64 a.l.e),.pv (.int .u64 a.l.p),.pv (.int .u64 a.l.i),.pv (.int .u64 a.l.u),.pv (.bool a.l.h),.fr 94 (aC a.ps),.fr 73 (aF a.vs),.pv (.bool a.sl),.pv (.int .u8 a.r.k),.pv (.int .u64 a.r.p),.pv (.int .u64 a.r.i),.pv (.int .u64 a.r.s),.pv (.int .u64 a.r.e),.pv (.int .u64 a.r.u),.pv (.int .u64 a.r.v),.pv (.int .u64 a.r.c),.pv (.int .u64 a.r.z),.pv (.int .u64 a.r.m),.pv (.str a.r.n),.pv (.str a.r.t),.pv (.int .u64 a.n),.pv (.int .u64 a.s)]
def LR (a:Ap):AV:=.rp [.int .u64 a.l.e,.int .u64 a.l.p,.int .u64 a.l.i,.int .u64 a.l.u,.bool a.l.h,.ro (aC a.ps),.ro (aF a.vs),.bool a.sl,.int .u8 a.r.k,.int .u64 a.r.p,.int .u64 a.r.i,.int .u64 a.r.s,.int .u64 a.r.e,.int .u64 a.r.u,.int .u64 a.r.v,.int .u64 a.r.c,.int .u64 a.r.z,.int .u64 a.r.m,.str a.r.n,.str a.r.t,.int .u64 a.n,.int .u64 a.s]
theorem kz {α β:Type}{f:α→β} (hf:∀a b,f a=f b→a=b):∀{l m:List α},l.map f=m.map f→l=m|[],[],_=>rfl|[],_::_,h=>by cases h|_::_,[],h=>by cases h|a::l,b::m,h=>by simp only[List.map_cons,List.cons.injEq]at h;rw[hf _ _ h.1,kz hf h.2]
theorem FJ:∀p q,mC p=mC q→p=q:=by rintro⟨⟨e,p,i,u,h⟩,ps,vs,sl,⟨k,rp,ri,rs,re,ru,rv,rc,rz,rm,rn,rt⟩,n,s⟩ ⟨⟨e',p',i',u',h'⟩,ps',vs',sl',⟨k',rp',ri',rs',re',ru',rv',rc',rz',rm',rn',rt'⟩,n',s'⟩ hh;simp only[mC,AV.bx.injEq,List.cons.injEq,AV.pv.injEq,PV.int.injEq,PV.bool.injEq,PV.str.injEq,AV.fr.injEq,true_and,and_true]at hh;obtain⟨rfl,rfl,rfl,rfl,rfl,h1,h2,rfl,rfl,rfl,rfl,rfl,rfl,rfl,rfl,rfl,rfl,rfl,rfl,rfl,rfl,rfl⟩:=hh;rw[kz kc h1,kz se h2]
theorem GA:∀p q,LR p=LR q→p=q:=by rintro⟨⟨e,p,i,u,h⟩,ps,vs,sl,⟨k,rp,ri,rs,re,ru,rv,rc,rz,rm,rn,rt⟩,n,s⟩ ⟨⟨e',p',i',u',h'⟩,ps',vs',sl',⟨k',rp',ri',rs',re',ru',rv',rc',rz',rm',rn',rt'⟩,n',s'⟩ hh;simp only[LR,AV.rp.injEq,List.cons.injEq,PV.int.injEq,PV.bool.injEq,PV.str.injEq,PV.ro.injEq,true_and,and_true]at hh;obtain⟨rfl,rfl,rfl,rfl,rfl,h1,h2,rfl,rfl,rfl,rfl,rfl,rfl,rfl,rfl,rfl,rfl,rfl,rfl,rfl,rfl,rfl⟩:=hh;rw[kz kc h1,kz se h2]
@[simp] theorem US (e p i u:Int) (h:Bool) (ps:List Pn) (vs:List Vn) (sl:Bool) (k rp ri rs re ru rv rc rz rm:Int) (rn rt:List UInt8) (n s:Int):xJ mC (.bx [.pv (.int .u64 e),.pv (.int .u64 p),.pv (.int .u64 i),.pv (.int .u64 u),.pv (.bool h),.fr 94 (aC ps),.fr 73 (aF vs),.pv (.bool sl),.pv (.int .u8 k),.pv (.int .u64 rp),.pv (.int .u64 ri),.pv (.int .u64 rs),.pv (.int .u64 re),.pv (.int .u64 ru),.pv (.int .u64 rv),.pv (.int .u64 rc),.pv (.int .u64 rz),.pv (.int .u64 rm),.pv (.str rn),.pv (.str rt),.pv (.int .u64 n),.pv (.int .u64 s)])=some ⟨⟨e,p,i,u,h⟩,ps,vs,sl,⟨k,rp,ri,rs,re,ru,rv,rc,rz,rm,rn,rt⟩,n,s⟩:=AY FJ ⟨⟨e,p,i,u,h⟩,ps,vs,sl,⟨k,rp,ri,rs,re,ru,rv,rc,rz,rm,rn,rt⟩,n,s⟩
@[simp] theorem Tx (e p i u:Int) (h:Bool) (ps:List Pn) (vs:List Vn) (sl:Bool) (k rp ri rs re ru rv rc rz rm:Int) (rn rt:List UInt8) (n s:Int):xJ LR (.rp [.int .u64 e,.int .u64 p,.int .u64 i,.int .u64 u,.bool h,.ro (aC ps),.ro (aF vs),.bool sl,.int .u8 k,.int .u64 rp,.int .u64 ri,.int .u64 rs,.int .u64 re,.int .u64 ru,.int .u64 rv,.int .u64 rc,.int .u64 rz,.int .u64 rm,.str rn,.str rt,.int .u64 n,.int .u64 s])=some ⟨⟨e,p,i,u,h⟩,ps,vs,sl,⟨k,rp,ri,rs,re,ru,rv,rc,rz,rm,rn,rt⟩,n,s⟩:=AY GA ⟨⟨e,p,i,u,h⟩,ps,vs,sl,⟨k,rp,ri,rs,re,ru,rv,rc,rz,rm,rn,rt⟩,n,s⟩
@[simp] noncomputable def ZC:List AV→Option (Prop×AV)|[y]=>(xJ LR y).map fun a=>(True,.pv (.bool (ib a.l a.r.p a.r.i a.r.e)))|_=>none
theorem Lf:aV Tryz.prog 113 ZC:=by
 intro ys φ r h hφ;unfold ZC at h;split at h;·obtain⟨a,ha,h⟩:=Option.map_eq_some_iff.1 h;cases h;cases eN ha;refine ax (ah En aj) (by kernel_rfl) fn113 (by simp) ?_;unfold body113;simp(config := { maxSteps := 3000000 }) [LR]
 ·cases h
def tL (a:Ap):Ap×Bool:=(⟨a.l,a.ps,a.vs,true,a.r,a.n,a.s⟩,!a.sl&&a.l.h&&decide (a.l.p=a.r.p)&&decide (a.l.i=a.r.i))
def oa (a:Ap):Ap×Bool:=(⟨uT a.l a.r.u,a.ps,a.vs,a.sl,a.r,a.n,a.s⟩,!a.sl&&ib a.l a.r.p a.r.i a.r.e)
def iY (a:Ap):Ap×Bool:=(⟨nb a.l,a.ps,a.vs,a.sl,a.r,a.n,a.s⟩,!a.sl&&ib a.l a.r.p a.r.i a.r.e)
def mi (a:Ap):Ap×Bool:=(⟨(jk a.l a.r.p a.r.i a.r.u).1,a.ps,a.vs,a.sl,a.r,a.n,a.s⟩,!a.sl&&decide ((jk a.l a.r.p a.r.i a.r.u).2=0)&&decide ((jk a.l a.r.p a.r.i a.r.u).1.e=a.r.e))
@[simp] noncomputable def yr (C:Ap→Prop) (F:Ap→Ap×Bool):List AV→Option (Prop×AV)|[.aL [y]]=>(xJ mC y).map fun a=>(C a,.bA 0 [.pv (.bool (F a).2),mC (F a).1])|_=>none
theorem Ek:dH Tryz.prog 81 (yr (fun _=>True) oa):=by
 intro ys φ r h hφ;unfold yr at h;split at h;·obtain⟨a,ha,h⟩:=Option.map_eq_some_iff.1 h;cases h;cases eN ha;obtain⟨⟨e,p,i,u,h'⟩,ps,vs,sl,⟨k,rp,ri,rs,re,ru,rv,rc,rz,rm,rn,rt⟩,n,s⟩:=a;refine cq (ah Lf (ah Fb aj)) (by kernel_rfl) fn81 (by simp) rfl (by simp[mC]) ?_;unfold body81;cases sl<;>simp(config := { maxSteps := 3000000 }) [mC,oa,fT,uT]
 ·cases h
theorem yW:dH Tryz.prog 82 (yr (fun _=>True) iY):=by
 intro ys φ r h hφ;unfold yr at h;split at h;·obtain⟨a,ha,h⟩:=Option.map_eq_some_iff.1 h;cases h;cases eN ha;obtain⟨⟨e,p,i,u,h'⟩,ps,vs,sl,⟨k,rp,ri,rs,re,ru,rv,rc,rz,rm,rn,rt⟩,n,s⟩:=a;refine cq (ah Lf (ah TT aj)) (by kernel_rfl) fn82 (by simp) rfl (by simp[mC]) ?_;unfold body82;cases sl<;>simp(config := { maxSteps := 3000000 }) [mC,iY,fT,nb]
 ·cases h
theorem EZ:dH Tryz.prog 86 (yr (fun _=>True) tL):=by
 intro ys φ r h hφ;unfold yr at h;split at h;·obtain⟨a,ha,h⟩:=Option.map_eq_some_iff.1 h;cases h;cases eN ha;obtain⟨⟨e,p,i,u,h'⟩,ps,vs,sl,⟨k,rp,ri,rs,re,ru,rv,rc,rz,rm,rn,rt⟩,n,s⟩:=a;refine cq aj (by kernel_rfl) fn86 (by simp) rfl (by simp[mC]) ?_;unfold body86;cases sl<;>cases h'<;>simp(config := { maxSteps := 3000000 }) [mC,tL,fT]
 ·cases h
theorem C7:dH Tryz.prog 80 (yr (fun a=>cW a.l.e) mi):=by
 intro ys φ r h hφ;unfold yr at h;split at h
 ·obtain⟨a,ha,h⟩:=Option.map_eq_some_iff.1 h;cases h;cases eN ha;obtain⟨⟨e,p,i,u,h'⟩,ps,vs,sl,⟨k,rp,ri,rs,re,ru,rv,rc,rz,rm,rn,rt⟩,n,s⟩:=a;have oe:cW e:=hφ;refine cq (ah Fa aj) (by kernel_rfl) fn80 (by simp) rfl (by simp[mC]) ?_;unfold body80;by_cases h1:e=sk;·cases sl<;>simp(config := { maxSteps := 3000000 }) [mC,mi,fT,jk,h1,oe];all_goals exact h1▸oe
  ·cases sl<;>simp(config := { maxSteps := 3000000 }) [mC,mi,fT,jk,h1,oe]
 ·cases h
@[simp] noncomputable def Rn:List AV→Option (Prop×AV)|[.pv (.ro a)]=>(dec cQ a).map fun l=>(l.length≤1000000,.fr 73 (aF l))|_=>none
theorem DT:aV Tryz.prog 79 Rn:=by
 intro ys φ r h hφ;unfold Rn at h;split at h;·rename_i ra;obtain⟨a,ha,h⟩:=Option.map_eq_some_iff.1 h;cases h;cases aG ha;refine ax aj (by kernel_rfl) fn79 (by simp) ?_;unfold body79;cases a with|nil=>simp(config := { maxSteps := 3000000 }) [sO]|cons x l=>have hx:aF (x::l)=cQ x::aF l:=rfl;simp(config := { maxSteps := 3000000 }) [hx,aI];simp only[List.length_cons]at hφ;exact⟨by omega,by omega,rfl,oh l⟩
 ·cases h
@[simp] def CL:List AV→Option (Prop×AV)|[.pv (.int .u64 n),.pv (.str t)]=>some (True,.agg [.pv (.int .u64 n),.pv (.int .u64 0),.pv (.int .u64 0),.pv (.int .u64 0),.pv (.int .u64 0),.pv (.int .u64 0),.pv (.int .u64 0),.pv (.str t),.pv (.bool true),.pv (.bool false)])|_=>none
theorem GM:aV Tryz.prog 91 CL:=by
 intro ys φ r h hφ;unfold CL at h;split at h;·cases h;refine ax aj (by kernel_rfl) fn91 (by simp) ?_;unfold body91;simp(config := { maxSteps := 3000000 })
 ·cases h
def dA (n:Int) (t:List UInt8):Vn:=⟨n,0,0,0,0,0,0,t,true,false⟩
def Ar (l:List Vn):Int:=((l.getLast?).getD v0).n
theorem mD {l:List Vn} (hr:bD l=true) {i:Nat} (h:i+1<l.length):l[i].n<l[i+1].n:=by have:=(gY l).1 hr (i+1) h;unfold im at this;rw[Bool.and_eq_true]at this;have h1:=this.1;simp only[eX,List.getElem?_eq_getElem h,List.getElem?_eq_getElem (show i<l.length by omega),Option.getD_some,decide_eq_true_eq]at h1;exact h1
theorem mq {l:List Vn} (hr:bD l=true) {i:Nat}:∀(d:Nat) (h:i+d<l.length),l[i].n≤l[i+d].n|0,h=>Int.le_refl _|d+1,h=>by have h1:=mq hr d (show i+d<l.length by omega);have h2:=mD hr (i:=i+d) (by omega);have:l[i+(d+1)].n=l[i+d+1].n:=rfl;omega
def CY (s:List UInt8):List PV:=[.str s]
def Iw (l:List (List UInt8)):List (List PV):=l.map CY
@[simp] theorem Jl:Iw []=[]:=rfl
@[simp] noncomputable def QY:List AV→Option (Prop×AV)|[.agg [.pv (.int .u64 e),.pv (.int .u64 p),.pv (.int .u64 i),.pv (.int .u64 u),.pv (.bool h),.pv (.ro a),.pv (.ro b),.pv (.bool sl)]]=>(dec rowP a).bind fun ps=>(dec cQ b).map fun vs=>(ps.length≤100000∧vs.length≤100000,.agg [.pv (.int .u64 e),.pv (.int .u64 p),.pv (.int .u64 i),.pv (.int .u64 u),.pv (.bool h),.fr 94 (aC ps),.fr 73 (aF vs),.pv (.bool sl)])|_=>none
theorem UO:aV Tryz.prog 32 QY:=by
 intro ys φ r h hφ;unfold QY at h;split at h
 ·obtain⟨ps,hp,h⟩:=Option.bind_eq_some_iff.1 h;obtain⟨vs,hv,h⟩:=Option.map_eq_some_iff.1 h;cases h;cases aJ hp;cases aG hv;obtain⟨h1,h2⟩:=hφ;have h3:ps.length≤100000000:=by omega
  have h4:vs.length≤1000000:=by omega
  refine ax (ah qt (ah DT aj)) (by kernel_rfl) fn32 (by simp) ?_;unfold body32;simp(config := { maxSteps := 3000000 }) [h3,h4]
 ·cases h
def fF (l:List Int):PV:=.ro (l.map fun n=>[.int .u8 n])
def jt:List (PV×PV):=[(.int .u8 1,fF [0,1]),(.int .u8 2,fF [0,1]),(.int .u8 3,fF [0]),(.int .u8 4,fF [0,2,4,5]),(.int .u8 5,fF [2,1]),(.int .u8 6,fF [2]),(.int .u8 7,fF []),(.int .u8 8,fF [3]),(.int .u8 9,fF [6]),(.int .u8 10,fF [6]),(.int .u8 11,fF [6,7])]
def zR:List AV→Option (Prop×AV)|[]=>some (True,.pv (.mv jt))|_=>none
@[simp] theorem N2:zR []=some (True,.pv (.mv jt)):=rfl
theorem FB:aV Tryz.prog 88 zR:=by
 intro ys φ r h hφ;unfold zR at h;split at h;·cases h;refine ax aj (by kernel_rfl) fn88 (by simp) ?_;unfold body88;simp(config := { maxSteps := 3000000 }) [jt,fF]
 ·cases h
def vQ (f:Nat):PV:=.val (.func (.func f) #[] #[])
def jN:List (PV×PV):=[(.int .u8 1,vQ 80),(.int .u8 2,vQ 81),(.int .u8 3,vQ 82),(.int .u8 4,vQ 83),(.int .u8 5,vQ 84),(.int .u8 6,vQ 85),(.int .u8 7,vQ 86),(.int .u8 8,vQ 87)]
def DA:List AV→Option (Prop×AV)|[]=>some (True,.pv (.mv jN))|_=>none
@[simp] theorem Pg:DA []=some (True,.pv (.mv jN)):=rfl
theorem JA:aV Tryz.prog 33 DA:=by
 intro ys φ r h hφ;unfold DA at h;split at h;·cases h;refine ax aj (by kernel_rfl) fn33 (by simp) ?_;unfold body33;simp(config := { maxSteps := 3000000 }) [jN,vQ]
 ·cases h
def Ea (acc:List Int) (x:Int):List Int:=if acc.getLast?=some x then acc else acc++[x]
def jU (l:List Int):List Int:=l.foldl Ea []
theorem Ch (l:List Int) (x:Int):jU (l++[x])=Ea (jU l) x:=by simp[jU,List.foldl_append]
theorem C0 (acc:List Int) (x:Int):(Ea acc x).getLast?=some x:=by
 unfold Ea;split;·assumption
 ·simp
theorem jd {l:List Int}{i:Nat} (h:i<l.length):jU (l.take (i+1))=Ea (jU (l.take i)) l[i]:=by rw[List.take_succ_eq_append_getElem h,Ch]
theorem tP {l:List Int}{i:Nat} (h:i<l.length):(jU (l.take (i+1))).getLast?=some l[i]:=by rw[jd h,C0]
theorem Fz (acc:List Int) (x:Int):(Ea acc x).length≤acc.length+1:=by unfold Ea;split<;>simp
theorem rF (l:List Int):∀i,(jU (l.take i)).length≤i
 |0=>by simp[jU]|i+1=>by
  by_cases h:i<l.length;·rw[jd h];have:=Fz (jU (l.take i)) l[i];have:=rF l i;omega
  ·rw[List.take_of_length_le (by omega)];have:=rF l i;rw[List.take_of_length_le (by omega)]at this;omega
def vy (l:List Int):List Int:=l.mergeSort fun x y=>decide (x≤y)
def ur (l:List Int):List Int:=jU (vy l)
theorem Bs (l:List Int):(ur l).length≤l.length:=by have:=rF (vy l) (vy l).length;rw[List.take_of_length_le (Nat.le_refl _)]at this;unfold ur;simpa[vy]using this
theorem Bo (l:List Int) (i:Nat) (x:Int):(bH l).set i [.int .u64 x]=bH (l.set i x):=by unfold bH;rw[List.map_set];rfl
theorem tq (l:List Int):∀r∈bH l,r.length=1:=by intro r hr;simp only[bH,List.mem_map]at hr;obtain⟨c,_,rfl⟩:=hr;rfl
@[simp] noncomputable def Rt:List AV→Option (Prop×AV)|[.fr e a]=>if e=22 then(dec dm a).map fun l=>(l.length≤1000000,.fr 22 (bH (jU l))) else none|_=>none
theorem RK:sd Tryz.prog 141 Rt:=by
 intro ys φ r h hφ;unfold Rt at h;split at h
 ·rename_i e ra;split at h
  ·rename_i he;subst he;obtain⟨a,ha,h⟩:=Option.map_eq_some_iff.1 h;cases h;cases cO ha;have hl6:a.length≤1000000:=hφ;refine lu aj (by kernel_rfl) fn141 (by simp) (by simp[cH,kl,ij]) (by simp) ?_;unfold body141;by_cases h2:a.length<2
   ·have h2':(a.length:Int)<2:=by omega
    have hc:jU a=a:=by match a,h2 with|[],_=>rfl|[x],_=>rfl
    simp(config := { maxSteps := 3000000 }) [h2,h2',hc]
   ·have h2':¬(a.length:Int)<2:=by omega
    have w1:IntKind.i64.wrap 1=1:=wrap_i64 (by omega);apply af;·simp(config := { maxSteps := 3000000 });exact⟨rfl,rfl⟩
    apply af;·simp(config := { maxSteps := 3000000 }) [h2,h2'];exact⟨rfl,rfl⟩
    rw[cF];simp(config := { maxSteps := 3000000 });refine au (fun i:Nat=>1≤i∧i≤a.length∧jU (a.take i)=a.take i) (fun i=>⟨[(0,.own 998),(3,.pv (.int .i64 i))],[(998,.arr 22 (bH a))]⟩) (fun i=>a.length-i) [] 1 ⟨by omega,by omega,by cases a with|nil=>rfl|cons x a=>rfl⟩ ?_ ?_;·simp[w1]
    ·rintro i ⟨hi1,hi2,hi3⟩;have w2:IntKind.i64.wrap ((i:Int)+1)=(i:Int)+1:=wrap_i64 (by omega);by_cases hlt:i<a.length
     ·obtain⟨p,rfl⟩:∃p,i=p+1:=⟨i-1,by omega⟩;have hpl:p<a.length:=by omega
      have w3:IntKind.i64.wrap (p:Int)=(p:Int):=wrap_i64 (by omega);have r1:rowAt (bH a) ((p:Int)+1)=[.int .u64 a[p+1]]:=by have:=fG hlt;simpa using this
      have r2:=fG hpl;have q1:(0:Int)≤(p:Int)+1:=by omega
      have q2:(p:Int)+1<a.length:=by omega
      have q3:(p:Int)<a.length:=by omega
      have hla:=tP hpl;by_cases hq:a[p+1]=a[p]
      ·apply af;·simp(config := { maxSteps := 3000000 }) [hlt,q2];exact⟨rfl,rfl⟩
       rw[cF];rw[bq];apply af;·simp(config := { maxSteps := 3000000 }) [w3,r1,r2,q1,q2,q3,hq];exact⟨hpl,rfl,rfl⟩
       apply kO rfl;apply af;·simp(config := { maxSteps := 3000000 }) [q1,q2];exact⟨⟨by omega,tq a⟩,rfl,rfl⟩
       rw[cF];apply af;·simp(config := { maxSteps := 3000000 });exact⟨rfl,rfl⟩
       rw[bq];obtain⟨i,hi⟩:∃i,i=p+1:=⟨_,rfl⟩;have hst:jU (a.take (i+1))=a.take i:=by subst hi;rw[jd hlt,Ea,if_pos (by rw[hla,hq]),hi3]
       refine au (fun x:Nat×Nat×List Int=>1≤x.2.1∧x.1<i+x.2.1∧i+x.2.1≤a.length∧x.2.2.length=a.length∧x.2.2.take x.1=jU (a.take (i+x.2.1))∧x.2.2.drop (i+x.2.1-1)=a.drop (i+x.2.1-1)) (fun x=>⟨[(0,.own 998),(3,.pv (.int .i64 x.1)),(4,.sub 998 22 i a.length),(5,.pv (.int .i64 x.2.1))],[(998,.arr 22 (bH x.2.2))]⟩) (fun x=>a.length-x.2.1) [] (i,1,a) ?_ ?_ ?_;·exact⟨Nat.le_refl _,by show i<i+1;omega,by show i+1≤a.length;omega,rfl,hst.symm,rfl⟩
       ·simp;omega
       ·rintro⟨k,j,b⟩ ⟨h1,h3,h4,h5,h6,h7⟩;dsimp only at h1 h3 h4 h5 h6 h7;obtain⟨m,hm⟩:∃m,m=i+j-1:=⟨_,rfl⟩;rw[←hm]at h7;have hm1:i+j=m+1:=by omega
        rw[hm1]at h6;have u2:IntKind.i64.wrap ((j:Int)+1)=(j:Int)+1:=wrap_i64 (by omega);have u3:IntKind.i64.wrap ((k:Int)+1)=(k:Int)+1:=wrap_i64 (by omega);have u4:IntKind.i64.wrap ((j:Int)-1)=(j:Int)-1:=wrap_i64 (by omega);have u5:(i:Int)+((j:Int)-1)=(m:Int):=by omega
        obtain⟨n,hn⟩:∃n,n=m+1:=⟨_,rfl⟩;have u6:(i:Int)+(j:Int)=(n:Int):=by omega
        rw[←hn]at h6;by_cases hjl:(j:Int)<(a.length:Int)-(i:Int)
        ·have hna:n<a.length:=by omega
         have hma:m<a.length:=by omega
         have hnb:n<b.length:=by omega
         have hmb:m<b.length:=by omega
         have hkb:k<b.length:=by omega
         have e1:=List.drop_eq_getElem_cons hmb;have e2:=List.drop_eq_getElem_cons hma;have e3:b[m]=a[m]∧b.drop n=a.drop n:=by rw[h7,e2]at e1;injection e1 with e1 e4;exact⟨e1.symm,by rw[hn];exact e4.symm⟩
         have e4:b[n]=a[n]:=by have e5:=List.drop_eq_getElem_cons hnb;have e6:=List.drop_eq_getElem_cons hna;rw[e3.2,e6]at e5;injection e5 with e5 _;exact e5.symm
         have r3:=fG hnb;have r4:=fG hmb;have r5:=fG hkb;rw[e4]at r3;rw[e3.1]at r4;have hla:(jU (a.take n)).getLast?=some a[m]:=by rw[hn];exact tP hma
         have hstep:=jd hna;have hin:i+(j+1)=n+1:=by omega
         have j1:(0:Int)≤(j:Int)-1:=by omega
         have j2:(j:Int)-1<(a.length:Int)-(i:Int):=by omega
         have j3:(k:Int)<(b.length:Int):=by omega
         by_cases hq2:a[n]=a[m];·rw[Ea,if_pos (by rw[hla,hq2])]at hstep;simp(config := { maxSteps := 3000000 }) [hjl,u2,u3,u4,u5,u6,r3,r4,j1,j2,j3,hq2];exact⟨hnb,by omega,hmb,k,j+1,b,⟨by omega,by omega,by omega,h5,by rw[hin,hstep,h6],by rw[hin];exact e3.2⟩,⟨⟨rfl,by omega⟩,rfl⟩,by omega⟩
         ·rw[Ea,if_neg (by rw[hla];simp;exact fun h=>hq2 h.symm)]at hstep;simp(config := { maxSteps := 3000000 }) [hjl,u2,u3,u4,u5,u6,r3,r4,j1,j2,j3,hq2,Bo,r5];refine⟨hnb,by omega,hmb,hnb,hkb,k+1,j+1,b.set k a[n],⟨by omega,by omega,by omega,by rw[List.length_set];exact h5,?_,?_⟩,⟨⟨by omega,by omega⟩,rfl⟩,by omega⟩;·rw[hin,hstep,←h6,List.take_succ_eq_append_getElem (by simp;omega)];simp[List.take_set_of_le]
          ·rw[hin,Nat.add_sub_cancel,List.drop_set_of_lt (by omega)];exact e3.2
        ·have hma:m+1=a.length:=by omega
         have h6:b.take k=jU a:=by rw[h6,hn,hma,List.take_length]
         have h3r:=tq b;simp(config := { maxSteps := 3000000 }) [hjl];refine⟨⟨by omega,h3r⟩,⟨by omega,?_⟩,?_⟩
         ·rintro x (hx|⟨_,rfl⟩|hx);·exact h3r x (List.mem_of_mem_take hx)
          ·rfl
          ·exact h3r x (List.mem_of_mem_drop hx)
         ·rw[List.take_append_of_le_length (by simp;omega),List.take_take,Nat.min_self,←h6];simp[bH,List.map_take]
      ·have hst:jU (a.take (p+1+1))=a.take (p+1+1):=by rw[jd hlt,Ea,if_neg (by rw[hla];simp;exact fun h=>hq h.symm),hi3,←List.take_succ_eq_append_getElem hlt]
       simp(config := { maxSteps := 3000000 }) [w2,w3,r1,r2,q1,q2,q3,hq];exact⟨hpl,p+2,⟨by omega,by omega,hst⟩,by rw[wrap_i64 (by omega)];omega,by omega⟩
     ·have hia:i=a.length:=by omega
      subst hia;rw[List.take_length]at hi3;simp(config := { maxSteps := 3000000 }) [hi3]
  ·cases h
 ·cases h
@[simp] noncomputable def Zi:List AV→Option (Prop×AV)|[.pv (.ro a),.pv (.ro b)]=>(dec dm a).bind fun la=>(dec dm b).map fun lb=>(la.length≤1000000000,.pv (.bool (decide (la=lb))))|_=>none
@[simp] noncomputable def GrV:List AV→Option (Prop×AV)|[.pv (.ro a)]=>(dec rowP a).map fun l=>(l.length≤1000000,.fr 22 (bH (ur (l.map Pn.v))))|_=>none
@[simp] noncomputable def GSp:List AV→Option (Prop×AV)|[.aL [.agg [.fr e a]]]=>if e=94 then(dec rowP a).map fun l=>(l.length≤1000000,.bA 0 [.aL [],.agg [.fr 94 (aC (l.map fun _=>⟨77,77,0⟩))]]) else none|_=>none
end Go.Proofs.YtlmkcmfmfahcfaaGreat.Ab
namespace Go.Proofs.YtlmkcmfmfahcfaaGreat.Ab
open Go Go.RowKit Go.Sort R
@[simp] noncomputable def U5:List AV→Option (Prop×AV)|[.pv (.int .u64 a)]=>some (True,.pv (.bool false))|_=>none
theorem SL:aV Tryz.prog 165 U5:=by
 intro ys φ r h hφ;unfold U5 at h;split at h;·cases h;refine ax aj (by kernel_rfl) fn165 (by simp) ?_;unfold body165;simp(config := { maxSteps := 3000000 })
 ·cases h
@[simp] noncomputable def Iq:List AV→Option (Prop×AV)|[.pv (.int k a),.pv (.int m b)]=>some (k=.u64∧m=.u64,.pv (.bool (ltInt a b)))|_=>none
theorem mw:aV Tryz.prog 155 Iq:=by
 intro ys φ r h hφ;unfold Iq at h;split at h;·cases h;obtain⟨rfl,rfl⟩:=hφ;refine ax (ah SL aj) (by kernel_rfl) fn155 (by simp) ?_;unfold body155;simp(config := { maxSteps := 3000000 }) [ltInt]
 ·cases h
def rA (d:Array Int):List (List PV):=bH d.toList
@[simp] theorem BD (d:Array Int):(rA d).length=d.size:=by simp[rA]
def gA (d:Array Int) (i:Nat):Int:=d[i]!
theorem bg {d:Array Int}{i:Nat} (h:i<d.size):rowAt (rA d) (i:Int)=[.int .u64 (gA d i)]:=by have:=fG (l:=d.toList) (i:=i) (by simpa using h);unfold rA gA;rw[this,getElem!_pos d i h];rfl
@[simp] theorem XT (d:Array Int) (i:Nat) (x:Int):(rA d).set i [.int .u64 x]=rA (d.setIfInBounds i x):=by unfold rA bH;rw[Array.toList_setIfInBounds,List.map_set];rfl
theorem wj (l:List Int):bH l=rA l.toArray:=rfl
theorem size_swp (d:Array Int) (i j:Nat):(swp d i j).size=d.size:=by simp[swp]
noncomputable def Cj (F:Array Int→Nat→Nat→Array Int):List AV→Option (Prop×AV)|[.aL [.fr e a],.pv (.int .i64 p),.pv (.int .i64 q)]=>if e=22 then(dec dm a).map fun l=>(0≤p∧p≤q∧q≤(l.length:Int)∧l.length≤1000000,.bA 0 [.aL [],.fr 22 (rA (F l.toArray p.toNat q.toNat))]) else none|_=>none
theorem gG (d:Array Int):dec dm (rA d)=some d.toList:=lx _
@[simp] theorem Wt (F:Array Int→Nat→Nat→Array Int) (e:TypeId) (d:Array Int) (p q:Int):Cj F [.aL [.fr e (rA d)],.pv (.int .i64 p),.pv (.int .i64 q)]=if e=22 then some (0≤p∧p≤q∧q≤(d.size:Int)∧d.size≤1000000,.bA 0 [.aL [],.fr 22 (rA (F d p.toNat q.toNat))]) else none:=by show(if e=22 then(dec dm (rA d)).map _ else none)=_;rw[gG];simp
theorem qG {F:Array Int→Nat→Nat→Array Int}{ys:List AV}{φ:Prop}{r:AV} (h:Cj F ys=some (φ,r)):∃(d:Array Int) (p q:Int),ys=[.aL [.fr 22 (rA d)],.pv (.int .i64 p),.pv (.int .i64 q)]∧φ=(0≤p∧p≤q∧q≤(d.size:Int)∧d.size≤1000000)∧r=.bA 0 [.aL [],.fr 22 (rA (F d p.toNat q.toNat))]:=by
 unfold Cj at h;split at h
 ·split at h;·rename_i e;subst e;obtain⟨l,hl,h⟩:=Option.map_eq_some_iff.1 h;cases h;cases cO hl;exact⟨l.toArray,_,_,by rw[wj],by simp,rfl⟩
  ·cases h
 ·cases h
theorem lI (a:Nat):∀(j:Nat) (d:Array Int),(insInner ltInt a j d).size=d.size
 |0,d=>rfl|j+1,d=>by
  unfold insInner;split;·rw[lI a j,size_swp]
  ·rfl
theorem J5:dH Tryz.prog 149 (Cj (insertionSort ltInt)):=by
 intro ys φ r h hφ;obtain⟨d,p,q,rfl,rfl,rfl⟩:=qG h;obtain⟨h1,h2,h3,h4⟩:=hφ;obtain⟨a,rfl⟩:∃a:Nat,p=a:=⟨p.toNat,by omega⟩;obtain⟨b,rfl⟩:∃b:Nat,q=b:=⟨q.toNat,by omega⟩;rw[Int.toNat_natCast,Int.toNat_natCast];refine cq (ah mw aj) (by kernel_rfl) fn149 (by simp) rfl (by simp) ?_;unfold body149;have w0:IntKind.i64.wrap ((a:Int)+1)=(a:Int)+1:=wrap_i64 (by omega);generalize hW:insertionSort ltInt d a b=W;simp(config := { maxSteps := 3000000 }) [w0];refine au (fun x:Nat×Array Int=>(a+1≤x.1∧x.1≤max (a+1) b)∧x.2.size=d.size∧insOuter ltInt a b x.1 x.2=W) (fun x=>⟨[(0,.own 999),(1,.pv (.int .i64 (a:Int))),(2,.pv (.int .i64 (b:Int))),(6,.pv (.int .i64 (x.1:Int)))],[(999,.arr 22 (rA x.2))]⟩) (fun x=>max (a+1) b-x.1) [] (a+1,d) ⟨⟨Nat.le_refl _,Nat.le_max_left _ _⟩,rfl,hW⟩ ?_ ?_;·simp
 ·rintro⟨i,D⟩ ⟨⟨hi1,hi2⟩,hD,hI⟩;have hi1:a+1≤i:=hi1;have hi2:i≤max (a+1) b:=hi2;have hD:D.size=d.size:=hD;have hI:insOuter ltInt a b i D=W:=hI;have w2:IntKind.i64.wrap ((i:Int)+1)=(i:Int)+1:=wrap_i64 (by omega);by_cases hlt:i<b
  ·unfold insOuter at hI;rw[if_pos hlt]at hI;obtain⟨T,hT⟩:∃T,T=insInner ltInt a i D:=⟨_,rfl⟩;rw[←hT]at hI;have hTs:T.size=d.size:=by rw[hT,lI,hD]
   apply af;·simp(config := { maxSteps := 3000000 }) [hlt];exact⟨rfl,rfl⟩
   rw[cF];rw[bq];apply af;·simp(config := { maxSteps := 3000000 });exact⟨rfl,rfl⟩
   rw[bq];refine au (fun y:Nat×Array Int=>(a≤y.1∧y.1≤i)∧y.2.size=d.size∧insInner ltInt a y.1 y.2=T) (fun y=>⟨[(0,.own 999),(1,.pv (.int .i64 (a:Int))),(2,.pv (.int .i64 (b:Int))),(6,.pv (.int .i64 (i:Int))),(7,.pv (.int .i64 (y.1:Int)))],[(999,.arr 22 (rA y.2))]⟩) (fun y=>y.1) [] (i,D) ⟨⟨by omega,Nat.le_refl _⟩,hD,hT.symm⟩ ?_ ?_;·simp
   ·rintro⟨j,E⟩ ⟨⟨hj1,hj2⟩,hE,hJ⟩;have hj1:a≤j:=hj1;have hj2:j≤i:=hj2;have hE:E.size=d.size:=hE;have hJ:insInner ltInt a j E=T:=hJ;have q3:(j:Int)<(E.size:Int):=by omega
    have r1:=bg (d:=E) (i:=j) (by omega);cases j with|zero=>
     have ha0:a=0:=by omega
     subst ha0;have hJ:E=T:=hJ;subst hJ;have w3:IntKind.i64.wrap (-1)=-1:=wrap_i64 (by omega);have r2:rowAt (rA E) (-1)=[.int .u64 (gA E 0)]:=bg (d:=E) (i:=0) (by omega);have r1:rowAt (rA E) 0=[.int .u64 (gA E 0)]:=r1;simp(config := { maxSteps := 3000000 }) [w3,r1,r2,w2];exact⟨i+1,E,⟨by omega,hE,hI⟩,⟨by omega,rfl⟩,by omega⟩|succ k=>
     have w3:IntKind.i64.wrap ((k:Int)+1-1)=(k:Int):=by rw[wrap_i64 (by omega)];omega
     have w4:IntKind.i64.wrap (k:Int)=(k:Int):=wrap_i64 (by omega);have r1:rowAt (rA E) ((k:Int)+1)=[.int .u64 (gA E (k+1))]:=by simpa using r1
     have r2:=bg (d:=E) (i:=k) (by omega);have q2:(0:Int)≤(k:Int)+1:=by omega
     have q3:(k:Int)+1<(E.size:Int):=by omega
     have q4:(k:Int)<(E.size:Int):=by omega
     unfold insInner at hJ;by_cases hja:a<k+1
     ·have q1:(a:Int)<(k:Int)+1:=by omega
      cases hl:ltInt E[k+1]! E[k]! with|true=>have hl2:ltInt (gA E (k+1)) (gA E k)=true:=hl;rw[hl,if_pos (by simp;omega)]at hJ;have r3:=bg (d:=E.setIfInBounds (k+1) (gA E k)) (i:=k) (by rw[Array.size_setIfInBounds];omega);simp(config := { maxSteps := 3000000 }) [w3,w4,r1,r2,r3,q1,q2,q3,q4,hl2];exact⟨by omega,k,swp E (k+1) k,⟨by omega,by rw[size_swp,hE],hJ⟩,⟨rfl,rfl⟩,by omega⟩|false=>have hl2:ltInt (gA E (k+1)) (gA E k)=false:=hl;rw[hl,if_neg (by simp)]at hJ;subst hJ;simp(config := { maxSteps := 3000000 }) [w3,w4,r1,r2,q1,q2,q3,q4,hl2,w2];exact⟨by omega,i+1,E,⟨by omega,hE,hI⟩,⟨by omega,rfl⟩,by omega⟩
     ·have q1:¬(a:Int)<(k:Int)+1:=by omega
      rw[if_neg (by simp;omega)]at hJ;subst hJ;simp(config := { maxSteps := 3000000 }) [w3,w4,r1,r2,q1,q2,q3,q4,w2];exact⟨i+1,E,⟨by omega,hE,hI⟩,⟨by omega,rfl⟩,by omega⟩
  ·unfold insOuter at hI;rw[if_neg hlt]at hI;subst hI;simp(config := { maxSteps := 3000000 }) [hlt]
theorem j5 {d:Array Int}{i:Nat} (h:d.size≤i):rowAt (rA d) (i:Int)=[]:=by unfold rowAt;rw[Int.toNat_natCast,List.getD_eq_getElem?_getD,List.getElem?_eq_none (by rw[BD];exact h)];rfl
theorem rR (f:Fr):f.st=⟨look f.vs,ab f.os⟩:=rfl
noncomputable def KP:List AV→Option (Prop×AV)|[.aL [.fr e a],.pv (.int .i64 lo),.pv (.int .i64 hi),.pv (.int .i64 fi)]=>if e=22 then(dec dm a).map fun l=>((0≤lo∧lo≤1000000)∧0≤hi∧0≤fi∧fi+hi≤(l.length:Int)∧l.length≤1000000,.bA 0 [.aL [],.fr 22 (rA (siftDown ltInt hi.toNat fi.toNat lo.toNat l.toArray))]) else none|_=>none
@[simp] theorem Vr (e:TypeId) (d:Array Int) (lo hi fi:Int):KP [.aL [.fr e (rA d)],.pv (.int .i64 lo),.pv (.int .i64 hi),.pv (.int .i64 fi)]=if e=22 then some ((0≤lo∧lo≤1000000)∧0≤hi∧0≤fi∧fi+hi≤(d.size:Int)∧d.size≤1000000,.bA 0 [.aL [],.fr 22 (rA (siftDown ltInt hi.toNat fi.toNat lo.toNat d))]) else none:=by show(if e=22 then(dec dm (rA d)).map _ else none)=_;rw[gG];simp
theorem Ts:dH Tryz.prog 160 KP:=by
 intro ys φ r h hφ;unfold KP at h;split at h
 ·rename_i e ra lo hi fi;split at h
  ·rename_i he;subst he;obtain⟨l,hl,h⟩:=Option.map_eq_some_iff.1 h;cases h;cases cO hl;obtain⟨⟨h1,h2⟩,h3,h4,h5,h6⟩:=hφ;obtain⟨lo,rfl⟩:∃a:Nat,lo=a:=⟨lo.toNat,by omega⟩;obtain⟨hi,rfl⟩:∃a:Nat,hi=a:=⟨hi.toNat,by omega⟩;obtain⟨fi,rfl⟩:∃a:Nat,fi=a:=⟨fi.toNat,by omega⟩;rw[Int.toNat_natCast,Int.toNat_natCast,Int.toNat_natCast,wj];obtain⟨d,hd⟩:∃d,d=l.toArray:=⟨_,rfl⟩;have hds:d.size=l.length:=by rw[hd];simp
   rw[←hd];generalize hW:siftDown ltInt hi fi lo d=W;refine cq (ah mw aj) (by kernel_rfl) fn160 (by simp) rfl (by simp) ?_;unfold body160;simp(config := { maxSteps := 3000000 });refine au (fun x:Nat×Array Int=>x.1≤1000000∧x.2.size=l.length∧siftDown ltInt hi fi x.1 x.2=W) (fun x=>⟨[(0,.own 999),(1,.pv (.int .i64 (lo:Int))),(2,.pv (.int .i64 (hi:Int))),(3,.pv (.int .i64 (fi:Int))),(8,.pv (.int .i64 (x.1:Int)))],[(999,.arr 22 (rA x.2))]⟩) (fun x=>hi-x.1) [] (lo,d) ⟨by show lo≤_;omega,hds,hW⟩ ?_ ?_;·simp
   ·rintro⟨i,D⟩ ⟨hi1,hD,hI⟩;have hi1:i≤1000000:=hi1;have hD:D.size=l.length:=hD;have hI:siftDown ltInt hi fi i D=W:=hI;have w1:IntKind.i64.wrap (2*(i:Int))=2*(i:Int):=wrap_i64 (by omega);have w2:IntKind.i64.wrap (2*(i:Int)+1)=2*(i:Int)+1:=wrap_i64 (by omega);have w3:IntKind.i64.wrap (2*(i:Int)+1+1)=2*(i:Int)+2:=by rw[wrap_i64 (by omega)];omega
    obtain⟨r0,e0⟩:∃r0,r0=fi+i:=⟨_,rfl⟩;obtain⟨c1,e1⟩:∃c1,c1=fi+(2*i+1):=⟨_,rfl⟩;obtain⟨c2,e2⟩:∃c2,c2=fi+(2*i+2):=⟨_,rfl⟩;have w4:IntKind.i64.wrap ((fi:Int)+(2*(i:Int)+1))=(c1:Int):=by rw[wrap_i64 (by omega)];omega
    have w5:IntKind.i64.wrap ((c1:Int)+1)=(c2:Int):=by rw[wrap_i64 (by omega)];omega
    have w6:IntKind.i64.wrap ((fi:Int)+(i:Int))=(r0:Int):=by rw[wrap_i64 (by omega)];omega
    have w7:IntKind.i64.wrap ((fi:Int)+(2*(i:Int)+2))=(c2:Int):=by rw[wrap_i64 (by omega)];omega
    unfold siftDown at hI;rw[←e0,←e1,←e2,show c1+1=c2 by omega]at hI;by_cases hc:2*i+1≥hi
    ·rw[dif_pos hc]at hI;subst hI;have hc2:(hi:Int)≤2*(i:Int)+1:=by omega
     simp(config := { maxSteps := 3000000 }) [w1,w2,hc2]
    ·rw[dif_neg hc]at hI;have hc2:¬(hi:Int)≤2*(i:Int)+1:=by omega
     have q1:r0<D.size:=by omega
     have r1:=bg q1;have q2:c1<D.size:=by omega
     have r2:=bg q2;rw[rR,bq];apply af;·simp(config := { maxSteps := 3000000 }) [w1,w2];exact⟨rfl,rfl⟩
     apply af;·simp(config := { maxSteps := 3000000 }) [hc2];exact⟨rfl,rfl⟩
     by_cases hg1:2*i+2<hi
     ·have g1:2*(i:Int)+2<(hi:Int):=by omega
      have q4:c2<D.size:=by omega
      have r4:=bg q4;cases hg2:ltInt D[c1]! D[c2]! with
      |true=>
       have hg3:ltInt (gA D c1) (gA D c2)=true:=hg2;rw[if_pos (by rw[hg2];simp;omega),dif_pos hg1]at hI;apply af;·simp(config := { maxSteps := 3000000 }) [w3,w4,w5,g1,q2,q4,r2,r4,hg3];exact⟨rfl,rfl⟩
       cases hb:ltInt D[r0]! D[c2]! with|false=>have hb2:ltInt (gA D r0) (gA D c2)=false:=hb;rw[hb,if_pos (by simp)]at hI;subst hI;simp(config := { maxSteps := 3000000 }) [w6,w7,q1,q4,r1,r4,hb2]|true=>
        have hb2:ltInt (gA D r0) (gA D c2)=true:=hb;rw[hb,if_neg (by simp)]at hI;have z1:=bg (d:=D.setIfInBounds r0 (gA D c2)) (i:=c2) (by rw[Array.size_setIfInBounds];omega);apply af;·simp(config := { maxSteps := 3000000 }) [w6,w7,q1,q4,r1,r4,hb2];exact⟨rfl,rfl⟩
        simp(config := { maxSteps := 3000000 }) [w6,w7,q1,q4,r1,r4,z1];exact⟨2*i+2,swp D r0 c2,⟨by omega,by rw[size_swp,hD],hI⟩,⟨by omega,rfl⟩,by omega⟩
      |false=>
       have hg3:ltInt (gA D c1) (gA D c2)=false:=hg2;rw[if_neg (by rw[hg2];simp)]at hI;apply af;·simp(config := { maxSteps := 3000000 }) [w3,w4,w5,g1,q2,q4,r2,r4,hg3];exact⟨rfl,rfl⟩
       cases hb:ltInt D[r0]! D[c1]! with|false=>have hb2:ltInt (gA D r0) (gA D c1)=false:=hb;rw[hb,if_pos (by simp)]at hI;subst hI;simp(config := { maxSteps := 3000000 }) [w6,w4,q1,q2,r1,r2,hb2]|true=>
        have hb2:ltInt (gA D r0) (gA D c1)=true:=hb;rw[hb,if_neg (by simp)]at hI;have z1:=bg (d:=D.setIfInBounds r0 (gA D c1)) (i:=c1) (by rw[Array.size_setIfInBounds];omega);apply af;·simp(config := { maxSteps := 3000000 }) [w6,w4,q1,q2,r1,r2,hb2];exact⟨rfl,rfl⟩
        simp(config := { maxSteps := 3000000 }) [w6,w4,q1,q2,r1,r2,z1];exact⟨2*i+1,swp D r0 c1,⟨by omega,by rw[size_swp,hD],hI⟩,⟨by omega,rfl⟩,by omega⟩
     ·have g1:¬2*(i:Int)+2<(hi:Int):=by omega
      rw[if_neg (by simp;omega)]at hI;rcases Nat.lt_or_ge c2 D.size with q4|q4
      ·have r4:=bg q4;apply af;·simp(config := { maxSteps := 3000000 }) [w3,w4,w5,g1,q2,q4,r2,r4];exact⟨rfl,rfl⟩
       cases hb:ltInt D[r0]! D[c1]! with|false=>have hb2:ltInt (gA D r0) (gA D c1)=false:=hb;rw[hb,if_pos (by simp)]at hI;subst hI;simp(config := { maxSteps := 3000000 }) [w6,w4,q1,q2,r1,r2,hb2]|true=>
        have hb2:ltInt (gA D r0) (gA D c1)=true:=hb;rw[hb,if_neg (by simp)]at hI;have z1:=bg (d:=D.setIfInBounds r0 (gA D c1)) (i:=c1) (by rw[Array.size_setIfInBounds];omega);apply af;·simp(config := { maxSteps := 3000000 }) [w6,w4,q1,q2,r1,r2,hb2];exact⟨rfl,rfl⟩
        simp(config := { maxSteps := 3000000 }) [w6,w4,q1,q2,r1,r2,z1];exact⟨2*i+1,swp D r0 c1,⟨by omega,by rw[size_swp,hD],hI⟩,⟨by omega,rfl⟩,by omega⟩
      ·have r4:=j5 q4;apply af;·simp(config := { maxSteps := 3000000 }) [w3,w4,w5,g1,q2,r2,r4];exact⟨rfl,rfl⟩
       cases hb:ltInt D[r0]! D[c1]! with|false=>have hb2:ltInt (gA D r0) (gA D c1)=false:=hb;rw[hb,if_pos (by simp)]at hI;subst hI;simp(config := { maxSteps := 3000000 }) [w6,w4,q1,q2,r1,r2,hb2]|true=>
        have hb2:ltInt (gA D r0) (gA D c1)=true:=hb;rw[hb,if_neg (by simp)]at hI;have z1:=bg (d:=D.setIfInBounds r0 (gA D c1)) (i:=c1) (by rw[Array.size_setIfInBounds];omega);apply af;·simp(config := { maxSteps := 3000000 }) [w6,w4,q1,q2,r1,r2,hb2];exact⟨rfl,rfl⟩
        simp(config := { maxSteps := 3000000 }) [w6,w4,q1,q2,r1,r2,z1];exact⟨2*i+1,swp D r0 c1,⟨by omega,by rw[size_swp,hD],hI⟩,⟨by omega,rfl⟩,by omega⟩
  ·cases h
 ·cases h
theorem rB (hi fi:Nat):∀(n root:Nat) (d:Array Int),hi-root≤n→(siftDown ltInt hi fi root d).size=d.size:=by intro n;induction n with|zero=>intro root d h;unfold siftDown;rw[dif_pos (by omega)]|succ n ih=>
 intro root d h;unfold siftDown;split;·rfl
 ·split
  ·split;·rfl
   ·split;·rw[ih _ _ (by omega),size_swp]
    ·rfl
  ·split;·rfl
   ·rw[ih _ _ (by omega),size_swp]
theorem qK (hi fi:Nat):∀(k:Nat) (d:Array Int),(heapBuild ltInt hi fi k d).size=d.size|0,d=>rfl|k+1,d=>by unfold heapBuild;rw[qK hi fi k,rB hi fi hi k d (by omega)]
theorem LA:dH Tryz.prog 150 (Cj (heapSort ltInt)):=by
 intro ys φ r h hφ;obtain⟨d,p,q,rfl,rfl,rfl⟩:=qG h;obtain⟨h1,h2,h3,h4⟩:=hφ;obtain⟨a,rfl⟩:∃a:Nat,p=a:=⟨p.toNat,by omega⟩;obtain⟨b,rfl⟩:∃b:Nat,q=b:=⟨q.toNat,by omega⟩;rw[Int.toNat_natCast,Int.toNat_natCast];refine cq (bp (ks:=[2,0,0,0]) Ts (by kernel_rfl) aj) (by kernel_rfl) fn150 (by simp) rfl (by simp) ?_;unfold body150;obtain⟨m,hm⟩:∃m,m=b-a:=⟨_,rfl⟩;have w0:IntKind.i64.wrap ((b:Int)-(a:Int))=(m:Int):=by rw[wrap_i64 (by omega)];omega
 have w1:IntKind.i64.wrap ((m:Int)-1)=(m:Int)-1:=wrap_i64 (by omega);obtain⟨k0,hk0⟩:∃k0,k0=(m-1)/2+1:=⟨_,rfl⟩;have w2:((m:Int)-1).tdiv 2=(k0:Int)-1:=by
  rcases Nat.eq_zero_or_pos m with h0|h0
  ·have:k0=1:=by omega
   rw[h0,this];decide
  ·rw[Int.tdiv_eq_ediv_of_nonneg (by omega)];omega
 have w3:IntKind.i64.wrap ((k0:Int)-1)=(k0:Int)-1:=wrap_i64 (by omega);unfold heapSort;rw[←hm,←hk0];generalize hW:heapPop ltInt a m (heapBuild ltInt m a k0 d)=W;generalize hB:heapBuild ltInt m a k0 d=B at hW;apply af;·simp(config := { maxSteps := 3000000 });exact⟨rfl,rfl⟩
 apply af;·simp(config := { maxSteps := 3000000 });exact⟨rfl,rfl⟩
 apply af;·simp(config := { maxSteps := 3000000 }) [w0];exact⟨rfl,rfl⟩
 apply af
 ·simp(config := { maxSteps := 3000000 }) [w1,w2,w3];refine au (fun x:Nat×Array Int=>x.1≤k0∧x.2.size=d.size∧heapBuild ltInt m a x.1 x.2=B) (fun x=>⟨[(0,.own 999),(6,.pv (.int .i64 (a:Int))),(7,.pv (.int .i64 0)),(8,.pv (.int .i64 (m:Int))),(9,.pv (.int .i64 ((x.1:Int)-1)))],[(999,.arr 22 (rA x.2))]⟩) (fun x=>x.1) [] (k0,d) ⟨Nat.le_refl _,rfl,hB⟩ ?_ ?_;·simp
  ·rintro⟨k,D⟩ ⟨hk,hD,hI⟩;have hk:k≤k0:=hk;have hD:D.size=d.size:=hD;have hI:heapBuild ltInt m a k D=B:=hI;cases k with|zero=>have hI:D=B:=hI;rw[hI];simp(config := { maxSteps := 3000000 });exact⟨rfl,rfl⟩|succ k=>
    have hI:heapBuild ltInt m a k (siftDown ltInt m a k D)=B:=hI;have hs:=rB m a m k D (by omega);have v1:(k:Int)+1-1=(k:Int):=by omega
    have v2:IntKind.i64.wrap ((k:Int)-1)=(k:Int)-1:=wrap_i64 (by omega);have v3:(k:Int)≤1000000:=by omega
    have v4:(a:Int)+(m:Int)≤(D.size:Int):=by omega
    have v5:D.size≤1000000:=by omega
    simp(config := { maxSteps := 3000000 }) [v1,v2,v3,v4,v5];exact⟨k,siftDown ltInt m a k D,⟨by omega,by rw[hs,hD],hI⟩,⟨rfl,rfl⟩,by omega⟩
 have hBs:B.size=d.size:=by rw[←hB,qK]
 apply af;·simp(config := { maxSteps := 3000000 }) [w1];exact⟨rfl,rfl⟩
 rw[bq];refine au (fun x:Nat×Array Int=>x.1≤m∧x.2.size=d.size∧heapPop ltInt a x.1 x.2=W) (fun x=>⟨[(0,.own 999),(6,.pv (.int .i64 (a:Int))),(7,.pv (.int .i64 0)),(10,.pv (.int .i64 ((x.1:Int)-1)))],[(999,.arr 22 (rA x.2))]⟩) (fun x=>x.1) [] (m,B) ⟨Nat.le_refl _,hBs,hW⟩ ?_ ?_;·simp
 ·rintro⟨k,D⟩ ⟨hk,hD,hI⟩;have hk:k≤m:=hk;have hD:D.size=d.size:=hD;have hI:heapPop ltInt a k D=W:=hI;cases k with|zero=>have hI:D=W:=hI;rw[hI];simp(config := { maxSteps := 3000000 })|succ k=>
   have hI:heapPop ltInt a k (siftDown ltInt k a 0 (swp D a (a+k)))=W:=hI;have hs:=rB k a k 0 (swp D a (a+k)) (by omega);have v1:(k:Int)+1-1=(k:Int):=by omega
   have v2:IntKind.i64.wrap ((k:Int)-1)=(k:Int)-1:=wrap_i64 (by omega);obtain⟨c,hc⟩:∃c,c=a+k:=⟨_,rfl⟩;rw[←hc]at hI hs;have v3:IntKind.i64.wrap ((a:Int)+(k:Int))=(c:Int):=by rw[wrap_i64 (by omega)];omega
   have q1:a<D.size:=by omega
   have q2:c<D.size:=by omega
   have r1:=bg q1;have r2:=bg q2;have r3:=bg (d:=D.setIfInBounds a (gA D c)) (i:=c) (by rw[Array.size_setIfInBounds];omega);have v4:(a:Int)+(k:Int)≤(D.size:Int):=by omega
   have v5:D.size≤1000000:=by omega
   apply af;·simp(config := { maxSteps := 3000000 }) [v1];exact⟨rfl,rfl⟩
   rw[cF];rw[bq];apply af;·simp(config := { maxSteps := 3000000 }) [v1,v3,q1,q2,r1,r2,r3];exact⟨rfl,rfl⟩
   rw[show(D.setIfInBounds a (gA D c)).setIfInBounds c (gA D a)=swp D a c from rfl];have v6:(swp D a c).size=D.size:=size_swp _ _ _;simp(config := { maxSteps := 3000000 }) [v1,v2,v4,v5,v6];exact⟨k,siftDown ltInt k a 0 (swp D a c),⟨by omega,by rw[hs,size_swp,hD],hI⟩,⟨rfl,rfl⟩,by omega⟩
theorem SC:dH Tryz.prog 153 (Cj reverseRange):=by
 intro ys φ r h hφ;obtain⟨d,p,q,rfl,rfl,rfl⟩:=qG h;obtain⟨h1,h2,h3,h4⟩:=hφ;obtain⟨a,rfl⟩:∃a:Nat,p=a:=⟨p.toNat,by omega⟩;obtain⟨b,rfl⟩:∃b:Nat,q=b:=⟨q.toNat,by omega⟩;rw[Int.toNat_natCast,Int.toNat_natCast];refine cq aj (by kernel_rfl) fn153 (by simp) rfl (by simp) ?_;unfold body153;have w0:IntKind.i64.wrap ((b:Int)-1)=(b:Int)-1:=wrap_i64 (by omega);unfold reverseRange;generalize hW:reverseLoop a (b-1) d=W;simp(config := { maxSteps := 3000000 }) [w0];refine au (fun x:(Nat×Nat)×Array Int=>(a≤x.1.1∧x.1.1≤b)∧x.1.2≤b∧x.2.size=d.size∧reverseLoop x.1.1 (x.1.2-1) x.2=W) (fun x=>⟨[(0,.own 999),(6,.pv (.int .i64 (x.1.1:Int))),(7,.pv (.int .i64 ((x.1.2:Int)-1)))],[(999,.arr 22 (rA x.2))]⟩) (fun x=>x.1.2) [] ((a,b),d) ⟨⟨Nat.le_refl _,by show a≤b;omega⟩,Nat.le_refl _,rfl,hW⟩ ?_ ?_;·simp
 ·rintro⟨⟨i,j⟩,D⟩ ⟨⟨hi1,hi2⟩,hj,hD,hI⟩;have hi1:a≤i:=hi1;have hi2:i≤b:=hi2;have hj:j≤b:=hj;have hD:D.size=d.size:=hD;have hI:reverseLoop i (j-1) D=W:=hI;unfold reverseLoop at hI;by_cases hlt:i<j-1
  ·rw[if_pos hlt]at hI;obtain⟨c,hc⟩:∃c,c=j-1:=⟨_,rfl⟩;rw[←hc]at hI;have e1:(j:Int)-1=(c:Int):=by omega
   have g1:i<c:=by omega
   have w1:IntKind.i64.wrap ((i:Int)+1)=(i:Int)+1:=wrap_i64 (by omega);have w2:IntKind.i64.wrap ((c:Int)-1)=(c:Int)-1:=wrap_i64 (by omega);have q1:i<D.size:=by omega
   have q2:c<D.size:=by omega
   have r1:=bg q1;have r2:=bg q2;have r3:=bg (d:=D.setIfInBounds i (gA D c)) (i:=c) (by rw[Array.size_setIfInBounds];omega);simp(config := { maxSteps := 3000000 }) [e1,g1,w1,w2,q1,q2,r1,r2,r3];exact⟨i+1,c,swp D i c,⟨by omega,by omega,by rw[size_swp,hD],hI⟩,⟨⟨by omega,rfl⟩,rfl⟩,by omega⟩
  ·rw[if_neg hlt]at hI;subst hI;have g1:¬(i:Int)<(j:Int)-1:=by omega
   simp(config := { maxSteps := 3000000 }) [g1]
theorem kR {rows:List (List PV)}{l:List Int} (h:dec dm rows=some l):∃d:Array Int,rows=rA d∧l=d.toList:=⟨l.toArray,by rw[cO h,wj],by simp⟩
noncomputable def XL:List AV→Option (Prop×AV)|[.pv (.ro a),.pv (.int .i64 p),.pv (.int .i64 q),.aL [.bx [.pv (.int .i64 s)]]]=>(dec dm a).map fun l=>((0≤p∧p<(l.length:Int))∧(0≤q∧q<(l.length:Int))∧(0≤s∧s≤1000)∧l.length≤1000000,.bA 0 [.aL [.pv (.int .i64 ((order2 ltInt l.toArray p.toNat q.toNat s.toNat).1:Int)),.pv (.int .i64 ((order2 ltInt l.toArray p.toNat q.toNat s.toNat).2.1:Int))],.bx [.pv (.int .i64 ((order2 ltInt l.toArray p.toNat q.toNat s.toNat).2.2:Int))]])|_=>none
@[simp] theorem XM (d:Array Int) (p q s:Int):XL [.pv (.ro (rA d)),.pv (.int .i64 p),.pv (.int .i64 q),.aL [.bx [.pv (.int .i64 s)]]]=some ((0≤p∧p<(d.size:Int))∧(0≤q∧q<(d.size:Int))∧(0≤s∧s≤1000)∧d.size≤1000000,.bA 0 [.aL [.pv (.int .i64 ((order2 ltInt d p.toNat q.toNat s.toNat).1:Int)),.pv (.int .i64 ((order2 ltInt d p.toNat q.toNat s.toNat).2.1:Int))],.bx [.pv (.int .i64 ((order2 ltInt d p.toNat q.toNat s.toNat).2.2:Int))]]):=by show(dec dm (rA d)).map _=_;rw[gG];simp
theorem UX:dH Tryz.prog 166 XL:=by
 intro ys φ r h hφ;unfold XL at h;split at h
 ·rename_i ra p q s;obtain⟨l,hl,h⟩:=Option.map_eq_some_iff.1 h;cases h;obtain⟨d,rfl,rfl⟩:=kR hl;obtain⟨⟨h1,h2⟩,⟨h3,h4⟩,⟨h5,h6⟩,h7⟩:=hφ;obtain⟨a,rfl⟩:∃a:Nat,p=a:=⟨p.toNat,by omega⟩;obtain⟨b,rfl⟩:∃a:Nat,q=a:=⟨q.toNat,by omega⟩;obtain⟨m,rfl⟩:∃a:Nat,s=a:=⟨s.toNat,by omega⟩;rw[Array.length_toList]at h2 h4 h7;rw[Int.toNat_natCast,Int.toNat_natCast,Int.toNat_natCast,Array.toArray_toList];have q1:a<d.size:=by omega
  have q2:b<d.size:=by omega
  have r1:=bg q1;have r2:=bg q2;have w1:IntKind.i64.wrap ((m:Int)+1)=(m:Int)+1:=wrap_i64 (by omega);refine cq (ah mw aj) (by kernel_rfl) fn166 (by simp) rfl (by simp) ?_;unfold body166;cases hb:ltInt d[b]! d[a]! with
  |true=>
   have hb2:ltInt (gA d b) (gA d a)=true:=hb;have hx:order2 ltInt d a b m=(b,a,m+1):=by unfold order2;rw[hb,if_pos rfl]
   simp(config := { maxSteps := 3000000 }) [q1,q2,r1,r2,hb2,hx,w1]|false=>
   have hb2:ltInt (gA d b) (gA d a)=false:=hb;have hx:order2 ltInt d a b m=(a,b,m):=by unfold order2;rw[hb,if_neg (by simp)]
   simp(config := { maxSteps := 3000000 }) [q1,q2,r1,r2,hb2,hx,w1]
 ·cases h
theorem ld (d:Array Int) (a b s:Nat):(order2 ltInt d a b s).2.2≤s+1∧(((order2 ltInt d a b s).1=a∧(order2 ltInt d a b s).2.1=b)∨((order2 ltInt d a b s).1=b∧(order2 ltInt d a b s).2.1=a)):=by
 unfold order2;split;·exact⟨Nat.le_refl _,.inr ⟨rfl,rfl⟩⟩
 ·exact⟨Nat.le_add_right _ _,.inl ⟨rfl,rfl⟩⟩
noncomputable def Kw:List AV→Option (Prop×AV)|[.pv (.ro a),.pv (.int .i64 p),.pv (.int .i64 q),.pv (.int .i64 u),.aL [.bx [.pv (.int .i64 s)]]]=>(dec dm a).map fun l=>((0≤p∧p<(l.length:Int))∧(0≤q∧q<(l.length:Int))∧(0≤u∧u<(l.length:Int))∧(0≤s∧s≤900)∧l.length≤1000000,.bA 0 [.pv (.int .i64 ((median ltInt l.toArray p.toNat q.toNat u.toNat s.toNat).1:Int)),.bx [.pv (.int .i64 ((median ltInt l.toArray p.toNat q.toNat u.toNat s.toNat).2:Int))]])|_=>none
@[simp] theorem VL (d:Array Int) (p q u s:Int):Kw [.pv (.ro (rA d)),.pv (.int .i64 p),.pv (.int .i64 q),.pv (.int .i64 u),.aL [.bx [.pv (.int .i64 s)]]]=some ((0≤p∧p<(d.size:Int))∧(0≤q∧q<(d.size:Int))∧(0≤u∧u<(d.size:Int))∧(0≤s∧s≤900)∧d.size≤1000000,.bA 0 [.pv (.int .i64 ((median ltInt d p.toNat q.toNat u.toNat s.toNat).1:Int)),.bx [.pv (.int .i64 ((median ltInt d p.toNat q.toNat u.toNat s.toNat).2:Int))]]):=by show(dec dm (rA d)).map _=_;rw[gG];simp
theorem Db (d:Array Int) (a b c s:Nat):median ltInt d a b c s=((order2 ltInt d (order2 ltInt d a b s).1 (order2 ltInt d (order2 ltInt d a b s).2.1 c (order2 ltInt d a b s).2.2).1 (order2 ltInt d (order2 ltInt d a b s).2.1 c (order2 ltInt d a b s).2.2).2.2).2.1,(order2 ltInt d (order2 ltInt d a b s).1 (order2 ltInt d (order2 ltInt d a b s).2.1 c (order2 ltInt d a b s).2.2).1 (order2 ltInt d (order2 ltInt d a b s).2.1 c (order2 ltInt d a b s).2.2).2.2).2.2):=rfl
theorem FY (d:Array Int) (a b c s n:Nat) (ha:a<n) (hb:b<n) (hc:c<n):(median ltInt d a b c s).1<n∧(median ltInt d a b c s).2≤s+3:=by rw[Db];have h1:=ld d a b s;generalize order2 ltInt d a b s=r1 at*;have h2:=ld d r1.2.1 c r1.2.2;generalize order2 ltInt d r1.2.1 c r1.2.2=r2 at*;have h3:=ld d r1.1 r2.1 r2.2.2;show(order2 ltInt d r1.1 r2.1 r2.2.2).2.1<n∧(order2 ltInt d r1.1 r2.1 r2.2.2).2.2≤s+3;generalize order2 ltInt d r1.1 r2.1 r2.2.2=r3 at*;omega
theorem Hq:dH Tryz.prog 164 Kw:=by
 intro ys φ r h hφ;unfold Kw at h;split at h
 ·rename_i ra p q u s;obtain⟨l,hl,h⟩:=Option.map_eq_some_iff.1 h;cases h;obtain⟨d,rfl,rfl⟩:=kR hl;obtain⟨⟨h1,h2⟩,⟨h3,h4⟩,⟨h8,h9⟩,⟨h5,h6⟩,h7⟩:=hφ;obtain⟨a,rfl⟩:∃a:Nat,p=a:=⟨p.toNat,by omega⟩;obtain⟨b,rfl⟩:∃a:Nat,q=a:=⟨q.toNat,by omega⟩;obtain⟨c,rfl⟩:∃a:Nat,u=a:=⟨u.toNat,by omega⟩;obtain⟨m,rfl⟩:∃a:Nat,s=a:=⟨s.toNat,by omega⟩;rw[Array.length_toList]at h2 h4 h7 h9;rw[Int.toNat_natCast,Int.toNat_natCast,Int.toNat_natCast,Int.toNat_natCast,Array.toArray_toList];refine cq (bp (ks:=[0,0,0,2]) UX (by kernel_rfl) aj) (by kernel_rfl) fn164 (by simp) rfl (by simp) ?_;unfold body164;have e1:=ld d a b m;generalize hr1:order2 ltInt d a b m=r1 at*;have e2:=ld d r1.2.1 c r1.2.2;generalize hr2:order2 ltInt d r1.2.1 c r1.2.2=r2 at*;have e3:=ld d r1.1 r2.1 r2.2.2;have hx:median ltInt d a b c m=((order2 ltInt d r1.1 r2.1 r2.2.2).2.1,(order2 ltInt d r1.1 r2.1 r2.2.2).2.2):=by rw[Db,hr1,hr2]
  generalize hr3:order2 ltInt d r1.1 r2.1 r2.2.2=r3 at*;rw[hx];have n1:a<d.size:=by omega
  have n2:b<d.size:=by omega
  have n3:c<d.size:=by omega
  have n4:r1.1<d.size:=by omega
  have n5:r1.2.1<d.size:=by omega
  have n6:r2.1<d.size:=by omega
  have n7:(m:Int)≤1000:=by omega
  have n8:(r1.2.2:Int)≤1000:=by omega
  have n9:(r2.2.2:Int)≤1000:=by omega
  apply af;·simp(config := { maxSteps := 3000000 });exact⟨rfl,rfl⟩
  apply af;·simp(config := { maxSteps := 3000000 }) [n1,n2,n7,h7,hr1];exact⟨rfl,rfl⟩
  apply af;·simp(config := { maxSteps := 3000000 }) [n3,n5,n8,h7,hr2];exact⟨rfl,rfl⟩
  apply af;·simp(config := { maxSteps := 3000000 }) [n4,n6,n9,h7,hr3];exact⟨rfl,rfl⟩
  simp(config := { maxSteps := 3000000 })
 ·cases h
noncomputable def KK:List AV→Option (Prop×AV)|[.pv (.ro a),.pv (.int .i64 p),.aL [.bx [.pv (.int .i64 s)]]]=>(dec dm a).map fun l=>((1≤p∧p+1<(l.length:Int))∧(0≤s∧s≤900)∧l.length≤1000000,.bA 0 [.pv (.int .i64 ((medianAdjacent ltInt l.toArray p.toNat s.toNat).1:Int)),.bx [.pv (.int .i64 ((medianAdjacent ltInt l.toArray p.toNat s.toNat).2:Int))]])|_=>none
@[simp] theorem Vi (d:Array Int) (p s:Int):KK [.pv (.ro (rA d)),.pv (.int .i64 p),.aL [.bx [.pv (.int .i64 s)]]]=some ((1≤p∧p+1<(d.size:Int))∧(0≤s∧s≤900)∧d.size≤1000000,.bA 0 [.pv (.int .i64 ((medianAdjacent ltInt d p.toNat s.toNat).1:Int)),.bx [.pv (.int .i64 ((medianAdjacent ltInt d p.toNat s.toNat).2:Int))]]):=by show(dec dm (rA d)).map _=_;rw[gG];simp
theorem P3:dH Tryz.prog 163 KK:=by
 intro ys φ r h hφ;unfold KK at h;split at h
 ·rename_i ra p s;obtain⟨l,hl,h⟩:=Option.map_eq_some_iff.1 h;cases h;obtain⟨d,rfl,rfl⟩:=kR hl;obtain⟨⟨h1,h2⟩,⟨h5,h6⟩,h7⟩:=hφ;obtain⟨a,rfl⟩:∃a:Nat,p=a:=⟨p.toNat,by omega⟩;obtain⟨m,rfl⟩:∃a:Nat,s=a:=⟨s.toNat,by omega⟩;rw[Array.length_toList]at h2 h7;rw[Int.toNat_natCast,Int.toNat_natCast,Array.toArray_toList];have w1:IntKind.i64.wrap ((a:Int)-1)=((a-1:Nat):Int):=by rw[wrap_i64 (by omega)];omega
  have w2:IntKind.i64.wrap ((a:Int)+1)=((a+1:Nat):Int):=by rw[wrap_i64 (by omega)];omega
  unfold medianAdjacent;obtain⟨x,hx⟩:∃x,x=a-1:=⟨_,rfl⟩;obtain⟨y,hy⟩:∃y,y=a+1:=⟨_,rfl⟩;rw[←hx]at w1 ⊢;rw[←hy]at w2 ⊢;generalize hR:median ltInt d x a y m=R;have n1:x<d.size:=by omega
  have n2:a<d.size:=by omega
  have n3:y<d.size:=by omega
  have n4:(m:Int)≤900:=by omega
  refine cq (bp (ks:=[0,0,0,0,2]) Hq (by kernel_rfl) aj) (by kernel_rfl) fn163 (by simp) rfl (by simp) ?_;unfold body163;simp(config := { maxSteps := 3000000 }) [w1,w2,n1,n2,n3,n4,h7,hR]
 ·cases h
def eJ:Hint→Int|.unknown=>0|.increasing=>1|.decreasing=>2
theorem vk (d:Array Int) (a s n:Nat) (h1:1≤a) (h2:a+1<n):(medianAdjacent ltInt d a s).1<n∧(medianAdjacent ltInt d a s).2≤s+3:=FY d _ _ _ s n (by omega) (by omega) h2
theorem B3 {d:Array Int}{a b:Nat} (h:¬b-a≥8):choosePivot ltInt d a b=(a+(b-a)/4*2,.increasing):=by unfold choosePivot;simp only[if_neg h];rfl
theorem EV {d:Array Int}{a b:Nat} (h:b-a≥8) (h2:¬b-a≥50):choosePivot ltInt d a b=((median ltInt d (a+(b-a)/4*1) (a+(b-a)/4*2) (a+(b-a)/4*3) 0).1,if(median ltInt d (a+(b-a)/4*1) (a+(b-a)/4*2) (a+(b-a)/4*3) 0).2=0 then .increasing else if(median ltInt d (a+(b-a)/4*1) (a+(b-a)/4*2) (a+(b-a)/4*3) 0).2=12 then .decreasing else .unknown):=by unfold choosePivot;simp only[if_pos h,if_neg h2]
theorem FE {d:Array Int}{a b:Nat} (h2:b-a≥50) {ri rj rk m:Nat×Nat} (e1:medianAdjacent ltInt d (a+(b-a)/4*1) 0=ri) (e2:medianAdjacent ltInt d (a+(b-a)/4*2) ri.2=rj) (e3:medianAdjacent ltInt d (a+(b-a)/4*3) rj.2=rk) (e4:median ltInt d ri.1 rj.1 rk.1 rk.2=m):choosePivot ltInt d a b=(m.1,if m.2=0 then .increasing else if m.2=12 then .decreasing else .unknown):=by unfold choosePivot;simp only[if_pos (show b-a≥8 by omega),if_pos h2,e1,e2,e3,e4]
noncomputable def I0:List AV→Option (Prop×AV)|[.pv (.ro a),.pv (.int .i64 p),.pv (.int .i64 q)]=>(dec dm a).map fun l=>(0≤p∧p≤q∧q≤(l.length:Int)∧l.length≤1000000,.aL [.pv (.int .i64 ((choosePivot ltInt l.toArray p.toNat q.toNat).1:Int)),.pv (.int .i64 (eJ (choosePivot ltInt l.toArray p.toNat q.toNat).2))])|_=>none
@[simp] theorem Xl (d:Array Int) (p q:Int):I0 [.pv (.ro (rA d)),.pv (.int .i64 p),.pv (.int .i64 q)]=some (0≤p∧p≤q∧q≤(d.size:Int)∧d.size≤1000000,.aL [.pv (.int .i64 ((choosePivot ltInt d p.toNat q.toNat).1:Int)),.pv (.int .i64 (eJ (choosePivot ltInt d p.toNat q.toNat).2))]):=by show(dec dm (rA d)).map _=_;rw[gG];simp
theorem To:aV Tryz.prog 152 I0:=by
 intro ys φ r h hφ;unfold I0 at h;split at h
 ·rename_i ra p q;obtain⟨l,hl,h⟩:=Option.map_eq_some_iff.1 h;cases h;obtain⟨d,rfl,rfl⟩:=kR hl;obtain⟨h1,h2,h3,h7⟩:=hφ;obtain⟨a,rfl⟩:∃a:Nat,p=a:=⟨p.toNat,by omega⟩;obtain⟨b,rfl⟩:∃a:Nat,q=a:=⟨q.toNat,by omega⟩;rw[Array.length_toList]at h3 h7;rw[Int.toNat_natCast,Int.toNat_natCast,Array.toArray_toList];obtain⟨n,hn⟩:∃n,n=b-a:=⟨_,rfl⟩;obtain⟨f,hf⟩:∃f,f=n/4:=⟨_,rfl⟩;obtain⟨i,hi⟩:∃i,i=a+f*1:=⟨_,rfl⟩;obtain⟨j,hj⟩:∃j,j=a+f*2:=⟨_,rfl⟩;obtain⟨k,hk⟩:∃k,k=a+f*3:=⟨_,rfl⟩;have w0:IntKind.i64.wrap ((b:Int)-(a:Int))=(n:Int):=by rw[wrap_i64 (by omega)];omega
  have w1:(n:Int).tdiv 4=(f:Int):=by rw[Int.tdiv_eq_ediv_of_nonneg (by omega)];omega
  have w2:IntKind.i64.wrap (f:Int)=(f:Int):=wrap_i64 (by omega);have w3:IntKind.i64.wrap ((f:Int)*2)=(f:Int)*2:=wrap_i64 (by omega);have w4:IntKind.i64.wrap ((f:Int)*3)=(f:Int)*3:=wrap_i64 (by omega);have w5:IntKind.i64.wrap ((a:Int)+(f:Int))=(i:Int):=by rw[wrap_i64 (by omega)];omega
  have w6:IntKind.i64.wrap ((a:Int)+(f:Int)*2)=(j:Int):=by rw[wrap_i64 (by omega)];omega
  have w7:IntKind.i64.wrap ((a:Int)+(f:Int)*3)=(k:Int):=by rw[wrap_i64 (by omega)];omega
  refine ax (bp (ks:=[0,0,2]) P3 (by kernel_rfl) (bp (ks:=[0,0,0,0,2]) Hq (by kernel_rfl) aj)) (by kernel_rfl) fn152 (by simp) ?_;unfold body152;generalize hC:choosePivot ltInt d a b=C;apply af;·simp(config := { maxSteps := 3000000 });exact⟨rfl,rfl⟩
  apply af;·simp(config := { maxSteps := 3000000 }) [w0];exact⟨rfl,rfl⟩
  apply af;·simp(config := { maxSteps := 3000000 });exact⟨rfl,rfl⟩
  apply af;·simp(config := { maxSteps := 3000000 }) [w1,w2,w5];exact⟨rfl,rfl⟩
  apply af;·simp(config := { maxSteps := 3000000 }) [w1,w2,w3,w6];exact⟨rfl,rfl⟩
  apply af;·simp(config := { maxSteps := 3000000 }) [w1,w2,w4,w7];exact⟨rfl,rfl⟩
  by_cases g8:n≥8
  ·have c8:(8:Int)≤(n:Int):=by omega
   by_cases g50:n≥50
   ·have c50:(50:Int)≤(n:Int):=by omega
    obtain⟨ri,e1⟩:∃ri,medianAdjacent ltInt d i 0=ri:=⟨_,rfl⟩;obtain⟨rj,e2⟩:∃rj,medianAdjacent ltInt d j ri.2=rj:=⟨_,rfl⟩;obtain⟨rk,e3⟩:∃rk,medianAdjacent ltInt d k rj.2=rk:=⟨_,rfl⟩;obtain⟨m,e4⟩:∃m,median ltInt d ri.1 rj.1 rk.1 rk.2=m:=⟨_,rfl⟩;have m1:=vk d i 0 d.size (by omega) (by omega);have m2:=vk d j ri.2 d.size (by omega) (by omega);have m3:=vk d k rj.2 d.size (by omega) (by omega);rw[e1]at m1;rw[e2]at m2;rw[e3]at m3;have hx:=FE (d:=d) (a:=a) (b:=b) (by omega) (ri:=ri) (rj:=rj) (rk:=rk) (m:=m) (by rw[←hn,←hf,←hi,e1]) (by rw[←hn,←hf,←hj,e2]) (by rw[←hn,←hf,←hk,e3]) e4;rw[hC]at hx;have p1:(1:Int)≤(i:Int)∧(i:Int)+1<(d.size:Int):=by omega
    have p2:(1:Int)≤(j:Int)∧(j:Int)+1<(d.size:Int):=by omega
    have p3:(1:Int)≤(k:Int)∧(k:Int)+1<(d.size:Int):=by omega
    have s1:(ri.2:Int)≤900:=by omega
    have s2:(rj.2:Int)≤900:=by omega
    have s3:(rk.2:Int)≤900:=by omega
    have t1:ri.1<d.size:=m1.1;have t2:rj.1<d.size:=m2.1;have t3:rk.1<d.size:=m3.1;apply af
    ·apply af;·simp(config := { maxSteps := 3000000 }) [c8];exact⟨rfl,rfl⟩
     apply kO rfl;apply af
     ·apply af;·simp(config := { maxSteps := 3000000 }) [c50];exact⟨rfl,rfl⟩
      apply kO rfl;apply af;·simp(config := { maxSteps := 3000000 }) [p1,h7,e1];exact⟨rfl,rfl⟩
      apply af;·simp(config := { maxSteps := 3000000 }) [p2,s1,h7,e2];exact⟨rfl,rfl⟩
      simp(config := { maxSteps := 3000000 }) [p3,s2,h7,e3];exact⟨rfl,rfl⟩
     simp(config := { maxSteps := 3000000 }) [t1,t2,t3,s3,h7,e4];exact⟨rfl,rfl⟩
    by_cases z0:m.2=0
    ·rw[if_pos z0]at hx;subst hx;have y0:(m.2:Int)=0:=by omega
     simp(config := { maxSteps := 3000000 }) [y0,eJ]
    ·rw[if_neg z0]at hx;have y0:¬(m.2:Int)=0:=by omega
     by_cases z1:m.2=12
     ·rw[if_pos z1]at hx;subst hx;have y1:(m.2:Int)=12:=by omega
      simp(config := { maxSteps := 3000000 }) [z0,y0,y1,eJ]
     ·rw[if_neg z1]at hx;subst hx;have y1:¬(m.2:Int)=12:=by omega
      simp(config := { maxSteps := 3000000 }) [z0,z1,y0,y1,eJ]
   ·have c50:¬(50:Int)≤(n:Int):=by omega
    have hx:=EV (d:=d) (a:=a) (b:=b) (by omega) (by omega);rw[←hn,←hf,←hi,←hj,←hk,hC]at hx;obtain⟨m,e4⟩:∃m,median ltInt d i j k 0=m:=⟨_,rfl⟩;rw[e4]at hx;have t1:i<d.size:=by omega
    have t2:j<d.size:=by omega
    have t3:k<d.size:=by omega
    apply af
    ·apply af;·simp(config := { maxSteps := 3000000 }) [c8];exact⟨rfl,rfl⟩
     apply kO rfl;apply af;·simp(config := { maxSteps := 3000000 }) [c50];exact⟨rfl,rfl⟩
     simp(config := { maxSteps := 3000000 }) [t1,t2,t3,h7,e4];exact⟨rfl,rfl⟩
    by_cases z0:m.2=0
    ·rw[if_pos z0]at hx;subst hx;have y0:(m.2:Int)=0:=by omega
     simp(config := { maxSteps := 3000000 }) [y0,eJ]
    ·rw[if_neg z0]at hx;have y0:¬(m.2:Int)=0:=by omega
     by_cases z1:m.2=12
     ·rw[if_pos z1]at hx;subst hx;have y1:(m.2:Int)=12:=by omega
      simp(config := { maxSteps := 3000000 }) [z0,y0,y1,eJ]
     ·rw[if_neg z1]at hx;subst hx;have y1:¬(m.2:Int)=12:=by omega
      simp(config := { maxSteps := 3000000 }) [z0,z1,y0,y1,eJ]
  ·have c8:¬(8:Int)≤(n:Int):=by omega
   have hx:=B3 (d:=d) (a:=a) (b:=b) (by omega);rw[←hn,←hf,←hj,hC]at hx;subst hx;simp(config := { maxSteps := 3000000 }) [c8,eJ]
 ·cases h
def D8:List UInt8:=0::1::(List.replicate 2 2++(List.replicate 4 3++(List.replicate 8 4++(List.replicate 16 5++(List.replicate 32 6++(List.replicate 64 7++List.replicate 128 8))))))
theorem Ga:∀n:Nat,n<256→1≤n→1<<<bitsLen n≤2*n:=by decide+kernel
@[simp] noncomputable def Gz:List AV→Option (Prop×AV)|[.pv (.int .u64 n)]=>some (0≤n∧n<256,.pv (.int .i64 (bitsLen n.toNat:Int)))|_=>none
theorem ly:∀n:Nat,n<256→D8[n]?=some (bitsLen n).toUInt8∧bitsLen n≤8:=by decide+kernel
theorem Ff:aV Tryz.prog 159 Gz:=by
 intro ys φ r h hφ;unfold Gz at h;split at h
 ·rename_i x;cases h;obtain⟨h1,h2⟩:=hφ;obtain⟨n,rfl⟩:∃n:Nat,x=n:=⟨x.toNat,by omega⟩;rw[Int.toNat_natCast];obtain⟨e1,e2⟩:=ly n (by omega);have w1:IntKind.u8.wrap (n:Int)=(n:Int):=by rw[wrap_u8];omega
  have c1:¬(4294967296:Int)≤(n:Int):=by omega
  have c2:¬(65536:Int)≤(n:Int):=by omega
  have c3:¬(256:Int)≤(n:Int):=by omega
  refine ax aj (by kernel_rfl) fn159 (by simp) ?_;unfold body159;apply af;·simp(config := { maxSteps := 3000000 });exact⟨rfl,rfl⟩
  apply af;·simp(config := { maxSteps := 3000000 }) [c1];exact⟨rfl,rfl⟩
  apply af;·simp(config := { maxSteps := 3000000 }) [c2];exact⟨rfl,rfl⟩
  apply af;·simp(config := { maxSteps := 3000000 }) [c3];exact⟨rfl,rfl⟩
  simp(config := { maxSteps := 3000000 }) [w1];refine⟨by omega,?_⟩;show IntKind.i64.wrap (IntKind.i64.wrap ((D8[n]?.getD 0).toNat:Int))=_;rw[e1];have e3:((bitsLen n).toUInt8.toNat:Int)=(bitsLen n:Int):=by rw[show(bitsLen n).toUInt8.toNat=bitsLen n%256 from rfl,Nat.mod_eq_of_lt (by omega)]
  show IntKind.i64.wrap (IntKind.i64.wrap ((bitsLen n).toUInt8.toNat:Int))=_;have e4:IntKind.i64.wrap (bitsLen n:Int)=(bitsLen n:Int):=wrap_i64 (by omega);rw[e3,e4,e4]
 ·cases h
theorem HA:aV Tryz.prog 148 Gz:=by
 intro ys φ r h hφ;unfold Gz at h;split at h;·rename_i x;cases h;refine ax (ah Ff aj) (by kernel_rfl) fn148 (by simp) ?_;unfold body148;simp(config := { maxSteps := 3000000 }) [hφ]
 ·cases h
theorem vD (a b:UInt64):ke .xor .u64 (a.toNat:Int) (b.toNat:Int)=.int .u64 ((a^^^b).toNat:Int):=by
 have h1:(BitVec.ofInt 64 (a.toNat:Int)).toNat=a.toNat:=by rw[BitVec.ofInt_natCast,BitVec.toNat_ofNat,Nat.mod_eq_of_lt a.toNat_lt]
 have h2:(BitVec.ofInt 64 (b.toNat:Int)).toNat=b.toNat:=by rw[BitVec.ofInt_natCast,BitVec.toNat_ofNat,Nat.mod_eq_of_lt b.toNat_lt]
 unfold ke;have h4:(BitVec.ofInt IntKind.u64.bits (a.toNat:Int)^^^BitVec.ofInt IntKind.u64.bits (b.toNat:Int)).toNat=(a^^^b).toNat:=by show(BitVec.ofInt 64 (a.toNat:Int)^^^BitVec.ofInt 64 (b.toNat:Int)).toNat=_;rw[BitVec.toNat_xor,h1,h2,UInt64.toNat_xor]
 simp only[h4];refine congrArg _ ?_;exact wrap_u64 (by have:=(a^^^b).toNat_lt;omega)
theorem Gu (a b:UInt64):ke .and .u64 (a.toNat:Int) (b.toNat:Int)=.int .u64 ((a.toNat&&&b.toNat:Nat):Int):=by
 have h1:(BitVec.ofInt 64 (a.toNat:Int)).toNat=a.toNat:=by rw[BitVec.ofInt_natCast,BitVec.toNat_ofNat,Nat.mod_eq_of_lt a.toNat_lt]
 have h2:(BitVec.ofInt 64 (b.toNat:Int)).toNat=b.toNat:=by rw[BitVec.ofInt_natCast,BitVec.toNat_ofNat,Nat.mod_eq_of_lt b.toNat_lt]
 unfold ke;have h4:(BitVec.ofInt IntKind.u64.bits (a.toNat:Int)&&&BitVec.ofInt IntKind.u64.bits (b.toNat:Int)).toNat=a.toNat&&&b.toNat:=by show(BitVec.ofInt 64 (a.toNat:Int)&&&BitVec.ofInt 64 (b.toNat:Int)).toNat=_;rw[BitVec.toNat_and,h1,h2]
 simp only[h4];refine congrArg _ ?_;exact wrap_u64 (by have:=(a&&&b).toNat_lt;rw[UInt64.toNat_and]at this;omega)
theorem vF (n:Nat):IntKind.u64.wrap (n:Int)=((n%2^64:Nat):Int):=by simp only[IntKind.wrap,IntKind.bits,IntKind.signed];simp
theorem A3 (a:UInt64) (k:UInt64) (h:k.toNat<64):IntKind.u64.wrap ((a.toNat:Int)*2^k.toNat)=((a<<<k).toNat:Int):=by rw[show(a.toNat:Int)*2^k.toNat=((a.toNat*2^k.toNat:Nat):Int) by simp,vF,UInt64.toNat_shiftLeft,Nat.mod_eq_of_lt h,Nat.shiftLeft_eq]
theorem Fp (a:UInt64) (k:UInt64) (h:k.toNat<64):(a.toNat:Int).fdiv (2^k.toNat)=((a>>>k).toNat:Int):=by rw[UInt64.toNat_shiftRight,Nat.mod_eq_of_lt h,Nat.shiftRight_eq_div_pow,show((2:Int)^k.toNat)=((2^k.toNat:Nat):Int) by simp];rw[Int.natCast_ediv];exact Int.fdiv_eq_ediv_of_nonneg _ (Int.natCast_nonneg _)
@[simp] noncomputable def SK:List AV→Option (Prop×AV)|[.aL [.bx [.pv (.int .u64 n)]]]=>some (0≤n∧n<18446744073709551616,.bA 0 [.pv (.int .u64 ((xorNext (UInt64.ofNat n.toNat)).toNat:Int)),.bx [.pv (.int .u64 ((xorNext (UInt64.ofNat n.toNat)).toNat:Int))]])|_=>none
theorem TS:dH Tryz.prog 162 SK:=by
 intro ys φ r h hφ;unfold SK at h;split at h
 ·rename_i x;cases h;obtain⟨h1,h2⟩:=hφ;obtain⟨a,rfl⟩:∃a:UInt64,x=a.toNat:=⟨UInt64.ofNat x.toNat,by rw[UInt64.toNat_ofNat'];omega⟩;rw[Int.toNat_natCast,UInt64.ofNat_toNat];obtain⟨b1,hb1⟩:∃b1,b1=a<<<13:=⟨_,rfl⟩;obtain⟨c1,hc1⟩:∃c1,c1=a^^^b1:=⟨_,rfl⟩;obtain⟨b2,hb2⟩:∃b2,b2=c1>>>7:=⟨_,rfl⟩;obtain⟨c2,hc2⟩:∃c2,c2=c1^^^b2:=⟨_,rfl⟩;obtain⟨b3,hb3⟩:∃b3,b3=c2<<<17:=⟨_,rfl⟩;obtain⟨c3,hc3⟩:∃c3,c3=c2^^^b3:=⟨_,rfl⟩;have s1:IntKind.u64.wrap ((a.toNat:Int)*2^min 13 IntKind.u64.bits)=(b1.toNat:Int):=by rw[hb1];exact A3 a 13 (by decide)
  have s2:(c1.toNat:Int).fdiv (2^min 7 IntKind.u64.bits)=(b2.toNat:Int):=by rw[hb2];exact Fp c1 7 (by decide)
  have s3:IntKind.u64.wrap ((c2.toNat:Int)*2^min 17 IntKind.u64.bits)=(b3.toNat:Int):=by rw[hb3];exact A3 c2 17 (by decide)
  have x1:=vD a b1;have x2:=vD c1 b2;have x3:=vD c2 b3;rw[←hc1]at x1;rw[←hc2]at x2;rw[←hc3]at x3;have hx:xorNext a=c3:=by rw[hc3,hb3,hc2,hb2,hc1,hb1];rfl
  rw[hx];refine cq aj (by kernel_rfl) fn162 (by simp) rfl (by simp) ?_;unfold body162;apply af;·simp(config := { maxSteps := 3000000 });exact⟨rfl,rfl⟩
  apply af;·simp(config := { maxSteps := 3000000 }) [s1,x1];exact⟨rfl,rfl⟩
  apply af;·simp(config := { maxSteps := 3000000 }) [s2,x2];exact⟨rfl,rfl⟩
  apply af;·simp(config := { maxSteps := 3000000 }) [s3,x3];exact⟨rfl,rfl⟩
  simp(config := { maxSteps := 3000000 })
 ·cases h
@[simp] noncomputable def UJ:List AV→Option (Prop×AV)|[.pv (.int .i64 n)]=>some (0≤n∧n<256,.pv (.int .u64 ((1<<<bitsLen n.toNat:Nat):Int)))|_=>none
theorem PB:aV Tryz.prog 161 UJ:=by
 intro ys φ r h hφ;unfold UJ at h;split at h
 ·rename_i x;cases h;obtain⟨h1,h2⟩:=hφ;obtain⟨n,rfl⟩:∃n:Nat,x=n:=⟨x.toNat,by omega⟩;rw[Int.toNat_natCast];have e2:=(ly n (by omega)).2;have w1:IntKind.u64.wrap (n:Int)=(n:Int):=wrap_u64 (by omega);have h3:n<256:=by omega
  obtain⟨m,hm⟩:∃m,m=bitsLen n:=⟨_,rfl⟩;rw[←hm]at e2 ⊢;have hp:1<<<m=2^m:=by rw[Nat.shiftLeft_eq,Nat.one_mul]
  have hle:2^m≤2^8:=Nat.pow_le_pow_right (by omega) e2;have w2:IntKind.u64.wrap (2^min m IntKind.u64.bits)=((1<<<m:Nat):Int):=by rw[show min m IntKind.u64.bits=m from Nat.min_eq_left (by show m≤64;omega),hp,show((2:Int)^m)=((2^m:Nat):Int) by simp];exact wrap_u64 ⟨Int.natCast_nonneg _,Int.le_trans (Int.ofNat_le.2 hle) (by decide)⟩
  generalize 1<<<m=M at*;refine ax (ah HA aj) (by kernel_rfl) fn161 (by simp) ?_;unfold body161;simp(config := { maxSteps := 3000000 }) [w1,h3,←hm,w2];exact h2
 ·cases h
theorem Dz (a n m:Nat) (st:UInt64×Array Int) (idx:Nat):(breakStep a n m st idx).2.size=st.2.size:=by unfold breakStep;exact size_swp _ _ _
noncomputable def AX (F:Array Int→Nat→Nat→Array Int):List AV→Option (Prop×AV)|[.aL [.fr e a],.pv (.int .i64 p),.pv (.int .i64 q)]=>if e=22 then(dec dm a).map fun l=>(0≤p∧p≤q∧q≤(l.length:Int)∧l.length≤200,.bA 0 [.aL [],.fr 22 (rA (F l.toArray p.toNat q.toNat))]) else none|_=>none
@[simp] theorem S8 (F:Array Int→Nat→Nat→Array Int) (e:TypeId) (d:Array Int) (p q:Int):AX F [.aL [.fr e (rA d)],.pv (.int .i64 p),.pv (.int .i64 q)]=if e=22 then some (0≤p∧p≤q∧q≤(d.size:Int)∧d.size≤200,.bA 0 [.aL [],.fr 22 (rA (F d p.toNat q.toNat))]) else none:=by show(if e=22 then(dec dm (rA d)).map _ else none)=_;rw[gG];simp
theorem Bw {F:Array Int→Nat→Nat→Array Int}{ys:List AV}{φ:Prop}{r:AV} (h:AX F ys=some (φ,r)):∃(d:Array Int) (p q:Int),ys=[.aL [.fr 22 (rA d)],.pv (.int .i64 p),.pv (.int .i64 q)]∧φ=(0≤p∧p≤q∧q≤(d.size:Int)∧d.size≤200)∧r=.bA 0 [.aL [],.fr 22 (rA (F d p.toNat q.toNat))]:=by
 unfold AX at h;split at h
 ·split at h;·rename_i e;subst e;obtain⟨l,hl,h⟩:=Option.map_eq_some_iff.1 h;cases h;cases cO hl;exact⟨l.toArray,_,_,by rw[wj],by simp,rfl⟩
  ·cases h
 ·cases h
theorem SA:dH Tryz.prog 151 (AX breakPatterns):=by
 intro ys φ r h hφ;obtain⟨d,p,q,rfl,rfl,rfl⟩:=Bw h;obtain⟨h1,h2,h3,h4⟩:=hφ;obtain⟨a,rfl⟩:∃a:Nat,p=a:=⟨p.toNat,by omega⟩;obtain⟨b,rfl⟩:∃b:Nat,q=b:=⟨q.toNat,by omega⟩;rw[Int.toNat_natCast,Int.toNat_natCast];obtain⟨n,hn⟩:∃n,n=b-a:=⟨_,rfl⟩;have w0:IntKind.i64.wrap ((b:Int)-(a:Int))=(n:Int):=by rw[wrap_i64 (by omega)];omega
 refine cq (ah PB (bp (ks:=[2]) TS (by kernel_rfl) aj)) (by kernel_rfl) fn151 (by simp) rfl (by simp) ?_;unfold body151;generalize hW:breakPatterns d a b=W;unfold breakPatterns at hW;rw[←hn]at hW;apply af;·simp(config := { maxSteps := 3000000 }) [w0];exact⟨rfl,rfl⟩
 by_cases h8:n≥8
 ·have c8:(8:Int)≤(n:Int):=by omega
  simp only[if_pos h8]at hW;obtain⟨f,hf⟩:∃f,f=n/4:=⟨_,rfl⟩;obtain⟨ix,hix⟩:∃ix,ix=a+f*2-1:=⟨_,rfl⟩;obtain⟨M,hM⟩:∃M,M=1<<<bitsLen n:=⟨_,rfl⟩;rw[←hf,←hix,←hM]at hW;have h2b:=(ly n (by omega)).2;have hMp:1≤M∧M≤256:=by
   have hp:M=2^bitsLen n:=by rw[hM,Nat.shiftLeft_eq,Nat.one_mul]
   have hle:2^bitsLen n≤2^8:=Nat.pow_le_pow_right (by omega) h2b;have:0<2^bitsLen n:=Nat.pow_pos (by omega);omega
  have v1:(n:Int).tdiv 4=(f:Int):=by rw[Int.tdiv_eq_ediv_of_nonneg (by omega)];omega
  have v2:IntKind.i64.wrap (f:Int)=(f:Int):=wrap_i64 (by omega);have v3:IntKind.i64.wrap ((f:Int)*2)=(f:Int)*2:=wrap_i64 (by omega);obtain⟨y,hy⟩:∃y,y=a+f*2:=⟨_,rfl⟩;have v4:IntKind.i64.wrap ((a:Int)+(f:Int)*2)=(y:Int):=by rw[wrap_i64 (by omega)];omega
  have v5:IntKind.i64.wrap ((y:Int)-1)=(ix:Int):=by rw[wrap_i64 (by omega)];omega
  have v6:IntKind.i64.wrap ((y:Int)+1)=(y:Int)+1:=wrap_i64 (by omega);have v7:IntKind.u64.wrap (n:Int)=(n:Int):=wrap_u64 (by omega);have v8:(n:Int)<256:=by omega
  obtain⟨r0,hr0⟩:∃r0,r0=UInt64.ofNat n:=⟨_,rfl⟩;have hr1:(r0.toNat:Int)=(n:Int):=by rw[hr0,UInt64.toNat_ofNat',Nat.mod_eq_of_lt (by omega)]
  rw[←hr0]at hW;obtain⟨st,hst⟩:∃st:Nat→UInt64×Array Int,(st 0=(r0,d))∧∀t,st (t+1)=breakStep a n M (st t) (ix+t):=⟨Nat.rec (r0,d) fun t s=>breakStep a n M s (ix+t),rfl,fun _=>rfl⟩;have hW3:(st 3).2=W:=by rw[hst.2 2,hst.2 1,hst.2 0,hst.1];exact hW
  have hsz:∀t,(st t).2.size=d.size:=by intro t;induction t with|zero=>rw[hst.1]|succ t ih=>rw[hst.2,Dz,ih]
  apply af;·simp(config := { maxSteps := 3000000 }) [c8];exact⟨rfl,rfl⟩
  apply kO rfl;apply af;·simp(config := { maxSteps := 3000000 }) [v7];exact⟨rfl,rfl⟩
  apply af;·simp(config := { maxSteps := 3000000 }) [v8,←hM];exact⟨rfl,rfl⟩
  apply af;·simp(config := { maxSteps := 3000000 }) [v1,v2,v3,v4,v5];exact⟨rfl,rfl⟩
  rw[bq];refine au (fun t:Nat=>t≤3) (fun t=>⟨[(0,.own 999),(1,.pv (.int .i64 (a:Int))),(6,.pv (.int .i64 (n:Int))),(7,.ptr 7 0),(8,.pv (.int .u64 (M:Int))),(9,.pv (.int .i64 ((ix:Int)+(t:Int))))],[(999,.arr 22 (rA (st t).2)),(7,.box [.pv (.int .u64 ((st t).1.toNat:Int))])]⟩) (fun t=>3-t) [] 0 (by omega) ?_ ?_;·simp[hst.1,hr1]
  ·intro t ht;have hD:=hsz t;have hs:=hst.2 t;have hM2:M≤2*n:=by rw[hM];exact Ga n (by omega) (by omega)
   rcases hq:st t with⟨r,D⟩;rw[hq]at hD hs;have hD:D.size=d.size:=hD;rw[rR];dsimp only;by_cases ht3:t<3
   ·obtain⟨i,hi⟩:∃i,i=ix+t:=⟨_,rfl⟩;obtain⟨r',hr'⟩:∃r',r'=xorNext r:=⟨_,rfl⟩;obtain⟨o,ho⟩:∃o,o=r'.toNat&&&(M-1):=⟨_,rfl⟩;obtain⟨o2,ho2⟩:∃o2,o2=if o≥n then o-n else o:=⟨_,rfl⟩;have hs:st (t+1)=(r',swp D i (a+o2)):=by rw[hs,ho2,ho,hr',hi];rfl
    have ole:o≤M-1:=by rw[ho];exact Nat.and_le_right
    have o2lt:o2<n:=by rw[ho2];split<;>omega
    obtain⟨c,hc⟩:∃c,c=a+o2:=⟨_,rfl⟩;rw[←hc]at hs;have z1:(ix:Int)+(t:Int)=(i:Int):=by omega
    have z2:(i:Int)≤(y:Int)+1:=by omega
    have z3:(r.toNat:Int)<18446744073709551616:=by have:=r.toNat_lt;omega
    have z4:IntKind.u64.wrap ((M:Int)-1)=(M:Int)-1:=wrap_u64 (by omega);have z5:ke .and .u64 (r'.toNat:Int) ((M:Int)-1)=.int .u64 (o:Int):=by have:=Gu r' (UInt64.ofNat (M-1));rw[UInt64.toNat_ofNat',Nat.mod_eq_of_lt (by omega:M-1<2^64)]at this;rw[show(M:Int)-1=((M-1:Nat):Int) by omega,this,ho]
    have z6:IntKind.i64.wrap (o:Int)=(o:Int):=wrap_i64 (by omega);have z7:IntKind.i64.wrap ((i:Int)+1)=(i:Int)+1:=wrap_i64 (by omega);have z8:IntKind.i64.wrap ((a:Int)+(o2:Int))=(c:Int):=by rw[wrap_i64 (by omega)];omega
    have q1:i<D.size:=by omega
    have q2:c<D.size:=by omega
    have r1:=bg q1;have r2:=bg q2;have r3:=bg (d:=D.setIfInBounds i (gA D c)) (i:=c) (by rw[Array.size_setIfInBounds];omega);apply af;·simp(config := { maxSteps := 3000000 }) [v1,v2,v3,v4,v6,z1,z2];exact⟨rfl,rfl⟩
    rw[cF];rw[bq];apply af;·simp(config := { maxSteps := 3000000 }) [z3,←hr',z4,z5,z6,z1];exact⟨rfl,rfl⟩
    by_cases hon:o≥n
    ·rw[if_pos hon]at ho2;have k1:(n:Int)≤(o:Int):=by omega
     have k2:IntKind.i64.wrap ((o:Int)-(n:Int))=(o2:Int):=by rw[wrap_i64 (by omega)];omega
     apply af;·simp(config := { maxSteps := 3000000 }) [k1,k2];exact⟨rfl,rfl⟩
     simp(config := { maxSteps := 3000000 }) [z8,z7,q1,q2,r1,r2,r3];exact⟨t+1,by omega,⟨by omega,by rw[hs];rfl,by rw[hs]⟩,by omega⟩
    ·rw[if_neg hon]at ho2;subst ho2;have k1:¬(n:Int)≤(o2:Int):=by omega
     apply af;·simp(config := { maxSteps := 3000000 }) [k1];exact⟨rfl,rfl⟩
     simp(config := { maxSteps := 3000000 }) [z8,z7,q1,q2,r1,r2,r3];exact⟨t+1,by omega,⟨by omega,by rw[hs];rfl,by rw[hs]⟩,by omega⟩
   ·have:t=3:=by omega
    subst this;have z1:¬(ix:Int)+3≤(y:Int)+1:=by omega
    rw[hq]at hW3;have hW3:D=W:=hW3;subst hW3;simp(config := { maxSteps := 3000000 }) [v1,v2,v3,v4,v6,z1]
 ·have c8:¬(8:Int)≤(n:Int):=by omega
  simp only[if_neg h8]at hW;subst hW;simp(config := { maxSteps := 3000000 }) [c8]
noncomputable def Kp:List AV→Option (Prop×AV)|[.aL [.fr e a],.pv (.int .i64 p),.pv (.int .i64 q),.pv (.int .i64 v)]=>if e=22 then(dec dm a).map fun l=>((0≤p∧p≤v)∧v<q∧q≤(l.length:Int)∧l.length≤1000000,.bA 0 [.pv (.int .i64 ((partitionEqual ltInt l.toArray p.toNat q.toNat v.toNat).1:Int)),.fr 22 (rA (partitionEqual ltInt l.toArray p.toNat q.toNat v.toNat).2)]) else none|_=>none
@[simp] theorem Xr (e:TypeId) (d:Array Int) (p q v:Int):Kp [.aL [.fr e (rA d)],.pv (.int .i64 p),.pv (.int .i64 q),.pv (.int .i64 v)]=if e=22 then some ((0≤p∧p≤v)∧v<q∧q≤(d.size:Int)∧d.size≤1000000,.bA 0 [.pv (.int .i64 ((partitionEqual ltInt d p.toNat q.toNat v.toNat).1:Int)),.fr 22 (rA (partitionEqual ltInt d p.toNat q.toNat v.toNat).2)]) else none:=by show(if e=22 then(dec dm (rA d)).map _ else none)=_;rw[gG];simp
theorem TZ:dH Tryz.prog 156 Kp:=by
 intro ys φ r h hφ;unfold Kp at h;split at h
 ·rename_i e ra p q v;split at h
  ·rename_i he;subst he;obtain⟨l,hl,h⟩:=Option.map_eq_some_iff.1 h;cases h;obtain⟨d,rfl,rfl⟩:=kR hl;obtain⟨⟨h1,h2⟩,h3,h4,h5⟩:=hφ;rw[Array.length_toList]at h4 h5;obtain⟨a,rfl⟩:∃a:Nat,p=a:=⟨p.toNat,by omega⟩;obtain⟨b,rfl⟩:∃a:Nat,q=a:=⟨q.toNat,by omega⟩;obtain⟨c,rfl⟩:∃a:Nat,v=a:=⟨v.toNat,by omega⟩;rw[Int.toNat_natCast,Int.toNat_natCast,Int.toNat_natCast,Array.toArray_toList];refine cq (ah mw aj) (by kernel_rfl) fn156 (by simp) rfl (by simp) ?_;unfold body156;unfold partitionEqual;generalize hW:partEqLoop ltInt a (a+1) (b-1) (swp d a c)=W;have q1:a<d.size:=by omega
   have q2:c<d.size:=by omega
   have r1:=bg q1;have r2:=bg q2;have r3:=bg (d:=d.setIfInBounds a (gA d c)) (i:=c) (by rw[Array.size_setIfInBounds];omega);obtain⟨i0,hi0⟩:∃i0,i0=a+1:=⟨_,rfl⟩;obtain⟨j0,hj0⟩:∃j0,j0=b-1:=⟨_,rfl⟩;have w1:IntKind.i64.wrap ((a:Int)+1)=(i0:Int):=by rw[wrap_i64 (by omega)];omega
   have w2:IntKind.i64.wrap ((b:Int)-1)=(j0:Int):=by rw[wrap_i64 (by omega)];omega
   rw[←hi0,←hj0]at hW;apply af;·simp(config := { maxSteps := 3000000 });exact⟨rfl,rfl⟩
   apply af;·simp(config := { maxSteps := 3000000 }) [q1,q2,r1,r2,r3];exact⟨rfl,rfl⟩
   rw[show(d.setIfInBounds a (gA d c)).setIfInBounds c (gA d a)=swp d a c from rfl];apply af;·simp(config := { maxSteps := 3000000 }) [w1,w2];exact⟨rfl,rfl⟩
   rw[cF]
   ·rw[bq];refine au (fun x:(Nat×Nat)×Array Int=>(a<x.1.1∧x.1.1≤x.1.2+1)∧x.1.2<b∧x.2.size=d.size∧partEqLoop ltInt a x.1.1 x.1.2 x.2=W) (fun x=>⟨[(0,.own 999),(1,.pv (.int .i64 (a:Int))),(9,.pv (.int .i64 (x.1.1:Int))),(10,.pv (.int .i64 (x.1.2:Int)))],[(999,.arr 22 (rA x.2))]⟩) (fun x=>x.1.2) [] ((i0,j0),swp d a c) ⟨⟨by show a<i0;omega,by show i0≤j0+1;omega⟩,by show j0<b;omega,size_swp _ _ _,hW⟩ ?_ ?_;·simp
    ·rintro⟨⟨i,j⟩,D⟩ ⟨⟨g1,g2⟩,g3,g4,g5⟩;have g1:a<i:=g1;have g2:i≤j+1:=g2;have g3:j<b:=g3;have g4:D.size=d.size:=g4;have g5:partEqLoop ltInt a i j D=W:=g5;have qa:a<D.size:=by omega
     have ra:=bg qa;obtain⟨pU,hpU⟩:∃pU:Int→Bool,pU=fun x=>!ltInt D[a]! x:=⟨_,rfl⟩;obtain⟨pD,hpD⟩:∃pD:Int→Bool,pD=fun x=>ltInt D[a]! x:=⟨_,rfl⟩;obtain⟨i2,hi2⟩:∃i2,i2=scanUp pU D j i:=⟨_,rfl⟩;obtain⟨j2,hj2⟩:∃j2,j2=scanDown pD D i2 j:=⟨_,rfl⟩;have u1:=scanUp_spec pU D j _ i rfl;rw[←hi2]at u1;have u2:=scanDown_spec pD D i2 j;rw[←hj2]at u2;have u3:i≤i2∧i2≤j+1:=⟨u1.1,u1.2.1 g2⟩;have u4:j2≤j∧i2≤j2+1:=⟨u2.1,u2.2.1 u3.2⟩;rw[rR];dsimp only;rw[bq];apply af
     ·rw[bq];refine au (fun s:Nat=>i≤s∧s≤j+1∧scanUp pU D j s=i2) (fun s=>⟨[(0,.own 999),(1,.pv (.int .i64 (a:Int))),(9,.pv (.int .i64 (s:Int))),(10,.pv (.int .i64 (j:Int)))],[(999,.arr 22 (rA D))]⟩) (fun s=>j+1-s) [] i (by refine⟨?_,?_,?_⟩<;>first|omega|exact hi2.symm) ?_ ?_;·simp
      ·rintro s ⟨l1,l2,l3⟩;by_cases hc:s≤j
       ·have ws:IntKind.i64.wrap ((s:Int)+1)=((s+1:Nat):Int):=by rw[wrap_i64 (by omega)];omega
        have c1:(s:Int)≤(j:Int):=by omega
        have q1:s<D.size:=by omega
        have r1:=bg q1;cases hb:(!ltInt (gA D a) (gA D s)) with|true=>have e:=scanUp_go pU D j s hc (by rw[hpU];exact hb);rw[e]at l3;obtain⟨s',hs'⟩:∃s',s'=s+1:=⟨_,rfl⟩;rw[←hs']at ws l3;simp(config := { maxSteps := 3000000 }) [c1,q1,qa,r1,ra,hb,ws];exact⟨s',⟨by omega,by omega,l3⟩,rfl,by omega⟩|false=>have e:=scanUp_end pU D j s (.inr (by rw[hpU];exact hb));rw[e]at l3;subst l3;simp(config := { maxSteps := 3000000 }) [c1,q1,qa,r1,ra,hb];try exact⟨rfl,rfl⟩
       ·have c1:¬(s:Int)≤(j:Int):=by omega
        have e:=scanUp_end pU D j s (.inl hc);rw[e]at l3;subst l3;rcases Nat.lt_or_ge s D.size with q1|q1;·have r1:=bg q1;simp(config := { maxSteps := 3000000 }) [c1,q1,qa,r1,ra];try exact⟨rfl,rfl⟩
        ·have r1:=j5 q1;simp(config := { maxSteps := 3000000 }) [c1,qa,r1,ra];try exact⟨rfl,rfl⟩
     apply af
     ·rw[bq];refine au (fun s:Nat=>i2≤s+1∧s≤j∧scanDown pD D i2 s=j2) (fun s=>⟨[(0,.own 999),(1,.pv (.int .i64 (a:Int))),(9,.pv (.int .i64 (i2:Int))),(10,.pv (.int .i64 (s:Int)))],[(999,.arr 22 (rA D))]⟩) (fun s=>s) [] j (by refine⟨?_,?_,?_⟩<;>first|omega|exact hj2.symm) ?_ ?_;·simp
      ·rintro s ⟨l1,l2,l3⟩;by_cases hc:i2≤s
       ·have ws:IntKind.i64.wrap ((s:Int)-1)=((s-1:Nat):Int):=by rw[wrap_i64 (by omega)];omega
        have c1:(i2:Int)≤(s:Int):=by omega
        have q1:s<D.size:=by omega
        have r1:=bg q1;cases hb:ltInt (gA D a) (gA D s) with|true=>have e:=scanDown_go pD D i2 s hc (by omega) (by rw[hpD];exact hb);rw[e]at l3;obtain⟨s',hs'⟩:∃s',s'=s-1:=⟨_,rfl⟩;rw[←hs']at ws l3;simp(config := { maxSteps := 3000000 }) [c1,q1,qa,r1,ra,hb,ws];exact⟨s',⟨by omega,by omega,l3⟩,rfl,by omega⟩|false=>have e:=scanDown_end pD D i2 s (.inr (by rw[hpD];exact hb));rw[e]at l3;subst l3;simp(config := { maxSteps := 3000000 }) [c1,q1,qa,r1,ra,hb];try exact⟨rfl,rfl⟩
       ·have c1:¬(i2:Int)≤(s:Int):=by omega
        have e:=scanDown_end pD D i2 s (.inl hc);rw[e]at l3;subst l3;rcases Nat.lt_or_ge s D.size with q1|q1;·have r1:=bg q1;simp(config := { maxSteps := 3000000 }) [c1,q1,qa,r1,ra];try exact⟨rfl,rfl⟩
        ·have r1:=j5 q1;simp(config := { maxSteps := 3000000 }) [c1,qa,r1,ra];try exact⟨rfl,rfl⟩
     by_cases hgt:i2>j2
     ·have k1:(j2:Int)<(i2:Int):=by omega
      have e:=partEq_break ltInt a i j D (by rw[hi2,hpU]) (by rw[hj2,hpD]) hgt;rw[e]at g5;have e1:(i2:Int)=(W.1:Int):=by rw[←g5]
      have e2:rA D=rA W.2:=by rw[←g5]
      simp(config := { maxSteps := 3000000 }) [k1];exact⟨e1,e2⟩
     ·have k1:¬(j2:Int)<(i2:Int):=by omega
      have e:=partEq_go ltInt a i j D (by rw[hi2,hpU]) (by rw[hj2,hpD]) hgt;rw[e]at g5;have lt2:=scans_lt ltInt a i j D (by omega) (i2:=i2) (j2:=j2) (by rw[hi2,hpU]) (by rw[hj2,hpD]) (by omega);have z1:i2<D.size:=by omega
      have z2:j2<D.size:=by omega
      have r1:=bg z1;have r2:=bg z2;have r3:=bg (d:=D.setIfInBounds i2 (gA D j2)) (i:=j2) (by rw[Array.size_setIfInBounds];omega);have v1:IntKind.i64.wrap ((i2:Int)+1)=(i2:Int)+1:=wrap_i64 (by omega);obtain⟨j3,hj3⟩:∃j3,j3=j2-1:=⟨_,rfl⟩;have v2:IntKind.i64.wrap ((j2:Int)-1)=(j3:Int):=by rw[wrap_i64 (by omega)];omega
      rw[←hj3]at g5;apply af;·simp(config := { maxSteps := 3000000 }) [k1];exact⟨rfl,rfl⟩
      apply af;·simp(config := { maxSteps := 3000000 }) [z1,z2,r1,r2,r3];exact⟨rfl,rfl⟩
      simp(config := { maxSteps := 3000000 }) [v1,v2];exact⟨i2+1,j3,swp D i2 j2,⟨⟨by omega,by omega⟩,by omega,by rw[size_swp,g4],g5⟩,⟨⟨by omega,rfl⟩,rfl⟩,by omega⟩
  ·cases h
 ·cases h
end Go.Proofs.YtlmkcmfmfahcfaaGreat.Ab
