/- Chapter 15: is a number among some? -/
import Derived.Test.YtlicclncicbajaaGreatY12
import Derived.Test.YtlicclncicbajaaGreatChecked
import Derived.RangeFuncBox
import Derived.RangeFuncLeaves
import Derived.Shelf.Abstract
import Derived.WalkKit
import Derived.OwnWalkIn
import Derived.TacticsInMore
import Derived.LoopNIn
import Derived.LoopIn
import Derived.Maps.AppendAt
set_option linter.unusedVariables false
set_option linter.unusedSimpArgs false
set_option linter.unnecessarySimpa false
set_option maxHeartbeats 40000000
set_option maxRecDepth 100000
namespace Go.Proofs.YtlicclncicbajaaGreat.Ab
open Go Go.RowKit R
def uY (n:Int):List PV:=[.int .u64 n]
theorem Hk:∀a b,uY a=uY b→a=b:=by intro a b h;simpa[uY]using h
def lQ (l:List Int):List (List PV):=l.map uY
@[simp] theorem Ta:lQ []=[]:=rfl
@[simp] theorem Io (l:List Int):(lQ l).length=l.length:=by simp[lQ]
theorem FX {l:List Int}{i:Nat} (h:i<l.length):rowAt (lQ l) (i:Int)=[.int .u64 l[i]]:=by simp[rowAt,lQ,h,uY]
@[simp] theorem TR (l:List Int):dec uY (lQ l)=some l:=gX Hk l
theorem ju {rows:List (List PV)}{l:List Int} (h:dec uY rows=some l):rows=lQ l:=gV h
def HR (l:List Int) (n:Int):Bool:=decide (n∈l)
theorem OO {l:List Int}{n:Int}{i:Nat} (h:i<l.length) (hq:l[i]=n):HR l n=true:=by unfold HR;rw[decide_eq_true_eq,←hq];exact List.getElem_mem h
theorem FH {l:List Int}{n:Int} (h:∀x∈l,¬x=n):HR l n=false:=by unfold HR;rw[decide_eq_false_iff_not];exact fun hn=>h n hn rfl
def OU (l:List Int) (n:Int):Int:=if HR l n=true then(l.findIdx (fun x=>decide (x=n)):Int) else-1
theorem M7 {l:List Int}{n:Int}{i:Nat} (h:i<l.length) (hq:l[i]=n) (ht:∀x∈l.take i,¬x=n):OU l n=i:=by
 have hf:l.findIdx (fun x=>decide (x=n))=i:=by
  rw[List.findIdx_eq h];refine⟨by simpa using hq,fun j hj=>?_⟩;have:l[j]∈l.take i:=by rw[List.mem_take_iff_getElem];exact⟨j,by omega,rfl⟩
  simpa using ht _ this
 unfold OU;rw[OO h hq,if_pos rfl,hf]
theorem G7 {l:List Int}{n:Int} (h:∀x∈l,¬x=n):OU l n=-1:=by unfold OU;rw[FH h,if_neg (by simp)]
theorem NP (l:List Int) (n:Int):decide (0≤OU l n)=HR l n:=by unfold OU;cases HR l n<;>simp
@[simp] noncomputable def aay:List AV→Option (Prop×AV)|[.pv (.ro a),.pv (.int .u64 n)]=>(dec uY a).map fun l=>(l.length≤1000000000,.pv (.int .i64 (OU l n)))|_=>none
theorem YH:aN Tryz.prog 204 aay:=by
 intro ys φ r h hφ;unfold aay at h;split at h
 ·rename_i ra n;obtain⟨a,ha,h⟩:=Option.map_eq_some_iff.1 h;cases h;cases ju ha;refine aq ah (by kernel_rfl) (by conv=>lhs;reduce) (by simp) ?_;simp(config := { maxSteps := 3000000 });refine al (fun i:Nat=>i≤a.length∧∀x∈a.take i,¬x=n) (fun i=>⟨[(0,.pv (.ro (lQ a))),(1,.pv (.int .u64 n)),(7,.pv (.int .i64 a.length)),(8,.pv (.int .i64 i))],[]⟩) (fun i=>a.length-i) [] 0 (by simp) ?_ ?_;·simp
  ·rintro i ⟨hi,ht⟩;have w2:IntKind.i64.wrap ((i:Int)+1)=(i:Int)+1:=wrap_i64 (by omega);by_cases hlt:i<a.length
   ·have r1:=FX hlt;by_cases hq:a[i]=n;·have hx:=M7 hlt hq ht;simp(config := { maxSteps := 3000000 }) [w2,hlt,r1,hq,hx]
    ·have hq':¬n=a[i]:=fun e=>hq e.symm;simp(config := { maxSteps := 3000000 }) [w2,hlt,r1,hq'];refine⟨i+1,⟨by omega,fun x hx=>?_⟩,by omega,by omega⟩;rw[List.take_succ_eq_append_getElem hlt,List.mem_append]at hx;rcases hx with hx|hx;·exact ht x hx
     ·rw[List.mem_singleton]at hx;rw[hx];exact hq
   ·rw[List.take_of_length_le (by omega)]at ht;have hx:=G7 ht;simp(config := { maxSteps := 3000000 }) [hlt,hx]
 ·cases h
@[simp] noncomputable def YJ:List AV→Option (Prop×AV)|[.pv (.ro a),.pv (.int .u64 n)]=>(dec uY a).map fun l=>(l.length≤1000000000,.pv (.bool (HR l n)))|_=>none
theorem Y8:aN Tryz.prog 193 YJ:=by
 intro ys φ r h hφ;unfold YJ at h;split at h;·rename_i ra n;obtain⟨a,ha,h⟩:=Option.map_eq_some_iff.1 h;cases h;cases ju ha;have hq:=NP a n;refine aq (ag YH ah) (by kernel_rfl) (by conv=>lhs;reduce) (by simp) ?_;simp(config := { maxSteps := 3000000 }) [hφ,hq]
 ·cases h
def D0 (ks:List PV) (n:Int):Bool:=ks.any (mm (.int .u64 n))
@[simp] def X8:List AV→Option (Prop×AV)|[.agg [.pv (.int .u64 n),.pv (.int .u64 _),.pv (.int .u64 _),.pv (.int .u64 _),.pv (.int .u64 _),.pv (.int .u64 _),.pv (.int .u64 _),.pv (.str _),.pv (.bool _),.pv (.bool _)],.rp [.mp ks]]=>some ((∀x∈ks,dk x=9),.pv (.bool (!D0 ks n)))|_=>none
theorem LS:aN Tryz.prog 196 X8:=by
 intro ys φ r h hφ;unfold X8 at h;split at h;·cases h;refine aq ah (by kernel_rfl) (by conv=>lhs;reduce) (by simp) ?_;simp(config := { maxSteps := 3000000 }) [bL];exact⟨hφ,rfl⟩
 ·cases h
theorem CM:fo Tryz.prog 196=true:=by kernel_rfl
def GJ (p:Vn→Bool) (l:List Vn):Int:=if l.findIdx p<l.length then(l.findIdx p:Int) else-1
theorem OZ {p:Vn→Bool}{l:List Vn}{i:Nat} (h:i<l.length) (hq:p l[i]=true) (ht:∀v∈l.take i,p v=false):GJ p l=i:=by
 have hf:l.findIdx p=i:=by
  rw[List.findIdx_eq h];refine⟨hq,fun j hj=>?_⟩;have:l[j]∈l.take i:=by rw[List.mem_take_iff_getElem];exact⟨j,by omega,rfl⟩
  exact ht _ this
 unfold GJ;rw[hf,if_pos h]
theorem Ay {p:Vn→Bool}{l:List Vn} (ht:∀v∈l,p v=false):GJ p l=-1:=by
 have hf:l.findIdx p=l.length:=by rw[List.findIdx_eq_length];exact ht
 unfold GJ;rw[hf,if_neg (by omega)]
theorem Ib (p:Vn→Bool) (l:List Vn):0≤GJ p l↔l.any p=true:=by
 unfold GJ;split;·rename_i h;have:=List.findIdx_lt_length.1 h;simp only[List.any_eq_true];exact⟨fun _=>this,fun _=>by omega⟩
 ·rename_i h;rw[List.findIdx_lt_length]at h;simp only[List.any_eq_true];exact⟨fun h'=>by omega,fun h'=>absurd h' h⟩
theorem Cb {p:Vn→Bool}{l:List Vn}{k:Nat} (h:GJ p l=(k:Int)):k<l.length∧(l.take (k+1)).filter (fun e=>!p e)=l.take k:=by
 unfold GJ at h;split at h
 ·rename_i hlt;have hk:l.findIdx p=k:=by omega
  rw[hk]at hlt;refine⟨hlt,?_⟩;obtain⟨h1,h2⟩:=(List.findIdx_eq hlt).1 hk;rw[List.take_succ_eq_append_getElem hlt,List.filter_append];have hf:(l.take k).filter (fun e=>!p e)=l.take k:=by rw[List.filter_eq_self];intro e he;rw[List.mem_take_iff_getElem]at he;obtain⟨j,hj,rfl⟩:=he;have:=h2 j (by omega);simpa using this
  rw[hf];simp[h1]
 ·omega
def mL (ks:List PV) (v:Vn):Bool:=!D0 ks v.n
@[simp] noncomputable def XN:List AV→Option (Prop×AV)|[.pv (.ro a),.bo f [.rp [.mp ks]]]=>if f=196 then(dec cL a).map fun l=>(l.length≤1000000000∧∀x∈ks,dk x=9,.pv (.int .i64 (GJ (mL ks) l))) else none|_=>none
theorem aal:aN Tryz.prog 178 XN:=by
 intro ys φ r h hφ;unfold XN at h;split at h
 ·rename_i ra f ks;split at h
  ·rename_i hf;subst hf;obtain⟨a,ha,h⟩:=Option.map_eq_some_iff.1 h;cases h;cases aF ha;obtain⟨hφ,hks⟩:=hφ;refine aq (ag LS ah) (by kernel_rfl) (by conv=>lhs;reduce) (by simp) ?_;simp(config := { maxSteps := 3000000 });refine al (fun i:Nat=>i≤a.length∧∀v∈a.take i,mL ks v=false) (fun i=>⟨[(0,.pv (.ro (az a))),(1,.bo 196 [.rp [.mp ks]]),(7,.pv (.int .i64 a.length)),(8,.pv (.int .i64 i))],[]⟩) (fun i=>a.length-i) [] 0 (by simp) ?_ ?_;·simp
   ·rintro i ⟨hi,ht⟩;have w2:IntKind.i64.wrap ((i:Int)+1)=(i:Int)+1:=wrap_i64 (by omega);by_cases hlt:i<a.length
    ·have r1:=bq hlt;have hr:mL ks a[i]=false→∀v∈a.take (i+1),mL ks v=false:=by
      intro h0 e he;rw[List.take_succ_eq_append_getElem hlt,List.mem_append]at he;rcases he with he|he;·exact ht e he
      ·rw[List.mem_singleton]at he;rw[he];exact h0
     simp(config := { maxSteps := 3000000 }) [w2,hlt,r1,CM];refine⟨hks,fun h=>(OZ hlt (by simp[mL,h]) ht).symm,fun h=>⟨i+1,⟨by omega,hr (by simp[mL,h])⟩,by omega,by omega⟩⟩
    ·simp(config := { maxSteps := 3000000 }) [hlt];rw[List.take_of_length_le (by omega)]at ht;exact(Ay ht).symm
  ·cases h
 ·cases h
theorem pR (l:List Vn) (i:Nat) (e:Vn):(az l).set i [.int .u64 e.n,.int .u64 e.b,.int .u64 e.p,.int .u64 e.i,.int .u64 e.s,.int .u64 e.z,.int .u64 e.m,.str e.t,.bool e.inl,.bool e.eG]=az (l.set i e):=by unfold az;rw[List.map_set];rfl
def RH (ks:List PV) (l:List Vn):List Vn:=l.filter fun v=>!mL ks v
@[simp] noncomputable def KQ:List AV→Option (Prop×AV)|[.fr e a,.bo f [.rp [.mp ks]]]=>if e=108∧f=196 then(dec cL a).map fun l=>(l.length≤1000000∧∀x∈ks,dk x=9,.fr 108 (az (RH ks l))) else none|_=>none
theorem NL:m7 Tryz.prog 195 KQ:=by
 intro ys φ r h hφ;unfold KQ at h;split at h
 ·rename_i e ra f ks;split at h
  ·rename_i hef;obtain⟨rfl,rfl⟩:=hef;obtain⟨a,ha,h⟩:=Option.map_eq_some_iff.1 h;cases h;cases aF ha;obtain⟨hl6,hks⟩:=hφ;refine mn (ag aal (ag LS ah)) (by kernel_rfl) (by conv=>lhs;reduce) (by simp) (by simp[cP,lZ,iA]) (by simp) ?_;have hl9:a.length≤1000000000:=by omega
   have isfn3:=CM;by_cases hr:a.any (mL ks)=true
   ·have hw:0≤GJ (mL ks) a:=(Ib _ _).2 hr;obtain⟨k,hk⟩:=Int.eq_ofNat_of_zero_le hw;obtain⟨hkl,hkf⟩:=Cb hk;have hne:¬((k:Int)=-1):=by omega
    have w1:IntKind.i64.wrap ((k:Int)+1)=(k:Int)+1:=wrap_i64 (by omega);simp(config := { maxSteps := 3000000 }) [hk,hne,w1,hl9];refine⟨hks,?_⟩;refine al (fun x:Nat×Nat×List Vn=>x.1<x.2.1∧x.2.1≤a.length∧x.2.2.length=a.length∧x.2.2.take x.1=(a.take x.2.1).filter (fun e=>!mL ks e)∧x.2.2.drop x.2.1=a.drop x.2.1) (fun x=>⟨[(0,.own 998),(1,.bo 196 [.rp [.mp ks]]),(5,.pv (.int .i64 x.1)),(6,.pv (.int .i64 x.2.1))],[(998,.arr 108 (az x.2.2))]⟩) (fun x=>a.length-x.2.1) [] (k,k+1,a) ?_ ?_ ?_;·exact⟨by simp,by simp;omega,rfl,by simp[hkf],rfl⟩
    ·simp
    ·rintro⟨i,j,b⟩ ⟨h1,h2,h3,h4,h5⟩;dsimp only at h1 h2 h3 h4 h5;have w2:IntKind.i64.wrap ((j:Int)+1)=(j:Int)+1:=wrap_i64 (by omega);have w3:IntKind.i64.wrap ((i:Int)+1)=(i:Int)+1:=wrap_i64 (by omega);by_cases hlt:j<a.length
     ·have hjb:j<b.length:=by omega
      have hib:i<b.length:=by omega
      have hbj:b[j]=a[j]:=by have e1:=List.drop_eq_getElem_cons hjb;have e2:=List.drop_eq_getElem_cons hlt;rw[h5,e2]at e1;injection e1 with e1 _;exact e1.symm
      have r1:=bq hjb;rw[hbj]at r1;have r2:=bq hib;have hib':(i:Int)<a.length:=by omega
      have hdrop:∀e,(b.set i e).drop (j+1)=a.drop (j+1):=by
       intro e;rw[List.drop_set_of_lt (by omega)];have e1:(b.drop j).drop 1=(a.drop j).drop 1:=by rw[h5]
       simpa[List.drop_drop]using e1
      by_cases hq:mL ks a[j]=true
      ·have hq':D0 ks a[j].n=false:=by simpa[mL]using hq
       simp(config := { maxSteps := 3000000 }) [w2,w3,hlt,hjb,r1,r2,h3,hq',pR,hib',isfn3];refine⟨hks,i,j+1,b,⟨by omega,by omega,h3,?_,?_⟩,⟨⟨rfl,by omega⟩,rfl⟩,by omega⟩;·rw[List.take_succ_eq_append_getElem hlt,List.filter_append,←h4];simp[hq]
       ·have e1:(b.drop j).drop 1=(a.drop j).drop 1:=by rw[h5]
        simpa[List.drop_drop]using e1
      ·have hq0:mL ks a[j]=false:=by simpa using hq
       have hq':D0 ks a[j].n=true:=by simpa[mL]using hq
       simp(config := { maxSteps := 3000000 }) [w2,w3,hlt,hjb,r1,r2,h3,hq',pR,hib',isfn3];refine⟨hks,by omega,i+1,j+1,b.set i a[j],⟨by omega,by omega,by simp[h3],?_,hdrop _⟩,⟨⟨by omega,by omega⟩,rfl⟩,by omega⟩;rw[List.take_succ_eq_append_getElem hlt,List.filter_append,←h4,List.take_succ_eq_append_getElem (by simp;omega)];simp[hq0,List.take_set_of_le]
     ·simp(config := { maxSteps := 3000000 }) [hlt,h3];have hja:j=a.length:=by omega
      subst hja;rw[List.take_length]at h4;have h3r:=mC b;refine⟨⟨by omega,h3r⟩,⟨by omega,?_⟩,?_⟩
      ·rintro x (hx|⟨_,rfl⟩|hx);·exact h3r x (List.mem_of_mem_take hx)
       ·rfl
       ·exact h3r x (List.mem_of_mem_drop hx)
      ·rw[List.take_append_of_le_length (by simp;omega),List.take_take,Nat.min_self];unfold RH;rw[←h4];simp[az,List.map_take]
   ·have hw:GJ (mL ks) a=-1:=by apply Ay;have:=hr;simp only[List.any_eq_true,not_exists,not_and]at this;intro e he;simpa using this e he
    have hfil:RH ks a=a:=by unfold RH;rw[List.filter_eq_self];intro e he;have:=hr;simp only[List.any_eq_true,not_exists,not_and]at this;simpa using this e he
    simp(config := { maxSteps := 3000000 }) [hw,hfil,hl9];exact hks
  ·cases h
 ·cases h
def py (c:Int) (cq:List Int) (v:Vn):Vn:={v with eG:=v.eG||(!decide (v.n=c)&&!HR cq v.n)}
def mN (l:List Vn):Int:=((yi l).getD v0).n
def uJ (l:List Vn) (cq:List Int):List Vn:=l.map (py (mN l) cq)
def Ag (o:List Vn) (n:Int):Bool:=(List.range o.length).any fun k=>!(FP o k).eG&&(fG o o.length k).any fun w=>decide (w.n=n)
def mu (l:List Vn) (cq:List Int):List Vn:=if bQ l=false then[] else(uJ l cq).filter fun v=>Ag (uJ l cq) v.n
theorem JG {f:Vn→Vn} (hf:∀v,(f v).n=v.n) (l:List Vn) (n:Int):tz (l.map f) n=tz l n:=by
 unfold tz;rw[List.findIdx_map];have:((fun v:Vn=>decide (v.n=n))∘f)=fun v:Vn=>decide (v.n=n):=by funext v;simp[hf]
 rw[this,List.length_map]
theorem D6 {f:Vn→Vn} (hf:∀v,(f v).n=v.n) (hb:∀v,cY (f v)=cY v) (l:List Vn):bQ (l.map f)=bQ l:=by
 have key:∀i,i<l.length→jb (l.map f) i=jb l i:=by
  intro i hi;have h1:(l.map f)[i]?=some (f l[i]):=by simp[hi]
  have h2:l[i]?=some l[i]:=List.getElem?_eq_getElem hi;have h3:fL (l.map f) i=fL l i:=by unfold fL;cases i with|zero=>rfl|succ i=>
   have hi':i<l.length:=by omega
   simp[hi',hf]
  unfold jb;rw[h1,h2,h3];simp only[Option.getD_some,hf,hb];rw[←List.map_take,JG hf]
 unfold bQ;rw[List.length_map];have:∀l':List Nat,(∀i∈l',i<l.length)→l'.all (jb (l.map f))=l'.all (jb l):=by intro l';induction l' with|nil=>intro _;rfl|cons x l' ih=>intro h;simp only[List.all_cons];rw[key x (h x (by simp)),ih fun i hi=>h i (by simp[hi])]
 exact this _ fun i hi=>List.mem_range.1 hi
theorem ET (l:List Vn) (cq:List Int):bQ (uJ l cq)=bQ l:=D6 (f:=py (mN l) cq) (fun _=>rfl) (fun _=>rfl) l
theorem JP {l:List Vn} (h:∀v∈l,jC v) (cq:List Int):∀v∈uJ l cq,jC v:=by intro v hv;obtain⟨w,hw,rfl⟩:=List.mem_map.1 hv;exact h w hw
theorem GM (l:List Vn) (cq:List Int):(uJ l cq).length=l.length:=by simp[uJ]
def tF (ns:List Int):List (PV×AV):=ns.map fun n=>(.int .u64 n,.agg [])
def B6 (n:Int) (ns:List Int):List Int:=if n∈ns then ns else ns++[n]
theorem yC (n:Int):∀ns:List Int,iY (.int .u64 n) (.agg []) (tF ns)=tF (B6 n ns)
 |[]=>by simp[tF,B6,iY]|m::ns=>by
  have ih:=yC n ns;unfold tF at ih ⊢;simp only[List.map_cons,iY,mm];by_cases h:n=m;·subst h;simp[B6]
  ·have h':decide (n=m)=false:=by simpa using h
   simp only[h',Bool.false_eq_true,if_false,ih];unfold B6;by_cases hn:n∈ns;·simp[hn]
   ·simp[hn,h]
theorem DB (ns:List Int):fV 9 (tF ns):=by intro e he;obtain⟨n,_,rfl⟩:=List.mem_map.1 he;rfl
theorem D5 (ns:List Int):(tF ns).all (fun e=>Ck e.2)=true:=by rw[List.all_eq_true];intro e he;obtain⟨n,_,rfl⟩:=List.mem_map.1 he;rfl
def vk (ns:List Int):List PV:=ns.map (.int .u64)
theorem Hf (ns:List Int):(tF ns).map (·.1)=vk ns:=by simp[tF,vk]
theorem EV (ns:List Int):∀x∈vk ns,dk x=9:=by intro x hx;obtain⟨n,_,rfl⟩:=List.mem_map.1 hx;rfl
theorem Et (ns:List Int) (n:Int):D0 (vk ns) n=decide (n∈ns):=by unfold D0 vk;induction ns with|nil=>simp|cons m ns ih=>simp only[List.map_cons,List.any_cons,ih,mm,List.mem_cons];by_cases h:n=m<;>simp[h]
theorem G5 (m n:Int) (ns:List Int):m∈B6 n ns↔m=n∨m∈ns:=by
 unfold B6;split;·rename_i h;exact⟨.inr,fun h'=>h'.elim (fun e=>e▸h) id⟩
 ·simp only[List.mem_append,List.mem_singleton];exact⟨fun h=>h.elim .inr .inl,fun h=>h.elim .inr .inl⟩
def sK (o:List Vn) (v:Vn):List Int:=(gy o v.n).1.map (·.n)
theorem Hu {o:List Vn} (hr:bQ o=true) (n:Int):Ag o n=true↔∃v∈aW o,n∈sK o v:=by
 unfold Ag;simp only[List.any_eq_true,List.mem_range,Bool.and_eq_true,Bool.not_eq_true',decide_eq_true_eq];constructor
 ·rintro⟨k,hk,hh,w,hw,hn⟩;rw[lr hk]at hh;have hs:o[k]∈aW o:=by unfold aW;simp[hh]
  refine⟨o[k],hs,?_⟩;have hg:∃v,lp o o[k].n=some v:=by unfold lp;cases hf:(aW o).find? fun v=>decide (v.n=o[k].n) with|some v=>exact⟨v,rfl⟩|none=>rw[List.find?_eq_none]at hf;exact absurd (decide_eq_true rfl) (hf _ hs)
  obtain⟨v,hg⟩:=hg;obtain⟨i,hi,hv,hvn⟩:=get_at hg;have hp:gy o o[k].n=(fG o o.length k,0):=by simp only[gy,hr,hg];rw[if_neg (by simp),hvn,xA hr hk,Int.toNat_natCast]
  unfold sK;rw[hp];exact List.mem_map.2 ⟨w,hw,hn⟩
 ·rintro⟨v,hv,hn⟩;have hv':v∈o∧v.eG=false:=by unfold aW at hv;simpa using hv
  obtain⟨k,hk,rfl⟩:=List.getElem_of_mem hv'.1;have hg:∃v,lp o o[k].n=some v:=by unfold lp;cases hf:(aW o).find? fun v=>decide (v.n=o[k].n) with|some v=>exact⟨v,rfl⟩|none=>rw[List.find?_eq_none]at hf;exact absurd (decide_eq_true rfl) (hf _ hv)
  obtain⟨v,hg⟩:=hg;obtain⟨i,hi,hv1,hvn⟩:=get_at hg;have hp:gy o o[k].n=(fG o o.length k,0):=by simp only[gy,hr,hg];rw[if_neg (by simp),hvn,xA hr hk,Int.toNat_natCast]
  unfold sK at hn;rw[hp]at hn;obtain⟨w,hw,hwn⟩:=List.mem_map.1 hn;exact⟨k,hk,by rw[lr hk];exact hv'.2,w,hw,hwn⟩
theorem EP {o:List Vn} (n:Int):(gy o n).1.length≤o.length+1:=by
 unfold gy;split;·simp
 ·split;·simp
  ·exact vH _ _
def nw (f:Vn→Vn) (a:List Vn) (i:Nat):List Vn:=(a.take i).map f++a.drop i
theorem yU (f:Vn→Vn) (a:List Vn) (i:Nat):(nw f a i).length=a.length:=by simp[nw];omega
theorem Gs (f:Vn→Vn) {a:List Vn}{i:Nat} (h:i<a.length):(nw f a i).set i (f a[i])=nw f a (i+1):=by unfold nw;rw[List.set_append,if_neg (by simp;omega)];simp only[List.length_map,List.length_take];rw[Nat.min_eq_left (show i≤a.length by omega),Nat.sub_self,List.drop_eq_getElem_cons h,List.set_cons_zero,List.take_succ_eq_append_getElem h,List.map_append];simp only[List.map_cons,List.map_nil,List.append_assoc,List.cons_append,List.nil_append]
theorem J9 (f:Vn→Vn) {a:List Vn}{i:Nat} (h:i<a.length):(nw f a i)[i]'(by rw[yU];exact h)=a[i]:=by unfold nw;rw[List.getElem_append_right (by simp;omega)];simp only[List.length_map,List.length_take,Nat.min_eq_left (show i≤a.length by omega),Nat.sub_self];simp
@[simp] noncomputable def C2 (e:TypeId):List AV→Option (Prop×AV)|[.pv (.ro a),.pv (.ro k)]=>(dec cL a).bind fun l=>(dec uY k).map fun ks=>(l.length≤100000∧ks.length≤1000000∧(∀v∈l,jC v),.fr e (az (mu l ks)))|_=>none
theorem Ft:aN Tryz.prog 176 (C2 108):=by
 intro ys φ r h hφ;unfold C2 at h;split at h
 ·rename_i ra rk;obtain⟨a,ha,h⟩:=Option.bind_eq_some_iff.1 h;obtain⟨ks,hk,h⟩:=Option.map_eq_some_iff.1 h;cases h;cases aF ha;cases ju hk;obtain⟨hl5,hk6,hov⟩:=hφ;have hl9:a.length≤1000000000:=by omega
  have hl6:a.length≤1000000:=by omega
  have hk9:ks.length≤1000000000:=by omega
  have fl:∀l,bz (az l):=aP;refine aq (ag Fj (ag Ci (ag c_Cv (ag Y8 (ag ym (ag NG (eD (p:=0) (k:=998) NL (by kernel_rfl) ah))))))) (by kernel_rfl) (by conv=>lhs;reduce) (by simp) ?_;cases hr:bQ a with
  |false=>
   have hp:mu a ks=[]:=by simp[mu,hr]
   simp(config := { maxSteps := 3000000 }) [hl9,hr,hp]|true=>
  have hp:mu a ks=(uJ a ks).filter fun v=>Ag (uJ a ks) v.n:=by simp[mu,hr]
  rw[hp];have hrO:=(ET a ks).trans hr;have hovO:=JP hov ks;have hlO:=GM a ks;have hO:uJ a ks=a.map (py (mN a) ks):=rfl;have hcur:((yi a).getD v0).n=mN a:=rfl;generalize uJ a ks=O at hrO hovO hlO hO;generalize hcc:(yi a).getD v0=cc at hcur;simp(config := { maxSteps := 3000000 }) [hl9,hl6,hr,hcc,cT];refine al (fun i:Nat=>i≤a.length) (fun i=>⟨[(1,.pv (.ro (lQ ks))),(5,.own 21),(6,.ptr 6 0),(27,.own 21),(28,.pv (.int .i64 a.length)),(29,.pv (.int .i64 i))],[(21,.arr 108 (az (nw (py (mN a) ks) a i))),(6,.box (cT cc))]⟩) (fun i=>a.length-i) [] 0 (by simp) ?_ ?_;·simp[nw,cT]
  ·rintro i hi;have w2:IntKind.i64.wrap ((i:Int)+1)=(i:Int)+1:=wrap_i64 (by omega);have hml:=yU (py (mN a) ks) a i;by_cases hlt:i<a.length
   ·have r1:=bq (l:=nw (py (mN a) ks) a i) (i:=i) (by omega);rw[J9 _ hlt]at r1;have hst:=Gs (py (mN a) ks) hlt;have hrs:=fun e=>pR (nw (py (mN a) ks) a i) i e;have hfin:∀b,b=(py (mN a) ks a[i]).eG→(az (nw (py (mN a) ks) a i)).set i [.int .u64 a[i].n,.int .u64 a[i].b,.int .u64 a[i].p,.int .u64 a[i].i,.int .u64 a[i].s,.int .u64 a[i].z,.int .u64 a[i].m,.str a[i].t,.bool a[i].inl,.bool b]=az (nw (py (mN a) ks) a (i+1)):=by intro b hb;rw[←hst,←hrs];subst hb;rfl
    have hhid:(py (mN a) ks a[i]).eG=(a[i].eG||(!decide (a[i].n=mN a)&&!HR ks a[i].n)):=rfl;cases hh:a[i].eG with|true=>rw[hh]at r1 hhid;simp(config := { maxSteps := 3000000 }) [w2,hlt,hml,r1,cT];exact⟨i+1,by omega,⟨by omega,hfin _ (by rw[hhid];rfl)⟩,by omega⟩|false=>
     rw[hh]at r1 hhid;by_cases hn:a[i].n=mN a;·simp(config := { maxSteps := 3000000 }) [w2,hlt,hml,r1,cT,hcur,hn];refine⟨i+1,by omega,⟨by omega,?_⟩,by omega⟩;rw[←hfin false (by rw[hhid];simp[hn]),hn]
     ·simp(config := { maxSteps := 3000000 }) [w2,hlt,hml,r1,cT,hcur,hn];exact⟨hk9,i+1,by omega,⟨by omega,hfin _ (by rw[hhid];simp[hn])⟩,by omega⟩
   ·have hie:i=a.length:=by omega
    subst hie;have hmx:nw (py (mN a) ks) a a.length=O:=by rw[hO];unfold nw;simp
    rw[hmx];have hm1:(Value.map none).oneCell'=true:=rfl;have hm2:cv (Value.map none)=.pv (.val (.map none)):=rfl;have hlO6:O.length≤1000000:=by omega
    simp(config := { maxSteps := 3000000 }) [cT,hm1,hm2,hlO6,fl];have hs6:(aW O).length≤1000000:=Nat.le_trans (List.length_filter_le _ _) hlO6;have hO5:O.length≤100000:=by omega
    refine al (fun x:Nat×List Int=>x.1≤(aW O).length∧∀n,n∈x.2↔∃v∈(aW O).take x.1,n∈sK O v) (fun x=>⟨[(5,.own 21),(10,.ptr 10 0),(57,.own 57),(58,.pv (.int .i64 (aW O).length)),(59,.pv (.int .i64 x.1))],[(57,.arr 108 (az (aW O))),(10,.box [.own 55]),(55,.map (tF x.2)),(21,.arr 108 (az O))]⟩) (fun x=>(aW O).length-x.1) [] (0,[]) ?_ ?_ ?_;·exact⟨by simp,by simp⟩
    ·simp[tF]
    ·rintro⟨j,ns⟩ ⟨hj,hns⟩;dsimp only at hj hns;have w4:IntKind.i64.wrap ((j:Int)+1)=(j:Int)+1:=wrap_i64 (by omega);by_cases hjl:j<(aW O).length
     ·have r2:=bq hjl;have hpl:=EP (o:=O) (aW O)[j].n;have hpN:sK O (aW O)[j]=(gy O (aW O)[j].n).1.map (fun v:Vn=>v.n):=rfl;have hnext:∀ns':List Int,(∀n:Int,n∈ns'↔n∈ns∨n∈sK O (aW O)[j])→∀n:Int,n∈ns'↔∃v∈(aW O).take (j+1),n∈sK O v:=by
       intro ns' hn' n;rw[hn',hns,List.take_succ_eq_append_getElem hjl];constructor
       ·rintro(⟨v,hv,hm⟩|hm);·exact⟨v,List.mem_append.2 (.inl hv),hm⟩
        ·exact⟨_,List.mem_append.2 (.inr (List.mem_singleton.2 rfl)),hm⟩
       ·rintro⟨v,hv,hm⟩;rw[List.mem_append,List.mem_singleton]at hv;rcases hv with hv|rfl;·exact .inl ⟨v,hv,hm⟩
        ·exact .inr hm
      simp(config := { maxSteps := 3000000 }) [w4,hjl,r2,fl,hO5,hovO];generalize hW:(gy O (aW O)[j].n).1=W at hpl hpN;refine⟨hovO,?_⟩;refine al (fun x:Nat×List Int=>x.1≤W.length∧∀n,n∈x.2↔n∈ns∨n∈(W.take x.1).map (fun v:Vn=>v.n)) (fun x=>⟨[(5,.own 21),(10,.ptr 10 0),(57,.own 57),(58,.pv (.int .i64 (aW O).length)),(59,.pv (.int .i64 j)),(70,.own 67),(71,.pv (.int .i64 W.length)),(72,.pv (.int .i64 x.1))],[(67,.arr 108 (az W)),(57,.arr 108 (az (aW O))),(10,.box [.own 55]),(55,.map (tF x.2)),(21,.arr 108 (az O))]⟩) (fun x=>W.length-x.1) [] (0,ns) ?_ ?_ ?_;·exact⟨by simp,by simp⟩
      ·simp
      ·rintro⟨k,ms⟩ ⟨hk',hms⟩;dsimp only at hk' hms;have w5:IntKind.i64.wrap ((k:Int)+1)=(k:Int)+1:=wrap_i64 (by omega);have hks9:=DB ms;by_cases hkl:k<W.length
       ·have r3:=bq hkl;have hput:=yC W[k].n ms;simp(config := { maxSteps := 3000000 }) [w5,hkl,r3,hks9,hput];refine⟨k+1,B6 W[k].n ms,⟨by omega,fun n=>?_⟩,⟨by omega,rfl⟩,by omega⟩;rw[G5,hms,←List.map_take,List.take_succ_eq_append_getElem hkl];simp only[List.map_append,List.map_cons,List.map_nil,List.mem_append,List.mem_singleton];constructor
        ·rintro(h|h|h);·exact .inr (.inr h)
         ·exact .inl h
         ·exact .inr (.inl h)
        ·rintro(h|h|h);·exact .inr (.inl h)
         ·exact .inr (.inr h)
         ·exact .inl h
       ·have hke:k=W.length:=by omega
        subst hke;simp(config := { maxSteps := 3000000 }) [w4,hjl];exact⟨j+1,ms,⟨by omega,hnext ms fun n=>by rw[hms,List.take_length,hpN]⟩,⟨by omega,rfl⟩,by omega⟩
     ·have hje:j=(aW O).length:=by omega
      subst hje;rw[List.take_length]at hns;have hun:=D5 ns;have hfs:=Hf ns;have hkk:=EV ns;have hin:RH (vk ns) O=O.filter fun v=>Ag O v.n:=by unfold RH;congr 1;funext v;simp only[mL,Et,Bool.not_not];rw[Bool.eq_iff_iff,decide_eq_true_eq,hns,Hu hrO]
      have hkm:∀t es,dJ t (.map es)=.map es:=fun _ _=>rfl;simp(config := { maxSteps := 3000000 }) [hun,hfs,hin,hlO6,fl,hkm];exact hkk
 ·cases h
def pJ (a:Ap):Ap×Bool:=(⟨a.l,(AX a.ps a.r.v).1,a.vs,a.sl,a.r,a.n,a.s⟩,decide ((AX a.ps a.r.v).2=0))
def DH (a:Ap):Ap×Bool:=(⟨a.l,(AT a.ps ⟨a.n,a.r.v,a.r.u⟩).1,a.vs,a.sl,a.r,a.n,a.s⟩,(lp a.vs a.r.v).isSome&&decide ((AT a.ps ⟨a.n,a.r.v,a.r.u⟩).2=0))
def vJ (a:Ap):Vn:=⟨a.n,a.r.v,a.r.p,a.r.i,a.r.s,a.r.z,a.r.m,[],false,false⟩
def mi (a:Ap):Ap×Bool:=(⟨a.l,a.ps,(gB a.vs (vJ a)).1,a.sl,a.r,a.n,a.s⟩,!a.sl&&nY a.l a.r.p a.r.i a.r.e&&decide ((gB a.vs (vJ a)).2=0))
noncomputable def jS (a:Ap):Ap×Bool:=(⟨a.l,kT a.ps a.r.c a.s,mu a.vs (wx ((kT a.ps a.r.c a.s).map Pn.v)),a.sl,a.r,a.n,a.s⟩,true)
theorem Fs:dr Tryz.prog 147 (AP (fun a=>a.ps.length≤100000) pJ):=by
 intro ys φ r h hφ;unfold AP at h;split at h;·obtain⟨a,ha,h⟩:=Option.map_eq_some_iff.1 h;cases h;cases dQ ha;obtain⟨⟨e,p,i,u,h'⟩,ps,vs,sl,⟨k,rp,ri,rs,re,ru,rv,rc,rz,rm,rn,rt⟩,n,s⟩:=a;refine bU (ag Pq ah) (by kernel_rfl) (by conv=>lhs;reduce) (by simp) rfl (by simp[nF]) ?_;have h1:ps.length≤100000:=hφ;simp(config := { maxSteps := 3000000 }) [nF,pJ,h1,aY]
 ·cases h
theorem MP:dr Tryz.prog 146 (AP (fun a=>a.ps.length≤1000000∧a.vs.length≤1000000) DH):=by
 intro ys φ r h hφ;unfold AP at h;split at h;·obtain⟨a,ha,h⟩:=Option.map_eq_some_iff.1 h;cases h;cases dQ ha;obtain⟨⟨e,p,i,u,h'⟩,ps,vs,sl,⟨k,rp,ri,rs,re,ru,rv,rc,rz,rm,rn,rt⟩,n,s⟩:=a;refine bU (ag NH (ag N3 ah)) (by kernel_rfl) (by conv=>lhs;reduce) (by simp) rfl (by simp[nF]) ?_;obtain⟨h1,h2⟩:=hφ;have h1:ps.length≤1000000:=h1;have h2:vs.length≤1000000:=h2;simp(config := { maxSteps := 3000000 }) [nF,DH,h1,h2,aY,cT]
 ·cases h
theorem EJ:dr Tryz.prog 145 (AP (fun a=>a.vs.length≤100000∧(∀v∈a.vs,jC v)∧jC (vJ a)) mi):=by
 intro ys φ r h hφ;unfold AP at h;split at h
 ·obtain⟨a,ha,h⟩:=Option.map_eq_some_iff.1 h;cases h;cases dQ ha;obtain⟨⟨e,p,i,u,h'⟩,ps,vs,sl,⟨k,rp,ri,rs,re,ru,rv,rc,rz,rm,rn,rt⟩,n,s⟩:=a;refine bU (ag Oi (ag O9 ah)) (by kernel_rfl) (by conv=>lhs;reduce) (by simp) rfl (by simp[nF]) ?_;obtain⟨h1,h2,h3⟩:=hφ;have h1:vs.length≤100000:=h1;have h2:∀v∈vs,jC v:=h2;have h3:jC ⟨n,rv,rp,ri,rs,rz,rm,[],false,false⟩:=h3;cases sl<;>simp(config := { maxSteps := 3000000 }) [nF,mi,vJ,h1,h3,aP];·exact⟨⟨h2,h3⟩,rfl⟩
  ·exact⟨h2,h3⟩
 ·cases h
theorem BB:dr Tryz.prog 149 (AP (fun a=>a.ps.length<50∧(∀e∈a.ps,ko e)∧cU a.r.c∧cU a.s∧a.vs.length≤100000∧∀v∈a.vs,jC v) jS):=by
 intro ys φ r h hφ;unfold AP at h;split at h
 ·obtain⟨a,ha,h⟩:=Option.map_eq_some_iff.1 h;cases h;cases dQ ha;obtain⟨⟨e,p,i,u,h'⟩,ps,vs,sl,⟨k,rp,ri,rs,re,ru,rv,rc,rz,rm,rn,rt⟩,n,s⟩:=a;refine bU (ag Od (ag c_pV (ag Ft ah))) (by kernel_rfl) (by conv=>lhs;reduce) (by simp) rfl (by simp[nF]) ?_;obtain⟨h1,h2,h3,h4,h5,h6⟩:=hφ;have h1:ps.length<50:=h1;have h3:cU rc:=h3;have h4:cU s:=h4;have h5:vs.length≤100000:=h5;have h7:ps.length≤1000000:=by omega
  have h8:(kT ps rc s).length<50:=by have:=List.length_filter_le (fun e=>!ji rc s e) ps;unfold kT;omega
  have h9:(wx ((kT ps rc s).map Pn.v)).length≤1000000:=by have:=Dz ((kT ps rc s).map Pn.v);rw[List.length_map]at this;omega
  have hU:∀l:List Int,cC l=lQ l:=fun _=>rfl;have fU:∀l:List Int,bz (lQ l):=Bw;have h10:∀e∈ps,cU e.u:=fun e he=>(h2 e he).2.2;have h11:(∀e∈ps,cU e.u)=True:=eq_true h10;simp(config := { maxSteps := 3000000 }) [nF,jS,h1,h3,h4,h5,h7,h8,h9,hU,fU,aY,aP];exact⟨h10,h6⟩
 ·cases h
noncomputable def doA (a:Ap):Option (Ap×Bool):=if a.r.k=1 then some (nh a) else if a.r.k=2 then some (pn a) else if a.r.k=3 then some (jY a) else if a.r.k=4 then some (mi a) else if a.r.k=5 then some (DH a) else if a.r.k=6 then some (pJ a) else if a.r.k=7 then some (wE a) else if a.r.k=8 then some (jS a) else none
def bT (a:Ap):List AV:=[.pv (.int .u64 a.l.e),.pv (.int .u64 a.l.p),.pv (.int .u64 a.l.i),.pv (.int .u64 a.l.u),.pv (.bool a.l.h),.fr 134 (aw a.ps),.fr 108 (az a.vs),.pv (.bool a.sl)]
noncomputable def dn (a:Ap):Ap×Int:=match doA a with|none=>(a,220)|some x=>if cg a.r=true∧x.2=true then(x.1,0) else(a,220)
def okA (a:Ap):Prop:=cU a.l.e∧a.ps.length<50∧a.vs.length≤100000∧(∀e∈a.ps,ko e)∧(∀v∈a.vs,jC v)∧cU a.r.c∧cU a.s∧jC (vJ a)
noncomputable def PN:List AV→Option (Prop×AV)|[.agg [.pv (.int .u64 e),.pv (.int .u64 p),.pv (.int .u64 i),.pv (.int .u64 u),.pv (.bool h),.pv (.ro a),.pv (.ro b),.pv (.bool sl)],.agg [.pv (.int .u8 k),.pv (.int .u64 rp),.pv (.int .u64 ri),.pv (.int .u64 rs),.pv (.int .u64 re),.pv (.int .u64 ru),.pv (.int .u64 rv),.pv (.int .u64 rc),.pv (.int .u64 rz),.pv (.int .u64 rm),.pv (.str rn),.pv (.str rt)],.pv (.int .u64 n),.pv (.int .u64 s)]=>(dec rowP a).bind fun ps=>(dec cL b).map fun vs=>(okA ⟨⟨e,p,i,u,h⟩,ps,vs,sl,⟨k,rp,ri,rs,re,ru,rv,rc,rz,rm,rn,rt⟩,n,s⟩,.aJ [.agg (bT (dn ⟨⟨e,p,i,u,h⟩,ps,vs,sl,⟨k,rp,ri,rs,re,ru,rv,rc,rz,rm,rn,rt⟩,n,s⟩).1),.pv (.int .i64 (dn ⟨⟨e,p,i,u,h⟩,ps,vs,sl,⟨k,rp,ri,rs,re,ru,rv,rc,rz,rm,rn,rt⟩,n,s⟩).2)])|_=>none
theorem VU:aN Tryz.prog 64 PN:=by
 intro ys φ r h hφ;unfold PN at h;split at h
 ·rename_i e p i u h' ra rb sl k rp ri rs re ru rv rc rz rm rn rt n s;obtain⟨ps,hp,h⟩:=Option.bind_eq_some_iff.1 h;obtain⟨vs,hv,h⟩:=Option.map_eq_some_iff.1 h;cases h;cases aE hp;cases aF hv;obtain⟨h1,h2,h3,h4,h5,h6,h7,h8⟩:=hφ;have h2:ps.length<50:=h2;have h3:vs.length≤100000:=h3;have h9:ps.length≤100000:=by omega
  refine aq (ag Ko (ag NM (ag CI (ba (ks:=[2]) Gu (by kernel_rfl) (ba (ks:=[2]) FM (by kernel_rfl) (ba (ks:=[2]) BW (by kernel_rfl) (ba (ks:=[2]) EJ (by kernel_rfl) (ba (ks:=[2]) MP (by kernel_rfl) (ba (ks:=[2]) Fs (by kernel_rfl) (ba (ks:=[2]) Ia (by kernel_rfl) (ba (ks:=[2]) BB (by kernel_rfl) ah))))))))))) (by kernel_rfl) (by conv=>lhs;reduce) (by simp) ?_;apply af;·simp(config := { maxSteps := 3000000 });exact⟨rfl,rfl⟩
  apply af;·simp(config := { maxSteps := 3000000 }) [h9,h3];exact⟨rfl,rfl⟩
  have hE:cU e:=h1;have hP:(∀e∈ps,ko e)=True:=eq_true h4;have hV:(∀v∈vs,jC v)=True:=eq_true h5;have hC:cU rc:=h6;have hS:cU s:=h7;have hP6:ps.length≤1000000:=by omega
  have hV6:vs.length≤1000000:=by omega
  clear hp hv;have hk:k=1∨k=2∨k=3∨k=4∨k=5∨k=6∨k=7∨k=8∨((k≠1∧k≠2∧k≠3∧k≠4)∧k≠5∧k≠6∧k≠7∧k≠8):=by omega
  rcases hk with rfl|rfl|rfl|rfl|rfl|rfl|rfl|rfl|⟨⟨k1,k2,k3,k4⟩,k5,k6,k7,k8⟩
  ·have hA:dn ⟨⟨e,p,i,u,h'⟩,ps,vs,sl,⟨1,rp,ri,rs,re,ru,rv,rc,rz,rm,rn,rt⟩,n,s⟩=if cg ⟨1,rp,ri,rs,re,ru,rv,rc,rz,rm,rn,rt⟩=true∧(nh ⟨⟨e,p,i,u,h'⟩,ps,vs,sl,⟨1,rp,ri,rs,re,ru,rv,rc,rz,rm,rn,rt⟩,n,s⟩).2=true then((nh ⟨⟨e,p,i,u,h'⟩,ps,vs,sl,⟨1,rp,ri,rs,re,ru,rv,rc,rz,rm,rn,rt⟩,n,s⟩).1,0) else(⟨⟨e,p,i,u,h'⟩,ps,vs,sl,⟨1,rp,ri,rs,re,ru,rv,rc,rz,rm,rn,rt⟩,n,s⟩,220):=rfl;rw[hA];apply af;·simp(config := { maxSteps := 3000000 }) [kN,yr];exact⟨rfl,rfl,rfl⟩
   generalize hx:nh ⟨⟨e,p,i,u,h'⟩,ps,vs,sl,⟨1,rp,ri,rs,re,ru,rv,rc,rz,rm,rn,rt⟩,n,s⟩=x;obtain⟨⟨⟨e',p',i',u',h''⟩,ps',vs',sl',⟨k',rp',ri',rs',re',ru',rv',rc',rz',rm',rn',rt'⟩,n',s'⟩,b⟩:=x;rw[bg];cases hR:cg ⟨1,rp,ri,rs,re,ru,rv,rc,rz,rm,rn,rt⟩ with
   |false=>
    apply af;·simp(config := { maxSteps := 3000000 }) [hR];exact⟨rfl,rfl⟩
    simp(config := { maxSteps := 3000000 }) [hR,h9,h3,bT]|true=>
    apply af;·simp(config := { maxSteps := 3000000 }) [hR,hx,nF,hE];exact⟨by kernel_rfl,rfl,rfl⟩
    cases b with|false=>simp(config := { maxSteps := 3000000 }) [hR,h9,h3,bT]|true=>simp(config := { maxSteps := 3000000 }) [hR,bT]
  ·have hA:dn ⟨⟨e,p,i,u,h'⟩,ps,vs,sl,⟨2,rp,ri,rs,re,ru,rv,rc,rz,rm,rn,rt⟩,n,s⟩=if cg ⟨2,rp,ri,rs,re,ru,rv,rc,rz,rm,rn,rt⟩=true∧(pn ⟨⟨e,p,i,u,h'⟩,ps,vs,sl,⟨2,rp,ri,rs,re,ru,rv,rc,rz,rm,rn,rt⟩,n,s⟩).2=true then((pn ⟨⟨e,p,i,u,h'⟩,ps,vs,sl,⟨2,rp,ri,rs,re,ru,rv,rc,rz,rm,rn,rt⟩,n,s⟩).1,0) else(⟨⟨e,p,i,u,h'⟩,ps,vs,sl,⟨2,rp,ri,rs,re,ru,rv,rc,rz,rm,rn,rt⟩,n,s⟩,220):=rfl;rw[hA];apply af;·simp(config := { maxSteps := 3000000 }) [kN,yr];exact⟨rfl,rfl,rfl⟩
   generalize hx:pn ⟨⟨e,p,i,u,h'⟩,ps,vs,sl,⟨2,rp,ri,rs,re,ru,rv,rc,rz,rm,rn,rt⟩,n,s⟩=x;obtain⟨⟨⟨e',p',i',u',h''⟩,ps',vs',sl',⟨k',rp',ri',rs',re',ru',rv',rc',rz',rm',rn',rt'⟩,n',s'⟩,b⟩:=x;rw[bg];cases hR:cg ⟨2,rp,ri,rs,re,ru,rv,rc,rz,rm,rn,rt⟩ with
   |false=>
    apply af;·simp(config := { maxSteps := 3000000 }) [hR];exact⟨rfl,rfl⟩
    simp(config := { maxSteps := 3000000 }) [hR,h9,h3,bT]|true=>
    apply af;·simp(config := { maxSteps := 3000000 }) [hR,hx,nF];exact⟨by kernel_rfl,rfl,rfl⟩
    cases b with|false=>simp(config := { maxSteps := 3000000 }) [hR,h9,h3,bT]|true=>simp(config := { maxSteps := 3000000 }) [hR,bT]
  ·have hA:dn ⟨⟨e,p,i,u,h'⟩,ps,vs,sl,⟨3,rp,ri,rs,re,ru,rv,rc,rz,rm,rn,rt⟩,n,s⟩=if cg ⟨3,rp,ri,rs,re,ru,rv,rc,rz,rm,rn,rt⟩=true∧(jY ⟨⟨e,p,i,u,h'⟩,ps,vs,sl,⟨3,rp,ri,rs,re,ru,rv,rc,rz,rm,rn,rt⟩,n,s⟩).2=true then((jY ⟨⟨e,p,i,u,h'⟩,ps,vs,sl,⟨3,rp,ri,rs,re,ru,rv,rc,rz,rm,rn,rt⟩,n,s⟩).1,0) else(⟨⟨e,p,i,u,h'⟩,ps,vs,sl,⟨3,rp,ri,rs,re,ru,rv,rc,rz,rm,rn,rt⟩,n,s⟩,220):=rfl;rw[hA];apply af;·simp(config := { maxSteps := 3000000 }) [kN,yr];exact⟨rfl,rfl,rfl⟩
   generalize hx:jY ⟨⟨e,p,i,u,h'⟩,ps,vs,sl,⟨3,rp,ri,rs,re,ru,rv,rc,rz,rm,rn,rt⟩,n,s⟩=x;obtain⟨⟨⟨e',p',i',u',h''⟩,ps',vs',sl',⟨k',rp',ri',rs',re',ru',rv',rc',rz',rm',rn',rt'⟩,n',s'⟩,b⟩:=x;rw[bg];cases hR:cg ⟨3,rp,ri,rs,re,ru,rv,rc,rz,rm,rn,rt⟩ with
   |false=>
    apply af;·simp(config := { maxSteps := 3000000 }) [hR];exact⟨rfl,rfl⟩
    simp(config := { maxSteps := 3000000 }) [hR,h9,h3,bT]|true=>
    apply af;·simp(config := { maxSteps := 3000000 }) [hR,hx,nF];exact⟨by kernel_rfl,rfl,rfl⟩
    cases b with|false=>simp(config := { maxSteps := 3000000 }) [hR,h9,h3,bT]|true=>simp(config := { maxSteps := 3000000 }) [hR,bT]
  ·have hA:dn ⟨⟨e,p,i,u,h'⟩,ps,vs,sl,⟨4,rp,ri,rs,re,ru,rv,rc,rz,rm,rn,rt⟩,n,s⟩=if cg ⟨4,rp,ri,rs,re,ru,rv,rc,rz,rm,rn,rt⟩=true∧(mi ⟨⟨e,p,i,u,h'⟩,ps,vs,sl,⟨4,rp,ri,rs,re,ru,rv,rc,rz,rm,rn,rt⟩,n,s⟩).2=true then((mi ⟨⟨e,p,i,u,h'⟩,ps,vs,sl,⟨4,rp,ri,rs,re,ru,rv,rc,rz,rm,rn,rt⟩,n,s⟩).1,0) else(⟨⟨e,p,i,u,h'⟩,ps,vs,sl,⟨4,rp,ri,rs,re,ru,rv,rc,rz,rm,rn,rt⟩,n,s⟩,220):=rfl;rw[hA];have hN:jC (vJ ⟨⟨e,p,i,u,h'⟩,ps,vs,sl,⟨4,rp,ri,rs,re,ru,rv,rc,rz,rm,rn,rt⟩,n,s⟩):=h8;apply af;·simp(config := { maxSteps := 3000000 }) [kN,yr];exact⟨rfl,rfl,rfl⟩
   generalize hx:mi ⟨⟨e,p,i,u,h'⟩,ps,vs,sl,⟨4,rp,ri,rs,re,ru,rv,rc,rz,rm,rn,rt⟩,n,s⟩=x;obtain⟨⟨⟨e',p',i',u',h''⟩,ps',vs',sl',⟨k',rp',ri',rs',re',ru',rv',rc',rz',rm',rn',rt'⟩,n',s'⟩,b⟩:=x;rw[bg];cases hR:cg ⟨4,rp,ri,rs,re,ru,rv,rc,rz,rm,rn,rt⟩ with
   |false=>
    apply af;·simp(config := { maxSteps := 3000000 }) [hR];exact⟨rfl,rfl⟩
    simp(config := { maxSteps := 3000000 }) [hR,h9,h3,bT]|true=>
    apply af;·simp(config := { maxSteps := 3000000 }) [hR,hx,nF,h3,hV,hN];exact⟨by kernel_rfl,rfl,rfl⟩
    cases b with|false=>simp(config := { maxSteps := 3000000 }) [hR,h9,h3,bT]|true=>simp(config := { maxSteps := 3000000 }) [hR,bT]
  ·have hA:dn ⟨⟨e,p,i,u,h'⟩,ps,vs,sl,⟨5,rp,ri,rs,re,ru,rv,rc,rz,rm,rn,rt⟩,n,s⟩=if cg ⟨5,rp,ri,rs,re,ru,rv,rc,rz,rm,rn,rt⟩=true∧(DH ⟨⟨e,p,i,u,h'⟩,ps,vs,sl,⟨5,rp,ri,rs,re,ru,rv,rc,rz,rm,rn,rt⟩,n,s⟩).2=true then((DH ⟨⟨e,p,i,u,h'⟩,ps,vs,sl,⟨5,rp,ri,rs,re,ru,rv,rc,rz,rm,rn,rt⟩,n,s⟩).1,0) else(⟨⟨e,p,i,u,h'⟩,ps,vs,sl,⟨5,rp,ri,rs,re,ru,rv,rc,rz,rm,rn,rt⟩,n,s⟩,220):=rfl;rw[hA];apply af;·simp(config := { maxSteps := 3000000 }) [kN,yr];exact⟨rfl,rfl,rfl⟩
   generalize hx:DH ⟨⟨e,p,i,u,h'⟩,ps,vs,sl,⟨5,rp,ri,rs,re,ru,rv,rc,rz,rm,rn,rt⟩,n,s⟩=x;obtain⟨⟨⟨e',p',i',u',h''⟩,ps',vs',sl',⟨k',rp',ri',rs',re',ru',rv',rc',rz',rm',rn',rt'⟩,n',s'⟩,b⟩:=x;rw[bg];cases hR:cg ⟨5,rp,ri,rs,re,ru,rv,rc,rz,rm,rn,rt⟩ with
   |false=>
    apply af;·simp(config := { maxSteps := 3000000 }) [hR];exact⟨rfl,rfl⟩
    simp(config := { maxSteps := 3000000 }) [hR,h9,h3,bT]|true=>
    apply af;·simp(config := { maxSteps := 3000000 }) [hR,hx,nF,hP6,hV6];exact⟨by kernel_rfl,rfl,rfl⟩
    cases b with|false=>simp(config := { maxSteps := 3000000 }) [hR,h9,h3,bT]|true=>simp(config := { maxSteps := 3000000 }) [hR,bT]
  ·have hA:dn ⟨⟨e,p,i,u,h'⟩,ps,vs,sl,⟨6,rp,ri,rs,re,ru,rv,rc,rz,rm,rn,rt⟩,n,s⟩=if cg ⟨6,rp,ri,rs,re,ru,rv,rc,rz,rm,rn,rt⟩=true∧(pJ ⟨⟨e,p,i,u,h'⟩,ps,vs,sl,⟨6,rp,ri,rs,re,ru,rv,rc,rz,rm,rn,rt⟩,n,s⟩).2=true then((pJ ⟨⟨e,p,i,u,h'⟩,ps,vs,sl,⟨6,rp,ri,rs,re,ru,rv,rc,rz,rm,rn,rt⟩,n,s⟩).1,0) else(⟨⟨e,p,i,u,h'⟩,ps,vs,sl,⟨6,rp,ri,rs,re,ru,rv,rc,rz,rm,rn,rt⟩,n,s⟩,220):=rfl;rw[hA];apply af;·simp(config := { maxSteps := 3000000 }) [kN,yr];exact⟨rfl,rfl,rfl⟩
   generalize hx:pJ ⟨⟨e,p,i,u,h'⟩,ps,vs,sl,⟨6,rp,ri,rs,re,ru,rv,rc,rz,rm,rn,rt⟩,n,s⟩=x;obtain⟨⟨⟨e',p',i',u',h''⟩,ps',vs',sl',⟨k',rp',ri',rs',re',ru',rv',rc',rz',rm',rn',rt'⟩,n',s'⟩,b⟩:=x;rw[bg];cases hR:cg ⟨6,rp,ri,rs,re,ru,rv,rc,rz,rm,rn,rt⟩ with
   |false=>
    apply af;·simp(config := { maxSteps := 3000000 }) [hR];exact⟨rfl,rfl⟩
    simp(config := { maxSteps := 3000000 }) [hR,h9,h3,bT]|true=>
    apply af;·simp(config := { maxSteps := 3000000 }) [hR,hx,nF,h9];exact⟨by kernel_rfl,rfl,rfl⟩
    cases b with|false=>simp(config := { maxSteps := 3000000 }) [hR,h9,h3,bT]|true=>simp(config := { maxSteps := 3000000 }) [hR,bT]
  ·have hA:dn ⟨⟨e,p,i,u,h'⟩,ps,vs,sl,⟨7,rp,ri,rs,re,ru,rv,rc,rz,rm,rn,rt⟩,n,s⟩=if cg ⟨7,rp,ri,rs,re,ru,rv,rc,rz,rm,rn,rt⟩=true∧(wE ⟨⟨e,p,i,u,h'⟩,ps,vs,sl,⟨7,rp,ri,rs,re,ru,rv,rc,rz,rm,rn,rt⟩,n,s⟩).2=true then((wE ⟨⟨e,p,i,u,h'⟩,ps,vs,sl,⟨7,rp,ri,rs,re,ru,rv,rc,rz,rm,rn,rt⟩,n,s⟩).1,0) else(⟨⟨e,p,i,u,h'⟩,ps,vs,sl,⟨7,rp,ri,rs,re,ru,rv,rc,rz,rm,rn,rt⟩,n,s⟩,220):=rfl;rw[hA];apply af;·simp(config := { maxSteps := 3000000 }) [kN,yr];exact⟨rfl,rfl,rfl⟩
   generalize hx:wE ⟨⟨e,p,i,u,h'⟩,ps,vs,sl,⟨7,rp,ri,rs,re,ru,rv,rc,rz,rm,rn,rt⟩,n,s⟩=x;obtain⟨⟨⟨e',p',i',u',h''⟩,ps',vs',sl',⟨k',rp',ri',rs',re',ru',rv',rc',rz',rm',rn',rt'⟩,n',s'⟩,b⟩:=x;rw[bg];cases hR:cg ⟨7,rp,ri,rs,re,ru,rv,rc,rz,rm,rn,rt⟩ with
   |false=>
    apply af;·simp(config := { maxSteps := 3000000 }) [hR];exact⟨rfl,rfl⟩
    simp(config := { maxSteps := 3000000 }) [hR,h9,h3,bT]|true=>
    apply af;·simp(config := { maxSteps := 3000000 }) [hR,hx,nF];exact⟨by kernel_rfl,rfl,rfl⟩
    cases b with|false=>simp(config := { maxSteps := 3000000 }) [hR,h9,h3,bT]|true=>simp(config := { maxSteps := 3000000 }) [hR,bT]
  ·have hA:dn ⟨⟨e,p,i,u,h'⟩,ps,vs,sl,⟨8,rp,ri,rs,re,ru,rv,rc,rz,rm,rn,rt⟩,n,s⟩=if cg ⟨8,rp,ri,rs,re,ru,rv,rc,rz,rm,rn,rt⟩=true∧(jS ⟨⟨e,p,i,u,h'⟩,ps,vs,sl,⟨8,rp,ri,rs,re,ru,rv,rc,rz,rm,rn,rt⟩,n,s⟩).2=true then((jS ⟨⟨e,p,i,u,h'⟩,ps,vs,sl,⟨8,rp,ri,rs,re,ru,rv,rc,rz,rm,rn,rt⟩,n,s⟩).1,0) else(⟨⟨e,p,i,u,h'⟩,ps,vs,sl,⟨8,rp,ri,rs,re,ru,rv,rc,rz,rm,rn,rt⟩,n,s⟩,220):=rfl;rw[hA];apply af;·simp(config := { maxSteps := 3000000 }) [kN,yr];exact⟨rfl,rfl,rfl⟩
   generalize hx:jS ⟨⟨e,p,i,u,h'⟩,ps,vs,sl,⟨8,rp,ri,rs,re,ru,rv,rc,rz,rm,rn,rt⟩,n,s⟩=x;obtain⟨⟨⟨e',p',i',u',h''⟩,ps',vs',sl',⟨k',rp',ri',rs',re',ru',rv',rc',rz',rm',rn',rt'⟩,n',s'⟩,b⟩:=x;rw[bg];cases hR:cg ⟨8,rp,ri,rs,re,ru,rv,rc,rz,rm,rn,rt⟩ with
   |false=>
    apply af;·simp(config := { maxSteps := 3000000 }) [hR];exact⟨rfl,rfl⟩
    simp(config := { maxSteps := 3000000 }) [hR,h9,h3,bT]|true=>
    apply af;·simp(config := { maxSteps := 3000000 }) [hR,hx,nF,h2,hP,hC,hS,h3,hV];exact⟨by kernel_rfl,rfl,rfl⟩
    cases b with|false=>simp(config := { maxSteps := 3000000 }) [hR,h9,h3,bT]|true=>simp(config := { maxSteps := 3000000 }) [hR,bT]
  ·have hA:dn ⟨⟨e,p,i,u,h'⟩,ps,vs,sl,⟨k,rp,ri,rs,re,ru,rv,rc,rz,rm,rn,rt⟩,n,s⟩=(⟨⟨e,p,i,u,h'⟩,ps,vs,sl,⟨k,rp,ri,rs,re,ru,rv,rc,rz,rm,rn,rt⟩,n,s⟩,220):=by simp only[dn,doA,k1,k2,k3,k4,k5,k6,k7,k8,if_false]
   rw[hA];apply af;·simp(config := { maxSteps := 3000000 }) [kN,yr,k1,k2,k3,k4,k5,k6,k7,k8];exact⟨rfl,rfl,rfl⟩
   have hnf:rE Value.nilFunc=PV.val Value.nilFunc:=rfl;simp(config := { maxSteps := 3000000 }) [h9,h3,bT,hnf]
 ·cases h
def dcA (a:Ap):Dc:=⟨a.l,a.ps,a.vs,a.sl⟩
def MF (n t:List UInt8):Bool:=decide (n.length≤100)&&decide (t.length≤100)
@[simp] def GFewR:List AV→Option (Prop×AV)|[.agg [.pv (.int .u8 k),.pv (.int .u64 p),.pv (.int .u64 i),.pv (.int .u64 s),.pv (.int .u64 e),.pv (.int .u64 u),.pv (.int .u64 v),.pv (.int .u64 c),.pv (.int .u64 z),.pv (.int .u64 m),.pv (.str n),.pv (.str t)]]=>some (True,.pv (.bool (MF n t)))|_=>none
def xy (d:Dc):Bool:=d.vs.all (fun v=>decide (v.t.length≤100))&&decide (d.ps.length≤20)&&decide (d.vs.length≤20)
@[simp] noncomputable def LZ:List AV→Option (Prop×AV)|[.agg ys]=>m9 ys fun d=>some (d.vs.length≤maxLen,.pv (.bool (xy d)))|_=>none
theorem NI:aN Tryz.prog 19 LZ:=by
 intro ys φ r h hφ;unfold LZ at h;split at h
 ·obtain⟨d,hd,h2⟩:=ey h;subst hd;clear h;cases h2;obtain⟨⟨e,p,i,u,h'⟩,ps,vs,sl⟩:=d;have hl:vs.length≤maxLen:=hφ;rw[aH]at hl;refine aq ah (by kernel_rfl) (by conv=>lhs;reduce) (by simp) ?_;simp(config := { maxSteps := 3000000 }) [cellsD];refine al (fun i:Nat=>i≤vs.length∧∀v∈vs.take i,v.t.length≤100) (fun j=>⟨[(1,.ptr 1 0),(2,.pv (.bool false)),(3,.pv (.int .i64 j))],[(1,.box [.pv (.int .u64 e),.pv (.int .u64 p),.pv (.int .u64 i),.pv (.int .u64 u),.pv (.bool h'),.pv (.ro (aw ps)),.pv (.ro (az vs)),.pv (.bool sl)])]⟩) (fun i=>vs.length-i) [] 0 (by simp) ?_ ?_;·simp
  ·rintro j ⟨hj,ht⟩;by_cases hlt:j<vs.length
   ·have r1:=bq hlt;have w2:IntKind.i64.wrap ((j:Int)+1)=(j:Int)+1:=wrap_i64 (by omega);by_cases h1:(100:Int)<vs[j].t.length
    ·have hf:xy ⟨⟨e,p,i,u,h'⟩,ps,vs,sl⟩=false:=by
      unfold xy;have:(vs.all fun v=>decide (v.t.length≤100))=false:=by rw[List.all_eq_false];exact⟨vs[j],List.getElem_mem hlt,by simp;omega⟩
      simp[this]
     simp(config := { maxSteps := 3000000 }) [w2,hlt,r1,h1,hf]
    ·have h1':(vs[j].t.length:Int)≤100:=by omega
     simp(config := { maxSteps := 3000000 }) [w2,hlt,r1,h1,h1'];refine⟨j+1,⟨by omega,fun v hv=>?_⟩,by omega,by omega⟩;rw[List.take_succ_eq_append_getElem hlt,List.mem_append]at hv;rcases hv with hv|hv;·exact ht v hv
     ·simp only[List.mem_singleton]at hv;subst hv;omega
   ·rw[List.take_of_length_le (by omega)]at ht;have hf:xy ⟨⟨e,p,i,u,h'⟩,ps,vs,sl⟩=(decide (ps.length≤20)&&decide (vs.length≤20)):=by
     unfold xy;have:(vs.all fun v=>decide (v.t.length≤100))=true:=by rw[List.all_eq_true];exact fun v hv=>decide_eq_true (ht v hv)
     simp[this]
    have e1:∀n:Nat,decide ((n:Int)≤20)=decide (n≤20):=fun n=>decide_eq_decide.2 (by omega);by_cases h2:(ps.length:Int)≤20<;>simp(config := { maxSteps := 3000000 }) [hlt,hf,h2,←e1]
 ·cases h
theorem CL {a b:Vn}:a=b↔a.n=b.n∧a.b=b.b∧a.p=b.p∧a.i=b.i∧a.s=b.s∧a.z=b.z∧a.m=b.m∧a.t=b.t∧a.inl=b.inl∧a.eG=b.eG:=by cases a;cases b;simp
@[simp] noncomputable def Ws:List AV→Option (Prop×AV)|[.pv (.ro a),.pv (.ro b)]=>(dec cL a).bind fun a=>(dec cL b).map fun b=>(a.length≤1000000000,.pv (.bool (decide (a=b))))|_=>none
theorem WQ:aN Tryz.prog 70 Ws:=by
 intro ys φ r h hφ;unfold Ws at h;split at h
 ·obtain⟨a,ha,h1⟩:=Option.bind_eq_some_iff.1 h;obtain⟨b,hb,h2⟩:=Option.map_eq_some_iff.1 h1;clear h h1;cases h2;cases aF ha;cases aF hb;have hl:a.length≤1000000000:=hφ;refine aq ah (by kernel_rfl) (by conv=>lhs;reduce) (by simp) ?_;simp(config := { maxSteps := 3000000 });refine⟨fun hne=>?_,fun hlen=>?_⟩;·intro e;exact hne (by rw[e])
  refine al (fun i:Nat=>i≤a.length∧a.take i=b.take i) (fun i=>⟨[(0,.pv (.ro (az a))),(1,.pv (.ro (az b))),(12,.pv (.int .i64 a.length)),(13,.pv (.int .i64 i))],[]⟩) (fun i=>a.length-i) [] 0 (by simp) ?_ ?_;·simp
  ·rintro i ⟨hi,ht⟩;have w2:IntKind.i64.wrap ((i:Int)+1)=(i:Int)+1:=wrap_i64 (by omega);by_cases hlt:i<a.length
   ·have r1:=bq hlt;have hlb:i<b.length:=by omega
    have r2:=bq hlb;by_cases he:a[i]=b[i];·obtain⟨f1,f2,f3,f4,f5,f6,f7,f8,f9,f10⟩:=CL.1 he;simp(config := { maxSteps := 3000000 }) [w2,hlt,hlb,r1,r2,f1,f2,f3,f4,f5,f6,f7,f8,f9,f10];refine⟨i+1,⟨by omega,?_⟩,by omega,by omega⟩;rw[List.take_succ_eq_append_getElem hlt,List.take_succ_eq_append_getElem hlb,ht,he]
    ·have hn:¬a=b:=fun e=>he (by subst e;rfl);simp(config := { maxSteps := 3000000 }) [w2,hlt,hlb,r1,r2,hn];exact fun f1 f2 f3 f4 f5 f6 f7 f8 f9 f10=>absurd (CL.2 ⟨f1,f2,f3,f4,f5,f6,f7,f8,f9,f10⟩) he
   ·simp(config := { maxSteps := 3000000 }) [hlt];rw[List.take_of_length_le (by omega),List.take_of_length_le (by omega)]at ht;exact ht
 ·cases h
@[simp] noncomputable def GSD:List AV→Option (Prop×AV)|[.agg xs,.agg ys]=>m9 xs fun a=>m9 ys fun b=>some (a.ps.length≤1000000000∧a.vs.length≤1000000000,.pv (.bool (decide (a=b))))|_=>none
theorem aab:aN Tryz.prog 35 GSD:=by
 intro ys φ r h hφ;unfold GSD at h;split at h
 ·obtain⟨a,ha,h1⟩:=ey h;obtain⟨b,hb,h2⟩:=ey h1;subst ha hb;clear h h1;cases h2;obtain⟨⟨e,p,i,u,h'⟩,ps,vs,sl⟩:=a;obtain⟨⟨e2,p2,i2,u2,h2'⟩,ps2,vs2,sl2⟩:=b;obtain⟨h1,h2⟩:=hφ;have h1:ps.length≤1000000000:=h1;have h2:vs.length≤1000000000:=h2;refine aq (ag Jv (ag WQ ah)) (by kernel_rfl) (by conv=>lhs;reduce) (by simp) ?_;have hs:(sl==sl2)=decide (sl=sl2):=by cases sl<;>cases sl2<;>rfl
  simp(config := { maxSteps := 3000000 }) [cellsD,h1,h2];rw[hs];ac_rfl
 ·cases h
theorem XC:aN Tryz.prog 31 GSD:=by
 intro ys φ r h hφ;unfold GSD at h;split at h
 ·obtain⟨a,ha,h1⟩:=ey h;obtain⟨b,hb,h2⟩:=ey h1;subst ha hb;clear h h1;cases h2;obtain⟨⟨e,p,i,u,h'⟩,ps,vs,sl⟩:=a;obtain⟨⟨e2,p2,i2,u2,h2'⟩,ps2,vs2,sl2⟩:=b;obtain⟨h1,h2⟩:=hφ;have h1:ps.length≤1000000000:=h1;have h2:vs.length≤1000000000:=h2;refine aq (ag Ii ah) (by kernel_rfl) (by conv=>lhs;reduce) (by simp) ?_;apply af;·simp(config := { maxSteps := 3000000 }) [cellsD];exact⟨rfl,rfl⟩
  rw[bg];simp(config := { maxSteps := 3000000 }) [h1];refine⟨fun hx a1 a2 a3 a4 a5 a6 a7 a8=>?_,?_⟩;·subst a1 a2 a3 a4 a5 a6 a7 a8;simp at hx
  ·rintro rfl rfl rfl rfl rfl rfl rfl hlen;have hlen:vs.length=vs2.length:=by omega
   refine al (fun i:Nat=>i≤vs.length∧vs.take i=vs2.take i) (fun j=>⟨[(2,.ptr 2 0),(3,.ptr 3 0),(5,.pv (.int .i64 j))],[(2,.box [.pv (.int .u64 e),.pv (.int .u64 p),.pv (.int .u64 i),.pv (.int .u64 u),.pv (.bool h'),.pv (.ro (aw ps)),.pv (.ro (az vs)),.pv (.bool sl)]),(3,.box [.pv (.int .u64 e),.pv (.int .u64 p),.pv (.int .u64 i),.pv (.int .u64 u),.pv (.bool h'),.pv (.ro (aw ps)),.pv (.ro (az vs2)),.pv (.bool sl)])]⟩) (fun i=>vs.length-i) [] 0 (by simp) ?_ ?_;·simp
   ·rintro j ⟨hj,ht⟩;have w2:IntKind.i64.wrap ((j:Int)+1)=(j:Int)+1:=wrap_i64 (by omega);by_cases hlt:j<vs.length
    ·have r1:=bq hlt;have hlb:j<vs2.length:=by omega
     have r2:=bq hlb;by_cases he:vs[j]=vs2[j];·obtain⟨f1,f2,f3,f4,f5,f6,f7,f8,f9,f10⟩:=CL.1 he;simp(config := { maxSteps := 3000000 }) [w2,hlt,hlb,r1,r2,f1,f2,f3,f4,f5,f6,f7,f8,f9,f10];refine⟨j+1,⟨by omega,?_⟩,by omega,by omega⟩;rw[List.take_succ_eq_append_getElem hlt,List.take_succ_eq_append_getElem hlb,ht,he]
     ·have hn:¬vs=vs2:=fun e=>he (by subst e;rfl);simp(config := { maxSteps := 3000000 }) [w2,hlt,hlb,r1,r2,hn];exact fun f1 f2 f3 f4 f5 f6 f7 f8 f9 f10=>absurd (CL.2 ⟨f1,f2,f3,f4,f5,f6,f7,f8,f9,f10⟩) he
    ·simp(config := { maxSteps := 3000000 }) [hlt];rw[List.take_of_length_le (by omega),List.take_of_length_le (by omega)]at ht;exact ht
 ·cases h
@[simp] def Xu (e1 e2:TypeId):List AV→Option (Prop×AV)|[.agg [.pv (.int .u64 e),.pv (.int .u64 p),.pv (.int .u64 i),.pv (.int .u64 u),.pv (.bool h),.fr x ra,.fr y rb,.pv (.bool sl)]]=>if x=e1∧y=e2 then some (ra.length≤1000000∧rb.length≤1000000∧(∀r∈ra,r.length=3)∧∀r∈rb,r.length=10,.bo 0 [.aJ []]) else none|_=>none
theorem Us:dr Tryz.prog 32 (Xu 134 108):=by
 intro ys φ r h hφ;unfold Xu at h;split at h
 ·rename_i e p i u h' x ra y rb sl;split at h
  ·rename_i hxy;obtain⟨rfl,rfl⟩:=hxy;cases h;obtain⟨l1,l2,l3,l4⟩:=hφ;refine bU ah (by kernel_rfl) (by conv=>lhs;reduce) (by simp) rfl (by simp) ?_;apply af;·simp(config := { maxSteps := 3000000 });exact⟨rfl,rfl⟩
   rw[bg];apply af;·simp(config := { maxSteps := 3000000 });exact⟨rfl,rfl⟩
   rw[bd];refine al (fun x:Nat×List (List PV)=>x.1≤ra.length∧x.2.length=ra.length∧∀r∈x.2,r.length=3) (fun x=>⟨[(1,.ptr 1 0),(2,.pv (.int .i64 (x.1:Int)))],[(1,.box [.pv (.int .u64 e),.pv (.int .u64 p),.pv (.int .u64 i),.pv (.int .u64 u),.pv (.bool h'),.own 998,.own 1998,.pv (.bool sl)]),(998,.arr 134 x.2),(1998,.arr 108 rb)]⟩) (fun x=>ra.length-x.1) [] (0,ra) ⟨by simp,rfl,l3⟩ ?_ ?_;·simp
   ·rintro⟨j,b⟩ ⟨hj,hb,hr⟩;have hj:j≤ra.length:=hj;have hb:b.length=ra.length:=hb;have hr:∀r∈b,r.length=3:=hr;have w2:IntKind.i64.wrap ((j:Int)+1)=(j:Int)+1:=wrap_i64 (by omega);by_cases hlt:j<ra.length
    ·have r1:(rowAt b (j:Int)).length=3:=by simp only[rowAt,Int.toNat_natCast,List.getD_eq_getElem?_getD,List.getElem?_eq_getElem (show j<b.length by omega),Option.getD_some];exact hr _ (List.getElem_mem _)
     have r2:(rowAt b (j:Int)).drop 3=[]:=List.drop_eq_nil_of_le (by omega);simp(config := { maxSteps := 3000000 }) [w2,hlt,r1,r2,hb];exact⟨j+1,_,⟨by omega,by rw[List.length_set];exact hb,fun r hr'=>(List.mem_or_eq_of_mem_set hr').elim (hr r) fun e=>by rw[e];rfl⟩,⟨by omega,rfl⟩,by omega⟩
    ·have hja:j=ra.length:=by omega
     subst hja;simp(config := { maxSteps := 3000000 }) [hb];refine al (fun x:Nat×List (List PV)=>x.1≤rb.length∧x.2.length=rb.length∧∀r∈x.2,r.length=10) (fun x=>⟨[(1,.ptr 1 0),(3,.pv (.int .i64 (x.1:Int)))],[(1,.box [.pv (.int .u64 e),.pv (.int .u64 p),.pv (.int .u64 i),.pv (.int .u64 u),.pv (.bool h'),.own 998,.own 1998,.pv (.bool sl)]),(998,.arr 134 b),(1998,.arr 108 x.2)]⟩) (fun x=>rb.length-x.1) [] (0,rb) ⟨by simp,rfl,l4⟩ ?_ ?_;·simp
     ·rintro⟨j,c⟩ ⟨hj,hc,hr⟩;have hj:j≤rb.length:=hj;have hc:c.length=rb.length:=hc;have hr:∀r∈c,r.length=10:=hr;have w2:IntKind.i64.wrap ((j:Int)+1)=(j:Int)+1:=wrap_i64 (by omega);by_cases hlt:j<rb.length
      ·have r1:(rowAt c (j:Int)).length=10:=by simp only[rowAt,Int.toNat_natCast,List.getD_eq_getElem?_getD,List.getElem?_eq_getElem (show j<c.length by omega),Option.getD_some];exact hr _ (List.getElem_mem _)
       have r2:(rowAt c (j:Int)).drop 10=[]:=List.drop_eq_nil_of_le (by omega);simp(config := { maxSteps := 3000000 }) [w2,hlt,r1,r2,hc];exact⟨j+1,_,⟨by omega,by rw[List.length_set];exact hc,fun r hr'=>(List.mem_or_eq_of_mem_set hr').elim (hr r) fun e=>by rw[e];rfl⟩,⟨by omega,rfl⟩,by omega⟩
      ·simp(config := { maxSteps := 3000000 }) [hlt,hc]
  ·cases h
 ·cases h
@[simp] theorem GApp_eq (e p i u:Int) (h:Bool) (a b:List (List PV)) (sl:Bool) (k rp ri rs re ru rv rc rz rm:Int) (rn rt:List UInt8) (n s:Int):PN [.agg [.pv (.int .u64 e),.pv (.int .u64 p),.pv (.int .u64 i),.pv (.int .u64 u),.pv (.bool h),.pv (.ro a),.pv (.ro b),.pv (.bool sl)],.agg [.pv (.int .u8 k),.pv (.int .u64 rp),.pv (.int .u64 ri),.pv (.int .u64 rs),.pv (.int .u64 re),.pv (.int .u64 ru),.pv (.int .u64 rv),.pv (.int .u64 rc),.pv (.int .u64 rz),.pv (.int .u64 rm),.pv (.str rn),.pv (.str rt)],.pv (.int .u64 n),.pv (.int .u64 s)]=(dec rowP a).bind fun ps=>(dec cL b).map fun vs=>(okA ⟨⟨e,p,i,u,h⟩,ps,vs,sl,⟨k,rp,ri,rs,re,ru,rv,rc,rz,rm,rn,rt⟩,n,s⟩,.aJ [.agg (bT (dn ⟨⟨e,p,i,u,h⟩,ps,vs,sl,⟨k,rp,ri,rs,re,ru,rv,rc,rz,rm,rn,rt⟩,n,s⟩).1),.pv (.int .i64 (dn ⟨⟨e,p,i,u,h⟩,ps,vs,sl,⟨k,rp,ri,rs,re,ru,rv,rc,rz,rm,rn,rt⟩,n,s⟩).2)]):=rfl
def p3:Pn:=⟨3,2,5⟩
def x2:Vn:=⟨2,0,7,1,0,0,0,[],false,false⟩
def x4:Vn:=⟨4,2,7,1,0,0,0,[],false,false⟩
theorem kA:dn ⟨⟨0,0,0,0,false⟩,[],[],false,⟨1,7,1,0,1,9,0,0,0,0,[],[]⟩,1,0⟩=(⟨⟨1,7,1,9,true⟩,[],[],false,⟨1,7,1,0,1,9,0,0,0,0,[],[]⟩,1,0⟩,0):=by kernel_rfl
theorem kB:dn ⟨⟨1,7,1,9,true⟩,[],[],false,⟨4,7,1,0,1,0,0,0,0,0,[],[]⟩,2,0⟩=(⟨⟨1,7,1,9,true⟩,[],[x2],false,⟨4,7,1,0,1,0,0,0,0,0,[],[]⟩,2,0⟩,0):=by kernel_rfl
theorem kC:dn ⟨⟨1,7,1,9,true⟩,[],[x2],false,⟨5,0,0,0,0,5,2,0,0,0,[],[]⟩,3,0⟩=(⟨⟨1,7,1,9,true⟩,[p3],[x2],false,⟨5,0,0,0,0,5,2,0,0,0,[],[]⟩,3,0⟩,0):=by kernel_rfl
theorem fN:bz []:=fun _ h=>by cases h
noncomputable def GWkD:List AV→Option (Prop×AV)|[]=>some (True,.pv (.bool true))|_=>none
@[simp] theorem GWkD_eq:GWkD []=some (True,.pv (.bool true)):=rfl
structure Sc where
 c:Int
 t:Int
 d:Dc
 cs:List En
 ws:List Pn deriving DecidableEq
def aQ (x:Sc):List AV:=[.pv (.int .u64 x.c),.pv (.int .u64 x.t),.pv (.int .u64 x.d.l.e),.pv (.int .u64 x.d.l.p),.pv (.int .u64 x.d.l.i),.pv (.int .u64 x.d.l.u),.pv (.bool x.d.l.h),.pv (.ro (aw x.d.ps)),.pv (.ro (az x.d.vs)),.pv (.bool x.d.sl),.pv (.ro (aO x.cs)),.pv (.ro (aw x.ws))]
def bf (t1 t2 t3 t4:TypeId) (x:Sc):List AV:=[.pv (.int .u64 x.c),.pv (.int .u64 x.t),.pv (.int .u64 x.d.l.e),.pv (.int .u64 x.d.l.p),.pv (.int .u64 x.d.l.i),.pv (.int .u64 x.d.l.u),.pv (.bool x.d.l.h),.fr t1 (aw x.d.ps),.fr t2 (az x.d.vs),.pv (.bool x.d.sl),.fr t3 (aO x.cs),.fr t4 (aw x.ws)]
@[simp] noncomputable def jU (ys:List AV) (K:Sc→Option (Prop×AV)):Option (Prop×AV):=match ys with|[.pv (.int .u64 c),.pv (.int .u64 t),.pv (.int .u64 e),.pv (.int .u64 p),.pv (.int .u64 i),.pv (.int .u64 u),.pv (.bool h),.pv (.ro a),.pv (.ro b),.pv (.bool sl),.pv (.ro x),.pv (.ro y)]=>(dec rowP a).bind fun ps=>(dec cL b).bind fun vs=>(dec eJ x).bind fun cs=>(dec rowP y).bind fun ws=>K ⟨c,t,⟨⟨e,p,i,u,h⟩,ps,vs,sl⟩,cs,ws⟩|_=>none
theorem da {ys:List AV}{K:Sc→Option (Prop×AV)}{x:Prop×AV} (h:jU ys K=some x):∃d,ys=aQ d∧K d=some x:=by
 unfold jU at h;split at h;·obtain⟨ps,hp,h1⟩:=Option.bind_eq_some_iff.1 h;obtain⟨vs,hv,h2⟩:=Option.bind_eq_some_iff.1 h1;obtain⟨cs,hc,h3⟩:=Option.bind_eq_some_iff.1 h2;obtain⟨ws,hw,h4⟩:=Option.bind_eq_some_iff.1 h3;rw[aE hp,aF hv,bk hc,aE hw];exact⟨_,rfl,h4⟩
 ·cases h
def pf (x:Sc):AV:=.bx (bf 134 108 71 84 x)
theorem Ir:∀p q,pf p=pf q→p=q:=by rintro⟨c,t,⟨⟨e,p,i,u,h⟩,ps,vs,sl⟩,cs,ws⟩ ⟨c',t',⟨⟨e',p',i',u',h'⟩,ps',vs',sl'⟩,cs',ws'⟩ hh;simp only[pf,bf,AV.bx.injEq,List.cons.injEq,AV.pv.injEq,PV.int.injEq,PV.bool.injEq,AV.fr.injEq,true_and,and_true]at hh;obtain⟨rfl,rfl,rfl,rfl,rfl,rfl,rfl,h1,h2,rfl,h3,h4⟩:=hh;rw[fx iS h1,fx oy h2,fx yQ h3,fx iS h4]
@[simp] theorem UP (c t e p i u:Int) (h sl:Bool) (ps ws:List Pn) (vs:List Vn) (cs:List En):rN pf (.bx [.pv (.int .u64 c),.pv (.int .u64 t),.pv (.int .u64 e),.pv (.int .u64 p),.pv (.int .u64 i),.pv (.int .u64 u),.pv (.bool h),.fr 134 (aw ps),.fr 108 (az vs),.pv (.bool sl),.fr 71 (aO cs),.fr 84 (aw ws)])=some ⟨c,t,⟨⟨e,p,i,u,h⟩,ps,vs,sl⟩,cs,ws⟩:=xf Ir ⟨c,t,⟨⟨e,p,i,u,h⟩,ps,vs,sl⟩,cs,ws⟩
def iL (l:List Pn) (w:Pn):List Pn×Bool:=match l.find? (rI w) with|some x=>(l.set (l.findIdx (rI w)) w,decide (x.u<w.u))|none=>(zA l (l.findIdx (Eu w)) w,true)
theorem Hs {l:List Pn}{w:Pn} (h:l.any (rI w)=true):∃hi:l.findIdx (rI w)<l.length,iL l w=(l.set (l.findIdx (rI w)) w,decide (l[l.findIdx (rI w)].u<w.u)):=by
 have hi:l.findIdx (rI w)<l.length:=by obtain⟨x,hx,he⟩:=List.any_eq_true.1 h;exact List.findIdx_lt_length_of_exists ⟨x,hx,he⟩
 refine⟨hi,?_⟩;have hf:l.find? (rI w)=some l[l.findIdx (rI w)]:=by rw[List.find?_eq_getElem?_findIdx,List.getElem?_eq_getElem hi]
 unfold iL;rw[hf]
theorem Dv {l:List Pn}{w:Pn} (h:l.any (rI w)=false):iL l w=(zA l (l.findIdx (Eu w)) w,true):=by
 have hf:l.find? (rI w)=none:=by rw[List.find?_eq_none];exact fun x hx=>by simpa using List.any_eq_false.1 h x hx
 unfold iL;rw[hf]
@[simp] noncomputable def Lm:List AV→Option (Prop×AV)|[.aJ [y],.agg [.pv (.int .u64 p),.pv (.int .u64 i),.pv (.int .u64 s)]]=>(rN pf y).map fun g=>(g.ws.length≤1000000,.bo 0 [.pv (.bool (iL g.ws ⟨p,i,s⟩).2),pf ⟨g.c,g.t,g.d,g.cs,(iL g.ws ⟨p,i,s⟩).1⟩])|_=>none
theorem Po:dr Tryz.prog 62 Lm:=by
 intro ys φ r h hφ;unfold Lm at h;split at h
 ·rename_i y wp wi wu;obtain⟨g,hg,h⟩:=Option.map_eq_some_iff.1 h;cases h;cases dQ hg;obtain⟨c,t,⟨⟨e,p,i,u,h'⟩,ps,vs,sl⟩,cs,ws⟩:=g;have h6:ws.length≤1000000:=hφ;have h9:ws.length≤1000000000:=by omega
  refine bU (ag WY (eD (p:=0) (k:=998) Nx (by kernel_rfl) ah)) (by kernel_rfl) (by conv=>lhs;reduce) (by simp) rfl (by simp[pf,bf]) ?_;cases ha:ws.any (rI ⟨wp,wi,wu⟩) with
  |true=>
   obtain⟨hi,hn⟩:=Hs ha;have hix:G4 (rI ⟨wp,wi,wu⟩) ws=(ws.findIdx (rI ⟨wp,wi,wu⟩):Int):=by unfold G4;rw[if_pos ha]
   generalize ws.findIdx (rI ⟨wp,wi,wu⟩)=k at*;have r1:=bM hi;have hs:aw (ws.set k ⟨wp,wi,wu⟩)=(aw ws).set k [.int .u64 wp,.int .u64 wi,.int .u64 wu]:=by simp[aw,List.map_set,rowP]
   simp(config := { maxSteps := 3000000 }) [pf,bf,h9,Yn,hix,hi,hn,r1,hs]|false=>
   have hn:=Dv ha;have hix:G4 (rI ⟨wp,wi,wu⟩) ws=-1:=by unfold G4;rw[if_neg (by simp[ha])]
   cases hb:ws.any (Eu ⟨wp,wi,wu⟩) with|true=>
    have hi:ws.findIdx (Eu ⟨wp,wi,wu⟩)<ws.length:=by obtain⟨x,hx,he⟩:=List.any_eq_true.1 hb;exact List.findIdx_lt_length_of_exists ⟨x,hx,he⟩
    have hiy:G4 (Eu ⟨wp,wi,wu⟩) ws=(ws.findIdx (Eu ⟨wp,wi,wu⟩):Int):=by unfold G4;rw[if_pos hb]
    generalize ws.findIdx (Eu ⟨wp,wi,wu⟩)=k at*;have hk:k≤ws.length:=by omega
    simp(config := { maxSteps := 3000000 }) [pf,bf,h9,h6,Yn,hix,hiy,hk,hn];exact⟨fun h=>by omega,aY _⟩|false=>
    have hi:ws.findIdx (Eu ⟨wp,wi,wu⟩)=ws.length:=List.findIdx_eq_length_of_false fun x hx=>by simpa using List.any_eq_false.1 hb x hx
    have hiy:G4 (Eu ⟨wp,wi,wu⟩) ws=-1:=by unfold G4;rw[if_neg (by simp[hb])]
    rw[hi]at hn;simp(config := { maxSteps := 3000000 }) [pf,bf,h9,h6,Yn,hix,hiy,hn];exact aY _
 ·cases h
def tU (cs:List En) (r:Rc) (n:Int):List En×Int:=if r.k=9 then fw cs r.n n else if r.k=10 then nO cs r.n else if r.k=11 then kf cs r.n r.t else if r.k=8 then(cs,0) else(cs,2)
@[simp] noncomputable def Uw:List AV→Option (Prop×AV)|[.aJ [y],.agg ys]=>ua ys fun r=>(rN pf y).map fun g=>(g.cs.length≤100000,.bo 0 [.pv (.int .i64 (tU g.cs r g.t).2),pf ⟨g.c,g.t,g.d,(tU g.cs r g.t).1,g.ws⟩])|_=>none
theorem c_Ctl:dr Tryz.prog 63 Uw:=by
 intro ys φ r h hφ;unfold Uw at h;split at h
 ·rename_i y zs;obtain⟨r,rfl,h1⟩:=nJ h;clear h;obtain⟨g,hg,h⟩:=Option.map_eq_some_iff.1 h1;clear h1;cases h;cases dQ hg;obtain⟨c,t,⟨⟨e,p,i,u,h'⟩,ps,vs,sl⟩,cs,ws⟩:=g;obtain⟨k,rp,ri,rs,re,ru,rv,rc,rz,rm,rn,rt⟩:=r;have h5:cs.length≤100000:=hφ;refine bU (ag GK (ag Ml (ag Zr ah))) (by kernel_rfl) (by conv=>lhs;reduce) (by simp) rfl (by simp[pf,bf,fq]) ?_;by_cases k9:k=9;·simp(config := { maxSteps := 3000000 }) [pf,bf,fq,h5,tU,k9,aV]
  ·by_cases k10:k=10;·simp(config := { maxSteps := 3000000 }) [pf,bf,fq,h5,tU,k10,aV]
   ·by_cases k11:k=11;·simp(config := { maxSteps := 3000000 }) [pf,bf,fq,h5,tU,k11,aV]
    ·by_cases k8:k=8<;>simp(config := { maxSteps := 3000000 }) [pf,bf,fq,h5,tU,k8,k9,k10,k11]
 ·cases h
def CD (r:Rc):Pn:=⟨r.p,r.i,r.s⟩
noncomputable def ou (x:Sc) (r:Rc) (s:Int):Sc×Bool:=if cg r=true∧x.t≠pb then if(iL x.ws (CD r)).2=true then if x.c=0 then(⟨x.c,x.t+1,x.d,(tU x.cs r (x.t+1)).1,(iL x.ws (CD r)).1⟩,decide ((tU x.cs r (x.t+1)).2=0)) else(⟨x.c,x.t+1,dcA (dn ⟨x.d.l,x.d.ps,x.d.vs,x.d.sl,r,x.t+1,s⟩).1,x.cs,(iL x.ws (CD r)).1⟩,decide ((dn ⟨x.d.l,x.d.ps,x.d.vs,x.d.sl,r,x.t+1,s⟩).2=0)) else(⟨x.c,x.t,x.d,x.cs,(iL x.ws (CD r)).1⟩,false) else(x,false)
def xI (x:Sc) (r:Rc) (s:Int):Prop:=cU x.t∧x.ws.length≤100000∧x.cs.length≤100000∧cU x.d.l.e∧x.d.ps.length<50∧x.d.vs.length≤100000∧(∀e∈x.d.ps,ko e)∧(∀v∈x.d.vs,jC v)∧cU r.c∧cU s∧cU r.v
@[simp] noncomputable def Zo:List AV→Option (Prop×AV)|[.aJ [y],.agg ys,.pv (.int .u64 s)]=>ua ys fun r=>(rN pf y).map fun x=>(xI x r s,.bo 0 [.pv (.bool (ou x r s).2),pf (ou x r s).1])|_=>none
theorem c_DoS:dr Tryz.prog 30 Zo:=by
 intro ys φ r h hφ;unfold Zo at h;split at h
 ·rename_i y zs s;obtain⟨r,rfl,h1⟩:=nJ h;clear h;obtain⟨x,hx,h⟩:=Option.map_eq_some_iff.1 h1;clear h1;cases h;cases dQ hx;obtain⟨c,t,⟨⟨e,p,i,u,h'⟩,ps,vs,sl⟩,cs,ws⟩:=x;obtain⟨k,rp,ri,rs,re,ru,rv,rc,rz,rm,rn,rt⟩:=r;obtain⟨o1,o2,o3,o4,o5,o6,o7,o8,o9,o10,o11⟩:=hφ;have o1:cU t:=o1;have o2:ws.length≤100000:=o2;have o3:cs.length≤100000:=o3;have o2':ws.length≤1000000:=by omega
  refine bU (ag CI (ba (ks:=[2,0]) Po (by kernel_rfl) (ba (ks:=[2,0]) c_Ctl (by kernel_rfl) (ag VU ah)))) (by kernel_rfl) (by conv=>lhs;reduce) (by simp) rfl (by simp[pf,bf,fq]) ?_;apply af;·simp(config := { maxSteps := 3000000 }) [pf,bf,fq];exact⟨rfl,rfl⟩
  cases hR:cg ⟨k,rp,ri,rs,re,ru,rv,rc,rz,rm,rn,rt⟩ with|false=>
   refine b6 (fun _=>False) ?_ (fun _ h=>h.elim);apply af;·simp(config := { maxSteps := 3000000 }) [hR];exact⟨rfl,rfl⟩
   apply cj rfl;simp(config := { maxSteps := 3000000 }) [hR,ou,pf,bf]|true=>
   by_cases ht:t=18446744073709551615
   ·refine b6 (fun _=>False) ?_ (fun _ h=>h.elim);apply af;·simp(config := { maxSteps := 3000000 }) [hR,ht];exact⟨rfl,rfl⟩
    apply cj rfl;simp(config := { maxSteps := 3000000 }) [hR,ht,ou,pb,pf,bf]
   ·have w1:IntKind.u64.wrap (t+1)=t+1:=wrap_u64 (by have:=o1.1;have:=o1.2;omega);have hdo:ou ⟨c,t,⟨⟨e,p,i,u,h'⟩,ps,vs,sl⟩,cs,ws⟩ ⟨k,rp,ri,rs,re,ru,rv,rc,rz,rm,rn,rt⟩ s=if(iL ws ⟨rp,ri,rs⟩).2=true then if c=0 then(⟨c,t+1,⟨⟨e,p,i,u,h'⟩,ps,vs,sl⟩,(tU cs ⟨k,rp,ri,rs,re,ru,rv,rc,rz,rm,rn,rt⟩ (t+1)).1,(iL ws ⟨rp,ri,rs⟩).1⟩,decide ((tU cs ⟨k,rp,ri,rs,re,ru,rv,rc,rz,rm,rn,rt⟩ (t+1)).2=0)) else(⟨c,t+1,dcA (dn ⟨⟨e,p,i,u,h'⟩,ps,vs,sl,⟨k,rp,ri,rs,re,ru,rv,rc,rz,rm,rn,rt⟩,t+1,s⟩).1,cs,(iL ws ⟨rp,ri,rs⟩).1⟩,decide ((dn ⟨⟨e,p,i,u,h'⟩,ps,vs,sl,⟨k,rp,ri,rs,re,ru,rv,rc,rz,rm,rn,rt⟩,t+1,s⟩).2=0)) else(⟨c,t,⟨⟨e,p,i,u,h'⟩,ps,vs,sl⟩,cs,(iL ws ⟨rp,ri,rs⟩).1⟩,false):=by unfold ou;rw[if_pos ⟨hR,ht⟩];rfl
    rw[hdo];generalize hx:iL ws ⟨rp,ri,rs⟩=x;obtain⟨ws',b⟩:=x;rw[bg];apply af;·simp(config := { maxSteps := 3000000 }) [hR,ht,o2',hx,pf,bf];exact⟨rfl,rfl⟩
    cases b with|false=>apply cj rfl;simp(config := { maxSteps := 3000000 }) [pf,bf]|true=>
     apply eI rfl;apply af;·simp(config := { maxSteps := 3000000 }) [w1];exact⟨rfl,rfl⟩
     have n1:0≤t+1:=by have:=o1.1;omega
     have n2:t+1≤18446744073709551615:=by have:=o1.2;omega
     have hok:okA ⟨⟨e,p,i,u,h'⟩,ps,vs,sl,⟨k,rp,ri,rs,re,ru,rv,rc,rz,rm,rn,rt⟩,t+1,s⟩:=⟨o4,o5,o6,o7,o8,o9,o10,n1,n2,o11.1,o11.2⟩;generalize hA:dn ⟨⟨e,p,i,u,h'⟩,ps,vs,sl,⟨k,rp,ri,rs,re,ru,rv,rc,rz,rm,rn,rt⟩,t+1,s⟩=q;obtain⟨⟨⟨xe,xp,xi,xu,xh⟩,xps,xvs,xsl,ar,an,asl⟩,e2⟩:=q;generalize hY:tU cs ⟨k,rp,ri,rs,re,ru,rv,rc,rz,rm,rn,rt⟩ (t+1)=y;obtain⟨cs',e1⟩:=y;by_cases hc:c=0
     ·refine b6 (fun _=>False) ?_ (fun _ h=>h.elim);apply af;·simp(config := { maxSteps := 3000000 }) [hc];exact⟨rfl,rfl⟩
      apply cj rfl;simp(config := { maxSteps := 3000000 }) [o3,hY,hc,pf,bf,fq]
     ·rw[bg];apply af;·simp(config := { maxSteps := 3000000 }) [hc];exact⟨rfl,rfl⟩
      apply eI rfl;apply af;·simp(config := { maxSteps := 3000000 }) [hok,hA,bT,fq,aY,aP];exact⟨rfl,rfl⟩
      simp(config := { maxSteps := 3000000 }) [hc,pf,bf,dcA]
 ·cases h
@[simp] noncomputable def GdS:List AV→Option (Prop×AV)|[.agg ys]=>jU ys fun x=>some (x.d.ps.length≤100000∧x.d.vs.length≤100000∧x.cs.length≤100000∧x.ws.length≤100000,.agg (bf 162 144 82 85 x))|_=>none
theorem c_dS:aN Tryz.prog 8 GdS:=by
 intro ys φ r h hφ;unfold GdS at h;split at h
 ·obtain⟨x,rfl,h2⟩:=da h;clear h;cases h2;obtain⟨c,t,⟨⟨e,p,i,u,h'⟩,ps,vs,sl⟩,cs,ws⟩:=x;obtain⟨h1,h2,h3,h4⟩:=hφ;have h1:ps.length≤100000:=h1;have h2:vs.length≤100000:=h2;have h3:cs.length≤100000:=h3;have h4:ws.length≤100000:=h4;have hi1:(Tryz.prog.info? 82).isSome=true:=by kernel_rfl
  have hi2:(Tryz.prog.info? 85).isSome=true:=by kernel_rfl
  refine aq (ag ZZ ah) (by kernel_rfl) (by conv=>lhs;reduce) (by simp) ?_;apply af;·simp(config := { maxSteps := 3000000 }) [aQ,cellsD,h1,h2];exact⟨rfl,rfl⟩
  apply af;·simp(config := { maxSteps := 3000000 }) [cellsD,h1,h2];exact⟨rfl,rfl⟩
  rw[bg];apply af;·simp(config := { maxSteps := 3000000 });exact⟨rfl,rfl⟩
  rw[bd];refine al (fun k:Nat=>k≤cs.length) (fun k=>⟨[(1,.ptr 1 0),(2,.ptr 2 0),(3,.ptr 3 0),(4,.pv (.int .i64 (k:Int)))],[(1,.box [.pv (.int .u64 c),.pv (.int .u64 t),.pv (.int .u64 e),.pv (.int .u64 p),.pv (.int .u64 i),.pv (.int .u64 u),.pv (.bool h'),.pv (.ro (aw ps)),.pv (.ro (az vs)),.pv (.bool sl),.pv (.ro (aO cs)),.pv (.ro (aw ws))]),(2,.box [.pv (.int .u64 0),.pv (.int .u64 0),.pv (.int .u64 0),.pv (.int .u64 0),.pv (.int .u64 0),.pv (.int .u64 0),.pv (.bool false),.pv .nil,.pv .nil,.pv (.bool false),.pv .nil,.pv .nil]),(3,.box [.pv (.int .u64 c),.pv (.int .u64 t),.pv (.int .u64 e),.pv (.int .u64 p),.pv (.int .u64 i),.pv (.int .u64 u),.pv (.bool h'),.own 5000013,.own 6000013,.pv (.bool sl),if k=0 then .pv .nil else .own 38,.pv .nil]),(5000013,.arr 162 (aw ps)),(6000013,.arr 144 (az vs))]++if k=0 then[] else[(38,.arr 82 (aO (cs.take k)))]⟩) (fun k=>cs.length-k) [] 0 (by simp) ?_ ?_;·simp
  ·intro k hk;have w2:IntKind.i64.wrap ((k:Int)+1)=(k:Int)+1:=wrap_i64 (by omega);rw[jW];dsimp only;by_cases hlt:k<cs.length
   ·have r1:=dg hlt;have hap:∀m:List En,aO m++[[PV.str cs[k].n,.int .u64 cs[k].i]]=aO (m++[cs[k]]):=fun m=>by rw[fu];rfl
    have htk:cs.take (k+1)=cs.take k++[cs[k]]:=List.take_succ_eq_append_getElem hlt;by_cases k0:k=0
    ·subst k0;have r0:rowAt (aO cs) 0=[PV.str cs[0].n,.int .u64 cs[0].i]:=by simpa using dg hlt
     have t1:cs.take 1=[cs[0]]:=by simpa using htk
     simp(config := { maxSteps := 3000000 }) [hlt,r0,aH];refine⟨1,by omega,?_,by omega⟩;simp(config := { maxSteps := 3000000 }) [t1];exact⟨wrap_i64 (by omega),rfl⟩
    ·simp(config := { maxSteps := 3000000 }) [w2,hlt,r1,k0,hap,aH];refine⟨⟨by omega,by omega⟩,k+1,by omega,?_,by omega⟩;simp(config := { maxSteps := 3000000 })
   ·have hke:k=cs.length:=by omega
    subst hke;rw[List.take_length];by_cases hcs:cs.length=0;all_goals
     simp(config := { maxSteps := 3000000 }) [hlt,hcs];refine al (fun k:Nat=>k≤ws.length) (fun k=>⟨[(1,.ptr 1 0),(2,.ptr 2 0),(3,.ptr 3 0),(5,.pv (.int .i64 (k:Int)))],[(1,.box [.pv (.int .u64 c),.pv (.int .u64 t),.pv (.int .u64 e),.pv (.int .u64 p),.pv (.int .u64 i),.pv (.int .u64 u),.pv (.bool h'),.pv (.ro (aw ps)),.pv (.ro (az vs)),.pv (.bool sl),.pv (.ro (aO cs)),.pv (.ro (aw ws))]),(2,.box [.pv (.int .u64 0),.pv (.int .u64 0),.pv (.int .u64 0),.pv (.int .u64 0),.pv (.int .u64 0),.pv (.int .u64 0),.pv (.bool false),.pv .nil,.pv .nil,.pv (.bool false),.pv .nil,.pv .nil]),(3,.box [.pv (.int .u64 c),.pv (.int .u64 t),.pv (.int .u64 e),.pv (.int .u64 p),.pv (.int .u64 i),.pv (.int .u64 u),.pv (.bool h'),.own 5000013,.own 6000013,.pv (.bool sl),if cs.length=0 then .pv .nil else .own 38,if k=0 then .pv .nil else .own 62]),(5000013,.arr 162 (aw ps)),(6000013,.arr 144 (az vs))]++((if cs.length=0 then[] else[(38,.arr 82 (aO cs))])++if k=0 then[] else[(62,.arr 85 (aw (ws.take k)))])⟩) (fun k=>ws.length-k) [] 0 (by simp) ?_ ?_;·simp[hcs]
     ·intro k hk;have w2:IntKind.i64.wrap ((k:Int)+1)=(k:Int)+1:=wrap_i64 (by omega);rw[jW];dsimp only;by_cases hlt:k<ws.length
      ·have r1:=bM hlt;have hap:∀m:List Pn,aw m++[[PV.int .u64 ws[k].i,.int .u64 ws[k].v,.int .u64 ws[k].u]]=aw (m++[ws[k]]):=fun m=>by rw[dM];rfl
       have htk:ws.take (k+1)=ws.take k++[ws[k]]:=List.take_succ_eq_append_getElem hlt;by_cases k0:k=0
       ·subst k0;have r0:rowAt (aw ws) 0=[PV.int .u64 ws[0].i,.int .u64 ws[0].v,.int .u64 ws[0].u]:=by simpa using bM hlt
        have t1:ws.take 1=[ws[0]]:=by simpa using htk
        simp(config := { maxSteps := 3000000 }) [hlt,r0,hcs,aH];refine⟨1,by omega,?_,by omega⟩;simp(config := { maxSteps := 3000000 }) [t1,hcs];exact⟨wrap_i64 (by omega),rfl⟩
       ·simp(config := { maxSteps := 3000000 }) [w2,hlt,r1,k0,hap,hcs,aH];refine⟨⟨by omega,by omega⟩,k+1,by omega,?_,by omega⟩;simp(config := { maxSteps := 3000000 }) [hcs]
      ·have hke:k=ws.length:=by omega
       subst hke;by_cases hws:ws.length=0;all_goals simp(config := { maxSteps := 3000000 }) [hlt,hcs,hws,bf,aY,aP,aV,hi1,hi2]<;>first|exact⟨by rw[List.eq_nil_of_length_eq_zero hcs];rfl,by rw[List.eq_nil_of_length_eq_zero hws];rfl⟩|(rw[List.eq_nil_of_length_eq_zero hcs];rfl)|(rw[List.eq_nil_of_length_eq_zero hws];rfl)
 ·cases h
def xE (x:Sc):Bool:=(x.cs.all fun e=>decide (e.n.length≤100))&&xy x.d&&decide (x.cs.length≤20)&&decide (x.ws.length≤20)
@[simp] noncomputable def Ky:List AV→Option (Prop×AV)|[.agg ys]=>jU ys fun x=>some (x.d.vs.length≤maxLen∧x.cs.length≤maxLen,.pv (.bool (xE x)))|_=>none
theorem Ot:aN Tryz.prog 5 Ky:=by
 intro ys φ r h hφ;unfold Ky at h;split at h
 ·obtain⟨x,rfl,h2⟩:=da h;clear h;cases h2;obtain⟨c,t,⟨⟨e,p,i,u,h'⟩,ps,vs,sl⟩,cs,ws⟩:=x;obtain⟨hv,hl⟩:=hφ;have hv:vs.length≤maxLen:=hv;have hl:cs.length≤maxLen:=hl;rw[aH]at hl;refine aq (ag NI ah) (by kernel_rfl) (by conv=>lhs;reduce) (by simp) ?_;simp(config := { maxSteps := 3000000 }) [aQ];refine al (fun k:Nat=>k≤cs.length∧∀e∈cs.take k,e.n.length≤100) (fun k=>⟨[(1,.ptr 1 0),(2,.pv (.bool false)),(3,.pv (.int .i64 (k:Int)))],[(1,.box (aQ ⟨c,t,⟨⟨e,p,i,u,h'⟩,ps,vs,sl⟩,cs,ws⟩))]⟩) (fun k=>cs.length-k) [] 0 (by simp) ?_ ?_;·simp[aQ]
  ·rintro j ⟨hj,ht⟩;by_cases hlt:j<cs.length
   ·have r1:=dg hlt;have w2:IntKind.i64.wrap ((j:Int)+1)=(j:Int)+1:=wrap_i64 (by omega);by_cases h1:(100:Int)<cs[j].n.length
    ·have hf:xE ⟨c,t,⟨⟨e,p,i,u,h'⟩,ps,vs,sl⟩,cs,ws⟩=false:=by
      unfold xE;have:(cs.all fun e=>decide (e.n.length≤100))=false:=by rw[List.all_eq_false];exact⟨cs[j],List.getElem_mem hlt,by simp;omega⟩
      simp[this]
     simp(config := { maxSteps := 3000000 }) [w2,hlt,r1,h1,hf,aQ]
    ·have h1':(cs[j].n.length:Int)≤100:=by omega
     simp(config := { maxSteps := 3000000 }) [w2,hlt,r1,h1,h1',aQ];refine⟨j+1,⟨by omega,fun v hv=>?_⟩,by omega,by omega⟩;rw[List.take_succ_eq_append_getElem hlt,List.mem_append]at hv;rcases hv with hv|hv;·exact ht v hv
     ·simp only[List.mem_singleton]at hv;subst hv;omega
   ·rw[List.take_of_length_le (by omega)]at ht;have hf:xE ⟨c,t,⟨⟨e,p,i,u,h'⟩,ps,vs,sl⟩,cs,ws⟩=(xy ⟨⟨e,p,i,u,h'⟩,ps,vs,sl⟩&&decide (cs.length≤20)&&decide (ws.length≤20)):=by
     unfold xE;have:(cs.all fun e=>decide (e.n.length≤100))=true:=by rw[List.all_eq_true];exact fun v hv=>decide_eq_true (ht v hv)
     simp[this]
    have e1:∀n:Nat,decide ((n:Int)≤20)=decide (n≤20):=fun n=>decide_eq_decide.2 (by omega);cases h2:xy ⟨⟨e,p,i,u,h'⟩,ps,vs,sl⟩ with|false=>simp(config := { maxSteps := 3000000 }) [hlt,hf,h2,hv,aQ,cellsD]|true=>by_cases h3:(cs.length:Int)≤20<;>simp(config := { maxSteps := 3000000 }) [hlt,hf,h2,h3,hv,←e1,aQ,cellsD]
 ·cases h
@[simp] def aam (e1 e2 e3 e4:TypeId):List AV→Option (Prop×AV)|[.agg [.pv (.int .u64 c),.pv (.int .u64 t),.pv (.int .u64 e),.pv (.int .u64 p),.pv (.int .u64 i),.pv (.int .u64 u),.pv (.bool h),.fr x ra,.fr y rb,.pv (.bool sl),.fr z rc,.fr w rd]]=>if(x=e1∧y=e2)∧z=e3∧w=e4 then some ((ra.length≤1000000∧rb.length≤1000000∧(∀r∈ra,r.length=3)∧∀r∈rb,r.length=10)∧rc.length≤1000000∧rd.length≤1000000∧(∀r∈rc,r.length=2)∧∀r∈rd,r.length=3,.bo 0 [.aJ []]) else none|_=>none
theorem aaG:dr Tryz.prog 15 (aam 134 108 71 84):=by
 intro ys φ r h hφ;unfold aam at h;split at h
 ·rename_i c t e p i u h' x ra y rb sl z rc w rd;split at h
  ·rename_i hxy;obtain⟨⟨rfl,rfl⟩,rfl,rfl⟩:=hxy;cases h;obtain⟨⟨l1,l2,l3,l4⟩,m1,m2,m3,m4⟩:=hφ;refine bU (ba (ks:=[1]) Us (by kernel_rfl) ah) (by kernel_rfl) (by conv=>lhs;reduce) (by simp) rfl (by simp) ?_;apply af;·simp(config := { maxSteps := 3000000 });exact⟨rfl,rfl⟩
   have l3':=eq_true l3;have l4':=eq_true l4;apply af;·simp(config := { maxSteps := 3000000 }) [l1,l2,l3',l4'];exact⟨rfl,rfl⟩
   rw[bg];apply af;·simp(config := { maxSteps := 3000000 });exact⟨rfl,rfl⟩
   rw[bd];refine al (fun x:Nat×List (List PV)=>x.1≤rc.length∧x.2.length=rc.length∧∀r∈x.2,r.length=2) (fun x=>⟨[(1,.ptr 1 0),(2,.pv (.int .i64 (x.1:Int)))],[(1,.box [.pv (.int .u64 c),.pv (.int .u64 t),.pv (.int .u64 e),.pv (.int .u64 p),.pv (.int .u64 i),.pv (.int .u64 u),.pv (.bool h'),.au,.au,.pv (.bool sl),.own 2998,.own 3998]),(2998,.arr 71 x.2),(3998,.arr 84 rd)]⟩) (fun x=>rc.length-x.1) [] (0,rc) (by simpa using m3) ?_ ?_;·simp
   ·rintro⟨j,b2⟩ ⟨hj,hb,hr⟩;have hj:j≤rc.length:=hj;have hb:b2.length=rc.length:=hb;have hr:∀r∈b2,r.length=2:=hr;have w2:IntKind.i64.wrap ((j:Int)+1)=(j:Int)+1:=wrap_i64 (by omega);by_cases hlt:j<rc.length
    ·have r1:(rowAt b2 (j:Int)).length=2:=by simp only[rowAt,Int.toNat_natCast,List.getD_eq_getElem?_getD,List.getElem?_eq_getElem (show j<b2.length by omega),Option.getD_some];exact hr _ (List.getElem_mem _)
     have r2:(rowAt b2 (j:Int)).drop 2=[]:=List.drop_eq_nil_of_le (by omega);simp(config := { maxSteps := 3000000 }) [w2,hlt,r1,r2,hb];exact⟨j+1,_,⟨by omega,by rw[List.length_set];exact hb,fun r hr'=>(List.mem_or_eq_of_mem_set hr').elim (hr r) fun e=>by rw[e];rfl⟩,⟨by omega,rfl⟩,by omega⟩
    ·have hja:j=rc.length:=by omega
     subst hja;simp(config := { maxSteps := 3000000 }) [hb];refine al (fun x:Nat×List (List PV)=>x.1≤rd.length∧x.2.length=rd.length∧∀r∈x.2,r.length=3) (fun x=>⟨[(1,.ptr 1 0),(3,.pv (.int .i64 (x.1:Int)))],[(1,.box [.pv (.int .u64 c),.pv (.int .u64 t),.pv (.int .u64 e),.pv (.int .u64 p),.pv (.int .u64 i),.pv (.int .u64 u),.pv (.bool h'),.au,.au,.pv (.bool sl),.own 2998,.own 3998]),(2998,.arr 71 b2),(3998,.arr 84 x.2)]⟩) (fun x=>rd.length-x.1) [] (0,rd) (by simpa using m4) ?_ ?_;·simp
     ·rintro⟨j,b3⟩ ⟨hj,hb,hr⟩;have hj:j≤rd.length:=hj;have hb:b3.length=rd.length:=hb;have hr:∀r∈b3,r.length=3:=hr;have w2:IntKind.i64.wrap ((j:Int)+1)=(j:Int)+1:=wrap_i64 (by omega);by_cases hlt:j<rd.length
      ·have r1:(rowAt b3 (j:Int)).length=3:=by simp only[rowAt,Int.toNat_natCast,List.getD_eq_getElem?_getD,List.getElem?_eq_getElem (show j<b3.length by omega),Option.getD_some];exact hr _ (List.getElem_mem _)
       have r2:(rowAt b3 (j:Int)).drop 3=[]:=List.drop_eq_nil_of_le (by omega);simp(config := { maxSteps := 3000000 }) [w2,hlt,r1,r2,hb];exact⟨j+1,_,⟨by omega,by rw[List.length_set];exact hb,fun r hr'=>(List.mem_or_eq_of_mem_set hr').elim (hr r) fun e=>by rw[e];rfl⟩,⟨by omega,rfl⟩,by omega⟩
      ·simp(config := { maxSteps := 3000000 }) [hlt,hb]
  ·cases h
 ·cases h
@[simp] noncomputable def Yx:List AV→Option (Prop×AV)|[.agg ys]=>jU ys fun x=>some (x.d.ps.length≤100000∧x.d.vs.length≤100000∧x.cs.length≤100000∧x.ws.length≤100000,.bo 0 [.agg (aQ x)])|_=>none
theorem Ur:dr Tryz.prog 8 Yx:=by
 intro ys φ r h hφ;unfold Yx at h;split at h
 ·obtain⟨x,rfl,h2⟩:=da h;clear h;cases h2;obtain⟨c,t,⟨⟨e,p,i,u,h'⟩,ps,vs,sl⟩,cs,ws⟩:=x;obtain⟨h1,h2,h3,h4⟩:=hφ;have h1:ps.length≤100000:=h1;have h2:vs.length≤100000:=h2;have h3:cs.length≤100000:=h3;have h4:ws.length≤100000:=h4;have hi1:(Tryz.prog.info? 82).isSome=true:=by kernel_rfl
  have hi2:(Tryz.prog.info? 85).isSome=true:=by kernel_rfl
  refine bU (ag ZZ ah) (by kernel_rfl) (by conv=>lhs;reduce) (by simp[aQ]) rfl (by simp[aQ]) ?_;apply af;·simp(config := { maxSteps := 3000000 }) [aQ,cellsD,h1,h2];exact⟨rfl,rfl⟩
  apply af;·simp(config := { maxSteps := 3000000 }) [cellsD,h1,h2];exact⟨rfl,rfl⟩
  rw[bg];apply af;·simp(config := { maxSteps := 3000000 });exact⟨rfl,rfl⟩
  rw[bd];refine al (fun k:Nat=>k≤cs.length) (fun k=>⟨[(1,.ptr 1 0),(2,.ptr 2 0),(3,.ptr 3 0),(4,.pv (.int .i64 (k:Int)))],[(1,.box [.pv (.int .u64 c),.pv (.int .u64 t),.pv (.int .u64 e),.pv (.int .u64 p),.pv (.int .u64 i),.pv (.int .u64 u),.pv (.bool h'),.pv (.ro (aw ps)),.pv (.ro (az vs)),.pv (.bool sl),.pv (.ro (aO cs)),.pv (.ro (aw ws))]),(2,.box [.pv (.int .u64 0),.pv (.int .u64 0),.pv (.int .u64 0),.pv (.int .u64 0),.pv (.int .u64 0),.pv (.int .u64 0),.pv (.bool false),.pv .nil,.pv .nil,.pv (.bool false),.pv .nil,.pv .nil]),(3,.box [.pv (.int .u64 c),.pv (.int .u64 t),.pv (.int .u64 e),.pv (.int .u64 p),.pv (.int .u64 i),.pv (.int .u64 u),.pv (.bool h'),.own 5000013,.own 6000013,.pv (.bool sl),if k=0 then .pv .nil else .own 38,.pv .nil]),(5000013,.arr 162 (aw ps)),(6000013,.arr 144 (az vs))]++if k=0 then[] else[(38,.arr 82 (aO (cs.take k)))]⟩) (fun k=>cs.length-k) [] 0 (by simp) ?_ ?_;·simp
  ·intro k hk;have w2:IntKind.i64.wrap ((k:Int)+1)=(k:Int)+1:=wrap_i64 (by omega);rw[jW];dsimp only;by_cases hlt:k<cs.length
   ·have r1:=dg hlt;have hap:∀m:List En,aO m++[[PV.str cs[k].n,.int .u64 cs[k].i]]=aO (m++[cs[k]]):=fun m=>by rw[fu];rfl
    have htk:cs.take (k+1)=cs.take k++[cs[k]]:=List.take_succ_eq_append_getElem hlt;by_cases k0:k=0
    ·subst k0;have r0:rowAt (aO cs) 0=[PV.str cs[0].n,.int .u64 cs[0].i]:=by simpa using dg hlt
     have t1:cs.take 1=[cs[0]]:=by simpa using htk
     simp(config := { maxSteps := 3000000 }) [hlt,r0,aH];refine⟨1,by omega,?_,by omega⟩;simp(config := { maxSteps := 3000000 }) [t1];exact⟨wrap_i64 (by omega),rfl⟩
    ·simp(config := { maxSteps := 3000000 }) [w2,hlt,r1,k0,hap,aH];refine⟨⟨by omega,by omega⟩,k+1,by omega,?_,by omega⟩;simp(config := { maxSteps := 3000000 })
   ·have hke:k=cs.length:=by omega
    subst hke;rw[List.take_length];by_cases hcs:cs.length=0;all_goals
     simp(config := { maxSteps := 3000000 }) [hlt,hcs];refine al (fun k:Nat=>k≤ws.length) (fun k=>⟨[(1,.ptr 1 0),(2,.ptr 2 0),(3,.ptr 3 0),(5,.pv (.int .i64 (k:Int)))],[(1,.box [.pv (.int .u64 c),.pv (.int .u64 t),.pv (.int .u64 e),.pv (.int .u64 p),.pv (.int .u64 i),.pv (.int .u64 u),.pv (.bool h'),.pv (.ro (aw ps)),.pv (.ro (az vs)),.pv (.bool sl),.pv (.ro (aO cs)),.pv (.ro (aw ws))]),(2,.box [.pv (.int .u64 0),.pv (.int .u64 0),.pv (.int .u64 0),.pv (.int .u64 0),.pv (.int .u64 0),.pv (.int .u64 0),.pv (.bool false),.pv .nil,.pv .nil,.pv (.bool false),.pv .nil,.pv .nil]),(3,.box [.pv (.int .u64 c),.pv (.int .u64 t),.pv (.int .u64 e),.pv (.int .u64 p),.pv (.int .u64 i),.pv (.int .u64 u),.pv (.bool h'),.own 5000013,.own 6000013,.pv (.bool sl),if cs.length=0 then .pv .nil else .own 38,if k=0 then .pv .nil else .own 62]),(5000013,.arr 162 (aw ps)),(6000013,.arr 144 (az vs))]++((if cs.length=0 then[] else[(38,.arr 82 (aO cs))])++if k=0 then[] else[(62,.arr 85 (aw (ws.take k)))])⟩) (fun k=>ws.length-k) [] 0 (by simp) ?_ ?_;·simp[hcs]
     ·intro k hk;have w2:IntKind.i64.wrap ((k:Int)+1)=(k:Int)+1:=wrap_i64 (by omega);rw[jW];dsimp only;by_cases hlt:k<ws.length
      ·have r1:=bM hlt;have hap:∀m:List Pn,aw m++[[PV.int .u64 ws[k].i,.int .u64 ws[k].v,.int .u64 ws[k].u]]=aw (m++[ws[k]]):=fun m=>by rw[dM];rfl
       have htk:ws.take (k+1)=ws.take k++[ws[k]]:=List.take_succ_eq_append_getElem hlt;by_cases k0:k=0
       ·subst k0;have r0:rowAt (aw ws) 0=[PV.int .u64 ws[0].i,.int .u64 ws[0].v,.int .u64 ws[0].u]:=by simpa using bM hlt
        have t1:ws.take 1=[ws[0]]:=by simpa using htk
        simp(config := { maxSteps := 3000000 }) [hlt,r0,hcs,aH];refine⟨1,by omega,?_,by omega⟩;simp(config := { maxSteps := 3000000 }) [t1,hcs];exact⟨wrap_i64 (by omega),rfl⟩
       ·simp(config := { maxSteps := 3000000 }) [w2,hlt,r1,k0,hap,hcs,aH];refine⟨⟨by omega,by omega⟩,k+1,by omega,?_,by omega⟩;simp(config := { maxSteps := 3000000 }) [hcs]
      ·have hke:k=ws.length:=by omega
       subst hke;by_cases hws:ws.length=0;all_goals simp(config := { maxSteps := 3000000 }) [hlt,hcs,hws,aQ,aY,aP,aV,hi1,hi2]<;>first|exact⟨by rw[List.eq_nil_of_length_eq_zero hcs];rfl,by rw[List.eq_nil_of_length_eq_zero hws];rfl⟩|(rw[List.eq_nil_of_length_eq_zero hcs];rfl)|(rw[List.eq_nil_of_length_eq_zero hws];rfl)
 ·cases h
@[simp] noncomputable def KB:List AV→Option (Prop×AV)|[.agg ys]=>jU ys fun x=>some ((x.d.ps.length≤100000∧x.d.vs.length≤100000)∧x.cs.length≤100000∧x.ws.length≤100000,.agg (bf 134 108 71 84 x))|_=>none
theorem FB:aN Tryz.prog 29 KB:=by
 intro ys φ r h hφ;unfold KB at h;split at h
 ·obtain⟨x,rfl,h2⟩:=da h;clear h;cases h2;obtain⟨c,t,⟨⟨e,p,i,u,h'⟩,ps,vs,sl⟩,cs,ws⟩:=x;obtain⟨⟨h1,h2⟩,h3,h4⟩:=hφ;have h1:ps.length≤100000:=h1;have h2:vs.length≤100000:=h2;have h3:cs.length≤100000:=h3;have h4:ws.length≤100000:=h4;have h5:ps.length≤100000000:=by omega
  have h6:vs.length≤1000000:=by omega
  have h7:cs.length≤100000000:=by omega
  have h8:ws.length≤100000000:=by omega
  refine aq (ag oI (ag Ci (ag MN (ag ZI ah)))) (by kernel_rfl) (by conv=>lhs;reduce) (by simp) ?_;apply af;·simp(config := { maxSteps := 3000000 }) [aQ];exact⟨rfl,rfl⟩
  apply af;·simp(config := { maxSteps := 3000000 }) [h5,h6];exact⟨rfl,rfl⟩
  apply af;·simp(config := { maxSteps := 3000000 }) [h7,h8];exact⟨rfl,rfl⟩
  simp(config := { maxSteps := 3000000 }) [bf,aY,aP,aV]
 ·cases h
noncomputable def nG (x:Sc) (r:Rc) (s:Int):Sc×Int:=if(ou x r s).2=true then((ou x r s).1,0) else(x,220)
@[simp] noncomputable def UI:List AV→Option (Prop×AV)|[.agg xs,.agg ys,.pv (.int .u64 s)]=>jU xs fun x=>ua ys fun r=>some (xI x r s,.aJ [.agg (bf 134 108 71 84 (nG x r s).1),.pv (.int .i64 (nG x r s).2)])|_=>none
theorem YP:aN Tryz.prog 13 UI:=by
 intro ys φ r h hφ;unfold UI at h;split at h
 ·rename_i xs zs s;obtain⟨x,rfl,h1⟩:=da h;obtain⟨r,rfl,h2⟩:=nJ h1;clear h h1;cases h2;have hok:xI x r s:=hφ;obtain⟨o1,o2,o3,o4,o5,o6,o7,o8,o9,o10,o11⟩:=hφ;obtain⟨c,t,⟨⟨e,p,i,u,h'⟩,ps,vs,sl⟩,cs,ws⟩:=x;obtain⟨k,rp,ri,rs,re,ru,rv,rc,rz,rm,rn,rt⟩:=r;have o2:ws.length≤100000:=o2;have o3:cs.length≤100000:=o3;have o5:ps.length<50:=o5;have o5':ps.length≤100000:=by omega
  have o6:vs.length≤100000:=o6;refine aq (ag FB (ba (ks:=[2,0,0]) c_DoS (by kernel_rfl) ah)) (by kernel_rfl) (by conv=>lhs;reduce) (by simp) ?_;apply af;·simp(config := { maxSteps := 3000000 }) [aQ,fq];exact⟨rfl,rfl⟩
  apply af;·simp(config := { maxSteps := 3000000 }) [o2,o3,o5',o6,bf];exact⟨rfl,rfl⟩
  unfold nG;generalize hx:ou ⟨c,t,⟨⟨e,p,i,u,h'⟩,ps,vs,sl⟩,cs,ws⟩ ⟨k,rp,ri,rs,re,ru,rv,rc,rz,rm,rn,rt⟩ s=q;obtain⟨⟨xc,xt,⟨⟨xe,xp,xi,xu,xh⟩,xps,xvs,xsl⟩,xcs,xws⟩,b⟩:=q;rw[bg];apply af;·simp(config := { maxSteps := 3000000 }) [hok,hx,pf,bf,aY,aP,aV];exact⟨rfl,rfl⟩
  cases b with|false=>apply cj rfl;simp(config := { maxSteps := 3000000 }) [o2,o3,o5',o6,bf,aY,aP,aV]|true=>apply eI rfl;simp(config := { maxSteps := 3000000 }) [bf,aY,aP,aV]
 ·cases h
theorem wh (a b:Int):BP a b=0↔a=b:=by
 unfold BP;split;·exact⟨fun h=>by simp at h,fun h=>by omega⟩
 ·split;·exact⟨fun h=>by simp at h,fun h=>by omega⟩
  ·exact⟨fun _=>by omega,fun _=>rfl⟩
theorem xP (w e:Pn):rI w e=true↔e.i=w.i∧e.v=w.v:=by
 unfold rI F2;rw[decide_eq_true_eq];split;·rename_i h;rw[wh]at h ⊢;exact⟨fun h2=>⟨h,h2⟩,fun h2=>h2.2⟩
 ·rename_i h;exact⟨fun h2=>absurd h2 h,fun h2=>absurd ((wh _ _).2 h2.1) h⟩
def BY (l:List Pn) (p i:Int):Int×Bool:=match l.find? (rI ⟨p,i,0⟩) with|some e=>(e.u,true)|none=>(0,false)
theorem OG {l:List Pn}{p i:Int}{j:Nat} (h:j<l.length) (ht:∀e∈l.take j,¬(e.i=p∧e.v=i)) (he:l[j].i=p∧l[j].v=i):BY l p i=(l[j].u,true):=by
 have hf:l.find? (rI ⟨p,i,0⟩)=some l[j]:=by rw[List.find?_eq_some_iff_getElem];refine⟨(xP _ _).2 he,j,h,rfl,fun k hk=>?_⟩;have:=ht l[k] (by rw[List.mem_take_iff_getElem];exact⟨k,by omega,rfl⟩);rw[←xP ⟨p,i,0⟩]at this;simpa using this
 unfold BY;rw[hf]
theorem Mu {l:List Pn}{p i:Int} (ht:∀e∈l,¬(e.i=p∧e.v=i)):BY l p i=(0,false):=by
 have hf:l.find? (rI ⟨p,i,0⟩)=none:=by rw[List.find?_eq_none];intro e he hq;exact ht e he ((xP _ _).1 hq)
 unfold BY;rw[hf]
@[simp] noncomputable def T1:List AV→Option (Prop×AV)|[.agg ys,.pv (.int .u64 p),.pv (.int .u64 i)]=>jU ys fun x=>some (x.ws.length≤1000000000,.aJ [.pv (.int .u64 (BY x.ws p i).1),.pv (.bool (BY x.ws p i).2)])|_=>none
theorem Zp:aN Tryz.prog 12 T1:=by
 intro ys φ r h hφ;unfold T1 at h;split at h
 ·rename_i ys q j;obtain⟨x,rfl,h2⟩:=da h;clear h;cases h2;obtain⟨c,t,⟨⟨e,p,i,u,h'⟩,ps,vs,sl⟩,cs,ws⟩:=x;have hl:ws.length≤1000000000:=hφ;refine aq ah (by kernel_rfl) (by conv=>lhs;reduce) (by simp) ?_;simp(config := { maxSteps := 3000000 }) [aQ];refine al (fun k:Nat=>k≤ws.length∧∀e∈ws.take k,¬(e.i=q∧e.v=j)) (fun k=>⟨[(1,.pv (.int .u64 q)),(2,.pv (.int .u64 j)),(3,.ptr 3 0),(6,.pv (.int .u64 0)),(7,.pv (.bool false)),(11,.pv (.ro (aw ws))),(12,.pv (.int .i64 ws.length)),(13,.pv (.int .i64 (k:Int)))],[(3,.box (aQ ⟨c,t,⟨⟨e,p,i,u,h'⟩,ps,vs,sl⟩,cs,ws⟩))]⟩) (fun k=>ws.length-k) [] 0 (by simp) ?_ ?_;·simp[aQ]
  ·rintro k ⟨hk,ht⟩;have w2:IntKind.i64.wrap ((k:Int)+1)=(k:Int)+1:=wrap_i64 (by omega);by_cases hlt:k<ws.length
   ·have r1:=bM hlt;by_cases he:ws[k].i=q∧ws[k].v=j;·have hs:=OG hlt ht he;obtain⟨e1,e2⟩:=he;simp(config := { maxSteps := 3000000 }) [w2,hlt,r1,e1,e2,hs]
    ·have hn:k+1≤ws.length∧∀e∈ws.take (k+1),¬(e.i=q∧e.v=j):=by
      refine⟨by omega,fun e hm=>?_⟩;rw[List.take_succ_eq_append_getElem hlt,List.mem_append,List.mem_singleton]at hm;rcases hm with hm|rfl;·exact ht e hm
      ·exact he
     by_cases e1:ws[k].i=q;·have e2:¬ws[k].v=j:=fun h=>he ⟨e1,h⟩;simp(config := { maxSteps := 3000000 }) [w2,hlt,r1,e1,e2,aQ];exact⟨k+1,by simpa using hn,by omega,by omega⟩
     ·simp(config := { maxSteps := 3000000 }) [w2,hlt,r1,e1,aQ];exact⟨k+1,by simpa using hn,by omega,by omega⟩
   ·rw[List.take_of_length_le (by omega)]at ht;simp(config := { maxSteps := 3000000 }) [hlt,Mu ht]
 ·cases h
end Go.Proofs.YtlicclncicbajaaGreat.Ab
namespace Go.Proofs.YtlicclncicbajaaGreat.Ab
open Go Go.RowKit Go.Shelf
attribute[local go_sem] Oper.semAt_some
set_option maxHeartbeats 1000000 in theorem Bk (F:Fence) (n:Nat) (hF:F.fn 75) (hro:F.round=none) (hn:1≤n) (l Bn n₀:Nat) (A:Option Addr) (k c:Nat) (hk:k≤65535) (J Jx:List Unit→World→Prop) (hY:∀pre x W,J pre W→pre.length<1→YieldAt F (n-1) Tryz.prog l #[.slice A k c] W fun e W'=>(e=.returned (.bool true)∧J (pre++[x]) W'∧Below n₀ W W')∨(e=.returned (.bool false)∧Jx (pre++[x]) W')) (W:World) (hBn:W.cell? ⟨Bn,0,none⟩=some (.slice A k c)) (h0:J [] W):CallsIn F n Tryz.prog 75 #[.func (.yield l) #[] #[],.pointer (some ⟨Bn,0,none⟩)] W fun e W'=>(∃v,e=.returned v)∧((∃ys,ys=[()]∧J ys W')∨(∃pre,pre<+:[()]∧Jx pre W')):=by
 refine callsIn_of_wp Tryz.func75 rfl hF ?_ hro;simp only[Tryz.ntmps75,List.size_toArray,List.length_cons,List.length_nil,Nat.reduceAdd,Nat.reduceSub,Array.replicate_succ,Array.replicate_zero,List.push_toArray,List.append_toArray,List.nil_append,List.cons_append];gi_wp2;gi_loopw[] (fun wr=>wr=W) (fun wr=>0);case atStart=>rfl
 case round=>
  subst hrel;have hk2:¬(65535:Int)<(k:Int):=by omega
  obtain⟨fn,tmps,assign,body,hy,hR⟩:=hY [] () wr h0 (by simp);gi_wp2;refine hR.mono ?_;rintro e W3 (⟨rfl,hJ3,hk3⟩|⟨rfl,hJx3⟩);·gi_wp2;go_end0;exact⟨⟨_,rfl⟩,.inl ⟨_,rfl,hJ3⟩⟩
  ·gi_wp2;go_end0;exact⟨⟨_,rfl⟩,.inr ⟨_,List.prefix_refl _,hJx3⟩⟩
set_option maxHeartbeats 1000000 in theorem EG (F:Fence) (n:Nat) (hF:F.fn 41) (hro:F.round=none) (V:Value) (w:World) (hV:V.oneCell'=true):CallsIn F n Tryz.prog 41 #[V] w fun e w'=>e=.returned (.func (.func 75) #[] #[.pointer (some ⟨w.heap.size,0,none⟩)])∧w'=w.alloc (.cells #[V] 74):=by refine callsIn_of_wp Tryz.func41 rfl hF ?_ hro;simp only[Tryz.ntmps41,List.size_toArray,List.length_cons,List.length_nil,Nat.reduceAdd,Nat.reduceSub,Array.replicate_succ,Array.replicate_zero,List.push_toArray,List.append_toArray,List.nil_append,List.cons_append];gi_wp2;go_ret;exact⟨rfl,rfl⟩
theorem ye (F:Fence) (n:Nat) (hF:F.fn 75) (hro:F.round=none) (hn:1≤n) (Bn n₀:Nat) (A:Option Addr) (k c:Nat) (hk:k≤65535) (w:World) (hBn:Bn<w.heap.size) (hn₀:n₀≤w.heap.size) (hc:w.cell? ⟨Bn,0,none⟩=some (.slice A k c)):SeqStopsK F n Tryz.prog 75 #[.pointer (some ⟨Bn,0,none⟩)] (fun _:Unit=>#[.slice A k c]) (Below n₀) (fun ys=>ys=[()]) (fun pre=>pre<+:[()]) 1 w:=fun l J Jx W hW _ _ hY h0=>Bk F n hF hro hn l Bn n₀ A k c hk J Jx hY W ((hW.cell (p:=⟨Bn,0,none⟩) hBn).trans hc) h0
attribute[local go_sem] Oper.semAt_some
def eo (l:List UInt8):List Value:=l.map fun c=>.int .u8 (c.toNat:Int)
theorem GO:(Tryz.prog.info? 115).map (fun i=>(i.zero,i.size,i.bytes))=some (some (.agg #[.int .u8 0,.slice none 0 0]),2,32):=by kernel_rfl
theorem xq:(Tryz.prog.info? 5).map (fun i=>(i.zero,i.size,i.bytes))=some (some (.int .u8 0),1,1):=by kernel_rfl
theorem wV {W:World}{b:Nat}{ty:TypeId}{v0 v1 v2 v3 v4 v5 v6 v7 v8 v9 v10 v11:Value} (h:W.heap[b]?=some (.cells #[v0,v1,v2,v3,v4,v5,v6,v7,v8,v9,v10,v11] ty (0,0))):W.cell? ⟨b,0,none⟩=some v0∧W.cell? ⟨b,1,none⟩=some v1∧W.cell? ⟨b,2,none⟩=some v2∧W.cell? ⟨b,3,none⟩=some v3∧W.cell? ⟨b,4,none⟩=some v4∧W.cell? ⟨b,5,none⟩=some v5∧W.cell? ⟨b,6,none⟩=some v6∧W.cell? ⟨b,7,none⟩=some v7∧W.cell? ⟨b,8,none⟩=some v8∧W.cell? ⟨b,9,none⟩=some v9∧W.cell? ⟨b,10,none⟩=some v10∧W.cell? ⟨b,11,none⟩=some v11:=by simp[World.cell?,h]
theorem zR {β:Type} (n₀:Nat) (e:TypeId) (size:Nat) (V:Value) (k:Nat) (cs:List Value):Own (fun(_:β) W=>W.ownsRow n₀ e size V k cs):=by
 rintro s X Y row hr hg hrow;refine hr.kept hg ?_;rcases hr.2 with⟨rfl,_⟩|⟨g,cap,cur,rfl,_,hgb,_⟩;·exact .inl rfl
 ·refine .inr fun e'=>?_;obtain⟨o,ho,hc⟩:=hrow g (by simpa[Value.ownBlock]using e'.symm);rw[hgb]at ho;cases ho;cases hc
theorem cell_two_new (w:World) (x y:Value) (t:TypeId):∀j u,[x,y][j]?=some u→(w.alloc (.cells #[x,y] t)).cell? ((⟨w.heap.size,0,none⟩:Addr).add j)=some u:=by
 have h:(w.alloc (.cells #[x,y] t)).heap[w.heap.size]?=some (.cells #[x,y] t (0,0)):=World.alloc_heap_new w _;have hcl:∀i,(w.alloc (.cells #[x,y] t)).cell? ⟨w.heap.size,i,none⟩=#[x,y][i]?:=fun i=>by unfold World.cell?;rw[h];rfl
 intro j u hj;rw[Addr.add_lit,hcl];simpa using hj
theorem Dq {W W':World}{b b':Nat}{e e':TypeId}{s s':Nat}{V V':Value}{k k':Nat}{xs ys:List Value} (h:W.ownsRow b e s V k xs) (h':W.ownsRow b' e' s' V' k' ys) (hne:e≠e') (hg:W.grownBy W' V'.ownBlock):W'.ownsRow b e s V k xs:=by
 refine h.kept hg ?_;rcases h.2 with⟨hv,h0⟩|⟨g,cap,cur,rfl,_,hgb,_⟩;·exact .inl (by rw[hv];rfl)
 ·refine .inr ?_;rcases h'.2 with⟨rfl,_⟩|⟨g',cap',cur',rfl,_,hg',_⟩;·simp[Value.ownBlock]
  ·intro he;have:g=g':=by simpa[Value.ownBlock]using he
   subst this;rw[hgb]at hg';cases hg';exact hne rfl
theorem DV {W:World}{B:Nat}{t:TypeId}{u:Value} (hb:Boxed W B t u) {b:Nat}{e:TypeId}{s:Nat}{V:Value}{k:Nat}{xs:List Value} (h:W.ownsRow b e s V k xs) (hne:t≠e) (v':Value):(W.setCell ⟨B,0,none⟩ v').ownsRow b e s V k xs:=h.kept (grownBy_setCell' W B v') (.inr (hb.not_row hne h).symm)
theorem oh {W:World}{b:Nat}{e:TypeId}{s:Nat}{V:Value}{k:Nat}{xs:List Value} (h:W.ownsRow b e s V k xs):W.ownsRow 0 e s V k xs:=by
 refine⟨h.1,?_⟩;rcases h.2 with h|⟨g,cap,cur,h1,h2,h3⟩;·exact .inl h
 ·exact .inr ⟨g,cap,cur,h1,Nat.zero_le _,h3⟩
set_option maxHeartbeats 4000000 in theorem GC (ch tl:Int) (d0 d1 d2 d3 d4 d5 d6 d7 vc:Value) (Al:Option Addr) (cl:Nat) (B C R:List UInt8) (hlen:B.length+C.length≤65535) (w:World) (hc:∀W,Below w.heap.size w W→Calls Tryz.prog 38 #[.agg #[.int .u64 ch,.int .u64 tl,d0,d1,d2,d3,d4,d5,d6,d7,vc,.slice Al 0 cl]] W fun e W1=>∃A c,e=.returned (.tuple #[.slice (some A) C.length c,.int .i64 0])∧(∀j,j<C.length→W1.cell? (A.add j)=(eo C)[j]?)∧A.block<W1.heap.size∧Below W.heap.size W W1) (hr:∀W,Below w.heap.size w W→Calls Tryz.prog 39 #[.agg #[.int .u64 ch,.int .u64 tl,d0,d1,d2,d3,d4,d5,d6,d7,vc,.slice Al 0 cl]] W fun e W1=>e=.returned (.bool true)∧Below W.heap.size W W1) (ha:∀W A c,3≤c→W.cell? (A.add 0)=some (.int .u64 ch)→W.cell? (A.add 1)=some (.int .u64 tl)→W.cell? (A.add 2)=some (.int .u64 0)→Calls Tryz.prog 40 #[.slice (some A) 3 c] W fun e W1=>∃V,e=.returned V∧W1.ownsRow W.heap.size 5 1 V B.length (eo B)∧Below W.heap.size W W1) (hj:∀W A c V,1≤c→W.cell? (A.add 0)=some (.int .u8 12)→W.cell? (A.add 1)=some V→W.ownsRow 0 5 1 V (B.length+C.length) (eo B++eo C)→Calls Tryz.prog 42 #[.slice (some A) 1 c] W fun e W1=>∃V',e=.returned (.tuple #[V',.int .i64 0])∧cZ (fun b=>W.heap.size≤b∧b<W1.heap.size) W1 V' (.ro (bytesRow R))∧Below W.heap.size W W1):Calls Tryz.prog 21 #[.agg #[.int .u64 ch,.int .u64 tl,d0,d1,d2,d3,d4,d5,d6,d7,vc,.slice Al 0 cl]] w fun e w'=>∃V',e=.returned (.tuple #[V',.int .i64 0])∧cZ (fun b=>w.heap.size≤b∧b<w'.heap.size) w' V' (.ro (bytesRow R))∧Below w.heap.size w w':=by
 refine(callsIn_wide (n:=6)).1 ?_;refine callsIn_of_wp_marks Tryz.func21 rfl trivial ?_ rfl;simp only[Tryz.ntmps21,List.size_toArray,List.length_cons,List.length_nil,Nat.reduceAdd,Nat.reduceSub,Array.replicate_succ,Array.replicate_zero,List.push_toArray,List.append_toArray,List.nil_append,List.cons_append];obtain⟨W0,hW0⟩:∃W0,W0=w.alloc (.cells #[.int .u64 ch,.int .u64 tl,d0,d1,d2,d3,d4,d5,d6,d7,vc,.slice Al 0 cl] 36):=⟨_,rfl⟩;have hB0:Below w.heap.size w W0:=by rw[hW0];exact(Below.refl _ w).alloc (Nat.le_refl _) _
 have hh0:W0.heap[w.heap.size]?=some (.cells #[.int .u64 ch,.int .u64 tl,d0,d1,d2,d3,d4,d5,d6,d7,vc,.slice Al 0 cl] 36 (0,0)):=by rw[hW0];show(w.heap.push _)[w.heap.size]?=_;simp
 have hz0:w.heap.size<W0.heap.size:=(Array.getElem?_eq_some_iff.1 hh0).1;gi_wp2;rw[←hW0];refine⟨trivial,(callsIn_wide.2 (hc W0 hB0)).mono ?_⟩;rintro e W1 ⟨A,c,rfl,hC,hAb,hB1⟩;have hh1:=(hB1.block _ hz0).trans hh0;obtain⟨x0,x1,x2,x3,x4,x5,x6,x7,x8,x9,x10,x11⟩:=wV hh1;gi_wp2;refine⟨trivial,(callsIn_wide.2 (hr W1 (hB0.trans (hB1.mono (Nat.le_of_lt hz0))))).mono ?_⟩;rintro e W2 ⟨rfl,hB2⟩;have hz1:w.heap.size<W1.heap.size:=Nat.lt_of_lt_of_le hz0 hB1.size;have hh2:=(hB2.block _ hz1).trans hh1;clear x0 x1 x2 x3 x4 x5 x6 x7 x8 x9 x10 x11;obtain⟨x0,x1,x2,x3,x4,x5,x6,x7,x8,x9,x10,x11⟩:=wV hh2;gi_wp2;have hz2:w.heap.size<W2.heap.size:=Nat.lt_of_lt_of_le hz1 hB2.size;obtain⟨W3,hW3⟩:∃W3,W3=W2.alloc (.cells #[.int .u64 ch,.int .u64 tl,.int .u64 0] 22):=⟨_,rfl⟩;have hB3:Below W2.heap.size W2 W3:=by rw[hW3];exact(Below.refl _ W2).alloc (Nat.le_refl _) _
 have hh3':W3.heap[W2.heap.size]?=some (.cells #[.int .u64 ch,.int .u64 tl,.int .u64 0] 22 (0,0)):=by rw[hW3];show(W2.heap.push _)[W2.heap.size]?=_;simp
 have hh3:=(hB3.block _ hz2).trans hh2;have hz3:w.heap.size<W3.heap.size:=Nat.lt_of_lt_of_le hz2 hB3.size;rw[←hW3];refine⟨trivial,(callsIn_wide.2 (ha W3 ⟨W2.heap.size,0,none⟩ 3 (Nat.le_refl _) (by simp[Addr.add,World.cell?,hh3']) (by simp[Addr.add,World.cell?,hh3']) (by simp[Addr.add,World.cell?,hh3']))).mono ?_⟩;rintro e W4 ⟨V,rfl,hV,hB4⟩;have hh4:=(hB4.block _ hz3).trans hh3;clear x0 x1 x2 x3 x4 x5 x6 x7 x8 x9 x10 x11;obtain⟨x0,x1,x2,x3,x4,x5,x6,x7,x8,x9,x10,x11⟩:=wV hh4;gi_wp2;gi_loopw[6,36] (fun vb p wr=>vb=V∧p=.int .i64 0∧wr=W4) (fun _ _ _=>0);case atStart=>exact⟨rfl,rfl,rfl⟩
 case round=>
  obtain⟨rfl,rfl,rfl⟩:=hrel;obtain⟨iu,hiu,hu0,hu1,hu2⟩:=info_parts xq;have hBa:Below wr.heap.size wr (wr.alloc (.cells #[.slice none 0 0] 111)):=(Below.refl _ wr).alloc (Nat.le_refl _) _;have hCw:∀j u,(eo C)[j]?=some u→(wr.alloc (.cells #[.slice none 0 0] 111)).cell? (A.add j)=some u:=by
   intro j u hj;have hjl:j<C.length:=by have:=(List.getElem?_eq_some_iff.1 hj).1;simpa[eo]using this
   have hb:(A.add j).block<W1.heap.size:=by rw[bH];exact hAb
   rw[hBa.cell (Nat.lt_of_lt_of_le hb (Nat.le_trans hB2.size (Nat.le_trans hB3.size hB4.size))),(hB4.cell (Nat.lt_of_lt_of_le hb (Nat.le_trans hB2.size hB3.size))),(hB3.cell (Nat.lt_of_lt_of_le hb hB2.size)),hB2.cell hb,hC j hjl,hj]
  gi_wp2_with(gi_at_builtin;refine wpListIn_append_own _ rfl _ _ 74 rfl W3.heap.size 5 iu (.int .u8 0) 1 1 Tryz.underlying74 hiu hu0 hu1 hu2 rfl (by decide) _ _ _ rfl (hV.alloc _) A C.length c (eo C) rfl (by simp[eo]) hCw (by intro u hu;simp only[eo,List.mem_map]at hu;obtain⟨q,_,rfl⟩:=hu;rfl) (by unfold maxLen;omega) (by omega) (by have:=hB4.size;simp;omega) ?_;intro V5 W5 hV5 hg5 _);obtain⟨A5,c5,rfl⟩:∃A5 c5,V5=.slice A5 (B.length+C.length) c5:=by
   rcases hV5.2 with⟨h,hn⟩|⟨g,cap,cur,h,_⟩;·exact⟨none,0,by rw[h,hn]⟩
   ·exact⟨_,_,h⟩
  have bO:=(Boxed.new wr 111 (.slice none 0 0)).kept hg5 ((Boxed.new wr 111 (.slice none 0 0)).not_row (by decide) (hV.alloc _));have hB5:Below w.heap.size w W5:=by
   have h4:Below w.heap.size w (wr.alloc (.cells #[.slice none 0 0] 111)):=(((((hB0.trans (hB1.mono (Nat.le_of_lt hz0))).trans (hB2.mono (Nat.le_of_lt hz1))).trans (hB3.mono (Nat.le_of_lt hz2))).trans (hB4.mono (Nat.le_of_lt hz3))).alloc (by have:=hB4.size;omega) _);refine h4.grown hg5 h4.size fun k e=>?_;have hvo:=hV.2;rcases hvo with⟨hv,_⟩|⟨g,cap,cur,hv,hb,_⟩;·rw[hv]at e;cases e
   ·rw[hv]at e;have e':some g=some k:=e;cases e';exact Nat.le_of_lt (Nat.lt_of_lt_of_le hz3 hb)
  have hz5:wr.heap.size<W5.heap.size:=by have:=hg5.size;simp at this;omega
  refine⟨trivial,(EG Fence.wide 5 trivial rfl _ _ rfl).mono ?_⟩;rintro e W6 ⟨rfl,hW6⟩;gi_wp2;obtain⟨ifr,hif,hf0,hf1,hf2⟩:=info_parts GO;have hW65:W6=W5.alloc (.cells #[.slice A5 (B.length+C.length) c5] 74):=hW6;have hz6:W6.heap.size=W5.heap.size+1:=by rw[hW65];simp
  have hc6:W6.cell? ⟨W5.heap.size,0,none⟩=some (.slice A5 (B.length+C.length) c5):=by rw[hW65];exact(Boxed.new W5 _ _).cell
  have hB6:Below w.heap.size w W6:=by rw[hW65];exact hB5.alloc hB5.size _
  have bO6:Boxed W6 wr.heap.size 111 (.slice none 0 0):=by rw[hW65];exact bO.alloc _
  have hV6:W6.ownsRow W3.heap.size 5 1 (.slice A5 (B.length+C.length) c5) (B.length+C.length) (eo B++eo C):=by rw[hW65];exact hV5.alloc _
  rw[←hW65];clear hW6 hW65;refine' wpIn_rangeFunc_ownG rfl (by omega) (gf:=75) (lb:=#[.pointer (some ⟨W5.heap.size,0,none⟩)]) rfl trivial (enters_of Tryz.func75 (by kernel_rfl) rfl) (ye Fence.wide 5 trivial rfl (by omega) W5.heap.size 0 A5 (B.length+C.length) c5 hlen W6 (by omega) (by omega) hc6) belowK_t (belowK_b (by omega)) (Below.refl _ _) (fun _=>rfl) (fun(pre:List Unit) W=>((∃v,Boxed W wr.heap.size 111 v∧W.ownsRow wr.heap.size 115 2 v pre.length (pre.flatMap fun _=>[.int .u8 12,.slice A5 (B.length+C.length) c5])∧True)∧W.ownsRow W3.heap.size 5 1 (.slice A5 (B.length+C.length) c5) (B.length+C.length) (eo B++eo C))∧Below w.heap.size w W) (fun _ _ _=>False) (OwnFrom.and (OwnFrom.and (Own.from (holdsRow_own _ _ _ _ _ _ _ _) _) (Own.from (zR _ _ _ _ _ _) _)) (ownFrom_below (Nat.le_refl _) hB6.size)) (fun _ _ _ _ _ hs _ _=>hs) ⟨⟨⟨_,bO6,World.ownsRow_nil _ _ _ _,trivial⟩,hV6⟩,hB6⟩ _ ?assign ?body ?done ?stop;case assign=>intro l x W K hK;gi_wp2;exact hK
  case body=>rintro l pre x W ⟨⟨⟨v,hv,hrow,_⟩,hVW⟩,hB⟩ hlt;have hc:=hv.cell;have hwr:wr.heap.size≤W.heap.size:=Nat.le_of_lt hv.lt;have hww:w.heap.size≤wr.heap.size:=Nat.le_of_lt (Nat.lt_of_lt_of_le hz3 hB4.size);gi_wp2_with(gi_at_builtin;refine wpListIn_append_own _ rfl _ _ 111 rfl wr.heap.size 115 ifr _ 2 32 Tryz.underlying111 hif hf0 hf1 hf2 rfl (by decide) _ _ _ rfl (hrow.alloc _) ⟨W.heap.size,0,none⟩ 1 1 [.int .u8 12,.slice A5 (B.length+C.length) c5] rfl rfl (cell_two_new _ _ _ _) (by simp[Value.oneCell']) (by unfold maxLen;omega) (by omega) (by simp;omega) ?_;intro v' w1 hown' hgrow _;obtain⟨g',cap',rfl⟩:=ownsRow_succ hown';obtain⟨hv1,hv2,hr2,hk2,hb2⟩:=hv.appended (by decide) hrow hwr (Nat.le_refl _) hown' hgrow;have hc1:=hv1.cell;have hfz:=hv1.frozen);have hV7:=DV hv1 (Dq (hVW.alloc _) (hrow.alloc _) (by decide) hgrow) (by decide) (.slice (some ⟨g',0,none⟩) (pre.length+1) cap');refine⟨hk2.from _,hb2.mono (Nat.zero_le _),⟨⟨_,hv2,by simpa using hr2,trivial⟩,hV7⟩,hB.trans (hb2.mono hww)⟩
  case done=>
   rintro D ys W hD rfl ⟨⟨⟨v,hv,hrow,_⟩,hVW⟩,hB⟩ hK;have hc:=hv.cell;have hDW:D<W.heap.size:=(Array.getElem?_eq_some_iff.1 hK).1;gi_wp2;rcases hrow.2 with⟨_,h0⟩|⟨g,cap,cur,rfl,hgb,hg,hcn,hcm,hcs,htk⟩;·cases h0
   have hcc:∀i,W.cell? ⟨g,i,none⟩=cur[i]?:=fun i=>by unfold World.cell?;rw[hg];rfl
   have hk0:∀i,i<2→cur[i]?=[Value.int .u8 12,.slice A5 (B.length+C.length) c5][i]?:=fun i hi=>by have:=congrArg (fun l=>l[i]?) htk;simp only[List.length_cons,List.length_nil,Nat.zero_add,Nat.one_mul,List.getElem?_take,hi,if_true,List.flatMap_cons,List.flatMap_nil,List.append_nil,Array.getElem?_toList]at this;exact this
   refine⟨trivial,(callsIn_wide.2 (hj W ⟨g,0,none⟩ cap (.slice A5 (B.length+C.length) c5) hcn (by rw[Addr.add_lit,hcc,hk0 _ (by omega)];rfl) (by rw[Addr.add_lit,hcc,hk0 _ (by omega)];rfl) (oh hVW))).mono ?_⟩;rintro e W8 ⟨V',rfl,hR,hB8⟩;gi_wp2;refine⟨by simp,.inl ⟨_,_,rfl,run_takeDeferred ((hB8.block D hDW).trans hK),?_⟩⟩;have hzD:w.heap.size≤D:=Nat.le_trans hB6.size hD;have hzW:w.heap.size≤W.heap.size:=hB.size;refine⟨_,results_tmp2 rfl _ _ _,V',rfl,hR.mono fun b hb=>⟨⟨Nat.le_trans hzW hb.1,by rw[World.putObj_size];exact hb.2⟩,World.putObj_heap_other (by have:=hb.1;omega)⟩,?_⟩;exact hB.trans ((hB8.mono hzW).trans (belowK_b (w:=w) (Nat.le_refl _) W8 D _ _ hzD ((hB8.block D hDW).trans hK) rfl rfl))
  case stop=>rintro D c pre W _ _ h _;exact h.elim
end Go.Proofs.YtlicclncicbajaaGreat.Ab
