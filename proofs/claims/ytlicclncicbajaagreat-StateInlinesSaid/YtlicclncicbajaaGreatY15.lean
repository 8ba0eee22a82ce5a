/- A law's frame: what is handed in, as plain rows; what is handed in reads as it did. -/
import Derived.Test.YtlicclncicbajaaGreatY14
import Derived.ProofKit
import Derived.Below
import Derived.ChangeSame
import Derived.Carry
import Derived.Deep.Slices
import Derived.Deep.Fields
import Derived.Test.YtlicclncicbajaaGreatRows
set_option linter.unusedVariables false
set_option linter.unusedSimpArgs false
set_option linter.unnecessarySimpa false
set_option maxHeartbeats 40000000
set_option maxRecDepth 100000
namespace Go.Proofs.YtlicclncicbajaaGreat.Ab
open Go Go.RowKit Go.WideShapes Go.ChangeShapes
def fg (P:Program):Nat→TypeId→List PV→Prop|0,_,_=>False|n+1,t,row=>match P.underlying t with|some .bool=>∃b,row=[.bool b]|some (.int k)=>∃m,row=[.int k m]∧(Lit.int k m).wf=true|some .string=>∃l,row=[.str l]∧l.length≤maxLen|some (.slice e)=>∃rows,row=[.ro rows]∧rows.length≤maxLen∧∀r∈rows,fg P n e r|some (.struct fs)=>row.length=P.cellsOf t∧∀f∈fs.toList,fg P n f.type ((row.drop f.offset).take (P.cellsOf f.type))|_=>False
def qH (P:Program) (T:Nat):Nat→List Field→Bool|o,[]=>o==T|o,f::fs=>f.offset==o&&qH P T (o+P.cellsOf f.type) fs
def fQ (P:Program):Nat→TypeId→Bool|0,_=>false|n+1,t=>match P.underlying t with|some .bool|some (.int _)|some .string=>true|some (.slice e)=>decide (0<P.cellsOf e)&&fQ P n e|some (.struct fs)=>qH P (P.cellsOf t) 0 fs.toList&&fs.toList.all fun f=>fQ P n f.type|_=>false
section
variable{H:Type}{enc:TypeId×Value→H}{P:Program}{w:World}{base:Nat}{spare:Nat→Bool}{held:Bool}
def nD (w:World) (cs:List Value) (row:List PV):Prop:=∀(i:Nat) (v:Value) (p:PV),cs[i]?=some v→row[i]?=some p→v.oneCell'=true∧cZ (fun b=>b<w.heap.size) w v p
theorem yw {T:Nat}:∀{fs:List Field}{o:Nat},qH P T o fs=true→o≤T|[],o,h=>by simp only[qH,beq_iff_eq]at h;omega|f::fs,o,h=>by simp only[qH,Bool.and_eq_true,beq_iff_eq]at h;have:=yw h.2;omega
theorem qy {n T:Nat}{cs:List Value} (hT:cs.length=T):∀(fs:List Field) (o:Nat),qH P T o fs=true→(∀f∈fs,∃r:List PV,r.length=((cs.drop f.offset).take (P.cellsOf f.type)).length∧fg P n f.type r∧nD w ((cs.drop f.offset).take (P.cellsOf f.type)) r)→∃row:List PV,row.length=T-o∧(∀f∈fs,o≤f.offset∧fg P n f.type ((row.drop (f.offset-o)).take (P.cellsOf f.type)))∧nD w (cs.drop o) row
 |[],o,h,_=>by simp only[qH,beq_iff_eq]at h;exact⟨[],by simp;omega,fun f hf=>by simp at hf,fun i v p _ hp=>by simp at hp⟩|f::fs,o,h,hf=>by
  simp only[qH,Bool.and_eq_true,beq_iff_eq]at h;obtain⟨h1,h2⟩:=h;have hle:=yw h2;obtain⟨r,hr1,hr2,hr3⟩:=hf f (by simp);obtain⟨row,g1,g2,g3⟩:=qy hT fs _ h2 fun f' hf'=>hf f' (by simp[hf']);have hrl:r.length=P.cellsOf f.type:=by rw[hr1,h1];simp;omega
  refine⟨r++row,by simp[hrl,g1];omega,fun f' hf'=>?_,fun i v p hv hp=>?_⟩
  ·rcases List.mem_cons.1 hf' with rfl|hf';·refine⟨by omega,?_⟩;rw[h1,Nat.sub_self,List.drop_zero,←hrl,List.take_left'];exact hr2;rfl
   ·obtain⟨k1,k2⟩:=g2 f' hf';refine⟨by omega,?_⟩;rw[show f'.offset-o=r.length+(f'.offset-(o+P.cellsOf f.type)) from by omega,List.drop_append,List.drop_eq_nil_of_le (by omega),List.nil_append,Nat.add_sub_cancel_left];exact k2
  ·by_cases hi:i<r.length;·rw[List.getElem?_append_left hi]at hp;refine hr3 i v p ?_ hp;rw[h1,List.getElem?_take,if_pos (by omega)];exact hv
   ·rw[List.getElem?_append_right (by omega)]at hp;refine g3 (i-r.length) v p ?_ hp;rw[List.getElem?_drop]at hv ⊢;rw[←hv];congr 1;omega
theorem Hg:∀(n:Nat) (fuel:Nat) (t:TypeId) (cs:List Value) (x:DataW H×List MemPlace),fQ P n t=true→DataW.trod enc P w base spare held fuel t cs=some x→∃row:List PV,row.length=cs.length∧fg P n t row∧nD w cs row:=by intro n;induction n with|zero=>intro fuel t cs x hp;simp[fQ]at hp|succ n ih=>
 intro fuel t cs x hp h;have hone:∀(v:Value) (p:PV),cs=[v]→v.oneCell'=true→cZ (fun b=>b<w.heap.size) w v p→nD w cs [p]:=by rintro v p rfl h1 h2 i v' p' hv hp;cases i with|zero=>simp at hv hp;subst hv hp;exact⟨h1,h2⟩|succ i=>simp at hp
 unfold fQ at hp;split at hp;·rename_i hu;cases fuel with|zero=>simp[DataW.trod]at h|succ fuel=>
  simp only[DataW.trod,hu]at h;split at h;all_goals(try(simp_all;done))
  rename_i b hb;exact⟨[.bool b],rfl,by unfold fg;rw[hu];exact⟨b,rfl⟩,hone _ _ rfl rfl (.bool b)⟩
 ·rename_i k hu;cases fuel with|zero=>simp[DataW.trod]at h|succ fuel=>
   simp only[DataW.trod,hu]at h;split at h;all_goals(try(simp_all;done))
   rename_i _ k3 k2 m hk;simp only[Option.some.injEq,TypeDesc.int.injEq]at hk;subst hk;split at h;·rename_i hw;obtain⟨rfl,hw⟩:=hw;exact⟨[.int k2 m],rfl,by unfold fg;rw[hu];exact⟨m,rfl,hw⟩,hone _ _ rfl rfl (.int k2 m)⟩
   ·cases h
 ·rename_i hu;cases fuel with|zero=>simp[DataW.trod]at h|succ fuel=>
   simp only[DataW.trod,hu]at h;split at h;all_goals(try(simp_all;done))
   rename_i s hcs;split at h;·rename_i hs;refine⟨[.str s.data.toList],rfl,by unfold fg;rw[hu];exact⟨_,rfl,by rw[Array.length_toList];exact hs⟩,hone _ _ rfl rfl ?_⟩;have:cZ (fun b=>b<w.heap.size) w (.string ⟨s.data.toList.toArray⟩) (.str s.data.toList):=.str _;rwa[Array.toArray_toList]at this
   ·cases h
 ·rename_i e hu;simp only[Bool.and_eq_true,decide_eq_true_eq]at hp;obtain⟨hC,hp⟩:=hp;rcases Go.Deep.open_slice hu h with⟨rfl,_⟩|⟨a,len,cap,m,n',D,Pl,rfl,hb,hl,hm,hmm,_,hi⟩;·exact⟨[.ro []],rfl,by unfold fg;rw[hu];exact⟨[],rfl,by simp,fun r hr=>by simp at hr⟩,hone _ _ rfl rfl (.wP none 0)⟩
  ·have hlm:len≤m:=by rw[hmm];split<;>omega
   have hrow:∀i,i<len→∃(cs':List Value) (row:List PV),w.cells? base (a.add (i*P.cellsOf e)) (P.cellsOf e)=some cs'∧row.length=cs'.length∧fg P n e row∧nD w cs' row:=fun i hil=>by obtain⟨cs',hc,ht⟩:=hi i (by omega);obtain⟨row,h1,h2,h3⟩:=ih n' e cs' _ hp ht;exact⟨cs',row,hc,h1,h2,h3⟩
   have hrow':∀i:Nat,∃(cs':List Value) (row:List PV),i<len→w.cells? base (a.add (i*P.cellsOf e)) (P.cellsOf e)=some cs'∧row.length=cs'.length∧fg P n e row∧nD w cs' row:=fun i=>by
    by_cases hil:i<len;·obtain⟨cs',row,h1⟩:=hrow i hil;exact⟨cs',row,fun _=>h1⟩
    ·exact⟨[],[],fun h=>absurd h hil⟩
   let F:Nat→List Value:=fun i=>(hrow' i).choose;let R:Nat→List PV:=fun i=>(hrow' i).choose_spec.choose;have hFR:∀i,i<len→w.cells? base (a.add (i*P.cellsOf e)) (P.cellsOf e)=some (F i)∧(R i).length=(F i).length∧fg P n e (R i)∧nD w (F i) (R i):=fun i hil=>(hrow' i).choose_spec.choose_spec hil;have hRl:∀i,i<len→(R i).length=P.cellsOf e∧∀j,j<P.cellsOf e→w.cell? ((a.add (i*P.cellsOf e)).add j)=(F i)[j]?:=fun i hil=>by obtain⟨h1,h2,_⟩:=hFR i hil;obtain⟨_,h4,h5⟩:=World.cells?_some h1;exact⟨by rw[h2,h4],h5⟩
   have hll:((List.range len).map R).length=len:=by simp
   have hget:∀(i:Nat) (r:List PV),((List.range len).map R)[i]?=some r→i<len∧r=R i:=fun i r hr=>by
    rw[List.getElem?_map,Option.map_eq_some_iff]at hr;obtain⟨k,hk,rfl⟩:=hr;have hil:i<len:=by have:=(List.getElem?_eq_some_iff.1 hk).1;simpa using this
    rw[List.getElem?_range hil]at hk;injection hk with hk;exact⟨hil,by rw[hk]⟩
   refine⟨[.ro ((List.range len).map R)],rfl,?_,hone _ _ rfl rfl ?_⟩;·unfold fg;rw[hu];refine⟨_,rfl,by rw[hll];omega,fun r hr=>?_⟩;obtain⟨i,hi1,rfl⟩:=List.mem_map.1 hr;exact(hFR i (by simpa using hi1)).2.2.1
   ·by_cases hz:len=0;·subst hz;exact .wP _ _
    ·have hS:a.block<w.heap.size:=by
      have h0:=(hRl 0 (by omega)).2 0 hC;obtain⟨h1,h2,h3,_⟩:=hFR 0 (by omega);have hlen:(F 0).length=P.cellsOf e:=(World.cells?_some h1).2.1;rw[List.getElem?_eq_getElem (by omega)]at h0;rw[fD]at h0;rcases Nat.lt_or_ge a.block w.heap.size with h'|h';·exact h'
      ·exfalso;have hbk:=bH a (0*P.cellsOf e+0);unfold World.cell? at h0;rw[hbk,Array.getElem?_eq_none h']at h0;simp at h0
     have key:=cZ.ro (S:=fun b=>b<w.heap.size) (w:=w) a cap ((List.range len).map R) (P.cellsOf e) (fun i j=>(F i).getD j undef) hS (by rw[hll];exact hl) (fun r hr=>by obtain⟨i,hi1,rfl⟩:=List.mem_map.1 hr;exact(hRl i (by simpa using hi1)).1) (fun i j hi1 hj=>by rw[hll]at hi1;have h5:=(hRl i hi1).2 j hj;rw[fD]at h5;rw[h5];obtain⟨h1,h2,h3,_⟩:=hFR i hi1;have hlen:(F i).length=P.cellsOf e:=(World.cells?_some h1).2.1;rw[List.getD_eq_getElem?_getD,List.getElem?_eq_getElem (by omega)];rfl) (fun i j r p hr hp=>by
      obtain⟨hil,rfl⟩:=hget i r hr;obtain⟨h1,h2,h3,h4⟩:=hFR i hil;have hj:j<(F i).length:=by rw[←h2];exact(List.getElem?_eq_some_iff.1 hp).1
      have hv:(F i)[j]?=some (F i)[j]:=List.getElem?_eq_getElem hj;rw[List.getD_eq_getElem?_getD,hv];exact(h4 j _ p hv hp).1) (fun i j r p hr hp=>by
      obtain⟨hil,rfl⟩:=hget i r hr;obtain⟨h1,h2,h3,h4⟩:=hFR i hil;have hj:j<(F i).length:=by rw[←h2];exact(List.getElem?_eq_some_iff.1 hp).1
      have hv:(F i)[j]?=some (F i)[j]:=List.getElem?_eq_getElem hj;rw[List.getD_eq_getElem?_getD,hv];exact(h4 j _ p hv hp).2);rw[hll]at key;exact key
 ·rename_i fs hu;simp only[Bool.and_eq_true,List.all_eq_true]at hp;obtain⟨ht,hall⟩:=hp;obtain⟨ys,n',hn',hy,hlen,hyl,hf⟩:=DataW.trod_struct hu h;obtain⟨row,g1,g2,g3⟩:=qy (w:=w) (P:=P) (n:=n) hlen fs.toList 0 ht fun f hfm=>by
   obtain⟨j,hj⟩:=List.getElem?_of_mem hfm;have hj':fs[j]?=some f:=by simpa using hj
   have h1:=hf j f hj';have hjl:j<ys.length:=by rw[hyl];exact(Array.getElem?_eq_some_iff.1 hj').1
   rw[List.getElem?_eq_getElem hjl]at h1;exact ih n' f.type _ _ (hall f hfm) h1
  refine⟨row,by rw[g1];omega,?_,by simpa using g3⟩;unfold fg;rw[hu];exact⟨by rw[g1];omega,fun f hfm=>by simpa using(g2 f hfm).2⟩
 ·cases hp
end
def rL (P:Program) (t:TypeId):Bool:=match P.underlying t with|some (.struct _)=>true|_=>false
def DL (P:Program) (t:TypeId) (row:List PV):AV:=if rL P t=true then .agg (row.map .pv) else match row with|[p]=>.pv p|_=>.au
def oi (P:Program):List TypeId→List (List PV)→List AV|t::ts,r::rs=>DL P t r::oi P ts rs|_,_=>[]
section
variable{H:Type}{enc:TypeId×Value→H}{P:Program}{w:World}
theorem Im {n base b0:Nat}{spare:Nat→Bool}{held:Bool}{r:Reach}{t:TypeId}{v:Value}{d:DataW H}{ps:List MemPlace} (hp:fQ P n t=true) (hv:Value.okWide P w r b0 t v) (h:DataW.Trod enc P w base spare held t v d ps) (β:Nat→Value) (D:Nat→Prop):∃row,fg P n t row∧RV P (fun b=>b<w.heap.size) w β D v (DL P t row):=by
 obtain⟨fuel,h⟩:=h;obtain⟨row,h1,h2,h3⟩:=Hg n fuel t _ _ hp h;refine⟨row,h2,?_⟩;have hone:v.cells=#[v]→rL P t=false→RV P (fun b=>b<w.heap.size) w β D v (DL P t row):=by intro hc hs;rw[hc]at h1 h3;match row,h1 with|[p],_=>simp only[DL,hs];exact .pv _ _ (h3 0 v p rfl rfl).2
 cases n with|zero=>simp[fQ]at hp|succ n=>
  unfold fQ at hp;split at hp;·rename_i hu;obtain⟨b,rfl⟩:=okWide_bool hu hv;exact hone rfl (by simp[rL,hu])
  ·rename_i k hu;obtain⟨m,rfl⟩:=okWide_int hu hv;exact hone rfl (by simp[rL,hu])
  ·rename_i hu;obtain⟨s,rfl⟩:=okWide_string hu hv;exact hone rfl (by simp[rL,hu])
  ·rename_i e hu;obtain⟨a,len,cap,rfl⟩:=okWide_slice hu hv;exact hone rfl (by simp[rL,hu])
  ·rename_i fs hu;obtain⟨cs,rfl,hsz⟩:=okWide_struct hu hv;have hs:rL P t=true:=by simp[rL,hu]
   simp only[DL,hs,if_true];have hcs:(Value.agg cs).cells.toList=cs.toList:=rfl;rw[hcs]at h1 h3;have:=RV.agg (P:=P) (S:=fun b=>b<w.heap.size) (w:=w) (β:=β) (D:=D) (row.map .pv) cs.toList (by simp[h1]) (fun i c u hc hu=>by rw[List.getElem?_map,Option.map_eq_some_iff]at hc;obtain⟨p,hp,rfl⟩:=hc;exact .pv _ _ (h3 i u p hu hp).2);rwa[Array.toArray_toList]at this
  ·cases hp
theorem pW {n base b0:Nat}{spare:Nat→Bool}{held:Bool}{r:Reach} (β:Nat→Value) (D:Nat→Prop):∀(ts:List TypeId) (vs:List Value) (ds:List (DataW H)) (ps:List MemPlace),DataW.TrodAll enc P w base spare held ts vs ds ps→(∀t∈ts,fQ P n t=true)→(∀(j:Nat) (t:TypeId) (v:Value),ts[j]?=some t→vs[j]?=some v→Value.okWide P w r b0 t v)→∃rows:List (List PV),rows.length=ts.length∧vs.length=ts.length∧ds.length=ts.length∧(∀(j:Nat) (t:TypeId) (r:List PV),ts[j]?=some t→rows[j]?=some r→fg P n t r)∧(oi P ts rows).length=ts.length∧∀(i:Nat) (v:Value) (y:AV),vs[i]?=some v→(oi P ts rows)[i]?=some y→RV P (fun b=>b<w.heap.size) w β D v y
 |[],[],[],ps,h,_,_=>⟨[],rfl,rfl,rfl,fun j t r h=>by simp at h,rfl,fun i v y h=>by simp at h⟩|t::ts,v::vs,d::ds,ps,h,hp,hv=>by
  obtain⟨p,q,h1,h2,rfl⟩:=h;obtain⟨rows,g1,g2,g3,g4,g5,g6⟩:=pW β D ts vs ds q h2 (fun t ht=>hp t (by simp[ht])) (fun j t v h1 h2=>hv (j+1) t v (by simpa using h1) (by simpa using h2));obtain⟨row,k1,k2⟩:=Im (hp t (by simp)) (hv 0 t v rfl rfl) h1 β D;refine⟨row::rows,by simp[g1],by simp[g2],by simp[g3],fun j t' r ht hr=>?_,by simp[oi,g5],fun i v' y hv' hy=>?_⟩;·cases j with|zero=>simp at ht hr;subst ht hr;exact k1|succ j=>exact g4 j t' r (by simpa using ht) (by simpa using hr)
  ·cases i with|zero=>simp[oi]at hv' hy;subst hv' hy;exact k2|succ i=>exact g6 i v' y (by simpa using hv') (by simpa[oi]using hy)
 |[],[],_::_,_,h,_,_=>h.elim|[],_::_,_,_,h,_,_=>h.elim|_::_,[],_,_,h,_,_=>h.elim|_::_,_::_,[],_,h,_,_=>h.elim
def BT (P:Program) (n:Nat) (f:FuncId) (ts:List TypeId):Prop:=∀rows:List (List PV),rows.length=ts.length→(∀(j:Nat) (t:TypeId) (r:List PV),ts[j]?=some t→rows[j]?=some r→fg P n t r)→rT P f [] (oi P ts rows) [] (.pv (.bool true))
theorem Ez {n b0:Nat}{r:Reach}{f:FuncId}{ts:List TypeId}{vs:List Value}{ds:List (DataW H)}{ps:List MemPlace} (hcon:BT P n f ts) (hA:DataW.TrodAll enc P w 0 (fun _=>true) true ts vs ds ps) (hp:∀t∈ts,fQ P n t=true) (hv:∀(j:Nat) (t:TypeId) (v:Value),ts[j]?=some t→vs[j]?=some v→Value.okWide P w r b0 t v):Calls P f vs.toArray w fun e w'=>e=.returned (.bool true)∧Below w.heap.size w w':=by
 obtain⟨rows,g1,g2,g3,g4,g5,g6⟩:=pW (fun _=>.nilIface) (fun _=>False) ts vs ds ps hA hp hv;have hS:∀b,aS (fun b=>b<w.heap.size) w.heap.size (fun _=>.nilIface) (ab []) w b↔b<w.heap.size:=by
  intro b;constructor;·exact fun h=>h.2.1
  ·exact fun h=>⟨.inl h,h,fun⟨t,o,ho,_⟩=>by cases ho⟩
 have hD:ay (ab [])=fun _=>False:=by
  funext t;apply propext;constructor;·rintro⟨o,ho⟩;cases ho
  ·exact False.elim
 refine(hcon rows g1 g4 w (fun b=>b<w.heap.size) (fun _=>.nilIface) vs (fun b h=>h) (fun t b ⟨o,ho⟩=>by cases ho) ⟨(fun t o ho=>by cases ho),(fun t t' b ⟨o,ho⟩=>by cases ho)⟩ (by rw[g2,g5]) (fun i v y h1 h2=>?_)).mono ?_;·rw[hD];exact(g6 i v y h1 h2).mono (fun b hb=>⟨(hS b).2 hb,rfl⟩) (fun t ht=>ht.elim)
 ·rintro e w' ⟨v,β',rfl,hf,_,_,hr⟩;have hvb:v=.bool true:=by have hr:RV P _ w' β' _ v (.pv (.bool true)):=hr;exact hr.eP
  subst hvb;exact⟨rfl,hf.os,hf.tape,hf.output,hf.size,fun k hk=>hf.block k hk fun⟨t,o,ho,_⟩=>by cases ho⟩
theorem mS (hl:laidOutB P=true) {W W':World} (hb:Below W.heap.size W W'):∀(ts:List TypeId) (vs:List Value) (ds:List (DataW H)) (ps:List MemPlace),DataW.TrodAll enc P W 0 (fun _=>true) true ts vs ds ps→(∀t∈ts,P.readableRec t=true∧t<P.types.size)→(∀x∈ps,x.block<W.heap.size)→∀sp:Nat→Bool,(∀x∈ps,sp x.block=true)→DataW.TrodAll enc P W' 0 sp true ts vs ds ps|[],[],[],ps,h,_,_,_,_=>h|t::ts,v::vs,d::ds,ps,h,hr,hlt,sp,hsp=>by obtain⟨p,q,h1,h2,rfl⟩:=h;obtain⟨hr1,hr2⟩:=hr t (by simp);exact⟨p,q,WideElems.Trod_stays hl hr1 hr2 h1 (fun x hx=>hb.same (hlt x (by simp[hx]))) (fun x hx=>hsp x (by simp[hx])),mS hl hb ts vs ds q h2 (fun t ht=>hr t (by simp[ht])) (fun x hx=>hlt x (by simp[hx])) sp (fun x hx=>hsp x (by simp[hx])),rfl⟩|[],[],_::_,_,h,_,_,_,_=>h.elim|[],_::_,_,_,h,_,_,_,_=>h.elim|_::_,[],_,_,h,_,_,_,_=>h.elim|_::_,_::_,[],_,h,_,_,_,_=>h.elim
theorem uM {f:Func}{s:ChangeSpec}{apart fresh handsOn again:Bool}{W W':World}{args:Array Value}{v:Value}{ds gs:List (DataW H)}{before pa pv:List MemPlace} (hW:DataW.Whole enc P f.params.toList s.vars apart W args.toList ds gs before) (hres:∀(b:Nat) (sp:Nat→Bool) (hd:Bool),DataW.TrodAll enc P W' b sp hd f.resultTypes.toList (v.resultList f.resultTypes.size) (s.fn H (ds++gs)).results []) (hargs:∀sp:Nat→Bool,(∀p∈before,sp p.block=true)→DataW.TrodAll enc P W' 0 sp true f.params.toList args.toList (s.fn H (ds++gs)).args pa) (hvars:∀sp:Nat→Bool,(∀p∈before,sp p.block=true)→DataW.TrodVars enc P W' sp s.vars (s.fn H (ds++gs)).vars pv) (hps:before=pa++pv) (hb:Below W.heap.size W W') (hok:∀(j:Nat) (t:TypeId) (r:Value),f.resultTypes[j]?=some t→(v.resultList f.resultTypes.size)[j]?=some r→Value.okWide P W' .any 0 t r):s.post enc P f apart fresh handsOn again W args v W':=by
 have hlt:∀p∈before,p.block<W.heap.size:=fun p hp=>hW.lt p hp;have hold:∀p∈before,(fun b=>decide (b<W.heap.size)) p.block=true:=fun p hp=>by simpa using hlt p hp
 refine⟨ds,gs,before,[],pa,pv,hW,hres _ _ _,hargs _ hold,hvars _ hold,World.keptBut_mono (fun p hp=>⟨hp,?_⟩) (hb.frame (·∈before)),fun _=>?_⟩;·rw[hps,List.mem_append]at hp;exact Or.inr hp
 ·obtain⟨_,_,_,_,_,hz,hn⟩:=hW;refine⟨hok,_,_,([]++pa)++pv,⟨[]++pa,pv,trodAll_append (hargs _ (fun _ _=>rfl)) (hres _ _ _),hvars _ (fun _ _=>rfl),rfl,?_,?_⟩,?_⟩
  ·intro b off hp;have hin:MemPlace.cell b off∈before:=by rw[hps];simpa using hp
   rw[hb.frozen (hlt _ hin)];exact hz b off hin
  ·intro ha;have:=hn ha;rw[hps]at this;simpa using this
  ·intro p hp _;rw[hps];simpa using hp
theorem Hh {n:Nat}{f:FuncId}{fn:Func}{s:ChangeSpec}{apart fresh handsOn again:Bool}{W:World}{base:Nat}{args:Array Value}{ds gs:List (DataW H)}{before:List MemPlace}{tb:TypeId} (hl:laidOutB P=true) (hcon:BT P n f fn.params.toList) (hpl:∀t∈fn.params.toList,fQ P n t=true∧P.readableRec t=true∧t<P.types.size) (hrt:fn.resultTypes=#[tb]) (htb:P.underlying tb=some .bool) (hsv:s.vars=[]) (hspec:∀ds:List (DataW H),ds.length=fn.params.toList.length→s.fn H (ds++[])={results:=[.lit (.bool true)],args:=ds}) (hval:∀(j:Nat) t v,fn.params[j]?=some t→args[j]?=some v→Value.okWide P W .any base t v) (hW:DataW.Whole enc P fn.params.toList s.vars apart W args.toList ds gs before):Calls P f args W fun e W'=>∃v,e=.returned v∧s.post enc P fn apart fresh handsOn again W args v W':=by
 have hW':=hW;obtain⟨p,q,hA,hV,hpq,hfz,hnd⟩:=hW';rw[hsv]at hV;obtain⟨rfl,rfl⟩:gs=[]∧q=[]:=by cases gs with|nil=>exact⟨rfl,hV⟩|cons g gs=>exact hV.elim
 have hval':∀(j:Nat) (t:TypeId) (v:Value),fn.params.toList[j]?=some t→args.toList[j]?=some v→Value.okWide P W .any base t v:=fun j t v h1 h2=>hval j t v (by simpa using h1) (by simpa using h2);obtain⟨rows,_,_,hdl,_⟩:=pW (fun _=>.nilIface) (fun _=>False) _ _ _ _ hA (fun t ht=>(hpl t ht).1) hval';have hsp:=hspec ds hdl;have hc:=Ez hcon hA (fun t ht=>(hpl t ht).1) hval';have hargs:args.toList.toArray=args:=by simp
 rw[hargs]at hc;refine hc.mono ?_;rintro e W' ⟨rfl,hb⟩;refine⟨_,rfl,uM (pa:=p) (pv:=[]) hW ?_ ?_ ?_ hpq hb ?_⟩;·intro b sp hd;rw[hsp,hrt];exact trodAll_mk1 ⟨1,by simp[DataW.trod,Value.cells,htb]⟩
 ·intro sp hs;rw[hsp];exact mS hl hb _ _ _ _ hA (fun t ht=>(hpl t ht).2) (fun x hx=>hW.lt x (by rw[hpq];simpa using hx)) sp (fun x hx=>hs x (by rw[hpq];simpa using hx))
 ·intro sp hs;rw[hsp,hsv];exact rfl
 ·exact ok_one hrt rfl (okWide_bool_mk htb true)
end
end Go.Proofs.YtlicclncicbajaaGreat.Ab
namespace Go.Proofs.YtlicclncicbajaaGreat.Ab
open Go Go.RowKit R
theorem Tryz.own:ownKnob Tryz.prog.godebug=none:=by kernel_rfl
theorem Tryz.laidOut:laidOutB Tryz.prog=true:=by kernel_rfl
theorem oq {n:Nat}{row:List PV} (h:fg Tryz.prog (n+1) 9 row):∃l,row=[.str l]:=by unfold fg at h;rw[Tryz.underlying9]at h;obtain⟨l,h,_⟩:=h;exact⟨l,h⟩
theorem bN {n:Nat}{row:List PV} (h:fg Tryz.prog (n+1) 22 row):∃m,row=[.int .u64 m]∧cU m:=by
 unfold fg at h;rw[Tryz.underlying22]at h;obtain⟨m,rfl,hw⟩:=h;refine⟨m,rfl,?_⟩;have:IntKind.u64.min≤m∧m≤IntKind.u64.max:=by simpa[Lit.wf]using hw
 simp[IntKind.min,IntKind.max,IntKind.signed,IntKind.bits]at this;unfold cU;omega
theorem Nc {n:Nat}{row:List PV} (h:fg Tryz.prog (n+1) 5 row):∃m,row=[.int .u8 m]∧0≤m:=by
 unfold fg at h;rw[Tryz.underlying5]at h;obtain⟨m,rfl,hw⟩:=h;refine⟨m,rfl,?_⟩;have:IntKind.u8.min≤m∧m≤IntKind.u8.max:=by simpa[Lit.wf]using hw
 simp[IntKind.min,IntKind.max,IntKind.signed,IntKind.bits]at this;omega
theorem oc {n:Nat}{row:List PV} (h:fg Tryz.prog (n+1) 4 row):∃b,row=[.bool b]:=by unfold fg at h;rw[Tryz.underlying4]at h;exact h
theorem Il {n:Nat}{row:List PV} (h:fg Tryz.prog (n+2) 106 row):∃z m,row=[.int .u64 z,.int .u64 m]:=by
 unfold fg at h;rw[Tryz.underlying106]at h;have c0:Tryz.prog.cellsOf 106=2:=by kernel_rfl
 have c1:Tryz.prog.cellsOf 22=1:=by kernel_rfl
 simp only[c0,List.mem_cons,List.not_mem_nil,or_false,forall_eq_or_imp,forall_eq,c1]at h;obtain⟨hl,h1,h2⟩:=h;match row,hl with|[a,b],_=>obtain⟨z,hz,_⟩:=bN h1;obtain⟨m,hm,_⟩:=bN h2;simp at hz hm;subst hz hm;exact⟨z,m,rfl⟩
theorem JU {n:Nat}{row:List PV} (h:fg Tryz.prog (n+2) 134 row):∃e,row=rowP e∧ko e:=by
 unfold fg at h;rw[Tryz.underlying134]at h;have c0:Tryz.prog.cellsOf 134=3:=by kernel_rfl
 have c1:Tryz.prog.cellsOf 22=1:=by kernel_rfl
 simp only[c0,List.mem_cons,List.not_mem_nil,or_false,forall_eq_or_imp,forall_eq,c1]at h;obtain⟨hl,h1,h2,h3⟩:=h;match row,hl with|[a,b,c],_=>obtain⟨k,hk,o1⟩:=bN h1;obtain⟨n,hn,o2⟩:=bN h2;obtain⟨t,ht,o3⟩:=bN h3;simp at hk hn ht;subst hk hn ht;exact⟨⟨k,n,t⟩,rfl,o1,o2,o3⟩
theorem wq {n:Nat}:∀{rows:List (List PV)},(∀r∈rows,fg Tryz.prog (n+2) 134 r)→∃l,rows=aw l∧∀e∈l,ko e
 |[],_=>⟨[],rfl,fun e he=>by cases he⟩|r::rows,h=>by
  obtain⟨c,rfl,hc⟩:=JU (h r (by simp));obtain⟨l,rfl,hl⟩:=wq (rows:=rows) fun r hr=>h r (by simp[hr]);refine⟨c::l,rfl,fun e he=>?_⟩;rcases List.mem_cons.1 he with rfl|he;·exact hc
  ·exact hl e he
theorem H9 {n:Nat}{row:List PV} (h:fg Tryz.prog (n+3) 25 row):∃l,row=[.ro (aw l)]∧∀e∈l,ko e:=by unfold fg at h;rw[Tryz.underlying25]at h;obtain⟨rows,rfl,_,h⟩:=h;obtain⟨l,rfl,hl⟩:=wq h;exact⟨l,rfl,hl⟩
theorem FN {n:Nat}{row:List PV} (h:fg Tryz.prog (n+4) 27 row):∃l,row=[.ro (aw l)]∧∀e∈l,ko e:=by
 unfold fg at h;rw[Tryz.underlying27]at h;have c0:Tryz.prog.cellsOf 27=1:=by kernel_rfl
 have c1:Tryz.prog.cellsOf 25=1:=by kernel_rfl
 simp only[c0,List.mem_cons,List.not_mem_nil,or_false,forall_eq,c1]at h;obtain⟨hl,h1⟩:=h;match row,hl with|[a],_=>exact H9 h1
theorem O4 {n:Nat}{row:List PV} (h:fg Tryz.prog (n+3) 108 row):∃v,row=cL v∧jC v:=by
 unfold fg at h;rw[Tryz.underlying108]at h;have c0:Tryz.prog.cellsOf 108=10:=by kernel_rfl
 have c1:Tryz.prog.cellsOf 22=1:=by kernel_rfl
 have c2:Tryz.prog.cellsOf 9=1:=by kernel_rfl
 have c3:Tryz.prog.cellsOf 4=1:=by kernel_rfl
 have c4:Tryz.prog.cellsOf 106=2:=by kernel_rfl
 simp only[c0,List.mem_cons,List.not_mem_nil,or_false,forall_eq_or_imp,forall_eq,c1,c2,c3,c4]at h;obtain⟨hl,h1,h2,h3,h4,h5,h6,h7,h8,h9⟩:=h;match row,hl with|[a1,a2,a3,a4,a5,a6,a7,a8,a9,a10],_=>obtain⟨x1,e1,o1⟩:=bN h1;obtain⟨x2,e2,o2⟩:=bN h2;obtain⟨x3,e3,o3⟩:=bN h3;obtain⟨x4,e4,o4⟩:=bN h4;obtain⟨x5,e5,o5⟩:=bN h5;obtain⟨x6,x7,e6⟩:=Il h6;obtain⟨x8,e8⟩:=oq h7;obtain⟨x9,e9⟩:=oc h8;obtain⟨x10,e10⟩:=oc h9;simp at e1 e2 e3 e4 e5 e6 e8 e9 e10;obtain⟨e6,e7⟩:=e6;subst e1 e2 e3 e4 e5 e6 e7 e8 e9 e10;exact⟨⟨x1,x2,x3,x4,x5,x6,x7,x8,x9,x10⟩,rfl,o1.1,o1.2,o2.1,o2.2⟩
theorem zW {n:Nat}:∀{rows:List (List PV)},(∀r∈rows,fg Tryz.prog (n+3) 108 r)→∃l,rows=az l∧∀e∈l,jC e
 |[],_=>⟨[],rfl,fun e he=>by cases he⟩|r::rows,h=>by
  obtain⟨c,rfl,hc⟩:=O4 (h r (by simp));obtain⟨l,rfl,hl⟩:=zW (rows:=rows) fun r hr=>h r (by simp[hr]);refine⟨c::l,rfl,fun e he=>?_⟩;rcases List.mem_cons.1 he with rfl|he;·exact hc
  ·exact hl e he
theorem H7 {n:Nat}{row:List PV} (h:fg Tryz.prog (n+4) 29 row):∃l,row=[.ro (az l)]∧l.length≤maxLen∧∀e∈l,jC e:=by unfold fg at h;rw[Tryz.underlying29]at h;obtain⟨rows,rfl,hm,h⟩:=h;obtain⟨l,rfl,hl⟩:=zW h;exact⟨l,rfl,by simpa using hm,hl⟩
theorem C6 {n:Nat}:∀{rows:List (List PV)},(∀r∈rows,fg Tryz.prog (n+1) 9 r)→∃l,rows=eV l|[],_=>⟨[],rfl⟩|r::rows,h=>by obtain⟨c,rfl⟩:=oq (h r (by simp));obtain⟨l,rfl⟩:=C6 (rows:=rows) fun r hr=>h r (by simp[hr]);exact⟨c::l,rfl⟩
theorem Nt {n:Nat}{row:List PV} (h:fg Tryz.prog (n+2) 65 row):∃l,row=[.ro (eV l)]∧l.length≤maxLen:=by unfold fg at h;rw[Tryz.underlying65]at h;obtain⟨rows,rfl,hm,h⟩:=h;obtain⟨l,rfl⟩:=C6 h;exact⟨l,rfl,by simpa using hm⟩
theorem Em {n:Nat}{row:List PV} (h:fg Tryz.prog (n+2) 24 row):∃l:Ls,row=[.int .u64 l.e,.int .u64 l.p,.int .u64 l.i,.int .u64 l.u,.bool l.h]∧cU l.e∧cU l.p∧cU l.i∧cU l.u:=by
 unfold fg at h;rw[Tryz.underlying24]at h;have c0:Tryz.prog.cellsOf 24=5:=by kernel_rfl
 have c1:Tryz.prog.cellsOf 22=1:=by kernel_rfl
 have c2:Tryz.prog.cellsOf 4=1:=by kernel_rfl
 simp only[c0,List.mem_cons,List.not_mem_nil,or_false,forall_eq_or_imp,forall_eq,c1,c2]at h;obtain⟨hl,h1,h2,h3,h4,h5⟩:=h;match row,hl with|[a,b,c,d,e],_=>obtain⟨x1,e1,o1⟩:=bN h1;obtain⟨x2,e2,o2⟩:=bN h2;obtain⟨x3,e3,o3⟩:=bN h3;obtain⟨x4,e4,o4⟩:=bN h4;obtain⟨x5,e5⟩:=oc h5;simp at e1 e2 e3 e4 e5;subst e1 e2 e3 e4 e5;exact⟨⟨x1,x2,x3,x4,x5⟩,rfl,o1,o2,o3,o4⟩
def Z5 (d:Dc):List PV:=[.int .u64 d.l.e,.int .u64 d.l.p,.int .u64 d.l.i,.int .u64 d.l.u,.bool d.l.h,.ro (aw d.ps),.ro (az d.vs),.bool d.sl]
def Zl (d:Dc):Prop:=d.vs.length≤maxLen∧(∀v∈d.vs,jC v)∧(∀e∈d.ps,ko e)∧cU d.l.e∧cU d.l.p∧cU d.l.i∧cU d.l.u
theorem IN {n:Nat}{row:List PV} (h:fg Tryz.prog (n+5) 31 row):∃d,row=Z5 d∧Zl d:=by
 unfold fg at h;rw[Tryz.underlying31]at h;have c0:Tryz.prog.cellsOf 31=8:=by kernel_rfl
 have c1:Tryz.prog.cellsOf 24=5:=by kernel_rfl
 have c2:Tryz.prog.cellsOf 27=1:=by kernel_rfl
 have c3:Tryz.prog.cellsOf 29=1:=by kernel_rfl
 have c4:Tryz.prog.cellsOf 4=1:=by kernel_rfl
 simp only[c0,List.mem_cons,List.not_mem_nil,or_false,forall_eq_or_imp,forall_eq,c1,c2,c3,c4]at h;obtain⟨hl,h1,h2,h3,h4⟩:=h;match row,hl with|[a1,a2,a3,a4,a5,b,c,d],_=>obtain⟨x1,e1,o1⟩:=Em h1;obtain⟨x2,e2,o2⟩:=FN h2;obtain⟨x3,e3,o3,o4⟩:=H7 h3;obtain⟨x4,e4⟩:=oc h4;simp at e1 e2 e3 e4;obtain⟨e5,e6,e7,e8,e9⟩:=e1;subst e2 e3 e4 e5 e6 e7 e8 e9;exact⟨⟨x1,x2,x3,x4⟩,rfl,o3,o4,o2,o1⟩
theorem aap:rL Tryz.prog 65=false:=by unfold rL;rw[Tryz.underlying65]
theorem Xn:Tryz.prog.readableRec 65=true:=by kernel_rfl
def okRc (r:Rc):Prop:=cU r.p∧cU r.i∧cU r.s∧cU r.e∧cU r.u∧cU r.v∧cU r.c∧cU r.z∧cU r.m
def UH (r:Rc):List PV:=[.int .u8 r.k,.int .u64 r.p,.int .u64 r.i,.int .u64 r.s,.int .u64 r.e,.int .u64 r.u,.int .u64 r.v,.int .u64 r.c,.int .u64 r.z,.int .u64 r.m,.str r.n,.str r.t]
theorem rec_row {n:Nat}{row:List PV} (h:fg Tryz.prog (n+2) 38 row):∃r,row=UH r∧okRc r∧0≤r.k:=by
 unfold fg at h;rw[Tryz.underlying38]at h;have c0:Tryz.prog.cellsOf 38=12:=by kernel_rfl
 have c1:Tryz.prog.cellsOf 22=1:=by kernel_rfl
 have c2:Tryz.prog.cellsOf 5=1:=by kernel_rfl
 have c3:Tryz.prog.cellsOf 9=1:=by kernel_rfl
 simp only[c0,List.mem_cons,List.not_mem_nil,or_false,forall_eq_or_imp,forall_eq,c1,c2,c3]at h;obtain⟨hl,h0,h1,h2,h3,h4,h5,h6,h7,h8,h9,h10,h11⟩:=h;match row,hl with|[a0,a1,a2,a3,a4,a5,a6,a7,a8,a9,a10,a11],_=>obtain⟨x0,e0,o0⟩:=Nc h0;obtain⟨x1,e1,o1⟩:=bN h1;obtain⟨x2,e2,o2⟩:=bN h2;obtain⟨x3,e3,o3⟩:=bN h3;obtain⟨x4,e4,o4⟩:=bN h4;obtain⟨x5,e5,o5⟩:=bN h5;obtain⟨x6,e6,o6⟩:=bN h6;obtain⟨x7,e7,o7⟩:=bN h7;obtain⟨x8,e8,o8⟩:=bN h8;obtain⟨x9,e9,o9⟩:=bN h9;obtain⟨x10,e10⟩:=oq h10;obtain⟨x11,e11⟩:=oq h11;simp at e0 e1 e2 e3 e4 e5 e6 e7 e8 e9 e10 e11;subst e0 e1 e2 e3 e4 e5 e6 e7 e8 e9 e10 e11;exact⟨⟨x0,x1,x2,x3,x4,x5,x6,x7,x8,x9,x10,x11⟩,rfl,⟨o1,o2,o3,o4,o5,o6,o7,o8,o9⟩,o0⟩
theorem P0 {n:Nat}{row:List PV} (h:fg Tryz.prog (n+2) 71 row):∃e,row=eJ e:=by
 unfold fg at h;rw[Tryz.underlying71]at h;have c0:Tryz.prog.cellsOf 71=2:=by kernel_rfl
 have c1:Tryz.prog.cellsOf 22=1:=by kernel_rfl
 have c2:Tryz.prog.cellsOf 9=1:=by kernel_rfl
 simp only[c0,List.mem_cons,List.not_mem_nil,or_false,forall_eq_or_imp,forall_eq,c1,c2]at h;obtain⟨hl,h1,h2⟩:=h;match row,hl with|[a,b],_=>obtain⟨k,hk⟩:=oq h1;obtain⟨n,hn,_⟩:=bN h2;simp at hk hn;subst hk hn;exact⟨⟨k,n⟩,rfl⟩
theorem zF {n:Nat}:∀{rows:List (List PV)},(∀r∈rows,fg Tryz.prog (n+2) 71 r)→∃l,rows=aO l|[],_=>⟨[],rfl⟩|r::rows,h=>by obtain⟨c,rfl⟩:=P0 (h r (by simp));obtain⟨l,rfl⟩:=zF (rows:=rows) fun r hr=>h r (by simp[hr]);exact⟨c::l,rfl⟩
theorem H8 {n:Nat}{row:List PV} (h:fg Tryz.prog (n+3) 33 row):∃l,row=[.ro (aO l)]∧l.length≤maxLen:=by unfold fg at h;rw[Tryz.underlying33]at h;obtain⟨rows,rfl,hm,h⟩:=h;obtain⟨l,rfl⟩:=zF h;exact⟨l,rfl,by simpa using hm⟩
theorem Ka {n:Nat}{row:List PV} (h:fg Tryz.prog (n+2) 84 row):∃e,row=rowP e:=by
 unfold fg at h;rw[Tryz.underlying84]at h;have c0:Tryz.prog.cellsOf 84=3:=by kernel_rfl
 have c1:Tryz.prog.cellsOf 22=1:=by kernel_rfl
 simp only[c0,List.mem_cons,List.not_mem_nil,or_false,forall_eq_or_imp,forall_eq,c1]at h;obtain⟨hl,h1,h2,h3⟩:=h;match row,hl with|[a,b,c],_=>obtain⟨k,hk,_⟩:=bN h1;obtain⟨n,hn,_⟩:=bN h2;obtain⟨t,ht,_⟩:=bN h3;simp at hk hn ht;subst hk hn ht;exact⟨⟨k,n,t⟩,rfl⟩
theorem u9 {n:Nat}:∀{rows:List (List PV)},(∀r∈rows,fg Tryz.prog (n+2) 84 r)→∃l,rows=aw l|[],_=>⟨[],rfl⟩|r::rows,h=>by obtain⟨c,rfl⟩:=Ka (h r (by simp));obtain⟨l,rfl⟩:=u9 (rows:=rows) fun r hr=>h r (by simp[hr]);exact⟨c::l,rfl⟩
theorem GL {n:Nat}{row:List PV} (h:fg Tryz.prog (n+3) 34 row):∃l,row=[.ro (aw l)]:=by unfold fg at h;rw[Tryz.underlying34]at h;obtain⟨rows,rfl,_,h⟩:=h;obtain⟨l,rfl⟩:=u9 h;exact⟨l,rfl⟩
def Co (x:Sc):List PV:=[.int .u64 x.c,.int .u64 x.t,.int .u64 x.d.l.e,.int .u64 x.d.l.p,.int .u64 x.d.l.i,.int .u64 x.d.l.u,.bool x.d.l.h,.ro (aw x.d.ps),.ro (az x.d.vs),.bool x.d.sl,.ro (aO x.cs),.ro (aw x.ws)]
def okSt (x:Sc):Prop:=cU x.t∧x.cs.length≤maxLen∧Zl x.d
theorem wA {n:Nat}{row:List PV} (h:fg Tryz.prog (n+6) 36 row):∃d,row=Co d∧okSt d:=by
 unfold fg at h;rw[Tryz.underlying36]at h;have c0:Tryz.prog.cellsOf 36=12:=by kernel_rfl
 have c1:Tryz.prog.cellsOf 22=1:=by kernel_rfl
 have c2:Tryz.prog.cellsOf 31=8:=by kernel_rfl
 have c3:Tryz.prog.cellsOf 33=1:=by kernel_rfl
 have c4:Tryz.prog.cellsOf 34=1:=by kernel_rfl
 simp only[c0,List.mem_cons,List.not_mem_nil,or_false,forall_eq_or_imp,forall_eq,c1,c2,c3,c4]at h;obtain⟨hl,h1,h2,h3,h4,h5⟩:=h;match row,hl with|[a1,a2,a3,a4,a5,a6,a7,a8,a9,a10,a11,a12],_=>obtain⟨x1,e1,_⟩:=bN h1;obtain⟨x2,e2,o2⟩:=bN h2;obtain⟨x3,e3,o3⟩:=IN h3;obtain⟨x4,e4,o4⟩:=H8 h4;obtain⟨x5,e5⟩:=GL h5;simp[Z5]at e1 e2 e3 e4 e5;obtain⟨f1,f2,f3,f4,f5,f6,f7,f8⟩:=e3;subst e1 e2 f1 f2 f3 f4 f5 f6 f7 f8 e4 e5;exact⟨⟨x1,x2,x3,x4,x5⟩,rfl,o2,o4,o3⟩
theorem Gr:rL Tryz.prog 36=true:=by unfold rL;rw[Tryz.underlying36]
theorem zx:fQ Tryz.prog 6 36=true:=by kernel_rfl
theorem AH:Tryz.prog.readableRec 36=true:=by kernel_rfl
theorem Nf:fQ Tryz.prog 6 65=true:=by kernel_rfl
end Go.Proofs.YtlicclncicbajaaGreat.Ab
