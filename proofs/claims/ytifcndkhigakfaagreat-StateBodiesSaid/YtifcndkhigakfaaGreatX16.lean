/- Chapter 16: how a record is gone through by a taker, walked at the machine (interfaces, rows of addresses). -/
import Derived.Test.YtifcndkhigakfaaGreatX15
import Derived.WalkKit
import Derived.Sort.Defs
import Derived.Sort.WalkC
import Derived.Sort.WalkC4
import Derived.Sort.WalkA6
import Derived.Sort.LotD3
import Derived.Sort.LotB
import Derived.Sort.LotA
set_option linter.unusedVariables false
set_option linter.unusedSimpArgs false
set_option linter.unnecessarySimpa false
set_option maxHeartbeats 40000000
set_option maxRecDepth 100000
namespace Go.Proofs.YtifcndkhigakfaaGreat.Ab
open Go Go.RowKit R
structure Wr (w w':World) (b:Nat) (us:Array Value) (ty:TypeId):Prop where
 os:w'.os=w.os
 tape:w'.tape=w.tape
 output:w'.output=w.output
 size:w'.heap.size=w.heap.size
 here:w'.heap[b]?=some (.cells us ty (0,0))
 block:∀k,k≠b→w'.heap[k]?=w.heap[k]?
theorem tH {w:World}{b:Nat}{us:Array Value}{ty:TypeId} (h:w.heap[b]?=some (.cells us ty (0,0))) (o:Nat) (v:Value):Wr w (w.setCell ⟨b,o,none⟩ v) b (us.setIfInBounds o v) ty:=by
 refine⟨rfl,rfl,rfl,by simp[World.setCell],?_,fun k hk=>?_⟩;·simp[World.setCell,Array.getElem?_modify,h]
 ·simp[World.setCell,Array.getElem?_modify,Ne.symm hk]
theorem fF (a:Value) (b o:Nat) (x:Int) (us:Array Value) (ty:TypeId) (w:World) (h:w.heap[b]?=some (.cells us ty (0,0))) (hx:us[o]?=some (.int .u64 x)):Calls Tryz.prog 285 #[a,.pointer (some ⟨b,o,none⟩)] w fun e w'=>e=.returned (.tuple #[])∧Wr w w' b (us.setIfInBounds o (.int .u64 0)) ty:=by
 have hc:w.cell? ⟨b,o,none⟩=some (.int .u64 x):=by rw[Lib.cell_of_heap h];exact hx
 have hf:w.frozen? ⟨b,o,none⟩=false:=by simp[World.frozen?,h]
 go_enter Tryz.func285,Tryz.ntmps285;go_wp2;exact⟨rfl,_,by kernel_rfl,rfl,tH h o _⟩
theorem AM (b o bt:Nat) (n:List UInt8) (bad:Bool) (us:Array Value) (ty tt:TypeId) (w:World) (hne:b≠bt) (h:w.heap[b]?=some (.cells us ty (0,0))) (hx:us[o]?=some (.string ⟨n.toArray⟩)) (ht:w.heap[bt]?=some (.cells #[.bool bad] tt (0,0))):Calls Tryz.prog 286 #[.pointer (some ⟨bt,0,none⟩),.pointer (some ⟨b,o,none⟩)] w fun e w'=>e=.returned (.tuple #[])∧∃w1,Wr w w1 bt #[.bool (bad||decide (n=[])||decide (64<n.length))] tt∧Wr w1 w' b (us.setIfInBounds o (.string ⟨#[]⟩)) ty:=by
 have hc:w.cell? ⟨b,o,none⟩=some (.string ⟨n.toArray⟩):=by rw[Lib.cell_of_heap h];exact hx
 have hb:w.cell? ⟨bt,0,none⟩=some (.bool bad):=by rw[Lib.cell_of_heap ht];rfl
 have hf:w.frozen? ⟨b,o,none⟩=false:=by simp[World.frozen?,h]
 have hg:w.frozen? ⟨bt,0,none⟩=false:=by simp[World.frozen?,ht]
 have hd:∀v,(w.setCell ⟨bt,0,none⟩ v).cell? ⟨b,o,none⟩=some (.string ⟨n.toArray⟩):=fun v=>by rw[Lib.cell_of_heap (((tH ht 0 v).block b hne).trans h)];exact hx
 have fin:∀v,v=(bad||decide (n=[])||decide (64<n.length))→∃w1,Wr w w1 bt #[.bool (bad||decide (n=[])||decide (64<n.length))] tt∧Wr w1 ((w.setCell ⟨bt,0,none⟩ (.bool v)).setCell ⟨b,o,none⟩ (.string ⟨#[]⟩)) b (us.setIfInBounds o (.string ⟨#[]⟩)) ty:=by rintro v rfl;exact⟨_,tH ht 0 _,tH (((tH ht 0 _).block b hne).trans h) o _⟩
 go_enter Tryz.func286,Tryz.ntmps286;have hd1:=hd (.bool true);have hd2:=hd (.bool false);clear hd;cases bad with|true=>go_wp2;exact⟨rfl,_,by kernel_rfl,rfl,fin _ rfl⟩|false=>
  by_cases h1:n=[];·subst h1;go_wp2;exact⟨rfl,_,by kernel_rfl,rfl,fin _ rfl⟩
  ·go_wp2;refine⟨rfl,_,by kernel_rfl,rfl,fin _ ?_⟩;have:(n.isEmpty||decide (64<(n.length:Int)))=(decide (n=[])||decide (64<n.length)):=by cases n with|nil=>rfl|cons x l=>simp only[List.isEmpty_cons,Bool.false_or,reduceCtorEq,decide_false];exact decide_eq_decide.2 (by omega)
   rw[this,Bool.false_or]
def recC (r:Rc):Array Value:=#[.int .u8 r.k,.int .u64 r.p,.int .u64 r.i,.int .u64 r.s,.int .u64 r.e,.int .u64 r.u,.int .u64 r.v,.int .u64 r.c,.int .u64 r.z,.int .u64 r.m,.string ⟨r.n.toArray⟩,.string ⟨r.t.toArray⟩]
def xV:Nat→Rc→Rc|0,r=>{r with e:=0}|1,r=>{r with u:=0}|2,r=>{r with v:=0}|3,r=>{r with c:=0}|4,r=>{r with z:=0}|5,r=>{r with m:=0}|6,r=>{r with n:=[]}|7,r=>{r with t:=[]}|_,r=>r
def badR:Nat→Rc→Bool→Bool|6,r,b=>b||decide (r.n=[])||decide (64<r.n.length)|7,r,b=>b||decide (r.t=[])||decide (64<r.t.length)|_,_,b=>b
def uH:List Nat→Rc×Bool→Rc×Bool|[],x=>x|q::l,x=>uH l (xV q x.1,badR q x.1 x.2)
theorem Ul (a b c:Value) (w:World):(Instr.index 268 (.agg #[a,b,c]) (.int .i64 0)).run Tryz.prog w=.ok a w:=by kernel_rfl
theorem Zm (a b c:Value) (w:World):(Instr.index 268 (.agg #[a,b,c]) (.int .i64 1)).run Tryz.prog w=.ok b w:=by kernel_rfl
theorem Ww (a b c:Value) (w:World):(Instr.index 268 (.agg #[a,b,c]) (.int .i64 2)).run Tryz.prog w=.ok c w:=by kernel_rfl
theorem L3 (n:Nat) (a:Addr) (w:World):(method (n+1) 220 (.pointer (some a)) "chartroom/record.number").run Tryz.prog w=.ok (285,.pointer (some a)) w:=by kernel_rfl
theorem VA (n:Nat) (a:Addr) (w:World):(method (n+1) 220 (.pointer (some a)) "chartroom/record.text").run Tryz.prog w=.ok (286,.pointer (some a)) w:=by kernel_rfl
theorem aay (n:Nat) (a:Addr) (w:World):(nilAhead (n+1) 220 (.pointer (some a)) "chartroom/record.number").run Tryz.prog w=.ok (some false) w:=by kernel_rfl
theorem Xq (n:Nat) (a:Addr) (w:World):(nilAhead (n+1) 220 (.pointer (some a)) "chartroom/record.text").run Tryz.prog w=.ok (some false) w:=by kernel_rfl
def iOf:Value→Nat|.int _ n=>n.toNat|_=>0
structure Vs (w0 w:World) (br bt:Nat) (r:Rc) (bad:Bool):Prop where
 os:w.os=w0.os
 tape:w.tape=w0.tape
 output:w.output=w0.output
 size:w0.heap.size<w.heap.size
 hr:w.heap[br]?=some (.cells (recC r) 71 (0,0))
 ht:w.heap[bt]?=some (.cells #[.bool bad] 222 (0,0))
 ha:w.heap[w0.heap.size]?=some (.cells #[.pointer (some ⟨br,4,none⟩),.pointer (some ⟨br,5,none⟩),.pointer (some ⟨br,6,none⟩),.pointer (some ⟨br,7,none⟩),.pointer (some ⟨br,8,none⟩),.pointer (some ⟨br,9,none⟩)] 267 (0,0))
 block:∀k,k<w0.heap.size→k≠br→k≠bt→w.heap[k]?=w0.heap[k]?
theorem Vs.drew {w0 w:World}{br bt:Nat}{r:Rc}{bad:Bool} (h:Vs w0 w br bt r bad):Vs w0 w.drew br bt r bad:=⟨h.os,h.tape,h.output,h.size,h.hr,h.ht,h.ha,h.block⟩
theorem Vs.num {w0 w w':World}{br bt:Nat}{r r':Rc}{bad:Bool} (h:Vs w0 w br bt r bad) (hlr:br<w0.heap.size) (hlt:bt<w0.heap.size) (hne:br≠bt) {us:Array Value} (hw:Wr w w' br us 71) (hu:us=recC r'):Vs w0 w' br bt r' bad:=⟨hw.os.trans h.os,hw.tape.trans h.tape,hw.output.trans h.output,by rw[hw.size];exact h.size,by rw[hw.here,hu],(hw.block bt (Ne.symm hne)).trans h.ht,(hw.block _ (by omega)).trans h.ha,fun k h1 h2 h3=>(hw.block k h2).trans (h.block k h1 h2 h3)⟩
theorem Vs.tak {w0 w w':World}{br bt:Nat}{r:Rc}{bad bad':Bool} (h:Vs w0 w br bt r bad) (hlr:br<w0.heap.size) (hlt:bt<w0.heap.size) (hne:br≠bt) (hw:Wr w w' bt #[.bool bad'] 222):Vs w0 w' br bt r bad':=⟨hw.os.trans h.os,hw.tape.trans h.tape,hw.output.trans h.output,by rw[hw.size];exact h.size,(hw.block br hne).trans h.hr,hw.here,(hw.block _ (by omega)).trans h.ha,fun k h1 h2 h3=>(hw.block k h3).trans (h.block k h1 h2 h3)⟩
theorem MX (r:Rc) (bad:Bool) (ps:List Nat) (hps:∀q∈ps,q<8) (hlen:ps.length≤8) (w:World) (br bt:Nat) (hne:br≠bt) (hlr:br<w.heap.size) (hlt:bt<w.heap.size) (A:Option Addr) (c:Nat) (hc:ps.length≤c) (hA:0<ps.length→∃b o,A=some ⟨b,o,none⟩∧b≠br∧b≠bt∧b<w.heap.size∧∀i (h:i<ps.length),w.cell? ⟨b,o+i,none⟩=some (.int .u8 ps[i])) (h1:w.heap[br]?=some (.cells (recC r) 71 (0,0))) (h2:w.heap[bt]?=some (.cells #[.bool bad] 222 (0,0))):Calls Tryz.prog 127 #[.pointer (some ⟨br,0,none⟩),.iface 220 (.pointer (some ⟨bt,0,none⟩)),.slice A ps.length c] w fun e w'=>e=.returned (.tuple #[])∧Vs w w' br bt (uH ps ({r with p:=0,i:=0,s:=0},bad)).1 (uH ps ({r with p:=0,i:=0,s:=0},bad)).2:=by
 go_enter Tryz.func127,Tryz.ntmps127;go_wp2;go_region;have hv0:Vs w ((w.alloc (Obj.cells #[.pointer (some ⟨br,4,none⟩),.pointer (some ⟨br,5,none⟩),.pointer (some ⟨br,6,none⟩),.pointer (some ⟨br,7,none⟩),.pointer (some ⟨br,8,none⟩),.pointer (some ⟨br,9,none⟩)] 267)).drew) br bt r bad:=by
  have g:∀k,k<w.heap.size→((w.alloc (Obj.cells #[.pointer (some ⟨br,4,none⟩),.pointer (some ⟨br,5,none⟩),.pointer (some ⟨br,6,none⟩),.pointer (some ⟨br,7,none⟩),.pointer (some ⟨br,8,none⟩),.pointer (some ⟨br,9,none⟩)] 267)).drew).heap[k]?=w.heap[k]?:=fun k hk=>by show(w.heap.push _)[k]?=_;rw[Array.getElem?_push,if_neg (by omega)]
  refine⟨rfl,rfl,rfl,?_,(g br hlr).trans h1,(g bt hlt).trans h2,?_,fun k hk _ _=>g k hk⟩;·show w.heap.size<(w.heap.push _).size;simp
  ·show(w.heap.push _)[w.heap.size]?=_;simp
 generalize((w.alloc (Obj.cells #[.pointer (some ⟨br,4,none⟩),.pointer (some ⟨br,5,none⟩),.pointer (some ⟨br,6,none⟩),.pointer (some ⟨br,7,none⟩),.pointer (some ⟨br,8,none⟩),.pointer (some ⟨br,9,none⟩)] 267)).drew)=W0 at hv0 ⊢;go_wp2;go_region;replace hv0:=hv0.drew;generalize W0.drew=W1 at hv0 ⊢;go_wp2;have j0:=Ul;have j1:=Zm;have j2:=Ww;have j3:=L3;refine wp_loop_rounds 4 ?_;rw[rounds_succ];go_wp2_with(go_at_call 285;refine(fF _ br 1 r.p (recC r) _ _ hv0.hr rfl).mono ?_);rintro e W2 ⟨rfl,hw⟩;replace hv0:=hv0.num hlr hlt hne hw (r':={r with p:=0}) rfl;clear hw;go_wp2;rw[rounds_succ];go_wp2_with(go_at_call 285;refine(fF _ br 2 r.i _ _ _ hv0.hr rfl).mono ?_);rintro e W3 ⟨rfl,hw⟩;replace hv0:=hv0.num hlr hlt hne hw (r':={r with p:=0,i:=0}) rfl;clear hw;go_wp2;rw[rounds_succ];go_wp2_with(go_at_call 285;refine(fF _ br 3 r.s _ _ _ hv0.hr rfl).mono ?_);rintro e W4 ⟨rfl,hw⟩;replace hv0:=hv0.num hlr hlt hne hw (r':={r with p:=0,i:=0,s:=0}) rfl;clear hw;go_wp2;rw[rounds_succ];go_wp2;clear j0 j1 j2;go_loopw[49] (fun vi wr=>∃(i:Nat) (x:Rc×Bool),i≤ps.length∧vi=.int .i64 i∧Vs w wr br bt x.1 x.2∧uH (ps.drop i) x=uH ps ({r with p:=0,i:=0,s:=0},bad)) (fun vi _=>ps.length-iOf vi);case atStart=>exact⟨0,({r with p:=0,i:=0,s:=0},bad),by omega,rfl,hv0,rfl⟩
 case round=>
  obtain⟨i,⟨x,bx⟩,hi,rfl,hv,hvis⟩:=hrel;by_cases hlt':i<ps.length
  ·have hli:(i:Int)<(ps.length:Int):=by omega
   obtain⟨b,o,rfl,hb1,hb2,hb3,hcell⟩:=hA (by omega);have hq:=hps _ (List.getElem_mem hlt');have hcc:=hcell i hlt';have hcw:wr.cell? ⟨b,o+i,none⟩=some (.int .u8 ps[i]):=by rw[←hcc];unfold World.cell?;rw[hv.block b hb3 hb1 hb2]
   rw[List.drop_eq_getElem_cons hlt']at hvis;clear hcc hcell hv0 hps;revert hvis hcw hq;generalize ps[i]=q;intro hvis hcw hq;have hq8:q=0∨q=1∨q=2∨q=3∨q=4∨q=5∨q=6∨q=7:=by omega
   have hme:ps.length-iOf (.int .i64 ((i+1:Nat):Int))<ps.length-iOf (.int .i64 (i:Int)):=by show ps.length-(((i+1:Nat):Int)).toNat<ps.length-((i:Int)).toNat;omega
   have k1:=L3;have k2:=aay;have k3:=VA;have k4:=Xq;rcases hq8 with rfl|rfl|rfl|rfl|rfl|rfl|rfl|rfl
   ·have hp:wr.cell? ⟨w.heap.size,0,none⟩=some (.pointer (some ⟨br,4,none⟩)):=by rw[Lib.cell_of_heap hv.ha];rfl
    go_wp2;go_region_with(go_at_call 285;refine(fF _ br 4 x.e _ _ _ hv.drew.hr rfl).mono ?_;rintro e W2 ⟨rfl,hw⟩);all_goals replace hv:=hv.drew.num hlr hlt hne hw (r':=xV 0 x) rfl;go_wp2;refine⟨⟨i+1,(_,_),hlt',congrArg (Value.int .i64) (by omega),hv,hvis⟩,hme⟩
   ·have hp:wr.cell? ⟨w.heap.size,1,none⟩=some (.pointer (some ⟨br,5,none⟩)):=by rw[Lib.cell_of_heap hv.ha];rfl
    go_wp2;go_region_with(go_at_call 285;refine(fF _ br 5 x.u _ _ _ hv.drew.hr rfl).mono ?_;rintro e W2 ⟨rfl,hw⟩);all_goals replace hv:=hv.drew.num hlr hlt hne hw (r':=xV 1 x) rfl;go_wp2;refine⟨⟨i+1,(_,_),hlt',congrArg (Value.int .i64) (by omega),hv,hvis⟩,hme⟩
   ·have hp:wr.cell? ⟨w.heap.size,2,none⟩=some (.pointer (some ⟨br,6,none⟩)):=by rw[Lib.cell_of_heap hv.ha];rfl
    go_wp2;go_region_with(go_at_call 285;refine(fF _ br 6 x.v _ _ _ hv.drew.hr rfl).mono ?_;rintro e W2 ⟨rfl,hw⟩);all_goals replace hv:=hv.drew.num hlr hlt hne hw (r':=xV 2 x) rfl;go_wp2;refine⟨⟨i+1,(_,_),hlt',congrArg (Value.int .i64) (by omega),hv,hvis⟩,hme⟩
   ·have hp:wr.cell? ⟨w.heap.size,3,none⟩=some (.pointer (some ⟨br,7,none⟩)):=by rw[Lib.cell_of_heap hv.ha];rfl
    go_wp2;go_region_with(go_at_call 285;refine(fF _ br 7 x.c _ _ _ hv.drew.hr rfl).mono ?_;rintro e W2 ⟨rfl,hw⟩);all_goals replace hv:=hv.drew.num hlr hlt hne hw (r':=xV 3 x) rfl;go_wp2;refine⟨⟨i+1,(_,_),hlt',congrArg (Value.int .i64) (by omega),hv,hvis⟩,hme⟩
   ·have hp:wr.cell? ⟨w.heap.size,4,none⟩=some (.pointer (some ⟨br,8,none⟩)):=by rw[Lib.cell_of_heap hv.ha];rfl
    go_wp2;go_region_with(go_at_call 285;refine(fF _ br 8 x.z _ _ _ hv.drew.hr rfl).mono ?_;rintro e W2 ⟨rfl,hw⟩);all_goals replace hv:=hv.drew.num hlr hlt hne hw (r':=xV 4 x) rfl;go_wp2;refine⟨⟨i+1,(_,_),hlt',congrArg (Value.int .i64) (by omega),hv,hvis⟩,hme⟩
   ·have hp:wr.cell? ⟨w.heap.size,5,none⟩=some (.pointer (some ⟨br,9,none⟩)):=by rw[Lib.cell_of_heap hv.ha];rfl
    go_wp2;go_region_with(go_at_call 285;refine(fF _ br 9 x.m _ _ _ hv.drew.hr rfl).mono ?_;rintro e W2 ⟨rfl,hw⟩);all_goals replace hv:=hv.drew.num hlr hlt hne hw (r':=xV 5 x) rfl;go_wp2;refine⟨⟨i+1,(_,_),hlt',congrArg (Value.int .i64) (by omega),hv,hvis⟩,hme⟩
   ·go_wp2;go_region_with(go_at_call 286;refine(AM br 10 bt x.n bx _ _ _ _ hne hv.drew.hr rfl hv.drew.ht).mono ?_;rintro e W2 ⟨rfl,W3,hw,hw2⟩);all_goals replace hv:=(hv.drew.tak hlr hlt hne hw).num hlr hlt hne hw2 (r':=xV 6 x) rfl;go_wp2;refine⟨⟨i+1,(_,_),hlt',congrArg (Value.int .i64) (by omega),hv,hvis⟩,hme⟩
   ·go_wp2;go_region_with(go_at_call 286;refine(AM br 11 bt x.t bx _ _ _ _ hne hv.drew.hr rfl hv.drew.ht).mono ?_;rintro e W2 ⟨rfl,W3,hw,hw2⟩);all_goals replace hv:=(hv.drew.tak hlr hlt hne hw).num hlr hlt hne hw2 (r':=xV 7 x) rfl;go_wp2;refine⟨⟨i+1,(_,_),hlt',congrArg (Value.int .i64) (by omega),hv,hvis⟩,hme⟩
  ·have hia:i=ps.length:=by omega
   subst hia;rw[List.drop_eq_nil_of_le (Nat.le_refl ps.length)]at hvis;go_wp2;refine⟨rfl,_,by kernel_rfl,rfl,?_⟩;rw[←hvis];exact hv
def jJ:List (Int×List Nat):=[(1,[0,1]),(2,[0,1]),(3,[0]),(4,[0,2,4,5]),(5,[2,1]),(6,[2]),(7,[]),(8,[3]),(9,[6]),(10,[6]),(11,[6,7])]
def lr (k:Int):List (Int×List Nat)→Option (List Nat)|[]=>none|x::l=>if k=x.1 then some x.2 else lr k l
def fG (r:Rc):Bool:=match lr r.k jJ with|none=>false|some ps=>!decide (65535<r.z)&&!decide (4294967295<r.m)&&!(uH ps ({r with p:=0,i:=0,s:=0},false)).2&&decide ((uH ps ({r with p:=0,i:=0,s:=0},false)).1=⟨r.k,0,0,0,0,0,0,0,0,0,[],[]⟩)
theorem getK (k:Int):m6 (.int .u8 k) kq=(lr k jJ).map fun l=>gU (l.map fun n:Nat=>(n:Int)):=by
 have:∀l:List (Int×List Nat),m6 (.int .u8 k) (l.map fun x=>(PV.int .u8 x.1,gU (x.2.map fun n:Nat=>(n:Int))))=(lr k l).map fun l=>gU (l.map fun n:Nat=>(n:Int)):=by intro l;induction l with|nil=>rfl|cons x l ih=>rw[List.map_cons,GL,ih,lr];split<;>rfl
 exact this jJ
theorem lg {S:Nat→Prop}{w w':World}{v:Value} (h:da S w v (.mv kq)) (k:Int) (hw:w'.heap=w.heap):∃u,(Instr.lookup 218 v (.int .u8 k) true).run Tryz.prog w'=.ok (.tuple #[u,.bool (lr k jJ).isSome]) w'∧da S w u (((lr k jJ).map fun l=>gU (l.map fun n:Nat=>(n:Int))).getD .nil):=by cases h with|mv b us c es g1 g2 g3 g4 g5 g6=>
 have hm:jm Tryz.prog 218=some (5,216):=by kernel_rfl
 have hsrt:kb Tryz.prog 5=some 6:=by kernel_rfl
 have hz:zeroV Tryz.prog 216=some (.slice none 0 0):=by kernel_rfl
 have hmt:=fL hm;obtain⟨d,hdk,hkey⟩:=gH hsrt;have hp:dw (.int .u8 k)=6:=rfl;have hks:fX 6 kq:=by simp[kq,Cx,dw,m5]
 have hzr:(zeroValue 216).run Tryz.prog w'=.ok (.slice none 0 0) w':=by unfold zeroV at hz;obtain⟨i,hi,hz⟩:=Option.bind_eq_some_iff.1 hz;simp[zeroValue,typeInfo,hi,hz]
 have hh:w'.heap[b]?=some (.map us c):=by rw[hw];exact g2
 have hfind:=iM hkey hp (by decide) us.toList kq 0 hks g4 fun i e u h1 h2=>(g5 i e u h1 h2).1;have gk:=getK k;rcases hfind with⟨h1,h2,_⟩|⟨j,e,u,h1,h2,h3,h4,h5,_⟩;·rw[h2]at gk;cases hf:lr k jJ with|some l=>rw[hf]at gk;cases gk|none=>refine⟨.slice none 0 0,?_,.nil⟩;show(Instr.lookup 218 (.map (some b)) (Ab.bY (.int .u8 k)) true).run Tryz.prog w'=_;simp[Instr.lookup,run_underlying hmt,MapKept.run_getObj_map hh,MapKept.run_checkKey hdk (hkey _ hp),MapKept.run_findKey hdk h1,hzr,Result.andThen]
 ·rw[h5]at gk;cases hf:lr k jJ with|none=>rw[hf]at gk;cases gk|some l=>
   rw[hf]at gk;refine⟨u.val,?_,?_⟩;·show(Instr.lookup 218 (.map (some b)) (Ab.bY (.int .u8 k)) true).run Tryz.prog w'=_;simp[Instr.lookup,run_underlying hmt,MapKept.run_getObj_map hh,MapKept.run_checkKey hdk (hkey _ hp),MapKept.run_findKey hdk h1,Result.andThen]
   ·simp only[Option.map_some,Option.some.injEq]at gk;rw[Option.map_some,Option.getD_some,←gk];exact g6 j e u h2 h3
theorem jo (w:World):Calls Tryz.prog 126 #[] w fun e w'=>∃v,e=.returned v∧da (fun b=>w.heap.size≤b∧b<w'.heap.size) w' v (.mv kq)∧Below w.heap.size w w':=by
 have hc:=Jr [] True _ rfl trivial;have h:=hc w (fun _=>False) (fun _=>.nilIface) [] (fun b hb=>hb.elim) (fun t b ⟨o,ho⟩=>by simp[ab]at ho) ⟨fun t o ho=>by simp[ab]at ho,fun t t' b ⟨o,ho⟩=>by simp[ab]at ho⟩ rfl fun i v x hi=>by simp at hi
 refine h.mono ?_;rintro e w' ⟨v,β',rfl,hf,_,_,hv⟩;exact⟨v,rfl,hv.bm.mono fun b hb=>⟨⟨hb.1.elim False.elim id,hb.2.1⟩,rfl⟩,hf.os,hf.tape,hf.output,hf.size,fun k hk=>hf.block k hk fun⟨t,o,ho,_⟩=>by simp[ab]at ho⟩
theorem iT {W:World}{b:Nat}{r:Rc} (h:W.heap[b]?=some (.cells (recC r) 71 (0,0))):W.cell? ⟨b,0,none⟩=some (.int .u8 r.k)∧W.cell? ⟨b,1,none⟩=some (.int .u64 r.p)∧W.cell? ⟨b,2,none⟩=some (.int .u64 r.i)∧W.cell? ⟨b,3,none⟩=some (.int .u64 r.s)∧W.cell? ⟨b,4,none⟩=some (.int .u64 r.e)∧W.cell? ⟨b,5,none⟩=some (.int .u64 r.u)∧W.cell? ⟨b,6,none⟩=some (.int .u64 r.v)∧W.cell? ⟨b,7,none⟩=some (.int .u64 r.c)∧W.cell? ⟨b,8,none⟩=some (.int .u64 r.z)∧W.cell? ⟨b,9,none⟩=some (.int .u64 r.m)∧W.cell? ⟨b,10,none⟩=some (.string ⟨r.n.toArray⟩)∧W.cell? ⟨b,11,none⟩=some (.string ⟨r.t.toArray⟩):=by
 have g:∀i v,(recC r)[i]?=some v→W.cell? ⟨b,i,none⟩=some v:=fun i v hv=>by rw[Lib.cell_of_heap h];exact hv
 exact⟨g 0 _ rfl,g 1 _ rfl,g 2 _ rfl,g 3 _ rfl,g 4 _ rfl,g 5 _ rfl,g 6 _ rfl,g 7 _ rfl,g 8 _ rfl,g 9 _ rfl,g 10 _ rfl,g 11 _ rfl⟩
theorem Cd {n:Nat}{W:World}{u:Value}{ps:List Nat} (h:da (fun b=>n≤b∧b<W.heap.size) W u (gU (ps.map fun n:Nat=>(n:Int)))):∃A c,u=.slice A ps.length c∧ps.length≤c∧(0<ps.length→∃b o,A=some ⟨b,o,none⟩∧n≤b∧b<W.heap.size∧∀i (h:i<ps.length),W.cell? ⟨b,o+i,none⟩=some (.int .u8 ps[i])):=by
 obtain⟨A,c,hv,hc,hne⟩:=da.fM h;simp only[List.length_map]at hv hc;refine⟨A,c,hv,hc,fun hp=>?_⟩;obtain⟨ad,sz,us,rfl,g1,g2,g3,g4,g5⟩:=hne (by intro e;have:=congrArg List.length e;simp only[List.length_map,List.length_nil]at this;omega);have hsz:sz=1:=by rw[←g2 [.int .u8 ((ps[0]:Nat):Int)] (by simp only[List.map_map,List.mem_map];exact⟨ps[0],List.getElem_mem hp,rfl⟩)];rfl
 subst hsz;have hcl:∀i (h:i<ps.length),W.cell? (ad.add i)=some (.int .u8 ps[i]):=by
  intro i hi;have hr:((ps.map fun n:Nat=>(n:Int)).map fun n=>[PV.int .u8 n])[i]?=some [.int .u8 ps[i]]:=by simp[hi]
  have h1:=g3 i 0 (by simpa using hi) (by omega);have h2:=(g5 i 0 _ _ hr rfl).aI;rw[h2]at h1;simpa using h1
 obtain⟨b,o,sp⟩:=ad;have hsp:sp=none:=by have hx:=hcl 0 hp;cases sp with|none=>rfl|some s=>exfalso;simp[Addr.add,World.cell?]at hx;try(split at hx<;>simp at hx)
 subst hsp;exact⟨b,o,rfl,g1.1,g1.2,fun i hi=>by have:=hcl i hi;rw[Addr.add_lit]at this;exact this⟩
theorem jX (W:World) (o1 o2:Obj):((W.alloc o1).alloc o2).heap.size=W.heap.size+2:=by show((W.heap.push _).push _).size=_;simp
theorem WU (W:World) (o1 o2:Obj):((W.alloc o1).alloc o2).heap[W.heap.size+1]?=some o2:=by show((W.heap.push _).push _)[W.heap.size+1]?=_;rw[Array.getElem?_push,if_pos (by simp)]
theorem Zq (W:World) (o1 o2:Obj):((W.alloc o1).alloc o2).heap[W.heap.size]?=some o1:=by show((W.heap.push _).push _)[W.heap.size]?=_;rw[Array.getElem?_push,if_neg (by simp),Array.getElem?_push,if_pos rfl]
theorem Jf (W:World) (o1 o2:Obj) (k:Nat) (hk:k<W.heap.size):((W.alloc o1).alloc o2).heap[k]?=W.heap[k]?:=by show((W.heap.push _).push _)[k]?=_;rw[Array.getElem?_push,if_neg (by simp;omega),Array.getElem?_push,if_neg (by omega)]
theorem I6 {k:Int}{ps:List Nat} (h:lr k jJ=some ps):ps.length≤8∧∀q∈ps,q<8:=by
 simp only[jJ,lr]at h;repeat' split at h
 all_goals first|cases h;decide|cases h
theorem Bw (r:Rc) (w:World):Calls Tryz.prog 92 #[.agg (recC r)] w fun e w'=>e=.returned (.bool (fG r))∧Below w.heap.size w w':=by
 go_enter Tryz.func92,Tryz.ntmps92;have hrec:recC r=#[.int .u8 r.k,.int .u64 r.p,.int .u64 r.i,.int .u64 r.s,.int .u64 r.e,.int .u64 r.u,.int .u64 r.v,.int .u64 r.c,.int .u64 r.z,.int .u64 r.m,.string ⟨r.n.toArray⟩,.string ⟨r.t.toArray⟩]:=rfl;go_wp2;have h0:(w.alloc (Obj.cells (recC r) 71)).heap[w.heap.size]?=some (.cells (recC r) 71 (0,0)):=by show(w.heap.push _)[w.heap.size]?=_;simp
 have hb0:Below w.heap.size w (w.alloc (Obj.cells (recC r) 71)):=(Below.refl _ w).alloc (Nat.le_refl _) _;rw[hrec]at h0 hb0;revert h0 hb0;generalize w.alloc (Obj.cells #[.int .u8 r.k,.int .u64 r.p,.int .u64 r.i,.int .u64 r.s,.int .u64 r.e,.int .u64 r.u,.int .u64 r.v,.int .u64 r.c,.int .u64 r.z,.int .u64 r.m,.string ⟨r.n.toArray⟩,.string ⟨r.t.toArray⟩] 71)=W0;intro h0 hb0;rw[←hrec]at h0;have c1:=(iT h0).1;clear hrec;generalize hbb:w.heap.size=b at h0 hb0 c1 ⊢;have bel:∀W1:World,Below W0.heap.size W0 W1→Below b w W1:=fun W1 hb=>⟨hb.os.trans hb0.os,hb.tape.trans hb0.tape,hb.output.trans hb0.output,Nat.le_trans hb0.size hb.size,fun k hk=>(hb.block k (Nat.lt_of_lt_of_le (hbb▸hk) hb0.size)).trans (hb0.block k hk)⟩;cases hf:lr r.k jJ with
 |none=>
  have hR:fG r=false:=by simp[fG,hf]
  go_region_with(go_at_call 126;refine(jo _).mono ?_;rintro e W1 ⟨v,rfl,hv,hb⟩;obtain⟨u,hl,hu⟩:=lg hv r.k (w':=W1) rfl;replace hb:Below W0.heap.size W0 W1:=⟨hb.os,hb.tape,hb.output,hb.size,hb.block⟩;have h1:W1.heap[b]?=some (.cells (recC r) 71 (0,0)):=(hb.block b (Array.getElem?_eq_some_iff.1 h0).1).trans h0;have c2:=(iT h1).1;rw[hf]at hl);all_goals go_wp2;go_ret;exact⟨by rw[hR];rfl,hbb▸bel _ hb⟩|some ps=>
  obtain⟨hl8,hq8⟩:=I6 hf;by_cases hz:65535<r.z
  ·have hR:fG r=false:=by simp[fG,hf,hz]
   go_region_with(go_at_call 126;refine(jo _).mono ?_;rintro e W1 ⟨v,rfl,hv,hb⟩;obtain⟨u,hl,hu⟩:=lg hv r.k (w':=W1) rfl;replace hb:Below W0.heap.size W0 W1:=⟨hb.os,hb.tape,hb.output,hb.size,hb.block⟩;have h1:W1.heap[b]?=some (.cells (recC r) 71 (0,0)):=(hb.block b (Array.getElem?_eq_some_iff.1 h0).1).trans h0;have hlt:=(Array.getElem?_eq_some_iff.1 h1).1;obtain⟨c2,d1,d2,d3,d4,d5,d6,d7,c3,c4,d8,d9⟩:=iT h1;rw[hf]at hl);all_goals go_wp2;go_ret;exact⟨by rw[hR];rfl,hbb▸bel _ hb⟩
  by_cases hm:4294967295<r.m
  ·have hR:fG r=false:=by simp[fG,hf,hm]
   go_region_with(go_at_call 126;refine(jo _).mono ?_;rintro e W1 ⟨v,rfl,hv,hb⟩;obtain⟨u,hl,hu⟩:=lg hv r.k (w':=W1) rfl;replace hb:Below W0.heap.size W0 W1:=⟨hb.os,hb.tape,hb.output,hb.size,hb.block⟩;have h1:W1.heap[b]?=some (.cells (recC r) 71 (0,0)):=(hb.block b (Array.getElem?_eq_some_iff.1 h0).1).trans h0;have hlt:=(Array.getElem?_eq_some_iff.1 h1).1;obtain⟨c2,d1,d2,d3,d4,d5,d6,d7,c3,c4,d8,d9⟩:=iT h1;rw[hf]at hl);all_goals go_wp2;go_ret;exact⟨by rw[hR];rfl,hbb▸bel _ hb⟩
  have hR:fG r=(!(uH ps ({r with p:=0,i:=0,s:=0},false)).2&&decide ((uH ps ({r with p:=0,i:=0,s:=0},false)).1=⟨r.k,0,0,0,0,0,0,0,0,0,[],[]⟩)):=by unfold fG;rw[hf];dsimp only;rw[decide_eq_false hz,decide_eq_false hm];rfl
  go_region_with(go_at_call 126;refine(jo _).mono ?_;rintro e W1 ⟨v,rfl,hv,hb⟩;obtain⟨u,hl,hu⟩:=lg hv r.k (w':=W1) rfl;replace hb:Below W0.heap.size W0 W1:=⟨hb.os,hb.tape,hb.output,hb.size,hb.block⟩;have h1:W1.heap[b]?=some (.cells (recC r) 71 (0,0)):=(hb.block b (Array.getElem?_eq_some_iff.1 h0).1).trans h0;have hlt:=(Array.getElem?_eq_some_iff.1 h1).1;obtain⟨c2,d1,d2,d3,d4,d5,d6,d7,c3,c4,d8,d9⟩:=iT h1;rw[hf]at hl);all_goals
   rw[hf]at hu;obtain⟨A,c,rfl,hc,hA⟩:=Cd hu;have t2:=Jf W1 (Obj.cells #[.bool false] 222) (Obj.cells (recC r) 71);go_wp2_with(go_at_call 127;refine(MX r false ps hq8 hl8 _ (W1.heap.size+1) W1.heap.size (by omega) ?hlr ?hlt A c hc ?hA ?h1 ?h2).mono ?_);case hlr=>rw[jX];omega
   case hlt=>rw[jX];omega
   case hA=>
    intro hp;obtain⟨bb,o,rfl,e1,e2,e3⟩:=hA hp;refine⟨bb,o,rfl,by omega,by omega,?_,fun i hi=>?_⟩;·rw[jX];omega
    ·rw[←e3 i hi];unfold World.cell?;rw[←t2 bb e2];rfl
   case h1=>exact WU _ _ _
   case h2=>exact Zq _ _ _
   rintro e W2 ⟨rfl,hV⟩;have s1:W2.heap[b]?=some (.cells (recC r) 71 (0,0)):=by rw[hV.block b (by rw[jX];omega) (by omega) (by omega)];exact(t2 b hlt).trans h1
   have s2:W2.cell? ⟨W1.heap.size,0,none⟩=some (.bool (uH ps ({r with p:=0,i:=0,s:=0},false)).2):=by rw[Lib.cell_of_heap hV.ht];rfl
   have B1:=bel _ hb;have bel2:Below b w W2:=⟨hV.os.trans B1.os,hV.tape.trans B1.tape,hV.output.trans B1.output,by have:=hV.size;rw[jX]at this;omega,fun k hk=>(hV.block k (by rw[jX];omega) (by omega) (by omega)).trans ((t2 k (by omega)).trans (B1.block k hk))⟩;have hr2:=hV.hr;clear hV t2 d1 d2 d3 d4 d5 d6 d7 d8 d9 hA c2 c3 c4 c1 hv hl hu h1;revert hR s2 hr2;generalize uH ps ({r with p:=0,i:=0,s:=0},false)=x;obtain⟨⟨xk,xp,xi,xs,xe,xu,xv,xc,xz,xm,xn,xt⟩,bx⟩:=x;intro hR s2 hr2;have c1:=(iT s1).1;obtain⟨d0,d1,d2,d3,d4,d5,d6,d7,d8,d9,d10,d11⟩:=iT hr2;cases bx with|true=>go_wp2;go_ret;exact⟨by rw[hR];rfl,hbb▸bel2⟩|false=>
    go_wp2;all_goals go_ret
    all_goals refine⟨?_,hbb▸bel2⟩
    all_goals rw[hR]
    all_goals simp[*]
theorem JD {P:Program}{f:FuncId}{args:List AV}{p:PV}{u:Value} (h:∀(w:World) (S:Nat→Prop) (vals:List Value),vals.length=args.length→(∀(i:Nat) (x:Value) (y:AV),vals[i]?=some x→args[i]?=some y→RV P S w (fun _=>.nilIface) (fun _=>False) x y)→Calls P f vals.toArray w fun e w'=>e=.returned u∧Below w.heap.size w w') (hu:∀S w,da S w u p):u9 P f [] args [] (.pv p):=by
 intro w S0 β vals hS0 hlt hheap hvl hvr;have hno:∀t,bo (ab []) (fun t=>du (cellAt (.pv p) t)) t=none:=by
  intro t;show du (cellAt (.pv p) t)=none;simp only[cellAt,bI];split;·split<;>rfl
  ·rfl
 refine(h w (aU S0 w.heap.size β (ab []) w) vals hvl fun i x y hx hy=>?_).mono ?_;·exact(hvr i x y hx hy).mono (fun b hb=>⟨hb,rfl⟩) (fun t ⟨o,ho⟩=>by simp[ab]at ho)
 ·rintro e w' ⟨rfl,hb⟩;refine⟨_,fun _=>.nilIface,rfl,⟨hb.os,hb.tape,hb.output,hb.size,fun k hk _=>hb.block k hk⟩,⟨fun t o ho=>?_,fun t t' b ⟨o,ho⟩=>?_⟩,fun t b ⟨o,ho⟩=>?_,.pv _ _ (hu _ _)⟩;·rw[hno]at ho;cases ho
  ·rw[hno]at ho;cases ho
  ·rw[hno]at ho;cases ho
def ju (r:Rc):List AV:=[.pv (.int .u8 r.k),.pv (.int .u64 r.p),.pv (.int .u64 r.i),.pv (.int .u64 r.s),.pv (.int .u64 r.e),.pv (.int .u64 r.u),.pv (.int .u64 r.v),.pv (.int .u64 r.c),.pv (.int .u64 r.z),.pv (.int .u64 r.m),.pv (.str r.n),.pv (.str r.t)]
@[simp] def H6:List AV→Option (Prop×AV)|[.agg [.pv (.int .u8 k),.pv (.int .u64 p),.pv (.int .u64 i),.pv (.int .u64 s),.pv (.int .u64 e),.pv (.int .u64 u),.pv (.int .u64 v),.pv (.int .u64 c),.pv (.int .u64 z),.pv (.int .u64 m),.pv (.str n),.pv (.str t)]]=>some (True,.pv (.bool (fG ⟨k,p,i,s,e,u,v,c,z,m,n,t⟩)))|_=>none
theorem J7:aR Tryz.prog 92 H6:=by
 intro ys φ r h hφ;unfold H6 at h;split at h;·rename_i k p i s e u v c z m n t;cases h;refine JD (u:=.bool (fG ⟨k,p,i,s,e,u,v,c,z,m,n,t⟩)) (fun w S vals hvl hvr=>?_) fun S w=>.bool _;match vals,hvl with|[v0],_=>obtain⟨us,rfl,hl,hus⟩:=(hvr 0 v0 _ rfl rfl).cN;match us,hl with|[a0,a1,a2,a3,a4,a5,a6,a7,a8,a9,a10,a11],_=>cases(hus 0 _ a0 rfl rfl).aI;cases(hus 1 _ a1 rfl rfl).aI;cases(hus 2 _ a2 rfl rfl).aI;cases(hus 3 _ a3 rfl rfl).aI;cases(hus 4 _ a4 rfl rfl).aI;cases(hus 5 _ a5 rfl rfl).aI;cases(hus 6 _ a6 rfl rfl).aI;cases(hus 7 _ a7 rfl rfl).aI;cases(hus 8 _ a8 rfl rfl).aI;cases(hus 9 _ a9 rfl rfl).aI;cases(hus 10 _ a10 rfl rfl).eL;cases(hus 11 _ a11 rfl rfl).eL;exact Bw ⟨k,p,i,s,e,u,v,c,z,m,n,t⟩ w
 ·cases h
@[simp] def ti (ys:List AV) (K:Rc→Option (Prop×AV)):Option (Prop×AV):=match ys with|[.pv (.int .u8 k),.pv (.int .u64 p),.pv (.int .u64 i),.pv (.int .u64 s),.pv (.int .u64 e),.pv (.int .u64 u),.pv (.int .u64 v),.pv (.int .u64 c),.pv (.int .u64 z),.pv (.int .u64 m),.pv (.str n),.pv (.str t)]=>K ⟨k,p,i,s,e,u,v,c,z,m,n,t⟩|_=>none
theorem nI {ys:List AV}{K:Rc→Option (Prop×AV)}{x:Prop×AV} (h:ti ys K=some x):∃r,ys=ju r∧K r=some x:=by
 unfold ti at h;split at h;·exact⟨_,rfl,h⟩
 ·cases h
def K9 (f:Nat):PV:=.val (.func (.func f) #[] #[])
def Mh:List (PV×PV):=[(.int .u8 1,K9 173),(.int .u8 2,K9 174),(.int .u8 3,K9 175),(.int .u8 4,K9 176),(.int .u8 5,K9 177),(.int .u8 6,K9 178),(.int .u8 7,K9 179),(.int .u8 8,K9 180)]
def Ys:List AV→Option (Prop×AV)|[]=>some (True,.pv (.mv Mh))|_=>none
@[simp] theorem ZV:Ys []=some (True,.pv (.mv Mh)):=rfl
def stC (acc:List Int) (x:Int):List Int:=if acc.getLast?=some x then acc else acc++[x]
def UR (l:List Int):List Int:=l.foldl stC []
def YF (l:List Int):List Int:=l.mergeSort fun x y=>decide (x≤y)
def Ge (l:List Int):List Int:=UR (YF l)
@[simp] noncomputable def GCmp:List AV→Option (Prop×AV)|[.fr e a]=>if e=22 then(dec mb a).map fun l=>(l.length≤1000000,.fr 22 (bN (UR l))) else none|_=>none
@[simp] noncomputable def Gnums:List AV→Option (Prop×AV)|[.pv (.ro a),.pv (.ro b)]=>(dec mb a).bind fun la=>(dec mb b).map fun lb=>(la.length≤1000000000,.pv (.bool (decide (la=lb))))|_=>none
@[simp] noncomputable def GrV:List AV→Option (Prop×AV)|[.pv (.ro a)]=>(dec rowP a).map fun l=>(l.length≤1000000,.fr 22 (bN (Ge (l.map Pn.v))))|_=>none
@[simp] noncomputable def GSp:List AV→Option (Prop×AV)|[.aS [.agg [.fr e a]]]=>if e=177 then(dec rowP a).map fun l=>(l.length≤1000000,.bZ 0 [.aS [],.agg [.fr 177 (aF (l.map fun _=>⟨77,77,0⟩))]]) else none|_=>none
end Go.Proofs.YtifcndkhigakfaaGreat.Ab
namespace Go.Proofs.YtifcndkhigakfaaGreat.Ab
open Go Go.RowKit Go.Sort R
@[simp] noncomputable def Gnan:List AV→Option (Prop×AV)|[.pv (.int .u64 a)]=>some (True,.pv (.bool false))|_=>none
@[simp] noncomputable def Gless:List AV→Option (Prop×AV)|[.pv (.int k a),.pv (.int m b)]=>some (k=.u64∧m=.u64,.pv (.bool (ltInt a b)))|_=>none
theorem fw (f:Fr):f.st=⟨look f.vs,ab f.os⟩:=rfl
@[simp] noncomputable def GLen:List AV→Option (Prop×AV)|[.pv (.int .u64 n)]=>some (0≤n∧n<256,.pv (.int .i64 (bitsLen n.toNat:Int)))|_=>none
@[simp] noncomputable def Gxor:List AV→Option (Prop×AV)|[.aS [.bx [.pv (.int .u64 n)]]]=>some (0≤n∧n<18446744073709551616,.bZ 0 [.pv (.int .u64 ((xorNext (UInt64.ofNat n.toNat)).toNat:Int)),.bx [.pv (.int .u64 ((xorNext (UInt64.ofNat n.toNat)).toNat:Int))]])|_=>none
@[simp] noncomputable def Gnp2:List AV→Option (Prop×AV)|[.pv (.int .i64 n)]=>some (0≤n∧n<256,.pv (.int .u64 ((1<<<bitsLen n.toNat:Nat):Int)))|_=>none
@[simp] noncomputable def GSo:List AV→Option (Prop×AV)|[.aS [.fr e a]]=>if e=22 then(dec mb a).map fun l=>(l.length<50,.bZ 0 [.aS [],.fr 22 (bN (YF l))]) else none|_=>none
end Go.Proofs.YtifcndkhigakfaaGreat.Ab
namespace Go.Proofs.YtifcndkhigakfaaGreat.Ab
open Go Go.RowKit R
@[simp] noncomputable def GpV:List AV→Option (Prop×AV)|[.agg [.pv (.ro a)]]=>(dec rowP a).map fun l=>(l.length<50,.fr 22 (bN (Ge (l.map Pn.v))))|_=>none
def ON:List AV→Option (Prop×AV)|[]=>some (True,.pv (.bool true))|_=>none
@[simp] theorem RY:ON []=some (True,.pv (.bool true)):=rfl
@[simp] noncomputable def GRev:List AV→Option (Prop×AV)|[.aS [.fr e a]]=>if e=132 then(dec dG a).map fun l=>(l.length≤1000000,.bZ 0 [.aS [],.fr 132 (ba l.reverse)]) else none|_=>none
def OY (l:List Vn) (i:Nat):Vn:=(l[i]?).getD v0
def DB (l:List Vn):Nat→Nat→List Vn|0,i=>[OY l i]|f+1,i=>if fE (OY l i)=0 then[OY l i] else DB l f (CG l (fE (OY l i))).toNat++[OY l i]
def LG (l:List Vn) (n:Int):List Vn×Int:=if db l=false then([],2) else match He l n with|none=>([],150)|some v=>(DB l l.length (CG l v.n).toNat,0)
@[simp] noncomputable def GPlan (e:TypeId):List AV→Option (Prop×AV)|[.pv (.ro a),.pv (.int .u64 n)]=>(dec dG a).map fun l=>(l.length≤100000∧(∀v∈l,pD v),.aS [.fr e (ba (LG l n).1),.pv (.int .i64 (LG l n).2)])|_=>none
@[simp] noncomputable def Grp (k:Nat):List AV→Option (Prop×AV)|[.pv (.ro a),.agg [.pv (.int .u64 n),.pv (.int .u64 b),.pv (.int .u64 p),.pv (.int .u64 i),.pv (.int .u64 s),.pv (.int .u64 z),.pv (.int .u64 m),.pv (.str t),.pv (.bool inl),.pv (.bool fU)]]=>(dec dG a).map fun l=>(l.length≤100000∧db l=true∧(∀v∈l,pD v)∧∃q,q<k∧q<l.length∧OY l q=⟨n,b,p,i,s,z,m,t,inl,fU⟩,.fr 156 (ba (DB l l.length (CG l n).toNat)))|_=>none
def IS (n:Int):List PV:=[.int .u64 n]
def Wi (l:List Int):List (List PV):=l.map IS
@[simp] theorem Rg:Wi []=[]:=rfl
def inU (l:List Int) (n:Int):Bool:=decide (n∈l)
def ixU (l:List Int) (n:Int):Int:=if inU l n=true then(l.findIdx (fun x=>decide (x=n)):Int) else-1
@[simp] noncomputable def GixU:List AV→Option (Prop×AV)|[.pv (.ro a),.pv (.int .u64 n)]=>(dec IS a).map fun l=>(l.length≤1000000000,.pv (.int .i64 (ixU l n)))|_=>none
@[simp] noncomputable def GinU:List AV→Option (Prop×AV)|[.pv (.ro a),.pv (.int .u64 n)]=>(dec IS a).map fun l=>(l.length≤1000000000,.pv (.bool (inU l n)))|_=>none
def ZR (ks:List PV) (n:Int):Bool:=ks.any (m8 (.int .u64 n))
@[simp] def Gfg1:List AV→Option (Prop×AV)|[.agg [.pv (.int .u64 n),.pv (.int .u64 _),.pv (.int .u64 _),.pv (.int .u64 _),.pv (.int .u64 _),.pv (.int .u64 _),.pv (.int .u64 _),.pv (.str _),.pv (.bool _),.pv (.bool _)],.rp [.mp ks]]=>some ((∀x∈ks,dw x=9),.pv (.bool (!ZR ks n)))|_=>none
def ixQ (p:Vn→Bool) (l:List Vn):Int:=if l.findIdx p<l.length then(l.findIdx p:Int) else-1
def TT (ks:List PV) (v:Vn):Bool:=!ZR ks v.n
@[simp] noncomputable def GixK:List AV→Option (Prop×AV)|[.pv (.ro a),.bZ f [.rp [.mp ks]]]=>if f=241 then(dec dG a).map fun l=>(l.length≤1000000000∧∀x∈ks,dw x=9,.pv (.int .i64 (ixQ (TT ks) l))) else none|_=>none
def inK (ks:List PV) (l:List Vn):List Vn:=l.filter fun v=>!TT ks v
@[simp] noncomputable def GdelV:List AV→Option (Prop×AV)|[.fr e a,.bZ f [.rp [.mp ks]]]=>if e=132∧f=241 then(dec dG a).map fun l=>(l.length≤1000000∧∀x∈ks,dw x=9,.fr 132 (ba (inK ks l))) else none|_=>none
def hidF (c:Int) (c7:List Int) (v:Vn):Vn:={v with fU:=v.fU||(!decide (v.n=c)&&!inU c7 v.n)}
def curN (l:List Vn):Int:=((OH l).getD v0).n
def Xi (l:List Vn) (c7:List Int):List Vn:=l.map (hidF (curN l) c7)
def X0 (o:List Vn) (n:Int):Bool:=(List.range o.length).any fun k=>!(OY o k).fU&&(DB o o.length k).any fun w=>decide (w.n=n)
def DP (l:List Vn) (c7:List Int):List Vn:=if db l=false then[] else(Xi l c7).filter fun v=>X0 (Xi l c7) v.n
@[simp] noncomputable def GForget (e:TypeId):List AV→Option (Prop×AV)|[.pv (.ro a),.pv (.ro k)]=>(dec dG a).bind fun l=>(dec IS k).map fun ks=>(l.length≤100000∧ks.length≤1000000∧(∀v∈l,pD v),.fr e (ba (DP l ks)))|_=>none
def OC (a:Ap):Ap×Bool:=(⟨a.l,(El a.ps a.r.v).1,a.vs,a.sl,a.r,a.n,a.s⟩,decide ((El a.ps a.r.v).2=0))
def pinA (a:Ap):Ap×Bool:=(⟨a.l,(Em a.ps ⟨a.n,a.r.v,a.r.u⟩).1,a.vs,a.sl,a.r,a.n,a.s⟩,(He a.vs a.r.v).isSome&&decide ((Em a.ps ⟨a.n,a.r.v,a.r.u⟩).2=0))
def CW (a:Ap):Vn:=⟨a.n,a.r.v,a.r.p,a.r.i,a.r.s,a.r.z,a.r.m,[],false,false⟩
def IG (a:Ap):Ap×Bool:=(⟨a.l,a.ps,(Kd a.vs (CW a)).1,a.sl,a.r,a.n,a.s⟩,!a.sl&&AQ a.l a.r.p a.r.i a.r.e&&decide ((Kd a.vs (CW a)).2=0))
noncomputable def Gb (a:Ap):Ap×Bool:=(⟨a.l,Aq a.ps a.r.c a.s,DP a.vs (Ge ((Aq a.ps a.r.c a.s).map Pn.v)),a.sl,a.r,a.n,a.s⟩,true)
noncomputable def doA (a:Ap):Option (Ap×Bool):=if a.r.k=1 then some (MS a) else if a.r.k=2 then some (MT a) else if a.r.k=3 then some (GB a) else if a.r.k=4 then some (IG a) else if a.r.k=5 then some (pinA a) else if a.r.k=6 then some (OC a) else if a.r.k=7 then some (XW a) else if a.r.k=8 then some (Gb a) else none
def Dh (a:Ap):List AV:=[.pv (.int .u64 a.l.e),.pv (.int .u64 a.l.p),.pv (.int .u64 a.l.i),.pv (.int .u64 a.l.u),.pv (.bool a.l.h),.fr 177 (aF a.ps),.fr 132 (ba a.vs),.pv (.bool a.sl)]
noncomputable def nK (a:Ap):Ap×Int:=match doA a with|none=>(a,220)|some x=>if fG a.r=true∧x.2=true then(x.1,0) else(a,220)
def okA (a:Ap):Prop:=cO a.l.e∧a.ps.length<50∧a.vs.length≤100000∧(∀e∈a.ps,fR e)∧(∀v∈a.vs,pD v)∧cO a.r.c∧cO a.s∧pD (CW a)
noncomputable def GApp:List AV→Option (Prop×AV)|[.agg [.pv (.int .u64 e),.pv (.int .u64 p),.pv (.int .u64 i),.pv (.int .u64 u),.pv (.bool h),.pv (.ro a),.pv (.ro b),.pv (.bool sl)],.agg [.pv (.int .u8 k),.pv (.int .u64 rp),.pv (.int .u64 ri),.pv (.int .u64 rs),.pv (.int .u64 re),.pv (.int .u64 ru),.pv (.int .u64 rv),.pv (.int .u64 rc),.pv (.int .u64 rz),.pv (.int .u64 rm),.pv (.str rn),.pv (.str rt)],.pv (.int .u64 n),.pv (.int .u64 s)]=>(dec rowP a).bind fun ps=>(dec dG b).map fun vs=>(okA ⟨⟨e,p,i,u,h⟩,ps,vs,sl,⟨k,rp,ri,rs,re,ru,rv,rc,rz,rm,rn,rt⟩,n,s⟩,.aS [.agg (Dh (nK ⟨⟨e,p,i,u,h⟩,ps,vs,sl,⟨k,rp,ri,rs,re,ru,rv,rc,rz,rm,rn,rt⟩,n,s⟩).1),.pv (.int .i64 (nK ⟨⟨e,p,i,u,h⟩,ps,vs,sl,⟨k,rp,ri,rs,re,ru,rv,rc,rz,rm,rn,rt⟩,n,s⟩).2)])|_=>none
def Ny (n t:List UInt8):Bool:=decide (n.length≤100)&&decide (t.length≤100)
@[simp] def GFewR:List AV→Option (Prop×AV)|[.agg [.pv (.int .u8 k),.pv (.int .u64 p),.pv (.int .u64 i),.pv (.int .u64 s),.pv (.int .u64 e),.pv (.int .u64 u),.pv (.int .u64 v),.pv (.int .u64 c),.pv (.int .u64 z),.pv (.int .u64 m),.pv (.str n),.pv (.str t)]]=>some (True,.pv (.bool (Ny n t)))|_=>none
def rS (d:Dc):Bool:=d.vs.all (fun v=>decide (v.t.length≤100))&&decide (d.ps.length≤20)&&decide (d.vs.length≤20)
@[simp] noncomputable def L2:List AV→Option (Prop×AV)|[.agg ys]=>n8 ys fun d=>some (d.vs.length≤maxLen,.pv (.bool (rS d)))|_=>none
theorem Ns:aR Tryz.prog 29 L2:=by
 intro ys φ r h hφ;unfold L2 at h;split at h
 ·obtain⟨d,hd,h2⟩:=fx h;subst hd;clear h;cases h2;obtain⟨⟨e,p,i,u,h'⟩,ps,vs,sl⟩:=d;have hl:vs.length≤maxLen:=hφ;rw[aw]at hl;refine aq aj (by kernel_rfl) (by conv=>lhs;reduce) (by simp) ?_;simp[cellsD];refine au (fun i:Nat=>i≤vs.length∧∀v∈vs.take i,v.t.length≤100) (fun j=>⟨[(1,.ptr 1 0),(2,.pv (.bool false)),(3,.pv (.int .i64 j))],[(1,.box [.pv (.int .u64 e),.pv (.int .u64 p),.pv (.int .u64 i),.pv (.int .u64 u),.pv (.bool h'),.pv (.ro (aF ps)),.pv (.ro (ba vs)),.pv (.bool sl)])]⟩) (fun i=>vs.length-i) [] 0 (by simp) ?_ ?_;·simp
  ·rintro j ⟨hj,ht⟩;by_cases hlt:j<vs.length
   ·have r1:=dI hlt;have w2:IntKind.i64.wrap ((j:Int)+1)=(j:Int)+1:=wrap_i64 (by omega);by_cases h1:(100:Int)<vs[j].t.length
    ·have hf:rS ⟨⟨e,p,i,u,h'⟩,ps,vs,sl⟩=false:=by
      unfold rS;have:(vs.all fun v=>decide (v.t.length≤100))=false:=by rw[List.all_eq_false];exact⟨vs[j],List.getElem_mem hlt,by simp;omega⟩
      simp[this]
     simp[w2,hlt,r1,h1,hf]
    ·have h1':(vs[j].t.length:Int)≤100:=by omega
     simp[w2,hlt,r1,h1,h1'];refine⟨j+1,⟨by omega,fun v hv=>?_⟩,by omega,by omega⟩;rw[List.take_succ_eq_append_getElem hlt,List.mem_append]at hv;rcases hv with hv|hv;·exact ht v hv
     ·simp only[List.mem_singleton]at hv;subst hv;omega
   ·rw[List.take_of_length_le (by omega)]at ht;have hf:rS ⟨⟨e,p,i,u,h'⟩,ps,vs,sl⟩=(decide (ps.length≤20)&&decide (vs.length≤20)):=by
     unfold rS;have:(vs.all fun v=>decide (v.t.length≤100))=true:=by rw[List.all_eq_true];exact fun v hv=>decide_eq_true (ht v hv)
     simp[this]
    have e1:∀n:Nat,decide ((n:Int)≤20)=decide (n≤20):=fun n=>decide_eq_decide.2 (by omega);by_cases h2:(ps.length:Int)≤20<;>simp[hlt,hf,h2,←e1]
 ·cases h
theorem Dj {a b:Vn}:a=b↔a.n=b.n∧a.b=b.b∧a.p=b.p∧a.i=b.i∧a.s=b.s∧a.z=b.z∧a.m=b.m∧a.t=b.t∧a.inl=b.inl∧a.fU=b.fU:=by cases a;cases b;simp
@[simp] noncomputable def Yp:List AV→Option (Prop×AV)|[.pv (.ro a),.pv (.ro b)]=>(dec dG a).bind fun a=>(dec dG b).map fun b=>(a.length≤1000000000,.pv (.bool (decide (a=b))))|_=>none
theorem YZ:aR Tryz.prog 97 Yp:=by
 intro ys φ r h hφ;unfold Yp at h;split at h
 ·obtain⟨a,ha,h1⟩:=Option.bind_eq_some_iff.1 h;obtain⟨b,hb,h2⟩:=Option.map_eq_some_iff.1 h1;clear h h1;cases h2;cases bB ha;cases bB hb;have hl:a.length≤1000000000:=hφ;refine aq aj (by kernel_rfl) (by conv=>lhs;reduce) (by simp) ?_;simp;refine⟨fun hne=>?_,fun hlen=>?_⟩;·intro e;exact hne (by rw[e])
  refine au (fun i:Nat=>i≤a.length∧a.take i=b.take i) (fun i=>⟨[(0,.pv (.ro (ba a))),(1,.pv (.ro (ba b))),(12,.pv (.int .i64 a.length)),(13,.pv (.int .i64 i))],[]⟩) (fun i=>a.length-i) [] 0 (by simp) ?_ ?_;·simp
  ·rintro i ⟨hi,ht⟩;have w2:IntKind.i64.wrap ((i:Int)+1)=(i:Int)+1:=wrap_i64 (by omega);by_cases hlt:i<a.length
   ·have r1:=dI hlt;have hlb:i<b.length:=by omega
    have r2:=dI hlb;by_cases he:a[i]=b[i];·obtain⟨f1,f2,f3,f4,f5,f6,f7,f8,f9,f10⟩:=Dj.1 he;simp[w2,hlt,hlb,r1,r2,f1,f2,f3,f4,f5,f6,f7,f8,f9,f10];refine⟨i+1,⟨by omega,?_⟩,by omega,by omega⟩;rw[List.take_succ_eq_append_getElem hlt,List.take_succ_eq_append_getElem hlb,ht,he]
    ·have hn:¬a=b:=fun e=>he (by subst e;rfl);simp[w2,hlt,hlb,r1,r2,hn];exact fun f1 f2 f3 f4 f5 f6 f7 f8 f9 f10=>absurd (Dj.2 ⟨f1,f2,f3,f4,f5,f6,f7,f8,f9,f10⟩) he
   ·simp[hlt];rw[List.take_of_length_le (by omega),List.take_of_length_le (by omega)]at ht;exact ht
 ·cases h
@[simp] noncomputable def GSD:List AV→Option (Prop×AV)|[.agg xs,.agg ys]=>n8 xs fun a=>n8 ys fun b=>some (a.ps.length≤1000000000∧a.vs.length≤1000000000,.pv (.bool (decide (a=b))))|_=>none
theorem c_SD:aR Tryz.prog 51 GSD:=by
 intro ys φ r h hφ;unfold GSD at h;split at h
 ·obtain⟨a,ha,h1⟩:=fx h;obtain⟨b,hb,h2⟩:=fx h1;subst ha hb;clear h h1;cases h2;obtain⟨⟨e,p,i,u,h'⟩,ps,vs,sl⟩:=a;obtain⟨⟨e2,p2,i2,u2,h2'⟩,ps2,vs2,sl2⟩:=b;obtain⟨h1,h2⟩:=hφ;have h1:ps.length≤1000000000:=h1;have h2:vs.length≤1000000000:=h2;refine aq (af JK (af YZ aj)) (by kernel_rfl) (by conv=>lhs;reduce) (by simp) ?_;have hs:(sl==sl2)=decide (sl=sl2):=by cases sl<;>cases sl2<;>rfl
  simp[cellsD,h1,h2];rw[hs];ac_rfl
 ·cases h
theorem Mj:aR Tryz.prog 40 GSD:=by
 intro ys φ r h hφ;unfold GSD at h;split at h
 ·obtain⟨a,ha,h1⟩:=fx h;obtain⟨b,hb,h2⟩:=fx h1;subst ha hb;clear h h1;cases h2;obtain⟨⟨e,p,i,u,h'⟩,ps,vs,sl⟩:=a;obtain⟨⟨e2,p2,i2,u2,h2'⟩,ps2,vs2,sl2⟩:=b;obtain⟨h1,h2⟩:=hφ;have h1:ps.length≤1000000000:=h1;have h2:vs.length≤1000000000:=h2;refine aq (af J1 aj) (by kernel_rfl) (by conv=>lhs;reduce) (by simp) ?_;apply ag;·simp[cellsD];exact⟨rfl,rfl⟩
  rw[dV];simp[h1];refine⟨fun hx a1 a2 a3 a4 a5 a6 a7 a8=>?_,?_⟩;·subst a1 a2 a3 a4 a5 a6 a7 a8;simp at hx
  ·rintro rfl rfl rfl rfl rfl rfl rfl hlen;have hlen:vs.length=vs2.length:=by omega
   refine au (fun i:Nat=>i≤vs.length∧vs.take i=vs2.take i) (fun j=>⟨[(2,.ptr 2 0),(3,.ptr 3 0),(5,.pv (.int .i64 j))],[(2,.box [.pv (.int .u64 e),.pv (.int .u64 p),.pv (.int .u64 i),.pv (.int .u64 u),.pv (.bool h'),.pv (.ro (aF ps)),.pv (.ro (ba vs)),.pv (.bool sl)]),(3,.box [.pv (.int .u64 e),.pv (.int .u64 p),.pv (.int .u64 i),.pv (.int .u64 u),.pv (.bool h'),.pv (.ro (aF ps)),.pv (.ro (ba vs2)),.pv (.bool sl)])]⟩) (fun i=>vs.length-i) [] 0 (by simp) ?_ ?_;·simp
   ·rintro j ⟨hj,ht⟩;have w2:IntKind.i64.wrap ((j:Int)+1)=(j:Int)+1:=wrap_i64 (by omega);by_cases hlt:j<vs.length
    ·have r1:=dI hlt;have hlb:j<vs2.length:=by omega
     have r2:=dI hlb;by_cases he:vs[j]=vs2[j];·obtain⟨f1,f2,f3,f4,f5,f6,f7,f8,f9,f10⟩:=Dj.1 he;simp[w2,hlt,hlb,r1,r2,f1,f2,f3,f4,f5,f6,f7,f8,f9,f10];refine⟨j+1,⟨by omega,?_⟩,by omega,by omega⟩;rw[List.take_succ_eq_append_getElem hlt,List.take_succ_eq_append_getElem hlb,ht,he]
     ·have hn:¬vs=vs2:=fun e=>he (by subst e;rfl);simp[w2,hlt,hlb,r1,r2,hn];exact fun f1 f2 f3 f4 f5 f6 f7 f8 f9 f10=>absurd (Dj.2 ⟨f1,f2,f3,f4,f5,f6,f7,f8,f9,f10⟩) he
    ·simp[hlt];rw[List.take_of_length_le (by omega),List.take_of_length_le (by omega)]at ht;exact ht
 ·cases h
@[simp] def GSpD (e1 e2:TypeId):List AV→Option (Prop×AV)|[.agg [.pv (.int .u64 e),.pv (.int .u64 p),.pv (.int .u64 i),.pv (.int .u64 u),.pv (.bool h),.fr x ra,.fr y rb,.pv (.bool sl)]]=>if x=e1∧y=e2 then some (ra.length≤1000000∧rb.length≤1000000∧(∀r∈ra,r.length=3)∧∀r∈rb,r.length=10,.bZ 0 [.aS []]) else none|_=>none
@[simp] theorem aaA (e p i u:Int) (h:Bool) (a b:List (List PV)) (sl:Bool) (k rp ri rs re ru rv rc rz rm:Int) (rn rt:List UInt8) (n s:Int):GApp [.agg [.pv (.int .u64 e),.pv (.int .u64 p),.pv (.int .u64 i),.pv (.int .u64 u),.pv (.bool h),.pv (.ro a),.pv (.ro b),.pv (.bool sl)],.agg [.pv (.int .u8 k),.pv (.int .u64 rp),.pv (.int .u64 ri),.pv (.int .u64 rs),.pv (.int .u64 re),.pv (.int .u64 ru),.pv (.int .u64 rv),.pv (.int .u64 rc),.pv (.int .u64 rz),.pv (.int .u64 rm),.pv (.str rn),.pv (.str rt)],.pv (.int .u64 n),.pv (.int .u64 s)]=(dec rowP a).bind fun ps=>(dec dG b).map fun vs=>(okA ⟨⟨e,p,i,u,h⟩,ps,vs,sl,⟨k,rp,ri,rs,re,ru,rv,rc,rz,rm,rn,rt⟩,n,s⟩,.aS [.agg (Dh (nK ⟨⟨e,p,i,u,h⟩,ps,vs,sl,⟨k,rp,ri,rs,re,ru,rv,rc,rz,rm,rn,rt⟩,n,s⟩).1),.pv (.int .i64 (nK ⟨⟨e,p,i,u,h⟩,ps,vs,sl,⟨k,rp,ri,rs,re,ru,rv,rc,rz,rm,rn,rt⟩,n,s⟩).2)]):=rfl
def p3:Pn:=⟨3,2,5⟩
def x2:Vn:=⟨2,0,7,1,0,0,0,[],false,false⟩
def x4:Vn:=⟨4,2,7,1,0,0,0,[],false,false⟩
theorem kA:nK ⟨⟨0,0,0,0,false⟩,[],[],false,⟨1,7,1,0,1,9,0,0,0,0,[],[]⟩,1,0⟩=(⟨⟨1,7,1,9,true⟩,[],[],false,⟨1,7,1,0,1,9,0,0,0,0,[],[]⟩,1,0⟩,0):=by kernel_rfl
theorem kB:nK ⟨⟨1,7,1,9,true⟩,[],[],false,⟨4,7,1,0,1,0,0,0,0,0,[],[]⟩,2,0⟩=(⟨⟨1,7,1,9,true⟩,[],[x2],false,⟨4,7,1,0,1,0,0,0,0,0,[],[]⟩,2,0⟩,0):=by kernel_rfl
theorem oB:okA ⟨⟨1,7,1,9,true⟩,[],[],false,⟨4,7,1,0,1,0,0,0,0,0,[],[]⟩,2,0⟩:=by simp[okA,cO,fR,pD,CW,p3,x2,x4]
theorem kC:nK ⟨⟨1,7,1,9,true⟩,[],[x2],false,⟨5,0,0,0,0,5,2,0,0,0,[],[]⟩,3,0⟩=(⟨⟨1,7,1,9,true⟩,[p3],[x2],false,⟨5,0,0,0,0,5,2,0,0,0,[],[]⟩,3,0⟩,0):=by kernel_rfl
theorem fN:cT []:=fun _ h=>by cases h
noncomputable def GWkD:List AV→Option (Prop×AV)|[]=>some (True,.pv (.bool true))|_=>none
@[simp] theorem GWkD_eq:GWkD []=some (True,.pv (.bool true)):=rfl
structure Sc where
 c:Int
 t:Int
 d:Dc
 cs:List En
 ws:List Pn deriving DecidableEq
def aH (x:Sc):List AV:=[.pv (.int .u64 x.c),.pv (.int .u64 x.t),.pv (.int .u64 x.d.l.e),.pv (.int .u64 x.d.l.p),.pv (.int .u64 x.d.l.i),.pv (.int .u64 x.d.l.u),.pv (.bool x.d.l.h),.pv (.ro (aF x.d.ps)),.pv (.ro (ba x.d.vs)),.pv (.bool x.d.sl),.pv (.ro (aW x.cs)),.pv (.ro (aF x.ws))]
def bj (t1 t2 t3 t4:TypeId) (x:Sc):List AV:=[.pv (.int .u64 x.c),.pv (.int .u64 x.t),.pv (.int .u64 x.d.l.e),.pv (.int .u64 x.d.l.p),.pv (.int .u64 x.d.l.i),.pv (.int .u64 x.d.l.u),.pv (.bool x.d.l.h),.fr t1 (aF x.d.ps),.fr t2 (ba x.d.vs),.pv (.bool x.d.sl),.fr t3 (aW x.cs),.fr t4 (aF x.ws)]
@[simp] noncomputable def jr (ys:List AV) (K:Sc→Option (Prop×AV)):Option (Prop×AV):=match ys with|[.pv (.int .u64 c),.pv (.int .u64 t),.pv (.int .u64 e),.pv (.int .u64 p),.pv (.int .u64 i),.pv (.int .u64 u),.pv (.bool h),.pv (.ro a),.pv (.ro b),.pv (.bool sl),.pv (.ro x),.pv (.ro y)]=>(dec rowP a).bind fun ps=>(dec dG b).bind fun vs=>(dec fc x).bind fun cs=>(dec rowP y).bind fun ws=>K ⟨c,t,⟨⟨e,p,i,u,h⟩,ps,vs,sl⟩,cs,ws⟩|_=>none
theorem dy {ys:List AV}{K:Sc→Option (Prop×AV)}{x:Prop×AV} (h:jr ys K=some x):∃d,ys=aH d∧K d=some x:=by
 unfold jr at h;split at h;·obtain⟨ps,hp,h1⟩:=Option.bind_eq_some_iff.1 h;obtain⟨vs,hv,h2⟩:=Option.bind_eq_some_iff.1 h1;obtain⟨cs,hc,h3⟩:=Option.bind_eq_some_iff.1 h2;obtain⟨ws,hw,h4⟩:=Option.bind_eq_some_iff.1 h3;rw[bf hp,bB hv,bQ hc,bf hw];exact⟨_,rfl,h4⟩
 ·cases h
def rV (x:Sc):AV:=.bx (bj 177 132 86 84 x)
theorem J0:∀p q,rV p=rV q→p=q:=by rintro⟨c,t,⟨⟨e,p,i,u,h⟩,ps,vs,sl⟩,cs,ws⟩ ⟨c',t',⟨⟨e',p',i',u',h'⟩,ps',vs',sl'⟩,cs',ws'⟩ hh;simp only[rV,bj,AV.bx.injEq,List.cons.injEq,AV.pv.injEq,PV.int.injEq,PV.bool.injEq,AV.fr.injEq,true_and,and_true]at hh;obtain⟨rfl,rfl,rfl,rfl,rfl,rfl,rfl,h1,h2,rfl,h3,h4⟩:=hh;rw[mC lO h1,mC Au h2,mC AN h3,mC lO h4]
@[simp] theorem UX (c t e p i u:Int) (h sl:Bool) (ps ws:List Pn) (vs:List Vn) (cs:List En):vz rV (.bx [.pv (.int .u64 c),.pv (.int .u64 t),.pv (.int .u64 e),.pv (.int .u64 p),.pv (.int .u64 i),.pv (.int .u64 u),.pv (.bool h),.fr 177 (aF ps),.fr 132 (ba vs),.pv (.bool sl),.fr 86 (aW cs),.fr 84 (aF ws)])=some ⟨c,t,⟨⟨e,p,i,u,h⟩,ps,vs,sl⟩,cs,ws⟩:=Jy J0 ⟨c,t,⟨⟨e,p,i,u,h⟩,ps,vs,sl⟩,cs,ws⟩
def ke (l:List Pn) (w:Pn):List Pn×Bool:=match l.find? (rY w) with|some x=>(l.set (l.findIdx (rY w)) w,decide (x.u<w.u))|none=>(AG l (l.findIdx (sv w)) w,true)
theorem HG {l:List Pn}{w:Pn} (h:l.any (rY w)=true):∃hi:l.findIdx (rY w)<l.length,ke l w=(l.set (l.findIdx (rY w)) w,decide (l[l.findIdx (rY w)].u<w.u)):=by
 have hi:l.findIdx (rY w)<l.length:=by obtain⟨x,hx,he⟩:=List.any_eq_true.1 h;exact List.findIdx_lt_length_of_exists ⟨x,hx,he⟩
 refine⟨hi,?_⟩;have hf:l.find? (rY w)=some l[l.findIdx (rY w)]:=by rw[List.find?_eq_getElem?_findIdx,List.getElem?_eq_getElem hi]
 unfold ke;rw[hf]
theorem EL {l:List Pn}{w:Pn} (h:l.any (rY w)=false):ke l w=(AG l (l.findIdx (sv w)) w,true):=by
 have hf:l.find? (rY w)=none:=by rw[List.find?_eq_none];exact fun x hx=>by simpa using List.any_eq_false.1 h x hx
 unfold ke;rw[hf]
@[simp] noncomputable def KE:List AV→Option (Prop×AV)|[.aS [y],.agg [.pv (.int .u64 p),.pv (.int .u64 i),.pv (.int .u64 s)]]=>(vz rV y).map fun g=>(g.ws.length≤1000000,.bZ 0 [.pv (.bool (ke g.ws ⟨p,i,s⟩).2),rV ⟨g.c,g.t,g.d,g.cs,(ke g.ws ⟨p,i,s⟩).1⟩])|_=>none
theorem PW:Df Tryz.prog 93 KE:=by
 intro ys φ r h hφ;unfold KE at h;split at h
 ·rename_i y wp wi wu;obtain⟨g,hg,h⟩:=Option.map_eq_some_iff.1 h;cases h;cases tm hg;obtain⟨c,t,⟨⟨e,p,i,u,h'⟩,ps,vs,sl⟩,cs,ws⟩:=g;have h6:ws.length≤1000000:=hφ;have h9:ws.length≤1000000000:=by omega
  refine yv (af YD (qj (p:=0) (k:=998) NL (by kernel_rfl) aj)) (by kernel_rfl) (by conv=>lhs;reduce) (by simp) rfl (by simp[rV,bj]) ?_;cases ha:ws.any (rY ⟨wp,wi,wu⟩) with
  |true=>
   obtain⟨hi,hn⟩:=HG ha;have hix:GH (rY ⟨wp,wi,wu⟩) ws=(ws.findIdx (rY ⟨wp,wi,wu⟩):Int):=by unfold GH;rw[if_pos ha]
   generalize ws.findIdx (rY ⟨wp,wi,wu⟩)=k at*;have r1:=bM hi;have hs:aF (ws.set k ⟨wp,wi,wu⟩)=(aF ws).set k [.int .u64 wp,.int .u64 wi,.int .u64 wu]:=by simp[aF,List.map_set,rowP]
   simp[rV,bj,h9,U0,hix,hi,hn,r1,hs]|false=>
   have hn:=EL ha;have hix:GH (rY ⟨wp,wi,wu⟩) ws=-1:=by unfold GH;rw[if_neg (by simp[ha])]
   cases hb:ws.any (sv ⟨wp,wi,wu⟩) with|true=>
    have hi:ws.findIdx (sv ⟨wp,wi,wu⟩)<ws.length:=by obtain⟨x,hx,he⟩:=List.any_eq_true.1 hb;exact List.findIdx_lt_length_of_exists ⟨x,hx,he⟩
    have hiy:GH (sv ⟨wp,wi,wu⟩) ws=(ws.findIdx (sv ⟨wp,wi,wu⟩):Int):=by unfold GH;rw[if_pos hb]
    generalize ws.findIdx (sv ⟨wp,wi,wu⟩)=k at*;have hk:k≤ws.length:=by omega
    simp[rV,bj,h9,h6,U0,hix,hiy,hk,hn];exact⟨fun h=>by omega,bC _⟩|false=>
    have hi:ws.findIdx (sv ⟨wp,wi,wu⟩)=ws.length:=List.findIdx_eq_length_of_false fun x hx=>by simpa using List.any_eq_false.1 hb x hx
    have hiy:GH (sv ⟨wp,wi,wu⟩) ws=-1:=by unfold GH;rw[if_neg (by simp[hb])]
    rw[hi]at hn;simp[rV,bj,h9,h6,U0,hix,hiy,hn];exact bC _
 ·cases h
def Hh (r:Rc):Pn:=⟨r.p,r.i,r.s⟩
theorem mL (a b:Int):vm a b=0↔a=b:=by
 unfold vm;split;·exact⟨fun h=>by simp at h,fun h=>by omega⟩
 ·split;·exact⟨fun h=>by simp at h,fun h=>by omega⟩
  ·exact⟨fun _=>by omega,fun _=>rfl⟩
theorem zd (a b:Int):0<vm a b↔b<a:=by
 unfold vm;split;·exact⟨fun h=>by simp at h,fun h=>by omega⟩
 ·split;·exact⟨fun _=>by assumption,fun _=>by simp⟩
  ·exact⟨fun h=>by simp at h,fun h=>by omega⟩
theorem yn (w e:Pn):rY w e=true↔e.i=w.i∧e.v=w.v:=by
 unfold rY sa;rw[decide_eq_true_eq];split;·rename_i h;rw[mL]at h ⊢;exact⟨fun h2=>⟨h,h2⟩,fun h2=>h2.2⟩
 ·rename_i h;exact⟨fun h2=>absurd h2 h,fun h2=>absurd ((mL _ _).2 h2.1) h⟩
theorem DH (w e:Pn):sv w e=true↔w.i<e.i∨(w.i=e.i∧w.v<e.v):=by
 unfold sv sa;rw[decide_eq_true_eq];split;·rename_i h;rw[mL]at h;rw[zd];exact⟨fun h2=>.inr ⟨h.symm,h2⟩,fun h2=>h2.elim (fun h3=>by omega) fun h3=>h3.2⟩
 ·rename_i h;rw[mL]at h;rw[zd];exact⟨fun h2=>.inl h2,fun h2=>h2.elim id fun h3=>absurd h3.1.symm h⟩
def CM (l:List Pn) (p i:Int):Int×Bool:=match l.find? (rY ⟨p,i,0⟩) with|some e=>(e.u,true)|none=>(0,false)
theorem NH {l:List Pn}{p i:Int}{j:Nat} (h:j<l.length) (ht:∀e∈l.take j,¬(e.i=p∧e.v=i)) (he:l[j].i=p∧l[j].v=i):CM l p i=(l[j].u,true):=by
 have hf:l.find? (rY ⟨p,i,0⟩)=some l[j]:=by rw[List.find?_eq_some_iff_getElem];refine⟨(yn _ _).2 he,j,h,rfl,fun k hk=>?_⟩;have:=ht l[k] (by rw[List.mem_take_iff_getElem];exact⟨k,by omega,rfl⟩);rw[←yn ⟨p,i,0⟩]at this;simpa using this
 unfold CM;rw[hf]
theorem M5 {l:List Pn}{p i:Int} (ht:∀e∈l,¬(e.i=p∧e.v=i)):CM l p i=(0,false):=by
 have hf:l.find? (rY ⟨p,i,0⟩)=none:=by rw[List.find?_eq_none];intro e he hq;exact ht e he ((yn _ _).1 hq)
 unfold CM;rw[hf]
@[simp] noncomputable def UU:List AV→Option (Prop×AV)|[.agg ys,.pv (.int .u64 p),.pv (.int .u64 i)]=>jr ys fun x=>some (x.ws.length≤1000000000,.aS [.pv (.int .u64 (CM x.ws p i).1),.pv (.bool (CM x.ws p i).2)])|_=>none
theorem aap:aR Tryz.prog 21 UU:=by
 intro ys φ r h hφ;unfold UU at h;split at h
 ·rename_i ys q j;obtain⟨x,rfl,h2⟩:=dy h;clear h;cases h2;obtain⟨c,t,⟨⟨e,p,i,u,h'⟩,ps,vs,sl⟩,cs,ws⟩:=x;have hl:ws.length≤1000000000:=hφ;refine aq aj (by kernel_rfl) (by conv=>lhs;reduce) (by simp) ?_;simp[aH];refine au (fun k:Nat=>k≤ws.length∧∀e∈ws.take k,¬(e.i=q∧e.v=j)) (fun k=>⟨[(1,.pv (.int .u64 q)),(2,.pv (.int .u64 j)),(3,.ptr 3 0),(6,.pv (.int .u64 0)),(7,.pv (.bool false)),(11,.pv (.ro (aF ws))),(12,.pv (.int .i64 ws.length)),(13,.pv (.int .i64 (k:Int)))],[(3,.box (aH ⟨c,t,⟨⟨e,p,i,u,h'⟩,ps,vs,sl⟩,cs,ws⟩))]⟩) (fun k=>ws.length-k) [] 0 (by simp) ?_ ?_;·simp[aH]
  ·rintro k ⟨hk,ht⟩;have w2:IntKind.i64.wrap ((k:Int)+1)=(k:Int)+1:=wrap_i64 (by omega);by_cases hlt:k<ws.length
   ·have r1:=bM hlt;by_cases he:ws[k].i=q∧ws[k].v=j;·have hs:=NH hlt ht he;obtain⟨e1,e2⟩:=he;simp[w2,hlt,r1,e1,e2,hs]
    ·have hn:k+1≤ws.length∧∀e∈ws.take (k+1),¬(e.i=q∧e.v=j):=by
      refine⟨by omega,fun e hm=>?_⟩;rw[List.take_succ_eq_append_getElem hlt,List.mem_append,List.mem_singleton]at hm;rcases hm with hm|rfl;·exact ht e hm
      ·exact he
     by_cases e1:ws[k].i=q;·have e2:¬ws[k].v=j:=fun h=>he ⟨e1,h⟩;simp[w2,hlt,r1,e1,e2,aH];exact⟨k+1,by simpa using hn,by omega,by omega⟩
     ·simp[w2,hlt,r1,e1,aH];exact⟨k+1,by simpa using hn,by omega,by omega⟩
   ·rw[List.take_of_length_le (by omega)]at ht;simp[hlt,M5 ht]
 ·cases h
@[simp] def Gz:List AV→Option (Prop×AV)|[.agg [.pv (.int .u64 p),.pv (.int .u64 i),.pv (.int .u64 s)],.agg [.pv (.int .u64 p'),.pv (.int .u64 i'),.pv (.int .u64 s')]]=>some (True,.pv (.bool (sv ⟨p,i,s⟩ ⟨p',i',s'⟩)))|_=>none
theorem Hi (w e:Pn):sv w e=(decide (w.i<e.i)||(decide (w.i=e.i)&&decide (w.v<e.v))):=by rw[Bool.eq_iff_iff,DH];simp
theorem JJ:aR Tryz.prog 36 Gz:=by
 intro ys φ r h hφ;unfold Gz at h;split at h
 ·rename_i p i s p' i' s';cases h;refine aq aj (by kernel_rfl) (by conv=>lhs;reduce) (by simp) ?_;by_cases h1:p<p';·simp[Hi,h1]
  ·by_cases h2:p=p'<;>simp[Hi,h1,h2]
 ·cases h
def ia (l:List Pn):Bool:=(List.range (l.length-1)).all fun i=>match l[i]?,l[i+1]? with|some a,some b=>sv a b|_,_=>true
theorem oz {l:List Pn}:ia l=true↔∀(i:Nat) (h:i+1<l.length),sv l[i] l[i+1]=true:=by
 unfold ia;rw[List.all_eq_true];constructor;·intro h i hi;have:=h i (List.mem_range.2 (by omega));rwa[List.getElem?_eq_getElem (by omega),List.getElem?_eq_getElem hi]at this
 ·intro h i hi;have hi:=List.mem_range.1 hi;rw[List.getElem?_eq_getElem (by omega),List.getElem?_eq_getElem (by omega)];exact h i (by omega)
theorem Gv (a b:Pn):sa a b<0↔sv a b=true:=by
 rw[DH];unfold sa vm;repeat' split
 all_goals omega
@[simp] noncomputable def Wc:List AV→Option (Prop×AV)|[.agg ys]=>jr ys fun x=>some (x.ws.length≤1000000000,.pv (.bool (ia x.ws)))|_=>none
theorem K5:aR Tryz.prog 32 Wc:=by
 intro ys φ r h hφ;unfold Wc at h;split at h
 ·obtain⟨x,rfl,h2⟩:=dy h;clear h;cases h2;obtain⟨c,t,⟨⟨e,p,i,u,h'⟩,ps,vs,sl⟩,cs,ws⟩:=x;have hl:ws.length≤1000000000:=hφ;refine aq (af BU aj) (by kernel_rfl) (by conv=>lhs;reduce) (by simp) ?_;simp[aH];refine au (fun k:Nat=>k≤ws.length∧∀(i:Nat) (h:i+1<ws.length),i+1<k→sv ws[i] ws[i+1]=true) (fun k=>⟨[(1,.ptr 1 0),(2,.pv (.bool false)),(6,.pv (.int .i64 ws.length)),(7,.pv (.int .i64 (k:Int)))],[(1,.box (aH ⟨c,t,⟨⟨e,p,i,u,h'⟩,ps,vs,sl⟩,cs,ws⟩))]⟩) (fun k=>ws.length-k) [] 0 (by simp) ?_ ?_;·simp[aH]
  ·rintro k ⟨hk,ht⟩;have w2:IntKind.i64.wrap ((k:Int)+1)=(k:Int)+1:=wrap_i64 (by omega);rw[fw];dsimp only;by_cases hlt:k<ws.length;·have r1:=bM hlt;cases k with
    |zero=>
     have r0:rowAt (aF ws) 0=[.int .u64 ws[0].i,.int .u64 ws[0].v,.int .u64 ws[0].u]:=by simpa using r1
     have wm:IntKind.i64.wrap (-1)=-1:=wrap_i64 (by omega);have rm:rowAt (aF ws) (-1)=[.int .u64 ws[0].i,.int .u64 ws[0].v,.int .u64 ws[0].u]:=by simpa[rowAt]using r0
     have w1:IntKind.i64.wrap 1=1:=wrap_i64 (by omega);simp[hlt,r0,rm,wm,w1,aH];exact⟨1,⟨by omega,fun i hi hik=>by omega⟩,by omega,by omega⟩|succ j=>
     have hj:j<ws.length:=by omega
     have r2:=bM hj;have hlt':(j:Int)+1<ws.length:=by omega
     have hj0:(0:Int)≤(j:Int)+1:=by omega
     rw[Int.natCast_add]at r1 w2;rw[show((1:Nat):Int)=1 from rfl]at r1 w2;have wj:IntKind.i64.wrap (j:Int)=(j:Int):=wrap_i64 (by omega);have hcm:=Gv ws[j] ws[j+1];cases hg:sv ws[j] ws[j+1]with
     |true=>
      rw[hg]at hcm;have hc:¬(0:Int)≤sa ws[j] ws[j+1]:=by have:=hcm.2 rfl;omega
      have hc':sa ws[j] ws[j+1]<0:=hcm.2 rfl;simp[hlt',hj,hj0,r1,r2,w2,wj,hc,hc',aH];exact⟨j+1+1,⟨by omega,fun i hi hik=>by
       by_cases e:i=j;·subst e;exact hg
       ·exact ht i hi (by omega)⟩,by omega,by omega⟩|false=>
      rw[hg]at hcm;have hc:(0:Int)≤sa ws[j] ws[j+1]:=by
       have:¬sa ws[j] ws[j+1]<0:=fun h=>by have:=hcm.1 h;cases this
       omega
      have hw:ia ws=false:=by cases h:ia ws with|false=>rfl|true=>exact absurd (oz.1 h j hlt) (by rw[hg];simp)
      simp[hlt',hj,hj0,r1,r2,w2,wj,hc,hw,aH]
   ·have hke:k=ws.length:=by omega
    subst hke;have hw:ia ws=true:=oz.2 fun i hi=>ht i hi hi;simp[hlt,hw]
 ·cases h
@[simp] noncomputable def LC:List AV→Option (Prop×AV)|[.agg ys]=>jr ys fun x=>some ((x.d.ps.length≤100000∧x.d.vs.length≤100000)∧x.cs.length≤100000∧x.ws.length≤100000,.agg (bj 177 132 86 84 x))|_=>none
theorem Nj:aR Tryz.prog 49 LC:=by
 intro ys φ r h hφ;unfold LC at h;split at h
 ·obtain⟨x,rfl,h2⟩:=dy h;clear h;cases h2;obtain⟨c,t,⟨⟨e,p,i,u,h'⟩,ps,vs,sl⟩,cs,ws⟩:=x;obtain⟨⟨h1,h2⟩,h3,h4⟩:=hφ;have h1:ps.length≤100000:=h1;have h2:vs.length≤100000:=h2;have h3:cs.length≤100000:=h3;have h4:ws.length≤100000:=h4;have h5:ps.length≤100000000:=by omega
  have h6:vs.length≤1000000:=by omega
  have h7:cs.length≤100000000:=by omega
  have h8:ws.length≤100000000:=by omega
  refine aq (af Hy (af Vb (af Vq (af TF aj)))) (by kernel_rfl) (by conv=>lhs;reduce) (by simp) ?_;apply ag;·simp[aH];exact⟨rfl,rfl⟩
  apply ag;·simp[h5,h6];exact⟨rfl,rfl⟩
  apply ag;·simp[h7,h8];exact⟨rfl,rfl⟩
  simp[bj,bC,b6,bh]
 ·cases h
def dL (n:Int):Sc:=⟨n,0,⟨⟨0,0,0,0,false⟩,[],[],false⟩,[],[]⟩
@[simp] noncomputable def GBl:List AV→Option (Prop×AV)|[.pv (.int .u64 n)]=>some (True,.agg [.pv (.int .u64 n),.pv (.int .u64 0),.pv (.int .u64 0),.pv (.int .u64 0),.pv (.int .u64 0),.pv (.int .u64 0),.pv (.bool false),.pv .nil,.pv .nil,.pv (.bool false),.pv .nil,.pv .nil])|_=>none
theorem c_Bl:aR Tryz.prog 17 GBl:=by
 intro ys φ r h hφ;unfold GBl at h;split at h;·cases h;refine aq aj (by kernel_rfl) (by conv=>lhs;reduce) (by simp) ?_;simp
 ·cases h
def b5:List UInt8:=[0,0,0,0,0,0,0,1,0]
theorem lZ {n:Nat} (h:n<128):bd (n:Int)=[n.toUInt8]:=by show bp n=_;rw[cj h]
theorem wR:cV []=([0],0):=by have v0:bd 0=[0]:=lZ (n:=0) (by omega);have hr:db []=true:=rfl;unfold cV;rw[if_pos ⟨hr,rfl⟩];simp[jy,cu,v0]
theorem BX:n5 ⟨⟨0,0,0,0,false⟩,[],[],false⟩=(b5,0):=by have v0:bd 0=[0]:=lZ (n:=0) (by omega);have v1:bd 1=[1]:=lZ (n:=1) (by omega);simp[n5,wR,eQ,cI,c9,lq,bg,dq,v0,v1,cj,b5]
theorem qI:qV ⟨⟨0,0,0,0,false⟩,[],[],false⟩:=by simp[qV,cO,wR]
noncomputable def r5:List UInt8:=fT [⟨12,[5,0,0]++b5⟩]
theorem Zb:cI [5,0,0]=[5,0,0]:=by have v0:bd 0=[0]:=lZ (n:=0) (by omega);have v5:bd 5=[5]:=lZ (n:=5) (by omega);simp[cI,v0,v5]
def EM (e:En):Prop:=0≤e.i∧e.i≤18446744073709551615
def lB (e:En):List UInt8:=dq e.n++bd e.i
def eP (l:List En):List UInt8:=l.flatMap lB
def IP (l:List En):List UInt8:=bd l.length++eP l
def fV (l:List En):List UInt8×Int:=if bk l then(IP l,0) else([],2)
theorem kN {n:Int} (h:0≤n∧n≤18446744073709551615):(bd n).length≤10:=ed (by omega)
theorem sW {e:En} (h:EM e) (hn:e.n.length≤64):(lB e).length≤84:=by have h1:=kN h;have h2:=ed (n:=e.n.length) (by omega);simp only[lB,dq,List.length_append];omega
theorem mS:∀{l:List En},(∀e∈l,EM e∧e.n.length≤64)→(eP l).length≤84*l.length|[],_=>by simp[eP]|n::l,h=>by have h1:=sW (h n (by simp)).1 (h n (by simp)).2;have h2:=mS (l:=l) fun m hm=>h m (by simp[hm]);unfold eP at h2 ⊢;simp only[List.flatMap_cons,List.length_append,List.length_cons];omega
theorem uW (l:List En) (e:En):eP (l++[e])=eP l++lB e:=by simp[eP]
theorem tF {l:List En} (h:bk l=true):∀e∈l,e.n.length≤64:=by intro e he;have:=(((kJ l).1 h).1 e he).1;simp only[eW,Bool.and_eq_true,decide_eq_true_eq]at this;exact this.2
@[simp] noncomputable def C6:List AV→Option (Prop×AV)|[.pv (.ro a)]=>(dec fc a).map fun l=>(l.length≤1000000∧(∀e∈l,EM e),.aS [.fr 5 (bytesRow (fV l).1),.pv (.int .i64 (fV l).2)])|_=>none
theorem MF:aR Tryz.prog 62 C6:=by
 intro ys φ r h hφ;unfold C6 at h;split at h
 ·rename_i ra;obtain⟨a,ha,h⟩:=Option.map_eq_some_iff.1 h;cases h;cases bQ ha;obtain⟨hl,hn⟩:=hφ;refine aq (af N2 (af xw (af Cb aj))) (by kernel_rfl) (by conv=>lhs;reduce) (by simp) ?_;have hl9:a.length≤1000000000:=by omega
  cases hr:bk a with
  |false=>
   have hp:fV a=([],2):=by simp[fV,hr]
   simp[hl9,hr,hp]|true=>
  have hp:fV a=(IP a,0):=by simp[fV,hr]
  have hnm:=tF hr;have wl:IntKind.u64.wrap (a.length:Int)=(a.length:Int):=wrap_u64 (by omega);have l0:(0:Int)≤(a.length:Int):=by omega
  have l1:(a.length:Int)≤18446744073709551615:=by omega
  have hv:=kN (n:=(a.length:Int)) ⟨by omega,by omega⟩;simp[wl,l0,l1,hl9,hr,hp];refine au (fun i:Nat=>i≤a.length) (fun i=>⟨[(4,.own 13),(14,.pv (.ro (aW a))),(15,.pv (.int .i64 a.length)),(16,.pv (.int .i64 i))],[(13,.arr 5 (bytesRow (bd a.length++eP (a.take i))))]⟩) (fun i=>a.length-i) [] 0 (by simp) ?_ ?_;·simp[eP]
  ·rintro i hi;have w2:IntKind.i64.wrap ((i:Int)+1)=(i:Int)+1:=wrap_i64 (by omega);by_cases hlt:i<a.length
   ·have r1:=dE hlt;have ho:=hn _ (List.getElem_mem hlt);have hm:=hnm _ (List.getElem_mem hlt);have h1:=sW ho hm;have h2:=mS (l:=a.take i) fun n h=>⟨hn n (List.mem_of_mem_take h),hnm n (List.mem_of_mem_take h)⟩;rw[List.length_take]at h2;have h3:(lB a[i]).length=(dq a[i].n).length+(bd a[i].i).length:=by simp[lB]
    have hm6:a[i].n.length≤1000000:=by omega
    obtain⟨o1,o2⟩:=ho;simp[w2,hlt,r1,aw,o1,o2,hm6];refine⟨⟨by omega,by omega,aL _⟩,⟨by omega,by omega,aL _⟩,i+1,by omega,⟨by omega,?_⟩,by omega⟩;rw[List.take_succ_eq_append_getElem hlt,uW];simp only[aM,lB,List.append_assoc]
   ·simp[hlt];rw[List.take_of_length_le (by omega)];rfl
 ·cases h
theorem J9:aR Tryz.prog 38 C6:=by
 intro ys φ r h hφ;unfold C6 at h;split at h
 ·rename_i ra;obtain⟨a,ha,h⟩:=Option.map_eq_some_iff.1 h;cases h;cases bQ ha;obtain⟨hl,hn⟩:=hφ;refine aq (af Mn (af nD (af xL aj))) (by kernel_rfl) (by conv=>lhs;reduce) (by simp) ?_;have hl9:a.length≤1000000000:=by omega
  cases hr:bk a with
  |false=>
   have hp:fV a=([],2):=by simp[fV,hr]
   simp[hl9,hr,hp]|true=>
  have hp:fV a=(IP a,0):=by simp[fV,hr]
  have hnm:=tF hr;have wl:IntKind.u64.wrap (a.length:Int)=(a.length:Int):=wrap_u64 (by omega);have l0:(0:Int)≤(a.length:Int):=by omega
  have l1:(a.length:Int)≤18446744073709551615:=by omega
  have hv:=kN (n:=(a.length:Int)) ⟨by omega,by omega⟩;simp[wl,l0,l1,hl9,hr,hp];refine au (fun i:Nat=>i≤a.length) (fun i=>⟨[(0,.pv (.ro (aW a))),(4,.own 12),(5,.pv (.int .i64 i))],[(12,.arr 5 (bytesRow (bd a.length++eP (a.take i))))]⟩) (fun i=>a.length-i) [] 0 (by simp) ?_ ?_;·simp[eP]
  ·rintro i hi;have w2:IntKind.i64.wrap ((i:Int)+1)=(i:Int)+1:=wrap_i64 (by omega);by_cases hlt:i<a.length
   ·have r1:=dE hlt;have ho:=hn _ (List.getElem_mem hlt);have hm:=hnm _ (List.getElem_mem hlt);have h1:=sW ho hm;have h2:=mS (l:=a.take i) fun n h=>⟨hn n (List.mem_of_mem_take h),hnm n (List.mem_of_mem_take h)⟩;rw[List.length_take]at h2;have h3:(lB a[i]).length=(dq a[i].n).length+(bd a[i].i).length:=by simp[lB]
    have hm6:a[i].n.length≤1000000:=by omega
    obtain⟨o1,o2⟩:=ho;simp[w2,hlt,r1,aw,o1,o2,hm6];refine⟨⟨by omega,by omega,aL _⟩,⟨by omega,by omega,aL _⟩,i+1,by omega,⟨by omega,?_⟩,by omega⟩;rw[List.take_succ_eq_append_getElem hlt,uW];simp only[aM,lB,List.append_assoc]
   ·simp[hlt];rw[List.take_of_length_le (by omega)];rfl
 ·cases h
def si:Dc:=⟨⟨0,0,0,0,false⟩,[],[],false⟩
noncomputable def ej (x:Sc):List UInt8×Int:=if x.c=0∧x.d=si then fV x.cs else if x.c≠0∧x.cs=[] then n5 x.d else([],2)
def FR (x:Sc):Prop:=qV x.d∧x.cs.length≤1000000∧∀e∈x.cs,EM e
@[simp] noncomputable def Vi:List AV→Option (Prop×AV)|[.agg ys]=>jr ys fun x=>some (FR x,.aS [.fr 5 (bytesRow (ej x).1),.pv (.int .i64 (ej x).2)])|_=>none
theorem ZM:aR Tryz.prog 31 Vi:=by
 intro ys φ r h hφ;unfold Vi at h;split at h
 ·obtain⟨x,rfl,h2⟩:=dy h;clear h;cases h2;obtain⟨c,t,⟨⟨e,p,i,u,h'⟩,ps,vs,sl⟩,cs,ws⟩:=x;obtain⟨ok,h1,h2⟩:=hφ;have hps:ps.length≤1000000000:=by have:ps.length≤1000:=ok.2.2.1;omega
  have hvs:vs.length≤1000000000:=by have:vs.length≤1000:=ok.1;omega
  have h1:cs.length≤1000000:=h1;have h2:(∀e∈cs,EM e)=True:=eq_true h2;have ok:qV ⟨⟨e,p,i,u,h'⟩,ps,vs,sl⟩=True:=eq_true ok;have hi:(Tryz.prog.info? 5).isSome=true:=by kernel_rfl
  refine aq (af c_SD (af MF (af PD aj))) (by kernel_rfl) (by conv=>lhs;reduce) (by simp) ?_;apply ag;·simp[aH];exact⟨rfl,rfl⟩
  by_cases hc:c=0
  ·by_cases hd:(⟨⟨e,p,i,u,h'⟩,ps,vs,sl⟩:Dc)=si
   ·have hb:ej ⟨c,t,⟨⟨e,p,i,u,h'⟩,ps,vs,sl⟩,cs,ws⟩=fV cs:=by unfold ej;rw[if_pos ⟨hc,hd⟩]
    rw[hb];have hd:(⟨⟨e,p,i,u,h'⟩,ps,vs,sl⟩:Dc)=⟨⟨0,0,0,0,false⟩,[],[],false⟩:=hd;have hd':=decide_eq_true hd;rw[dV];apply ag;·simp[-decide_eq_true_eq,-Dc.mk.injEq,-Ls.mk.injEq,hc,hps,hvs,hd'];exact⟨rfl,rfl⟩
    apply cz rfl;simp[h1,h2]
   ·have hb:ej ⟨c,t,⟨⟨e,p,i,u,h'⟩,ps,vs,sl⟩,cs,ws⟩=([],2):=by unfold ej;rw[if_neg (fun h=>hd h.2),if_neg (fun h=>h.1 hc)]
    rw[hb];have hd:¬(⟨⟨e,p,i,u,h'⟩,ps,vs,sl⟩:Dc)=⟨⟨0,0,0,0,false⟩,[],[],false⟩:=hd;have hd':=decide_eq_false hd;apply ag
    ·apply ag;·simp[-decide_eq_false_iff_not,-Dc.mk.injEq,-Ls.mk.injEq,hc,hps,hvs,hd',hd];exact⟨rfl,rfl⟩
     apply c8 rfl;simp;exact⟨rfl,rfl⟩
    apply ag
    ·apply ag;·simp[hc];exact⟨rfl,rfl⟩
     apply c8 rfl;simp;exact⟨rfl,rfl⟩
    simp[hi]
  ·apply ag
   ·apply ag;·simp[hc,hps,hvs];exact⟨rfl,rfl⟩
    apply c8 rfl;simp;exact⟨rfl,rfl⟩
   by_cases hn:cs=[]
   ·have hb:ej ⟨c,t,⟨⟨e,p,i,u,h'⟩,ps,vs,sl⟩,cs,ws⟩=n5 ⟨⟨e,p,i,u,h'⟩,ps,vs,sl⟩:=by unfold ej;rw[if_neg (fun h=>hc h.1),if_pos ⟨hc,hn⟩]
    rw[hb];subst hn;rw[dV];apply ag;·simp[hc];exact⟨rfl,rfl⟩
    apply cz rfl;simp[ok]
   ·have hb:ej ⟨c,t,⟨⟨e,p,i,u,h'⟩,ps,vs,sl⟩,cs,ws⟩=([],2):=by unfold ej;rw[if_neg (fun h=>hc h.1),if_neg (fun h=>hn h.2)]
    rw[hb];apply ag
    ·apply ag;·simp[hc,hn];exact⟨rfl,rfl⟩
     apply c8 rfl;simp;exact⟨rfl,rfl⟩
    simp[hi]
 ·cases h
theorem vN {b:List UInt8}{p:Nat} (h:(ah b (p:Int)).2.2=0):∃q:Nat,(ah b (p:Int)).2.1=(q:Int)∧q=p+(bd (ah b (p:Int)).1).length∧b.drop p=bd (ah b (p:Int)).1++b.drop q:=by
 obtain⟨q,m,h1,h2,_,h4,r,h5⟩:=gO h;obtain rfl:q=p:=by omega
 have hv:bd (ah b (q:Int)).1=bp m:=by rw[h2];rfl
 refine⟨q+(bp m).length,h4,by rw[hv],?_⟩;rw[hv,h5,←List.drop_drop,h5,List.drop_left]
theorem kG {b:List UInt8}:∀(k p:Nat),(ar b k (p:Int)).2.2=0→∃q:Nat,(ar b k (p:Int)).2.1=(q:Int)∧q=p+(cI (ar b k (p:Int)).1).length∧b.drop p=cI (ar b k (p:Int)).1++b.drop q
 |0,p,_=>⟨p,rfl,by simp[ar,cI],by simp[ar,cI]⟩|k+1,p,h=>by
  unfold ar at h ⊢;split at h;·rename_i h1;exact absurd h h1
  ·rename_i h1;rw[if_neg h1];have h1:(ah b (p:Int)).2.2=0:=by simpa using h1
   obtain⟨q,e1,e2,e3⟩:=vN h1;rw[e1]at h ⊢;split at h;·rename_i h2;exact absurd h h2
   ·rename_i h2;rw[if_neg h2];have h2:(ar b k (q:Int)).2.2=0:=by simpa using h2
    obtain⟨s,f1,f2,f3⟩:=kG k q h2;have hc:cI ((ah b (p:Int)).1::(ar b k (q:Int)).1)=bd (ah b (p:Int)).1++cI (ar b k (q:Int)).1:=by simp[cI]
    refine⟨s,f1,?_,?_⟩;·show s=p+(cI ((ah b (p:Int)).1::(ar b k (q:Int)).1)).length;rw[hc,List.length_append];omega
    ·show b.drop p=cI ((ah b (p:Int)).1::(ar b k (q:Int)).1)++b.drop s;rw[hc,List.append_assoc,←f3,←e3]
theorem nO {b:List UInt8}:∀(f:Nat) (n:Int) (p:Nat),(az b f n (p:Int)).2.2=0→(b.length:Int)<f+p→p≤b.length→∃q:Nat,(az b f n (p:Int)).2.1=(q:Int)∧q=p+(bg (az b f n (p:Int)).1).length∧b.drop p=bg (az b f n (p:Int)).1++b.drop q∧((az b f n (p:Int)).1.length:Int)=max n 0∧∀e∈(az b f n (p:Int)).1,fR e
 |0,n,p,_,hf,hp=>by omega|f+1,n,p,h,hf,hp=>by
  unfold az at h ⊢;split at h;·rename_i h0;rw[if_pos h0];exact⟨p,rfl,by simp[bg],by simp[bg],by simp;omega,fun e he=>by cases he⟩
  ·rename_i h0;rw[if_neg h0];split at h;·rename_i h1;exact absurd h h1
   ·rename_i h1;rw[if_neg h1];have h1:(ar b 3 (p:Int)).2.2=0:=by simpa using h1
    obtain⟨x,y,z,hx,o1,o2,o3⟩:=eB h1;obtain⟨q,e1,e2,e3⟩:=kG 3 p h1;obtain⟨_,_,i3,i4⟩:=dp b 3 p h1;rw[e1]at h i3 i4 ⊢;split at h;·rename_i h2;exact absurd h h2
    ·rename_i h2;rw[if_neg h2];have h2:(az b f (n-1) (q:Int)).2.2=0:=by simpa using h2
     obtain⟨s,f1,f2,f3,f4,f5⟩:=nO f (n-1) q h2 (by omega) (by have:=(i4 (by omega)).2;omega);have hc:bg (iD (ar b 3 (p:Int)).1::(az b f (n-1) (q:Int)).1)=cI (ar b 3 (p:Int)).1++bg (az b f (n-1) (q:Int)).1:=by
      rw[hx];have h9:∀e l,bg (e::l)=Ai e++bg l:=fun e l=>by simp[bg]
      rw[h9,←j5];rfl
     refine⟨s,f1,?_,?_,?_,?_⟩;·show s=p+(bg (iD (ar b 3 (p:Int)).1::(az b f (n-1) (q:Int)).1)).length;rw[hc,List.length_append];omega
     ·show b.drop p=bg (iD (ar b 3 (p:Int)).1::(az b f (n-1) (q:Int)).1)++b.drop s;rw[hc,List.append_assoc,←f3,←e3]
     ·show(((iD (ar b 3 (p:Int)).1::(az b f (n-1) (q:Int)).1).length:Nat):Int)=max n 0;simp only[List.length_cons];omega
     ·intro e he;rcases List.mem_cons.1 he with rfl|he;·rw[hx];exact⟨o1,o2,o3⟩
      ·exact f5 e he
theorem EH {b:List UInt8}{p:Nat} (h:(cm b (p:Int)).2.2=0):∃q:Nat,(cm b (p:Int)).2.1=(q:Int)∧q=p+(lq (cm b (p:Int)).1).length∧b.drop p=lq (cm b (p:Int)).1++b.drop q∧eQ (cm b (p:Int)).1=true∧(∀e∈(cm b (p:Int)).1,fR e)∧q≤b.length:=by
 have hle:=sQ b p h;unfold cm at h hle ⊢;split at h;·rename_i h1;exact absurd h h1
 ·rename_i h1;rw[if_neg h1]at hle ⊢;have h1:(ah b (p:Int)).2.2=0:=by simpa using h1
  obtain⟨q,e1,e2,e3⟩:=vN h1;obtain⟨k1,k2,k3,_⟩:=bT b p;have k1:=k1 h1;rw[e1]at h hle k1 ⊢;split at h;·rename_i h2;exact absurd h h2
  ·rename_i h2;rw[if_neg h2]at hle ⊢;have h2:(az b (b.length+1) (ah b (p:Int)).1 (q:Int)).2.2=0:=by simpa using h2
   obtain⟨s,f1,f2,f3,f4,f5⟩:=nO (b.length+1) _ q h2 (by omega) (by omega);split at h;·cases h
   ·rename_i h3;rw[if_neg h3]at hle ⊢;have h3:eQ (az b (b.length+1) (ah b (p:Int)).1 (q:Int)).1=true:=by simpa using h3
    have hn:(ah b (p:Int)).1=((az b (b.length+1) (ah b (p:Int)).1 (q:Int)).1.length:Int):=by omega
    have hp:lq (az b (b.length+1) (ah b (p:Int)).1 (q:Int)).1=bd (ah b (p:Int)).1++bg (az b (b.length+1) (ah b (p:Int)).1 (q:Int)).1:=by unfold lq;rw[←hn]
    rw[f1]at hle;refine⟨s,f1,by rw[hp,List.length_append];omega,by rw[hp,List.append_assoc,←f3,←e3],h3,f5,by omega⟩
theorem wI {x:Int} (h0:0≤x) (h1:¬1<x):c9 (decide (x=1))=x:=by rcases(show x=0∨x=1 by omega) with rfl|rfl<;>rfl
theorem Cq {b:List UInt8} (hb:b.length≤900) (h:(cS b).2=0):n5 (cS b).1=(b,0)∧qV (cS b).1:=by
 have hA:=pG b;unfold cS at h ⊢;split at h;·rename_i h1;exact absurd h h1
 rename_i h1;rw[if_neg h1];have h1:(aQ b 0 6).2.2=0:=by simpa using h1
 obtain⟨x0,x1,x2,x3,x4,x5,hx,k1,k2⟩:=hA h1;have hG:(ar b 6 0).2.2=0∧aQ b 0 6=ar b 6 0:=by
  unfold aQ at h1 ⊢;split at h1;·rename_i h2;exact absurd h1 h2
  ·rename_i h2;exact⟨h1,if_neg h2⟩
 obtain⟨g1,g2⟩:=hG;obtain⟨_,o1,_⟩:=dp b 6 0 g1;obtain⟨a,e1,e2,e3⟩:=kG 6 0 g1;rw[g2]at h k1 k2 hx ⊢;rw[show((0:Nat):Int)=0 from rfl]at e1 e2 e3;rw[hx]at o1 e2 e3 h ⊢;rw[e1]at h k1 k2 ⊢;have ox0:=o1 x0 (by simp);have ox1:=o1 x1 (by simp);have ox2:=o1 x2 (by simp);have ox3:=o1 x3 (by simp);have ox4:=o1 x4 (by simp);have ox5:=o1 x5 (by simp);split at h;·rename_i h2;exact absurd h h2
 rename_i h2;rw[if_neg h2];have h2:(cm b (a:Int)).2.2=0:=by simpa using h2
 obtain⟨q,f1,f2,f3,f4,f5,f6⟩:=EH h2;have f7:=wF b (a:Int);rw[f1]at h ⊢;split at h;·cases h
 rename_i h3;rw[if_neg h3];have h34:¬1<x4:=fun hh=>h3 (Or.inl hh);have h35:¬1<x5:=fun hh=>h3 (Or.inr hh);split at h;·rename_i h4;exact absurd h h4
 rename_i h4;rw[if_neg h4];have h4:(ay b (q:Int)).2.2=0:=by simpa using h4
 obtain⟨q',i1,i2,r,i3⟩:=kf h4;obtain rfl:q'=q:=by omega
 rw[i2]at h ⊢;split at h;·cases h
 rename_i h5;rw[if_neg h5];split at h;·rename_i h6;exact absurd h h6
 rename_i h6;rw[if_neg h6];have h6:(cf (ay b (q':Int)).1).2=0:=by simpa using h6
 obtain⟨v1,v2,v3,v4⟩:=nT h6;have v5:=E3 h6;have v6:=kp b q' h4;have hr:r=[]:=by have:=congrArg List.length i3;rw[List.length_drop,List.length_append]at this;exact List.eq_nil_of_length_eq_zero (by omega)
 subst hr;generalize cf (ay b (q':Int)).1=V at*;obtain⟨vs,ev⟩:=V;generalize cm b (a:Int)=Q at*;obtain⟨ps,q2,eq2⟩:=Q;have hvt:cV vs=(jy vs,0):=by unfold cV;rw[if_pos ⟨v1,Hl v3⟩]
 have hbb:b=cI [x0,x1,x2,x3,x4,x5]++(lq ps++dq (jy vs)):=by have v2:jy vs=(ay b (q':Int)).1:=v2;rw[v2];rw[List.append_nil]at i3;rw[←i3,←f3,←e3];rfl
 refine⟨?_,?_⟩;·unfold n5;have f4:eQ ps=true:=f4;show(if(cV vs).2≠0∨eQ ps=false then([],2) else(cI [x0,x1,x2,x3,c9 (decide (x4=1)),c9 (decide (x5=1))]++(lq ps++dq (cV vs).1),0))=(b,0);rw[hvt,wI ox4.1 h34,wI ox5.1 h35,if_neg (by simp[f4])];exact congrArg (fun l=>(l,(0:Int))) hbb.symm
 ·refine⟨?_,fun v hv=>⟨(v3 v hv).1,?_⟩,?_,f5,⟨ox0,ox1,ox2,ox3⟩,?_⟩;·show vs.length≤1000;have v4:vs.length≤(ay b (q':Int)).1.length:=v4;omega
  ·have:=v5 v hv;omega
  ·show ps.length≤1000;have f7:ps.length≤b.length+1:=f7;omega
  ·show(cV vs).1.length≤100000;rw[hvt];have v2:jy vs=(ay b (q':Int)).1:=v2;show(jy vs).length≤100000;rw[v2];omega
end Go.Proofs.YtifcndkhigakfaaGreat.Ab
