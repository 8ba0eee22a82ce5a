/- The abstract machine is sound, ninth part: one operation. -/
import Derived.Test.YtifcndkhigakfaaGreatY7
set_option linter.unusedVariables false
set_option linter.unusedSimpArgs false
set_option linter.unnecessarySimpa false
set_option maxHeartbeats 40000000
set_option maxRecDepth 100000
set_option linter.defProp false
namespace Go.Proofs.YtifcndkhigakfaaGreat.Ab
open Go Go.RowKit
def q109:=@Nat.mod_eq_of_lt
def q125:=@Bool.not_eq_true'
def q132:=@Bool.or_eq_true
def q207:=@List.append_eq_nil_iff
def q208:=@List.length_eq_one_iff
def q215:=@List.singleton_append
def q250:=@List.contains_eq_mem
def q276:=@Nat.add_mul_mod_self_left
def q283:=@Oper.wp_mono
def q293:=@List.head?_cons
end Go.Proofs.YtifcndkhigakfaaGreat.Ab
namespace Go.Proofs.YtifcndkhigakfaaGreat.Ab
open Go Go.RowKit
variable {f:FuncId}{ys:List AV}{φ:Prop}{r v:AV}{S D:Nat->Prop}{Q:Exit->Act->World->Prop}{argTypes:Array TypeId}{ops:Array Oper}{C:bR->Prop}{w':World}
def jk {P:Program} (h:gz P f=true):f<P.funcs.size:=by
 unfold gz at h;split at h;·rename_i fn hfn;exact(q67.1 hfn).1
 ·cases h
def uW:AK->Bool|.ex (.IS _ _ _)=>true|.qE|.pick|.iU _|.box|.alloc _|.uF _ _|.call _|.mV|.store _|.app _ _ _|.qP _|.LA _ _ _|.ex _=>false|_=>true
def FU {x:XK}{aa:Nat->Option AO} (h:uW (.ex x)=false) (hb:∀e sz,x≠.pj e sz):al (.ex x) ys aa=none:=by unfold al;split<;>first|rfl|simp_all[uW]
section
variable{P:Program}{Γ:b7}{S0 L:Nat->Prop}{B0:Nat->Value}{w0 w:World}{N:Nat}{st:St}{a:Act}{β:Nat->Value}{o:Oper}{k:AK}{xs:List Operand}
def Rel.ev (h:Rel P S0 L B0 w0 N st a w β) (z:Operand):RV P (bn S0 w0.heap.size β st.aa w) w β (aE st.aa) (a.eval z) (ev st.vars z):=KL h.vars z
def Rel.eo (h:Rel P S0 L B0 w0 N st a w β) (z:Operand) (ha:asks (Ab.ev st.vars z)):RV P (bn S0 w0.heap.size β st.aa w) w β (aE st.aa) (a.eval z) (strip (Ab.ev st.vars z)):=(h.ev z).strip ha
def JV (h:Rel P S0 L B0 w0 N st a w β) (hc:iT P o=some (k,xs)) (hk:uW k=true) (ha:aw (xs.map (ev st.vars)))  (hs:al k ((xs.map (ev st.vars)).map strip) st.aa=some (φ,v)) (hφ:φ):∃r,(execOp a.eval o).run P w=.ok (.value r) w/\RV P (bn S0 w0.heap.size β st.aa w) w β (aE st.aa) r v:=by
 rcases eI hc with hc|⟨x,rfl,hx⟩;rotate_left;·cases x with
  |IS s z ok=>obtain⟨t,m,k,kt,et,ho,hm,hsr,hz,rfl⟩:=Ih hx;have h1:=h.eo m ha.1;have h2:=h.eo k ha.2.1;simp only[q74,q119]at hs;generalize strip (Ab.ev st.vars m)=X at h1 hs;generalize strip (Ab.ev st.vars k)=Y at h2 hs;cases X with
   |pv p=>cases Y with
    |pv q=>cases p with|mv es=>simp only[al,qr,q69]at hs;obtain⟨rfl,rfl⟩:=hs;exact q_gev ho hm hsr hz hφ.1 h1 h2 hφ.2.1 hφ.2.2|_=>simp[al]at hs
    |_=>cases p<;>simp[al]at hs
   |_=>simp[al]at hs
  |_=>simp[uW]at hk
 unfold iG at hc;split at hc;·
  split at hc
  ·split at hc
   ·split at hc;·cases hc;simp[uW]at hk
    ·cases hc
   ·cases hc
  ·cases hc;simp[uW]at hk
 ·split at hc
  ·split at hc
   ·split at hc;·cases hc;simp[uW]at hk
    ·cases hc
   ·cases hc
  ·cases hc;simp[uW]at hk
 ·cases hc;simp[uW]at hk
 ·obtain⟨zs,_,he⟩:=q900.1 hc;cases he;simp[uW]at hk
 ·cases hc;simp[uW]at hk
 ·rename_i t ps ho;split at hc
  ·rename_i zs fs hz hu;split at hc;·cases hc
   ·rename_i hall;obtain⟨l,hl,he⟩:=q900.1 hc;cases he;exact q_bld ho hz hu (Bool.of_not_eq_false hall) hl h.heap h.eo ha hs hφ
  ·cases hc
 ·split at hc
  ·split at hc
   ·split at hc;·cases hc;simp[uW]at hk
    ·cases hc
   ·cases hc
  ·cases hc
 ·rename_i t x ho;obtain⟨n,hn,he⟩:=q900.1 hc;cases he;cases n with|none=>exact GH ho hn h.heap (h.eo x ha.1) hs hφ|some n=>exact GJ ho hn h.heap (h.eo x ha.1) hs hφ
 ·split at hc
  ·split at hc;·cases hc;simp[uW]at hk
   ·cases hc
  ·cases hc;simp[uW]at hk
  ·cases hc
 ·rename_i op t x y yt ho;split at hc
  ·rename_i hu;split at hc;·cases hc;exact PA (ne:=false) ho hu (h.eo x ha.1) (h.eo y ha.2.1) hs hφ
   ·cases hc;exact PA (ne:=true) ho hu (h.eo x ha.1) (h.eo y ha.2.1) hs hφ
   ·cases hc
  ·cases hc;exact Pr ho (h.eo x ha.1) (h.eo y ha.2.1) hs hφ
  ·cases hc;exact Pr ho (h.eo x ha.1) (h.eo y ha.2.1) hs hφ
  ·rename_i fs hu;split at hc
   ·rename_i ks hks;split at hc
    ·rename_i hcond;split at hc;·cases hc;exact On h.uL.2 (ne:=false) ho hu hks hcond (h.eo x ha.1) (h.eo y ha.2.1) hs hφ
     ·cases hc;exact On h.uL.2 (ne:=true) ho hu hks hcond (h.eo x ha.1) (h.eo y ha.2.1) hs hφ
     ·cases hc
    ·cases hc
   ·cases hc
  ·cases hc
 ·rename_i t x ho;cases hc;exact abu ho (h.eo x ha.1) hs hφ
 ·rename_i t x ho;cases hc;exact aa7 ho (h.eo x ha.1) hs hφ
 ·rename_i src dst x ho;split at hc;·rename_i k0 k1 hsr hds;cases hc;exact ZS ho hsr hds (h.eo x ha.1) hs hφ
  ·rename_i hsr hds;cases hc;exact q_scv ho hsr hds (h.eo x ha.1) hs hφ
  ·rename_i e hsr hds;split at hc;·rename_i he;cases hc;exact SQ ho hsr he hds h.heap (h.eo x ha.1) hs
   ·cases hc
  ·split at hc;·cases hc;simp[uW]at hk
   ·cases hc
  ·cases hc
 ·rename_i s x i ho;split at hc
  ·rename_i fs hu;split at hc
   ·rename_i f hf;split at hc;·rename_i n hsz;cases hc;exact q_fad ho hu hf hsz (h.eo x ha.1) hs hφ
    ·cases hc
   ·cases hc
  ·cases hc
 ·rename_i s x i ho;split at hc
  ·rename_i fs hu;split at hc;·rename_i f hf;obtain⟨n,hn,he⟩:=q900.1 hc;cases he;cases n with|none=>exact TV ho hu hf hn (h.eo x ha.1) hs hφ|some n=>exact TM ho hu hf hn (h.eo x ha.1) hs hφ
   ·cases hc
  ·cases hc
 ·rename_i t x y ho;split at hc;·rename_i e hu;obtain⟨sz,hsz,he⟩:=q900.1 hc;cases he;exact ZH ho hu hsz h.heap (h.eo x ha.1) (h.eo y ha.2.1) hs hφ
  ·rename_i n e hu;obtain⟨sz,hsz,he⟩:=q900.1 hc;cases he;exact q_ixp ho hu hsz (h.eo x ha.1) (h.eo y ha.2.1) hs hφ
  ·cases hc
 ·rename_i t x y ho;split at hc;·rename_i hu;cases hc;exact Sp ho hu (h.eo x ha.1) (h.eo y ha.2.1) hs hφ
  ·cases hc
 ·rename_i t x lo hi ho;split at hc;·rename_i hu;cases hc;simp only[q215,q137,q153,q74,aw]at ha hs;exact q_ssl ho hu h.eo (h.eo x ha.1) ha.2 hs hφ
  ·rename_i e hu;obtain⟨sz,hsz,he⟩:=q900.1 hc;cases he;simp only[q215,q137,q153,q74,aw]at ha hs;exact q_slc ho hu hsz h.heap h.eo (h.eo x ha.1) ha.2 hs hφ
  ·cases hc
 ·rename_i x i ho;cases hc;exact aaF ho (h.eo x ha.1) hs hφ
 ·rename_i x ho;cases hc;exact ZQ ho (h.eo x ha.1) hs hφ
 ·rename_i f first caps ho;split at hc
  ·rename_i hf;have hf':first=#[]:=by apply q117;simpa using hf
   subst hf';cases hc;exact q_mkf ho h.eo ha hs hφ
  ·cases hc
 ·rename_i c ho;obtain⟨callee,args,argTypes⟩:=c;unfold iQ at hc;simp only at hc;split at hc
  ·rename_i b;unfold dF at hc;split at hc;·
    rename_i x t hx ht;have hx':args=#[x]:=by apply q117;simpa using hx
    have ht':argTypes=#[t]:=by apply q117;simpa using ht
    subst hx' ht';split at hc;·rename_i hu;cases hc;exact Rs ho hu (h.eo x ha.1) hs hφ
    ·rename_i e hu;cases hc;exact q_len ho hu h.heap (h.eo x ha.1) hs hφ
    ·cases hc
   ·split at hc
    ·split at hc
     ·split at hc;·cases hc;simp[uW]at hk
      ·cases hc
     ·cases hc
    ·split at hc
     ·split at hc;·cases hc;simp[uW]at hk
      ·cases hc
     ·cases hc
    ·cases hc
   ·rename_i x y t t' hx ht;have hx':args=#[x,y]:=by apply q117;simpa using hx
    have ht':argTypes=#[t,t']:=by apply q117;simpa using ht
    subst hx' ht';cases hc;exact Pu (mx:=false) ho (h.eo x ha.1) (h.eo y ha.2.1) hs
   ·rename_i x y t t' hx ht;have hx':args=#[x,y]:=by apply q117;simpa using hx
    have ht':argTypes=#[t,t']:=by apply q117;simpa using ht
    subst hx' ht';cases hc;exact Pu (mx:=true) ho (h.eo x ha.1) (h.eo y ha.2.1) hs
   ·repeat'(split at hc)
    all_goals first|(cases hc;simp[uW]at hk;done)|cases hc
   ·cases hc
  ·split at hc;·cases hc;simp[uW]at hk
   ·cases hc
  ·cases hc;simp[uW]at hk
  ·cases hc
 ·cases hc
def aY {K:Act->World->Prop}{r:Value} (hr:(execOp a.eval o).run P w=.ok (.value r) w') (hK:K (a.put o.dst r) w'):o.wp P a w K Q:=by unfold Oper.wp;rw[hr];exact hK
def mn {K:Act->World->Prop} (hr:(execOp a.eval o).run P w=.ok .skip w') (hK:K (a.put o.dst undef) w'):o.wp P a w K Q:=by unfold Oper.wp;rw[hr];exact hK
def dV {K:Act->World->Prop}{args:Array Value} (hr:(execOp a.eval o).run P w=.ok (.enter f args) w') (hK:Calls P f args w' fun e w''=>∃v,e=.returned v/\K (a.put o.dst v) w''):o.wp P a w K Q:=by unfold Oper.wp;rw[hr];refine Calls.mono hK ?_;rintro e w'' ⟨v,rfl,h⟩;exact h
def af {α:Type}{q:Option α}{K:α->Prop} (h:aj q K):∃x,q=some x/\K x:=by cases q with|none=>exact h.elim|some x=>exact⟨x,rfl,h⟩
def Kz {x:Operand} (h:gi x=true):a.eval x=.slice none 0 0:=by
 unfold gi at h;split at h;·rfl
 ·cases h
def j6 {args:Array Operand} (ho:o.op=.call {callee:=.value (.func f),args:=args,argTypes:=argTypes}) (hf:gz P f=true):(execOp a.eval o).run P w=.ok (.enter f (args.map a.eval)) w:=by
 unfold gz at hf;split at hf
 ·rename_i fn hfn;simp only[q71,bne_iff_ne,ne_eq]at hf;have hn:=hf.1;have hb:¬fn.body=none:=fun e=>by rw[e]at hf;simp at hf
  simp[execOp,ho,resolve,Act.eval,Deferred.ofValue,invoke,callFunc,hfn,hn,hb]
 ·cases hf
def kV (h:Rel P S0 L B0 w0 N st a w β):∀(l:List Operand),aw (l.map (Ab.ev st.vars))->∀(i:Nat) (v:Value) (x:AV),(l.map a.eval)[i]?=some v->((l.map (Ab.ev st.vars)).map strip)[i]?=some x->RV P (bn S0 w0.heap.size β st.aa w) w β (aE st.aa) v x:=by intro l ha i v x hv hx;rw[q79,q900]at hv;obtain⟨z,hz,rfl⟩:=hv;simp only[q79,hz,q121,qr]at hx;subst hx;exact h.eo z (rH l i z ha hz)
def wG {args:Array Operand} (h:Rel P S0 L B0 w0 N st a w β) {d:Nat} (hd9:d%1000≠999) (ho:o.op=.call {callee:=.value (.func f),args:=args,argTypes:=argTypes}) (hf:gz P f=true)  (ha:aw (args.toList.map (Ab.ev st.vars))) (hre:gB st.aa ((args.toList.map (Ab.ev st.vars)).map strip)=some ys) (hcon:Su P f ys r) (hpf:fB ((args.toList.map (Ab.ev st.vars)).map strip)=true\/tN r) (hfree:∀x∈ly d r,st.aa x.1=none) (hres:BX d r=true) {K:Act->World->Prop} (hK:∀v w' β',Rel P S0 L B0 w0 N ⟨st.vars,bK (ly d r) st.aa⟩ a w' β'->RV P (bn S0 w0.heap.size β' (bK (ly d r) st.aa) w') w' β' (aE (bK (ly d r) st.aa)) v (CO d r)->K (a.put o.dst v) w'):o.wp P a w K Q:=by
 refine dV (j6 ho hf) ?_;have hv:args.map a.eval=(args.toList.map a.eval).toArray:=by apply q117;simp
 rw[hv];refine(nt (a:=a) h hd9 (by simp) (kV h args.toList ha) hre hcon hpf hfree hres).mono ?_;rintro e w' ⟨v,β',rfl,hR,hrv⟩;exact⟨v,rfl,hK v w' β' hR hrv⟩
def EN (h:Rel P S0 L B0 w0 N st a w β) {c x y:Operand} (ho:o.op=.pick c x y)  (hs:vt [Ab.ev st.vars c,Ab.ev st.vars x,Ab.ev st.vars y]=some (φ,v)) (hφ:φ):∃r,(execOp a.eval o).run P w=.ok (.value r) w/\RV P (bn S0 w0.heap.size β st.aa w) w β (aE st.aa) r v:=by
 simp only[vt,qB,q900]at hs;obtain⟨b,hb,r,hs,hr⟩:=hs;cases hr;obtain⟨hca,hφ⟩:=hφ;obtain⟨φ,v⟩:=r;have hc:=(h.ev c).strip hca;have hX:=h.ev x;have hY:=h.ev y;generalize strip (Ab.ev st.vars c)=C at hb hc;have hce:a.eval c=.bool b:=by cases C with|pv p=>cases p<;>simp[jX]at hb;subst hb;exact hc.fj|_=>simp[jX]at hb
 unfold sW at hs;split at hs;·rename_i p q hp hq;simp only[qr,q69]at hs;obtain⟨rfl,rfl⟩:=hs;cases b with|true=>have hx:=hX.strip (hφ.1 rfl);rw[hp]at hx;exact⟨a.eval x,by simp[execOp,ho,hce,asBool],by simpa using hx⟩|false=>have hy:=hY.strip (hφ.2 rfl);rw[hq]at hy;exact⟨a.eval y,by simp[execOp,ho,hce,asBool],by simpa using hy⟩
 ·rename_i p hp _;simp only[qr,q69]at hs;obtain⟨rfl,rfl⟩:=hs;obtain⟨rfl,hφ⟩:=hφ;have hx:=hX.strip hφ;rw[hp]at hx;exact⟨a.eval x,by simp[execOp,ho,hce,asBool],hx⟩
 ·rename_i q hq _;simp only[qr,q69]at hs;obtain⟨rfl,rfl⟩:=hs;obtain⟨rfl,hφ⟩:=hφ;have hy:=hY.strip hφ;rw[hq]at hy;exact⟨a.eval y,by simp[execOp,ho,hce,asBool],hy⟩
 ·cases hs
def Bo (hΓ:eG P Γ) (h:Rel P S0 L B0 w0 N st a w β) (hc:iT P o=some (k,xs)) (hd:∀s,o.dst=some s->s<N) (hs:bf P Γ o.dst k (xs.map (Ab.ev st.vars)) st.aa C):o.wp P a w (fun a' w'=>∃e β',C e/\Rel P S0 L B0 w0 N (e.on o.dst st) a' w' β') Q:=by
 by_cases hq:uW k=true;·
  have hs':aw (xs.map (Ab.ev st.vars))/\aj (al k ((xs.map (Ab.ev st.vars)).map strip) st.aa) fun x=>x.1/\C (.put x.2):=by cases k<;>first|exact hs|(simp[uW]at hq)
  obtain⟨ha,hw⟩:=hs';obtain⟨⟨φ,v⟩,he,hφ,hC⟩:=af hw;obtain⟨r,hr,hv⟩:=JV h hc hq ha he hφ;exact aY hr ⟨_,β,hC,h.put hd hv⟩
 ·have hmov:∀x:Operand,k=.qE->xs=[x]->(execOp a.eval o).run P w=.ok (.value (a.eval x)) w->o.wp P a w (fun a' w'=>∃e β',C e/\Rel P S0 L B0 w0 N (e.on o.dst st) a' w' β') Q:=by rintro x rfl rfl hr;dsimp only[bf]at hs;obtain⟨y,hy,_,hC⟩:=af hs;simp at hy;subst hy;exact aY hr ⟨_,β,hC,h.put hd (h.ev x)⟩
  have hnil:∀(x:Operand) (e:TypeId),k=.iU e->(P.info? e).isSome=true->gi x=true->(execOp a.eval o).run P w=.ok (.value (a.eval x)) w->o.wp P a w (fun a' w'=>∃e β',C e/\Rel P S0 L B0 w0 N (e.on o.dst st) a' w' β') Q:=by rintro x e rfl hi hx hr;dsimp only[bf]at hs;obtain⟨d,hdd,_,hw⟩:=af hs;obtain⟨⟨φ,v,ao⟩,he,hφ,hn,hC⟩:=af hw;simp only[cQ,qr,q69]at he;obtain⟨rfl,rfl,rfl⟩:=he;rw[Kz hx]at hr;obtain⟨β',hR⟩:=f_nil h (hd d hdd) hn hi;refine aY hr ⟨_,β',hC,?_⟩;rw[hdd];exact hR
  rcases eI hc with hc|⟨x,rfl,hx⟩;rotate_left
  ·have hs:aw (xs.map (Ab.ev st.vars))/\aj (al (.ex x) ((xs.map (Ab.ev st.vars)).map strip) st.aa) fun x=>x.1/\C (.put x.2):=hs;by_cases hb:∃e sz,x=.pj e sz;·obtain⟨e,sz,rfl⟩:=hb;obtain⟨ha,hw⟩:=hs;obtain⟨⟨φ,v⟩,he,hφ,hC⟩:=af hw;obtain⟨t,n,ps,zs,ho,hu,hsz,hz,h1,h2,h3,h4,rfl⟩:=Em hx;unfold al at he;simp only[q900]at he;obtain⟨rows,hrows,he⟩:=he;simp only[q69]at he;obtain⟨rfl,rfl⟩:=he;obtain⟨r,w',hr,hR,hv⟩:=TR ho hu hsz hz h1 h2 h3 h4 h h.eo ha hrows hφ;exact aY hr ⟨_,β,hC,hR.put hd hv⟩
   rw[FU (by simpa using hq) fun e sz hx=>hb ⟨e,sz,hx⟩]at hs;exact hs.2.elim
  unfold iG at hc;split at hc
  ·rename_i x ho;have hr:(execOp a.eval o).run P w=.ok (.value (a.eval x)) w:=by simp[execOp,ho]
   split at hc
   ·rename_i hx;split at hc
    ·split at hc;·rename_i hi;cases hc;exact hnil x _ rfl hi hx hr
     ·cases hc
    ·cases hc
   ·cases hc;exact hmov x rfl rfl hr
  ·rename_i x ho;have hr:(execOp a.eval o).run P w=.ok (.value (a.eval x)) w:=by simp[execOp,ho]
   split at hc
   ·rename_i hx;split at hc
    ·split at hc;·rename_i hi;cases hc;exact hnil x _ rfl hi hx hr
     ·cases hc
    ·cases hc
   ·cases hc;exact hmov x rfl rfl hr
  ·rename_i c x y ho;cases hc;dsimp only[bf]at hs;obtain⟨⟨φ,v⟩,he,hφ,hC⟩:=af hs;obtain⟨r,hr,hv⟩:=EN h ho he hφ;exact aY hr ⟨_,β,hC,h.put hd hv⟩
  ·rename_i e ho;obtain⟨zs,hz,he⟩:=q900.1 hc;cases he;dsimp only[bf]at hs;obtain⟨d,hdd,_,hw⟩:=af hs;obtain⟨⟨φ,v,ao⟩,he,hφ,hn,hC⟩:=af hw;obtain⟨r,w',hr,β',hR⟩:=Mc ho hz h (hd d hdd) hn he;refine aY hr ⟨_,β',hC,?_⟩;rw[hdd];exact hR
  ·rename_i e x ho;cases hc;dsimp only[bf]at hs;obtain⟨d,hdd,ha,hw⟩:=af hs;obtain⟨⟨φ,v,ao⟩,he,hφ,hn,hC⟩:=af hw;obtain⟨r,w',hr,β',hR⟩:=f_box ho h (hd d hdd) hn (h.eo x ha.1) he;refine aY hr ⟨_,β',hC,?_⟩;rw[hdd];exact hR
  ·split at hc
   ·split at hc;·cases hc
    ·obtain⟨l,hl,he⟩:=q900.1 hc;cases he;exact absurd rfl hq
   ·cases hc
  ·rename_i t n ps ho;split at hc
   ·rename_i e hu;split at hc
    ·rename_i sz zs hsz hz;split at hc;·rename_i hcond;obtain⟨_,hord,hbig,hzl,hpos⟩:=hcond;cases hc;dsimp only[bf]at hs;obtain⟨d,hdd,ha,hw⟩:=af hs;obtain⟨⟨φ,v,ao⟩,he,hφ,hn,hC⟩:=af hw;obtain⟨r,w',hr,β',hR⟩:=PB ho hu hsz hz hord hbig hzl hpos h (hd d hdd) hn h.eo ha he hφ;refine aY hr ⟨_,β',hC,?_⟩;rw[hdd];exact hR
     ·cases hc
    ·cases hc
   ·cases hc
  ·obtain⟨n,hn,he⟩:=q900.1 hc;cases he;exact absurd rfl hq
  ·rename_i t x y ho;split at hc
   ·rename_i hn;split at hc;·rename_i h1;cases hc;obtain⟨ha,hw⟩:=hs;obtain⟨⟨φ,tg,ao⟩,he,hφ,hC⟩:=af hw;obtain⟨w',hr,β',hR⟩:=Lc ho h1 h hd (h.eo x ha.1) (h.eo y ha.2.1) he hφ;exact mn hr ⟨_,β',hC,hR⟩
    ·cases hc
   ·rename_i n hn;cases hc;obtain⟨ha,hw⟩:=hs;obtain⟨⟨φ,tg,ao⟩,he,hφ,hC⟩:=af hw;obtain⟨w',hr,β',hR⟩:=JA ho hn h hd (h.eo x ha.1) (h.eo y ha.2.1) he hφ;exact mn hr ⟨_,β',hC,hR⟩
   ·cases hc
  ·split at hc;·split at hc<;>first|(cases hc;exact absurd rfl hq)|cases hc
   ·cases hc;exact absurd rfl hq
   ·cases hc;exact absurd rfl hq
   ·split at hc
    ·split at hc;·split at hc<;>first|(cases hc;exact absurd rfl hq)|cases hc
     ·cases hc
    ·cases hc
   ·cases hc
  ·cases hc;exact absurd rfl hq
  ·cases hc;exact absurd rfl hq
  ·rename_i src dst x ho;split at hc;·cases hc;exact absurd rfl hq
   ·cases hc;exact absurd rfl hq
   ·split at hc;·cases hc;exact absurd rfl hq
    ·cases hc
   ·rename_i e hsr hds;split at hc;·rename_i he;cases hc;obtain⟨ha,hw⟩:=hs;obtain⟨⟨φ,v⟩,heq,hφ,hC⟩:=af hw;have hX:=h.eo x ha.1;have heq:al (.qP e) [strip (Ab.ev st.vars x)] st.aa=some (φ,v):=heq;generalize strip (Ab.ev st.vars x)=X at hX heq;cases X with
     |pv p=>cases p with|str l=>simp only[al,qr,q69]at heq;obtain⟨rfl,rfl⟩:=heq;obtain⟨r,w',hr,hR,hv⟩:=SA ho hsr hds he h hX.fx;exact aY hr ⟨_,β,hC,hR.put hd hv⟩|_=>simp[al]at heq
     |_=>simp[al]at heq
    ·cases hc
   ·cases hc
  ·split at hc
   ·split at hc
    ·split at hc;·cases hc;exact absurd rfl hq
     ·cases hc
    ·cases hc
   ·cases hc
  ·split at hc
   ·split at hc;·obtain⟨n,hn,he⟩:=q900.1 hc;cases he;exact absurd rfl hq
    ·cases hc
   ·cases hc
  ·split at hc;·obtain⟨n,hn,he⟩:=q900.1 hc;cases he;exact absurd rfl hq
   ·obtain⟨n,hn,he⟩:=q900.1 hc;cases he;exact absurd rfl hq
   ·cases hc
  ·split at hc;·cases hc;exact absurd rfl hq
   ·cases hc
  ·split at hc;·cases hc;exact absurd rfl hq
   ·obtain⟨n,hn,he⟩:=q900.1 hc;cases he;exact absurd rfl hq
   ·cases hc
  ·cases hc;exact absurd rfl hq
  ·cases hc;exact absurd rfl hq
  ·split at hc;·cases hc;exact absurd rfl hq
   ·cases hc
  ·rename_i c ho;obtain⟨callee,args,argTypes⟩:=c;unfold iQ at hc;simp only at hc;split at hc
   ·rename_i b;unfold dF at hc;split at hc;·split at hc<;>first|(cases hc;exact absurd rfl hq)|cases hc
    ·rename_i x y t tx hx ht;have hx':args=#[x,y]:=by apply q117;simpa using hx
     have ht':argTypes=#[t,tx]:=by apply q117;simpa using ht
     subst hx' ht';have happ:∀(e:TypeId) (inf:TypeInfo),P.underlying t=some (.slice e)->((∃e',P.underlying tx=some (.slice e'))\/P.underlying tx=some .string)->P.info? e=some inf->0<inf.size->(eB P e).isSome=true->bf P Γ o.dst (.app e inf.size inf.bytes) ([x,y].map (Ab.ev st.vars)) st.aa C->o.wp P a w (fun a' w'=>∃e β',C e/\Rel P S0 L B0 w0 N (e.on o.dst st) a' w' β') Q:=by
      intro e inf hu hux hi hpos hzt hs;obtain⟨ha,hw⟩:=hs;split at hw;·obtain⟨⟨φ,tg,ao⟩,he,hφ,hC⟩:=af hw;obtain⟨r,w',hr,β',hR⟩:=m_app ho hu hux hi hpos hzt h hd (h.eo x ha.1) (h.eo y ha.2.1) he hφ;exact aY hr ⟨_,β',hC,hR⟩
      ·obtain⟨d,hdd,hw⟩:=af hw;obtain⟨⟨φ,v,ao⟩,he,hφ,hn,hC⟩:=af hw;obtain⟨r,w',hr,β',hR⟩:=f_app ho hu hux hi hpos hzt h (hd d hdd) hn (h.eo x ha.1) (h.eo y ha.2.1) he hφ;refine aY hr ⟨_,β',hC,?_⟩;rw[hdd];exact hR
     split at hc
     ·rename_i e hu hux;split at hc
      ·rename_i inf hi;split at hc;·rename_i hcond;cases hc;exact happ e inf hu (.inr hux) hi (by omega) hcond.2 hs
       ·cases hc
      ·cases hc
     ·rename_i e e' hu hux;split at hc
      ·rename_i inf hi;split at hc;·rename_i hcond;cases hc;exact happ e inf hu (.inl ⟨e',hux⟩) hi hcond.1 hcond.2 hs
       ·cases hc
      ·cases hc
     ·cases hc
    ·cases hc;exact absurd rfl hq
    ·cases hc;exact absurd rfl hq
    ·repeat'(split at hc)
     all_goals first|(cases hc;exact hs.2.elim)|cases hc
    ·cases hc
   ·rename_i f;split at hc
    ·rename_i hf;cases hc;dsimp only[bf]at hs;dsimp only[cS]at hs;obtain⟨d,hdd,ha,hw⟩:=af hs;obtain⟨ys,hys,hw⟩:=af hw;obtain⟨⟨φ,r⟩,hr,hφ,hpf,hfree,hres,hC⟩:=af hw;have hcon:=hΓ.Wj (jk hf) hr hφ;have hdlt:d<N:=hd d hdd;have hlim:=h.uL.1;have hd9:d%1000≠999:=by omega
     refine wG h hd9 ho hf ha hys hcon hpf hfree hres ?_;intro v w' β' hR hv;refine⟨_,β',hC,?_⟩;exact hR.put hd hv
    ·cases hc
   ·cases hc;exact hs.2.elim
   ·cases hc
  ·cases hc
end
def Core (P:Program) (N:Nat) (ops:Array Oper) (o:Oper) (i:AI):Prop:=iT P o=some (i.k,i.xs)/\i.d=o.dst/\(∀d,i.d=some d->d<N)/\((o.guard=none/\i.g=none)\/∃j want s,o.guard=some (j,want)/\(ops[j]?).bind (·.dst)=some s/\i.g=some (s,want))
def Fg {P:Program}{N:Nat}{o:Oper}{i:AI} (h:JD P N ops o=some i):Core P N ops o i:=by unfold JD at h;cases hk:iT P o with|none=>rw[hk]at h;simp at h|some kx=>
 obtain⟨k,xs⟩:=kx;rw[hk]at h;dsimp only at h;have key:∀b:Bool,(∀d,o.dst=some d->b=true->d<N)->(if(!b)=true then none else match o.guard with|none=>some (⟨o.dst,k,xs,none,[],none⟩:AI)|some (j,want)=>match(ops[j]?).bind (·.dst) with|some s=>some ⟨o.dst,k,xs,some (s,want),[],none⟩|none=>none)=some i->Core P N ops o i:=by intro b hb h;cases b with|false=>simp at h|true=>simp only[q305,q140,if_false]at h;cases hg:o.guard with|none=>rw[hg]at h;simp only[qr]at h;subst h;exact⟨hk,rfl,fun d e=>hb d e rfl,.inl ⟨hg,rfl⟩⟩|some jw=>obtain⟨j,want⟩:=jw;rw[hg]at h;dsimp only at h;cases hs:(ops[j]?).bind (·.dst) with|none=>rw[hs]at h;cases h|some s=>rw[hs]at h;simp only[qr]at h;subst h;exact⟨hk,rfl,fun d e=>hb d e rfl,.inr ⟨j,want,s,hg,hs,rfl⟩⟩
 refine key _ ?_ h;intro d hd hb;rw[hd]at hb;simp at hb;exact hb.1
def fb {P:Program}{o:Oper}{a:Act} (h:o.guard=none):Region.wanted o (yielded ops a.tmps)=true:=by unfold Region.wanted;rw[h]
def RK:Value->Option Bool|.bool b=>some b|_=>none
def rD {P:Program}{w:World}{β:Nat->Value}{S:Nat->Prop}{D:Nat->Prop}{want:Bool}:∀{v:AV}{u:Value}{c:Bool},RV P S w β D u v->bT v want=some c->(RK u==some want)=c
 |.pv p,u,c,hu,h=>by cases p with|bool b=>rw[hu.fj];simp only[bT,qr]at h;subst h;cases want<;>cases b<;>rfl|_=>simp[bT]at h
 |.cx g v,u,c,hu,h=>by cases hu with|cx _ _ _ h1 h2=>cases g with|false=>rw[h2 rfl];simp only[bT,xj,qr]at h;subst h;rfl|true=>exact rD (v:=v) (h1 rfl) (by simpa[bT,xj]using h)
 |.own _,_,_,_,h|.ptr _ _,_,_,_,h|.bd _ _ _ _,_,_,_,h|.sub _ _ _ _,_,_,_,h|.rp _,_,_,_,h|.agg _,_,_,_,h|.aN _,_,_,_,h|.bI _ _,_,_,_,h|.fr _ _,_,_,_,h|.ak,_,_,_,h=>by simp[bT]at h
def dS {P:Program}{w:World}{β:Nat->Value}{o:Oper}{a:Act}{j:Nat}{want:Bool}{s:Nat}{c:Bool} (h:o.guard=some (j,want)) (hs:(ops[j]?).bind (·.dst)=some s) (hv:RV P S w β D (a.tmps.getD s undef) v) (hc:bT v want=some c):Region.wanted o (yielded ops a.tmps)=c:=by rw[<-rD hv hc];unfold Region.wanted;rw[h];simp only[yielded,hs,q131];rw[q129];cases a.tmps[s]? with|none=>rfl|some v=>cases v<;>rfl
def LH (g:Nat->AV->AV):Prop:=∀p c,(∀e rows,c≠.fr e rows)->g p c=c
def Aq (d i:Nat):LH fun p c=>mX d (p+i) c:=by intro p c hc;cases c<;>first|rfl|exact absurd rfl (hc _ _)
def vx {g:Nat->AV->AV} (hg:LH g):∀(cs:List AV) (j:Nat),gR j cs=[]->gQ g j cs=cs
 |[],_,_=>rfl|c::cs,j,h=>by
  have hc:∀e rows,c≠.fr e rows:=by rintro e rows rfl;simp[gR]at h
  have h':gR (j+1) cs=[]:=by cases c<;>first|exact h|exact absurd rfl (hc _ _)
  simp only[gQ];rw[hg _ _ hc,vx hg cs (j+1) h']
def zu {g:Nat->AV->AV} (hg:LH g) (h:mU v=[]):pg g v=v:=by
 have hv:∀e rows,v≠.fr e rows:=by rintro e rows rfl;simp[mU]at h
 cases v<;>first|exact congrArg AV.agg (vx hg _ _ h)|exact hg _ _ hv
def xD {d:Nat}:∀(vs:List AV) (i:Nat),ng i vs=[]->jN (mX d) i vs=vs|[],_,_=>rfl|v::vs,i,h=>by simp only[ng,q207,q203]at h;simp only[jN];rw[zu (Aq d i) h.1,xD vs (i+1) h.2]
def tF {d:Nat} (h:DU r=[]):dn (mX d) r=r:=by
 have hr:(∃vs,r=.aN vs)\/(DU r=mU r/\dn (mX d) r=pg (fun p c=>mX d (p+0) c) r):=by cases r<;>first|exact .inl ⟨_,rfl⟩|exact .inr ⟨rfl,rfl⟩
 rcases hr with⟨vs,rfl⟩|⟨h1,h2⟩;·exact congrArg AV.aN (xD _ _ h)
 ·rw[h2];exact zu (Aq d 0) (h1▸h)
def HE {aa:Nat->Option AO}:al .mV ys aa=none:=by unfold al;split<;>first|rfl|simp_all
def Lm {e:TypeId}{sz:Nat}{zs:List Value}{aa:Nat->Option AO}:al (.LA e sz zs) ys aa=none:=by unfold al;split<;>first|rfl|simp_all
def sL {P:Program}{b:Builtin}{ys xs:List Operand}{ts:List TypeId} (hc:dF P b ys ts=some (.call f,xs)):False:=by
 unfold dF at hc;repeat'(split at hc)
 all_goals(simp at hc)
def nd {P:Program}{o:Oper}{xs:List Operand} (hc:iT P o=some (.call f,xs)):∃args argTypes,o.op=.call {callee:=.value (.func f),args:=args,argTypes:=argTypes}/\gz P f=true/\xs=args.toList:=by
 rcases eI hc with hc|⟨x,h0,_⟩;rotate_left;·cases h0
 unfold iG at hc;split at hc;case h_22=>
  rename_i cl ho;obtain⟨callee,args,argTypes⟩:=cl;unfold iQ at hc;simp only at hc;split at hc;·exact(sL hc).elim
  ·split at hc;·rename_i hf;simp only[qr,q69,AK.call.injEq]at hc;obtain⟨rfl,hx⟩:=hc;exact⟨args,argTypes,ho,hf,hx.symm⟩
   ·cases hc
  ·simp at hc
  ·cases hc
 all_goals
  exfalso;repeat'(split at hc)
  all_goals(simp at hc)
section
variable{P:Program}{Γ:b7}{S0 L:Nat->Prop}{B0:Nat->Value}{w0 w:World}{N:Nat}{st:St}{a:Act}{β:Nat->Value}{o:Oper}{k:AK}{xs:List Operand}
def Rel.H0 (h:Rel P S0 L B0 w0 N st a w β) {vars:Nat->AV} (hv:∀s v,RV P (bn S0 w0.heap.size β st.aa w) w β (aE st.aa) v (st.vars s)->RV P (bn S0 w0.heap.size β st.aa w) w β (aE st.aa) v (vars s)):Rel P S0 L B0 w0 N ⟨vars,st.aa⟩ a w β:=⟨h.size,h.defers,fun s=>hv s _ (h.vars s),h.heap,h.old,h.uL,h.Ar,h.cu⟩
def EC  (xs:List AV):RV P S w β D undef (Cg xs):=by unfold Cg;cases rowsOf (xs.map strip) with|none=>exact .ak _|some rows=>exact .cx _ _ _ (fun e=>by cases e) fun _=>rfl
def Rel.BD {d:Option Nat}{c:Bool} (hc:c=true) (h:Rel P S0 L B0 w0 N ((bR.put v).on d st) a w β):Rel P S0 L B0 w0 N ((bR.put (.cx c v)).on d st) a w β:=by refine h.H0 (vars:=Ab.put d (.cx c v) st.vars) fun s u hu=>?_;cases d with|none=>exact hu|some d=>
 by_cases hs:s=d;·subst hs;simp only[bR.on,Ab.put,if_true]at hu |-;exact .cx c _ _ (fun _=>hu) (fun e=>by rw[hc]at e;cases e)
 ·simpa[bR.on,Ab.put,hs]using hu
def Rel.gl {d:Option Nat} (hd:∀s,d=some s->s<N) (h:Rel P S0 L B0 w0 N st a w β) (hv:RV P (bn S0 w0.heap.size β st.aa w) w β (aE st.aa) undef v):Rel P S0 L B0 w0 N ((bR.put v).on d st) (a.put d undef) w β:=h.put hd hv
def RE (hΓ:eG P Γ) {i:AI} (h:Rel P S0 L B0 w0 N st a w β) (hi:Core P N ops o i) (hs:eA P Γ i st.vars st.aa C):if Region.wanted o (yielded ops a.tmps) then o.wp P a w (fun a' w'=>∃e β',C e/\Rel P S0 L B0 w0 N (e.on i.d st) a' w' β') Q else∃e β',C e/\Rel P S0 L B0 w0 N (e.on i.d st) (a.put o.dst undef) w β':=by
 obtain⟨hc,hd,hdN,hg⟩:=hi;have hdN':∀s,o.dst=some s->s<N:=fun s e=>hdN s (hd.trans e);rcases hg with⟨hg,hig⟩|⟨j,want,s,hg,hj,hig⟩;·rw[fb (P:=P) hg];simp only[if_true];unfold eA at hs;rw[hig]at hs;rw[hd]at hs |-;exact Bo hΓ h hc hdN' hs
 ·unfold eA at hs;rw[hig]at hs;obtain⟨c,hcg,hs⟩:=af hs;rw[dS hg hj (h.vars s) hcg];rw[hd]at hs |-;have hreg:∀(g:bR->bR),(∀e,∀{a' w' β'},Rel P S0 L B0 w0 N (e.on o.dst st) a' w' β'->Rel P S0 L B0 w0 N ((g e).on o.dst st) a' w' β')->bf P Γ o.dst i.k (i.xs.map (Ab.ev st.vars)) st.aa (fun e=>C (g e))->o.wp P a w (fun a' w'=>∃e β',C e/\Rel P S0 L B0 w0 N (e.on o.dst st) a' w' β') Q:=by intro g hgr hk;refine q283 ?_ (Bo hΓ h hc hdN' hk);rintro a' w' ⟨e,β',hC,hR⟩;exact⟨g e,β',hC,hgr e hR⟩
  have hq:uW i.k=true->(aj (al i.k ((i.xs.map (Ab.ev st.vars)).map strip) st.aa) fun x=>(c=true->aw (i.xs.map (Ab.ev st.vars))/\x.1)/\C (.put (.cx c x.2)))->if c=true then o.wp P a w (fun a' w'=>∃e β',C e/\Rel P S0 L B0 w0 N (e.on o.dst st) a' w' β') Q else∃e β',C e/\Rel P S0 L B0 w0 N (e.on o.dst st) (a.put o.dst undef) w β':=by intro hk hw;obtain⟨⟨φ,v⟩,he,hφ,hC⟩:=af hw;cases c with|true=>obtain⟨r,hr,hv⟩:=JV h hc hk (hφ rfl).1 he (hφ rfl).2;exact aY hr ⟨_,β,hC,h.put hdN' (.cx _ _ _ (fun _=>hv) fun e=>by cases e)⟩|false=>exact⟨_,β,hC,h.gl hdN' (.cx _ _ _ (fun e=>by cases e) fun _=>rfl)⟩
  have hmk:∀{v:AV},RV P (bn S0 w0.heap.size β st.aa w) w β (aE st.aa) undef v->(c=true->bf P Γ o.dst i.k (i.xs.map (Ab.ev st.vars)) st.aa C)/\(c=false->C (.put v))->if c=true then o.wp P a w (fun a' w'=>∃e β',C e/\Rel P S0 L B0 w0 N (e.on o.dst st) a' w' β') Q else∃e β',C e/\Rel P S0 L B0 w0 N (e.on o.dst st) (a.put o.dst undef) w β':=by rintro v hv ⟨ht,hf⟩;cases c with|true=>exact hreg id (fun _ _ _ _ hR=>hR) (ht rfl)|false=>exact⟨_,β,hf rfl,h.gl hdN' hv⟩
  generalize hik:i.k=k at hc hs hreg hq hmk;cases k with
  |qE=>dsimp only[cE]at hs;obtain⟨x,hx,hl,hC⟩:=af hs;cases c with
   |true=>
    refine hreg (fun e=>match e with|.put v=>.put (.cx true v)|e=>e) ?_ ?_;·intro e a' w' β' hR;cases e<;>first|exact hR.BD rfl|exact hR
    ·dsimp only[bf];rw[hx];exact⟨hl,hC⟩|false=>exact⟨_,β,hC,h.gl hdN' (.cx _ _ _ (fun e=>by cases e) fun _=>rfl)⟩
  |pick=>dsimp only[cE]at hs;obtain⟨x,hx,hl,hC⟩:=af hs;cases c with
   |true=>
    refine hreg (fun e=>match e with|.put v=>.put (.cx true v)|e=>e) ?_ ?_;·intro e a' w' β' hR;cases e<;>first|exact hR.BD rfl|exact hR
    ·dsimp only[bf];rw[hx];exact⟨hl rfl,hC⟩|false=>exact⟨_,β,hC,h.gl hdN' (.cx _ _ _ (fun e=>by cases e) fun _=>rfl)⟩
  |iU e=>exact hmk (.ak _) hs|box=>exact hmk (.ak _) hs|alloc zs=>exact hmk (.ak _) hs|uF e sz=>exact hmk (EC _) hs|store n=>exact hmk (.ak _) hs|app e sz bytes=>exact hmk (.ak _) hs|call f=>
   dsimp only[cE]at hs;obtain⟨ys,hys,hs⟩:=af hs;obtain⟨⟨φ,r⟩,hr,hs⟩:=af hs;split at hs;rotate_left;·exact hmk (.cx _ _ _ (fun e=>by cases e) fun _=>rfl) hs
   obtain⟨hcon,hfl,hfr,hres,hC⟩:=hs;cases c with|true=>
    have hcall:=nd hc;obtain⟨args,argTypes,ho,hf,hx⟩:=hcall;rw[hx]at hys hcon;have htr:=Gf hfl;have hnil:∀d,ly d r=[]:=fun d=>by rw[wD htr];unfold aU;rw[hfr];rfl
    refine wG (d:=0) h (by omega) ho hf (hcon rfl).1 hys (hΓ.Wj (jk hf) hr (hcon rfl).2) (.inr (by rw[tC htr];exact hfl)) (by rw[hnil];intro x hx;cases hx) (by rw[xL htr];exact hres) ?_;intro v w' β' hR hv;rw[hnil]at hR hv;rw[wJ htr,tF hfr]at hv;exact⟨_,β',hC,hR.put hdN' (.cx _ _ _ (fun _=>hv) fun e=>by cases e)⟩|false=>exact⟨_,β,hC,h.gl hdN' (.cx _ _ _ (fun e=>by cases e) fun _=>rfl)⟩
  |mV=>have hs:aj (al .mV ((i.xs.map (Ab.ev st.vars)).map strip) st.aa) fun x=>(c=true->aw (i.xs.map (Ab.ev st.vars))/\x.1)/\C (.put (.cx c x.2)):=hs;rw[HE]at hs;exact hs.elim|uD=>exact hq rfl hs|IW mx=>exact hq rfl hs|eqs ne ks=>exact hq rfl hs|qP e=>have hs:aj (al (.qP e) ((i.xs.map (Ab.ev st.vars)).map strip) st.aa) fun x=>(c=true->aw (i.xs.map (Ab.ev st.vars))/\x.1)/\C (.put (.cx c x.2)):=hs;cases c with
   |true=>
    refine hreg (fun e=>match e with|.put v=>.put (.cx true v)|e=>e) ?_ ?_;·intro e a' w' β' hR;cases e<;>first|exact hR.BD rfl|exact hR
    ·obtain⟨r,hr,hφ,hC⟩:=af hs;show aw _/\aj (al _ _ _) _;rw[hr];exact⟨(hφ rfl).1,(hφ rfl).2,hC⟩|false=>obtain⟨r,hr,hφ,hC⟩:=af hs;exact⟨_,β,hC,h.gl hdN' (.cx _ _ _ (fun e=>by cases e) fun _=>rfl)⟩
  |ex x=>
   have hs:aj (al (.ex x) ((i.xs.map (Ab.ev st.vars)).map strip) st.aa) fun x=>(c=true->aw (i.xs.map (Ab.ev st.vars))/\x.1)/\C (.put (.cx c x.2)):=hs;by_cases hq':uW (.ex x)=true;·exact hq hq' hs
   ·by_cases hb:∃e sz,x=.pj e sz;·obtain⟨e,sz,rfl⟩:=hb;cases c with|true=>
     refine hreg (fun e=>match e with|.put v=>.put (.cx true v)|e=>e) ?_ ?_;·intro e a' w' β' hR;cases e<;>first|exact hR.BD rfl|exact hR
     ·obtain⟨r,hr,hφ,hC⟩:=af hs;show aw _/\aj (al _ _ _) _;rw[hr];exact⟨(hφ rfl).1,(hφ rfl).2,hC⟩|false=>obtain⟨r,hr,hφ,hC⟩:=af hs;exact⟨_,β,hC,h.gl hdN' (.cx _ _ _ (fun e=>by cases e) fun _=>rfl)⟩
    ·rw[FU (by simpa using hq') fun e sz hx=>hb ⟨e,sz,hx⟩]at hs;exact hs.elim|LA e sz zs=>have hs:aj (al (.LA e sz zs) ((i.xs.map (Ab.ev st.vars)).map strip) st.aa) fun x=>(c=true->aw (i.xs.map (Ab.ev st.vars))/\x.1)/\C (.put (.cx c x.2)):=hs;rw[Lm]at hs;exact hs.elim|_=>exact hq rfl hs
end
def sF {P:Program}{Γ:b7}{d:Option Nat}{k:AK}{xs:List AV}{aa:Nat->Option AO} (hs:bf P Γ d k xs aa C):∃e,C e/\bf P Γ d k xs aa fun e'=>e'=e:=by cases k with
 |qE=>dsimp only[bf]at hs |-;obtain⟨x,hx,hl,hC⟩:=af hs;exact⟨_,hC,by rw[hx];exact⟨hl,rfl⟩⟩|pick=>dsimp only[bf]at hs |-;obtain⟨x,hx,hl,hC⟩:=af hs;exact⟨_,hC,by rw[hx];exact⟨hl,rfl⟩⟩|iU e=>dsimp only[bf]at hs |-;obtain⟨d,hd,ha,hw⟩:=af hs;obtain⟨x,hx,hl,hn,hC⟩:=af hw;exact⟨_,hC,by rw[hd];exact⟨ha,by rw[hx];exact⟨hl,hn,rfl⟩⟩⟩|box=>dsimp only[bf]at hs |-;obtain⟨d,hd,ha,hw⟩:=af hs;obtain⟨x,hx,hl,hn,hC⟩:=af hw;exact⟨_,hC,by rw[hd];exact⟨ha,by rw[hx];exact⟨hl,hn,rfl⟩⟩⟩|alloc zs=>dsimp only[bf]at hs |-;obtain⟨d,hd,ha,hw⟩:=af hs;obtain⟨x,hx,hl,hn,hC⟩:=af hw;exact⟨_,hC,by rw[hd];exact⟨ha,by rw[hx];exact⟨hl,hn,rfl⟩⟩⟩|uF e sz=>dsimp only[bf]at hs |-;obtain⟨d,hd,ha,hw⟩:=af hs;obtain⟨x,hx,hl,hn,hC⟩:=af hw;exact⟨_,hC,by rw[hd];exact⟨ha,by rw[hx];exact⟨hl,hn,rfl⟩⟩⟩|store n=>dsimp only[bf]at hs |-;obtain⟨ha,hw⟩:=hs;obtain⟨x,hx,hl,hC⟩:=af hw;exact⟨_,hC,ha,by rw[hx];exact⟨hl,rfl⟩⟩|app e sz bytes=>
  dsimp only[bf]at hs |-;obtain⟨ha,hw⟩:=hs;by_cases ho:rN (xs.map strip)=true;·rw[if_pos ho]at hw;obtain⟨x,hx,hl,hC⟩:=af hw;exact⟨_,hC,ha,by rw[if_pos ho,hx];exact⟨hl,rfl⟩⟩
  ·rw[if_neg ho]at hw;obtain⟨d,hd,hw⟩:=af hw;obtain⟨x,hx,hl,hn,hC⟩:=af hw;exact⟨_,hC,ha,by rw[if_neg ho,hd];show aj (cQ _ d _ _) _;rw[hx];exact⟨hl,hn,rfl⟩⟩|call f=>dsimp only[bf,cS]at hs |-;obtain⟨d,hd,ha,hw⟩:=af hs;obtain⟨ys,hys,hw⟩:=af hw;obtain⟨⟨φ,r⟩,hr,h1,h2,h3,h4,hC⟩:=af hw;exact⟨_,hC,by rw[hd];exact⟨ha,by rw[hys];show aj (gt Γ f ys) _;rw[hr];exact⟨h1,h2,h3,h4,rfl⟩⟩⟩|_=>obtain⟨ha,hw⟩:=hs;obtain⟨x,hx,hl,hC⟩:=af hw;exact⟨_,hC,ha,by rw[hx];exact⟨hl,rfl⟩⟩
def yW {P:Program}{Γ:b7}{c:Bool}{d:Option Nat}{k:AK}{xs:List AV}{aa:Nat->Option AO} (hs:cE P Γ c d k xs aa C):∃e,C e/\cE P Γ c d k xs aa fun e'=>e'=e:=by
 have hmk:∀{v:AV},((c=true->bf P Γ d k xs aa C)/\(c=false->C (.put v)))->∃e,C e/\((c=true->bf P Γ d k xs aa fun e'=>e'=e)/\(c=false->bR.put v=e)):=by rintro v ⟨ht,hf⟩;cases c with|true=>obtain⟨e,he,hs⟩:=sF (ht rfl);exact⟨e,he,fun _=>hs,fun h=>by cases h⟩|false=>exact⟨_,hf rfl,fun h=>(by cases h),fun _=>rfl⟩
 cases k with|qE=>dsimp only[cE]at hs |-;obtain⟨x,hx,hl,hC⟩:=af hs;exact⟨_,hC,by rw[hx];exact⟨hl,rfl⟩⟩|pick=>dsimp only[cE]at hs |-;obtain⟨x,hx,hl,hC⟩:=af hs;exact⟨_,hC,by rw[hx];exact⟨hl,rfl⟩⟩|iU e=>exact hmk hs|box=>exact hmk hs|alloc zs=>exact hmk hs|uF e sz=>exact hmk hs|store n=>exact hmk hs|app e sz bytes=>exact hmk hs|call f=>
  dsimp only[cE]at hs |-;obtain⟨ys,hys,hs⟩:=af hs;obtain⟨⟨φ,r⟩,hr,hs⟩:=af hs;split at hs;·rename_i hif;obtain⟨h1,h2,h3,h4,hC⟩:=hs;exact⟨_,hC,by rw[hys];show aj (gt Γ f ys) _;rw[hr];show ite _ _ _;rw[if_pos hif];exact⟨h1,h2,h3,h4,rfl⟩⟩
  ·rename_i hif;obtain⟨e,he,hs⟩:=hmk hs;exact⟨e,he,by rw[hys];show aj (gt Γ f ys) _;rw[hr];show ite _ _ _;rw[if_neg hif];exact hs⟩|_=>dsimp only[cE]at hs |-;obtain⟨x,hx,hl,hC⟩:=af hs;exact⟨_,hC,by rw[hx];exact⟨hl,rfl⟩⟩
def HO {P:Program}{Γ:b7}{i:AI}{vars:Nat->AV}{aa:Nat->Option AO} (hs:eA P Γ i vars aa C):∃e,C e/\eA P Γ i vars aa fun e'=>e'=e:=by unfold eA at hs |-;cases hg:i.g with|none=>rw[hg]at hs;exact sF hs|some sw=>obtain⟨s,w⟩:=sw;rw[hg]at hs;dsimp only at hs |-;obtain⟨c,hc,hs⟩:=af hs;obtain⟨e,he,hs⟩:=yW hs;exact⟨e,he,by rw[hc];exact hs⟩
def GO (v:AV):(∃f cs,v=.bI f cs)\/((∀aa,qD aa v=gj aa v)/\∀T aa,tz T aa v=qt T aa v):=by cases v<;>first|exact .inl ⟨_,_,rfl⟩|exact .inr ⟨fun _=>rfl,fun _ _=>rfl⟩
def KE (v:AV):(∃t o,v=.ptr t o)\/(∃cs,v=.agg cs)\/∀T aa,qt T aa v=yB T v:=by cases v<;>first|exact .inl ⟨_,_,rfl⟩|exact .inr (.inl ⟨_,rfl⟩)|exact .inr (.inr fun _ _=>rfl)
def aao (v:AV):((∃t,v=.own t)\/∃t e lo hi,v=.sub t e lo hi)\/∀aa objs',eU aa v=eU objs' v:=by cases v<;>first|exact .inl (.inl ⟨_,rfl⟩)|exact .inl (.inr ⟨_,_,_,_,rfl⟩)|exact .inr fun _ _=>rfl|(rename_i p;exact .inr fun _ _=>by cases p<;>rfl)
section
variable{T:List Nat}{aa objs':Nat->Option AO} (hag:∀t,lB T t->aa t=objs' t)
include hag
def qx (h:yB T v):eU aa v=eU objs' v:=by
 rcases aao v with(⟨t,rfl⟩|⟨t,e,lo,hi,rfl⟩)|hv;·simp only[eU];rw[hag t h]
 ·simp only[eU];rw[hag t h]
 ·exact hv _ _
def nE:∀{cs:List AV},jh T cs->ja aa cs=ja objs' cs|[],_=>rfl|c::cs,h=>by simp only[ja];rw[qx hag h.1,nE h.2]
omit hag in def u9:∀{cs:List AV} (n:Nat),jh T cs->jh T (cs.drop n)|[],n,_=>by simp[jh]|c::cs,0,h=>h|c::cs,n+1,h=>u9 n h.2
def vY (h:qt T aa v):gj aa v=gj objs' v:=by cases v with
 |ptr t o=>obtain⟨h1,h2⟩:=h;simp only[gj];rw[<-hag t h1];cases hb:fT (aa t) with|none=>rfl|some cs=>rw[hb]at h2;simp only[q101]at h2;simp only[q131];rw[nE hag (u9 o h2)]
 |agg cs=>simp only[gj];rw[nE hag h]|bI f cs=>cases cs<;>rfl|rp cs=>rfl|pv p=>cases p<;>rfl|own t=>exact congrArg (Option.map AV.pv) (qx hag (v:=.own t) h)|bd t e i o=>rfl|sub t e lo hi=>exact congrArg (Option.map AV.pv) (qx hag (v:=.sub t e lo hi) h)|aN vs=>rfl|fr e rows=>rfl|bx cs=>rfl|mf es=>rfl|cx g v=>rfl|ak=>rfl
def uu:∀{cs:List AV},mI T aa cs->mE aa cs=mE objs' cs|[],_=>rfl|c::cs,h=>by simp only[mE];rw[vY hag h.1,uu h.2]
def Ic (h:tz T aa v):qD aa v=qD objs' v:=by
 rcases GO v with⟨f,cs,rfl⟩|⟨h1,h2⟩;·exact congrArg (Option.map (AV.bI f)) (uu hag h)
 ·rw[h1,h1];rw[h2]at h;exact vY hag h
def qk:∀{cs:List AV},ll T aa cs->gB aa cs=gB objs' cs|[],_=>rfl|c::cs,h=>by simp only[gB];rw[Ic hag h.1,qk h.2]
def wq (h:qt T aa v):qt T objs' v:=by
 rcases KE v with⟨t,o,rfl⟩|⟨cs,rfl⟩|h2;·exact⟨h.1,by rw[<-hag t h.1];exact h.2⟩
 ·exact h
 ·rw[h2]at h |-;exact h
def tV:∀{cs:List AV},mI T aa cs->mI T objs' cs|[],_=>trivial|c::cs,h=>⟨wq hag h.1,tV h.2⟩
def ID (h:tz T aa v):tz T objs' v:=by
 rcases GO v with⟨f,cs,rfl⟩|⟨h1,h2⟩;·exact tV hag h
 ·rw[h2]at h |-;exact wq hag h
def jP:∀{cs:List AV},ll T aa cs->ll T objs' cs|[],_=>trivial|c::cs,h=>⟨ID hag h.1,jP h.2⟩
end
section
variable{T U:List Nat}{aa:Nat->Option AO} (hsub:∀t,lB U t->lB T t)
include hsub
def C6 (h:yB U v):yB T v:=by cases v<;>first|trivial|exact hsub _ h
def s9:∀{cs:List AV},jh U cs->jh T cs|[],_=>trivial|c::cs,h=>⟨C6 hsub h.1,s9 h.2⟩
def xA (h:qt U aa v):qt T aa v:=by
 rcases KE v with⟨t,o,rfl⟩|⟨cs,rfl⟩|h2;·exact⟨hsub _ h.1,s9 hsub h.2⟩
 ·exact s9 hsub h
 ·rw[h2]at h |-;exact C6 hsub h
def Af:∀{cs:List AV},mI U aa cs->mI T aa cs|[],_=>trivial|c::cs,h=>⟨xA hsub h.1,Af h.2⟩
def FN (h:tz U aa v):tz T aa v:=by
 rcases GO v with⟨f,cs,rfl⟩|⟨h1,h2⟩;·exact Af hsub h
 ·rw[h2]at h |-;exact xA hsub h
def xC:∀{cs:List AV},ll U aa cs->ll T aa cs|[],_=>trivial|c::cs,h=>⟨FN hsub h.1,xC h.2⟩
end
def jA {k:AK}{aa objs':Nat->Option AO}{r:Prop×AV} (hk:aO k=true) (h:al k ys aa=some r):al k ys objs'=some r:=by unfold al at h;split at h<;>first|exact h|(simp[aO]at hk;done)|cases h
section
variable{T:List Nat}{aa objs':Nat->Option AO} (hag:∀t,lB T t->aa t=objs' t)
include hag
def Cq {x:AV} (h:tz T aa x):gr aa x=gr objs' x:=by cases x with|own t=>simp only[gr];rw[hag t h]|sub t e lo hi=>simp only[gr];rw[hag t h]|pv p=>cases p<;>rfl|_=>rfl
def xr {k:AK}{r:Prop×AV} (hno:ll T aa ys) (h:al k ys aa=some r):al k ys objs'=some r:=by unfold al at h;split at h<;>first|exact h|(simp only[al];rw[<-hag _ hno.1];exact h)|(simp only[al];rw[<-hag _ hno.1.1];exact h)|(simp only[al];rw[<-Cq hag hno.1];exact h)|cases h
def Ej {k:AK}{r:Prop×Nat×AO} (hk:isApp k=false) (hno:ll T aa ys) (h:fo k ys aa=some r):fo k ys objs'=some r:=by unfold fo at h;split at h<;>first|(simp only[fo];rw[<-hag _ hno.1];exact h)|(simp only[fo];rw[<-hag _ hno.1.1];exact h)|(simp[isApp]at hk;done)|cases h
omit hag in def G7 {k:AK}{d:Nat}{ys:List AV}{r:Prop×AV×AO} (hk:isApp k=false) (h:cQ k d ys aa=some r):cQ k d ys objs'=some r:=by unfold cQ at h;split at h<;>first|exact h|(simp[isApp]at hk;done)|cases h
def vn {P:Program}{Γ:b7}{d:Option Nat}{k:AK}{xs:List AV} (hk:isApp k=false) (hd:∀s,d=some s->s<1000/\T.contains s=false) (hno:aO k=true\/ll T aa (xs.map strip)) (hs:bf P Γ d k xs aa C):bf P Γ d k xs objs' C:=by
 have hfree:∀s p,d=some s->aa (s+1000*p)=objs' (s+1000*p):=by intro s p hs;refine hag _ ?_;unfold lB;rw[q276,q109 (hd s hs).1];exact(hd s hs).2
 have hmk:∀{k:AK},isApp k=false->(aj d fun d=>aw xs/\aj (cQ k d (xs.map strip) aa) fun x=>x.1/\aa d=none/\C (.new x.2.1 [(d,x.2.2)]))->aj d fun d=>aw xs/\aj (cQ k d (xs.map strip) objs') fun x=>x.1/\objs' d=none/\C (.new x.2.1 [(d,x.2.2)]):=by intro k hk hw;obtain⟨s,hs,ha,hw⟩:=af hw;obtain⟨x,hx,hφ,hn,hC⟩:=af hw;rw[hs];refine⟨ha,?_⟩;rw[G7 (aa:=aa) (objs':=objs') hk hx];have:=hfree s 0 hs;simp only[Nat.mul_zero,q167]at this;exact⟨hφ,this▸hn,hC⟩
 cases k with|qE=>exact hs|pick=>exact hs|iU e=>exact hmk (k:=.iU e) rfl hs|box=>exact hmk (k:=.box) rfl hs|alloc zs=>exact hmk (k:=.alloc zs) rfl hs|uF e sz=>exact hmk (k:=.uF e sz) rfl hs|store n=>have hno:=hno.resolve_left (by simp[aO]);obtain⟨ha,hw⟩:=hs;refine⟨ha,?_⟩;obtain⟨x,hx,hC⟩:=af hw;rw[Ej hag hk hno hx];exact hC|app e sz bytes=>simp[isApp]at hk|call f=>have hno:=hno.resolve_left (by simp[aO]);dsimp only[bf,cS]at hs |-;obtain⟨s,hs',ha,hw⟩:=af hs;obtain⟨ys,hys,hw⟩:=af hw;obtain⟨⟨φ,r⟩,hr,h1,h2,h3,h4,hC⟩:=af hw;rw[hs'];refine⟨ha,?_⟩;rw[<-qk hag hno,hys];show aj (gt Γ f ys) _;rw[hr];refine⟨h1,h2,?_,h4,hC⟩;intro x hx;have:=h3 x hx;obtain⟨y,hy⟩:=zd s r x hx;rw[hy]at this |-;rw[<-hfree s y hs'];exact this|_=>obtain⟨ha,hw⟩:=hs;refine⟨ha,?_⟩;obtain⟨x,hx,hC⟩:=af hw;rw[hno.elim (fun h=>jA (objs':=objs') h hx) (fun h=>xr hag h hx)];exact hC
def Ff {P:Program}{Γ:b7}{c:Bool}{d:Option Nat}{k:AK}{xs:List AV} (hk:isApp k=false) (hd:∀s,d=some s->s<1000/\T.contains s=false) (hno:aO k=true\/ll T aa (xs.map strip)) (hs:cE P Γ c d k xs aa C):cE P Γ c d k xs objs' C:=by have hmk:∀{v:AV},((c=true->bf P Γ d k xs aa C)/\(c=false->C (.put v)))->((c=true->bf P Γ d k xs objs' C)/\(c=false->C (.put v))):=fun h=>⟨fun hc=>vn hag hk hd hno (h.1 hc),h.2⟩;cases k with
 |qE=>exact hs|pick=>exact hs|iU e=>exact hmk hs|box=>exact hmk hs|alloc zs=>exact hmk hs|uF e sz=>exact hmk hs|store n=>exact hmk hs|app e sz bytes=>exact hmk hs|call f=>
  have hno:=hno.resolve_left (by simp[aO]);dsimp only[cE]at hs |-;rw[<-qk hag hno];obtain⟨ys,hys,hs⟩:=af hs;obtain⟨⟨φ,r⟩,hr,hs⟩:=af hs;rw[hys];show aj (gt Γ f ys) _;rw[hr];show ite _ _ _;split at hs;·rename_i hif;rw[if_pos hif];exact hs
  ·rename_i hif;rw[if_neg hif];exact hmk hs|_=>dsimp only[cE]at hs |-;obtain⟨x,hx,hC⟩:=af hs;rw[hno.elim (fun h=>jA (objs':=objs') h hx) (fun h=>xr hag h hx)];exact hC
end
def lU (t:Nat):∀a:AV,strip (kill t a)=kill t (strip a)|.cx g v=>by simp only[kill,strip];exact lU t v|.pv p=>rfl|.own s=>by show strip (if s=t then .ak else .own s)=(if s=t then .ak else .own s);split<;>rfl|.ptr s o=>rfl|.bd s e i o=>by show strip (if s=t then .ak else .bd s e i o)=(if s=t then .ak else .bd s e i o);split<;>rfl|.sub s e i o=>by show strip (if s=t then .ak else .sub s e i o)=(if s=t then .ak else .sub s e i o);split<;>rfl|.rp cs=>rfl|.agg cs=>rfl|.aN vs=>rfl|.bI f []=>rfl|.bI f (c::cs)=>rfl|.fr e rows=>rfl|.bx _=>rfl|.mf _=>rfl|.ak=>rfl
def Aj (t:Nat):∀a:AV,asks (kill t a)=asks a|.cx g v=>by simp only[kill,asks];rw[Aj t v]|.pv p=>rfl|.own s=>by show asks (if s=t then .ak else .own s)=asks (.own s);split<;>rfl|.ptr s o=>rfl|.bd s e i o=>by show asks (if s=t then .ak else .bd s e i o)=asks (.bd s e i o);split<;>rfl|.sub s e i o=>by show asks (if s=t then .ak else .sub s e i o)=asks (.sub s e i o);split<;>rfl|.rp cs=>rfl|.agg cs=>rfl|.aN vs=>rfl|.bI f []=>rfl|.bI f (c::cs)=>rfl|.fr e rows=>rfl|.bx _=>rfl|.mf _=>rfl|.ak=>rfl
def CJ {t:Nat}{p:PV} (h:kill t v=.pv p):v=.pv p:=by cases v with|pv q=>exact h|own s=>have h:(if s=t then AV.ak else .own s)=.pv p:=h;split at h<;>cases h|bd s e i o=>have h:(if s=t then AV.ak else .bd s e i o)=.pv p:=h;split at h<;>cases h|sub s e i o=>have h:(if s=t then AV.ak else .sub s e i o)=.pv p:=h;split at h<;>cases h|bI f cs=>cases cs<;>cases h|_=>cases h
def N2 (t:Nat) (v:Value):kill t (cv v)=cv v:=by unfold cv;split<;>rfl
def Mf (t:Nat) (vars:Nat->AV) (x:Operand):Ab.ev (cO t vars) x=kill t (Ab.ev vars x):=by cases x with|const v=>exact(N2 t v).symm|_=>rfl
def nn (t:Nat) (vars:Nat->AV) (xs:List Operand):xs.map (Ab.ev (cO t vars))=(xs.map (Ab.ev vars)).map (kill t):=by rw[List.map_map];exact List.map_congr_left fun x _=>Mf t vars x
def mo (t:Nat):∀xs:List AV,aw (xs.map (kill t))=aw xs|[]=>rfl|x::xs=>by simp only[q74,aw];rw[Aj,mo t xs]
def tH {t:Nat}:∀{xs:List AV},(∀y∈xs.map strip,∃p,y=AV.pv p)->(xs.map (kill t)).map strip=xs.map strip|[],_=>rfl|x::xs,h=>by simp only[q74,q78,forall_eq_or_imp]at h |-;obtain⟨⟨p,hp⟩,h⟩:=h;rw[tH h,lU,hp];rfl
def pG {t:Nat}:∀{xs:List AV},(∀y∈(xs.map (kill t)).map strip,∃p,y=AV.pv p)->(xs.map (kill t)).map strip=xs.map strip|[],_=>rfl|x::xs,h=>by simp only[q74,q78,forall_eq_or_imp]at h |-;obtain⟨⟨p,hp⟩,h⟩:=h;rw[pG h,hp];rw[lU]at hp;rw[CJ hp]
def FT {k:AK}{aa:Nat->Option AO}{r:Prop×AV} (hk:aO k=true) (h:al k ys aa=some r):(∀y∈ys,∃p,y=AV.pv p)/\∃q,r.2=.pv q:=by unfold al at h;split at h<;>first|(simp[aO]at hk;done)|(obtain⟨x,_,rfl⟩:=q900.1 h;exact⟨by simp,_,rfl⟩)|(simp only[qr]at h;subst h;exact⟨by simp,_,rfl⟩)|cases h
section
variable{P:Program}{Γ:b7}{d:Option Nat}{k:AK}{xs:List AV}{aa objs':Nat->Option AO}{e:bR}{t:Nat}
def yn (k:AK) (xs:List AV):Option (Prop×AV):=match k with
 |.qE=>match xs with|[x]=>some (True,x)|_=>none
 |k=>(al k (xs.map strip) fun _=>none).map fun r=>(aw xs/\r.1,r.2)
def iw (hk:aO k=true):bf P Γ d k xs aa (fun e'=>e'=e)↔∃φ v,yn k xs=some (φ,v)/\φ/\e=.put v:=by
 have hq:∀{k:AK},aO k=true->((aw xs/\aj (al k (xs.map strip) aa) fun x=>x.1/\bR.put x.2=e)↔∃φ v,((al k (xs.map strip) fun _=>none).map fun r=>(aw xs/\r.1,r.2))=some (φ,v)/\φ/\e=.put v):=by
  intro k hk;constructor;·rintro⟨ha,hw⟩;obtain⟨r,hr,hφ,he⟩:=af hw;exact⟨aw xs/\r.1,r.2,by rw[jA (objs':=fun _=>none) hk hr];rfl,⟨ha,hφ⟩,he.symm⟩
  ·rintro⟨φ,v,hs,hφ,he⟩;obtain⟨r,hr,hx⟩:=q900.1 hs;cases hx;exact⟨hφ.1,by rw[jA (objs':=aa) hk hr];exact⟨hφ.2,he.symm⟩⟩
 cases k with
 |qE=>
  dsimp only[bf,yn];constructor;·intro h;obtain⟨x,hx,hl,he⟩:=af h;obtain⟨y,rfl⟩:=q208.1 hl;simp only[q293,qr]at hx;subst hx;exact⟨_,_,rfl,trivial,he.symm⟩
  ·rintro⟨φ,v,hs,hφ,rfl⟩;split at hs;·cases hs;exact⟨rfl,rfl⟩
   ·cases hs|bin op=>exact hq rfl|beq ne=>exact hq rfl|not=>exact hq rfl|neg=>exact hq rfl|DY k=>exact hq rfl|Gb=>exact hq rfl|_=>simp[aO]at hk
def gZ {c:Bool} (hk:aO k=true):cE P Γ c d k xs aa (fun e'=>e'=e)↔∃φ v,yn k xs=some (φ,v)/\(c=true->φ)/\e=.put (.cx c v):=by
 have hq:∀{k:AK},aO k=true->((aj (al k (xs.map strip) aa) fun x=>(c=true->aw xs/\x.1)/\bR.put (.cx c x.2)=e)↔∃φ v,((al k (xs.map strip) fun _=>none).map fun r=>(aw xs/\r.1,r.2))=some (φ,v)/\(c=true->φ)/\e=.put (.cx c v)):=by
  intro k hk;constructor;·intro hw;obtain⟨r,hr,hφ,he⟩:=af hw;exact⟨aw xs/\r.1,r.2,by rw[jA (objs':=fun _=>none) hk hr];rfl,hφ,he.symm⟩
  ·rintro⟨φ,v,hs,hφ,he⟩;obtain⟨r,hr,hx⟩:=q900.1 hs;cases hx;rw[jA (objs':=aa) hk hr];exact⟨hφ,he.symm⟩
 cases k with
 |qE=>
  dsimp only[cE,yn];constructor;·intro h;obtain⟨x,hx,hl,he⟩:=af h;obtain⟨y,rfl⟩:=q208.1 hl;simp only[q293,qr]at hx;subst hx;exact⟨_,_,rfl,fun _=>trivial,he.symm⟩
  ·rintro⟨φ,v,hs,hφ,rfl⟩;split at hs;·cases hs;exact⟨rfl,rfl⟩
   ·cases hs|bin op=>exact hq rfl|beq ne=>exact hq rfl|not=>exact hq rfl|neg=>exact hq rfl|DY k=>exact hq rfl|Gb=>exact hq rfl|_=>simp[aO]at hk
def zM  (hk:aO k=true) (h:yn k xs=some (φ,v)):yn k (xs.map (kill t))=some (φ,kill t v):=by
 have hq:((al k (xs.map strip) fun _=>none).map fun r=>(aw xs/\r.1,r.2))=some (φ,v)->((al k ((xs.map (kill t)).map strip) fun _=>none).map fun r=>(aw (xs.map (kill t))/\r.1,r.2))=some (φ,kill t v):=by intro h;obtain⟨r,hr,hx⟩:=q900.1 h;obtain⟨hp,q,hq⟩:=FT hk hr;cases hx;rw[tH hp,hr,mo,hq];show some (aw xs/\r.1,r.2)=_;rw[hq];rfl
 cases k with
 |qE=>
  dsimp only[yn]at h |-;split at h;·cases h;rfl
  ·cases h|bin op=>exact hq h|beq ne=>exact hq h|not=>exact hq h|neg=>exact hq h|DY k=>exact hq h|Gb=>exact hq h|_=>simp[aO]at hk
def tU  (hk:aO k=true) (h:yn k (xs.map (kill t))=some (φ,v)):∃u,v=kill t u/\yn k xs=some (φ,u):=by
 have hq:((al k ((xs.map (kill t)).map strip) fun _=>none).map fun r=>(aw (xs.map (kill t))/\r.1,r.2))=some (φ,v)->∃u,v=kill t u/\((al k (xs.map strip) fun _=>none).map fun r=>(aw xs/\r.1,r.2))=some (φ,u):=by intro h;obtain⟨r,hr,hx⟩:=q900.1 h;obtain⟨hp,q,hq⟩:=FT hk hr;rw[pG hp]at hr;rw[mo]at hx;cases hx;exact⟨r.2,by rw[hq];rfl,by rw[hr];rfl⟩
 cases k with
 |qE=>
  dsimp only[yn]at h |-;rcases xs with _|⟨x,_|⟨y,xs⟩⟩;·cases h
  ·cases h;exact⟨x,rfl,rfl⟩
  ·cases h|bin op=>exact hq h|beq ne=>exact hq h|not=>exact hq h|neg=>exact hq h|DY k=>exact hq h|Gb=>exact hq h|_=>simp[aO]at hk
end
section
variable{P:Program}{Γ:b7}{i:AI}{vars vars':Nat->AV}{aa objs':Nat->Option AO}{e:bR}{t:Nat}
def qN (w:Bool):∀v:AV,bT (kill t v) w=bT v w|.cx c v=>by simp only[kill,bT];rw[qN w v]|.own s|.bd s _ _ _|.sub s _ _ _=>by simp only[kill,cq];split<;>rfl|.bI f cs=>by cases cs<;>rfl|.pv _|.ptr _ _|.rp _|.agg _|.aN _|.fr _ _|.bx _|.mf _|.ak=>rfl
def uk {w c:Bool}:bT (kill t v) w=some c↔bT v w=some c:=by rw[qN]
def wc (hk:aO i.k=true) (h:eA P Γ i vars aa fun e'=>e'=e):∃v,e=.put v/\∀t objs',eA P Γ i (cO t vars) objs' fun e'=>e'=.put (kill t v):=by unfold eA at h |-;cases hg:i.g with|none=>rw[hg]at h;obtain⟨φ,v,hs,hφ,rfl⟩:=(iw hk).1 h;refine⟨v,rfl,fun t objs'=>?_⟩;rw[nn];exact(iw hk).2 ⟨φ,_,zM hk hs,hφ,rfl⟩|some sw=>obtain⟨s,w⟩:=sw;rw[hg]at h;dsimp only at h |-;obtain⟨c,hc,h⟩:=af h;obtain⟨φ,v,hs,hφ,rfl⟩:=(gZ hk).1 h;refine⟨_,rfl,fun t objs'=>?_⟩;rw[show cO t vars s=kill t (vars s) from rfl,uk.2 hc,nn];exact(gZ hk).2 ⟨φ,_,zM hk hs,hφ,rfl⟩
def ss (hk:aO i.k=true) (h:eA P Γ i (cO t vars) aa fun e'=>e'=e):∃v,e=.put (kill t v)/\∀objs',eA P Γ i vars objs' fun e'=>e'=.put v:=by unfold eA at h |-;cases hg:i.g with|none=>rw[hg]at h;dsimp only at h;rw[nn]at h;obtain⟨φ,v,hs,hφ,rfl⟩:=(iw hk).1 h;obtain⟨u,rfl,hu⟩:=tU hk hs;exact⟨u,rfl,fun objs'=>(iw hk).2 ⟨φ,_,hu,hφ,rfl⟩⟩|some sw=>obtain⟨s,w⟩:=sw;rw[hg]at h;dsimp only at h |-;obtain⟨c,hc,h⟩:=af h;rw[nn]at h;obtain⟨φ,v,hs,hφ,rfl⟩:=(gZ hk).1 h;obtain⟨u,rfl,hu⟩:=tU hk hs;refine⟨.cx c u,rfl,fun objs'=>?_⟩;rw[uk.1 hc];exact(gZ hk).2 ⟨φ,_,hu,hφ,rfl⟩
def ey (hk:aO i.k=true) (h:eA P Γ i vars aa fun e'=>e'=e):(∃v,e=.put v)/\∀objs',eA P Γ i vars objs' fun e'=>e'=e:=by unfold eA at h |-;cases hg:i.g with|none=>rw[hg]at h;obtain⟨φ,v,hs,hφ,rfl⟩:=(iw hk).1 h;exact⟨⟨v,rfl⟩,fun objs'=>(iw hk).2 ⟨φ,_,hs,hφ,rfl⟩⟩|some sw=>obtain⟨s,w⟩:=sw;rw[hg]at h;dsimp only at h |-;obtain⟨c,hc,h⟩:=af h;obtain⟨φ,v,hs,hφ,rfl⟩:=(gZ hk).1 h;exact⟨⟨_,rfl⟩,fun objs'=>by rw[hc];exact(gZ hk).2 ⟨φ,_,hs,hφ,rfl⟩⟩
def I8 {x:Operand} (h:∀s∈tmpsOf [x],vars s=vars' s):Ab.ev vars x=Ab.ev vars' x:=by cases x with|tmp t=>exact h t (by simp[tmpsOf])|_=>rfl
def ia:∀{xs:List Operand},(∀s∈tmpsOf xs,vars s=vars' s)->xs.map (Ab.ev vars)=xs.map (Ab.ev vars')|[],_=>rfl|x::xs,h=>by have h1:Ab.ev vars x=Ab.ev vars' x:=I8 fun s hs=>h s (by cases x<;>simp_all[tmpsOf]);have h2:xs.map (Ab.ev vars)=xs.map (Ab.ev vars'):=ia fun s hs=>h s (by cases x<;>simp_all[tmpsOf]);simp only[q74,h1,h2]
def eN (ha:∀s∈dr i,vars s=vars' s) (h:eA P Γ i vars aa C):eA P Γ i vars' aa C:=by have hx:=ia (vars:=vars) (vars':=vars') (xs:=i.xs) fun s hs=>ha s (q104 _ hs);unfold eA at h |-;rw[<-hx];cases hg:i.g with|none=>rw[hg]at h;exact h|some sw=>obtain⟨s,w⟩:=sw;rw[hg]at h;dsimp only at h |-;rw[<-ha s (q180 _ (by rw[hg];simp))];exact h
def wN {T:List Nat} (hag:∀t,lB T t->aa t=objs' t) (hk:isApp i.k=false) (hd:∀s,i.d=some s->s<1000/\T.contains s=false) (hno:aO i.k=true\/ll T aa ((i.xs.map (Ab.ev vars)).map strip)) (h:eA P Γ i vars aa C):eA P Γ i vars objs' C:=by unfold eA at h |-;cases hg:i.g with|none=>rw[hg]at h;exact vn hag hk hd hno h|some sw=>obtain⟨s,w⟩:=sw;rw[hg]at h;dsimp only at h |-;obtain⟨c,hc,h⟩:=af h;rw[hc];exact Ff hag hk hd hno h
def qX (i:AI) (e:bR):Prop:=(∃v,e=.put v)\/(makes i.k=true/\∃d v os,i.d=some d/\e=.new v os/\∀x∈os,∃p,x.1=d+1000*p)\/(writes i.k=true/\makes i.k=false/\∃t o,e=.yT t o)\/(isApp i.k=true/\∃t o,e=.app t o)
def Cb {xs:List AV} (h:bf P Γ i.d i.k xs aa fun e'=>e'=e):qX i e:=by
 have hmk:∀{k:AK},makes i.k=true->(aj i.d fun d=>aw xs/\aj (cQ k d (xs.map strip) aa) fun x=>x.1/\aa d=none/\bR.new x.2.1 [(d,x.2.2)]=e)->qX i e:=by intro k hk hw;obtain⟨d,hd,ha,hw⟩:=af hw;obtain⟨x,hx,hφ,hn,rfl⟩:=af hw;exact .inr (.inl ⟨hk,d,_,_,hd,rfl,fun x hx=>⟨0,by simp only[q73]at hx;rw[hx];rfl⟩⟩)
 cases hk:i.k with|qE=>rw[hk]at h;obtain⟨φ,v,_,_,rfl⟩:=(iw rfl).1 h;exact .inl ⟨v,rfl⟩|pick=>rw[hk]at h;dsimp only[bf]at h;obtain⟨x,_,_,rfl⟩:=af h;exact .inl ⟨_,rfl⟩|iU e=>rw[hk]at h;exact hmk (by rw[hk];rfl) h|box=>rw[hk]at h;exact hmk (by rw[hk];rfl) h|alloc zs=>rw[hk]at h;exact hmk (by rw[hk];rfl) h|uF e sz=>rw[hk]at h;exact hmk (by rw[hk];rfl) h|store n=>rw[hk]at h;obtain⟨_,hw⟩:=h;obtain⟨x,_,_,rfl⟩:=af hw;exact .inr (.inr (.inl ⟨by rw[hk];rfl,by rw[hk];rfl,_,_,rfl⟩))|app e sz bytes=>
  rw[hk]at h;dsimp only[bf]at h;obtain⟨ha,hw⟩:=h;split at hw;·obtain⟨x,_,_,rfl⟩:=af hw;exact .inr (.inr (.inr ⟨by rw[hk];rfl,_,_,rfl⟩))
  ·obtain⟨d,hd,hw⟩:=af hw;obtain⟨x,hx,hφ,hn,rfl⟩:=af hw;exact .inr (.inl ⟨by rw[hk];rfl,d,_,_,hd,rfl,fun x hx=>⟨0,by simp only[q73]at hx;rw[hx];rfl⟩⟩)|call f=>rw[hk]at h;dsimp only[bf,cS]at h;obtain⟨d,hd,ha,hw⟩:=af h;obtain⟨ys,hys,hw⟩:=af hw;obtain⟨⟨φ,r⟩,hr,h1,h2,h3,h4,rfl⟩:=af hw;refine .inr (.inl ⟨by rw[hk];rfl,d,_,_,hd,rfl,fun x hx=>?_⟩);exact zd d r x hx|_=>rw[hk]at h;obtain⟨_,hw⟩:=h;obtain⟨x,_,_,rfl⟩:=af hw;exact .inl ⟨_,rfl⟩
def CZ (h:eA P Γ i vars aa fun e'=>e'=e):qX i e:=by unfold eA at h;cases hg:i.g with|none=>rw[hg]at h;exact Cb h|some sw=>
 obtain⟨s,w⟩:=sw;rw[hg]at h;dsimp only at h;obtain⟨c,hc,h⟩:=af h;have hmk:∀{v:AV},((c=true->bf P Γ i.d i.k (i.xs.map (Ab.ev vars)) aa fun e'=>e'=e)/\(c=false->bR.put v=e))->qX i e:=by rintro v ⟨ht,hf⟩;cases c with|true=>exact Cb (ht rfl)|false=>exact .inl ⟨_,(hf rfl).symm⟩
 cases hk:i.k with
 |qE=>rw[hk]at h;obtain⟨φ,v,_,_,rfl⟩:=(gZ rfl).1 h;exact .inl ⟨_,rfl⟩|pick=>rw[hk]at h;dsimp only[cE]at h;obtain⟨x,_,_,rfl⟩:=af h;exact .inl ⟨_,rfl⟩|iU e=>rw[hk]at h hmk;exact hmk h|box=>rw[hk]at h hmk;exact hmk h|alloc zs=>rw[hk]at h hmk;exact hmk h|uF e sz=>rw[hk]at h hmk;exact hmk h|store n=>rw[hk]at h hmk;exact hmk h|app e sz bytes=>rw[hk]at h hmk;exact hmk h|call f=>
  rw[hk]at h hmk;dsimp only[cE]at h;obtain⟨ys,hys,h⟩:=af h;obtain⟨⟨φ,r⟩,hr,h⟩:=af h;split at h;·obtain⟨h1,h2,h3,h4,rfl⟩:=h;exact .inl ⟨_,rfl⟩
  ·exact hmk h|_=>rw[hk]at h;dsimp only[cE]at h;obtain⟨x,_,_,rfl⟩:=af h;exact .inl ⟨_,rfl⟩
end
def St.ext' {a b:St} (h1:a.vars=b.vars) (h2:a.aa=b.aa):a=b:=by cases a;cases b;simp only at h1 h2;rw[h1,h2]
def rP {d:Option Nat}{f:Nat->AV}{s:Nat} (h:d≠some s):Ab.put d v f s=f s:=by cases d with|none=>rfl|some d=>have:s≠d:=fun e=>h (by rw[e]);simp[Ab.put,this]
def put_comm {d d':Option Nat}{v v':AV}{f:Nat->AV} (h:∀s,d=some s->d'≠some s):Ab.put d v (Ab.put d' v' f)=Ab.put d' v' (Ab.put d v f):=by cases d with|none=>rfl|some d=>cases d' with|none=>rfl|some d'=>
 have hne:d'≠d:=fun e=>h d rfl (by rw[e]);funext s;by_cases h1:s=d;·subst h1;simp[Ab.put,hne.symm]
 ·simp[Ab.put,h1]
def rM {t:Nat}{d:Option Nat}{f:Nat->AV}:cO t (Ab.put d v f)=Ab.put d (kill t v) (cO t f):=by cases d with|none=>rfl|some d=>
 funext s;by_cases h1:s=d;·simp[cO,Ab.put,h1]
 ·simp[cO,Ab.put,h1]
def ov:bR->Nat->Option AO|.new _ os=>ab os|.yT t o=>fun s=>if s=t then some o else none|_=>fun _=>none
def qc (f g:Nat->Option AO):Nat->Option AO:=fun t=>match f t with|some o=>some o|none=>g t
def valE:bR->AV|.put v=>v|.new v _=>v|.yT _ _=>.ak|.app t _=>.own t
def plain:bR->Prop|.app _ _=>False|_=>True
def eJ {e:bR}{d:Option Nat}{st:St} (h:plain e):e.on d st=⟨Ab.put d (valE e) st.vars,qc (ov e) st.aa⟩:=by cases e with|put v=>rfl|new v os=>rfl|yT t o=>refine St.ext' rfl ?_;funext s;by_cases hs:s=t<;>simp[bR.on,qc,ov,ba,hs]|app t o=>exact h.elim
def II {f g h:Nat->Option AO} (hfg:∀t,f t=none\/g t=none):qc f (qc g h)=qc g (qc f h):=by funext t;unfold qc;rcases hfg t with e|e<;>rw[e]<;>cases f t<;>cases g t<;>rfl
def Yi (P:Program) (Γ:b7) (i:AI) (st:St) (e:bR):Prop:=(i.un=[]\/ll i.un st.aa ((i.xs.map (Ab.ev st.vars)).map strip))/\(eA P Γ i st.vars st.aa fun e'=>e'=e)/\Ed i.un i.tg e
def zF {P:Program}{Γ:b7}{d:Option Nat}{k:AK}{xs:List AV}{aa:Nat->Option AO}{e:bR} (hC:C e) (hs:bf P Γ d k xs aa fun e'=>e'=e):bf P Γ d k xs aa C:=by cases k with
 |qE=>dsimp only[bf]at hs |-;obtain⟨x,hx,hl,rfl⟩:=af hs;rw[hx];exact⟨hl,hC⟩|pick=>dsimp only[bf]at hs |-;obtain⟨x,hx,hl,rfl⟩:=af hs;rw[hx];exact⟨hl,hC⟩|iU e=>dsimp only[bf]at hs |-;obtain⟨d,hd,ha,hw⟩:=af hs;obtain⟨x,hx,hl,hn,rfl⟩:=af hw;rw[hd];exact⟨ha,by rw[hx];exact⟨hl,hn,hC⟩⟩|box=>dsimp only[bf]at hs |-;obtain⟨d,hd,ha,hw⟩:=af hs;obtain⟨x,hx,hl,hn,rfl⟩:=af hw;rw[hd];exact⟨ha,by rw[hx];exact⟨hl,hn,hC⟩⟩|alloc zs=>dsimp only[bf]at hs |-;obtain⟨d,hd,ha,hw⟩:=af hs;obtain⟨x,hx,hl,hn,rfl⟩:=af hw;rw[hd];exact⟨ha,by rw[hx];exact⟨hl,hn,hC⟩⟩|uF e sz=>dsimp only[bf]at hs |-;obtain⟨d,hd,ha,hw⟩:=af hs;obtain⟨x,hx,hl,hn,rfl⟩:=af hw;rw[hd];exact⟨ha,by rw[hx];exact⟨hl,hn,hC⟩⟩|store n=>dsimp only[bf]at hs |-;obtain⟨ha,hw⟩:=hs;obtain⟨x,hx,hl,rfl⟩:=af hw;exact⟨ha,by rw[hx];exact⟨hl,hC⟩⟩|app e sz bytes=>
  dsimp only[bf]at hs |-;obtain⟨ha,hw⟩:=hs;refine⟨ha,?_⟩;by_cases ho:rN (xs.map strip)=true;·rw[if_pos ho]at hw |-;obtain⟨x,hx,hl,rfl⟩:=af hw;rw[hx];exact⟨hl,hC⟩
  ·rw[if_neg ho]at hw |-;obtain⟨d,hd,hw⟩:=af hw;obtain⟨x,hx,hl,hn,rfl⟩:=af hw;rw[hd];show aj (cQ _ d _ _) _;rw[hx];exact⟨hl,hn,hC⟩|call f=>dsimp only[bf,cS]at hs |-;obtain⟨d,hd,ha,hw⟩:=af hs;obtain⟨ys,hys,hw⟩:=af hw;obtain⟨⟨φ,r⟩,hr,h1,h2,h3,h4,rfl⟩:=af hw;rw[hd];exact⟨ha,by rw[hys];show aj (gt Γ f ys) _;rw[hr];exact⟨h1,h2,h3,h4,hC⟩⟩|_=>obtain⟨ha,hw⟩:=hs;obtain⟨x,hx,hl,rfl⟩:=af hw;exact⟨ha,by rw[hx];exact⟨hl,hC⟩⟩
def He {P:Program}{Γ:b7}{c:Bool}{d:Option Nat}{k:AK}{xs:List AV}{aa:Nat->Option AO}{e:bR} (hC:C e) (hs:cE P Γ c d k xs aa fun e'=>e'=e):cE P Γ c d k xs aa C:=by have hmk:∀{v:AV},((c=true->bf P Γ d k xs aa fun e'=>e'=e)/\(c=false->bR.put v=e))->((c=true->bf P Γ d k xs aa C)/\(c=false->C (.put v))):=fun h=>⟨fun hc=>zF hC (h.1 hc),fun hc=>by rw[h.2 hc];exact hC⟩;cases k with
 |qE=>dsimp only[cE]at hs |-;obtain⟨x,hx,hl,rfl⟩:=af hs;rw[hx];exact⟨hl,hC⟩|pick=>dsimp only[cE]at hs |-;obtain⟨x,hx,hl,rfl⟩:=af hs;rw[hx];exact⟨hl,hC⟩|iU e=>exact hmk hs|box=>exact hmk hs|alloc zs=>exact hmk hs|uF e sz=>exact hmk hs|store n=>exact hmk hs|app e sz bytes=>exact hmk hs|call f=>
  dsimp only[cE]at hs |-;obtain⟨ys,hys,hs⟩:=af hs;obtain⟨⟨φ,r⟩,hr,hs⟩:=af hs;rw[hys];show aj (gt Γ f ys) _;rw[hr];show ite _ _ _;split at hs;·rename_i hif;obtain⟨h1,h2,h3,h4,rfl⟩:=hs;rw[if_pos hif];exact⟨h1,h2,h3,h4,hC⟩
  ·rename_i hif;rw[if_neg hif];exact hmk hs|_=>dsimp only[cE]at hs |-;obtain⟨x,hx,hl,rfl⟩:=af hs;rw[hx];exact⟨hl,hC⟩
def Ho {P:Program}{Γ:b7}{i:AI}{vars:Nat->AV}{aa:Nat->Option AO}{e:bR} (hC:C e) (hs:eA P Γ i vars aa fun e'=>e'=e):eA P Γ i vars aa C:=by unfold eA at hs |-;cases hg:i.g with|none=>rw[hg]at hs;exact zF hC hs|some sw=>obtain⟨s,w⟩:=sw;rw[hg]at hs;dsimp only at hs |-;obtain⟨c,hc,hs⟩:=af hs;rw[hc];exact He hC hs
def cM {P:Program}{Γ:b7}{i:AI}{K:St->Prop}{st:St}:dz P Γ i K st↔∃e,Yi P Γ i st e/\K (e.on i.d st):=by
 constructor;·rintro⟨hu,hs⟩;obtain⟨e,⟨ht,hK⟩,he⟩:=HO hs;exact⟨e,⟨hu,he,ht⟩,hK⟩
 ·rintro⟨e,⟨hu,he,ht⟩,hK⟩;exact⟨hu,Ho (C:=fun e=>Ed i.un i.tg e/\K (e.on i.d st)) ⟨ht,hK⟩ he⟩
structure GG (x y:AI):Prop where
 xd:∀d,x.d=some d->d∉dr y/\y.d≠some d/\y.tg≠some d/\d<1000
 yd:∀d,y.d=some d->d∉dr x/\x.tg≠some d/\d<1000
 ya:(aO y.k=true/\y.un=[])\/(isApp x.k=false/\(writes x.k=true->∃s,x.tg=some s)/\∀t∈cw x,t<1000/\y.un.contains t=true)
 xa:(aO x.k=true/\x.un=[])\/(isApp y.k=false/\(writes y.k=true->∃s,y.tg=some s)/\∀t∈cw y,t<1000/\x.un.contains t=true)
 both:aO x.k=true\/aO y.k=true\/writes x.k=false\/writes y.k=false\/x.tg≠y.tg
def tE {o:Option Nat} (h:BH o=true):∃s,o=some s:=by cases o with|none=>cases h|some s=>exact⟨s,rfl⟩
def apart_spec {x y:AI} (h:Ee x y=true):GG x y:=by
 unfold Ee at h;simp only[q71]at h;obtain⟨⟨⟨⟨h1,h2⟩,h3⟩,h4⟩,h5⟩:=h;refine⟨fun d hd=>?_,fun d hd=>?_,?_,?_,?_⟩;·rw[hd]at h1;simp only[q71,q125,q250,decide_eq_false_iff_not,bne_iff_ne,decide_eq_true_eq]at h1;exact⟨h1.1.1.1,h1.1.1.2,h1.1.2,h1.2⟩
 ·rw[hd]at h2;simp only[q71,q125,q250,decide_eq_false_iff_not,bne_iff_ne,decide_eq_true_eq]at h2;exact⟨h2.1.1,h2.1.2,h2.2⟩
 ·simp only[q132,q71,q125,q85,decide_eq_true_eq,List.isEmpty_iff]at h3;refine h3.imp id fun⟨⟨ha,hb⟩,hc⟩=>⟨ha,fun hw=>?_,fun t ht=>hc t ht⟩;rcases hb with hb|hb;·rw[hb]at hw;cases hw
  ·exact tE hb
 ·simp only[q132,q71,q125,q85,decide_eq_true_eq,List.isEmpty_iff]at h4;refine h4.imp id fun⟨⟨ha,hb⟩,hc⟩=>⟨ha,fun hw=>?_,fun t ht=>hc t ht⟩;rcases hb with hb|hb;·rw[hb]at hw;cases hw
  ·exact tE hb
 ·simp only[q132,q125,bne_iff_ne]at h5;rcases h5 with(((h|h)|h)|h)|h;·exact .inl h
  ·exact .inr (.inl h)
  ·exact .inr (.inr (.inl h))
  ·exact .inr (.inr (.inr (.inl h)))
  ·exact .inr (.inr (.inr (.inr h)))
section
variable{P:Program}{Γ:b7}{x y:AI}{st:St}{e e':bR}
def zm:∀{os:List (Nat×AO)}{t:Nat}{o:AO},ab os t=some o->∃x∈os,x.1=t
 |[],_,_,h=>by cases h|(s,v)::os,t,o,h=>by
  simp only[ab]at h;split at h;·rename_i hs;exact⟨(s,v),q122,hs.symm⟩
  ·obtain⟨x,hx,h⟩:=zm h;exact⟨x,q108 _ hx,h⟩
def Bg {i:AI}{e:bR} (he:qX i e) (htg:wZ i.tg e) (hlt:∀t∈cw i,t<1000) (hw:writes i.k=true->∃s,i.tg=some s) (ha:isApp i.k=false) {t:Nat} (h:ov e t≠none):(cw i).contains (t%1000)=true:=by
 rcases he with⟨v,rfl⟩|⟨hm,d,v,os,hd,rfl,hos⟩|⟨hwr,hm,t',o,rfl⟩|⟨hap,t,o,rfl⟩;·exact absurd rfl h
 ·cases hl:ab os t with|none=>exact absurd hl h|some o=>
   obtain⟨x,hx,rfl⟩:=zm hl;obtain⟨p,hp⟩:=hos x hx;have hmem:d∈cw i:=by unfold cw;rw[if_pos hm,hd];simp
   rw[hp,q276,q109 (hlt d hmem)];simpa using hmem
 ·obtain⟨s,hs⟩:=hw hwr;have hmem:s∈cw i:=by unfold cw;rw[hm,hwr,hs];simp
  rw[hs]at htg;have htg:t'=s:=htg;subst htg;have:t=t':=by
   by_cases e:t=t';·exact e
   ·exact absurd (by simp[ov,e]) h
  subst this;rw[q109 (hlt t hmem)];simpa using hmem
 ·rw[ha]at hap;cases hap
def xT {i:AI}{e:bR}{aa:Nat->Option AO}{U:List Nat} (he:qX i e) (htg:wZ i.tg e) (hlt:∀t∈cw i,t<1000) (hU:∀t,lB U t->lB (cw i) t) (hw:writes i.k=true->∃s,i.tg=some s) (ha:isApp i.k=false):∀t,lB U t->aa t=qc (ov e) aa t:=by intro t ht;unfold qc;cases ho:ov e t with|none=>rfl|some o=>have h1:=Bg he htg hlt hw ha (t:=t) (by rw[ho];simp);have h2:=hU t ht;unfold lB at h2;rw[h1]at h2;cases h2
def Yi.Ba (hyx:(aO y.k=true/\y.un=[])\/(isApp x.k=false/\(writes x.k=true->∃s,x.tg=some s)/\∀t∈cw x,t<1000/\y.un.contains t=true)) (hax:aO y.k=true\/isApp y.k=false) (hyd:∀d,y.d=some d->x.d≠some d/\x.tg≠some d/\d<1000) (hu:∀d,x.d=some d->d∉dr y) {vars:Nat->AV}{aa objs':Nat->Option AO} (hag:∀T,(∀t,lB T t->lB (cw x) t)->(isApp x.k=false/\(writes x.k=true->∃s,x.tg=some s)/\∀t∈cw x,t<1000)->∀t,lB T t->aa t=objs' t):Yi P Γ y ⟨Ab.put x.d v vars,aa⟩ e'↔Yi P Γ y ⟨vars,objs'⟩ e':=by
 have hvs:∀s∈dr y,Ab.put x.d v vars s=vars s:=fun s hs=>rP fun hd=>hu s hd hs;have hev:y.xs.map (Ab.ev (Ab.put x.d v vars))=y.xs.map (Ab.ev vars):=ia fun s hs=>hvs s (q104 _ hs);have hsym:∀{f g:Nat->Option AO}{T:List Nat},(∀t,lB T t->f t=g t)->∀t,lB T t->g t=f t:=fun h t ht=>(h t ht).symm;unfold Yi;simp only[hev];rcases hyx with⟨hy,hun⟩|⟨hxa,hxw,hxt⟩
 ·constructor;·rintro⟨_,h,ht⟩;exact⟨.inl hun,eN hvs ((ey hy h).2 _),ht⟩
  ·rintro⟨_,h,ht⟩;exact⟨.inl hun,eN (fun s hs=>(hvs s hs).symm) ((ey hy h).2 _),ht⟩
 ·have hsub:∀t,lB y.un t->lB (cw x) t:=by intro t ht;unfold lB at ht |-;cases hc:(cw x).contains (t%1000) with|false=>rfl|true=>rw[(hxt _ (by simpa using hc)).2]at ht;cases ht
  have hx3:=(⟨hxa,hxw,fun t ht=>(hxt t ht).1⟩:isApp x.k=false/\(writes x.k=true->∃s,x.tg=some s)/\∀t∈cw x,t<1000);have hA:=hag (cw x) (fun _ h=>h) hx3;have hB:=hag y.un hsub hx3;have hd:∀s,y.d=some s->s<1000/\(cw x).contains s=false:=by
   intro s hs;obtain⟨h1,h2,h3⟩:=hyd s hs;refine⟨h3,?_⟩;unfold cw;split;·cases hxd:x.d with|none=>rfl|some d=>have:¬d=s:=fun e=>h1 (by rw[hxd,e]);simpa[Option.toList,eq_comm]using this
   ·split;·cases hxd:x.tg with|none=>rfl|some d=>have:¬d=s:=fun e=>h2 (by rw[hxd,e]);simpa[Option.toList,eq_comm]using this
    ·rfl
  by_cases hy:aO y.k=true
  ·constructor;·rintro⟨hn,h,ht⟩;exact⟨hn.imp id fun hn=>jP hB hn,eN hvs ((ey hy h).2 _),ht⟩
   ·rintro⟨hn,h,ht⟩;exact⟨hn.imp id fun hn=>jP (hsym hB) hn,eN (fun s hs=>(hvs s hs).symm) ((ey hy h).2 _),ht⟩
  ·have hya:=hax.resolve_left hy;have hne:y.un=[]->∀(f:Nat->Option AO) (l:List AV),ll (cw x) f l:=by
    intro hun f l;have hnil:cw x=[]:=by cases h:cw x with|nil=>rfl|cons t ts=>have:=(hxt t (by rw[h];simp)).2;rw[hun]at this;simp at this
    rw[hnil];have hT:∀t,lB [] t:=fun t=>rfl;have hC:∀v,yB [] v:=fun v=>by cases v<;>first|trivial|exact hT _
    have hCs:∀cs,jh [] cs:=fun cs=>by induction cs with|nil=>trivial|cons c cs ih=>exact⟨hC c,ih⟩
    have hP:∀v,qt [] f v:=fun v=>by
     rcases KE v with⟨t,o,rfl⟩|⟨cs,rfl⟩|h2;·exact⟨hT _,hCs _⟩
     ·exact hCs _
     ·rw[h2];exact hC _
    have hPs:∀cs,mI [] f cs:=fun cs=>by induction cs with|nil=>trivial|cons c cs ih=>exact⟨hP c,ih⟩
    induction l with|nil=>trivial|cons c cs ih=>
     refine⟨?_,ih⟩;rcases GO c with⟨f,cs,rfl⟩|⟨_,h2⟩;·exact hPs _
     ·rw[h2];exact hP _
   constructor
   ·rintro⟨hn,h,ht⟩;refine⟨hn.imp id fun hn=>jP hB hn,?_,ht⟩;have h:=eN hvs h;refine wN hA hya hd (.inr ?_) h;rcases hn with hn|hn;·exact hne hn _ _
    ·exact xC hsub hn
   ·rintro⟨hn,h,ht⟩;refine⟨hn.imp id fun hn=>jP (hsym hB) hn,?_,ht⟩;have h:=eN (vars':=Ab.put x.d v vars) (fun s hs=>(hvs s hs).symm) h;refine wN (hsym hA) hya hd (.inr ?_) h;rw[hev];rcases hn with hn|hn;·exact hne hn _ _
    ·exact xC hsub hn
end
end Go.Proofs.YtifcndkhigakfaaGreat.Ab
