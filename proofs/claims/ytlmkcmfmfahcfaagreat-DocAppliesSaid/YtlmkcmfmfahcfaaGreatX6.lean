/- The abstract machine: something is appended to a slice, and something else is looked at, or made: the two may change places. -/
import Derived.Test.YtlmkcmfmfahcfaaGreatX5
set_option linter.unusedVariables false
set_option linter.unusedSimpArgs false
set_option linter.unnecessarySimpa false
set_option maxHeartbeats 40000000
set_option maxRecDepth 100000
namespace Go.Proofs.YtlmkcmfmfahcfaaGreat.Ab
open Go Go.RowKit
theorem iT {q:Option AO}{r:TypeId×List (List PV)} (h:cz q=some r):q=some (.arr r.1 r.2):=by
 unfold cz at h;split at h;·cases h;rfl
 ·cases h
theorem rI {aa objs':Nat→Option AO} (hs:∀s o,aa s=some o→objs' s=some o) {X:AV}{rows:List (List PV)} (h:cE aa X=some rows):cE objs' X=some rows:=by cases X with
 |pv p=>cases p<;>first|exact h|(simp[cE]at h)
 |own t=>simp only[cE,Option.map_eq_some_iff]at h ⊢;obtain⟨r,hr,rfl⟩:=h;have:=hs _ _ (iT hr);exact⟨r,by rw[this];rfl,rfl⟩|sub t e lo hi=>simp only[cE,Option.bind_eq_some_iff]at h ⊢;obtain⟨r,hr,h⟩:=h;have:=hs _ _ (iT hr);exact⟨r,by rw[this];rfl,h⟩|_=>simp[cE]at h
theorem rE {aa objs':Nat→Option AO}{X:AV}{rows:List (List PV)}{un:List Nat} (h:cE aa X=some rows) (hn:oi un aa X):oi un objs' X:=by cases X with|pv p=>trivial|own t=>exact hn|sub t e lo hi=>exact hn|_=>simp[cE]at h
section
variable{P:Program}{Γ:bI}{d:Option Nat}{e:TypeId}{sz bytes:Nat}{xs:List AV}{aa objs':Nat→Option AO}{ee:bz}
theorem Fb (h:aS P Γ d (.app e sz bytes) xs aa fun e1=>e1=ee):(∃(t:Nat) (X:AV) (r:TypeId×List (List PV)) (more:List (List PV)),xs.map strip=[.own t,X]∧aa t=some (.arr r.1 r.2)∧cE aa X=some more∧ee=.app t (.arr r.1 (r.2++more)))∨(∃(dd:Nat) (X:AV) (rows:List (List PV)),d=some dd∧xs.map strip=[.pv .nil,X]∧cE aa X=some rows∧aa dd=none∧ee=.new (.own dd) [(dd,.arr e rows)]):=by
 dsimp only[aS]at h;obtain⟨ha,h⟩:=h;generalize xs.map strip=ys at h ⊢;split at h
 ·rename_i ho;obtain⟨x,hx,hφ,rfl⟩:=ae h;rcases ys with _|⟨y,_|⟨X,_|⟨z,l⟩⟩⟩;·simp[mm]at ho
  ·cases y<;>simp[dN]at hx
  ·cases y with
   |own t=>
    simp only[dN,Option.bind_eq_some_iff]at hx;obtain⟨r,hr,more,hm,hx⟩:=hx;split at hx;·cases hx;rename_i hc;exact .inl ⟨t,X,r,more,rfl,iT hr,hm,by rw[hc.1]⟩
    ·cases hx|_=>simp[mm]at ho
  ·cases y<;>simp[dN]at hx
 ·obtain⟨dd,hd,h⟩:=ae h;obtain⟨x,hx,hφ,hn,rfl⟩:=ae h;rcases ys with _|⟨y,_|⟨X,_|⟨z,l⟩⟩⟩;·simp[ck]at hx
  ·cases y with|pv p=>cases p<;>simp[ck]at hx|_=>simp[ck]at hx
  ·cases y with
   |pv p=>cases p with|nil=>simp only[ck,Option.map_eq_some_iff]at hx;obtain⟨rows,hr,rfl⟩:=hx;exact .inr ⟨dd,X,rows,hd,rfl,hr,hn,rfl⟩|_=>simp[ck]at hx
   |_=>simp[ck]at hx
  ·cases y with|pv p=>cases p<;>simp[ck]at hx|_=>simp[ck]at hx
theorem EG (hs:∀s o,aa s=some o→objs' s=some o) (hn:∀dd,d=some dd→aa dd=none→objs' dd=none) (h:aS P Γ d (.app e sz bytes) xs aa fun e1=>e1=ee):aS P Γ d (.app e sz bytes) xs objs' fun e1=>e1=ee:=by
 dsimp only[aS]at h ⊢;obtain⟨ha,h⟩:=h;refine⟨ha,?_⟩;generalize xs.map strip=ys at h ⊢;split at h
 ·rename_i ho;rw[if_pos ho];obtain⟨x,hx,hφ,he⟩:=ae h;have hx':dN (.app e sz bytes) ys objs'=some x:=by
   rcases ys with _|⟨y,_|⟨X,_|⟨z,l⟩⟩⟩;·simp[mm]at ho
   ·cases y<;>simp[dN]at hx
   ·cases y with|own t=>simp only[dN,Option.bind_eq_some_iff]at hx ⊢;obtain⟨r,hr,more,hm,hx⟩:=hx;have:=hs _ _ (iT hr);exact⟨r,by rw[this];rfl,more,rI hs hm,hx⟩|_=>simp[mm]at ho
   ·cases y<;>simp[dN]at hx
  rw[hx'];exact⟨hφ,he⟩
 ·rename_i ho;rw[if_neg ho];obtain⟨dd,hd,h⟩:=ae h;obtain⟨x,hx,hφ,hnn,he⟩:=ae h;rw[hd];show ah (ck (.app e sz bytes) dd ys objs') _;have hx':ck (.app e sz bytes) dd ys objs'=some x:=by
   rcases ys with _|⟨y,_|⟨X,_|⟨z,l⟩⟩⟩;·simp[ck]at hx
   ·cases y with|pv p=>cases p<;>simp[ck]at hx|_=>simp[ck]at hx
   ·cases y with
    |pv p=>cases p with|nil=>simp only[ck,Option.map_eq_some_iff]at hx ⊢;obtain⟨rows,hr,hx⟩:=hx;exact⟨rows,rI hs hr,hx⟩|_=>simp[ck]at hx
    |_=>simp[ck]at hx
   ·cases y with|pv p=>cases p<;>simp[ck]at hx|_=>simp[ck]at hx
  rw[hx'];exact⟨hφ,hn _ hd hnn,he⟩
theorem vw {un:List Nat}{t:Nat} (ht:iF un t) {c:AV} (h:rT un (bO t c)):rT un c:=by cases c with
 |own s=>by_cases e:s=t;·subst e;exact ht
         ·simpa[bO,e]using h
 |aO s _ _ _=>by_cases e:s=t;·subst e;exact ht
              ·simpa[bO,e]using h
 |sub s _ _ _=>by_cases e:s=t;·subst e;exact ht
               ·simpa[bO,e]using h|ptr s o=>exact h|_=>trivial
theorem mO {un:List Nat}{t:Nat} (ht:iF un t):∀{cs:List AV},fJ un (bJ t cs)→fJ un cs|[],_=>trivial|c::cs,h=>⟨vw ht h.1,mO ht h.2⟩
theorem nO (t:Nat):∀(n:Nat) (cs:List AV),(bJ t cs).take n=bJ t (cs.take n)|0,_=>by simp[bJ]|n+1,[]=>by simp[bJ]|n+1,c::cs=>by simp[bJ,nO t n cs]
theorem nX (t:Nat):∀(n:Nat) (cs:List AV),(bJ t cs).drop n=bJ t (cs.drop n)|0,_=>by simp|n+1,[]=>by simp[bJ]|n+1,c::cs=>by simp[bJ,nX t n cs]
theorem lu (t:Nat):∀(ps:List PV),bJ t (ps.map AV.pv)=ps.map .pv|[]=>rfl|p::ps=>by simp only[List.map_cons,bJ,lu t ps];rfl
theorem tp (t:Nat):∀(zs:List Value),bJ t (zs.map cv)=zs.map cv|[]=>rfl|z::zs=>by simp only[List.map_cons,bJ,tp t zs];congr 1;unfold cv;split<;>rfl
theorem qG {t:Nat}{X:AV}{s o:Nat} (h:kill t X=.ptr s o):X=.ptr s o:=by cases X with|ptr s' o'=>exact h|own s=>have h:(if s=t then AV.aq else .own s)=.ptr _ _:=h;split at h<;>cases h|aO s e i o=>have h:(if s=t then AV.aq else .aO s e i o)=.ptr _ _:=h;split at h<;>cases h|sub s e i o=>have h:(if s=t then AV.aq else .sub s e i o)=.ptr _ _:=h;split at h<;>cases h|bB f cs=>cases cs<;>cases h|_=>cases h
theorem np {t:Nat}{X:AV}{s o:Nat}{e:TypeId}{i:Int} (h:kill t X=.aO s e i o):X=.aO s e i o∧s≠t:=by cases X with
 |aO s' e' i' o'=>
  have h:(if s'=t then AV.aq else .aO s' e' i' o')=.aO _ _ _ _:=h;split at h;·cases h
  ·rename_i hne;cases h;exact⟨rfl,hne⟩|own s=>have h:(if s=t then AV.aq else .own s)=.aO _ _ _ _:=h;split at h<;>cases h|sub s e i o=>have h:(if s=t then AV.aq else .sub s e i o)=.aO _ _ _ _:=h;split at h<;>cases h|bB f cs=>cases cs<;>cases h|_=>cases h
theorem ub {t:Nat}{X:AV}{cs:List PV} (h:kill t X=.rp cs):X=.rp cs:=by cases X with|rp cs'=>exact h|own s=>have h:(if s=t then AV.aq else .own s)=.rp _:=h;split at h<;>cases h|aO s e i o=>have h:(if s=t then AV.aq else .aO s e i o)=.rp _:=h;split at h<;>cases h|sub s e i o=>have h:(if s=t then AV.aq else .sub s e i o)=.rp _:=h;split at h<;>cases h|bB f cs=>cases cs<;>cases h|_=>cases h
theorem Cd {k:AK} (hk:tY k=true) {ys:List AV}{aa:Nat→Option AO}{r:Prop×AV} (h:ak k ys aa=some r):∃X,ys=[X]∧((∃s o,X=.ptr s o)∨(∃s e i o,X=.aO s e i o)∨∃cs,X=.rp cs):=by cases k with
 |load n=>
  rcases ys with _|⟨y,_|⟨z,l⟩⟩;·cases n<;>simp[ak]at h
  ·cases y with|ptr s o=>exact⟨_,rfl,.inl ⟨s,o,rfl⟩⟩|aO s e i o=>exact⟨_,rfl,.inr (.inl ⟨s,e,i,o,rfl⟩)⟩|rp cs=>exact⟨_,rfl,.inr (.inr ⟨cs,rfl⟩)⟩|_=>cases n<;>simp[ak]at h
  ·cases n<;>cases y<;>simp[ak]at h|az off=>
  rcases ys with _|⟨y,_|⟨z,l⟩⟩;·simp[ak]at h
  ·cases y with|ptr s o=>exact⟨_,rfl,.inl ⟨s,o,rfl⟩⟩|aO s e i o=>exact⟨_,rfl,.inr (.inl ⟨s,e,i,o,rfl⟩)⟩|rp cs=>exact⟨_,rfl,.inr (.inr ⟨cs,rfl⟩)⟩|_=>simp[ak]at h
  ·cases y<;>simp[ak]at h|_=>simp[tY]at hk
theorem A5 {k:AK} (hk:tY k=true) {t:Nat}{X:AV}{e:TypeId}{rows rows':List (List PV)} (hob:aa t=some (.arr e rows)) {φ:Prop}{v:AV} (h:ak k [kill t X] (aH t (.arr e rows') (cQ t aa))=some (φ,v)):∃u,ak k [X] aa=some (φ,u)∧v=kill t u:=by
 obtain⟨Y,hY,hc⟩:=Cd hk h;simp only[List.cons.injEq,and_true]at hY;have hbox:∀s cs,dX (aH t (.arr e rows') (cQ t aa) s)=some cs→∃cs0,dX (aa s)=some cs0∧cs=bJ t cs0:=by
  intro s cs hb;unfold aH at hb;split at hb;·cases hb
  ·unfold cQ at hb;cases ho:aa s with|none=>rw[ho]at hb;cases hb|some q=>rw[ho]at hb;cases q with|box cs0=>cases hb;exact⟨cs0,rfl,rfl⟩|arr e rows=>cases hb|map es=>cases hb|rws e cs=>cases hb|fO es=>cases hb|lV rem cur=>cases hb
 have harr:∀s,s≠t→cz (aH t (.arr e rows') (cQ t aa) s)=cz (aa s):=by intro s hs;unfold aH cQ;rw[if_neg hs];cases ho:aa s with|none=>rfl|some q=>cases q<;>rfl
 have hboxa:∀s,s≠t→True:=fun _ _=>trivial;rcases hc with⟨s,o,rfl⟩|⟨s,e',i,o,rfl⟩|⟨cs,rfl⟩;·cases qG hY;rw[hY]at h;cases k with
  |load n=>cases n with
   |none=>
    simp only[ak,Option.bind_eq_some_iff]at h ⊢;obtain⟨cs,hcs,c,hcc,h⟩:=h;obtain⟨cs0,hcs0,rfl⟩:=hbox _ _ hcs;rw[eh]at hcc;obtain⟨c0,hc0,rfl⟩:=Option.map_eq_some_iff.1 hcc;split at h
    ·rename_i hkc;cases h;by_cases hcell:jZ c0=true;·refine⟨c0,⟨cs0,hcs0,c0,hc0,by rw[if_pos hcell]⟩,?_⟩;cases c0<;>first|rfl|(simp[jZ]at hcell)
     ·exfalso;cases c0<;>first|(exact hcell rfl)|(simp[bO,jZ]at hkc)
    ·cases h|some n=>
    simp only[ak,Option.bind_eq_some_iff]at h ⊢;obtain⟨cs,hcs,h⟩:=h;obtain⟨cs0,hcs0,rfl⟩:=hbox _ _ hcs;split at h;·rename_i hle;cases h;refine⟨_,⟨cs0,hcs0,by rw[if_pos (by simpa[dg]using hle)]⟩,?_⟩;show AV.agg _=AV.agg _;rw[nX,nO]
    ·cases h
  |az off=>cases h;exact⟨_,rfl,rfl⟩|_=>simp[tY]at hk
 ·obtain⟨rfl,hst⟩:=np hY;rw[hY]at h;cases k with
  |load n=>cases n with
   |none=>
    have h:kj e' i o (aH t (.arr e rows') (cQ t aa) s)=some (φ,v):=h;show∃u,kj e' i o (aa s)=some (φ,u)∧v=kill t u;have he:aH t (.arr e rows') (cQ t aa) s=(aa s).map (cZ t):=by unfold aH cQ;rw[if_neg hst]
    rw[he]at h;cases hos:aa s with|none=>rw[hos]at h;cases h|some q=>rw[hos]at h;cases q with
     |box cs=>cases h|map es=>cases h|fO es=>cases h|lV r c=>cases h|arr e1 rows1=>
      have h:kj e' i o (some (.arr e1 rows1))=some (φ,v):=h;unfold kj at h ⊢;simp only at h ⊢;split at h;·cases h;exact⟨_,by rw[if_pos ‹_›],rfl⟩
      ·cases h|rws e1 cs=>
      have h:kj e' i o (some (.rws e1 (bJ t cs)))=some (φ,v):=h;unfold kj at h ⊢;simp only at h ⊢;split at h;rotate_left;·cases h
      rename_i h1;obtain⟨c,hc,h⟩:=Option.bind_eq_some_iff.1 h;rw[eh]at hc;obtain⟨c0,hc0,rfl⟩:=Option.map_eq_some_iff.1 hc;rw[if_pos h1,hc0];split at h
      ·rename_i hkc;cases h;by_cases hcell:jZ c0=true;·refine⟨c0,by simp only[Option.bind_some];rw[if_pos hcell],?_⟩;cases c0<;>first|rfl|(simp[jZ]at hcell)
       ·exfalso;cases c0<;>first|(exact hcell rfl)|(simp[bO,jZ]at hkc)
      ·cases h
   |some n=>
    simp only[ak,harr s hst]at h ⊢;obtain⟨r,hr,h⟩:=Option.bind_eq_some_iff.1 h;split at h;·rename_i h1;cases h;refine⟨_,by rw[hr];simp only[Option.bind_some];rw[if_pos h1],?_⟩;show AV.agg _=AV.agg _;rw[lu]
    ·cases h
  |az off=>cases h;refine⟨_,rfl,?_⟩;show AV.aO _ _ _ _=(if s=t then AV.aq else .aO _ _ _ _);rw[if_neg hst]|_=>simp[tY]at hk
 ·cases ub hY;rw[hY]at h;cases k with
  |load n=>cases n with
   |none=>cases cs with|nil=>cases h;exact⟨_,rfl,rfl⟩|cons c cs=>cases h;exact⟨_,rfl,rfl⟩
   |some n=>
    simp only[ak]at h ⊢;split at h;·rename_i h1;cases h;refine⟨_,by rw[if_pos h1],?_⟩;show AV.agg _=AV.agg _;rw[lu]
    ·cases h
  |az off=>cases h;exact⟨_,rfl,rfl⟩|_=>simp[tY]at hk
end
structure yl (x y:AI):Prop where
 app:∃e sz b,x.k=.app e sz b
 xg:x.g=none
 yg:y.g=none
 yt:y.tg=none
 ds:∃d d',x.d=some d∧y.d=some d'∧d∉cu y∧d'∉cu x∧d≠d'∧d<1000∧d'<1000
 kd:(∃zs,y.k=.alloc zs∧y.xs=[])∨(tY y.k=true∧(∀d,x.d=some d→y.un.contains d=true)∧∀t,y.un.contains t=true→x.un.contains (t+1000)=true)
theorem vI {x y:AI} (h:yA x y=true):yl x y:=by
 unfold yA at h;simp only[Bool.and_eq_true]at h;obtain⟨⟨⟨⟨h1,h2⟩,h3⟩,h4⟩,h5⟩:=h;split at h5
 ·rename_i d d' hd hd';simp only[Bool.and_eq_true,Bool.not_eq_true',List.contains_eq_mem,decide_eq_false_iff_not,bne_iff_ne,decide_eq_true_eq,Bool.or_eq_true]at h5;obtain⟨⟨⟨⟨⟨g1,g2⟩,g3⟩,g4⟩,g5⟩,g6⟩:=h5;refine⟨?_,by simpa using h2,by simpa using h3,by simpa using h4,⟨d,d',hd,hd',g1,g2,g3,g4,g5⟩,?_⟩;·cases hk:x.k with|app e sz b=>exact⟨_,_,_,rfl⟩|_=>rw[hk]at h1;cases h1
  ·rcases g6 with⟨g6,g7⟩|⟨⟨g6,g7⟩,g8⟩;·refine .inl ?_;cases hk:y.k with|alloc zs=>exact⟨zs,rfl,by simpa using g7⟩|_=>rw[hk]at g6;cases g6
   ·refine .inr ⟨g6,fun d0 h0=>?_,fun t ht=>?_⟩;·rw[hd]at h0;cases h0;simpa using g7
    ·have:=(List.all_eq_true.1 g8) t (by simpa using ht);simpa using this
 ·cases h5
theorem mU {d:Option Nat}{t:Nat}{o:AO}{st:St}:(bz.app t o).on d st=⟨Ab.put d (.own t) (cb t st.vars),aH t o (cQ t st.aa)⟩:=rfl
theorem ij {d:Option Nat}{v:AV}{os:List (Nat×AO)}{st:St}:(bz.new v os).on d st=⟨Ab.put d v st.vars,bk os st.aa⟩:=rfl
section
variable{P:Program}{Γ:bI}{x y:AI}{st:St}{e e':bz}
theorem Yi.Bz {vars vars':Nat→AV}{aa:Nat→Option AO} (hvs:∀s∈cu y,vars s=vars' s) (h:Yi P Γ y ⟨vars,aa⟩ e):Yi P Γ y ⟨vars',aa⟩ e:=by have hev:y.xs.map (Ab.ev vars)=y.xs.map (Ab.ev vars'):=eX fun s hs=>hvs s (List.mem_append_left _ hs);obtain⟨h1,h2,h3⟩:=h;simp only at h1 h2;exact⟨by simp only[←hev];exact h1,dj hvs h2,h3⟩
theorem PQ (hap:yl x y) (hx:Yi P Γ x st e) (hy:Yi P Γ y (e.on x.d st) e'):∃e1 e2,Yi P Γ y st e1∧Yi P Γ x (e1.on y.d st) e2∧e2.on x.d (e1.on y.d st)=e'.on y.d (e.on x.d st):=by
 obtain⟨ea,sz,b,hxk⟩:=hap.app;obtain⟨d,d',hd,hd',hu1,hu2,hdd,hlt,hlt'⟩:=hap.ds;have hcd:∀s,x.d=some s→y.d≠some s:=fun s h1 h2=>hdd (by rw[hd]at h1;rw[hd']at h2;cases h1;cases h2;rfl);have hvx:∀(v:AV) (f:Nat→AV),∀s∈cu y,Ab.put x.d v f s=f s:=fun v f s hs=>mE fun h=>hu1 (by rw[hd]at h;cases h;exact hs);have hvy:∀(v:AV) (f:Nat→AV),∀s∈cu x,Ab.put y.d v f s=f s:=fun v f s hs=>mE fun h=>hu2 (by rw[hd']at h;cases h;exact hs);have hxs:aS P Γ x.d (.app ea sz b) (x.xs.map (Ab.ev st.vars)) st.aa fun e1=>e1=e:=by have:=hx.2.1;unfold cX at this;rw[hap.xg,hxk]at this;exact this
 have hinv:=Fb hxs;rcases hap.kd with⟨zs,hyk,hyx⟩|⟨hyk,hun1,hun2⟩;·
  have hys:ah y.d fun d=>al []∧ah (ck (.alloc zs) d [] (e.on x.d st).aa) fun r=>r.1∧(e.on x.d st).aa d=none∧bz.new r.2.1 [(d,r.2.2)]=e':=by have:=hy.2.1;unfold cX at this;rw[hap.yg,hyk,hyx]at this;exact this
  rw[hd']at hys;obtain⟨_,hys⟩:=hys;obtain⟨r,hr,hφ,hn,rfl⟩:=ae hys;have hr0:r=(True,.ptr d' 0,.box (zs.map cv))∧zs.all (·.oneCell')=true:=by
   simp only[ck]at hr;split at hr;·rename_i hz;cases hr;exact⟨rfl,hz⟩
   ·cases hr
  obtain⟨rfl,hz⟩:=hr0;have hn0:st.aa d'=none:=by
   rcases hinv with⟨t,X,r,more,_,_,_,rfl⟩|⟨dd,X,rows,h1,_,_,_,rfl⟩
   ·rw[mU]at hn;simp only[aH]at hn;split at hn;·cases hn
    ·simpa[cQ]using hn
   ·rw[ij,bZ]at hn;simp only[aH]at hn;split at hn;·cases hn
    ·exact hn
  have hyi:Yi P Γ y st (.new (.ptr d' 0) [(d',.box (zs.map cv))]):=by
   refine⟨?_,?_,hy.2.2⟩;·rw[hyx];exact .inr trivial
   ·unfold cX;rw[hap.yg,hyk,hyx,hd'];exact⟨trivial,by show ah (ck (.alloc zs) d' [] st.aa) _;rw[show ck (.alloc zs) d' [] st.aa=some (True,.ptr d' 0,.box (zs.map cv)) from by simp only[ck];rw[if_pos hz]];exact⟨trivial,hn0,rfl⟩⟩
  have hsub:∀s o,st.aa s=some o→bk [(d',.box (zs.map cv))] st.aa s=some o:=by
   intro s o hs;rw[bZ];simp only[aH];split;·rename_i h;subst h;rw[hn0]at hs;cases hs
   ·exact hs
  have hxi:Yi P Γ x ((bz.new (.ptr d' 0) [(d',.box (zs.map cv))]).on y.d st) e:=by
   refine Yi.Bz (vars:=st.vars) (fun s hs=>(hvy _ _ s hs).symm) ⟨?_,?_,hx.2.2⟩
   ·refine hx.1.imp id fun hm=>?_;rcases hinv with⟨t,X,r,more,h1,_,h3,_⟩|⟨dd,X,rows,_,h1,h3,_,_⟩;·rw[h1]at hm ⊢;exact⟨hm.1,rE h3 hm.2.1,trivial⟩
    ·rw[h1]at hm ⊢;exact⟨trivial,rE h3 hm.2.1,trivial⟩
   ·unfold cX;rw[hap.xg,hxk];refine EG hsub (fun dd h1 h2=>?_) hxs;rw[bZ];simp only[aH];rw[hd]at h1;cases h1;rw[if_neg hdd];exact h2
  refine⟨_,_,hyi,hxi,?_⟩;rcases hinv with⟨t,X,r,more,_,hob,_,rfl⟩|⟨dd,X,rows,_,_,_,_,rfl⟩
  ·have htd:d'≠t:=fun h=>by subst h;rw[hn0]at hob;cases hob
   rw[mU,ij,mU,ij];refine St.ext' ?_ ?_;·show Ab.put x.d (.own t) (cb t (Ab.put y.d (.ptr d' 0) st.vars))=Ab.put y.d (.ptr d' 0) (Ab.put x.d (.own t) (cb t st.vars));rw[mu];exact put_comm hcd
   ·show aH t _ (cQ t (bk [(d',.box (zs.map cv))] st.aa))=bk [(d',.box (zs.map cv))] (aH t _ (cQ t st.aa));rw[bZ,bZ];funext s;simp only[aH,cQ];by_cases h1:s=t;·subst h1;rw[if_pos rfl,if_neg (Ne.symm htd),if_pos rfl]
    ·rw[if_neg h1];by_cases h2:s=d';·subst h2;rw[if_pos rfl,if_pos rfl];simp[cZ,tp]
     ·rw[if_neg h2,if_neg h2,if_neg h1]
  ·rw[ij,ij,ij,ij];refine St.ext' (put_comm hcd) ?_;show bk [(dd,_)] (bk [(d',_)] st.aa)=bk [(d',_)] (bk [(dd,_)] st.aa);rename_i h1 _ _ _;rw[hd]at h1;cases h1;rw[bZ,bZ,bZ,bZ];funext s;simp only[aH];by_cases h1:s=d;·subst h1;rw[if_pos rfl,if_neg hdd,if_pos rfl]
   ·by_cases h2:s=d';·subst h2;rw[if_neg h1,if_pos rfl,if_pos rfl]
    ·rw[if_neg h1,if_neg h2,if_neg h2,if_neg h1]
 ·have hun0:y.un≠[]:=fun h=>by have:=hun1 d hd;rw[h]at this;simp at this
  have hny:=hy.1.resolve_left hun0;have hys:al (y.xs.map (Ab.ev (e.on x.d st).vars))∧ah (ak y.k ((y.xs.map (Ab.ev (e.on x.d st).vars)).map strip) (e.on x.d st).aa) fun r=>r.1∧bz.put r.2=e':=by have:=hy.2.1;unfold cX at this;rw[hap.yg]at this;cases hk:y.k with|load n=>rw[hk]at this;exact this|az off=>rw[hk]at this;exact this|_=>rw[hk]at hyk;cases hyk
  obtain⟨has,hys⟩:=hys;obtain⟨r,hr,hφ,rfl⟩:=ae hys;have hmk:∀{aa:Nat→Option AO}{vars:Nat→AV}{φ:Prop}{v:AV},al (y.xs.map (Ab.ev vars))→ak y.k ((y.xs.map (Ab.ev vars)).map strip) aa=some (φ,v)→φ→cX P Γ y vars aa fun e1=>e1=.put v:=by intro aa vars φ v h1 h2 h3;unfold cX;rw[hap.yg];cases hk:y.k with|load n=>rw[hk]at h2;exact⟨h1,by rw[h2];exact⟨h3,rfl⟩⟩|az off=>rw[hk]at h2;exact⟨h1,by rw[h2];exact⟨h3,rfl⟩⟩|_=>rw[hk]at hyk;cases hyk
  have htg:∀v,xK y.un y.tg (.put v):=fun v=>by rw[hap.yt];exact And.intro trivial trivial
  obtain⟨X1,hX1,hcase⟩:=Cd hyk hr;rcases hinv with⟨t,X,rr,more,hargs,hob,_,rfl⟩|⟨dd,X,rows,h1,_,_,hnone,rfl⟩
  ·rw[mU]at hr has hny hX1;simp only at hr has hny hX1;have hev:y.xs.map (Ab.ev (Ab.put x.d (.own t) (cb t st.vars)))=(y.xs.map (Ab.ev st.vars)).map (kill t):=by rw[eX (vars:=Ab.put x.d (.own t) (cb t st.vars)) (vars':=cb t st.vars) fun s hs=>hvx _ _ s (List.mem_append_left _ hs),jP]
   rw[hev]at hr has hny hX1;rw[iP]at has;obtain⟨A,hA⟩:∃A,y.xs.map (Ab.ev st.vars)=[A]:=by
    have:((y.xs.map (Ab.ev st.vars)).map (kill t)).length=1:=by have:=congrArg List.length hX1;simpa using this
    simp only[List.length_map]at this;obtain⟨z,hz⟩:=List.length_eq_one_iff.1 this;exact⟨Ab.ev st.vars z,by rw[hz];rfl⟩
   rw[hA]at hr has hny hX1;simp only[List.map_cons,List.map_nil,iR,List.cons.injEq,and_true]at hr hny hX1;obtain⟨u,hu,hvu⟩:=A5 hyk (rows:=rr.2) (rows':=rr.2++more) hob hr;have htu:iF y.un t:=by have h0:x.un.contains (t%1000+1000)=false:=hx.2.2.2;unfold iF;cases hc:y.un.contains (t%1000) with|false=>rfl|true=>rw[hun2 _ hc]at h0;cases h0
   have hyi:Yi P Γ y st (.put u):=by
    refine⟨.inr ?_,hmk (by rw[hA];exact has) (by rw[hA];exact hu) hφ,htg _⟩;rw[hA];refine⟨?_,trivial⟩;have hn1:=hny.1;rcases hcase with⟨s,o,rfl⟩|⟨s,e1,i,o,rfl⟩|⟨cs,rfl⟩
    ·have h9:=qG hX1;show oi y.un st.aa (strip A);rw[h9];rw[hX1]at hn1;refine⟨hn1.1,?_⟩;have h8:=hn1.2;unfold aH at h8;by_cases hst:s=t;·subst hst;rw[hob];trivial
     ·rw[if_neg hst]at h8;unfold cQ at h8;cases hos:st.aa s with|none=>trivial|some q=>rw[hos]at h8;cases q with|box cs=>exact mO htu h8|arr e rows=>trivial|map es=>trivial|rws e cs=>trivial|fO es=>trivial|lV rem cur=>trivial
    ·have h9:=(np hX1).1;show oi y.un st.aa (strip A);rw[h9];rw[hX1]at hn1;exact hn1
    ·have h9:=ub hX1;show oi y.un st.aa (strip A);rw[h9];trivial
   refine⟨_,_,hyi,Yi.Bz (vars:=st.vars) (fun s hs=>(hvy _ _ s hs).symm) hx,?_⟩;rw[mU];refine St.ext' ?_ rfl;show Ab.put x.d (.own t) (cb t (Ab.put y.d u st.vars))=Ab.put y.d r.2 (Ab.put x.d (.own t) (cb t st.vars));rw[mu,hvu];exact put_comm hcd
  ·rw[hd]at h1;cases h1;rw[ij]at hr has hny hX1;simp only at hr has hny hX1;have hev:y.xs.map (Ab.ev (Ab.put x.d (.own d) st.vars))=y.xs.map (Ab.ev st.vars):=eX fun s hs=>hvx _ _ s (List.mem_append_left _ hs);rw[hev]at hr has hny hX1;rw[hX1]at hr hny;have hnd:¬iF y.un d:=fun h=>by unfold iF at h;rw[Nat.mod_eq_of_lt hlt,hun1 d hd]at h;cases h
   have hsame:∀s,iF y.un s→bk [(d,AO.arr ea rows)] st.aa s=st.aa s:=by intro s hs;rw[bZ];simp only[aH];rw[if_neg (fun h:s=d=>hnd (by rw[←h];exact hs))]
   have hgo:ak y.k [X1] st.aa=some r∧oi y.un st.aa X1:=by
    have hn1:=hny.1;rcases hcase with⟨s,o,rfl⟩|⟨s,e1,i,o,rfl⟩|⟨cs,rfl⟩
    ·have hs:=hsame s hn1.1;refine⟨?_,?_⟩;·cases hk:y.k with|load n=>rw[hk]at hr;cases n<;>(simp only[ak,hs]at hr ⊢;exact hr)|az off=>rw[hk]at hr;exact hr|_=>rw[hk]at hyk;cases hyk
     ·have:=hn1.2;rw[hs]at this;exact⟨hn1.1,this⟩
    ·have hs:=hsame s hn1;refine⟨?_,hn1⟩;cases hk:y.k with|load n=>rw[hk]at hr;cases n<;>(simp only[ak,hs]at hr ⊢;exact hr)|az off=>rw[hk]at hr;exact hr|_=>rw[hk]at hyk;cases hyk
    ·refine⟨?_,trivial⟩;cases hk:y.k with|load n=>rw[hk]at hr;cases n<;>cases cs<;>exact hr|az off=>rw[hk]at hr;exact hr|_=>rw[hk]at hyk;cases hyk
   have hyi:Yi P Γ y st (.put r.2):=⟨.inr (by rw[hX1];exact⟨hgo.2,trivial⟩),hmk has (by rw[hX1];exact hgo.1) hφ,htg _⟩;refine⟨_,_,hyi,Yi.Bz (vars:=st.vars) (fun s hs=>(hvy _ _ s hs).symm) hx,?_⟩;rw[ij];exact St.ext' (put_comm hcd) rfl
end
def Xo (x y:AI):Prop:=yE x y∨yl x y
theorem vm {x y:AI} (h:qp x y=true):Xo x y:=by
 unfold qp at h;rcases Bool.or_eq_true_iff.1 h with h|h;·exact .inl (apart_spec h)
 ·exact .inr (vI h)
section
variable{P:Program}{Γ:bI}{x y:AI}{st:St}{e e':bz}
theorem Yi.vars {vars vars':Nat→AV}{aa:Nat→Option AO} (hvs:∀s∈cu y,vars s=vars' s) (h:Yi P Γ y ⟨vars,aa⟩ e):Yi P Γ y ⟨vars',aa⟩ e:=by have hev:y.xs.map (Ab.ev vars)=y.xs.map (Ab.ev vars'):=eX fun s hs=>hvs s (List.mem_append_left _ hs);obtain⟨h1,h2,h3⟩:=h;simp only at h1 h2;exact⟨by simp only[←hev];exact h1,dj hvs h2,h3⟩
theorem uw (e:bz):plain e∨∃t o,e=.app t o:=by cases e<;>first|exact .inl trivial|exact .inr ⟨_,_,rfl⟩
theorem lY.plain {i:AI} (h:lY i e) (ha:isApp i.k=false):plain e:=by
 rcases uw e with hp|⟨t,o,rfl⟩;·exact hp
 ·rcases h with⟨v,h⟩|⟨_,_,_,_,_,h,_⟩|⟨_,_,_,_,h⟩|⟨h,_⟩;·cases h
  ·cases h
  ·cases h
  ·rw[ha]at h;cases h
theorem tc {i:AI}{t:Nat}{o:AO} (h:lY i (.app t o)):isApp i.k=true:=by
 rcases h with⟨v,h⟩|⟨_,_,_,_,_,h,_⟩|⟨_,_,_,_,h⟩|⟨h,_⟩;·cases h
 ·cases h
 ·cases h
 ·exact h
theorem yf (hap:yE x y) (hx:aF x.k=false) (hy:aF y.k=false):∀t,(bQ x).contains t=true→(bQ y).contains t=true→False:=by
 intro t h1 h2;have hb:=hap.both;unfold bQ at h1 h2;split at h1
 ·have hxd:x.d=some t:=by cases h:x.d<;>rw[h]at h1<;>simp_all
  obtain⟨_,a2,a3,_⟩:=hap.xd t hxd;split at h2;·exact a2 (by cases h:y.d<;>rw[h]at h2<;>simp_all)
  ·split at h2;·exact a3 (by cases h:y.tg<;>rw[h]at h2<;>simp_all)
   ·simp at h2
 ·split at h1
  ·rename_i hw;have hxt:x.tg=some t:=by cases h:x.tg<;>rw[h]at h1<;>simp_all
   split at h2
   ·have hyd:y.d=some t:=by cases h:y.d<;>rw[h]at h2<;>simp_all
    exact(hap.yd t hyd).2.1 hxt
   ·split at h2
    ·rename_i hw2;have hyt:y.tg=some t:=by cases h:y.tg<;>rw[h]at h2<;>simp_all
     rcases hb with h|h|h|h|h;·rw[hx]at h;cases h
     ·rw[hy]at h;cases h
     ·rw[hw]at h;cases h
     ·rw[hw2]at h;cases h
     ·exact h (hxt.trans hyt.symm)
    ·simp at h2
  ·simp at h1
theorem swap (hap:yE x y) (hx:Yi P Γ x st e) (hy:Yi P Γ y (e.on x.d st) e'):∃e1 e2,Yi P Γ y st e1∧Yi P Γ x (e1.on y.d st) e2∧e2.on x.d (e1.on y.d st)=e'.on y.d (e.on x.d st):=by
 have hex:=vl hx.2.1;have hey:=vl hy.2.1;have hux:∀d,x.d=some d→d∉cu y:=fun d hd=>(hap.xd d hd).1;have huy:∀d,y.d=some d→d∉cu x:=fun d hd=>(hap.yd d hd).1;have hcd:∀s,x.d=some s→y.d≠some s:=fun d hd=>(hap.xd d hd).2.1;have hvx:∀(v:AV) (f:Nat→AV),∀s∈cu y,Ab.put x.d v f s=f s:=fun v f s hs=>mE fun hd=>hux s hd hs;have hvy:∀(v:AV) (f:Nat→AV),∀s∈cu x,Ab.put y.d v f s=f s:=fun v f s hs=>mE fun hd=>huy s hd hs;have hydd:∀d,y.d=some d→x.d≠some d∧x.tg≠some d∧d<1000:=fun d hd=>⟨fun h=>hcd d h hd,(hap.yd d hd).2.1,(hap.yd d hd).2.2⟩;have hxdd:∀d,x.d=some d→y.d≠some d∧y.tg≠some d∧d<1000:=fun d hd=>⟨(hap.xd d hd).2.1,(hap.xd d hd).2.2.1,(hap.xd d hd).2.2.2⟩;have hagx:∀T,(∀t,iF T t→iF (bQ x) t)→(isApp x.k=false∧(writes x.k=true→∃s,x.tg=some s)∧∀t∈bQ x,t<1000)→∀t,iF T t→mH (ov e) st.aa t=st.aa t:=fun T hT h t ht=>(pf hex hx.2.2.1 h.2.2 hT h.2.1 h.1 t ht).symm;have hagy:∀T,(∀t,iF T t→iF (bQ y) t)→(isApp y.k=false∧(writes y.k=true→∃s,y.tg=some s)∧∀t∈bQ y,t<1000)→∀t,iF T t→mH (ov e') st.aa t=st.aa t:=fun T hT h t ht=>(pf hey hy.2.2.1 h.2.2 hT h.2.1 h.1 t ht).symm;by_cases hxa:aF x.k=true;·
  obtain⟨⟨v,rfl⟩,hxo⟩:=cV hxa hx.2.1;have hy0:Yi P Γ y st e':=Yi.vars (hvx v st.vars) hy;have htg:x.tg=none:=by have:=hx.2.2.1;cases h:x.tg with|none=>rfl|some s=>rw[h]at this;exact this.elim
  rcases uw e' with hp|⟨t,o,rfl⟩
  ·refine⟨e',.put v,hy0,?_,?_⟩;·rw[db hp];exact(Yi.tG hap.xa (.inl hxa) hxdd huy hagy).2 hx
   ·rw[db hp,db hp];exact St.ext' (put_comm hcd) rfl
  ·have hun:x.un=[]:=by
    rcases hap.xa with h|h;·exact h.2
    ·have:=tc hey;rw[h.1]at this;cases this
   obtain⟨u,hu,hk⟩:=qM hxa hx.2.1;cases hu;refine⟨.app t o,.put (kill t v),hy0,⟨.inl hun,dj (fun s hs=>(hvy _ _ s hs).symm) (hk t _),by rw[htg];exact And.intro trivial trivial⟩,?_⟩;refine St.ext' ?_ rfl;show Ab.put x.d (kill t v) (Ab.put y.d (.own t) (cb t st.vars))=Ab.put y.d (.own t) (cb t (Ab.put x.d v st.vars));rw[mu];exact put_comm hcd
 ·have hxa':aF x.k=false:=by simpa using hxa
  have hyr:isApp y.k=false∧(writes y.k=true→∃s,y.tg=some s)∧∀t∈bQ y,t<1000∧x.un.contains t=true:=by
   rcases hap.xa with h|h;·exact absurd h.1 hxa
   ·exact h
  have hpy:plain e':=hey.plain hyr.1;by_cases hya:aF y.k=true
  ·obtain⟨⟨v,rfl⟩,hyo⟩:=cV hya hy.2.1;rcases uw e with hp|⟨t,o,rfl⟩
   ·have hy0:Yi P Γ y st (.put v):=by rw[db hp]at hy;exact(Yi.tG hap.ya (.inl hya) hydd hux hagx).1 hy
    refine⟨.put v,e,hy0,Yi.vars (fun s hs=>(hvy _ _ s hs).symm) hx,?_⟩;rw[db hp,db hp];exact St.ext' (put_comm hcd) rfl
   ·have hun:y.un=[]:=by
     rcases hap.ya with h|h;·exact h.2
     ·have:=tc hex;rw[h.1]at this;cases this
    have htg:y.tg=none:=by have:=hy.2.2.1;cases h:y.tg with|none=>rfl|some s=>rw[h]at this;exact this.elim
    have hk:=dj (vars':=cb t st.vars) (hvx _ _) hy.2.1;obtain⟨u,hu,hk'⟩:=nD hya hk;cases hu;refine⟨.put u,.app t o,⟨.inl hun,hk' _,by rw[htg];exact And.intro trivial trivial⟩,Yi.vars (fun s hs=>(hvy _ _ s hs).symm) hx,?_⟩;refine St.ext' ?_ rfl;show Ab.put x.d (.own t) (cb t (Ab.put y.d u st.vars))=Ab.put y.d (kill t u) (Ab.put x.d (.own t) (cb t st.vars));rw[mu];exact put_comm hcd
  ·have hya':aF y.k=false:=by simpa using hya
   have hxr:isApp x.k=false∧(writes x.k=true→∃s,x.tg=some s)∧∀t∈bQ x,t<1000∧y.un.contains t=true:=by
    rcases hap.ya with h|h;·exact absurd h.1 hya
    ·exact h
   have hpx:plain e:=hex.plain hxr.1;have hy0:Yi P Γ y st e':=by rw[db hpx]at hy;exact(Yi.tG hap.ya (.inr hyr.1) hydd hux hagx).1 hy
   refine⟨e',e,hy0,?_,?_⟩;·rw[db hpy];exact(Yi.tG hap.xa (.inr hxr.1) hxdd huy hagy).2 hx
   ·rw[db hpx,db hpy,db hpx,db hpy];refine St.ext' (put_comm hcd) (AB fun t=>?_);cases h1:ov e t with|none=>exact .inl rfl|some o1=>cases h2:ov e' t with|none=>exact .inr rfl|some o2=>
     refine(yf hap hxa' hya' (t%1000) ?_ ?_).elim;·exact ug hex hx.2.2.1 (fun t ht=>(hxr.2.2 t ht).1) hxr.2.1 hxr.1 (by rw[h1];simp)
     ·exact ug hey hy.2.2.1 (fun t ht=>(hyr.2.2 t ht).1) hyr.2.1 hyr.1 (by rw[h2];simp)
theorem swapT (hap:Xo x y) (hx:Yi P Γ x st e) (hy:Yi P Γ y (e.on x.d st) e'):∃e1 e2,Yi P Γ y st e1∧Yi P Γ x (e1.on y.d st) e2∧e2.on x.d (e1.on y.d st)=e'.on y.d (e.on x.d st):=hap.elim (fun h=>swap h hx hy) fun h=>PQ h hx hy
end
section
variable{P:Program}{Γ:bI}{ops:Array Oper}{is:Array AI}
def YF (P:Program) (Γ:bI) (is:Array AI) (i:Nat) (K:St→Prop) (st:St):Prop:=match is[i]? with|some x=>cw P Γ x K st|none=>K st
theorem qo {i:AI}{K K':St→Prop}{st:St} (h:∀st,K st→K' st) (hh:cw P Γ i K st):cw P Γ i K' st:=by rw[b9]at hh ⊢;obtain⟨e,he,hK⟩:=hh;exact⟨e,he,h _ hK⟩
def Wp (P:Program) (Γ:bI) (ops:Array Oper) (is:Array AI) (Q:St→Prop):Nat→Array Bool→St→Prop|0,listed,st=>Region.ready .any ops listed=[]∧Q st|fuel+1,listed,st=>(Region.ready .any ops listed=[]→Q st)∧∀i∈Region.ready .any ops listed,YF P Γ is i (Wp P Γ ops is Q fuel (listed.setIfInBounds i true)) st
def m8 (ops:Array Oper) (listed:Array Bool):Prop:=∀j o,ops[j]?=some o→listed.getD j false=true→∀e∈o.after,Region.binds .any e=true→listed.getD e.on false=true
theorem m8.set {listed:Array Bool}{i:Nat} (h:m8 ops listed) (hi:i∈Region.ready .any ops listed):m8 ops (listed.setIfInBounds i true):=by
 intro j o hj hl e he hb;obtain⟨h0,o',ho',hall⟩:=mem_ready.1 hi;by_cases hij:i=j;·subst hij;rw[hj]at ho';cases ho';exact getD_set_true (hall e he hb)
 ·rw[getD_set_ne false hij]at hl;exact getD_set_true (h j o hj hl e he hb)
theorem chain {n:Nat} (hch:∀j,j<n→∀i,i<j→jM ops i j=true) {listed:Array Bool} (hc:m8 ops listed) {i:Nat}:∀j,j<n→i<j→bits ops i j=true→(∃o,ops[j]?=some o∧∀e∈o.after,Region.binds .any e=true→listed.getD e.on false=true)→listed.getD i false=true:=by intro j;induction j using Nat.strongRecOn with|_ j ih=>
 rintro hjn hij hb ⟨o,ho,hall⟩;have h:=hch j hjn i hij;unfold jM at h;rw[hb,ho]at h;simp only[Bool.not_true,Bool.false_or]at h;obtain⟨q,hq,h⟩:=Array.any_eq_true.1 h;have he:o.after[q]∈o.after:=Array.getElem_mem hq;generalize o.after[q]=e at h he;simp only[Bool.and_eq_true,Bool.or_eq_true,beq_iff_eq,decide_eq_true_eq]at h;obtain⟨hbe,h⟩:=h;have hl:=hall e he hbe;rcases h with rfl|⟨⟨h1,h2⟩,h3⟩;·exact hl
 ·cases hk:ops[e.on]? with|none=>
   exfalso;unfold bits at h3;have hlt:¬e.on<ops.size:=by intro hlt;rw[Array.getElem?_eq_getElem hlt]at hk;cases hk
   have hjlt:j<ops.size:=(Array.getElem?_eq_some_iff.1 ho).1;omega|some o'=>exact ih e.on h2 (by omega) h1 h3 ⟨o',hk,fun e' he' hb'=>hc e.on o' hk hl e' he' hb'⟩
def dH (n k:Nat):Array Bool:=((List.range n).map fun j=>decide (j<k)).toArray
theorem eS {n k j:Nat} (d:Bool) (h:j<n):(dH n k).getD j d=decide (j<k):=by simp[dH,h]
theorem wG {n k:Nat} (h:k<n):(dH n k).setIfInBounds k true=dH n (k+1):=by
 apply Array.ext;·simp[dH]
 ·intro j h1 h2;have hj:j<n:=by simpa[dH]using h2
  by_cases hjk:j=k;·subst hjk;simp[dH,h]
  ·rw[Array.getElem_setIfInBounds_ne (by simpa[dH]using hj) (Ne.symm hjk)];simp only[dH,List.getElem_toArray,List.getElem_map,List.getElem_range,decide_eq_decide];omega
def anyS (S:Nat→(St→Prop)→St→Prop) (ops:Array Oper) (Q:St→Prop):Nat→Array Bool→St→Prop|0,listed,st=>Region.ready .any ops listed=[]∧Q st|fuel+1,listed,st=>(Region.ready .any ops listed=[]→Q st)∧∀i∈Region.ready .any ops listed,S i (anyS S ops Q fuel (listed.setIfInBounds i true)) st
theorem rf {S:Nat→(St→Prop)→St→Prop}{Q:St→Prop}{i:Nat} (hmono:∀(j:Nat) (K K':St→Prop) (st:St),(∀st,K st→K' st)→S j K st→S j K' st) (hstrict:∀(j:Nat) (st:St),¬S j (fun _=>False) st) (hch:∀j,j<ops.size→∀i,i<j→jM ops i j=true) (un:Nat→Prop) (hsw:∀(j:Nat) (K:St→Prop) (st:St),j<ops.size→un j→(i<j→bits ops i j=false)→S i (S j K) st→S j (S i K) st):∀(fuel:Nat) (listed:Array Bool) (st:St),m8 ops listed→(∀j,j<ops.size→listed.getD j true=false→j≠i→un j)→listed.size=ops.size→i∈Region.ready .any ops listed→S i (anyS S ops Q fuel (listed.setIfInBounds i true)) st→anyS S ops Q (fuel+1) listed st:=by intro fuel;induction fuel with
 |zero=>
  intro listed st hc hlt hls hr H;refine⟨fun h=>(by rw[h]at hr;cases hr),fun j hj=>?_⟩;by_cases hji:j=i;·subst hji;exact H
  ·exfalso;refine hstrict i st (hmono i _ _ st (fun st' h=>?_) H);have:=ready_mono hj hji;rw[h.1]at this;cases this|succ fuel ih=>
  intro listed st hc hlt hls hr H;refine⟨fun h=>(by rw[h]at hr;cases hr),fun j hj=>?_⟩;by_cases hji:j=i;·subst hji;exact H
  ·obtain⟨hjun,oj,hoj,hall⟩:=mem_ready.1 hj;have hjlt:j<ops.size:=(Array.getElem?_eq_some_iff.1 hoj).1;have hij:=hlt j hjlt hjun hji;have hiun:=(mem_ready.1 hr).1;have hilt:i<ops.size:=by obtain⟨_,o,ho,_⟩:=mem_ready.1 hr;exact(Array.getElem?_eq_some_iff.1 ho).1
   have hbits:i<j→bits ops i j=false:=by intro hij;cases hb:bits ops i j with|false=>rfl|true=>
    have h1:=chain hch hc j hjlt hij hb ⟨oj,hoj,hall⟩;have hilt:i<listed.size:=by omega
    simp[hilt]at h1 hiun;rw[hiun]at h1;cases h1
   have h1:=hsw j _ st hjlt hij hbits (hmono i _ _ st (fun st' h=>h.2 j (ready_mono hj hji)) H);refine hmono j _ _ st (fun st' h=>?_) h1;refine ih (listed.setIfInBounds j true) st' (hc.set hj) ?_ (by simpa using hls) (ready_mono hr (Ne.symm hji)) ?_
   ·intro k hk hun hki;by_cases hjk:j=k;·subst hjk;exact hij
    ·rw[getD_set_ne true hjk]at hun;exact hlt k hk hun hki
   ·rw[Array.setIfInBounds_comm _ _ (Ne.symm hji)]at h;exact h
def ze (S:Nat→(St→Prop)→St→Prop) (Q:St→Prop):Nat→Nat→St→Prop|0,_,st=>Q st|m+1,k,st=>S k (ze S Q m (k+1)) st
theorem By {S:Nat→(St→Prop)→St→Prop}{Q:St→Prop} (hmono:∀(j:Nat) (K K':St→Prop) (st:St),(∀st,K st→K' st)→S j K st→S j K' st) (hstrict:∀(j:Nat) (st:St),¬S j (fun _=>False) st) (hch:∀j,j<ops.size→iH ops j=true∧∀i,i<j→jM ops i j=true) (hsw:∀(i j:Nat) (K:St→Prop) (st:St),j<ops.size→i<j→bits ops i j=false→S i (S j K) st→S j (S i K) st):∀(m k:Nat) (st:St),k+m=ops.size→ze S Q m k st→anyS S ops Q m (dH ops.size k) st:=by intro m;induction m with
 |zero=>intro k st hk hs;refine⟨?_,hs⟩;cases hr:Region.ready .any ops (dH ops.size k) with|nil=>rfl|cons j js=>
   have hj:j∈Region.ready .any ops (dH ops.size k):=by rw[hr];exact List.mem_cons_self
   obtain⟨h0,o,ho,_⟩:=mem_ready.1 hj;have hjlt:j<ops.size:=(Array.getElem?_eq_some_iff.1 ho).1;rw[eS true hjlt]at h0;simp only[decide_eq_false_iff_not]at h0;omega
 |succ m ih=>
  intro k st hk hs;have hko:k<ops.size:=by omega
  have hearly:∀j o,ops[j]?=some o→∀e∈o.after,Region.binds .any e=true→e.on<j:=by
   intro j o ho e he hb;have h:=(hch j (Array.getElem?_eq_some_iff.1 ho).1).1;unfold iH at h;rw[ho]at h;simp only[Array.all_eq_true_iff_forall_mem,Bool.or_eq_true,Bool.not_eq_true',decide_eq_true_eq]at h;rcases h e he with h|h;·rw[hb]at h;cases h
   ·exact h
  refine rf hmono hstrict (fun j hj i hij=>(hch j hj).2 i hij) (fun j=>k<j) (fun j K st hj hij hb=>hsw k j K st hj hij (hb hij)) m (dH ops.size k) st ?_ ?_ (by simp[dH]) ?_ ?_;·intro j o ho hl e he hb;have hjlt:=(Array.getElem?_eq_some_iff.1 ho).1;rw[eS false hjlt]at hl;simp only[decide_eq_true_eq]at hl;have:=hearly j o ho e he hb;rw[eS false (by omega)];simp only[decide_eq_true_eq];omega
  ·intro j hj hun hne;rw[eS true hj]at hun;simp only[decide_eq_false_iff_not]at hun;omega
  ·refine mem_ready.2 ⟨by rw[eS true hko];simp,ops[k],by rw[Array.getElem?_eq_getElem hko],fun e he hb=>?_⟩;have:=hearly k ops[k] (by rw[Array.getElem?_eq_getElem hko]) e he hb;rw[eS false (by omega)];simpa using this
  ·rw[wG hko];exact hmono k _ _ st (fun st' h=>ih (k+1) st' (by omega) h) hs
def CE (S:Nat→(St→Prop)→St→Prop) (Q:St→Prop):List Nat→St→Prop|[],st=>Q st|i::l,st=>S i (CE S Q l) st
def cg (n:Nat) (pre:List Nat):Array Bool:=((List.range n).map fun j=>pre.contains j).toArray
theorem ft {n j:Nat}{pre:List Nat} (d:Bool) (h:j<n):(cg n pre).getD j d=pre.contains j:=by simp[cg,h]
theorem va {n k:Nat}{pre:List Nat} (h:k<n):(cg n pre).setIfInBounds k true=cg n (k::pre):=by
 apply Array.ext;·simp[cg]
 ·intro j h1 h2;have hj:j<n:=by simpa[cg]using h2
  by_cases hjk:j=k;·subst hjk;simp[cg,h]
  ·rw[Array.getElem_setIfInBounds_ne (by simpa[cg]using hj) (Ne.symm hjk)];have:¬k=j:=fun e=>hjk e.symm;simp[cg,hjk]
theorem B6 {S:Nat→(St→Prop)→St→Prop}{Q:St→Prop}{ks:Array AI} (hmono:∀(j:Nat) (K K':St→Prop) (st:St),(∀st,K st→K' st)→S j K st→S j K' st) (hstrict:∀(j:Nat) (st:St),¬S j (fun _=>False) st) (hch:∀j,j<ops.size→iH ops j=true∧∀i,i<j→jM ops i j=true) (hsw:∀(i j:Nat) (K:St→Prop) (st:St),(∃x y,ks[i]?=some x∧ks[j]?=some y∧qp x y=true)→S i (S j K) st→S j (S i K) st):∀(l pre:List Nat) (st:St),(∀j,j<ops.size→pre.contains j=false→j∈l)→(∀j∈l,j<ops.size)→(∀j,pre.contains j=true→j<ops.size)→m8 ops (cg ops.size pre)→DW ops ks pre l=true→CE S Q l st→anyS S ops Q l.length (cg ops.size pre) st:=by intro l;induction l with
 |nil=>intro pre st hall _ _ _ _ hs;refine⟨?_,hs⟩;cases hr:Region.ready .any ops (cg ops.size pre) with|nil=>rfl|cons j js=>
   have hj:j∈Region.ready .any ops (cg ops.size pre):=by rw[hr];exact List.mem_cons_self
   obtain⟨h0,o,ho,_⟩:=mem_ready.1 hj;have hjlt:j<ops.size:=(Array.getElem?_eq_some_iff.1 ho).1;rw[ft true hjlt]at h0;have:=hall j hjlt h0;cases this
 |cons i l ih=>
  intro pre st hall hlt hpre hcl hord hs;unfold DW at hord;simp only[Bool.and_eq_true]at hord;obtain⟨⟨⟨h1,h2⟩,h3⟩,h4⟩:=hord;have hio:i<ops.size:=hlt i List.mem_cons_self;have hipre:pre.contains i=false:=by simpa using h2
  have hready:i∈Region.ready .any ops (cg ops.size pre):=by
   refine mem_ready.2 ⟨by rw[ft true hio];exact hipre,ops[i],by rw[Array.getElem?_eq_getElem hio],fun e he hb=>?_⟩;rw[Array.getElem?_eq_getElem hio]at h1;simp only[Array.all_eq_true_iff_forall_mem,Bool.or_eq_true,Bool.not_eq_true']at h1;rcases h1 e he with h|h;·rw[hb]at h;cases h
   ·rw[ft false (hpre e.on h)];exact h
  have hset:(cg ops.size pre).setIfInBounds i true=cg ops.size (i::pre):=va hio;rw[List.all_eq_true]at h3;refine rf hmono hstrict (fun j hj i hij=>(hch j hj).2 i hij) (fun j=>j∈l) (fun j K st hj hjl hb=>hsw i j K st ?_) l.length (cg ops.size pre) st hcl ?_ (by simp[cg]) hready ?_
  ·have h5:=h3 j hjl;rw[Bool.or_eq_true]at h5;rcases h5 with h5|h5;·exfalso;simp only[Bool.and_eq_true,decide_eq_true_eq]at h5;rw[hb h5.1]at h5;cases h5.2
   ·split at h5;·rename_i x y hx hy;exact⟨x,y,hx,hy,h5⟩
    ·cases h5
  ·intro j hj hun hne;rw[ft true hj]at hun;rcases List.mem_cons.1 (hall j hj hun) with rfl|h;·exact absurd rfl hne
   ·exact h
  ·rw[hset];have hcl':=hcl.set hready;rw[hset]at hcl';refine hmono i _ _ st (fun st' h=>ih (i::pre) st' (fun j hj hun=>?_) (fun j hj=>hlt j (List.mem_cons_of_mem _ hj)) (fun j hj=>?_) hcl' h4 h) hs
   ·simp only[List.contains_cons,Bool.or_eq_false_iff,beq_eq_false_iff_ne]at hun;rcases List.mem_cons.1 (hall j hj hun.2) with rfl|h;·exact absurd rfl hun.1
    ·exact h
   ·simp only[List.contains_cons,Bool.or_eq_true,beq_iff_eq]at hj;rcases hj with rfl|h;·exact hio
    ·exact hpre j h
theorem wI {d:Option Nat}{f:FuncId}{xs:List AV}{p k:Nat}{K K':St→Prop}{st:St} (h:∀st,K st→K' st) (hs:jn P Γ d f xs p k K st):jn P Γ d f xs p k K' st:=by unfold jn at hs ⊢;obtain⟨d,hd,ha,hs⟩:=ae hs;obtain⟨X,hX,hs⟩:=ae hs;obtain⟨T,hT,ho,hs⟩:=ae hs;obtain⟨ys,hy,hs⟩:=ae hs;obtain⟨x,hx,h1,h2,h3,h4,hK⟩:=ae hs;rw[hd];refine⟨ha,?_⟩;rw[hX];show ah (fc st.aa k X) _;rw[hT];refine⟨ho,?_⟩;rw[hy];show ah (Γ (f+1000000) ys) _;rw[hx];exact⟨h1,h2,h3,h4,h _ hK⟩
theorem eV {d:Option Nat}{f:FuncId}{xs:List AV}{ks:Option (List Nat)}{K K':St→Prop}{st:St} (h:∀st,K st→K' st) (hs:stepG Γ d f xs ks K st):stepG Γ d f xs ks K' st:=by unfold stepG at hs;obtain⟨d,rfl,ha,hs⟩:=ae hs;obtain⟨ks,rfl,hT,hQ,hn,hs⟩:=ae hs;obtain⟨ys,hy,hs⟩:=ae hs;obtain⟨x,hx,h1,h2,hs⟩:=ae hs;obtain⟨o,ho,h3,hs⟩:=ae hs;obtain⟨r,hr,h4,hK⟩:=ae hs;refine⟨ha,hT,hQ,hn,?_⟩;rw[hy];show ah (Γ (f+2000000) ys) _;rw[hx];refine⟨h1,h2,?_⟩;rw[ho];refine⟨h3,?_⟩;rw[hr];exact⟨h4,h _ hK⟩
theorem ow {d:Option Nat}{f:FuncId}{xs:List AV}{ks:Option (List Nat)}{st:St} (hs:stepG Γ d f xs ks (fun _=>False) st):False:=by unfold stepG at hs;obtain⟨d,rfl,ha,hs⟩:=ae hs;obtain⟨ks,rfl,hT,hQ,hn,hs⟩:=ae hs;obtain⟨ys,hy,hs⟩:=ae hs;obtain⟨x,hx,h1,h2,hs⟩:=ae hs;obtain⟨o,ho,h3,hs⟩:=ae hs;obtain⟨r,hr,h4,hK⟩:=ae hs;exact hK
theorem vO {d:Option Nat}{xs:List AV}{K K':St→Prop}{st:St} (h:∀st,K st→K' st) (hs:eO P Γ d xs none K st):eO P Γ d xs none K' st:=by
 unfold eO at hs ⊢;obtain⟨ha,hs⟩:=hs;obtain⟨x,hx,hf,hs⟩:=ae hs;refine⟨ha,?_⟩;rw[hx];refine⟨hf,?_⟩;unfold dU at hs ⊢;split at hs
 ·split at hs;·rename_i h2;rw[if_pos h2];exact eV h hs
  ·exact hs.elim
 ·obtain⟨d,hd,ha,hs⟩:=ae hs;obtain⟨ys,hy,hs⟩:=ae hs;obtain⟨z,hz,h1,h2,h3,h4,hK⟩:=ae hs;unfold cf;subst hd;refine⟨ha,?_⟩;rw[hy];show ah (gt Γ x.1 ys) _;rw[hz];exact⟨h1,h2,h3,h4,h _ hK⟩
theorem gv {i:AI}{K K':St→Prop}{st:St} (h:∀st,K st→K' st) (hs:cp P Γ i K st):cp P Γ i K' st:=by
 unfold cp at hs ⊢;split at hs
 ·unfold fK at hs ⊢;split at hs
  ·split at hs;·rename_i h1;rw[if_pos h1];exact⟨hs.1,wI h hs.2⟩
   ·rename_i h1;rw[if_neg h1];split at hs;·rename_i h2;rw[if_pos h2];exact⟨hs.1,eV h hs.2⟩
    ·exact hs.elim
  ·exact qo h hs
 ·exact vO h hs
 ·exact qo h hs
theorem ml {i:AI}{st:St} (hs:cp P Γ i (fun _=>False) st):False:=by
 have hI:∀{i:AI},¬cw P Γ i (fun _=>False) st:=fun h=>by obtain⟨_,_,h⟩:=b9.1 h;exact h
 unfold cp at hs;split at hs
 ·unfold fK at hs;split at hs
  ·split at hs;·have hs:=hs.2;unfold jn at hs;obtain⟨_,_,_,hs⟩:=ae hs;obtain⟨_,_,hs⟩:=ae hs;obtain⟨_,_,_,hs⟩:=ae hs;obtain⟨_,_,hs⟩:=ae hs;obtain⟨_,_,_,_,_,_,hK⟩:=ae hs;exact hK
   ·split at hs;·exact ow hs.2
    ·exact hs
  ·exact hI hs
 ·unfold eO at hs;obtain⟨_,hs⟩:=hs;obtain⟨_,_,_,hs⟩:=ae hs;unfold dU at hs;split at hs
  ·split at hs;·exact ow hs
   ·exact hs
  ·obtain⟨_,_,_,hs⟩:=ae hs;obtain⟨_,_,hs⟩:=ae hs;obtain⟨_,_,_,_,_,_,hK⟩:=ae hs;exact hK
 ·exact hI hs
theorem cG {i:AI} (h:i.tg≠some 999999) {K:St→Prop}{st:St}:cp P Γ i K st=cw P Γ i K st:=by
 unfold cp;split;·rename_i h1 _;exact absurd h1 h
 ·rename_i h1 _;exact absurd h1 h
 ·rfl
theorem Bj {dd:Nat}{c:AV}{vars:Nat→AV}{xs:List Operand} (h:(tmpsOf xs).contains dd=false):xs.map (ev (put (some dd) c vars))=xs.map (ev vars):=by induction xs with|nil=>rfl|cons x xs ih=>cases x with|tmp t=>simp only[tmpsOf,List.contains_cons,Bool.or_eq_false_iff,beq_eq_false_iff_ne]at h;have ht:t≠dd:=fun e=>h.1 e.symm;rw[List.map_cons,List.map_cons,ih h.2];simp only[ev,put,if_neg ht]|const v=>simp only[tmpsOf]at h;rw[List.map_cons,List.map_cons,ih h];rfl|func f=>simp only[tmpsOf]at h;rw[List.map_cons,List.map_cons,ih h];rfl|global g=>simp only[tmpsOf]at h;rw[List.map_cons,List.map_cons,ih h];rfl
theorem DR (t:Nat) (v:Value):kill t (cv v)=cv v:=by unfold cv;split<;>rfl
theorem jR {d dd:Nat} (h:d≠dd) (r c:AV) (f:Nat→AV):put (some d) r (put (some dd) c f)=put (some dd) c (put (some d) r f):=by
 funext s;simp only[put];by_cases h1:s=d<;>by_cases h2:s=dd;·omega
 ·simp[h1,h]
 ·simp[h2,Ne.symm h]
 ·simp[h1,h2]
def kU (t:Nat) (x:AV) (c:AV):AV:=match dD x with|_::_=>c|[]=>kill t c
theorem zJ (t:Nat) (x:AV) (dd:Nat) (c:AV) (f:Nat→AV):fI t x (put (some dd) c f)=put (some dd) (kU t x c) (fI t x f):=by unfold fI kU;cases dD x with|cons y l=>rfl|nil=>funext s;simp only[cb,put];split<;>rfl
theorem EH (W:List Nat) (v:Value):eg W (cv v)=cv v:=by
 unfold eg;split;·rfl
 ·unfold cv;split<;>rfl
theorem tq (W:List Nat) (dd:Nat) (c:AV) (f:Nat→AV):fG W (put (some dd) c f)=put (some dd) (eg W c) (fG W f):=by funext s;simp only[fG,put];split<;>rfl
def vn (d:Option Nat):Operand→Prop|.const _=>True|.tmp s=>d≠some s|_=>False
theorem Ep {x:AI}{o:Operand} (h:Tq x o=true):vn x.d o:=by cases o with|const v=>trivial|tmp s=>have h:(x.d !=some s)=true:=h;simpa[vn]using h|func f=>cases h|global g=>cases h
theorem pc {d:Nat}{o:Operand} (h:vn (some d) o) (r:AV) (f:Nat→AV):ev (put (some d) r f) o=ev f o:=by cases o with|const v=>rfl|tmp s=>have:s≠d:=fun e=>h (by rw[e]);simp only[ev,put,if_neg this]|func f=>exact h.elim|global g=>exact h.elim
theorem Er {d:Option Nat}{o:Operand} (h:vn d o) (W:List Nat) (f:Nat→AV):ev (fG W f) o=eg W (ev f o):=by cases o with|const v=>exact(EH W v).symm|tmp s=>rfl|func f=>exact h.elim|global g=>exact h.elim
theorem Cf {d:Option Nat}{o:Operand} (h:vn d o) (t:Nat) (x:AV) (f:Nat→AV):ev (fI t x f) o=kU t x (ev f o):=by unfold fI kU;cases o with
 |const v=>cases dD x with|cons y l=>rfl|nil=>exact(DR t v).symm
 |tmp s=>cases dD x<;>rfl|func f=>exact h.elim|global g=>exact h.elim
theorem vT {d:Option Nat}{f:FuncId}{xs:List AV}{ks:Option (List Nat)}{dd:Nat}{o:Operand} (ho:vn d o) (hd:d≠some dd) {K:St→Prop}{st:St}:stepG Γ d f xs ks (fun st'=>K ⟨put (some dd) (ev st'.vars o) st'.vars,st'.aa⟩) st=stepG Γ d f xs ks K ⟨put (some dd) (ev st.vars o) st.vars,st.aa⟩:=by unfold stepG;cases d with|none=>rfl|some d=>have hne:d≠dd:=fun e=>hd (by rw[e]);simp only[ah,ux,tV,uf,tq,jR hne,pc ho,Er ho]
theorem yq {d:Option Nat}{f:FuncId}{xs:List AV}{dd:Nat}{o:Operand} (ho:vn d o) (hd:d≠some dd) {K:St→Prop}{st:St}:cf P Γ d f xs st.aa (fun e=>K ⟨put (some dd) (ev (e.on d st).vars o) (e.on d st).vars,(e.on d st).aa⟩)=cf P Γ d f xs st.aa (fun e=>K (e.on d ⟨put (some dd) (ev st.vars o) st.vars,st.aa⟩)):=by unfold cf;cases d with|none=>rfl|some d=>have hne:d≠dd:=fun e=>hd (by rw[e]);simp only[ah,bz.on,jR hne,pc ho]
theorem Bh {d:Option Nat}{xs:List AV}{dd:Nat}{o:Operand} (ho:vn d o) (hd:d≠some dd) {K:St→Prop}{st:St}:eO P Γ d xs none (fun st'=>K ⟨put (some dd) (ev st'.vars o) st'.vars,st'.aa⟩) st=eO P Γ d xs none K ⟨put (some dd) (ev st.vars o) st.vars,st.aa⟩:=by
 have key:∀x:FuncId×List AV,dU P Γ d x.1 x.2 (cW Γ x.1) (fun st'=>K ⟨put (some dd) (ev st'.vars o) st'.vars,st'.aa⟩) st=dU P Γ d x.1 x.2 (cW Γ x.1) K ⟨put (some dd) (ev st.vars o) st.vars,st.aa⟩:=by
  intro x;unfold dU;split
  ·split;·exact vT ho hd
   ·rfl
  ·exact yq ho hd
 show(al xs∧ah (jk (xs.map strip)) fun x=>gI P x.1=true∧dU P Γ d x.1 x.2 (cW Γ x.1) (fun st'=>K ⟨put (some dd) (ev st'.vars o) st'.vars,st'.aa⟩) st)=(al xs∧ah (jk (xs.map strip)) fun x=>gI P x.1=true∧dU P Γ d x.1 x.2 (cW Γ x.1) K ⟨put (some dd) (ev st.vars o) st.vars,st.aa⟩);simp only[key]
theorem Gg {T:List Nat}{st:St}{l:List Nat}{dd:Nat}{c:AV} (hl:dd∉l):lh T ⟨put (some dd) c st.vars,st.aa⟩ l=lh T st l:=by induction l with|nil=>rfl|cons s l ih=>have h1:s≠dd:=fun e=>hl (by rw[e];exact List.mem_cons_self);simp only[lh,put,if_neg h1];rw[←ih (fun h=>hl (List.mem_cons_of_mem _ h))];rfl
theorem BI {y x:AI} (hk:(∃f,x.k=.call f)∨x.k=.gi) (hg:x.g=none) (ht:x.tg=some 999999) (hc:F0 y x=true) (hun:∀dd,y.d=some dd→dd∉x.un):∃dd o,y=⟨some dd,.aM,[o],none,[],none⟩∧∀(K:St→Prop) (st:St),cp P Γ x (fun st'=>K ⟨put (some dd) (ev st'.vars o) st'.vars,st'.aa⟩) st=cp P Γ x K ⟨put (some dd) (ev st.vars o) st.vars,st.aa⟩:=by
 obtain⟨yd,yk,yxs,yg,yun,ytg⟩:=y;unfold F0 at hc;split at hc
 ·rename_i o dd e1 e2 e3 e4 e5 e6;simp only at e1 e2 e3 e4 e5 e6;subst e1 e2 e3 e4 e5 e6;refine⟨dd,o,rfl,fun K st=>?_⟩;simp only[Bool.and_eq_true,Bool.not_eq_true',bne_iff_ne,ne_eq,cu,hg,List.append_nil]at hc;obtain⟨⟨hok,hu⟩,hd⟩:=hc;have ho:=Ep hok;have hun2:=hun dd rfl;have hev:∀c vars,x.xs.map (ev (put (some dd) c vars))=x.xs.map (ev vars):=fun c vars=>Bj hu;obtain⟨xd,xk,xxs,xg,xun,xtg⟩:=x;simp only at hk hg ht hd hev ho hun2;subst hg ht;rcases hk with⟨f,rfl⟩|rfl
  ·show fK P Γ _ f (cW Γ f) _ _=fK P Γ _ f (cW Γ f) _ _;unfold fK;split
   ·split;·unfold jn;simp only[hev];cases xd with|none=>rfl|some d=>have hne:d≠dd:=fun e=>hd (by rw[e]);simp only[ah,zJ,jR hne,pc ho,Cf ho]
    ·split;·simp only[hev,Gg hun2];rw[vT ho hd]
     ·rfl
   ·simp only[cw,cX,hev];unfold aS;simp only[cf];cases xd with|none=>rfl|some d=>have hne:d≠dd:=fun e=>hd (by rw[e]);simp only[ah,bz.on,xK,qd,jq,jR hne,pc ho]
  ·show eO P Γ _ _ none _ _=eO P Γ _ _ none _ _;simp only[hev];exact Bh ho hd
 ·cases hc
theorem vD {dd:Nat}{o:Operand}{K:St→Prop}{st:St}:cp P Γ ⟨some dd,.aM,[o],none,[],none⟩ K st=K ⟨put (some dd) (ev st.vars o) st.vars,st.aa⟩:=by simp[cp,cw,cX,aS,ah,xK,qd,jq,bz.on]
theorem pH {x y:AI} (hk:(∃f,x.k=.call f)∨x.k=.gi) (hg:x.g=none) (ht:x.tg=some 999999) (hc:F0 y x=true) (hun:∀dd,y.d=some dd→dd∉x.un) {K:St→Prop}{st:St}:cp P Γ x (cp P Γ y K) st=cp P Γ y (cp P Γ x K) st:=by obtain⟨dd,o,rfl,h⟩:=BI (P:=P) (Γ:=Γ) hk hg ht hc hun;rw[vD,←h];congr 1;funext st';exact vD
theorem lJ {W:List Nat}:∀{cs:List AV},jv cs=true→cs.map (dx W)=cs|[],_=>rfl|c::cs,h=>by cases c with|pv p=>rw[List.map_cons,lJ (cs:=cs) h];rfl|_=>cases h
theorem uL:∀{cs:List AV}{i:Nat}{c:AV},jv cs=true→cs[i]?=some c→∃p,c=.pv p|[],i,c,_,h=>by simp at h|x::cs,i,c,h,hc=>by cases x with
 |pv p=>cases i with|zero=>exact⟨p,by simpa using hc.symm⟩|succ i=>exact uL (cs:=cs) h (by simpa using hc)
 |_=>cases h
theorem pI:∀{cs:List AV} (n:Nat),jv cs=true→jv (cs.drop n)=true|cs,0,h=>h|[],n+1,h=>h|c::cs,n+1,h=>by cases c with|pv p=>exact pI (cs:=cs) n h|_=>cases h
theorem rF:∀{cs:List AV} (n:Nat),jv cs=true→jv (cs.take n)=true|cs,0,h=>rfl|[],n+1,h=>rfl|c::cs,n+1,h=>by cases c with|pv p=>exact rF (cs:=cs) n h|_=>cases h
theorem EY (W:List Nat) (p:PV):eg W (.pv p)=.pv p:=by unfold eg;split<;>rfl
theorem Bk {W:List Nat}{cs:List AV} (h:jv cs=true):eg W (.agg cs)=.agg cs:=by
 unfold eg;split;·rfl
 ·show AV.agg (cs.map (dx W))=_;rw[lJ h]
theorem Aw {W:List Nat}{cs:List AV} (h:jv cs=true):gS W (.box cs)=.box cs:=by
 unfold gS;split;·rfl
 ·show AO.box (cs.map (dx W))=_;rw[lJ h]
theorem wU {n:Option Nat}{t o:Nat}{aa:Nat→Option AO}{cs:List AV} (ht:aa t=some (.box cs)) (hp:jv cs=true) {x:Prop×AV} (h:ak (.load n) [.ptr t o] aa=some x):(∀W,eg W x.2=x.2)∧∀objs',objs' t=some (.box cs)→ak (.load n) [.ptr t o] objs'=some x:=by cases n with
 |none=>
  simp only[ak,ht,dX,Option.bind_some]at h ⊢;refine⟨?_,fun objs' h'=>by rw[h'];exact h⟩;obtain⟨c,hc,h⟩:=Option.bind_eq_some_iff.1 h;obtain⟨p,rfl⟩:=uL hp hc;split at h;·cases h;exact fun W=>EY W p
  ·cases h|some n=>
  simp only[ak,ht,dX,Option.bind_some]at h ⊢;refine⟨?_,fun objs' h'=>by rw[h'];exact h⟩;split at h;·cases h;exact fun W=>Bk (rF _ (pI _ hp))
  ·cases h
theorem tz {T:List Nat}{st:St}{s:Nat}:∀{l:List Nat},lh T st l→s∈l→∃t o cs,st.vars s=.ptr t o∧st.aa t=some (.box cs)∧jv cs=true∧T.contains t=false
 |[],_,hm=>by cases hm|s'::l,h,hm=>by
  rcases List.mem_cons.1 hm with rfl|hm
  ·obtain⟨t,ht,hT⟩:=ae h.1;unfold WM at ht;split at ht
   ·rename_i t' o e;obtain⟨cs,hb,ht⟩:=Option.bind_eq_some_iff.1 ht;split at ht;·rename_i hp;cases ht;refine⟨_,o,cs,e,?_,hp,hT⟩;revert hb;cases st.aa t with|none=>intro hb;cases hb|some ob=>cases ob with|box l=>intro hb;cases hb;rfl|_=>intro hb;cases hb
    ·cases ht
   ·cases ht
  ·exact tz h.2 hm
theorem vU {dd s:Nat}{n:Option Nat}{un:List Nat}{K:St→Prop}{st:St}:cp P Γ ⟨some dd,.load n,[.tmp s],none,un,none⟩ K st=((un=[]∨iM un st.aa [strip (st.vars s)])∧asks (st.vars s)∧ah (ak (.load n) [strip (st.vars s)] st.aa) fun x=>x.1∧K ⟨put (some dd) x.2 st.vars,st.aa⟩):=by show((un=[]∨iM un st.aa [strip (st.vars s)])∧(asks (st.vars s)∧True)∧ah (ak (.load n) [strip (st.vars s)] st.aa) fun x=>x.1∧xK un none (.put x.2)∧K ((bz.put x.2).on (some dd) st))=_;simp[xK,qd,jq,bz.on]
theorem zL {d:Option Nat}{f:FuncId}{xs:List AV}{ks:Option (List Nat)}{K K2:St→Prop}{st st':St} (ho:st'.aa=st.aa) (hK:∀d' W r objs1,d=some d'→(∀t∈W,t∈yL ks st.aa (xs.map strip))→(∀t c,(yL ks st.aa (xs.map strip)).contains t=false→st.aa t=some c→objs1 t=some (gS W c))→K ⟨put (some d') r (fG W st'.vars),objs1⟩→K2 ⟨put (some d') r (fG W st.vars),objs1⟩) (hs:stepG Γ d f xs ks K st'):stepG Γ d f xs ks K2 st:=by
 unfold stepG at hs;rw[ho]at hs;obtain⟨d,rfl,ha,hs⟩:=ae hs;obtain⟨ks,rfl,hT,hQ,hn,hs⟩:=ae hs;obtain⟨ys,hy,hs⟩:=ae hs;rw[ho]at hy;obtain⟨x,hx,h1,h2,hs⟩:=ae hs;obtain⟨o,hoo,h3,hs⟩:=ae hs;obtain⟨r,hr,h4,h5⟩:=ae hs;rw[ho]at h4 h5;refine⟨ha,hT,hQ,hn,?_⟩;rw[hy];show ah (Γ (f+2000000) ys) _;rw[hx];refine⟨h1,h2,?_⟩;rw[hoo];refine⟨h3,?_⟩;rw[hr];refine⟨h4,hK _ _ _ _ rfl (fun t ht=>(List.mem_filter.1 ht).1) (fun t c htT hc=>?_) h5⟩;show(match ab (o.2.1++r.2.1) t with|some o=>some o|none=>_)=_;have hno:ab (o.2.1++r.2.1) t=none:=by cases hl:ab (o.2.1++r.2.1) t with|none=>rfl|some c'=>
  obtain⟨q,hq,rfl⟩:=fX _ _ _ hl;rcases h4 _ hq with h|h;·have htT:(dP st.aa ks (xs.map strip)).contains q.1=false:=htT;rw[htT]at h;cases h
  ·rw[hc]at h;cases h
 rw[hno];unfold dV;have htT:(dP st.aa ks (xs.map strip)).contains t=false:=htT;rw[htT,hc];rfl
theorem Fi {x y:AI}{f:FuncId} (hxk:x.k=.call f) (hg:x.g=none) (ht:x.tg=some 999999) {p k:Nat} (hfl:cW Γ f=some (p,k)) {dd s:Nat}{n:Option Nat}{un:List Nat} (hy:y=⟨some dd,.load n,[.tmp s],none,un,none⟩) (hds:x.d≠some s) (hu:(cu x).contains dd=false) (hdd:x.d≠some dd) (hsd:dd≠s) (hsu:s∈x.un) (hdu:dd∉x.un) {K:St→Prop}{st:St} (hs:cp P Γ y (cp P Γ x K) st):cp P Γ x (cp P Γ y K) st:=by
 subst hy;obtain⟨xd,xk,xxs,xg,xun,xtg⟩:=x;simp only at hxk hg ht hds hdd hsu hdu;subst hxk hg ht;have hu':(tmpsOf xxs).contains dd=false:=by simpa[cu]using hu
 have hev:∀c vars,xxs.map (ev (put (some dd) c vars))=xxs.map (ev vars):=fun c vars=>Bj hu';rw[vU]at hs;obtain⟨hn,ha,hs⟩:=hs;obtain⟨v,hv,hφ,hs⟩:=ae hs;change fK P Γ _ f (cW Γ f) K _ at hs;show fK P Γ _ f (cW Γ f) _ st;rw[hfl]at hs ⊢;unfold fK at hs ⊢;dsimp only at hs ⊢;split at hs;·rw[hs.1]at hsu;cases hsu
 rename_i hk;rw[if_neg hk];split at hs;rotate_left;·exact hs.elim
 rename_i hk2;rw[if_pos hk2];simp only[hev,Gg hdu]at hs;obtain⟨hl,hs⟩:=hs;refine⟨hl,?_⟩;obtain⟨t,o,cs,e1,e2,e3,e4⟩:=tz hl hsu;rw[e1]at hn hv;obtain⟨hw,hq⟩:=wU e2 e3 hv;refine zL (st':=⟨put (some dd) v.2 st.vars,st.aa⟩) rfl (fun d' W r objs1 hd' hW ho h=>?_) hs;subst hd';have hWt:W.contains t=false:=by cases hc:W.contains t with|false=>rfl|true=>have:=hW t (by simpa using hc);rw[←List.contains_iff_mem]at this;rw[this]at e4;cases e4
 have hsd':s≠d':=fun e=>hds (by rw[e]);have hdd':d'≠dd:=fun e=>hdd (by rw[e]);have h1:=ho t _ e4 e2;rw[Aw e3]at h1;have hvs:(put (some d') r (fG W st.vars)) s=.ptr t o:=by
  simp only[put,if_neg hsd',fG,e1];unfold eg;split;·rfl
  ·show(if W.contains t=true then AV.aq else .ptr t o)=_;rw[hWt];rfl
 rw[vU];simp only[hvs];refine⟨?_,trivial,?_⟩
 ·rcases hn with hn|hn;·exact .inl hn
  ·right;have hb:dX (objs1 t)=dX (st.aa t):=by rw[h1,e2]
   refine⟨?_,trivial⟩;have:=hn.1;simpa only[strip,oi,lG,hb]using this
 ·show ah (ak (.load n) [.ptr t o] objs1) _;rw[hq objs1 h1];refine⟨hφ,?_⟩;have e:put (some d') r (fG W (put (some dd) v.2 st.vars))=put (some dd) v.2 (put (some d') r (fG W st.vars)):=by rw[tq,hw,jR hdd']
  rw[←e];exact h
end
section
variable{P:Program}{Γ:bI}{S0 L:Nat→Prop}{B0:Nat→Value}{w0 w:World}{N:Nat}{st:St}{a:Act}{β:Nat→Value}{o:Oper}{x:Operand}
theorem tK (h:Rel P S0 L B0 w0 N st a w β) {t' b lo n c:Nat}{e:TypeId}{inf:TypeInfo}{rows mid:List (List PV)}{us:List Value} (hc:st.aa t'=some (.arr e rows)) (hi:P.info? e=some inf) (hb:β t'=.slice (some ⟨b,0,none⟩) n c) (hle:lo+mid.length≤rows.length) (hml:∀r∈mid,r.length=inf.size) (hul:us.length=mid.length*inf.size) (hv:∀v∈us,v.oneCell'=true) (hr:∀(i j:Nat) (r:List PV) (p:PV),mid[i]?=some r→r[j]?=some p→∃u,us[i*inf.size+j]?=some u∧u.oneCell'=true∧cT (aR S0 w0.heap.size β st.aa w) w u p):∃w',(storeCells ⟨b,lo*inf.size,none⟩ us).run P w=.ok () w'∧Rel P S0 L B0 w0 N ⟨st.vars,aH t' (.arr e (bR rows lo mid)) st.aa⟩ a w' β:=by
 obtain⟨inf',xs,hi',hown,hrl,hcells⟩:=h.heap.arr hc;have:inf'=inf:=by rw[hi]at hi';injection hi' with hi';exact hi'.symm
 subst this;have hfit:lo*inf'.size+mid.length*inf'.size≤rows.length*inf'.size:=by rw[←Nat.add_mul];exact Nat.mul_le_mul_right _ hle
 rcases hown.2 with⟨hnil,_⟩|⟨g,cap,cur,hv',_,hheap,hnc,hcm,hcs,htake⟩;·rw[hb]at hnil;cases hnil
 ·have hgb:g=b:=by rw[hb]at hv';simp at hv';exact hv'.1.symm
  subst hgb;have hnn:n=rows.length∧c=cap:=by rw[hb]at hv';simp at hv';exact hv'
  have hxl:xs.length=rows.length*inf'.size:=hown.1;have hcap:rows.length*inf'.size≤cur.size:=by rw[hcs];exact Nat.mul_le_mul_right _ hnc
  have hin:lo*inf'.size+us.length≤cur.size:=by rw[hul];omega
  refine⟨_,lU (P:=P) hheap hin hv,?_⟩;have hblk:bY (β t')=some g:=by rw[hb];rfl
  have hmono:∀(cs':Array Value) (o':AO) (k:Nat),aR S0 w0.heap.size β st.aa w k→aR S0 w0.heap.size β (aH t' o' st.aa) (w.setRow g cs') k∧(w.setRow g cs').heap[k]?=w.heap[k]?:=by
   intro cs' o' k hk;obtain⟨g1,g2,g3⟩:=hk;have hkb:k≠g:=fun e=>g3 ⟨t',_,hc,by rw[e];exact hblk⟩;refine⟨⟨g1,by simpa using g2,?_⟩,setRow_other w g k cs' hkb⟩;rintro⟨s,q,hs,hk⟩;by_cases e:s=t';·subst e;exact hkb (by rw[hblk]at hk;injection hk with hk;exact hk.symm)
   ·exact g3 ⟨s,q,by simpa[aH,e]using hs,hk⟩
  have hsl:(bR rows lo mid).length=rows.length:=dW _ _ _ hle;refine(h.sj (w':=w.setRow g (cur.toList.take (lo*inf'.size)++us++cur.toList.drop (lo*inf'.size+us.length)).toArray) (o':=.arr e (bR rows lo mid)) hc hblk rfl rfl rfl (by simp) (fun k hk=>setRow_other _ _ _ _ hk) ⟨inf',bR xs (lo*inf'.size) us,hi,?_,fun r hr'=>?_,fun k j r p hk hp=>?_⟩).1
  ·rw[hsl];refine⟨by rw[dW _ _ _ (by rw[hxl,hul];omega)];exact hxl,.inr ⟨g,cap,_,hv',Nat.zero_le _,setRow_heap _ _ _ _ _ _ hheap,hnc,hcm,?_,?_⟩⟩;·simp;omega
   ·rw[←htake];simp only[bR];rw[List.take_append,List.take_append];simp only[List.length_append,List.length_take,Array.length_toList];rw[List.take_of_length_le (l:=List.take (lo*inf'.size) cur.toList) (by rw[List.length_take];omega),List.take_take,Nat.min_eq_left (by omega)];rw[Nat.min_eq_left (by omega)];rw[List.take_of_length_le (l:=us) (by omega)];congr 1;rw[List.drop_take]
  ·unfold bR at hr';simp only[List.mem_append]at hr';rcases hr' with(h1|h1)|h1;·exact hrl r (List.mem_of_mem_take h1)
   ·exact hml r h1
   ·exact hrl r (List.mem_of_mem_drop h1)
  ·rw[gr _ _ _ hle]at hk;rw[gr _ _ _ (by rw[hxl,hul];omega)];by_cases e1:lo≤k∧k<lo+mid.length
   ·rw[if_pos e1]at hk;have hjl:j<inf'.size:=by rw[←hml r (List.mem_of_getElem? hk)];exact(List.getElem?_eq_some_iff.1 hp).1
    have h1:lo*inf'.size≤k*inf'.size:=Nat.mul_le_mul_right _ e1.1;have h2:(k+1)*inf'.size≤(lo+mid.length)*inf'.size:=Nat.mul_le_mul_right _ e1.2;rw[Nat.succ_mul,Nat.add_mul]at h2;rw[if_pos (by rw[hul];omega)];obtain⟨u,hu,h3,h4⟩:=hr _ j r p hk hp;refine⟨u,?_,h3,h4.mono (hmono _ _)⟩;rw[←hu,Nat.sub_mul];congr 1;omega
   ·rw[if_neg e1]at hk;have hjl:j<inf'.size:=by rw[←hrl r (List.mem_of_getElem? hk)];exact(List.getElem?_eq_some_iff.1 hp).1
    obtain⟨u,hu,h3,h4⟩:=hcells k j r p hk hp;refine⟨u,?_,h3,h4.mono (hmono _ _)⟩;rw[if_neg ?_];·exact hu
    ·rintro⟨g1,g2⟩;refine e1 ⟨?_,?_⟩
     ·rcases Nat.lt_or_ge k lo with hlt|hge;·have:(k+1)*inf'.size≤lo*inf'.size:=Nat.mul_le_mul_right _ hlt;rw[Nat.succ_mul]at this;omega
      ·exact hge
     ·rcases Nat.lt_or_ge k (lo+mid.length) with hlt|hge;·exact hlt
      ·have:(lo+mid.length)*inf'.size≤k*inf'.size:=Nat.mul_le_mul_right _ hge;rw[Nat.add_mul]at this;rw[hul]at g2;omega
theorem sb (z:Array Value) (n i j:Nat) (hi:i<n) (hj:j<z.size):(Builtin.zeroCells z n).toList[i*z.size+j]?=some z[j]:=by
 have hlt:i*z.size+j<n*z.size:=by have:=Nat.mul_le_mul_right z.size (show i+1≤n from hi);rw[Nat.succ_mul]at this;omega
 simp only[Builtin.zeroCells,Array.toList_map,List.getElem?_map,Array.getElem?_toList];rw[Array.getElem?_range,if_pos hlt];simp only[Option.map_some,Option.some.injEq];rw[Nat.mul_comm,Nat.mul_add_mod,Nat.mod_eq_of_lt hj];exact getElem!_pos z j hj
theorem sa (z:Array Value) (n:Nat) (v:Value) (h:v∈(Builtin.zeroCells z n).toList):v∈z.toList:=by
 simp only[Builtin.zeroCells,Array.toList_map,List.mem_map]at h;obtain⟨i,hi,rfl⟩:=h;have hi':i<n*z.size:=by simpa using hi
 have hz:0<z.size:=by
  rcases Nat.eq_zero_or_pos z.size with h|h;·rw[h]at hi';omega
  ·exact h
 have:=Nat.mod_lt i hz;rw[getElem!_pos z _ this];simp
theorem Ax {t e:TypeId}{sz:Nat}{zs:List Value} (ho:o.op=.call {callee:=.builtin .clear,args:=#[x],argTypes:=#[t]}) (ht:P.underlying t=some (.slice e)) (hsz:cn P e=some sz) (hz:dv P e=some zs) (hpos:0<sz) (hall:zs.all (·.oneCell')=true) (h:Rel P S0 L B0 w0 N st a w β) (hd:∀s,o.dst=some s→s<N) {X:AV} (hX:RV P (aR S0 w0.heap.size β st.aa w) w β (aA st.aa) (a.eval x) X) {r:Nat×AO} (hs:wK st.aa e zs X=some r):∃v w',(execOp a.eval o).run P w=.ok (.value v) w'∧Rel P S0 L B0 w0 N ((bz.sj r.1 r.2).on o.dst st) (a.put o.dst v) w' β:=by
 obtain⟨i,z,hi,hzv,hzs,rfl⟩:=dn hz;have hsi:i.size=sz:=by obtain⟨i',hi',rfl⟩:=fY hsz;rw[hi]at hi';injection hi' with hi';rw[hi']
 have hzr:(zeroValue e).run P w=.ok z w:=by simp[zeroValue,typeInfo,hi,hzv]
 have hex:∀(A:Option Addr) (n c:Nat) (w':World),a.eval x=.slice A n c→((A=none∨n=0)∧w'=w∨∃ad,A=some ad∧n≠0∧(storeCells ad (Builtin.zeroCells z.cells n).toList).run P w=.ok () w')→(execOp a.eval o).run P w=.ok (.value (.tuple #[])) w':=by
  rintro A n c w' hv (⟨h0,rfl⟩|⟨ad,rfl,hn,hst⟩);·cases A with|none=>cases n<;>simp[execOp,ho,resolve,invoke,builtin,Builtin.clear_,run_underlying ht,hv]|some ad=>
   obtain rfl:n=0:=by rcases h0 with h0|h0;cases h0;exact h0
   simp[execOp,ho,resolve,invoke,builtin,Builtin.clear_,run_underlying ht,hv]
  ·obtain⟨m,rfl⟩:∃m,n=m+1:=⟨n-1,by omega⟩;simp[execOp,ho,resolve,invoke,builtin,Builtin.clear_,run_underlying ht,hv,hzr,hst]
 have hput:∀{w':World}{objs':Nat→Option AO},Rel P S0 L B0 w0 N ⟨st.vars,objs'⟩ a w' β→Rel P S0 L B0 w0 N ⟨Ab.put o.dst .aq st.vars,objs'⟩ (a.put o.dst (.tuple #[])) w' β:=fun hR=>hR.put hd (.aq _);have main:∀(t' lo hi':Nat) (rows:List (List PV)) (A1:Option Addr),st.aa t'=some (.arr e rows)→lo≤hi'→hi'≤rows.length→(∀A n c,β t'=.slice A n c→a.eval x=.slice A1 (hi'-lo) (c-lo)∧(c≠lo→A1=A.map (·.add (lo*i.size))))→∃v w',(execOp a.eval o).run P w=.ok (.value v) w'∧Rel P S0 L B0 w0 N ⟨Ab.put o.dst .aq st.vars,aH t' (.arr e (bR rows lo (List.replicate (hi'-lo) (z.cells.toList.map oL)))) st.aa⟩ (a.put o.dst v) w' β:=by
  intro t' lo hi' rows A1 hc h1 h2 hx;obtain⟨inf',xs,hinf,hown,hrl,hcells⟩:=h.heap.arr hc;have:inf'=i:=by rw[hi]at hinf;injection hinf with hinf;exact hinf.symm
  subst this;by_cases hz0:hi'-lo=0
  ·have hsp:bR rows lo (List.replicate (hi'-lo) (z.cells.toList.map oL))=rows:=by rw[hz0];simp[bR]
   rw[hsp];obtain⟨A,c,hv,hcc⟩:=ca hown;obtain⟨hxe,_⟩:=hx A rows.length c hv;rw[hz0]at hxe;refine⟨_,w,hex _ _ _ w hxe (.inl ⟨.inr rfl,rfl⟩),?_⟩;have hsame:aH t' (.arr e rows) st.aa=st.aa:=by
    funext s;by_cases hst:s=t';·subst hst;simp[aH,hc]
    ·simp[aH,hst]
   rw[hsame];exact hput h
  ·rcases hown.2 with⟨_,hr0⟩|⟨g,cap,cur,hv,_,_,hnc,_⟩;·omega
   ·obtain⟨hxe,hA⟩:=hx _ _ _ hv;rw[hA (by omega)]at hxe;obtain⟨w',hst,hR⟩:=tK h (lo:=lo) (mid:=List.replicate (hi'-lo) (z.cells.toList.map oL)) (us:=(Builtin.zeroCells z.cells (hi'-lo)).toList) hc hi hv (by simp;omega) (fun r hr=>by rw[List.eq_of_mem_replicate hr];simp[hzs]) (by rw[Array.length_toList,size_zeroCells,List.length_replicate,hzs]) (fun v hv'=>(List.all_eq_true.1 hall) v (sa _ _ _ hv')) (fun k j r p hk hp=>by
     have hk1:k<hi'-lo:=by have:=(List.getElem?_eq_some_iff.1 hk).1;simpa using this
     rw[List.getElem?_replicate,if_pos hk1]at hk;injection hk with hk;subst hk;rw[List.getElem?_map,Option.map_eq_some_iff]at hp;obtain⟨q,hq,rfl⟩:=hp;have hj:j<z.cells.size:=by have:=(List.getElem?_eq_some_iff.1 hq).1;simpa using this
     have hqe:q=z.cells[j]:=by
      have:z.cells[j]?=some q:=by simpa using hq
      rw[Array.getElem?_eq_getElem hj]at this;injection this with this;exact this.symm
     have hq1:q.oneCell'=true:=(List.all_eq_true.1 hall) q (List.mem_of_getElem? hq);refine⟨q,?_,hq1,fW _ _ q hq1⟩;rw[←hzs,sb _ _ _ _ hk1 hj,hqe]);have hst':(storeCells ((⟨g,0,none⟩:Addr).add (lo*inf'.size)) (Builtin.zeroCells z.cells (hi'-lo)).toList).run P w=.ok () w':=by rw[Addr.add_lit,Nat.zero_add];exact hst
    exact⟨_,w',hex _ _ _ w' hxe (.inr ⟨_,rfl,hz0,hst'⟩),hput hR⟩
 cases X with
 |own t'=>
  simp only[wK,Option.bind_eq_some_iff]at hs;obtain⟨⟨e',rows⟩,har,hs⟩:=hs;split at hs
  ·rename_i hee;simp only at hee;subst hee;cases hs;have hc:=bo har;have:=main t' 0 rows.length rows (match β t' with|.slice A _ _=>A|_=>none) hc (Nat.zero_le _) (Nat.le_refl _) (fun A n c hb=>by
    have hx:=hX.aV.1;obtain⟨inf',xs,hinf,hown,_⟩:=h.heap.arr hc;obtain⟨A',c',hv,_⟩:=ca hown;rw[hb]at hv;have hn:n=rows.length:=by simp at hv;exact hv.2.1
    rw[hx,hb];refine⟨by simp[hn],fun _=>?_⟩;cases A with|none=>rfl|some ad=>simp[add_zero']);have he:bR rows 0 (List.replicate (rows.length-0) (z.cells.toList.map oL))=List.replicate rows.length (z.cells.toList.map oL):=by simp[bR]
   rw[he]at this;exact this
  ·cases hs|sub t' e1 lo hi'=>
  simp only[wK,Option.bind_eq_some_iff]at hs;obtain⟨⟨e',rows⟩,har,hs⟩:=hs;split at hs
  ·rename_i hee;obtain⟨hee,hee1⟩:=hee;simp only at hee;subst hee hee1;cases hs;have hc:=bo har;obtain⟨inf1,Ad,Ad1,n,c,hdt,hi1,hbt,g1,g2,g3,g4,g5,hx⟩:=hX.fe;have hinf:inf1=i:=by rw[hi]at hi1;injection hi1 with hi1;exact hi1.symm
   subst hinf;obtain⟨inf',xs,hinf',hown,_⟩:=h.heap.arr hc;obtain⟨A',c',hv,_⟩:=ca hown;have hn:n=rows.length:=by rw[hbt]at hv;simp at hv;exact hv.2.1
   subst hn;have:=main t' lo hi' rows Ad1 hc g1 g2 (fun A n c' hb=>by
    rw[hbt]at hb;have h3:Ad=A∧rows.length=n∧c=c':=by simpa using hb
    obtain⟨rfl,rfl,rfl⟩:=h3;exact⟨hx,g5⟩);have he:bR rows lo (List.replicate (hi'-lo) (z.cells.toList.map oL))=rows.take lo++List.replicate (hi'-lo) (z.cells.toList.map oL)++rows.drop hi':=by simp only[bR,List.length_replicate];rw[show lo+(hi'-lo)=hi' from by omega]
   rw[he]at this;exact this
  ·cases hs|_=>simp[wK]at hs
end
section
variable{P:Program}{S:Nat→Prop}{w:World}{β:Nat→Value}{D D':Nat→Prop}{t:Nat}
theorem RV.nA {v:Value}{x:AV} (hD:∀s,D s→s≠t→D' s) (hx:nA t x) (h:RV P S w β D v x):RV P S w β D' v x:=by cases h with
 |pv v p h=>exact .pv _ _ h|own s h=>exact .own s (hD s h hx)|ptr s o b h hb=>exact .ptr s o b (hD s h hx) hb|aO s e i o b n c inf h hi hb=>exact .aO s e i o b n c inf (hD s h hx) hi hb|sub v s e lo hi inf A A1 n c h hi' hb h1 h2 h3 h4 h5 hv=>exact .sub _ s e lo hi inf A A1 n c (hD s h hx) hi' hb h1 h2 h3 h4 h5 hv|rp ad cs us h1 h2 h3 h4=>exact .rp ad cs us h1 h2 h3 h4|agg cs us hl h=>exact hx.elim|aK cs us hl h=>exact hx.elim|bB f cs us hl h=>cases cs with|nil=>exact .bB f [] us hl fun i c u hc=>by simp at hc|cons c cs=>exact hx.elim
 |bX g v av h=>exact hx.elim|aq v=>exact .aq _
theorem ni:∀{cs:List AV},pW t cs→∀(i:Nat) (c:AV),cs[i]?=some c→Ab.nA t c|[],_,i,c,hc=>by simp at hc|x::cs,h,0,c,hc=>by simp only[List.getElem?_cons_zero,Option.some.injEq]at hc;subst hc;exact h.1|x::cs,h,i+1,c,hc=>ni h.2 i c (by simpa using hc)
theorem RV.tE {v:Value}{x:AV} (hD:∀s,D s→s≠t→D' s) (hx:tE t x) (h:RV P S w β D v x):RV P S w β D' v x:=by cases h with|agg cs us hl h=>exact .agg cs us hl fun i c u hc hu=>(h i c u hc hu).nA hD (ni hx i c hc)|bB f cs us hl h=>exact .bB f cs us hl fun i c u hc hu=>(h i c u hc hu).nA hD (ni hx i c hc)|pv v p h=>exact .pv _ _ h|own s h=>exact RV.nA (x:=.own s) hD hx (.own s h)|ptr s o b h hb=>exact RV.nA (x:=.ptr s o) hD hx (.ptr s o b h hb)|aO s e i o b n c inf h hi hb=>exact RV.nA (x:=.aO s e i o) hD hx (.aO s e i o b n c inf h hi hb)|sub v s e lo hi inf A A1 n c h hi' hb h1 h2 h3 h4 h5 hv=>exact RV.nA (x:=.sub s e lo hi) hD hx (.sub v s e lo hi inf A A1 n c h hi' hb h1 h2 h3 h4 h5 hv)|rp ad cs us h1 h2 h3 h4=>exact .rp ad cs us h1 h2 h3 h4|aK cs us hl h=>exact hx.elim|bX g v av h=>exact hx.elim|aq v=>exact .aq _
theorem qA:∀{vs:List AV},jV.ll t vs→∀(i:Nat) (v:AV),vs[i]?=some v→Ab.tE t v|[],_,i,c,hc=>by simp at hc|x::cs,h,0,c,hc=>by simp only[List.getElem?_cons_zero,Option.some.injEq]at hc;subst hc;exact h.1|x::cs,h,i+1,c,hc=>qA h.2 i c (by simpa using hc)
theorem sn:∀{vs:List AV}{p:Nat},jV t p vs→∀(i:Nat) (v:AV),i≠p→vs[i]?=some v→Ab.tE t v|[],_,_,i,c,_,hc=>by simp at hc|x::cs,0,h,0,c,hne,hc=>absurd rfl hne|x::cs,0,h,i+1,c,hne,hc=>qA h i c (by simpa using hc)|x::cs,p+1,h,0,c,hne,hc=>by simp only[List.getElem?_cons_zero,Option.some.injEq]at hc;subst hc;exact h.1|x::cs,p+1,h,i+1,c,hne,hc=>sn h.2 i c (by omega) (by simpa using hc)
variable{aa:Nat→Option AO}
theorem nq {m:AV}:∀{p:Nat}{xs ys:List AV},om aa m p xs=some ys→p<xs.length→ys.length=xs.length∧ys[p]?=some m∧∀(i:Nat) (y:AV),i≠p→ys[i]?=some y→∃x,xs[i]?=some x∧mC aa x=some y
 |_,[],_,_,hp=>by simp at hp|0,x::xs,ys,h,_=>by simp only[om,Option.map_eq_some_iff]at h;obtain⟨zs,hz,rfl⟩:=h;obtain⟨h1,h2⟩:=ma xs zs hz;refine⟨by simp[h1],rfl,fun i y hne hy=>?_⟩;cases i with|zero=>exact absurd rfl hne|succ i=>obtain⟨c,hc,hr⟩:=h2 i y (by simpa using hy);exact⟨c,by simpa using hc,hr⟩
 |p+1,x::xs,ys,h,hp=>by simp only[om,Option.bind_eq_some_iff,Option.map_eq_some_iff]at h;obtain⟨y0,hy0,zs,hz,rfl⟩:=h;obtain⟨h1,h2,h3⟩:=nq hz (by simpa using hp);refine⟨by simp[h1],by simpa using h2,fun i y hne hy=>?_⟩;cases i with|zero=>simp only[List.getElem?_cons_zero,Option.some.injEq]at hy;subst hy;exact⟨x,rfl,hy0⟩|succ i=>obtain⟨c,hc,hr⟩:=h3 i y (by omega) (by simpa using hy);exact⟨c,by simpa using hc,hr⟩
theorem pF:∀{p:Nat}{xs:List AV},hH p xs=true→∀(i:Nat) (x:AV),i≠p→xs[i]?=some x→dr x=true|_,[],_,i,c,_,hc=>by simp at hc|0,x::xs,h,0,c,hne,hc=>absurd rfl hne|0,x::xs,h,i+1,c,hne,hc=>mT xs i c h (by simpa using hc)|p+1,x::xs,h,0,c,hne,hc=>by simp only[hH,Bool.and_eq_true]at h;simp only[List.getElem?_cons_zero,Option.some.injEq]at hc;subst hc;exact h.1|p+1,x::xs,h,i+1,c,hne,hc=>by simp only[hH,Bool.and_eq_true]at h;exact pF h.2 i c (by omega) (by simpa using hc)
theorem iV {x y:AV} (h:mC aa x=some y):C6 y=y∧(∀e rows,y≠.fr e rows)∧∀e rows,y≠.aK [.fr e rows]:=by
 have hpv:∀{o:Option PV},o.map AV.pv=some y→∃p,y=.pv p:=fun h=>by obtain⟨p,_,rfl⟩:=Option.map_eq_some_iff.1 h;exact⟨p,rfl⟩
 have key:(∃p,y=.pv p)∨(∃cs,y=.rp cs)∨(∃cs,y=.agg cs)∨∃f cs,y=.bB f cs:=by
  have h1:∀{x y:AV},ef aa x=some y→(∃p,y=.pv p)∨(∃cs,y=.rp cs)∨(∃cs,y=.agg cs)∨∃f cs,y=.bB f cs:=by
   intro x y h;unfold ef at h;split at h;·obtain⟨cs,_,h⟩:=Option.bind_eq_some_iff.1 h;obtain⟨ps,_,rfl⟩:=Option.map_eq_some_iff.1 h;exact .inr (.inl ⟨_,rfl⟩)
   ·cases h;exact .inr (.inl ⟨_,rfl⟩)
   ·obtain⟨ps,_,rfl⟩:=Option.map_eq_some_iff.1 h;exact .inr (.inr (.inl ⟨_,rfl⟩))
   ·cases h;exact .inr (.inr (.inr ⟨_,_,rfl⟩))
   ·obtain⟨p,_,rfl⟩:=Option.map_eq_some_iff.1 h;exact .inl ⟨_,rfl⟩
  unfold mC at h;split at h;·obtain⟨ps,_,rfl⟩:=Option.map_eq_some_iff.1 h;exact .inr (.inr (.inr ⟨_,_,rfl⟩))
  ·exact h1 h
 rcases key with⟨p,rfl⟩|⟨cs,rfl⟩|⟨cs,rfl⟩|⟨f,cs,rfl⟩<;>exact⟨rfl,(fun e rows h=>by cases h),(fun e rows h=>by cases h)⟩
theorem nK {x:AV} (h:mC aa x=some .aq):False:=by
 have hpv:∀{o:Option PV},¬o.map AV.pv=some .aq:=fun h=>by obtain⟨p,_,h⟩:=Option.map_eq_some_iff.1 h;cases h
 have h1:∀{x:AV},¬ef aa x=some .aq:=by
  intro x h;unfold ef at h;split at h;·obtain⟨cs,_,h⟩:=Option.bind_eq_some_iff.1 h;obtain⟨ps,_,h⟩:=Option.map_eq_some_iff.1 h;cases h
  ·cases h
  ·obtain⟨ps,_,h⟩:=Option.map_eq_some_iff.1 h;cases h
  ·cases h
  ·exact hpv h
 unfold mC at h;split at h;·obtain⟨ps,_,h⟩:=Option.map_eq_some_iff.1 h;cases h
 ·exact h1 h
theorem vE {e:TypeId}{rows:List (List PV)}{k:Nat} (hk:k=998∨k=999):∀{ys:List AV}{p:Nat},ys[p]?=some (sU k e rows)→(∀(i:Nat) (y:AV),i≠p→ys[i]?=some y→(∀e rows,y≠.fr e rows)∧∀e rows,y≠.aK [.fr e rows])→kD ys=[(k,.arr e rows)]
 |[],p,h,_=>by simp at h|y::ys,0,h,ho=>by simp only[List.getElem?_cons_zero,Option.some.injEq]at h;subst h;rcases hk with rfl|rfl<;>rfl|y::ys,p+1,h,ho=>by
  have h0:=ho 0 y (by omega) rfl;have ih:=vE hk (ys:=ys) (p:=p) (by simpa using h) (fun i z hne hz=>ho (i+1) z (by omega) (by simpa using hz));unfold kD;split;·rename_i e;cases e
  ·rename_i e1 r1 _ e;cases e;exact absurd rfl (h0.1 _ _)
  ·rename_i e1 r1 _ e;cases e;exact absurd rfl (h0.2 _ _)
  ·rename_i e;cases e;exact ih
end
section
variable{P:Program}{S0 L:Nat→Prop}{B0:Nat→Value}{w0 w:World}{N:Nat}{st:St}{a:Act}{β:Nat→Value}
theorem tH (h:Rel P S0 L B0 w0 N st a w β) {k t:Nat}{e:TypeId}{rows:List (List PV)}{X:AV}{v:Value} (hX:RV P (aR S0 w0.heap.size β st.aa w) w β (aA st.aa) v X) (hs:fc st.aa k X=some (t,e,rows)):∃rows0,st.aa t=some (.arr e rows0)∧bY v=bY (β t)∧(k=999→v=β t)∧∃inf us,P.info? e=some inf∧w.ownsRow 0 e inf.size v rows.length us∧(∀r,r∈rows→r.length=inf.size)∧∀(i j:Nat) (r:List PV) (p:PV),rows[i]?=some r→r[j]?=some p→∃u,us[i*inf.size+j]?=some u∧u.oneCell'=true∧cT (aR S0 w0.heap.size β st.aa w) w u p:=by cases X with
 |own t'=>simp only[fc,Option.map_eq_some_iff]at hs;obtain⟨⟨e',rows'⟩,har,he⟩:=hs;simp only[Prod.mk.injEq]at he;obtain⟨rfl,rfl,rfl⟩:=he;obtain⟨inf,us,hi,hown,hrl,hcs⟩:=h.heap.arr (bo har);have hv:=hX.aV.1;subst hv;exact⟨rows',bo har,rfl,fun _=>rfl,inf,us,hi,hown,hrl,hcs⟩|sub t' e1 lo hi=>cases lo with|succ lo=>simp[fc]at hs|zero=>
   simp only[fc]at hs;split at hs
   ·rename_i hk;obtain⟨⟨e',rows'⟩,har,hs⟩:=Option.bind_eq_some_iff.1 hs;split at hs
    ·rename_i hee;simp only at hee;subst hee;simp only[Option.some.injEq,Prod.mk.injEq]at hs;obtain⟨rfl,rfl,rfl⟩:=hs;obtain⟨inf,us,hi',hown,hrl,hcs⟩:=h.heap.arr (bo har);obtain⟨inf1,Ad,Ad1,n,c,hdt,hi1,hbt,g1,g2,g3,g4,g5,hx⟩:=hX.fe;obtain⟨A',c',hv,_⟩:=ca hown;have hn:n=rows'.length:=by rw[hbt]at hv;simp at hv;exact hv.2.1
     subst hn;have hA:=g4 rfl;subst hA;have hlen:(rows'.take hi).length=hi:=by rw[List.length_take];omega
     simp only[Nat.sub_zero]at hx;refine⟨rows',bo har,?_,fun hk9=>by omega,inf,us.take (hi*inf.size),hi',?_,fun r hr=>hrl r (List.mem_of_mem_take hr),fun i j r p hr hp=>?_⟩;·rw[hx,hbt];cases Ad1<;>rfl
     ·rw[hlen,hx];exact jd hown g2 hbt
     ·have hi2:i<hi:=by rw[←hlen];exact(List.getElem?_eq_some_iff.1 hr).1
      rw[List.getElem?_take,if_pos hi2]at hr;obtain⟨u,hu,h1,h2⟩:=hcs i j r p hr hp;have hj:j<inf.size:=by rw[←hrl r (List.mem_of_getElem? hr)];exact(List.getElem?_eq_some_iff.1 hp).1
      have hlt:i*inf.size+j<hi*inf.size:=by have:=Nat.mul_le_mul_right inf.size (show i+1≤hi from hi2);rw[Nat.succ_mul]at this;omega
      exact⟨u,by rw[List.getElem?_take,if_pos hlt];exact hu,h1,h2⟩
    ·cases hs
   ·cases hs|_=>simp[fc]at hs
theorem mZ {r:AV} (h:cB r=true):dB (cellAt r 999)=none:=by cases r with|aK vs=>simp only[cB,Bool.and_eq_true,decide_eq_true_eq]at h;simp only[cellAt,show 999%1000=999 from rfl];rw[List.getElem?_eq_none (by omega)];rfl|_=>rfl
theorem tr {aa:Nat→Option AO}:∀{p:Nat}{xs ys:List AV},oF aa p xs=some ys→ys.length=xs.length∧∀(i:Nat) (y:AV),ys[i]?=some y→∃c,xs[i]?=some c∧(mC aa c=some y∨(c=.pv .nil∧y=.pv .nil))
 |p,[],ys,h=>by
  have:ys=[]:=by cases p<;>(simp[oF]at h;exact h)
  subst this;exact⟨rfl,fun i y hy=>by simp at hy⟩|0,x::xs,ys,h=>by
  unfold oF at h;split at h;·rename_i h1;cases h1
  ·rename_i vs h1;cases h1;obtain⟨zs,hz,rfl⟩:=Option.map_eq_some_iff.1 h;obtain⟨h1,h2⟩:=ma _ zs hz;refine⟨by simp[h1],fun i y hy=>?_⟩;cases i with|zero=>simp at hy;subst hy;exact⟨_,rfl,.inr ⟨rfl,rfl⟩⟩|succ i=>obtain⟨c,h3,h4⟩:=h2 i y (by simpa using hy);exact⟨c,by simpa using h3,.inl h4⟩
  ·cases h
  ·rename_i h1 _;cases h1|p+1,x::xs,ys,h=>by simp only[oF,Option.bind_eq_some_iff,Option.map_eq_some_iff]at h;obtain⟨y0,hy0,zs,hz,rfl⟩:=h;obtain⟨h1,h2⟩:=tr hz;refine⟨by simp[h1],fun i y hy=>?_⟩;cases i with|zero=>simp at hy;subst hy;exact⟨_,rfl,.inl hy0⟩|succ i=>obtain⟨c,h3,h4⟩:=h2 i y (by simpa using hy);exact⟨c,by simpa using h3,h4⟩
theorem Av {aa:Nat→Option AO}{ys xs:List AV} (hg:∀(i:Nat) (y:AV),ys[i]?=some y→∃c,xs[i]?=some c∧(mC aa c=some y∨(c=.pv .nil∧y=.pv .nil))):∀y∈ys,C6 y=y∧(∀e rows,y≠.fr e rows)∧∀e rows,y≠.aK [.fr e rows]:=by
 intro y hy;obtain⟨i,hi⟩:=List.getElem?_of_mem hy;obtain⟨c,_,h|⟨_,rfl⟩⟩:=hg i y hi;·exact iV h
 ·exact⟨rfl,(fun e rows h=>by cases h),fun e rows h=>by cases h⟩
theorem uR:∀{ys:List AV},(∀y∈ys,(∀e rows,y≠.fr e rows)∧∀e rows,y≠.aK [.fr e rows])→kD ys=[]
 |[],_=>rfl|y::ys,h=>by
  have ih:=uR (ys:=ys) fun z hz=>h z (by simp[hz]);obtain⟨h1,h2⟩:=h y (by simp);unfold kD;split;·rfl
  ·rename_i e rows l h3;cases h3;exact absurd rfl (h1 _ _)
  ·rename_i e rows l h3;cases h3;exact absurd rfl (h2 _ _)
  ·rename_i h3;cases h3;exact ih
theorem vy {f:FuncId}{ys:List AV}{r:AV} (hm:∀y∈ys,C6 y=y∧(∀e rows,y≠.fr e rows)∧∀e rows,y≠.aK [.fr e rows]) (hres:cB r=true) (h:AH P f ys r):Cz P f [] ys [] r:=by
 have h0:kD ys=[]:=uR fun y hy=>(hm y hy).2;have h1:ys.map C6=ys:=by rw[List.map_congr_left fun y hy=>(hm y hy).1];simp
 have h2:bM r=r∧dD r=[]:=by cases r with|bB f cs=>simp[cB,kL,il]at hres|_=>exact⟨rfl,rfl⟩
 intro w S0 β vals a1 a2 a3 a4 a5;have hnl:∀b,¬live β (ab []) b:=fun b ⟨t,o,ho,_⟩=>by simp[ab]at ho
 have hS:(fun b=>S0 b∨live β (ab []) b)=S0:=by funext b;apply propext;exact⟨fun h=>h.resolve_right (hnl b),.inl⟩
 have h:=h w S0 β vals a1 (by rw[h0];exact a2) (by rw[h0];exact a3) a4 (by rw[h0,h1];exact a5);rw[h0,h2.1,h2.2,hS]at h;refine h.mono ?_;rintro e w' ⟨v,β',r1,r2,r3,r4,_,r5⟩;exact⟨v,β',r1,r2,r3,r4,r5⟩
theorem we (hL:∀b,L b→S0 b) (h:Rel P S0 L B0 w0 N st a w β) {f:FuncId}{d:Nat} (hd9:d%1000≠999) {vals:List Value}{xs ys:List AV}{x X:AV}{p k t:Nat}{e:TypeId}{rows:List (List PV)} (hk:k=998∨k=999) (hl:vals.length=xs.length) (hv:∀(i:Nat) (v:Value) (x:AV),vals[i]?=some v→xs[i]?=some x→RV P (aR S0 w0.heap.size β st.aa w) w β (aA st.aa) v x) (hp:xs[p]?=some X) (hh:fc st.aa k X=some (t,e,rows)) (hoff:jV t p xs) (hre:om (eQ t st.aa) (sU k e rows) p xs=some ys) (hcon:AH P f ys x) (hpf:hH p xs=true∨(flat (bM x)∧mj (dD x))) (hfree:∀y∈aJ d (bM x),st.aa y.1=none) (hres:cB (bM x)=true):Calls P f vals.toArray w fun e w'=>∃v β',e=.returned v∧Rel P S0 L B0 w0 N ⟨fI t x st.vars,bk (aJ d (bM x)) (cm t x st.aa)⟩ a w' β'∧RV P (aR S0 w0.heap.size β' (bk (aJ d (bM x)) (cm t x st.aa)) w') w' β' (aA (bk (aJ d (bM x)) (cm t x st.aa))) v (cA (jG d) (bM x)):=by
 have htup:=rG _ hres;have hpl:p<xs.length:=(List.getElem?_eq_some_iff.1 hp).1;have hvp:vals[p]?=some vals[p]:=List.getElem?_eq_getElem (by omega);generalize hvpe:vals[p]'(by omega)=vp at hvp;obtain⟨rows0,hot,hblk,hvpin,inf,us,hi,hown,hrl,hcs⟩:=tH h (hv p vp X hvp hp) hh;obtain⟨hyl,hyp,hyo⟩:=nq hre hpl;have hdt:aA st.aa t:=⟨_,hot⟩;have hmk:kD ys=[(k,.arr e rows)]:=vE hk hyp fun i y hne hy=>by obtain⟨z,_,hr⟩:=hyo i y hne hy;exact(iV hr).2
 obtain⟨inf0,us0,hi0,hown0,hrl0,hcs0⟩:=h.heap.holds t _ hot;have hnp:∀b,β t≠.pointer (some ⟨b,0,none⟩):=(gR hown0).2;have hD1:∀s,aA st.aa s→s≠t→aA (eQ t st.aa) s:=fun s hs hne=>cy.2 ⟨hne,hs⟩;have hh1:Heap P (aR S0 w0.heap.size β st.aa w) w β (eQ t st.aa):=by
  refine⟨fun s o hs=>?_,fun s s' b hs hs'=>h.heap.inj s s' b (cy.1 hs).2 (cy.1 hs').2⟩;by_cases e':s=t;·simp[eQ,e']at hs
  ·have hs':(st.aa s).map (cZ t)=some o:=by simpa[eQ,e']using hs
   obtain⟨o',ho',rfl⟩:=Option.map_eq_some_iff.1 hs';exact(h.heap.holds s o' ho').kill hnp (fun b hb=>⟨hb,rfl⟩) (fun s hs hne=>⟨hD1 s hs hne,rfl⟩) rfl (fun b hb=>rfl)
 let β0:Nat→Value:=fun _=>vp;have hhin:ab (kD ys)=ab [(k,.arr e rows)]:=by rw[hmk]
 have hlive0:∀b,live β0 (ab (kD ys)) b↔bY (β t)=some b:=by
  intro b;rw[hhin];constructor;·rintro⟨s,o,ho,hb⟩;rw[←hblk];exact hb
  ·intro hb;exact⟨k,.arr e rows,by simp[ab],by rw[←hblk]at hb;exact hb⟩
 have hnl:∀b,aR S0 w0.heap.size β st.aa w b→¬bY (β t)=some b:=fun b ⟨_,_,h3⟩ hb=>h3 ⟨t,_,hot,hb⟩;obtain⟨S1,hS1,hS1lt,hS1n,hcase⟩:∃S1:Nat→Prop,(∀b,aR S0 w0.heap.size β st.aa w b→S1 b)∧(∀b,S1 b→b<w.heap.size)∧(∀b,S1 b→¬bY (β t)=some b)∧((hH p xs=true∧S1=aR S0 w0.heap.size β st.aa w)∨((flat (bM x)∧mj (dD x))∧∀b,b<w.heap.size→¬bY (β t)=some b→S1 b)):=by
  rcases hpf with hp|hp;·exact⟨_,fun b hb=>hb,fun b hb=>hb.2.1,hnl,.inl ⟨hp,rfl⟩⟩
  ·exact⟨fun b=>b<w.heap.size∧¬bY (β t)=some b,fun b hb=>⟨hb.2.1,hnl b hb⟩,fun b hb=>hb.1,fun b hb=>hb.2,.inr ⟨hp,fun b h1 h2=>⟨h1,h2⟩⟩⟩
 have hS1eq:∀b,aR S1 w.heap.size β0 (ab (kD ys)) w b↔S1 b:=by
  intro b;constructor
  ·rintro⟨h1|h1,h2,_⟩;·exact h1
   ·omega
  ·intro hb;exact⟨.inl hb,hS1lt b hb,fun hl=>hS1n b hb ((hlive0 b).1 hl)⟩
 have htlt:∀b,bY (β t)=some b→b<w.heap.size:=fun b hb=>h.lt hdt hb;have hin:∀s o,ab (kD ys) s=some o→s=k∧o=.arr e rows:=by
  intro s o ho;rw[hhin]at ho;simp only[ab]at ho;split at ho;·rename_i e';cases ho;exact⟨e',rfl⟩
  ·cases ho
 have hHin:Heap P (aR S1 w.heap.size β0 (ab (kD ys)) w) w β0 (ab (kD ys)):=by refine⟨fun s o ho=>?_,fun s s' b ⟨o,ho⟩ ⟨o',ho'⟩ _ _=>(hin s o ho).1.trans (hin s' o' ho').1.symm⟩;obtain⟨rfl,rfl⟩:=hin s o ho;refine⟨inf,us,hi,hown,hrl,fun i j r q h1 h2=>?_⟩;obtain⟨u,hu,h3,h4⟩:=hcs i j r q h1 h2;exact⟨u,hu,h3,h4.mono fun b hb=>⟨(hS1eq b).2 (hS1 b hb),rfl⟩⟩
 refine(hcon w S1 β0 vals hS1lt (fun s b _ hb=>htlt b (by rw[←hblk];exact hb)) hHin (by omega) (fun i v y hvi hyi=>?_)).mono ?_
 ·rw[List.getElem?_map,Option.map_eq_some_iff]at hyi;obtain⟨z,hz,rfl⟩:=hyi;by_cases hip:i=p
  ·subst hip;rw[hyp]at hz;injection hz with hz;subst hz;rw[hvp]at hvi;injection hvi with hvi;subst hvi;have hdk:aA (ab (kD ys)) k:=⟨.arr e rows,by rw[hhin];simp[ab]⟩;rcases hk with rfl|rfl;·exact .own 998 hdk
   ·exact .own 999 hdk
  ·obtain⟨X',hX',hrx⟩:=hyo i z hip hz;rw[(iV hrx).1];refine m7 hh1 (fun b hb=>(hS1eq b).2 (hS1 b hb)) ((hv i v X' hvi hX').tE hD1 (sn hoff i X' hip hX')) hrx ?_;rcases hcase with⟨hpu,_⟩|⟨_,hall⟩;·exact .inl (pF hpu i X' hip hX')
   ·refine .inr fun s b hs hb=>(hS1eq b).2 (hall b (h.lt (cy.1 hs).2 hb) fun hbt=>(cy.1 hs).1 (h.heap.inj s t b (cy.1 hs).2 hdt hb hbt))
 ·rintro ee w' ⟨v,β1,rfl,hfr,hheap,hnew,hpinned,hrv⟩;have hout:dD x=[]∨∃e' rows',dD x=[(999,.arr e' rows')]:=by
   unfold dD;split;·exact .inr ⟨_,_,rfl⟩
   ·exact .inl rfl
  have hsame:∀b,b<w.heap.size→¬bY (β t)=some b→w'.heap[b]?=w.heap[b]?:=fun b hb hn=>hfr.block b hb fun hl=>hn ((hlive0 b).1 hl);have hobj:cm t x st.aa=(match dD x with|(_,o)::_=>aH t o st.aa|[]=>eQ t st.aa):=rfl;have hdomU:∀s,aA (cm t x st.aa) s→aA st.aa s:=by
   intro s hs;rcases hout with ho|⟨e',rows',ho⟩;·rw[hobj,ho]at hs;exact(cy.1 hs).2
   ·rw[hobj,ho]at hs;rcases bF.1 hs with e1|e1;·rw[e1];exact hdt
    ·exact e1
  have hdomU':∀s,aA st.aa s→s≠t→aA (cm t x st.aa) s:=by
   intro s hs hne;rcases hout with ho|⟨e',rows',ho⟩;·rw[hobj,ho];exact hD1 s hs hne
   ·rw[hobj,ho];exact bF.2 (.inr hs)
  have hfreeU:∀y∈aJ d (bM x),cm t x st.aa y.1=none:=by intro y hy;cases hc:cm t x st.aa y.1 with|none=>rfl|some o=>obtain⟨o',ho'⟩:=hdomU y.1 ⟨o,hc⟩;rw[hfree y hy]at ho';cases ho'
  let F:Nat→Option AO:=b6 (ab (dD x)) fun t=>dB (cellAt (bM x) t);have hFp:∀q o,dB (cellAt (bM x) q)=some o→F q=some o:=by
   intro q o hq;rcases hout with ho|⟨e',rows',ho⟩;·simp only[F,ho,b6,ab];exact hq
   ·simp only[F,ho,b6,ab];have:q≠999:=by rintro rfl;rw[mZ hres]at hq;cases hq
    rw[if_neg this];exact hq
  let β2:Nat→Value:=fun s=>match ab (aJ d (bM x)) s with|some _=>β1 ((s-d)/1000)|none=>β s;have hβnew:∀q o,dB (cellAt (bM x) q)=some o→β2 (d+1000*q)=β1 q:=fun q o hq=>by simp only[β2,ep d (bM x) htup,hq];congr 1;omega
  have hβold:∀s,aA st.aa s→β2 s=β s:=fun s ⟨o,ho⟩=>by cases hlk:ab (aJ d (bM x)) s with|none=>simp only[β2,hlk]|some o'=>obtain⟨z,hz,rfl⟩:=fX _ _ _ hlk;rw[hfree z hz]at ho;cases ho
  have hlook2:∀s,bk (aJ d (bM x)) (cm t x st.aa) s=match ab (aJ d (bM x)) s with|some o=>some o|none=>cm t x st.aa s:=fun s=>rfl;have hdomNew:∀q o,dB (cellAt (bM x) q)=some o→bk (aJ d (bM x)) (cm t x st.aa) (d+1000*q)=some o:=fun q o hq=>by rw[hlook2,ep d (bM x) htup,hq]
  have hdomOld:∀s o,cm t x st.aa s=some o→bk (aJ d (bM x)) (cm t x st.aa) s=some o:=fun s o ho=>by rw[hlook2];cases hlk:ab (aJ d (bM x)) s with|none=>exact ho|some o'=>obtain⟨z,hz,rfl⟩:=fX _ _ _ hlk;rw[hfreeU z hz]at ho;cases ho
  have hcases:∀s o,bk (aJ d (bM x)) (cm t x st.aa) s=some o→(∃q,s=d+1000*q∧dB (cellAt (bM x) q)=some o)∨(cm t x st.aa s=some o∧ab (aJ d (bM x)) s=none):=fun s o ho=>by rw[hlook2]at ho;cases hlk:ab (aJ d (bM x)) s with|none=>rw[hlk]at ho;exact .inr ⟨ho,rfl⟩|some o'=>rw[hlk]at ho;injection ho with ho;subst ho;obtain⟨q,rfl⟩:=qE d (bM x) s hlk;rw[ep d (bM x) htup]at hlk;exact .inl ⟨q,rfl,hlk⟩
  have hback:∀o,cm t x st.aa t=some o→dD x=[(999,o)]:=by
   intro o ho;rcases hout with h1|⟨e',rows',h1⟩;·rw[hobj,h1]at ho;simp[eQ]at ho
   ·rw[hobj,h1]at ho;simp only[aH,if_true,Option.some.injEq]at ho;rw[h1,ho]
  have hkeep:∀s o,cm t x st.aa s=some o→s≠t→∃o0,st.aa s=some o0∧(o=o0∨(dD x=[]∧o=cZ t o0)):=by
   intro s o ho hne;rcases hout with h1|⟨e',rows',h1⟩
   ·rw[hobj,h1]at ho;have:(st.aa s).map (cZ t)=some o:=by simpa[eQ,hne]using ho
    obtain⟨o',ho',rfl⟩:=Option.map_eq_some_iff.1 this;exact⟨o',ho',.inr ⟨h1,rfl⟩⟩
   ·rw[hobj,h1]at ho;exact⟨o,by simpa[aH,hne]using ho,.inl rfl⟩
  have hFt:∀o,cm t x st.aa t=some o→F 999=some o∧β1 999=vp∧vp=β t:=by intro o ho;have h1:=hback o ho;have hd:aA (ab (dD x)) 999:=⟨o,by rw[h1];simp[ab]⟩;obtain⟨hd2,hb⟩:=hpinned 999 hd;obtain⟨o2,ho2⟩:=hd2;obtain⟨rfl,_⟩:=hin 999 o2 ho2;exact⟨by simp only[F,h1,b6,ab];simp,hb,hvpin rfl⟩
  have hnewF:∀q o b,F q=some o→bY (β1 q)=some b→w.heap.size≤b∨bY (β t)=some b:=fun q o b hq hb=>by
   rcases hnew q b ⟨o,hq⟩ hb with h1|h1;·exact .inl h1
   ·exact .inr ((hlive0 b).1 h1)
  have hapart:∀q o b,dB (cellAt (bM x) q)=some o→bY (β1 q)=some b→bY (β t)=some b→∀o',cm t x st.aa t≠some o':=by intro q o b hq hb hbt o' ho';obtain⟨h1,h2,h3⟩:=hFt o' ho';have:=hheap.inj q 999 b ⟨o,hFp q o hq⟩ ⟨o',h1⟩ hb (by rw[h2,h3];exact hbt);subst this;rw[mZ hres]at hq;cases hq
  have hblk2:∀s o b,bk (aJ d (bM x)) (cm t x st.aa) s=some o→bY (β2 s)=some b→(∃q,s=d+1000*q∧dB (cellAt (bM x) q)=some o∧bY (β1 q)=some b)∨(aA st.aa s∧cm t x st.aa s=some o∧bY (β s)=some b):=by
   intro s o b ho hb;rcases hcases s o ho with⟨q,rfl,hq⟩|⟨h1,_⟩;·rw[hβnew q o hq]at hb;exact .inl ⟨q,rfl,hq,hb⟩
   ·have hs:=hdomU s ⟨o,h1⟩;rw[hβold s hs]at hb;exact .inr ⟨hs,h1,hb⟩
  have hm:∀b,aR S0 w0.heap.size β st.aa w b→aR S0 w0.heap.size β2 (bk (aJ d (bM x)) (cm t x st.aa)) w' b∧w'.heap[b]?=w.heap[b]?:=by
   rintro b hb0;obtain⟨h1,h2,h3⟩:=hb0;refine⟨⟨h1,Nat.lt_of_lt_of_le h2 hfr.size,?_⟩,hsame b h2 fun hbt=>h3 ⟨t,_,hot,hbt⟩⟩;rintro⟨s,o,ho,hb⟩;rcases hblk2 s o b ho hb with⟨q,rfl,hq,hb1⟩|⟨⟨o',ho'⟩,_,hb1⟩
   ·rcases hnewF q o b (hFp q o hq) hb1 with h4|h4;·omega
    ·exact h3 ⟨t,_,hot,h4⟩
   ·exact h3 ⟨s,o',ho',hb1⟩
  have hD:∀s,aA st.aa s→s≠t→aA (bk (aJ d (bM x)) (cm t x st.aa)) s∧β2 s=β s:=fun s hs hne=>by obtain⟨o,ho⟩:=hdomU' s hs hne;exact⟨⟨o,hdomOld s o ho⟩,hβold s hs⟩
  have hcalS:hH p xs=true→S1=aR S0 w0.heap.size β st.aa w→∀b,aR (fun b=>S1 b∨live β0 (ab (kD ys)) b) w.heap.size β1 F w' b→aR S0 w0.heap.size β2 (bk (aJ d (bM x)) (cm t x st.aa)) w' b∧w'.heap[b]?=w'.heap[b]?:=by
   rintro _ hSe b ⟨h1,h2,h3⟩;refine⟨⟨?_,h2,?_⟩,rfl⟩
   ·rcases h1 with(h1|h1)|h1;·rw[hSe]at h1;exact h1.1
    ·rcases h.old t b hdt ((hlive0 b).1 h1) with h4|h4;·exact .inr h4
     ·exact .inl (hL b h4)
    ·have:=h.bT.size;exact .inr (by omega)
   ·rintro⟨s,o,ho,hb⟩;rcases hblk2 s o b ho hb with⟨q,rfl,hq,hb1⟩|⟨⟨o',ho'⟩,hou,hb1⟩;·exact h3 ⟨q,o,hFp q o hq,hb1⟩
    ·by_cases hst:s=t;·subst hst;obtain⟨g1,g2,g3⟩:=hFt o hou;exact h3 ⟨999,o,g1,by rw[g2,g3];exact hb1⟩
     ·rcases h1 with(h1|h1)|h1;·rw[hSe]at h1;exact h1.2.2 ⟨s,o',ho',hb1⟩
      ·exact hst (h.heap.inj s t b ⟨o',ho'⟩ hdt hb1 ((hlive0 b).1 h1))
      ·have:=h.lt ⟨o',ho'⟩ hb1;omega
  have hconv:∀(u:Value) (q:PV),cT (aR (fun b=>S1 b∨live β0 (ab (kD ys)) b) w.heap.size β1 F w') w' u q→((flat (bM x)∧mj (dD x))→gF q=true)→cT (aR S0 w0.heap.size β2 (bk (aJ d (bM x)) (cm t x st.aa)) w') w' u q:=by
   intro u q hu hfl;rcases hcase with⟨hpu,hSe⟩|⟨hf,_⟩;·exact hu.mono (hcalS hpu hSe)
   ·exact ej hu (hfl hf)
  have hvars:∀s,RV P (aR S0 w0.heap.size β2 (bk (aJ d (bM x)) (cm t x st.aa)) w') w' β2 (aA (bk (aJ d (bM x)) (cm t x st.aa))) (a.tmps.getD s undef) (fI t x st.vars s):=by
   intro s;rcases hout with h1|⟨e',rows',h1⟩
   ·have:fI t x st.vars=cb t st.vars:=by unfold fI;rw[h1]
    rw[this];exact(h.vars s).kill hnp hm hD
   ·have:fI t x st.vars=st.vars:=by unfold fI;rw[h1]
    rw[this];refine(h.vars s).mono hm fun s' hs'=>?_;by_cases hst:s'=t;·subst hst;exact⟨⟨.arr e' rows',hdomOld _ _ (by rw[hobj,h1];simp[aH])⟩,hβold _ hs'⟩
    ·exact hD s' hs' hst
  have hrel:Rel P S0 L B0 w0 N ⟨fI t x st.vars,bk (aJ d (bM x)) (cm t x st.aa)⟩ a w' β2:=by
   refine⟨h.size,h.defers,hvars,⟨fun s o ho=>?_,fun s s' b hs hs' hb hb'=>?_⟩,fun s b hs hb=>?_,h.oT,fun s h9 hs=>?_,?_⟩;·
    have harr:∀(q s:Nat) (o:AO),F q=some o→β2 s=β1 q→((∀cs,o≠.box cs)∧(∀es,o≠.map es)∧(∀e cs,o≠.rws e cs)∧(∀es,o≠.fO es)∧∀r c,o≠.lV r c)→((flat (bM x)∧mj (dD x))→∀e' rows',o=.arr e' rows'→bq rows')→ba P (aR S0 w0.heap.size β2 (bk (aJ d (bM x)) (cm t x st.aa)) w') w' β2 (aA (bk (aJ d (bM x)) (cm t x st.aa))) s o:=by intro q s o hq hβ hnb hfl;have hho:=hheap.holds q o hq;cases o with|box cs=>exact absurd rfl (hnb.1 cs)|map es=>exact absurd rfl (hnb.2.1 es)|rws e cs=>exact absurd rfl (hnb.2.2.1 e cs)|fO es=>exact absurd rfl (hnb.2.2.2.1 es)|lV r c=>exact absurd rfl (hnb.2.2.2.2 r c)|arr e' rows'=>obtain⟨inf',us',hi',hown',hrl',hcs'⟩:=hho;refine⟨inf',us',hi',by rw[hβ];exact hown',hrl',fun i j row q h1 h2=>?_⟩;obtain⟨u,hu,h3,h4⟩:=hcs' i j row q h1 h2;exact⟨u,hu,h3,hconv u q h4 fun hf=>hfl hf _ _ rfl row (List.mem_of_getElem? h1) q (List.mem_of_getElem? h2)⟩
    rcases hcases s o ho with⟨q,rfl,hq⟩|⟨h1,_⟩
    ·refine harr q _ o (hFp q o hq) (hβnew q o hq) ?_ ?_
     ·refine⟨?_,?_,?_,?_,?_⟩;·rintro cs rfl;unfold dB at hq;split at hq<;>cases hq
      ·rintro cs rfl;unfold dB at hq;split at hq<;>cases hq
      ·rintro e cs rfl;unfold dB at hq;split at hq<;>cases hq
      ·rintro cs rfl;unfold dB at hq;split at hq<;>cases hq
      ·rintro e cs rfl;unfold dB at hq;split at hq<;>cases hq
     ·rintro⟨hf,_⟩ e' rows' rfl;have hcell:∃e',cellAt (bM x) q=some (.fr e' rows'):=by
       unfold dB at hq;split at hq;·rename_i e1 rows1 heq;injection hq with hq;injection hq with hq1 hq2;subst hq2;exact⟨e1,heq⟩
       ·cases hq
      obtain⟨e1,hce⟩:=hcell;exact(gb (bM x) q _ hf hce:bq rows')
    ·by_cases hst:s=t
     ·subst hst;obtain⟨g1,g2,g3⟩:=hFt o h1;have hbk:=hback o h1;refine harr 999 _ o g1 (by rw[hβold _ hdt,g2,g3]) ?_ ?_
      ·refine⟨?_,?_,?_,?_,?_⟩
       ·rintro cs rfl;rcases hout with h5|⟨e',rows',h5⟩;·rw[h5]at hbk;cases hbk
        ·rw[h5]at hbk;simp at hbk
       ·rintro cs rfl;rcases hout with h5|⟨e',rows',h5⟩;·rw[h5]at hbk;cases hbk
        ·rw[h5]at hbk;simp at hbk
       ·rintro e cs rfl;rcases hout with h5|⟨e',rows',h5⟩;·rw[h5]at hbk;cases hbk
        ·rw[h5]at hbk;simp at hbk
       ·rintro cs rfl;rcases hout with h5|⟨e',rows',h5⟩;·rw[h5]at hbk;cases hbk
        ·rw[h5]at hbk;simp at hbk
       ·rintro e cs rfl;rcases hout with h5|⟨e',rows',h5⟩;·rw[h5]at hbk;cases hbk
        ·rw[h5]at hbk;simp at hbk
      ·rintro⟨_,hf⟩ e' rows' rfl;rw[hbk]at hf;exact hf.1
     ·obtain⟨o0,ho0,hor⟩:=hkeep s o h1 hst;have hbl:∀b,bY (β s)=some b→w'.heap[b]?=w.heap[b]?:=fun b hb=>hsame b (h.lt ⟨o0,ho0⟩ hb) fun hbt=>hst (h.heap.inj s t b ⟨o0,ho0⟩ hdt hb hbt);rcases hor with rfl|⟨h5,rfl⟩
      ·by_cases hx5:dD x=[];·
        have h6:cm t x st.aa s=some (cZ t o):=by rw[hobj,hx5];simp[eQ,hst,ho0]
        rw[h1]at h6;injection h6 with h6;rw[h6];exact(h.heap.holds s o ho0).kill hnp hm hD (hβold s ⟨o,ho0⟩) hbl
       ·refine(h.heap.holds s o ho0).mono hm (fun s' hs'=>?_) (hβold s ⟨o,ho0⟩) hbl;by_cases hst':s'=t
        ·subst hst';rcases hout with h5|⟨e',rows',h5⟩;·exact absurd h5 hx5
         ·exact⟨⟨.arr e' rows',hdomOld _ _ (by rw[hobj,h5];simp[aH])⟩,hβold _ hs'⟩
        ·exact hD s' hs' hst'
      ·exact(h.heap.holds s o0 ho0).kill hnp hm hD (hβold s ⟨o0,ho0⟩) hbl
   ·obtain⟨o,ho⟩:=hs;obtain⟨o',ho'⟩:=hs';have hfo:∀(q s:Nat) (o o':AO),dB (cellAt (bM x) q)=some o→bY (β1 q)=some b→aA st.aa s→cm t x st.aa s=some o'→bY (β s)=some b→False:=by
     intro q s o o' hq hb1 hs hu hb2;rcases hnewF q o b (hFp q o hq) hb1 with h4|h4;·have:=h.lt hs hb2;omega
     ·have:=h.heap.inj s t b hs hdt hb2 h4;subst this;exact hapart q o b hq hb1 h4 o' hu
    rcases hblk2 s o b ho hb with⟨q,rfl,hq,hb1⟩|⟨h1,h2,h3⟩<;>rcases hblk2 s' o' b ho' hb' with⟨q',rfl,hq',hb1'⟩|⟨h1',h2',h3'⟩;·rw[hheap.inj q q' b ⟨o,hFp q o hq⟩ ⟨o',hFp q' o' hq'⟩ hb1 hb1']
    ·exact(hfo q s' o o' hq hb1 h1' h2' h3').elim
    ·exact(hfo q' s o' o hq' hb1' h1 h2 h3).elim
    ·exact h.heap.inj s s' b h1 h1' h3 h3'
   ·obtain⟨o,ho⟩:=hs;rcases hblk2 s o b ho hb with⟨q,rfl,hq,hb1⟩|⟨h1,_,h3⟩
    ·rcases hnewF q o b (hFp q o hq) hb1 with h4|h4;·have:=h.bT.size;exact .inl (by omega)
     ·exact h.old t b hdt h4
    ·exact h.old s b h1 h3
   ·obtain⟨o,ho⟩:=hs;rcases hcases s o ho with⟨q,rfl,_⟩|⟨h1,_⟩;·omega
    ·have hs:=hdomU s ⟨o,h1⟩;rw[hβold s hs];exact h.rY s h9 hs
   ·refine⟨hfr.os.trans h.bT.os,hfr.tape.trans h.bT.tape,hfr.output.trans h.bT.output,Nat.le_trans h.bT.size hfr.size,fun b h1 h2=>?_⟩;refine(hsame b (by have:=h.bT.size;omega) fun hbt=>?_).trans (h.bT.block b h1 h2);rcases h.old t b hdt hbt with h4|h4;·omega
    ·exact h2 h4
  refine⟨v,β2,rfl,hrel,?_⟩;refine ji htup (fun q c u hc hu=>?_) hrv;have hrc:=vb (bM x) q c hres hc;cases c with
  |fr e' rows'=>
   have hq:dB (cellAt (bM x) q)=some (.arr e' rows'):=by rw[hc];rfl
   obtain⟨hu1,hu2⟩:=RV.aV (show RV P _ w' β1 _ u (.own q) from hu);rw[hu1,←hβnew q _ hq];exact .own (d+1000*q) ⟨_,hdomNew q _ hq⟩|pv q'=>exact .pv _ _ (hconv u q' hu.bj fun hf=>gb (bM x) q _ hf.1 hc)|rp cs=>
   rcases hcase with⟨hpu,hSe⟩|⟨hfl,_⟩;·obtain⟨ad,us',rfl,h1,h2,h3,h4⟩:=(show RV P _ w' β1 _ u (.rp cs) from hu).gw;exact .rp ad cs us' (hcalS hpu hSe _ h1).1 h2 h3 (fun j q hq=>(h4 j q hq).mono (hcalS hpu hSe))
   ·exact(gb (bM x) q _ hfl.1 hc).elim|_=>simp[il]at hrc
end
section
variable{P:Program}{S0 L:Nat→Prop}{B0:Nat→Value}{w0 w:World}{N:Nat}{st:St}{a:Act}{β:Nat→Value}
theorem BA {aa objs':Nat→Option AO}{T ks:List Nat}{xs:List AV} (h:xq aa objs' T ks xs=some [.aq]):False:=by
 have hr:∀{x:AV}{r:AV×List Nat},rd 5 aa x=some r→r.1≠.aq:=by
  intro x r h e;unfold rd at h;split at h;·obtain⟨y,hy,rfl⟩:=Option.map_eq_some_iff.1 h;simp only at e;subst e;unfold Lb at hy;split at hy<;>cases hy
  ·obtain⟨_,_,h⟩:=Option.bind_eq_some_iff.1 h;obtain⟨_,_,rfl⟩:=Option.map_eq_some_iff.1 h;cases e
  ·obtain⟨_,_,rfl⟩:=Option.map_eq_some_iff.1 h;cases e
  ·cases h;cases e
  ·cases h;cases e
  ·cases h;cases e
  ·cases h
 match ks,xs with
 |[],[]=>cases h|[],_::_=>cases h|_::_,[]=>cases h|k::ks,x::xs=>
  obtain⟨y,hy,h⟩:=Option.bind_eq_some_iff.1 h;obtain⟨ys,_,h⟩:=Option.map_eq_some_iff.1 h;have e:y=.aq:=by injection h
  subst e;split at hy;·exact nK hy
  ·split at hy;·obtain⟨r,h1,h2⟩:=Option.map_eq_some_iff.1 hy;exact hr h1 h2
   ·obtain⟨r,_,h2⟩:=Option.map_eq_some_iff.1 hy;cases h2
theorem YL {n f:Nat} (h0:n≤1000000) (h2:3000000≤f+2000000) (h:f<n):False:=by omega
theorem gT {Γ:bI} (hL:∀b,L b→S0 b) (hΓ:c7 P Γ) (h:Rel P S0 L B0 w0 N st a w β) {d:Option Nat} (hd:∀s,d=some s→s<N) {f:FuncId} (hfn:gI P f=true) {K:St→Prop}{vals:List Value}{xs:List AV} (hl:vals.length=xs.length) (hv:al xs→∀(i:Nat) (v:Value) (x:AV),vals[i]?=some v→(xs.map strip)[i]?=some x→RV P (aR S0 w0.heap.size β st.aa w) w β (aA st.aa) v x) (hs:stepG Γ d f xs (gm Γ f) K st):Calls P f vals.toArray w fun e w'=>∃v β' st',e=.returned v∧K st'∧Rel P S0 L B0 w0 N st' (a.put d v) w' β':=by
 unfold stepG at hs;obtain⟨d,rfl,ha,hs⟩:=ae hs;obtain⟨ks,_,hs⟩:=ae hs;obtain⟨hTn,hQT,hs⟩:=hs;obtain⟨hQn0,hs⟩:=hs;obtain⟨ys,hys,hs⟩:=ae hs;obtain⟨⟨φ,x⟩,hx,hφ,hpf,hs⟩:=ae hs;obtain⟨o,ho,ho1,hs⟩:=ae hs;obtain⟨r,hr,hfree,hK⟩:=ae hs;have hdN:=hd d rfl;have hlim:=h.oT;have hcon:wS P f ys x:=by
  rcases hΓ (f+2000000) ys φ x hx hφ with⟨h1,_⟩|⟨_,_,h1,_⟩|⟨_,_,_,h1|h1⟩|⟨h0,h1,_⟩;·exact absurd h1 (Nat.not_lt.2 (Nat.le_trans (by decide) (Nat.le_add_left 2000000 f)))
  ·exact absurd h1 (Nat.not_lt.2 (Nat.le_add_left 2000000 f))
  ·subst h1;exact(BA hys).elim
  ·rw[show f+2000000-2000000=f from Nat.add_sub_cancel _ _]at h1;exact h1
  ·exact(YL h0 h1 (fS hfn)).elim
 have hQn:∀{T Q:List Nat},T.Nodup→Q.Nodup→(∀t∈Q,t∈T)→(Q++mL d T (T.filter fun t=>!Q.contains t)).Nodup:=by
  intro T Q hT hQ hQT;unfold mL;rw[List.nodup_append,List.nodup_append];refine⟨hQ,⟨List.Pairwise.filter _ (List.Pairwise.filter _ hT),List.Pairwise.filter _ (nJ d),?_⟩,?_⟩;·rintro x hx y hy rfl;have h1:=(List.mem_filter.1 (List.mem_filter.1 hx).1).1;have h2:=(List.mem_filter.1 hy).2;simp at h2;exact h2 h1
  ·rintro x hx y hy rfl;rcases List.mem_append.1 hy with hy|hy;·have h2:=(List.mem_filter.1 (List.mem_filter.1 hy).1).2;simp at h2;exact h2 hx
   ·have h2:=(List.mem_filter.1 hy).2;simp at h2;exact h2 (hQT _ hx)
 refine(BB (a:=a) (fun _=>hL) h (by omega) (by rw[hl,List.length_map]) (hv ha) rfl rfl rfl hTn hQT (hQn hTn hQn0 hQT) hys hcon hpf ho ho1 hr hfree).mono ?_;rintro e w' ⟨v,β',rfl,hR,hrv⟩;exact⟨v,β',_,rfl,hK,hR.put hd hrv⟩
end
end Go.Proofs.YtlmkcmfmfahcfaaGreat.Ab
