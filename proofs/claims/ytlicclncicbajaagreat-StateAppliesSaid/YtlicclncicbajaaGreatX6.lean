/- The abstract machine: two operations of one region change places; any order of a region's operations. -/
import Derived.Test.YtlicclncicbajaaGreatX5
set_option linter.unusedVariables false
set_option linter.unusedSimpArgs false
set_option linter.unnecessarySimpa false
set_option maxHeartbeats 40000000
set_option maxRecDepth 100000
set_option linter.defProp false
namespace Go.Proofs.YtlicclncicbajaaGreat.Ab
open Go Go.RowKit
def q112:=@List.any_eq_true
def q134:=@Bool.or_eq_true
def q137:=@Nat.lt_or_ge
def q142:=@Bool.not_eq_true'
def q197:=@Bool.or_eq_false_iff
def q202:=@List.eq_of_mem_replicate
def q214:=@Array.getElem?_toList
def q215:=@List.length_replicate
def q229:=@List.getElem?_replicate
def q239:=@List.contains_eq_mem
def q240:=@Array.mem_toList_iff
def q241:=@Array.getElem_setIfInBounds_ne
def q242:=@List.Pairwise.filter
def q257:=@Ne.symm
def q265:=@Bool.false_or
def q288:=@Array.ext
def q289:=@Nat.mul_add_mod
end Go.Proofs.YtlicclncicbajaaGreat.Ab
namespace Go.Proofs.YtlicclncicbajaaGreat.Ab
open Go Go.RowKit
variable {n k i j dd:Nat}{f:FuncId}{ys cs:List AV}{r v X:AV}{C:bI→Prop}{K:St→Prop}{rows:List (List PV)}{vals:List Value}{T un pre:List Nat}{listed:Array Bool}
theorem St.ext' {a b:St} (h1:a.vars=b.vars) (h2:a.aa=b.aa):a=b:=by cases a;cases b;simp only at h1 h2;rw[h1,h2]
theorem pX {d:Option Nat}{f:Nat→AV}{s:Nat} (h:d≠some s):Ab.put d v f s=f s:=by cases d with|none=>rfl|some d=>have:s≠d:=fun e=>h (by rw[e]);simp[Ab.put,this]
theorem put_comm {d d':Option Nat}{v v':AV}{f:Nat→AV} (h:∀s,d=some s→d'≠some s):Ab.put d v (Ab.put d' v' f)=Ab.put d' v' (Ab.put d v f):=by cases d with|none=>rfl|some d=>cases d' with|none=>rfl|some d'=>
 have hne:d'≠d:=fun e=>h d rfl (by rw[e]);funext s;by_cases h1:s=d;·subst h1;simp[Ab.put,hne.symm]
 ·simp[Ab.put,h1]
theorem pe {t:Nat}{d:Option Nat}{f:Nat→AV}:cE t (Ab.put d v f)=Ab.put d (kill t v) (cE t f):=by cases d with|none=>rfl|some d=>
 funext s;by_cases h1:s=d;·simp[cE,Ab.put,h1]
 ·simp[cE,Ab.put,h1]
def ov:bI→Nat→Option AO|.new _ os=>ab os|.wo t o=>fun s=>if s=t then some o else none|_=>fun _=>none
def pN (f g:Nat→Option AO):Nat→Option AO:=fun t=>match f t with|some o=>some o|none=>g t
def valE:bI→AV|.put v=>v|.new v _=>v|.wo _ _=>.aw|.app t _=>.own t
def plain:bI→Prop|.app _ _=>False|_=>True
theorem eg {e:bI}{d:Option Nat}{st:St} (h:plain e):e.on d st=⟨Ab.put d (valE e) st.vars,pN (ov e) st.aa⟩:=by cases e with|put v=>rfl|new v os=>rfl|wo t o=>refine St.ext' rfl ?_;funext s;by_cases hs:s=t<;>simp[bI.on,pN,ov,aR,hs]|app t o=>exact h.elim
theorem Fw {f g h:Nat→Option AO} (hfg:∀t,f t=none∨g t=none):pN f (pN g h)=pN g (pN f h):=by funext t;unfold pN;rcases hfg t with e|e<;>rw[e]<;>cases f t<;>cases g t<;>rfl
def Yi (P:Program) (Γ:bX) (i:AI) (st:St) (e:bI):Prop:=(i.un=[]∨kc i.un st.aa ((i.xs.map (Ab.ev st.vars)).map strip))∧(dW P Γ i st.vars st.aa fun e'=>e'=e)∧BQ i.un i.tg e
theorem wz {P:Program}{Γ:bX}{d:Option Nat}{k:AK}{xs:List AV}{aa:Nat→Option AO}{e:bI} (hC:C e) (hs:bf P Γ d k xs aa fun e'=>e'=e):bf P Γ d k xs aa C:=by cases k with
 |oO=>dsimp only[bf]at hs ⊢;obtain⟨x,hx,hl,rfl⟩:=ae hs;rw[hx];exact⟨hl,hC⟩|pick=>dsimp only[bf]at hs ⊢;obtain⟨x,hx,hl,rfl⟩:=ae hs;rw[hx];exact⟨hl,hC⟩|gX e=>dsimp only[bf]at hs ⊢;obtain⟨d,hd,ha,hw⟩:=ae hs;obtain⟨x,hx,hl,hn,rfl⟩:=ae hw;rw[hd];exact⟨ha,by rw[hx];exact⟨hl,hn,hC⟩⟩|box=>dsimp only[bf]at hs ⊢;obtain⟨d,hd,ha,hw⟩:=ae hs;obtain⟨x,hx,hl,hn,rfl⟩:=ae hw;rw[hd];exact⟨ha,by rw[hx];exact⟨hl,hn,hC⟩⟩|alloc zs=>dsimp only[bf]at hs ⊢;obtain⟨d,hd,ha,hw⟩:=ae hs;obtain⟨x,hx,hl,hn,rfl⟩:=ae hw;rw[hd];exact⟨ha,by rw[hx];exact⟨hl,hn,hC⟩⟩|sJ e sz=>dsimp only[bf]at hs ⊢;obtain⟨d,hd,ha,hw⟩:=ae hs;obtain⟨x,hx,hl,hn,rfl⟩:=ae hw;rw[hd];exact⟨ha,by rw[hx];exact⟨hl,hn,hC⟩⟩|store n=>dsimp only[bf]at hs ⊢;obtain⟨ha,hw⟩:=hs;obtain⟨x,hx,hl,rfl⟩:=ae hw;exact⟨ha,by rw[hx];exact⟨hl,hC⟩⟩|app e sz bytes=>
  dsimp only[bf]at hs ⊢;obtain⟨ha,hw⟩:=hs;refine⟨ha,?_⟩;by_cases ho:pQ (xs.map strip)=true;·rw[if_pos ho]at hw ⊢;obtain⟨x,hx,hl,rfl⟩:=ae hw;rw[hx];exact⟨hl,hC⟩
  ·rw[if_neg ho]at hw ⊢;obtain⟨d,hd,hw⟩:=ae hw;obtain⟨x,hx,hl,hn,rfl⟩:=ae hw;rw[hd];show ai (cG _ d _ _) _;rw[hx];exact⟨hl,hn,hC⟩|call f=>dsimp only[bf,cH]at hs ⊢;obtain⟨d,hd,ha,hw⟩:=ae hs;obtain⟨ys,hys,hw⟩:=ae hw;obtain⟨⟨φ,r⟩,hr,h1,h2,h3,h4,rfl⟩:=ae hw;rw[hd];exact⟨ha,by rw[hys];show ai (gt Γ f ys) _;rw[hr];exact⟨h1,h2,h3,h4,hC⟩⟩|_=>obtain⟨ha,hw⟩:=hs;obtain⟨x,hx,hl,rfl⟩:=ae hw;exact⟨ha,by rw[hx];exact⟨hl,hC⟩⟩
theorem Fb {P:Program}{Γ:bX}{c:Bool}{d:Option Nat}{k:AK}{xs:List AV}{aa:Nat→Option AO}{e:bI} (hC:C e) (hs:cu P Γ c d k xs aa fun e'=>e'=e):cu P Γ c d k xs aa C:=by have hmk:∀{v:AV},((c=true→bf P Γ d k xs aa fun e'=>e'=e)∧(c=false→bI.put v=e))→((c=true→bf P Γ d k xs aa C)∧(c=false→C (.put v))):=fun h=>⟨fun hc=>wz hC (h.1 hc),fun hc=>by rw[h.2 hc];exact hC⟩;cases k with
 |oO=>dsimp only[cu]at hs ⊢;obtain⟨x,hx,hl,rfl⟩:=ae hs;rw[hx];exact⟨hl,hC⟩|pick=>dsimp only[cu]at hs ⊢;obtain⟨x,hx,hl,rfl⟩:=ae hs;rw[hx];exact⟨hl,hC⟩|gX e=>exact hmk hs|box=>exact hmk hs|alloc zs=>exact hmk hs|sJ e sz=>exact hmk hs|store n=>exact hmk hs|app e sz bytes=>exact hmk hs|call f=>
  dsimp only[cu]at hs ⊢;obtain⟨ys,hys,hs⟩:=ae hs;obtain⟨⟨φ,r⟩,hr,hs⟩:=ae hs;rw[hys];show ai (gt Γ f ys) _;rw[hr];show ite _ _ _;split at hs;·rename_i hif;obtain⟨h1,h2,h3,h4,rfl⟩:=hs;rw[if_pos hif];exact⟨h1,h2,h3,h4,hC⟩
  ·rename_i hif;rw[if_neg hif];exact hmk hs|_=>dsimp only[cu]at hs ⊢;obtain⟨x,hx,hl,rfl⟩:=ae hs;rw[hx];exact⟨hl,hC⟩
theorem E9 {P:Program}{Γ:bX}{i:AI}{vars:Nat→AV}{aa:Nat→Option AO}{e:bI} (hC:C e) (hs:dW P Γ i vars aa fun e'=>e'=e):dW P Γ i vars aa C:=by unfold dW at hs ⊢;cases hg:i.g with|none=>rw[hg]at hs;exact wz hC hs|some sw=>obtain⟨s,w⟩:=sw;rw[hg]at hs;dsimp only at hs ⊢;obtain⟨c,hc,hs⟩:=ae hs;rw[hc];exact Fb hC hs
theorem cD {P:Program}{Γ:bX}{i:AI}{st:St}:c9 P Γ i K st↔∃e,Yi P Γ i st e∧K (e.on i.d st):=by
 constructor;·rintro⟨hu,hs⟩;obtain⟨e,⟨ht,hK⟩,he⟩:=El hs;exact⟨e,⟨hu,he,ht⟩,hK⟩
 ·rintro⟨e,⟨hu,he,ht⟩,hK⟩;exact⟨hu,E9 (C:=fun e=>BQ i.un i.tg e∧K (e.on i.d st)) ⟨ht,hK⟩ he⟩
structure DS (x y:AI):Prop where
 xd:∀d,x.d=some d→d∉cU y∧y.d≠some d∧y.tg≠some d∧d<1000
 yd:∀d,y.d=some d→d∉cU x∧x.tg≠some d∧d<1000
 ya:(aQ y.k=true∧y.un=[])∨(isApp x.k=false∧(writes x.k=true→∃s,x.tg=some s)∧∀t∈ck x,t<1000∧y.un.contains t=true)
 xa:(aQ x.k=true∧x.un=[])∨(isApp y.k=false∧(writes y.k=true→∃s,y.tg=some s)∧∀t∈ck y,t<1000∧x.un.contains t=true)
 both:aQ x.k=true∨aQ y.k=true∨writes x.k=false∨writes y.k=false∨x.tg≠y.tg
theorem rV {o:Option Nat} (h:yo o=true):∃s,o=some s:=by cases o with|none=>cases h|some s=>exact⟨s,rfl⟩
theorem apart_spec {x y:AI} (h:Cc x y=true):DS x y:=by
 unfold Cc at h;simp only[q73]at h;obtain⟨⟨⟨⟨h1,h2⟩,h3⟩,h4⟩,h5⟩:=h;refine⟨fun d hd=>?_,fun d hd=>?_,?_,?_,?_⟩;·rw[hd]at h1;simp only[q73,q142,q239,decide_eq_false_iff_not,bne_iff_ne,decide_eq_true_eq]at h1;exact⟨h1.1.1.1,h1.1.1.2,h1.1.2,h1.2⟩
 ·rw[hd]at h2;simp only[q73,q142,q239,decide_eq_false_iff_not,bne_iff_ne,decide_eq_true_eq]at h2;exact⟨h2.1.1,h2.1.2,h2.2⟩
 ·simp only[q134,q73,q142,q90,decide_eq_true_eq,List.isEmpty_iff]at h3;refine h3.imp id fun⟨⟨ha,hb⟩,hc⟩=>⟨ha,fun hw=>?_,fun t ht=>hc t ht⟩;rcases hb with hb|hb;·rw[hb]at hw;cases hw
  ·exact rV hb
 ·simp only[q134,q73,q142,q90,decide_eq_true_eq,List.isEmpty_iff]at h4;refine h4.imp id fun⟨⟨ha,hb⟩,hc⟩=>⟨ha,fun hw=>?_,fun t ht=>hc t ht⟩;rcases hb with hb|hb;·rw[hb]at hw;cases hw
  ·exact rV hb
 ·simp only[q134,q142,bne_iff_ne]at h5;rcases h5 with(((h|h)|h)|h)|h;·exact .inl h
  ·exact .inr (.inl h)
  ·exact .inr (.inr (.inl h))
  ·exact .inr (.inr (.inr (.inl h)))
  ·exact .inr (.inr (.inr (.inr h)))
section
variable{P:Program}{Γ:bX}{x y:AI}{st:St}{e e':bI}
theorem wx:∀{os:List (Nat×AO)}{t:Nat}{o:AO},ab os t=some o→∃x∈os,x.1=t
 |[],_,_,h=>by cases h|(s,v)::os,t,o,h=>by
  simp only[ab]at h;split at h;·rename_i hs;exact⟨(s,v),q121,hs.symm⟩
  ·obtain⟨x,hx,h⟩:=wx h;exact⟨x,q103 _ hx,h⟩
theorem yz {i:AI}{e:bI} (he:px i e) (htg:uA i.tg e) (hlt:∀t∈ck i,t<1000) (hw:writes i.k=true→∃s,i.tg=some s) (ha:isApp i.k=false) {t:Nat} (h:ov e t≠none):(ck i).contains (t%1000)=true:=by
 rcases he with⟨v,rfl⟩|⟨hm,d,v,os,hd,rfl,hos⟩|⟨hwr,hm,t',o,rfl⟩|⟨hap,t,o,rfl⟩;·exact absurd rfl h
 ·cases hl:ab os t with|none=>exact absurd hl h|some o=>
   obtain⟨x,hx,rfl⟩:=wx hl;obtain⟨p,hp⟩:=hos x hx;have hmem:d∈ck i:=by unfold ck;rw[if_pos hm,hd];simp
   rw[hp,q273,q115 (hlt d hmem)];simpa using hmem
 ·obtain⟨s,hs⟩:=hw hwr;have hmem:s∈ck i:=by unfold ck;rw[hm,hwr,hs];simp
  rw[hs]at htg;have htg:t'=s:=htg;subst htg;have:t=t':=by
   by_cases e:t=t';·exact e
   ·exact absurd (by simp[ov,e]) h
  subst this;rw[q115 (hlt t hmem)];simpa using hmem
 ·rw[ha]at hap;cases hap
theorem tE {i:AI}{e:bI}{aa:Nat→Option AO}{U:List Nat} (he:px i e) (htg:uA i.tg e) (hlt:∀t∈ck i,t<1000) (hU:∀t,kp U t→kp (ck i) t) (hw:writes i.k=true→∃s,i.tg=some s) (ha:isApp i.k=false):∀t,kp U t→aa t=pN (ov e) aa t:=by intro t ht;unfold pN;cases ho:ov e t with|none=>rfl|some o=>have h1:=yz he htg hlt hw ha (t:=t) (by rw[ho];simp);have h2:=hU t ht;unfold kp at h2;rw[h1]at h2;cases h2
theorem Yi.yr (hyx:(aQ y.k=true∧y.un=[])∨(isApp x.k=false∧(writes x.k=true→∃s,x.tg=some s)∧∀t∈ck x,t<1000∧y.un.contains t=true)) (hax:aQ y.k=true∨isApp y.k=false) (hyd:∀d,y.d=some d→x.d≠some d∧x.tg≠some d∧d<1000) (hu:∀d,x.d=some d→d∉cU y) {vars:Nat→AV}{aa objs':Nat→Option AO} (hag:∀T,(∀t,kp T t→kp (ck x) t)→(isApp x.k=false∧(writes x.k=true→∃s,x.tg=some s)∧∀t∈ck x,t<1000)→∀t,kp T t→aa t=objs' t):Yi P Γ y ⟨Ab.put x.d v vars,aa⟩ e'↔Yi P Γ y ⟨vars,objs'⟩ e':=by
 have hvs:∀s∈cU y,Ab.put x.d v vars s=vars s:=fun s hs=>pX fun hd=>hu s hd hs;have hev:y.xs.map (Ab.ev (Ab.put x.d v vars))=y.xs.map (Ab.ev vars):=gm fun s hs=>hvs s (q108 _ hs);have hsym:∀{f g:Nat→Option AO}{T:List Nat},(∀t,kp T t→f t=g t)→∀t,kp T t→g t=f t:=fun h t ht=>(h t ht).symm;unfold Yi;simp only[hev];rcases hyx with⟨hy,hun⟩|⟨hxa,hxw,hxt⟩
 ·constructor;·rintro⟨_,h,ht⟩;exact⟨.inl hun,ej hvs ((dR hy h).2 _),ht⟩
  ·rintro⟨_,h,ht⟩;exact⟨.inl hun,ej (fun s hs=>(hvs s hs).symm) ((dR hy h).2 _),ht⟩
 ·have hsub:∀t,kp y.un t→kp (ck x) t:=by intro t ht;unfold kp at ht ⊢;cases hc:(ck x).contains (t%1000) with|false=>rfl|true=>rw[(hxt _ (by simpa using hc)).2]at ht;cases ht
  have hx3:=(⟨hxa,hxw,fun t ht=>(hxt t ht).1⟩:isApp x.k=false∧(writes x.k=true→∃s,x.tg=some s)∧∀t∈ck x,t<1000);have hA:=hag (ck x) (fun _ h=>h) hx3;have hB:=hag y.un hsub hx3;have hd:∀s,y.d=some s→s<1000∧(ck x).contains s=false:=by
   intro s hs;obtain⟨h1,h2,h3⟩:=hyd s hs;refine⟨h3,?_⟩;unfold ck;split;·cases hxd:x.d with|none=>rfl|some d=>have:¬d=s:=fun e=>h1 (by rw[hxd,e]);simpa[Option.toList,eq_comm]using this
   ·split;·cases hxd:x.tg with|none=>rfl|some d=>have:¬d=s:=fun e=>h2 (by rw[hxd,e]);simpa[Option.toList,eq_comm]using this
    ·rfl
  by_cases hy:aQ y.k=true
  ·constructor;·rintro⟨hn,h,ht⟩;exact⟨hn.imp id fun hn=>jl hB hn,ej hvs ((dR hy h).2 _),ht⟩
   ·rintro⟨hn,h,ht⟩;exact⟨hn.imp id fun hn=>jl (hsym hB) hn,ej (fun s hs=>(hvs s hs).symm) ((dR hy h).2 _),ht⟩
  ·have hya:=hax.resolve_left hy;have hne:y.un=[]→∀(f:Nat→Option AO) (l:List AV),kc (ck x) f l:=by
    intro hun f l;have hnil:ck x=[]:=by cases h:ck x with|nil=>rfl|cons t ts=>have:=(hxt t (by rw[h];simp)).2;rw[hun]at this;simp at this
    rw[hnil];have hT:∀t,kp [] t:=fun t=>rfl;have hC:∀v,vB [] v:=fun v=>by cases v<;>first|trivial|exact hT _
    have hCs:∀cs,hZ [] cs:=fun cs=>by induction cs with|nil=>trivial|cons c cs ih=>exact⟨hC c,ih⟩
    have hP:∀v,nU [] f v:=fun v=>by
     rcases G3 v with⟨t,o,rfl⟩|⟨cs,rfl⟩|h2;·exact⟨hT _,hCs _⟩
     ·exact hCs _
     ·rw[h2];exact hC _
    have hPs:∀cs,lB [] f cs:=fun cs=>by induction cs with|nil=>trivial|cons c cs ih=>exact⟨hP c,ih⟩
    induction l with|nil=>trivial|cons c cs ih=>
     refine⟨?_,ih⟩;rcases DU c with⟨f,cs,rfl⟩|⟨_,h2⟩;·exact hPs _
     ·rw[h2];exact hP _
   constructor
   ·rintro⟨hn,h,ht⟩;refine⟨hn.imp id fun hn=>jl hB hn,?_,ht⟩;have h:=ej hvs h;refine tp hA hya hd (.inr ?_) h;rcases hn with hn|hn;·exact hne hn _ _
    ·exact sX hsub hn
   ·rintro⟨hn,h,ht⟩;refine⟨hn.imp id fun hn=>jl (hsym hB) hn,?_,ht⟩;have h:=ej (vars':=Ab.put x.d v vars) (fun s hs=>(hvs s hs).symm) h;refine tp (hsym hA) hya hd (.inr ?_) h;rw[hev];rcases hn with hn|hn;·exact hne hn _ _
    ·exact sX hsub hn
end
theorem lp {q:Option AO}{r:TypeId×List (List PV)} (h:cX q=some r):q=some (.arr r.1 r.2):=by
 unfold cX at h;split at h;·cases h;rfl
 ·cases h
theorem vh {aa objs':Nat→Option AO} (hs:∀s o,aa s=some o→objs' s=some o)  (h:cT aa X=some rows):cT objs' X=some rows:=by cases X with
 |pv p=>cases p<;>first|exact h|(simp[cT]at h)
 |own t=>simp only[cT,q0]at h ⊢;obtain⟨r,hr,rfl⟩:=h;have:=hs _ _ (lp hr);exact⟨r,by rw[this];rfl,rfl⟩|sub t e lo hi=>simp only[cT,q63]at h ⊢;obtain⟨r,hr,h⟩:=h;have:=hs _ _ (lp hr);exact⟨r,by rw[this];rfl,h⟩|_=>simp[cT]at h
theorem uU {aa objs':Nat→Option AO} (h:cT aa X=some rows) (hn:sr un aa X):sr un objs' X:=by cases X with|pv p=>trivial|own t=>exact hn|sub t e lo hi=>exact hn|_=>simp[cT]at h
section
variable{P:Program}{Γ:bX}{d:Option Nat}{e:TypeId}{sz bytes:Nat}{xs:List AV}{aa objs':Nat→Option AO}{ee:bI}
theorem Jn (h:bf P Γ d (.app e sz bytes) xs aa fun e1=>e1=ee):(∃(t:Nat) (X:AV) (r:TypeId×List (List PV)) (more:List (List PV)),xs.map strip=[.own t,X]∧aa t=some (.arr r.1 r.2)∧cT aa X=some more∧ee=.app t (.arr r.1 (r.2++more)))∨(∃(dd:Nat) (X:AV) (rows:List (List PV)),d=some dd∧xs.map strip=[.pv .nil,X]∧cT aa X=some rows∧aa dd=none∧ee=.new (.own dd) [(dd,.arr e rows)]):=by
 dsimp only[bf]at h;obtain⟨ha,h⟩:=h;generalize xs.map strip=ys at h ⊢;split at h
 ·rename_i ho;obtain⟨x,hx,hφ,rfl⟩:=ae h;rcases ys with _|⟨y,_|⟨X,_|⟨z,l⟩⟩⟩;·simp[pQ]at ho
  ·cases y<;>simp[eM]at hx
  ·cases y with
   |own t=>
    simp only[eM,q63]at hx;obtain⟨r,hr,more,hm,hx⟩:=hx;split at hx;·cases hx;rename_i hc;exact .inl ⟨t,X,r,more,rfl,lp hr,hm,by rw[hc.1]⟩
    ·cases hx|_=>simp[pQ]at ho
  ·cases y<;>simp[eM]at hx
 ·obtain⟨dd,hd,h⟩:=ae h;obtain⟨x,hx,hφ,hn,rfl⟩:=ae h;rcases ys with _|⟨y,_|⟨X,_|⟨z,l⟩⟩⟩;·simp[cG]at hx
  ·cases y with|pv p=>cases p<;>simp[cG]at hx|_=>simp[cG]at hx
  ·cases y with
   |pv p=>cases p with|nil=>simp only[cG,q0]at hx;obtain⟨rows,hr,rfl⟩:=hx;exact .inr ⟨dd,X,rows,hd,rfl,hr,hn,rfl⟩|_=>simp[cG]at hx
   |_=>simp[cG]at hx
  ·cases y with|pv p=>cases p<;>simp[cG]at hx|_=>simp[cG]at hx
theorem Lx (hs:∀s o,aa s=some o→objs' s=some o) (hn:∀dd,d=some dd→aa dd=none→objs' dd=none) (h:bf P Γ d (.app e sz bytes) xs aa fun e1=>e1=ee):bf P Γ d (.app e sz bytes) xs objs' fun e1=>e1=ee:=by
 dsimp only[bf]at h ⊢;obtain⟨ha,h⟩:=h;refine⟨ha,?_⟩;generalize xs.map strip=ys at h ⊢;split at h
 ·rename_i ho;rw[if_pos ho];obtain⟨x,hx,hφ,he⟩:=ae h;have hx':eM (.app e sz bytes) ys objs'=some x:=by
   rcases ys with _|⟨y,_|⟨X,_|⟨z,l⟩⟩⟩;·simp[pQ]at ho
   ·cases y<;>simp[eM]at hx
   ·cases y with|own t=>simp only[eM,q63]at hx ⊢;obtain⟨r,hr,more,hm,hx⟩:=hx;have:=hs _ _ (lp hr);exact⟨r,by rw[this];rfl,more,vh hs hm,hx⟩|_=>simp[pQ]at ho
   ·cases y<;>simp[eM]at hx
  rw[hx'];exact⟨hφ,he⟩
 ·rename_i ho;rw[if_neg ho];obtain⟨dd,hd,h⟩:=ae h;obtain⟨x,hx,hφ,hnn,he⟩:=ae h;rw[hd];show ai (cG (.app e sz bytes) dd ys objs') _;have hx':cG (.app e sz bytes) dd ys objs'=some x:=by
   rcases ys with _|⟨y,_|⟨X,_|⟨z,l⟩⟩⟩;·simp[cG]at hx
   ·cases y with|pv p=>cases p<;>simp[cG]at hx|_=>simp[cG]at hx
   ·cases y with
    |pv p=>cases p with|nil=>simp only[cG,q0]at hx ⊢;obtain⟨rows,hr,hx⟩:=hx;exact⟨rows,vh hs hr,hx⟩|_=>simp[cG]at hx
    |_=>simp[cG]at hx
   ·cases y with|pv p=>cases p<;>simp[cG]at hx|_=>simp[cG]at hx
  rw[hx'];exact⟨hφ,hn _ hd hnn,he⟩
theorem Af {t:Nat} (ht:kp un t) {c:AV} (h:vB un (cj t c)):vB un c:=by cases c with
 |own s=>by_cases e:s=t;·subst e;exact ht
         ·simpa[cj,e]using h
 |bd s _ _ _=>by_cases e:s=t;·subst e;exact ht
              ·simpa[cj,e]using h
 |sub s _ _ _=>by_cases e:s=t;·subst e;exact ht
               ·simpa[cj,e]using h|ptr s o=>exact h|_=>trivial
theorem oT {un:List Nat}{t:Nat} (ht:kp un t):∀{cs:List AV},hZ un (b7 t cs)→hZ un cs|[],_=>trivial|c::cs,h=>⟨Af ht h.1,oT ht h.2⟩
theorem rS (t:Nat):∀(n:Nat) (cs:List AV),(b7 t cs).take n=b7 t (cs.take n)|0,_=>by simp[b7]|n+1,[]=>by simp[b7]|n+1,c::cs=>by simp[b7,rS t n cs]
theorem sg (t:Nat):∀(n:Nat) (cs:List AV),(b7 t cs).drop n=b7 t (cs.drop n)|0,_=>by simp|n+1,[]=>by simp[b7]|n+1,c::cs=>by simp[b7,sg t n cs]
theorem oh (t:Nat):∀(ps:List PV),b7 t (ps.map AV.pv)=ps.map .pv|[]=>rfl|p::ps=>by simp only[q71,b7,oh t ps];rfl
theorem xO (t:Nat):∀(zs:List Value),b7 t (zs.map cv)=zs.map cv|[]=>rfl|z::zs=>by simp only[q71,b7,xO t zs];congr 1;unfold cv;split<;>rfl
theorem uq {t:Nat}{s o:Nat} (h:kill t X=.ptr s o):X=.ptr s o:=by cases X with|ptr s' o'=>exact h|own s=>have h:(if s=t then AV.aw else .own s)=.ptr _ _:=h;split at h<;>cases h|bd s e i o=>have h:(if s=t then AV.aw else .bd s e i o)=.ptr _ _:=h;split at h<;>cases h|sub s e i o=>have h:(if s=t then AV.aw else .sub s e i o)=.ptr _ _:=h;split at h<;>cases h|bE f cs=>cases cs<;>cases h|_=>cases h
theorem qq {t:Nat}{s o:Nat}{e:TypeId}{i:Int} (h:kill t X=.bd s e i o):X=.bd s e i o∧s≠t:=by cases X with
 |bd s' e' i' o'=>
  have h:(if s'=t then AV.aw else .bd s' e' i' o')=.bd _ _ _ _:=h;split at h;·cases h
  ·rename_i hne;cases h;exact⟨rfl,hne⟩|own s=>have h:(if s=t then AV.aw else .own s)=.bd _ _ _ _:=h;split at h<;>cases h|sub s e i o=>have h:(if s=t then AV.aw else .sub s e i o)=.bd _ _ _ _:=h;split at h<;>cases h|bE f cs=>cases cs<;>cases h|_=>cases h
theorem yp {t:Nat}{cs:List PV} (h:kill t X=.rp cs):X=.rp cs:=by cases X with|rp cs'=>exact h|own s=>have h:(if s=t then AV.aw else .own s)=.rp _:=h;split at h<;>cases h|bd s e i o=>have h:(if s=t then AV.aw else .bd s e i o)=.rp _:=h;split at h<;>cases h|sub s e i o=>have h:(if s=t then AV.aw else .sub s e i o)=.rp _:=h;split at h<;>cases h|bE f cs=>cases cs<;>cases h|_=>cases h
theorem I2 {k:AK} (hk:yy k=true) {aa:Nat→Option AO}{r:Prop×AV} (h:al k ys aa=some r):∃X,ys=[X]∧((∃s o,X=.ptr s o)∨(∃s e i o,X=.bd s e i o)∨∃cs,X=.rp cs):=by cases k with
 |load n=>
  rcases ys with _|⟨y,_|⟨z,l⟩⟩;·cases n<;>simp[al]at h
  ·cases y with|ptr s o=>exact⟨_,rfl,.inl ⟨s,o,rfl⟩⟩|bd s e i o=>exact⟨_,rfl,.inr (.inl ⟨s,e,i,o,rfl⟩)⟩|rp cs=>exact⟨_,rfl,.inr (.inr ⟨cs,rfl⟩)⟩|_=>cases n<;>simp[al]at h
  ·cases n<;>cases y<;>simp[al]at h|sS off=>
  rcases ys with _|⟨y,_|⟨z,l⟩⟩;·simp[al]at h
  ·cases y with|ptr s o=>exact⟨_,rfl,.inl ⟨s,o,rfl⟩⟩|bd s e i o=>exact⟨_,rfl,.inr (.inl ⟨s,e,i,o,rfl⟩)⟩|rp cs=>exact⟨_,rfl,.inr (.inr ⟨cs,rfl⟩)⟩|_=>simp[al]at h
  ·cases y<;>simp[al]at h|_=>simp[yy]at hk
theorem E1 {k:AK} (hk:yy k=true) {t:Nat}{e:TypeId}{rows rows':List (List PV)} (hob:aa t=some (.arr e rows)) {φ:Prop} (h:al k [kill t X] (aR t (.arr e rows') (dG t aa))=some (φ,v)):∃u,al k [X] aa=some (φ,u)∧v=kill t u:=by
 obtain⟨Y,hY,hc⟩:=I2 hk h;simp only[q110,and_true]at hY;have hbox:∀s cs,eY (aR t (.arr e rows') (dG t aa) s)=some cs→∃cs0,eY (aa s)=some cs0∧cs=b7 t cs0:=by
  intro s cs hb;unfold aR at hb;split at hb;·cases hb
  ·unfold dG at hb;cases ho:aa s with|none=>rw[ho]at hb;cases hb|some q=>rw[ho]at hb;cases q with|box cs0=>cases hb;exact⟨cs0,rfl,rfl⟩|arr e rows=>cases hb|map es=>cases hb|rws e cs=>cases hb|iB es=>cases hb|nS rem cur=>cases hb
 have harr:∀s,s≠t→cX (aR t (.arr e rows') (dG t aa) s)=cX (aa s):=by intro s hs;unfold aR dG;rw[if_neg hs];cases ho:aa s with|none=>rfl|some q=>cases q<;>rfl
 have hboxa:∀s,s≠t→True:=fun _ _=>trivial;rcases hc with⟨s,o,rfl⟩|⟨s,e',i,o,rfl⟩|⟨cs,rfl⟩;·cases uq hY;rw[hY]at h;cases k with
  |load n=>cases n with
   |none=>
    simp only[al,q63]at h ⊢;obtain⟨cs,hcs,c,hcc,h⟩:=h;obtain⟨cs0,hcs0,rfl⟩:=hbox _ _ hcs;rw[ft]at hcc;obtain⟨c0,hc0,rfl⟩:=q0.1 hcc;split at h
    ·rename_i hkc;cases h;by_cases hcell:mH c0=true;·refine⟨c0,⟨cs0,hcs0,c0,hc0,by rw[if_pos hcell]⟩,?_⟩;cases c0<;>first|rfl|(simp[mH]at hcell)
     ·exfalso;cases c0<;>first|(exact hcell rfl)|(simp[cj,mH]at hkc)
    ·cases h|some n=>
    simp only[al,q63]at h ⊢;obtain⟨cs,hcs,h⟩:=h;obtain⟨cs0,hcs0,rfl⟩:=hbox _ _ hcs;split at h;·rename_i hle;cases h;refine⟨_,⟨cs0,hcs0,by rw[if_pos (by simpa[ei]using hle)]⟩,?_⟩;show AV.agg _=AV.agg _;rw[sg,rS]
    ·cases h
  |sS off=>cases h;exact⟨_,rfl,rfl⟩|_=>simp[yy]at hk
 ·obtain⟨rfl,hst⟩:=qq hY;rw[hY]at h;cases k with
  |load n=>cases n with
   |none=>
    have h:mr e' i o (aR t (.arr e rows') (dG t aa) s)=some (φ,v):=h;show∃u,mr e' i o (aa s)=some (φ,u)∧v=kill t u;have he:aR t (.arr e rows') (dG t aa) s=(aa s).map (dY t):=by unfold aR dG;rw[if_neg hst]
    rw[he]at h;cases hos:aa s with|none=>rw[hos]at h;cases h|some q=>rw[hos]at h;cases q with
     |box cs=>cases h|map es=>cases h|iB es=>cases h|nS r c=>cases h|arr e1 rows1=>
      have h:mr e' i o (some (.arr e1 rows1))=some (φ,v):=h;unfold mr at h ⊢;simp only at h ⊢;split at h;·cases h;exact⟨_,by rw[if_pos ‹_›],rfl⟩
      ·cases h|rws e1 cs=>
      have h:mr e' i o (some (.rws e1 (b7 t cs)))=some (φ,v):=h;unfold mr at h ⊢;simp only at h ⊢;split at h;rotate_left;·cases h
      rename_i h1;obtain⟨c,hc,h⟩:=q63.1 h;rw[ft]at hc;obtain⟨c0,hc0,rfl⟩:=q0.1 hc;rw[if_pos h1,hc0];split at h
      ·rename_i hkc;cases h;by_cases hcell:mH c0=true;·refine⟨c0,by simp only[q130];rw[if_pos hcell],?_⟩;cases c0<;>first|rfl|(simp[mH]at hcell)
       ·exfalso;cases c0<;>first|(exact hcell rfl)|(simp[cj,mH]at hkc)
      ·cases h
   |some n=>
    simp only[al,harr s hst]at h ⊢;obtain⟨r,hr,h⟩:=q63.1 h;split at h;·rename_i h1;cases h;refine⟨_,by rw[hr];simp only[q130];rw[if_pos h1],?_⟩;show AV.agg _=AV.agg _;rw[oh]
    ·cases h
  |sS off=>cases h;refine⟨_,rfl,?_⟩;show AV.bd _ _ _ _=(if s=t then AV.aw else .bd _ _ _ _);rw[if_neg hst]|_=>simp[yy]at hk
 ·cases yp hY;rw[hY]at h;cases k with
  |load n=>cases n with
   |none=>cases cs with|nil=>cases h;exact⟨_,rfl,rfl⟩|cons c cs=>cases h;exact⟨_,rfl,rfl⟩
   |some n=>
    simp only[al]at h ⊢;split at h;·rename_i h1;cases h;refine⟨_,by rw[if_pos h1],?_⟩;show AV.agg _=AV.agg _;rw[oh]
    ·cases h
  |sS off=>cases h;exact⟨_,rfl,rfl⟩|_=>simp[yy]at hk
end
structure B7 (x y:AI):Prop where
 app:∃e sz b,x.k=.app e sz b
 xg:x.g=none
 yg:y.g=none
 yt:y.tg=none
 ds:∃d d',x.d=some d∧y.d=some d'∧d∉cU y∧d'∉cU x∧d≠d'∧d<1000∧d'<1000
 kd:(∃zs,y.k=.alloc zs∧y.xs=[])∨(yy y.k=true∧(∀d,x.d=some d→y.un.contains d=true)∧∀t,y.un.contains t=true→x.un.contains (t+1000)=true)
theorem AP {x y:AI} (h:Cn x y=true):B7 x y:=by
 unfold Cn at h;simp only[q73]at h;obtain⟨⟨⟨⟨h1,h2⟩,h3⟩,h4⟩,h5⟩:=h;split at h5
 ·rename_i d d' hd hd';simp only[q73,q142,q239,decide_eq_false_iff_not,bne_iff_ne,decide_eq_true_eq,q134]at h5;obtain⟨⟨⟨⟨⟨g1,g2⟩,g3⟩,g4⟩,g5⟩,g6⟩:=h5;refine⟨?_,by simpa using h2,by simpa using h3,by simpa using h4,⟨d,d',hd,hd',g1,g2,g3,g4,g5⟩,?_⟩;·cases hk:x.k with|app e sz b=>exact⟨_,_,_,rfl⟩|_=>rw[hk]at h1;cases h1
  ·rcases g6 with⟨g6,g7⟩|⟨⟨g6,g7⟩,g8⟩;·refine .inl ?_;cases hk:y.k with|alloc zs=>exact⟨zs,rfl,by simpa using g7⟩|_=>rw[hk]at g6;cases g6
   ·refine .inr ⟨g6,fun d0 h0=>?_,fun t ht=>?_⟩;·rw[hd]at h0;cases h0;simpa using g7
    ·have:=(q90.1 g8) t (by simpa using ht);simpa using this
 ·cases h5
theorem qm {d:Option Nat}{t:Nat}{o:AO}{st:St}:(bI.app t o).on d st=⟨Ab.put d (.own t) (cE t st.vars),aR t o (dG t st.aa)⟩:=rfl
theorem jR {d:Option Nat}{os:List (Nat×AO)}{st:St}:(bI.new v os).on d st=⟨Ab.put d v st.vars,bG os st.aa⟩:=rfl
section
variable{P:Program}{Γ:bX}{x y:AI}{st:St}{e e':bI}
theorem Yi.GN {vars vars':Nat→AV}{aa:Nat→Option AO} (hvs:∀s∈cU y,vars s=vars' s) (h:Yi P Γ y ⟨vars,aa⟩ e):Yi P Γ y ⟨vars',aa⟩ e:=by have hev:y.xs.map (Ab.ev vars)=y.xs.map (Ab.ev vars'):=gm fun s hs=>hvs s (q108 _ hs);obtain⟨h1,h2,h3⟩:=h;simp only at h1 h2;exact⟨by simp only[←hev];exact h1,ej hvs h2,h3⟩
theorem swapA (hap:B7 x y) (hx:Yi P Γ x st e) (hy:Yi P Γ y (e.on x.d st) e'):∃e1 e2,Yi P Γ y st e1∧Yi P Γ x (e1.on y.d st) e2∧e2.on x.d (e1.on y.d st)=e'.on y.d (e.on x.d st):=by
 obtain⟨ea,sz,b,hxk⟩:=hap.app;obtain⟨d,d',hd,hd',hu1,hu2,hdd,hlt,hlt'⟩:=hap.ds;have hcd:∀s,x.d=some s→y.d≠some s:=fun s h1 h2=>hdd (by rw[hd]at h1;rw[hd']at h2;cases h1;cases h2;rfl);have hvx:∀(v:AV) (f:Nat→AV),∀s∈cU y,Ab.put x.d v f s=f s:=fun v f s hs=>pX fun h=>hu1 (by rw[hd]at h;cases h;exact hs);have hvy:∀(v:AV) (f:Nat→AV),∀s∈cU x,Ab.put y.d v f s=f s:=fun v f s hs=>pX fun h=>hu2 (by rw[hd']at h;cases h;exact hs);have hxs:bf P Γ x.d (.app ea sz b) (x.xs.map (Ab.ev st.vars)) st.aa fun e1=>e1=e:=by have:=hx.2.1;unfold dW at this;rw[hap.xg,hxk]at this;exact this
 have hinv:=Jn hxs;rcases hap.kd with⟨zs,hyk,hyx⟩|⟨hyk,hun1,hun2⟩;·
  have hys:ai y.d fun d=>aq []∧ai (cG (.alloc zs) d [] (e.on x.d st).aa) fun r=>r.1∧(e.on x.d st).aa d=none∧bI.new r.2.1 [(d,r.2.2)]=e':=by have:=hy.2.1;unfold dW at this;rw[hap.yg,hyk,hyx]at this;exact this
  rw[hd']at hys;obtain⟨_,hys⟩:=hys;obtain⟨r,hr,hφ,hn,rfl⟩:=ae hys;have hr0:r=(True,.ptr d' 0,.box (zs.map cv))∧zs.all (·.oneCell')=true:=by
   simp only[cG]at hr;split at hr;·rename_i hz;cases hr;exact⟨rfl,hz⟩
   ·cases hr
  obtain⟨rfl,hz⟩:=hr0;have hn0:st.aa d'=none:=by
   rcases hinv with⟨t,X,r,more,_,_,_,rfl⟩|⟨dd,X,rows,h1,_,_,_,rfl⟩
   ·rw[qm]at hn;simp only[aR]at hn;split at hn;·cases hn
    ·simpa[dG]using hn
   ·rw[jR,cx]at hn;simp only[aR]at hn;split at hn;·cases hn
    ·exact hn
  have hyi:Yi P Γ y st (.new (.ptr d' 0) [(d',.box (zs.map cv))]):=by
   refine⟨?_,?_,hy.2.2⟩;·rw[hyx];exact .inr trivial
   ·unfold dW;rw[hap.yg,hyk,hyx,hd'];exact⟨trivial,by show ai (cG (.alloc zs) d' [] st.aa) _;rw[show cG (.alloc zs) d' [] st.aa=some (True,.ptr d' 0,.box (zs.map cv)) from by simp only[cG];rw[if_pos hz]];exact⟨trivial,hn0,rfl⟩⟩
  have hsub:∀s o,st.aa s=some o→bG [(d',.box (zs.map cv))] st.aa s=some o:=by
   intro s o hs;rw[cx];simp only[aR];split;·rename_i h;subst h;rw[hn0]at hs;cases hs
   ·exact hs
  have hxi:Yi P Γ x ((bI.new (.ptr d' 0) [(d',.box (zs.map cv))]).on y.d st) e:=by
   refine Yi.GN (vars:=st.vars) (fun s hs=>(hvy _ _ s hs).symm) ⟨?_,?_,hx.2.2⟩
   ·refine hx.1.imp id fun hm=>?_;rcases hinv with⟨t,X,r,more,h1,_,h3,_⟩|⟨dd,X,rows,_,h1,h3,_,_⟩;·rw[h1]at hm ⊢;exact⟨hm.1,uU h3 hm.2.1,trivial⟩
    ·rw[h1]at hm ⊢;exact⟨trivial,uU h3 hm.2.1,trivial⟩
   ·unfold dW;rw[hap.xg,hxk];refine Lx hsub (fun dd h1 h2=>?_) hxs;rw[cx];simp only[aR];rw[hd]at h1;cases h1;rw[if_neg hdd];exact h2
  refine⟨_,_,hyi,hxi,?_⟩;rcases hinv with⟨t,X,r,more,_,hob,_,rfl⟩|⟨dd,X,rows,_,_,_,_,rfl⟩
  ·have htd:d'≠t:=fun h=>by subst h;rw[hn0]at hob;cases hob
   rw[qm,jR,qm,jR];refine St.ext' ?_ ?_;·show Ab.put x.d (.own t) (cE t (Ab.put y.d (.ptr d' 0) st.vars))=Ab.put y.d (.ptr d' 0) (Ab.put x.d (.own t) (cE t st.vars));rw[pe];exact put_comm hcd
   ·show aR t _ (dG t (bG [(d',.box (zs.map cv))] st.aa))=bG [(d',.box (zs.map cv))] (aR t _ (dG t st.aa));rw[cx,cx];funext s;simp only[aR,dG];by_cases h1:s=t;·subst h1;rw[if_pos rfl,if_neg (q257 htd),if_pos rfl]
    ·rw[if_neg h1];by_cases h2:s=d';·subst h2;rw[if_pos rfl,if_pos rfl];simp[dY,xO]
     ·rw[if_neg h2,if_neg h2,if_neg h1]
  ·rw[jR,jR,jR,jR];refine St.ext' (put_comm hcd) ?_;show bG [(dd,_)] (bG [(d',_)] st.aa)=bG [(d',_)] (bG [(dd,_)] st.aa);rename_i h1 _ _ _;rw[hd]at h1;cases h1;rw[cx,cx,cx,cx];funext s;simp only[aR];by_cases h1:s=d;·subst h1;rw[if_pos rfl,if_neg hdd,if_pos rfl]
   ·by_cases h2:s=d';·subst h2;rw[if_neg h1,if_pos rfl,if_pos rfl]
    ·rw[if_neg h1,if_neg h2,if_neg h2,if_neg h1]
 ·have hun0:y.un≠[]:=fun h=>by have:=hun1 d hd;rw[h]at this;simp at this
  have hny:=hy.1.resolve_left hun0;have hys:aq (y.xs.map (Ab.ev (e.on x.d st).vars))∧ai (al y.k ((y.xs.map (Ab.ev (e.on x.d st).vars)).map strip) (e.on x.d st).aa) fun r=>r.1∧bI.put r.2=e':=by have:=hy.2.1;unfold dW at this;rw[hap.yg]at this;cases hk:y.k with|load n=>rw[hk]at this;exact this|sS off=>rw[hk]at this;exact this|_=>rw[hk]at hyk;cases hyk
  obtain⟨has,hys⟩:=hys;obtain⟨r,hr,hφ,rfl⟩:=ae hys;have hmk:∀{aa:Nat→Option AO}{vars:Nat→AV}{φ:Prop}{v:AV},aq (y.xs.map (Ab.ev vars))→al y.k ((y.xs.map (Ab.ev vars)).map strip) aa=some (φ,v)→φ→dW P Γ y vars aa fun e1=>e1=.put v:=by intro aa vars φ v h1 h2 h3;unfold dW;rw[hap.yg];cases hk:y.k with|load n=>rw[hk]at h2;exact⟨h1,by rw[h2];exact⟨h3,rfl⟩⟩|sS off=>rw[hk]at h2;exact⟨h1,by rw[h2];exact⟨h3,rfl⟩⟩|_=>rw[hk]at hyk;cases hyk
  have htg:∀v,BQ y.un y.tg (.put v):=fun v=>by rw[hap.yt];exact And.intro trivial trivial
  obtain⟨X1,hX1,hcase⟩:=I2 hyk hr;rcases hinv with⟨t,X,rr,more,hargs,hob,_,rfl⟩|⟨dd,X,rows,h1,_,_,hnone,rfl⟩
  ·rw[qm]at hr has hny hX1;simp only at hr has hny hX1;have hev:y.xs.map (Ab.ev (Ab.put x.d (.own t) (cE t st.vars)))=(y.xs.map (Ab.ev st.vars)).map (kill t):=by rw[gm (vars:=Ab.put x.d (.own t) (cE t st.vars)) (vars':=cE t st.vars) fun s hs=>hvx _ _ s (q108 _ hs),mo]
   rw[hev]at hr has hny hX1;rw[ln]at has;obtain⟨A,hA⟩:∃A,y.xs.map (Ab.ev st.vars)=[A]:=by
    have:((y.xs.map (Ab.ev st.vars)).map (kill t)).length=1:=by have:=congrArg List.length hX1;simpa using this
    simp only[List.length_map]at this;obtain⟨z,hz⟩:=q232.1 this;exact⟨Ab.ev st.vars z,by rw[hz];rfl⟩
   rw[hA]at hr has hny hX1;simp only[q71,q117,kP,q110,and_true]at hr hny hX1;obtain⟨u,hu,hvu⟩:=E1 hyk (rows:=rr.2) (rows':=rr.2++more) hob hr;have htu:kp y.un t:=by have h0:x.un.contains (t%1000+1000)=false:=hx.2.2.2;unfold kp;cases hc:y.un.contains (t%1000) with|false=>rfl|true=>rw[hun2 _ hc]at h0;cases h0
   have hyi:Yi P Γ y st (.put u):=by
    refine⟨.inr ?_,hmk (by rw[hA];exact has) (by rw[hA];exact hu) hφ,htg _⟩;rw[hA];refine⟨?_,trivial⟩;have hn1:=hny.1;rcases hcase with⟨s,o,rfl⟩|⟨s,e1,i,o,rfl⟩|⟨cs,rfl⟩
    ·have h9:=uq hX1;show sr y.un st.aa (strip A);rw[h9];rw[hX1]at hn1;refine⟨hn1.1,?_⟩;have h8:=hn1.2;unfold aR at h8;by_cases hst:s=t;·subst hst;rw[hob];trivial
     ·rw[if_neg hst]at h8;unfold dG at h8;cases hos:st.aa s with|none=>trivial|some q=>rw[hos]at h8;cases q with|box cs=>exact oT htu h8|arr e rows=>trivial|map es=>trivial|rws e cs=>trivial|iB es=>trivial|nS rem cur=>trivial
    ·have h9:=(qq hX1).1;show sr y.un st.aa (strip A);rw[h9];rw[hX1]at hn1;exact hn1
    ·have h9:=yp hX1;show sr y.un st.aa (strip A);rw[h9];trivial
   refine⟨_,_,hyi,Yi.GN (vars:=st.vars) (fun s hs=>(hvy _ _ s hs).symm) hx,?_⟩;rw[qm];refine St.ext' ?_ rfl;show Ab.put x.d (.own t) (cE t (Ab.put y.d u st.vars))=Ab.put y.d r.2 (Ab.put x.d (.own t) (cE t st.vars));rw[pe,hvu];exact put_comm hcd
  ·rw[hd]at h1;cases h1;rw[jR]at hr has hny hX1;simp only at hr has hny hX1;have hev:y.xs.map (Ab.ev (Ab.put x.d (.own d) st.vars))=y.xs.map (Ab.ev st.vars):=gm fun s hs=>hvx _ _ s (q108 _ hs);rw[hev]at hr has hny hX1;rw[hX1]at hr hny;have hnd:¬kp y.un d:=fun h=>by unfold kp at h;rw[q115 hlt,hun1 d hd]at h;cases h
   have hsame:∀s,kp y.un s→bG [(d,AO.arr ea rows)] st.aa s=st.aa s:=by intro s hs;rw[cx];simp only[aR];rw[if_neg (fun h:s=d=>hnd (by rw[←h];exact hs))]
   have hgo:al y.k [X1] st.aa=some r∧sr y.un st.aa X1:=by
    have hn1:=hny.1;rcases hcase with⟨s,o,rfl⟩|⟨s,e1,i,o,rfl⟩|⟨cs,rfl⟩
    ·have hs:=hsame s hn1.1;refine⟨?_,?_⟩;·cases hk:y.k with|load n=>rw[hk]at hr;cases n<;>(simp only[al,hs]at hr ⊢;exact hr)|sS off=>rw[hk]at hr;exact hr|_=>rw[hk]at hyk;cases hyk
     ·have:=hn1.2;rw[hs]at this;exact⟨hn1.1,this⟩
    ·have hs:=hsame s hn1;refine⟨?_,hn1⟩;cases hk:y.k with|load n=>rw[hk]at hr;cases n<;>(simp only[al,hs]at hr ⊢;exact hr)|sS off=>rw[hk]at hr;exact hr|_=>rw[hk]at hyk;cases hyk
    ·refine⟨?_,trivial⟩;cases hk:y.k with|load n=>rw[hk]at hr;cases n<;>cases cs<;>exact hr|sS off=>rw[hk]at hr;exact hr|_=>rw[hk]at hyk;cases hyk
   have hyi:Yi P Γ y st (.put r.2):=⟨.inr (by rw[hX1];exact⟨hgo.2,trivial⟩),hmk has (by rw[hX1];exact hgo.1) hφ,htg _⟩;refine⟨_,_,hyi,Yi.GN (vars:=st.vars) (fun s hs=>(hvy _ _ s hs).symm) hx,?_⟩;rw[jR];exact St.ext' (put_comm hcd) rfl
end
def Apt (x y:AI):Prop:=DS x y∨B7 x y
theorem zW {x y:AI} (h:uZ x y=true):Apt x y:=by
 unfold uZ at h;rcases Bool.or_eq_true_iff.1 h with h|h;·exact .inl (apart_spec h)
 ·exact .inr (AP h)
section
variable{P:Program}{Γ:bX}{x y:AI}{st:St}{e e':bI}
theorem Yi.vars {vars vars':Nat→AV}{aa:Nat→Option AO} (hvs:∀s∈cU y,vars s=vars' s) (h:Yi P Γ y ⟨vars,aa⟩ e):Yi P Γ y ⟨vars',aa⟩ e:=by have hev:y.xs.map (Ab.ev vars)=y.xs.map (Ab.ev vars'):=gm fun s hs=>hvs s (q108 _ hs);obtain⟨h1,h2,h3⟩:=h;simp only at h1 h2;exact⟨by simp only[←hev];exact h1,ej hvs h2,h3⟩
theorem zh (e:bI):plain e∨∃t o,e=.app t o:=by cases e<;>first|exact .inl trivial|exact .inr ⟨_,_,rfl⟩
theorem px.plain {i:AI} (h:px i e) (ha:isApp i.k=false):plain e:=by
 rcases zh e with hp|⟨t,o,rfl⟩;·exact hp
 ·rcases h with⟨v,h⟩|⟨_,_,_,_,_,h,_⟩|⟨_,_,_,_,h⟩|⟨h,_⟩;·cases h
  ·cases h
  ·cases h
  ·rw[ha]at h;cases h
theorem wj {i:AI}{t:Nat}{o:AO} (h:px i (.app t o)):isApp i.k=true:=by
 rcases h with⟨v,h⟩|⟨_,_,_,_,_,h,_⟩|⟨_,_,_,_,h⟩|⟨h,_⟩;·cases h
 ·cases h
 ·cases h
 ·exact h
theorem Cu (hap:DS x y) (hx:aQ x.k=false) (hy:aQ y.k=false):∀t,(ck x).contains t=true→(ck y).contains t=true→False:=by
 intro t h1 h2;have hb:=hap.both;unfold ck at h1 h2;split at h1
 ·have hxd:x.d=some t:=by cases h:x.d<;>rw[h]at h1<;>simp_all
  obtain⟨_,a2,a3,_⟩:=hap.xd t hxd;split at h2;·exact a2 (by cases h:y.d<;>rw[h]at h2<;>simp_all)
  ·split at h2;·exact a3 (by cases h:y.tg<;>rw[h]at h2<;>simp_all)
   ·simp at h2
 ·split at h1
  ·rename_i hw;have hxt:x.tg=some t:=by cases h:x.tg<;>rw[h]at h1<;>simp_all
   split at h2
   ·have hyd:y.d=some t:=by cases h:y.d<;>rw[h]at h2<;>simp_all
    exact(hap.yd t hyd).2.1 hxt
   ·split at h2
    ·rename_i hw2;have hyt:y.tg=some t:=by cases h:y.tg<;>rw[h]at h2<;>simp_all
     rcases hb with h|h|h|h|h;·rw[hx]at h;cases h
     ·rw[hy]at h;cases h
     ·rw[hw]at h;cases h
     ·rw[hw2]at h;cases h
     ·exact h (hxt.trans hyt.symm)
    ·simp at h2
  ·simp at h1
theorem swap (hap:DS x y) (hx:Yi P Γ x st e) (hy:Yi P Γ y (e.on x.d st) e'):∃e1 e2,Yi P Γ y st e1∧Yi P Γ x (e1.on y.d st) e2∧e2.on x.d (e1.on y.d st)=e'.on y.d (e.on x.d st):=by
 have hex:=zy hx.2.1;have hey:=zy hy.2.1;have hux:∀d,x.d=some d→d∉cU y:=fun d hd=>(hap.xd d hd).1;have huy:∀d,y.d=some d→d∉cU x:=fun d hd=>(hap.yd d hd).1;have hcd:∀s,x.d=some s→y.d≠some s:=fun d hd=>(hap.xd d hd).2.1;have hvx:∀(v:AV) (f:Nat→AV),∀s∈cU y,Ab.put x.d v f s=f s:=fun v f s hs=>pX fun hd=>hux s hd hs;have hvy:∀(v:AV) (f:Nat→AV),∀s∈cU x,Ab.put y.d v f s=f s:=fun v f s hs=>pX fun hd=>huy s hd hs;have hydd:∀d,y.d=some d→x.d≠some d∧x.tg≠some d∧d<1000:=fun d hd=>⟨fun h=>hcd d h hd,(hap.yd d hd).2.1,(hap.yd d hd).2.2⟩;have hxdd:∀d,x.d=some d→y.d≠some d∧y.tg≠some d∧d<1000:=fun d hd=>⟨(hap.xd d hd).2.1,(hap.xd d hd).2.2.1,(hap.xd d hd).2.2.2⟩;have hagx:∀T,(∀t,kp T t→kp (ck x) t)→(isApp x.k=false∧(writes x.k=true→∃s,x.tg=some s)∧∀t∈ck x,t<1000)→∀t,kp T t→pN (ov e) st.aa t=st.aa t:=fun T hT h t ht=>(tE hex hx.2.2.1 h.2.2 hT h.2.1 h.1 t ht).symm;have hagy:∀T,(∀t,kp T t→kp (ck y) t)→(isApp y.k=false∧(writes y.k=true→∃s,y.tg=some s)∧∀t∈ck y,t<1000)→∀t,kp T t→pN (ov e') st.aa t=st.aa t:=fun T hT h t ht=>(tE hey hy.2.2.1 h.2.2 hT h.2.1 h.1 t ht).symm;by_cases hxa:aQ x.k=true;·
  obtain⟨⟨v,rfl⟩,hxo⟩:=dR hxa hx.2.1;have hy0:Yi P Γ y st e':=Yi.vars (hvx v st.vars) hy;have htg:x.tg=none:=by have:=hx.2.2.1;cases h:x.tg with|none=>rfl|some s=>rw[h]at this;exact this.elim
  rcases zh e' with hp|⟨t,o,rfl⟩
  ·refine⟨e',.put v,hy0,?_,?_⟩;·rw[eg hp];exact(Yi.yr hap.xa (.inl hxa) hxdd huy hagy).2 hx
   ·rw[eg hp,eg hp];exact St.ext' (put_comm hcd) rfl
  ·have hun:x.un=[]:=by
    rcases hap.xa with h|h;·exact h.2
    ·have:=wj hey;rw[h.1]at this;cases this
   obtain⟨u,hu,hk⟩:=ub hxa hx.2.1;cases hu;refine⟨.app t o,.put (kill t v),hy0,⟨.inl hun,ej (fun s hs=>(hvy _ _ s hs).symm) (hk t _),by rw[htg];exact And.intro trivial trivial⟩,?_⟩;refine St.ext' ?_ rfl;show Ab.put x.d (kill t v) (Ab.put y.d (.own t) (cE t st.vars))=Ab.put y.d (.own t) (cE t (Ab.put x.d v st.vars));rw[pe];exact put_comm hcd
 ·have hxa':aQ x.k=false:=by simpa using hxa
  have hyr:isApp y.k=false∧(writes y.k=true→∃s,y.tg=some s)∧∀t∈ck y,t<1000∧x.un.contains t=true:=by
   rcases hap.xa with h|h;·exact absurd h.1 hxa
   ·exact h
  have hpy:plain e':=hey.plain hyr.1;by_cases hya:aQ y.k=true
  ·obtain⟨⟨v,rfl⟩,hyo⟩:=dR hya hy.2.1;rcases zh e with hp|⟨t,o,rfl⟩
   ·have hy0:Yi P Γ y st (.put v):=by rw[eg hp]at hy;exact(Yi.yr hap.ya (.inl hya) hydd hux hagx).1 hy
    refine⟨.put v,e,hy0,Yi.vars (fun s hs=>(hvy _ _ s hs).symm) hx,?_⟩;rw[eg hp,eg hp];exact St.ext' (put_comm hcd) rfl
   ·have hun:y.un=[]:=by
     rcases hap.ya with h|h;·exact h.2
     ·have:=wj hex;rw[h.1]at this;cases this
    have htg:y.tg=none:=by have:=hy.2.2.1;cases h:y.tg with|none=>rfl|some s=>rw[h]at this;exact this.elim
    have hk:=ej (vars':=cE t st.vars) (hvx _ _) hy.2.1;obtain⟨u,hu,hk'⟩:=qT hya hk;cases hu;refine⟨.put u,.app t o,⟨.inl hun,hk' _,by rw[htg];exact And.intro trivial trivial⟩,Yi.vars (fun s hs=>(hvy _ _ s hs).symm) hx,?_⟩;refine St.ext' ?_ rfl;show Ab.put x.d (.own t) (cE t (Ab.put y.d u st.vars))=Ab.put y.d (kill t u) (Ab.put x.d (.own t) (cE t st.vars));rw[pe];exact put_comm hcd
  ·have hya':aQ y.k=false:=by simpa using hya
   have hxr:isApp x.k=false∧(writes x.k=true→∃s,x.tg=some s)∧∀t∈ck x,t<1000∧y.un.contains t=true:=by
    rcases hap.ya with h|h;·exact absurd h.1 hya
    ·exact h
   have hpx:plain e:=hex.plain hxr.1;have hy0:Yi P Γ y st e':=by rw[eg hpx]at hy;exact(Yi.yr hap.ya (.inr hyr.1) hydd hux hagx).1 hy
   refine⟨e',e,hy0,?_,?_⟩;·rw[eg hpy];exact(Yi.yr hap.xa (.inr hxr.1) hxdd huy hagy).2 hx
   ·rw[eg hpx,eg hpy,eg hpx,eg hpy];refine St.ext' (put_comm hcd) (Fw fun t=>?_);cases h1:ov e t with|none=>exact .inl rfl|some o1=>cases h2:ov e' t with|none=>exact .inr rfl|some o2=>
     refine(Cu hap hxa' hya' (t%1000) ?_ ?_).elim;·exact yz hex hx.2.2.1 (fun t ht=>(hxr.2.2 t ht).1) hxr.2.1 hxr.1 (by rw[h1];simp)
     ·exact yz hey hy.2.2.1 (fun t ht=>(hyr.2.2 t ht).1) hyr.2.1 hyr.1 (by rw[h2];simp)
theorem swapT (hap:Apt x y) (hx:Yi P Γ x st e) (hy:Yi P Γ y (e.on x.d st) e'):∃e1 e2,Yi P Γ y st e1∧Yi P Γ x (e1.on y.d st) e2∧e2.on x.d (e1.on y.d st)=e'.on y.d (e.on x.d st):=hap.elim (fun h=>swap h hx hy) fun h=>swapA h hx hy
end
section
variable{P:Program}{Γ:bX}{ops:Array Oper}{is:Array AI}
def opA (P:Program) (Γ:bX) (is:Array AI) (i:Nat) (K:St→Prop) (st:St):Prop:=match is[i]? with|some x=>c9 P Γ x K st|none=>K st
theorem tM {i:AI}{K K':St→Prop}{st:St} (h:∀st,K st→K' st) (hh:c9 P Γ i K st):c9 P Γ i K' st:=by rw[cD]at hh ⊢;obtain⟨e,he,hK⟩:=hh;exact⟨e,he,h _ hK⟩
def anyA (P:Program) (Γ:bX) (ops:Array Oper) (is:Array AI) (Q:St→Prop):Nat→Array Bool→St→Prop|0,listed,st=>Region.ready .any ops listed=[]∧Q st|fuel+1,listed,st=>(Region.ready .any ops listed=[]→Q st)∧∀i∈Region.ready .any ops listed,opA P Γ is i (anyA P Γ ops is Q fuel (listed.setIfInBounds i true)) st
def qY (ops:Array Oper) (listed:Array Bool):Prop:=∀j o,ops[j]?=some o→listed.getD j false=true→∀e∈o.after,Region.binds .any e=true→listed.getD e.on false=true
theorem qY.set  (h:qY ops listed) (hi:i∈Region.ready .any ops listed):qY ops (listed.setIfInBounds i true):=by
 intro j o hj hl e he hb;obtain⟨h0,o',ho',hall⟩:=mem_ready.1 hi;by_cases hij:i=j;·subst hij;rw[hj]at ho';cases ho';exact getD_set_true (hall e he hb)
 ·rw[getD_set_ne false hij]at hl;exact getD_set_true (h j o hj hl e he hb)
theorem chain (hch:∀j,j<n→∀i,i<j→lW ops i j=true) (hc:qY ops listed) :∀j,j<n→i<j→bits ops i j=true→(∃o,ops[j]?=some o∧∀e∈o.after,Region.binds .any e=true→listed.getD e.on false=true)→listed.getD i false=true:=by intro j;induction j using Nat.strongRecOn with|_ j ih=>
 rintro hjn hij hb ⟨o,ho,hall⟩;have h:=hch j hjn i hij;unfold lW at h;rw[hb,ho]at h;simp only[q303,q265]at h;obtain⟨e,he,h⟩:=q112.1 h;replace he:=q240.1 he;simp only[q73,q134,beq_iff_eq,decide_eq_true_eq]at h;obtain⟨hbe,h⟩:=h;have hl:=hall e he hbe;rcases h with rfl|⟨⟨h1,h2⟩,h3⟩;·exact hl
 ·cases hk:ops[e.on]? with|none=>
   exfalso;rw[IS]at h3;have hlt:¬e.on<ops.size:=by intro hlt;rw[q127 hlt]at hk;cases hk
   have hjlt:j<ops.size:=(q66.1 ho).1;omega|some o'=>exact ih e.on h2 (by omega) h1 h3 ⟨o',hk,fun e' he' hb'=>hc e.on o' hk hl e' he' hb'⟩
def eE (n k:Nat):Array Bool:=((List.range n).map fun j=>decide (j<k)).toArray
theorem gj (d:Bool) (h:j<n):(eE n k).getD j d=decide (j<k):=by simp[eE,h]
theorem BG (h:k<n):(eE n k).setIfInBounds k true=eE n (k+1):=by
 apply q288;·simp[eE]
 ·intro j h1 h2;have hj:j<n:=by simpa[eE]using h2
  by_cases hjk:j=k;·subst hjk;simp[eE,h]
  ·rw[q241 (by simpa[eE]using hj) (q257 hjk)];simp only[eE,List.getElem_toArray,List.getElem_map,List.getElem_range,decide_eq_decide];omega
def anyS (S:Nat→(St→Prop)→St→Prop) (ops:Array Oper) (Q:St→Prop):Nat→Array Bool→St→Prop|0,listed,st=>Region.ready .any ops listed=[]∧Q st|fuel+1,listed,st=>(Region.ready .any ops listed=[]→Q st)∧∀i∈Region.ready .any ops listed,S i (anyS S ops Q fuel (listed.setIfInBounds i true)) st
theorem tF {S:Nat→(St→Prop)→St→Prop}{Q:St→Prop} (hmono:∀(j:Nat) (K K':St→Prop) (st:St),(∀st,K st→K' st)→S j K st→S j K' st) (hstrict:∀(j:Nat) (st:St),¬S j (fun _=>False) st) (hch:∀j,j<ops.size→∀i,i<j→lW ops i j=true) (un:Nat→Prop) (hsw:∀(j:Nat) (K:St→Prop) (st:St),j<ops.size→un j→(i<j→bits ops i j=false)→S i (S j K) st→S j (S i K) st):∀(fuel:Nat) (listed:Array Bool) (st:St),qY ops listed→(∀j,j<ops.size→listed.getD j true=false→j≠i→un j)→listed.size=ops.size→i∈Region.ready .any ops listed→S i (anyS S ops Q fuel (listed.setIfInBounds i true)) st→anyS S ops Q (fuel+1) listed st:=by intro fuel;induction fuel with
 |zero=>
  intro listed st hc hlt hls hr H;refine⟨fun h=>(by rw[h]at hr;cases hr),fun j hj=>?_⟩;by_cases hji:j=i;·subst hji;exact H
  ·exfalso;refine hstrict i st (hmono i _ _ st (fun st' h=>?_) H);have:=ready_mono hj hji;rw[h.1]at this;cases this|succ fuel ih=>
  intro listed st hc hlt hls hr H;refine⟨fun h=>(by rw[h]at hr;cases hr),fun j hj=>?_⟩;by_cases hji:j=i;·subst hji;exact H
  ·obtain⟨hjun,oj,hoj,hall⟩:=mem_ready.1 hj;have hjlt:j<ops.size:=(q66.1 hoj).1;have hij:=hlt j hjlt hjun hji;have hiun:=(mem_ready.1 hr).1;have hilt:i<ops.size:=by obtain⟨_,o,ho,_⟩:=mem_ready.1 hr;exact(q66.1 ho).1
   have hbits:i<j→bits ops i j=false:=by intro hij;cases hb:bits ops i j with|false=>rfl|true=>
    have h1:=chain hch hc j hjlt hij hb ⟨oj,hoj,hall⟩;have hilt:i<listed.size:=by omega
    simp[hilt]at h1 hiun;rw[hiun]at h1;cases h1
   have h1:=hsw j _ st hjlt hij hbits (hmono i _ _ st (fun st' h=>h.2 j (ready_mono hj hji)) H);refine hmono j _ _ st (fun st' h=>?_) h1;refine ih (listed.setIfInBounds j true) st' (hc.set hj) ?_ (by simpa using hls) (ready_mono hr (q257 hji)) ?_
   ·intro k hk hun hki;by_cases hjk:j=k;·subst hjk;exact hij
    ·rw[getD_set_ne true hjk]at hun;exact hlt k hk hun hki
   ·rw[Array.setIfInBounds_comm _ _ (q257 hji)]at h;exact h
def D8 (S:Nat→(St→Prop)→St→Prop) (Q:St→Prop):Nat→Nat→St→Prop|0,_,st=>Q st|m+1,k,st=>S k (D8 S Q m (k+1)) st
theorem Hq {S:Nat→(St→Prop)→St→Prop}{Q:St→Prop} (hmono:∀(j:Nat) (K K':St→Prop) (st:St),(∀st,K st→K' st)→S j K st→S j K' st) (hstrict:∀(j:Nat) (st:St),¬S j (fun _=>False) st) (hch:∀j,j<ops.size→jY ops j=true∧∀i,i<j→lW ops i j=true) (hsw:∀(i j:Nat) (K:St→Prop) (st:St),j<ops.size→i<j→bits ops i j=false→S i (S j K) st→S j (S i K) st):∀(m k:Nat) (st:St),k+m=ops.size→D8 S Q m k st→anyS S ops Q m (eE ops.size k) st:=by intro m;induction m with
 |zero=>intro k st hk hs;refine⟨?_,hs⟩;cases hr:Region.ready .any ops (eE ops.size k) with|nil=>rfl|cons j js=>
   have hj:j∈Region.ready .any ops (eE ops.size k):=by rw[hr];exact q121
   obtain⟨h0,o,ho,_⟩:=mem_ready.1 hj;have hjlt:j<ops.size:=(q66.1 ho).1;rw[gj true hjlt]at h0;simp only[decide_eq_false_iff_not]at h0;omega
 |succ m ih=>
  intro k st hk hs;have hko:k<ops.size:=by omega
  have hearly:∀j o,ops[j]?=some o→∀e∈o.after,Region.binds .any e=true→e.on<j:=by
   intro j o ho e he hb;have h:=(hch j (q66.1 ho).1).1;unfold jY at h;rw[ho]at h;simp only[q90,q134,q142,decide_eq_true_eq]at h;rcases h e (q240.2 he) with h|h;·rw[hb]at h;cases h
   ·exact h
  refine tF hmono hstrict (fun j hj i hij=>(hch j hj).2 i hij) (fun j=>k<j) (fun j K st hj hij hb=>hsw k j K st hj hij (hb hij)) m (eE ops.size k) st ?_ ?_ (by simp[eE]) ?_ ?_;·intro j o ho hl e he hb;have hjlt:=(q66.1 ho).1;rw[gj false hjlt]at hl;simp only[decide_eq_true_eq]at hl;have:=hearly j o ho e he hb;rw[gj false (by omega)];simp only[decide_eq_true_eq];omega
  ·intro j hj hun hne;rw[gj true hj]at hun;simp only[decide_eq_false_iff_not]at hun;omega
  ·refine mem_ready.2 ⟨by rw[gj true hko];simp,ops[k],by rw[q127 hko],fun e he hb=>?_⟩;have:=hearly k ops[k] (by rw[q127 hko]) e he hb;rw[gj false (by omega)];simpa using this
  ·rw[BG hko];exact hmono k _ _ st (fun st' h=>ih (k+1) st' (by omega) h) hs
def HM (S:Nat→(St→Prop)→St→Prop) (Q:St→Prop):List Nat→St→Prop|[],st=>Q st|i::l,st=>S i (HM S Q l) st
def cI (n:Nat) (pre:List Nat):Array Bool:=((List.range n).map fun j=>pre.contains j).toArray
theorem gS  (d:Bool) (h:j<n):(cI n pre).getD j d=pre.contains j:=by simp[cI,h]
theorem Ah  (h:k<n):(cI n pre).setIfInBounds k true=cI n (k::pre):=by
 apply q288;·simp[cI]
 ·intro j h1 h2;have hj:j<n:=by simpa[cI]using h2
  by_cases hjk:j=k;·subst hjk;simp[cI,h]
  ·rw[q241 (by simpa[cI]using hj) (q257 hjk)];have:¬k=j:=fun e=>hjk e.symm;simp[cI,hjk]
theorem Hn {S:Nat→(St→Prop)→St→Prop}{Q:St→Prop}{ks:Array AI} (hmono:∀(j:Nat) (K K':St→Prop) (st:St),(∀st,K st→K' st)→S j K st→S j K' st) (hstrict:∀(j:Nat) (st:St),¬S j (fun _=>False) st) (hch:∀j,j<ops.size→jY ops j=true∧∀i,i<j→lW ops i j=true) (hsw:∀(i j:Nat) (K:St→Prop) (st:St),(∃x y,ks[i]?=some x∧ks[j]?=some y∧uZ x y=true)→S i (S j K) st→S j (S i K) st):∀(l pre:List Nat) (st:St),(∀j,j<ops.size→pre.contains j=false→j∈l)→(∀j∈l,j<ops.size)→(∀j,pre.contains j=true→j<ops.size)→qY ops (cI ops.size pre)→Lw ops ks pre l=true→HM S Q l st→anyS S ops Q l.length (cI ops.size pre) st:=by intro l;induction l with
 |nil=>intro pre st hall _ _ _ _ hs;refine⟨?_,hs⟩;cases hr:Region.ready .any ops (cI ops.size pre) with|nil=>rfl|cons j js=>
   have hj:j∈Region.ready .any ops (cI ops.size pre):=by rw[hr];exact q121
   obtain⟨h0,o,ho,_⟩:=mem_ready.1 hj;have hjlt:j<ops.size:=(q66.1 ho).1;rw[gS true hjlt]at h0;have:=hall j hjlt h0;cases this
 |cons i l ih=>
  intro pre st hall hlt hpre hcl hord hs;unfold Lw at hord;simp only[q73]at hord;obtain⟨⟨⟨h1,h2⟩,h3⟩,h4⟩:=hord;have hio:i<ops.size:=hlt i q121;have hipre:pre.contains i=false:=by simpa using h2
  have hready:i∈Region.ready .any ops (cI ops.size pre):=by
   refine mem_ready.2 ⟨by rw[gS true hio];exact hipre,ops[i],by rw[q127 hio],fun e he hb=>?_⟩;rw[q127 hio]at h1;simp only[q90,q134,q142]at h1;rcases h1 e (q240.2 he) with h|h;·rw[hb]at h;cases h
   ·rw[gS false (hpre e.on h)];exact h
  have hset:(cI ops.size pre).setIfInBounds i true=cI ops.size (i::pre):=Ah hio;rw[q90]at h3;refine tF hmono hstrict (fun j hj i hij=>(hch j hj).2 i hij) (fun j=>j∈l) (fun j K st hj hjl hb=>hsw i j K st ?_) l.length (cI ops.size pre) st hcl ?_ (by simp[cI]) hready ?_
  ·have h5:=h3 j hjl;rw[q134]at h5;rcases h5 with h5|h5;·exfalso;simp only[q73,decide_eq_true_eq]at h5;rw[hb h5.1]at h5;cases h5.2
   ·split at h5;·rename_i x y hx hy;exact⟨x,y,hx,hy,h5⟩
    ·cases h5
  ·intro j hj hun hne;rw[gS true hj]at hun;rcases q76.1 (hall j hj hun) with rfl|h;·exact absurd rfl hne
   ·exact h
  ·rw[hset];have hcl':=hcl.set hready;rw[hset]at hcl';refine hmono i _ _ st (fun st' h=>ih (i::pre) st' (fun j hj hun=>?_) (fun j hj=>hlt j (q103 _ hj)) (fun j hj=>?_) hcl' h4 h) hs
   ·simp only[q226,q197,beq_eq_false_iff_ne]at hun;rcases q76.1 (hall j hj hun.2) with rfl|h;·exact absurd rfl hun.1
    ·exact h
   ·simp only[q226,q134,beq_iff_eq]at hj;rcases hj with rfl|h;·exact hio
    ·exact hpre j h
theorem BY {d:Option Nat}{xs:List AV}{p k:Nat}{K K':St→Prop}{st:St} (h:∀st,K st→K' st) (hs:lG P Γ d f xs p k K st):lG P Γ d f xs p k K' st:=by unfold lG at hs ⊢;obtain⟨d,hd,ha,hs⟩:=ae hs;obtain⟨X,hX,hs⟩:=ae hs;obtain⟨T,hT,ho,hs⟩:=ae hs;obtain⟨ys,hy,hs⟩:=ae hs;obtain⟨x,hx,h1,h2,h3,h4,hK⟩:=ae hs;rw[hd];refine⟨ha,?_⟩;rw[hX];show ai (gx st.aa k X) _;rw[hT];refine⟨ho,?_⟩;rw[hy];show ai (Γ (f+1000000) ys) _;rw[hx];exact⟨h1,h2,h3,h4,h _ hK⟩
theorem gr {d:Option Nat}{xs:List AV}{ks:Option (List Nat)}{K K':St→Prop}{st:St} (h:∀st,K st→K' st) (hs:stepG Γ d f xs ks K st):stepG Γ d f xs ks K' st:=by unfold stepG at hs;obtain⟨d,rfl,ha,hs⟩:=ae hs;obtain⟨ks,rfl,hT,hQ,hn,hs⟩:=ae hs;obtain⟨ys,hy,hs⟩:=ae hs;obtain⟨x,hx,h1,h2,hs⟩:=ae hs;obtain⟨o,ho,h3,hs⟩:=ae hs;obtain⟨r,hr,h4,hK⟩:=ae hs;refine⟨ha,hT,hQ,hn,?_⟩;rw[hy];show ai (Γ (f+2000000) ys) _;rw[hx];refine⟨h1,h2,?_⟩;rw[ho];refine⟨h3,?_⟩;rw[hr];exact⟨h4,h _ hK⟩
theorem rF {d:Option Nat}{xs:List AV}{ks:Option (List Nat)}{st:St} (hs:stepG Γ d f xs ks (fun _=>False) st):False:=by unfold stepG at hs;obtain⟨d,rfl,ha,hs⟩:=ae hs;obtain⟨ks,rfl,hT,hQ,hn,hs⟩:=ae hs;obtain⟨ys,hy,hs⟩:=ae hs;obtain⟨x,hx,h1,h2,hs⟩:=ae hs;obtain⟨o,ho,h3,hs⟩:=ae hs;obtain⟨r,hr,h4,hK⟩:=ae hs;exact hK
theorem Bg {d:Option Nat}{xs:List AV}{K K':St→Prop}{st:St} (h:∀st,K st→K' st) (hs:fX P Γ d xs none K st):fX P Γ d xs none K' st:=by
 unfold fX at hs ⊢;obtain⟨ha,hs⟩:=hs;obtain⟨x,hx,hf,hs⟩:=ae hs;refine⟨ha,?_⟩;rw[hx];refine⟨hf,?_⟩;unfold eW at hs ⊢;split at hs
 ·split at hs;·rename_i h2;rw[if_pos h2];exact gr h hs
  ·exact hs.elim
 ·obtain⟨d,hd,ha,hs⟩:=ae hs;obtain⟨ys,hy,hs⟩:=ae hs;obtain⟨z,hz,h1,h2,h3,h4,hK⟩:=ae hs;unfold cH;subst hd;refine⟨ha,?_⟩;rw[hy];show ai (gt Γ x.1 ys) _;rw[hz];exact⟨h1,h2,h3,h4,h _ hK⟩
theorem iP {i:AI}{K K':St→Prop}{st:St} (h:∀st,K st→K' st) (hs:cO P Γ i K st):cO P Γ i K' st:=by
 unfold cO at hs ⊢;split at hs
 ·unfold ij at hs ⊢;split at hs
  ·split at hs;·rename_i h1;rw[if_pos h1];exact⟨hs.1,BY h hs.2⟩
   ·rename_i h1;rw[if_neg h1];split at hs;·rename_i h2;rw[if_pos h2];exact⟨hs.1,gr h hs.2⟩
    ·exact hs.elim
  ·exact tM h hs
 ·exact Bg h hs
 ·exact tM h hs
theorem pn {i:AI}{st:St} (hs:cO P Γ i (fun _=>False) st):False:=by
 have hI:∀{i:AI},¬c9 P Γ i (fun _=>False) st:=fun h=>by obtain⟨_,_,h⟩:=cD.1 h;exact h
 unfold cO at hs;split at hs
 ·unfold ij at hs;split at hs
  ·split at hs;·have hs:=hs.2;unfold lG at hs;obtain⟨_,_,_,hs⟩:=ae hs;obtain⟨_,_,hs⟩:=ae hs;obtain⟨_,_,_,hs⟩:=ae hs;obtain⟨_,_,hs⟩:=ae hs;obtain⟨_,_,_,_,_,_,hK⟩:=ae hs;exact hK
   ·split at hs;·exact rF hs.2
    ·exact hs
  ·exact hI hs
 ·unfold fX at hs;obtain⟨_,hs⟩:=hs;obtain⟨_,_,_,hs⟩:=ae hs;unfold eW at hs;split at hs
  ·split at hs;·exact rF hs
   ·exact hs
  ·obtain⟨_,_,_,hs⟩:=ae hs;obtain⟨_,_,hs⟩:=ae hs;obtain⟨_,_,_,_,_,_,hK⟩:=ae hs;exact hK
 ·exact hI hs
theorem dx {i:AI} (h:i.tg≠some 999999) {st:St}:cO P Γ i K st=c9 P Γ i K st:=by
 unfold cO;split;·rename_i h1 _;exact absurd h1 h
 ·rename_i h1 _;exact absurd h1 h
 ·rfl
theorem F6 {c:AV}{vars:Nat→AV}{xs:List Operand} (h:(tmpsOf xs).contains dd=false):xs.map (ev (put (some dd) c vars))=xs.map (ev vars):=by induction xs with|nil=>rfl|cons x xs ih=>cases x with|tmp t=>simp only[tmpsOf,q226,q197,beq_eq_false_iff_ne]at h;have ht:t≠dd:=fun e=>h.1 e.symm;rw[q71,q71,ih h.2];simp only[ev,put,if_neg ht]|const v=>simp only[tmpsOf]at h;rw[q71,q71,ih h];rfl|func f=>simp only[tmpsOf]at h;rw[q71,q71,ih h];rfl|global g=>simp only[tmpsOf]at h;rw[q71,q71,ih h];rfl
theorem Lm (t:Nat) (v:Value):kill t (cv v)=cv v:=by unfold cv;split<;>rfl
theorem mu {d dd:Nat} (h:d≠dd) (r c:AV) (f:Nat→AV):put (some d) r (put (some dd) c f)=put (some dd) c (put (some d) r f):=by
 funext s;simp only[put];by_cases h1:s=d<;>by_cases h2:s=dd;·omega
 ·simp[h1,h]
 ·simp[h2,q257 h]
 ·simp[h1,h2]
def kU (t:Nat) (x:AV) (c:AV):AV:=match ep x with|_::_=>c|[]=>kill t c
theorem Fh (t:Nat) (x:AV) (dd:Nat) (c:AV) (f:Nat→AV):ie t x (put (some dd) c f)=put (some dd) (kU t x c) (ie t x f):=by unfold ie kU;cases ep x with|cons y l=>rfl|nil=>funext s;simp only[cE,put];split<;>rfl
theorem LB (W:List Nat) (v:Value):fu W (cv v)=cv v:=by
 unfold fu;split;·rfl
 ·unfold cv;split<;>rfl
theorem xf (W:List Nat) (dd:Nat) (c:AV) (f:Nat→AV):iq W (put (some dd) c f)=put (some dd) (fu W c) (iq W f):=by funext s;simp only[iq,put];split<;>rfl
def zk (d:Option Nat):Operand→Prop|.const _=>True|.tmp s=>d≠some s|_=>False
theorem JN {x:AI}{o:Operand} (h:okOp x o=true):zk x.d o:=by cases o with|const v=>trivial|tmp s=>have h:(x.d !=some s)=true:=h;simpa[zk]using h|func f=>cases h|global g=>cases h
theorem sQ {d:Nat}{o:Operand} (h:zk (some d) o) (r:AV) (f:Nat→AV):ev (put (some d) r f) o=ev f o:=by cases o with|const v=>rfl|tmp s=>have:s≠d:=fun e=>h (by rw[e]);simp only[ev,put,if_neg this]|func f=>exact h.elim|global g=>exact h.elim
theorem Jt {d:Option Nat}{o:Operand} (h:zk d o) (W:List Nat) (f:Nat→AV):ev (iq W f) o=fu W (ev f o):=by cases o with|const v=>exact(LB W v).symm|tmp s=>rfl|func f=>exact h.elim|global g=>exact h.elim
theorem IN {d:Option Nat}{o:Operand} (h:zk d o) (t:Nat) (x:AV) (f:Nat→AV):ev (ie t x f) o=kU t x (ev f o):=by unfold ie kU;cases o with
 |const v=>cases ep x with|cons y l=>rfl|nil=>exact(Lm t v).symm
 |tmp s=>cases ep x<;>rfl|func f=>exact h.elim|global g=>exact h.elim
theorem zY {d:Option Nat}{xs:List AV}{ks:Option (List Nat)}{o:Operand} (ho:zk d o) (hd:d≠some dd) {st:St}:stepG Γ d f xs ks (fun st'=>K ⟨put (some dd) (ev st'.vars o) st'.vars,st'.aa⟩) st=stepG Γ d f xs ks K ⟨put (some dd) (ev st.vars o) st.vars,st.aa⟩:=by unfold stepG;cases d with|none=>rfl|some d=>have hne:d≠dd:=fun e=>hd (by rw[e]);simp only[ai,yD,yU,xT,xf,mu hne,sQ ho,Jt ho]
theorem CR {d:Option Nat}{xs:List AV}{o:Operand} (ho:zk d o) (hd:d≠some dd) {st:St}:cH P Γ d f xs st.aa (fun e=>K ⟨put (some dd) (ev (e.on d st).vars o) (e.on d st).vars,(e.on d st).aa⟩)=cH P Γ d f xs st.aa (fun e=>K (e.on d ⟨put (some dd) (ev st.vars o) st.vars,st.aa⟩)):=by unfold cH;cases d with|none=>rfl|some d=>have hne:d≠dd:=fun e=>hd (by rw[e]);simp only[ai,bI.on,mu hne,sQ ho]
theorem Gq {d:Option Nat}{xs:List AV}{o:Operand} (ho:zk d o) (hd:d≠some dd) {st:St}:fX P Γ d xs none (fun st'=>K ⟨put (some dd) (ev st'.vars o) st'.vars,st'.aa⟩) st=fX P Γ d xs none K ⟨put (some dd) (ev st.vars o) st.vars,st.aa⟩:=by
 have key:∀x:FuncId×List AV,eW P Γ d x.1 x.2 (dV Γ x.1) (fun st'=>K ⟨put (some dd) (ev st'.vars o) st'.vars,st'.aa⟩) st=eW P Γ d x.1 x.2 (dV Γ x.1) K ⟨put (some dd) (ev st.vars o) st.vars,st.aa⟩:=by
  intro x;unfold eW;split
  ·split;·exact zY ho hd
   ·rfl
  ·exact CR ho hd
 show(aq xs∧ai (lv (xs.map strip)) fun x=>fF P x.1=true∧eW P Γ d x.1 x.2 (dV Γ x.1) (fun st'=>K ⟨put (some dd) (ev st'.vars o) st'.vars,st'.aa⟩) st)=(aq xs∧ai (lv (xs.map strip)) fun x=>fF P x.1=true∧eW P Γ d x.1 x.2 (dV Γ x.1) K ⟨put (some dd) (ev st.vars o) st.vars,st.aa⟩);simp only[key]
theorem Mt {st:St}{l:List Nat}{c:AV} (hl:dd∉l):nJ T ⟨put (some dd) c st.vars,st.aa⟩ l=nJ T st l:=by induction l with|nil=>rfl|cons s l ih=>have h1:s≠dd:=fun e=>hl (by rw[e];exact q121);simp only[nJ,put,if_neg h1];rw[←ih (fun h=>hl (q103 _ h))];rfl
theorem Hh {y x:AI} (hk:(∃f,x.k=.call f)∨x.k=.lN) (hg:x.g=none) (ht:x.tg=some 999999) (hc:MC y x=true) (hun:∀dd,y.d=some dd→dd∉x.un):∃dd o,y=⟨some dd,.oO,[o],none,[],none⟩∧∀(K:St→Prop) (st:St),cO P Γ x (fun st'=>K ⟨put (some dd) (ev st'.vars o) st'.vars,st'.aa⟩) st=cO P Γ x K ⟨put (some dd) (ev st.vars o) st.vars,st.aa⟩:=by
 obtain⟨yd,yk,yxs,yg,yun,ytg⟩:=y;unfold MC at hc;split at hc
 ·rename_i o dd e1 e2 e3 e4 e5 e6;simp only at e1 e2 e3 e4 e5 e6;subst e1 e2 e3 e4 e5 e6;refine⟨dd,o,rfl,fun K st=>?_⟩;simp only[q73,q142,bne_iff_ne,ne_eq,cU,hg,q147]at hc;obtain⟨⟨hok,hu⟩,hd⟩:=hc;have ho:=JN hok;have hun2:=hun dd rfl;have hev:∀c vars,x.xs.map (ev (put (some dd) c vars))=x.xs.map (ev vars):=fun c vars=>F6 hu;obtain⟨xd,xk,xxs,xg,xun,xtg⟩:=x;simp only at hk hg ht hd hev ho hun2;subst hg ht;rcases hk with⟨f,rfl⟩|rfl
  ·show ij P Γ _ f (dV Γ f) _ _=ij P Γ _ f (dV Γ f) _ _;unfold ij;split
   ·split;·unfold lG;simp only[hev];cases xd with|none=>rfl|some d=>have hne:d≠dd:=fun e=>hd (by rw[e]);simp only[ai,Fh,mu hne,sQ ho,IN ho]
    ·split;·simp only[hev,Mt hun2];rw[zY ho hd]
     ·rfl
   ·simp only[c9,dW,hev];unfold bf;simp only[cH];cases xd with|none=>rfl|some d=>have hne:d≠dd:=fun e=>hd (by rw[e]);simp only[ai,bI.on,BQ,uA,lF,mu hne,sQ ho]
  ·show fX P Γ _ _ none _ _=fX P Γ _ _ none _ _;simp only[hev];exact Gq ho hd
 ·cases hc
theorem AQ {o:Operand}{st:St}:cO P Γ ⟨some dd,.oO,[o],none,[],none⟩ K st=K ⟨put (some dd) (ev st.vars o) st.vars,st.aa⟩:=by simp[cO,c9,dW,bf,ai,BQ,uA,lF,bI.on]
theorem uL {x y:AI} (hk:(∃f,x.k=.call f)∨x.k=.lN) (hg:x.g=none) (ht:x.tg=some 999999) (hc:MC y x=true) (hun:∀dd,y.d=some dd→dd∉x.un) {st:St}:cO P Γ x (cO P Γ y K) st=cO P Γ y (cO P Γ x K) st:=by obtain⟨dd,o,rfl,h⟩:=Hh (P:=P) (Γ:=Γ) hk hg ht hc hun;rw[AQ,←h];congr 1;funext st';exact AQ
theorem ow {W:List Nat}:∀{cs:List AV},lD cs=true→cs.map (ey W)=cs|[],_=>rfl|c::cs,h=>by cases c with|pv p=>rw[q71,ow (cs:=cs) h];rfl|_=>cases h
theorem zM:∀{cs:List AV}{i:Nat}{c:AV},lD cs=true→cs[i]?=some c→∃p,c=.pv p|[],i,c,_,h=>by simp at h|x::cs,i,c,h,hc=>by cases x with
 |pv p=>cases i with|zero=>exact⟨p,by simpa using hc.symm⟩|succ i=>exact zM (cs:=cs) h (by simpa using hc)
 |_=>cases h
theorem uc:∀{cs:List AV} (n:Nat),lD cs=true→lD (cs.drop n)=true|cs,0,h=>h|[],n+1,h=>h|c::cs,n+1,h=>by cases c with|pv p=>exact uc (cs:=cs) n h|_=>cases h
theorem uy:∀{cs:List AV} (n:Nat),lD cs=true→lD (cs.take n)=true|cs,0,h=>rfl|[],n+1,h=>rfl|c::cs,n+1,h=>by cases c with|pv p=>exact uy (cs:=cs) n h|_=>cases h
theorem Kz (W:List Nat) (p:PV):fu W (.pv p)=.pv p:=by unfold fu;split<;>rfl
theorem GA {W:List Nat} (h:lD cs=true):fu W (.agg cs)=.agg cs:=by
 unfold fu;split;·rfl
 ·show AV.agg (cs.map (ey W))=_;rw[ow h]
theorem Ff {W:List Nat} (h:lD cs=true):jG W (.box cs)=.box cs:=by
 unfold jG;split;·rfl
 ·show AO.box (cs.map (ey W))=_;rw[ow h]
theorem B3 {n:Option Nat}{t o:Nat}{aa:Nat→Option AO} (ht:aa t=some (.box cs)) (hp:lD cs=true) {x:Prop×AV} (h:al (.load n) [.ptr t o] aa=some x):(∀W,fu W x.2=x.2)∧∀objs',objs' t=some (.box cs)→al (.load n) [.ptr t o] objs'=some x:=by cases n with
 |none=>
  simp only[al,ht,eY,q130]at h ⊢;refine⟨?_,fun objs' h'=>by rw[h'];exact h⟩;obtain⟨c,hc,h⟩:=q63.1 h;obtain⟨p,rfl⟩:=zM hp hc;split at h;·cases h;exact fun W=>Kz W p
  ·cases h|some n=>
  simp only[al,ht,eY,q130]at h ⊢;refine⟨?_,fun objs' h'=>by rw[h'];exact h⟩;split at h;·cases h;exact fun W=>GA (uy _ (uc _ hp))
  ·cases h
theorem xw {T:List Nat}{st:St}{s:Nat}:∀{l:List Nat},nJ T st l→s∈l→∃t o cs,st.vars s=.ptr t o∧st.aa t=some (.box cs)∧lD cs=true∧T.contains t=false
 |[],_,hm=>by cases hm|s'::l,h,hm=>by
  rcases q76.1 hm with rfl|hm
  ·obtain⟨t,ht,hT⟩:=ae h.1;unfold ldT at ht;split at ht
   ·rename_i t' o e;obtain⟨cs,hb,ht⟩:=q63.1 ht;split at ht;·rename_i hp;cases ht;refine⟨_,o,cs,e,?_,hp,hT⟩;revert hb;cases st.aa t with|none=>intro hb;cases hb|some ob=>cases ob with|box l=>intro hb;cases hb;rfl|_=>intro hb;cases hb
    ·cases ht
   ·cases ht
  ·exact xw h.2 hm
theorem zw {dd s:Nat}{n:Option Nat}{st:St}:cO P Γ ⟨some dd,.load n,[.tmp s],none,un,none⟩ K st=((un=[]∨kc un st.aa [strip (st.vars s)])∧asks (st.vars s)∧ai (al (.load n) [strip (st.vars s)] st.aa) fun x=>x.1∧K ⟨put (some dd) x.2 st.vars,st.aa⟩):=by show((un=[]∨kc un st.aa [strip (st.vars s)])∧(asks (st.vars s)∧True)∧ai (al (.load n) [strip (st.vars s)] st.aa) fun x=>x.1∧BQ un none (.put x.2)∧K ((bI.put x.2).on (some dd) st))=_;simp[BQ,uA,lF,bI.on]
theorem Ep {d:Option Nat}{xs:List AV}{ks:Option (List Nat)}{K K2:St→Prop}{st st':St} (ho:st'.aa=st.aa) (hK:∀d' W r objs1,d=some d'→(∀t∈W,t∈DE ks st.aa (xs.map strip))→(∀t c,(DE ks st.aa (xs.map strip)).contains t=false→st.aa t=some c→objs1 t=some (jG W c))→K ⟨put (some d') r (iq W st'.vars),objs1⟩→K2 ⟨put (some d') r (iq W st.vars),objs1⟩) (hs:stepG Γ d f xs ks K st'):stepG Γ d f xs ks K2 st:=by
 unfold stepG at hs;rw[ho]at hs;obtain⟨d,rfl,ha,hs⟩:=ae hs;obtain⟨ks,rfl,hT,hQ,hn,hs⟩:=ae hs;obtain⟨ys,hy,hs⟩:=ae hs;rw[ho]at hy;obtain⟨x,hx,h1,h2,hs⟩:=ae hs;obtain⟨o,hoo,h3,hs⟩:=ae hs;obtain⟨r,hr,h4,h5⟩:=ae hs;rw[ho]at h4 h5;refine⟨ha,hT,hQ,hn,?_⟩;rw[hy];show ai (Γ (f+2000000) ys) _;rw[hx];refine⟨h1,h2,?_⟩;rw[hoo];refine⟨h3,?_⟩;rw[hr];refine⟨h4,hK _ _ _ _ rfl (fun t ht=>(q125.1 ht).1) (fun t c htT hc=>?_) h5⟩;show(match ab (o.2.1++r.2.1) t with|some o=>some o|none=>_)=_;have hno:ab (o.2.1++r.2.1) t=none:=by cases hl:ab (o.2.1++r.2.1) t with|none=>rfl|some c'=>
  obtain⟨q,hq,rfl⟩:=iJ _ _ _ hl;rcases h4 _ hq with h|h;·have htT:(eU st.aa ks (xs.map strip)).contains q.1=false:=htT;rw[htT]at h;cases h
  ·rw[hc]at h;cases h
 rw[hno];unfold fm;have htT:(eU st.aa ks (xs.map strip)).contains t=false:=htT;rw[htT,hc];rfl
theorem LC {x y:AI} (hxk:x.k=.call f) (hg:x.g=none) (ht:x.tg=some 999999) {p k:Nat} (hfl:dV Γ f=some (p,k)) {dd s:Nat}{n:Option Nat} (hy:y=⟨some dd,.load n,[.tmp s],none,un,none⟩) (hds:x.d≠some s) (hu:(cU x).contains dd=false) (hdd:x.d≠some dd) (hsd:dd≠s) (hsu:s∈x.un) (hdu:dd∉x.un) {st:St} (hs:cO P Γ y (cO P Γ x K) st):cO P Γ x (cO P Γ y K) st:=by
 subst hy;obtain⟨xd,xk,xxs,xg,xun,xtg⟩:=x;simp only at hxk hg ht hds hdd hsu hdu;subst hxk hg ht;have hu':(tmpsOf xxs).contains dd=false:=by simpa[cU]using hu
 have hev:∀c vars,xxs.map (ev (put (some dd) c vars))=xxs.map (ev vars):=fun c vars=>F6 hu';rw[zw]at hs;obtain⟨hn,ha,hs⟩:=hs;obtain⟨v,hv,hφ,hs⟩:=ae hs;change ij P Γ _ f (dV Γ f) K _ at hs;show ij P Γ _ f (dV Γ f) _ st;rw[hfl]at hs ⊢;unfold ij at hs ⊢;dsimp only at hs ⊢;split at hs;·rw[hs.1]at hsu;cases hsu
 rename_i hk;rw[if_neg hk];split at hs;rotate_left;·exact hs.elim
 rename_i hk2;rw[if_pos hk2];simp only[hev,Mt hdu]at hs;obtain⟨hl,hs⟩:=hs;refine⟨hl,?_⟩;obtain⟨t,o,cs,e1,e2,e3,e4⟩:=xw hl hsu;rw[e1]at hn hv;obtain⟨hw,hq⟩:=B3 e2 e3 hv;refine Ep (st':=⟨put (some dd) v.2 st.vars,st.aa⟩) rfl (fun d' W r objs1 hd' hW ho h=>?_) hs;subst hd';have hWt:W.contains t=false:=by cases hc:W.contains t with|false=>rfl|true=>have:=hW t (by simpa using hc);rw[←q299]at this;rw[this]at e4;cases e4
 have hsd':s≠d':=fun e=>hds (by rw[e]);have hdd':d'≠dd:=fun e=>hdd (by rw[e]);have h1:=ho t _ e4 e2;rw[Ff e3]at h1;have hvs:(put (some d') r (iq W st.vars)) s=.ptr t o:=by
  simp only[put,if_neg hsd',iq,e1];unfold fu;split;·rfl
  ·show(if W.contains t=true then AV.aw else .ptr t o)=_;rw[hWt];rfl
 rw[zw];simp only[hvs];refine⟨?_,trivial,?_⟩
 ·rcases hn with hn|hn;·exact .inl hn
  ·right;have hb:eY (objs1 t)=eY (st.aa t):=by rw[h1,e2]
   refine⟨?_,trivial⟩;have:=hn.1;simpa only[strip,sr,nU,hb]using this
 ·show ai (al (.load n) [.ptr t o] objs1) _;rw[hq objs1 h1];refine⟨hφ,?_⟩;have e:put (some d') r (iq W (put (some dd) v.2 st.vars))=put (some dd) v.2 (put (some d') r (iq W st.vars)):=by rw[xf,hw,mu hdd']
  rw[←e];exact h
end
section
variable{P:Program}{Γ:bX}{S0 L:Nat→Prop}{B0:Nat→Value}{w0 w:World}{N:Nat}{st:St}{a:Act}{β:Nat→Value}{o:Oper}{x:Operand}
theorem yi (h:Rel P S0 L B0 w0 N st a w β) {t' b lo n c:Nat}{e:TypeId}{inf:TypeInfo}{rows mid:List (List PV)}{us:List Value} (hc:st.aa t'=some (.arr e rows)) (hi:P.info? e=some inf) (hb:β t'=.slice (some ⟨b,0,none⟩) n c) (hle:lo+mid.length≤rows.length) (hml:∀r∈mid,r.length=inf.size) (hul:us.length=mid.length*inf.size) (hv:∀v∈us,v.oneCell'=true) (hr:∀(i j:Nat) (r:List PV) (p:PV),mid[i]?=some r→r[j]?=some p→∃u,us[i*inf.size+j]?=some u∧u.oneCell'=true∧dt (aZ S0 w0.heap.size β st.aa w) w u p):∃w',(storeCells ⟨b,lo*inf.size,none⟩ us).run P w=.ok () w'∧Rel P S0 L B0 w0 N ⟨st.vars,aR t' (.arr e (bY rows lo mid)) st.aa⟩ a w' β:=by
 obtain⟨inf',xs,hi',hown,hrl,hcells⟩:=h.heap.arr hc;have:inf'=inf:=by rw[hi]at hi';injection hi' with hi';exact hi'.symm
 subst this;have hfit:lo*inf'.size+mid.length*inf'.size≤rows.length*inf'.size:=by rw[←q150];exact q86 _ hle
 rcases hown.2 with⟨hnil,_⟩|⟨g,cap,cur,hv',_,hheap,hnc,hcm,hcs,htake⟩;·rw[hb]at hnil;cases hnil
 ·have hgb:g=b:=by rw[hb]at hv';simp at hv';exact hv'.1.symm
  subst hgb;have hnn:n=rows.length∧c=cap:=by rw[hb]at hv';simp at hv';exact hv'
  have hxl:xs.length=rows.length*inf'.size:=hown.1;have hcap:rows.length*inf'.size≤cur.size:=by rw[hcs];exact q86 _ hnc
  have hin:lo*inf'.size+us.length≤cur.size:=by rw[hul];omega
  refine⟨_,oz (P:=P) hheap hin hv,?_⟩;have hblk:cr (β t')=some g:=by rw[hb];rfl
  have hmono:∀(cs':Array Value) (o':AO) (k:Nat),aZ S0 w0.heap.size β st.aa w k→aZ S0 w0.heap.size β (aR t' o' st.aa) (w.setRow g cs') k∧(w.setRow g cs').heap[k]?=w.heap[k]?:=by
   intro cs' o' k hk;obtain⟨g1,g2,g3⟩:=hk;have hkb:k≠g:=fun e=>g3 ⟨t',_,hc,by rw[e];exact hblk⟩;refine⟨⟨g1,by simpa using g2,?_⟩,setRow_other w g k cs' hkb⟩;rintro⟨s,q,hs,hk⟩;by_cases e:s=t';·subst e;exact hkb (by rw[hblk]at hk;injection hk with hk;exact hk.symm)
   ·exact g3 ⟨s,q,by simpa[aR,e]using hs,hk⟩
  have hsl:(bY rows lo mid).length=rows.length:=fe _ _ _ hle;refine(h.wo (w':=w.setRow g (cur.toList.take (lo*inf'.size)++us++cur.toList.drop (lo*inf'.size+us.length)).toArray) (o':=.arr e (bY rows lo mid)) hc hblk rfl rfl rfl (by simp) (fun k hk=>setRow_other _ _ _ _ hk) ⟨inf',bY xs (lo*inf'.size) us,hi,?_,fun r hr'=>?_,fun k j r p hk hp=>?_⟩).1
  ·rw[hsl];refine⟨by rw[fe _ _ _ (by rw[hxl,hul];omega)];exact hxl,.inr ⟨g,cap,_,hv',q126 _,setRow_heap _ _ _ _ _ _ hheap,hnc,hcm,?_,?_⟩⟩;·simp;omega
   ·rw[←htake];simp only[bY];rw[q219,q219];simp only[q74,q67,q83];rw[List.take_of_length_le (l:=List.take (lo*inf'.size) cur.toList) (by rw[q67];omega),q145,q120 (by omega)];rw[q120 (by omega)];rw[List.take_of_length_le (l:=us) (by omega)];congr 1;rw[q296]
  ·unfold bY at hr';simp only[q80]at hr';rcases hr' with(h1|h1)|h1;·exact hrl r (q107 h1)
   ·exact hml r h1
   ·exact hrl r (q123 h1)
  ·rw[ja _ _ _ hle]at hk;rw[ja _ _ _ (by rw[hxl,hul];omega)];by_cases e1:lo≤k∧k<lo+mid.length
   ·rw[if_pos e1]at hk;have hjl:j<inf'.size:=by rw[←hml r (List.mem_of_getElem? hk)];exact(q65.1 hp).1
    have h1:lo*inf'.size≤k*inf'.size:=q86 _ e1.1;have h2:(k+1)*inf'.size≤(lo+mid.length)*inf'.size:=q86 _ e1.2;rw[q118,q150]at h2;rw[if_pos (by rw[hul];omega)];obtain⟨u,hu,h3,h4⟩:=hr _ j r p hk hp;refine⟨u,?_,h3,h4.mono (hmono _ _)⟩;rw[←hu,Nat.sub_mul];congr 1;omega
   ·rw[if_neg e1]at hk;have hjl:j<inf'.size:=by rw[←hrl r (List.mem_of_getElem? hk)];exact(q65.1 hp).1
    obtain⟨u,hu,h3,h4⟩:=hcells k j r p hk hp;refine⟨u,?_,h3,h4.mono (hmono _ _)⟩;rw[if_neg ?_];·exact hu
    ·rintro⟨g1,g2⟩;refine e1 ⟨?_,?_⟩
     ·rcases q137 k lo with hlt|hge;·have:(k+1)*inf'.size≤lo*inf'.size:=q86 _ hlt;rw[q118]at this;omega
      ·exact hge
     ·rcases q137 k (lo+mid.length) with hlt|hge;·exact hlt
      ·have:(lo+mid.length)*inf'.size≤k*inf'.size:=q86 _ hge;rw[q150]at this;rw[hul]at g2;omega
theorem vO (z:Array Value) (n i j:Nat) (hi:i<n) (hj:j<z.size):(Builtin.zeroCells z n).toList[i*z.size+j]?=some z[j]:=by
 have hlt:i*z.size+j<n*z.size:=by have:=q86 z.size (show i+1≤n from hi);rw[q118]at this;omega
 simp only[Builtin.zeroCells,Array.toList_map,q77,q214];rw[Array.getElem?_range,if_pos hlt];simp only[q116,qr];rw[q170,q289,q115 hj];exact getElem!_pos z j hj
theorem nD (z:Array Value) (n:Nat) (v:Value) (h:v∈(Builtin.zeroCells z n).toList):v∈z.toList:=by
 simp only[Builtin.zeroCells,Array.toList_map,q84]at h;obtain⟨i,hi,rfl⟩:=h;have hi':i<n*z.size:=by simpa using hi
 have hz:0<z.size:=by
  rcases q169 z.size with h|h;·rw[h]at hi';omega
  ·exact h
 have:=q272 i hz;rw[getElem!_pos z _ this];simp
theorem Eo {t e:TypeId}{sz:Nat}{zs:List Value} (ho:o.op=.call {callee:=.builtin .clear,args:=#[x],argTypes:=#[t]}) (ht:P.underlying t=some (.slice e)) (hsz:cz P e=some sz) (hz:dQ P e=some zs) (hpos:0<sz) (hall:zs.all (·.oneCell')=true) (h:Rel P S0 L B0 w0 N st a w β) (hd:∀s,o.dst=some s→s<N) (hX:RV P (aZ S0 w0.heap.size β st.aa w) w β (aG st.aa) (a.eval x) X) {r:Nat×AO} (hs:B6 st.aa e zs X=some r):∃v w',(execOp a.eval o).run P w=.ok (.value v) w'∧Rel P S0 L B0 w0 N ((bI.wo r.1 r.2).on o.dst st) (a.put o.dst v) w' β:=by
 obtain⟨i,z,hi,hzv,hzs,rfl⟩:=dS hz;have hsi:i.size=sz:=by obtain⟨i',hi',rfl⟩:=gv hsz;rw[hi]at hi';injection hi' with hi';rw[hi']
 have hzr:(zeroValue e).run P w=.ok z w:=by simp[zeroValue,typeInfo,hi,hzv]
 have hex:∀(A:Option Addr) (n c:Nat) (w':World),a.eval x=.slice A n c→((A=none∨n=0)∧w'=w∨∃ad,A=some ad∧n≠0∧(storeCells ad (Builtin.zeroCells z.cells n).toList).run P w=.ok () w')→(execOp a.eval o).run P w=.ok (.value (.tuple #[])) w':=by
  rintro A n c w' hv (⟨h0,rfl⟩|⟨ad,rfl,hn,hst⟩);·cases A with|none=>cases n<;>simp[execOp,ho,resolve,invoke,builtin,Builtin.clear_,run_underlying ht,hv]|some ad=>
   obtain rfl:n=0:=by rcases h0 with h0|h0;cases h0;exact h0
   simp[execOp,ho,resolve,invoke,builtin,Builtin.clear_,run_underlying ht,hv]
  ·obtain⟨m,rfl⟩:∃m,n=m+1:=⟨n-1,by omega⟩;simp[execOp,ho,resolve,invoke,builtin,Builtin.clear_,run_underlying ht,hv,hzr,hst]
 have hput:∀{w':World}{objs':Nat→Option AO},Rel P S0 L B0 w0 N ⟨st.vars,objs'⟩ a w' β→Rel P S0 L B0 w0 N ⟨Ab.put o.dst .aw st.vars,objs'⟩ (a.put o.dst (.tuple #[])) w' β:=fun hR=>hR.put hd (.aw _);have main:∀(t' lo hi':Nat) (rows:List (List PV)) (A1:Option Addr),st.aa t'=some (.arr e rows)→lo≤hi'→hi'≤rows.length→(∀A n c,β t'=.slice A n c→a.eval x=.slice A1 (hi'-lo) (c-lo)∧(c≠lo→A1=A.map (·.add (lo*i.size))))→∃v w',(execOp a.eval o).run P w=.ok (.value v) w'∧Rel P S0 L B0 w0 N ⟨Ab.put o.dst .aw st.vars,aR t' (.arr e (bY rows lo (List.replicate (hi'-lo) (z.cells.toList.map su)))) st.aa⟩ (a.put o.dst v) w' β:=by
  intro t' lo hi' rows A1 hc h1 h2 hx;obtain⟨inf',xs,hinf,hown,hrl,hcells⟩:=h.heap.arr hc;have:inf'=i:=by rw[hi]at hinf;injection hinf with hinf;exact hinf.symm
  subst this;by_cases hz0:hi'-lo=0
  ·have hsp:bY rows lo (List.replicate (hi'-lo) (z.cells.toList.map su))=rows:=by rw[hz0];simp[bY]
   rw[hsp];obtain⟨A,c,hv,hcc⟩:=cC hown;obtain⟨hxe,_⟩:=hx A rows.length c hv;rw[hz0]at hxe;refine⟨_,w,hex _ _ _ w hxe (.inl ⟨.inr rfl,rfl⟩),?_⟩;have hsame:aR t' (.arr e rows) st.aa=st.aa:=by
    funext s;by_cases hst:s=t';·subst hst;simp[aR,hc]
    ·simp[aR,hst]
   rw[hsame];exact hput h
  ·rcases hown.2 with⟨_,hr0⟩|⟨g,cap,cur,hv,_,_,hnc,_⟩;·omega
   ·obtain⟨hxe,hA⟩:=hx _ _ _ hv;rw[hA (by omega)]at hxe;obtain⟨w',hst,hR⟩:=yi h (lo:=lo) (mid:=List.replicate (hi'-lo) (z.cells.toList.map su)) (us:=(Builtin.zeroCells z.cells (hi'-lo)).toList) hc hi hv (by simp;omega) (fun r hr=>by rw[q202 hr];simp[hzs]) (by rw[q83,size_zeroCells,q215,hzs]) (fun v hv'=>(q90.1 hall) v (nD _ _ _ hv')) (fun k j r p hk hp=>by
     have hk1:k<hi'-lo:=by have:=(q65.1 hk).1;simpa using this
     rw[q229,if_pos hk1]at hk;injection hk with hk;subst hk;rw[q77,q0]at hp;obtain⟨q,hq,rfl⟩:=hp;have hj:j<z.cells.size:=by have:=(q65.1 hq).1;simpa using this
     have hqe:q=z.cells[j]:=by
      have:z.cells[j]?=some q:=by simpa using hq
      rw[q127 hj]at this;injection this with this;exact this.symm
     have hq1:q.oneCell'=true:=(q90.1 hall) q (List.mem_of_getElem? hq);refine⟨q,?_,hq1,iG _ _ q hq1⟩;rw[←hzs,vO _ _ _ _ hk1 hj,hqe]);have hst':(storeCells ((⟨g,0,none⟩:Addr).add (lo*inf'.size)) (Builtin.zeroCells z.cells (hi'-lo)).toList).run P w=.ok () w':=by rw[q100,q133];exact hst
    exact⟨_,w',hex _ _ _ w' hxe (.inr ⟨_,rfl,hz0,hst'⟩),hput hR⟩
 cases X with
 |own t'=>
  simp only[B6,q63]at hs;obtain⟨⟨e',rows⟩,har,hs⟩:=hs;split at hs
  ·rename_i hee;simp only at hee;subst hee;cases hs;have hc:=bK har;have:=main t' 0 rows.length rows (match β t' with|.slice A _ _=>A|_=>none) hc (q126 _) (q93 _) (fun A n c hb=>by
    have hx:=hX.aX.1;obtain⟨inf',xs,hinf,hown,_⟩:=h.heap.arr hc;obtain⟨A',c',hv,_⟩:=cC hown;rw[hb]at hv;have hn:n=rows.length:=by simp at hv;exact hv.2.1
    rw[hx,hb];refine⟨by simp[hn],fun _=>?_⟩;cases A with|none=>rfl|some ad=>simp[add_zero']);have he:bY rows 0 (List.replicate (rows.length-0) (z.cells.toList.map su))=List.replicate rows.length (z.cells.toList.map su):=by simp[bY]
   rw[he]at this;exact this
  ·cases hs|sub t' e1 lo hi'=>
  simp only[B6,q63]at hs;obtain⟨⟨e',rows⟩,har,hs⟩:=hs;split at hs
  ·rename_i hee;obtain⟨hee,hee1⟩:=hee;simp only at hee;subst hee hee1;cases hs;have hc:=bK har;obtain⟨inf1,Ad,Ad1,n,c,hdt,hi1,hbt,g1,g2,g3,g4,g5,hx⟩:=hX.gE;have hinf:inf1=i:=by rw[hi]at hi1;injection hi1 with hi1;exact hi1.symm
   subst hinf;obtain⟨inf',xs,hinf',hown,_⟩:=h.heap.arr hc;obtain⟨A',c',hv,_⟩:=cC hown;have hn:n=rows.length:=by rw[hbt]at hv;simp at hv;exact hv.2.1
   subst hn;have:=main t' lo hi' rows Ad1 hc g1 g2 (fun A n c' hb=>by
    rw[hbt]at hb;have h3:Ad=A∧rows.length=n∧c=c':=by simpa using hb
    obtain⟨rfl,rfl,rfl⟩:=h3;exact⟨hx,g5⟩);have he:bY rows lo (List.replicate (hi'-lo) (z.cells.toList.map su))=rows.take lo++List.replicate (hi'-lo) (z.cells.toList.map su)++rows.drop hi':=by simp only[bY,q215];rw[show lo+(hi'-lo)=hi' from by omega]
   rw[he]at this;exact this
  ·cases hs|_=>simp[B6]at hs
end
section
variable{P:Program}{S:Nat→Prop}{w:World}{β:Nat→Value}{D D':Nat→Prop}{t:Nat}
theorem RV.qe {v:Value}{x:AV} (hD:∀s,D s→s≠t→D' s) (hx:qe t x) (h:RV P S w β D v x):RV P S w β D' v x:=by cases h with
 |pv v p h=>exact .pv _ _ h|own s h=>exact .own s (hD s h hx)|ptr s o b h hb=>exact .ptr s o b (hD s h hx) hb|bd s e i o b n c inf h hi hb=>exact .bd s e i o b n c inf (hD s h hx) hi hb|sub v s e lo hi inf A A1 n c h hi' hb h1 h2 h3 h4 h5 hv=>exact .sub _ s e lo hi inf A A1 n c (hD s h hx) hi' hb h1 h2 h3 h4 h5 hv|rp ad cs us h1 h2 h3 h4=>exact .rp ad cs us h1 h2 h3 h4|agg cs us hl h=>exact hx.elim|aO cs us hl h=>exact hx.elim|bE f cs us hl h=>cases cs with|nil=>exact .bE f [] us hl fun i c u hc=>by simp at hc|cons c cs=>exact hx.elim
 |cp g v av h=>exact hx.elim|aw v=>exact .aw _
theorem qH:∀{cs:List AV},uI t cs→∀(i:Nat) (c:AV),cs[i]?=some c→Ab.qe t c|[],_,i,c,hc=>by simp at hc|x::cs,h,0,c,hc=>by simp only[q69,qr]at hc;subst hc;exact h.1|x::cs,h,i+1,c,hc=>qH h.2 i c (by simpa using hc)
theorem RV.uo {v:Value}{x:AV} (hD:∀s,D s→s≠t→D' s) (hx:uo t x) (h:RV P S w β D v x):RV P S w β D' v x:=by cases h with|agg cs us hl h=>exact .agg cs us hl fun i c u hc hu=>(h i c u hc hu).qe hD (qH hx i c hc)|bE f cs us hl h=>exact .bE f cs us hl fun i c u hc hu=>(h i c u hc hu).qe hD (qH hx i c hc)|pv v p h=>exact .pv _ _ h|own s h=>exact RV.qe (x:=.own s) hD hx (.own s h)|ptr s o b h hb=>exact RV.qe (x:=.ptr s o) hD hx (.ptr s o b h hb)|bd s e i o b n c inf h hi hb=>exact RV.qe (x:=.bd s e i o) hD hx (.bd s e i o b n c inf h hi hb)|sub v s e lo hi inf A A1 n c h hi' hb h1 h2 h3 h4 h5 hv=>exact RV.qe (x:=.sub s e lo hi) hD hx (.sub v s e lo hi inf A A1 n c h hi' hb h1 h2 h3 h4 h5 hv)|rp ad cs us h1 h2 h3 h4=>exact .rp ad cs us h1 h2 h3 h4|aO cs us hl h=>exact hx.elim|cp g v av h=>exact hx.elim|aw v=>exact .aw _
theorem ua:∀{vs:List AV},lU.nQ t vs→∀(i:Nat) (v:AV),vs[i]?=some v→Ab.uo t v|[],_,i,c,hc=>by simp at hc|x::cs,h,0,c,hc=>by simp only[q69,qr]at hc;subst hc;exact h.1|x::cs,h,i+1,c,hc=>ua h.2 i c (by simpa using hc)
theorem xD:∀{vs:List AV}{p:Nat},lU t p vs→∀(i:Nat) (v:AV),i≠p→vs[i]?=some v→Ab.uo t v|[],_,_,i,c,_,hc=>by simp at hc|x::cs,0,h,0,c,hne,hc=>absurd rfl hne|x::cs,0,h,i+1,c,hne,hc=>ua h i c (by simpa using hc)|x::cs,p+1,h,0,c,hne,hc=>by simp only[q69,qr]at hc;subst hc;exact h.1|x::cs,p+1,h,i+1,c,hne,hc=>xD h.2 i c (by omega) (by simpa using hc)
variable{aa:Nat→Option AO}
theorem qh {m:AV}:∀{p:Nat}{xs ys:List AV},rM aa m p xs=some ys→p<xs.length→ys.length=xs.length∧ys[p]?=some m∧∀(i:Nat) (y:AV),i≠p→ys[i]?=some y→∃x,xs[i]?=some x∧pf aa x=some y
 |_,[],_,_,hp=>by simp at hp|0,x::xs,ys,h,_=>by simp only[rM,q0]at h;obtain⟨zs,hz,rfl⟩:=h;obtain⟨h1,h2⟩:=oV xs zs hz;refine⟨by simp[h1],rfl,fun i y hne hy=>?_⟩;cases i with|zero=>exact absurd rfl hne|succ i=>obtain⟨c,hc,hr⟩:=h2 i y (by simpa using hy);exact⟨c,by simpa using hc,hr⟩
 |p+1,x::xs,ys,h,hp=>by simp only[rM,q63,q0]at h;obtain⟨y0,hy0,zs,hz,rfl⟩:=h;obtain⟨h1,h2,h3⟩:=qh hz (by simpa using hp);refine⟨by simp[h1],by simpa using h2,fun i y hne hy=>?_⟩;cases i with|zero=>simp only[q69,qr]at hy;subst hy;exact⟨x,rfl,hy0⟩|succ i=>obtain⟨c,hc,hr⟩:=h3 i y (by omega) (by simpa using hy);exact⟨c,by simpa using hc,hr⟩
theorem uG:∀{p:Nat}{xs:List AV},jQ p xs=true→∀(i:Nat) (x:AV),i≠p→xs[i]?=some x→eC x=true|_,[],_,i,c,_,hc=>by simp at hc|0,x::xs,h,0,c,hne,hc=>absurd rfl hne|0,x::xs,h,i+1,c,hne,hc=>qC xs i c h (by simpa using hc)|p+1,x::xs,h,0,c,hne,hc=>by simp only[jQ,q73]at h;simp only[q69,qr]at hc;subst hc;exact h.1|p+1,x::xs,h,i+1,c,hne,hc=>by simp only[jQ,q73]at h;exact uG h.2 i c (by omega) (by simpa using hc)
theorem kH {x y:AV} (h:pf aa x=some y):Hk y=y∧(∀e rows,y≠.fr e rows)∧∀e rows,y≠.aO [.fr e rows]:=by
 have hpv:∀{o:Option PV},o.map AV.pv=some y→∃p,y=.pv p:=fun h=>by obtain⟨p,_,rfl⟩:=q0.1 h;exact⟨p,rfl⟩
 have key:(∃p,y=.pv p)∨(∃cs,y=.rp cs)∨(∃cs,y=.agg cs)∨∃f cs,y=.bE f cs:=by
  have h1:∀{x y:AV},fv aa x=some y→(∃p,y=.pv p)∨(∃cs,y=.rp cs)∨(∃cs,y=.agg cs)∨∃f cs,y=.bE f cs:=by
   intro x y h;unfold fv at h;split at h;·obtain⟨cs,_,h⟩:=q63.1 h;obtain⟨ps,_,rfl⟩:=q0.1 h;exact .inr (.inl ⟨_,rfl⟩)
   ·cases h;exact .inr (.inl ⟨_,rfl⟩)
   ·obtain⟨ps,_,rfl⟩:=q0.1 h;exact .inr (.inr (.inl ⟨_,rfl⟩))
   ·cases h;exact .inr (.inr (.inr ⟨_,_,rfl⟩))
   ·obtain⟨p,_,rfl⟩:=q0.1 h;exact .inl ⟨_,rfl⟩
  unfold pf at h;split at h;·obtain⟨ps,_,rfl⟩:=q0.1 h;exact .inr (.inr (.inr ⟨_,_,rfl⟩))
  ·exact h1 h
 rcases key with⟨p,rfl⟩|⟨cs,rfl⟩|⟨cs,rfl⟩|⟨f,cs,rfl⟩<;>exact⟨rfl,(fun e rows h=>by cases h),(fun e rows h=>by cases h)⟩
theorem rJ {x:AV} (h:pf aa x=some .aw):False:=by
 have hpv:∀{o:Option PV},¬o.map AV.pv=some .aw:=fun h=>by obtain⟨p,_,h⟩:=q0.1 h;cases h
 have h1:∀{x:AV},¬fv aa x=some .aw:=by
  intro x h;unfold fv at h;split at h;·obtain⟨cs,_,h⟩:=q63.1 h;obtain⟨ps,_,h⟩:=q0.1 h;cases h
  ·cases h
  ·obtain⟨ps,_,h⟩:=q0.1 h;cases h
  ·cases h
  ·exact hpv h
 unfold pf at h;split at h;·obtain⟨ps,_,h⟩:=q0.1 h;cases h
 ·exact h1 h
theorem Br {e:TypeId}{rows:List (List PV)}{k:Nat} (hk:k=998∨k=999):∀{ys:List AV}{p:Nat},ys[p]?=some (wQ k e rows)→(∀(i:Nat) (y:AV),i≠p→ys[i]?=some y→(∀e rows,y≠.fr e rows)∧∀e rows,y≠.aO [.fr e rows])→mO ys=[(k,.arr e rows)]
 |[],p,h,_=>by simp at h|y::ys,0,h,ho=>by simp only[q69,qr]at h;subst h;rcases hk with rfl|rfl<;>rfl|y::ys,p+1,h,ho=>by
  have h0:=ho 0 y (by omega) rfl;have ih:=Br hk (ys:=ys) (p:=p) (by simpa using h) (fun i z hne hz=>ho (i+1) z (by omega) (by simpa using hz));unfold mO;split;·rename_i e;cases e
  ·rename_i e1 r1 _ e;cases e;exact absurd rfl (h0.1 _ _)
  ·rename_i e1 r1 _ e;cases e;exact absurd rfl (h0.2 _ _)
  ·rename_i e;cases e;exact ih
end
section
variable{P:Program}{S0 L:Nat→Prop}{B0:Nat→Value}{w0 w:World}{N:Nat}{st:St}{a:Act}{β:Nat→Value}
theorem xW (h:Rel P S0 L B0 w0 N st a w β) {k t:Nat}{e:TypeId}{v:Value} (hX:RV P (aZ S0 w0.heap.size β st.aa w) w β (aG st.aa) v X) (hs:gx st.aa k X=some (t,e,rows)):∃rows0,st.aa t=some (.arr e rows0)∧cr v=cr (β t)∧(k=999→v=β t)∧∃inf us,P.info? e=some inf∧w.ownsRow 0 e inf.size v rows.length us∧(∀r,r∈rows→r.length=inf.size)∧∀(i j:Nat) (r:List PV) (p:PV),rows[i]?=some r→r[j]?=some p→∃u,us[i*inf.size+j]?=some u∧u.oneCell'=true∧dt (aZ S0 w0.heap.size β st.aa w) w u p:=by cases X with
 |own t'=>simp only[gx,q0]at hs;obtain⟨⟨e',rows'⟩,har,he⟩:=hs;simp only[q70]at he;obtain⟨rfl,rfl,rfl⟩:=he;obtain⟨inf,us,hi,hown,hrl,hcs⟩:=h.heap.arr (bK har);have hv:=hX.aX.1;subst hv;exact⟨rows',bK har,rfl,fun _=>rfl,inf,us,hi,hown,hrl,hcs⟩|sub t' e1 lo hi=>cases lo with|succ lo=>simp[gx]at hs|zero=>
   simp only[gx]at hs;split at hs
   ·rename_i hk;obtain⟨⟨e',rows'⟩,har,hs⟩:=q63.1 hs;split at hs
    ·rename_i hee;simp only at hee;subst hee;simp only[qr,q70]at hs;obtain⟨rfl,rfl,rfl⟩:=hs;obtain⟨inf,us,hi',hown,hrl,hcs⟩:=h.heap.arr (bK har);obtain⟨inf1,Ad,Ad1,n,c,hdt,hi1,hbt,g1,g2,g3,g4,g5,hx⟩:=hX.gE;obtain⟨A',c',hv,_⟩:=cC hown;have hn:n=rows'.length:=by rw[hbt]at hv;simp at hv;exact hv.2.1
     subst hn;have hA:=g4 rfl;subst hA;have hlen:(rows'.take hi).length=hi:=by rw[q67];omega
     simp only[q277]at hx;refine⟨rows',bK har,?_,fun hk9=>by omega,inf,us.take (hi*inf.size),hi',?_,fun r hr=>hrl r (q107 hr),fun i j r p hr hp=>?_⟩;·rw[hx,hbt];cases Ad1<;>rfl
     ·rw[hlen,hx];exact kT hown g2 hbt
     ·have hi2:i<hi:=by rw[←hlen];exact(q65.1 hr).1
      rw[q81,if_pos hi2]at hr;obtain⟨u,hu,h1,h2⟩:=hcs i j r p hr hp;have hj:j<inf.size:=by rw[←hrl r (List.mem_of_getElem? hr)];exact(q65.1 hp).1
      have hlt:i*inf.size+j<hi*inf.size:=by have:=q86 inf.size (show i+1≤hi from hi2);rw[q118]at this;omega
      exact⟨u,by rw[q81,if_pos hlt];exact hu,h1,h2⟩
    ·cases hs
   ·cases hs|_=>simp[gx]at hs
theorem qA (h:cY r=true):dC (cellAt r 999)=none:=by cases r with|aO vs=>simp only[cY,q73,decide_eq_true_eq]at h;simp only[cellAt,show 999%1000=999 from rfl];rw[q132 (by omega)];rfl|_=>rfl
theorem wH {aa:Nat→Option AO}:∀{p:Nat}{xs ys:List AV},rG aa p xs=some ys→ys.length=xs.length∧∀(i:Nat) (y:AV),ys[i]?=some y→∃c,xs[i]?=some c∧(pf aa c=some y∨(c=.pv .nil∧y=.pv .nil))
 |p,[],ys,h=>by
  have:ys=[]:=by cases p<;>(simp[rG]at h;exact h)
  subst this;exact⟨rfl,fun i y hy=>by simp at hy⟩|0,x::xs,ys,h=>by
  unfold rG at h;split at h;·rename_i h1;cases h1
  ·rename_i vs h1;cases h1;obtain⟨zs,hz,rfl⟩:=q0.1 h;obtain⟨h1,h2⟩:=oV _ zs hz;refine⟨by simp[h1],fun i y hy=>?_⟩;cases i with|zero=>simp at hy;subst hy;exact⟨_,rfl,.inr ⟨rfl,rfl⟩⟩|succ i=>obtain⟨c,h3,h4⟩:=h2 i y (by simpa using hy);exact⟨c,by simpa using h3,.inl h4⟩
  ·cases h
  ·rename_i h1 _;cases h1|p+1,x::xs,ys,h=>by simp only[rG,q63,q0]at h;obtain⟨y0,hy0,zs,hz,rfl⟩:=h;obtain⟨h1,h2⟩:=wH hz;refine⟨by simp[h1],fun i y hy=>?_⟩;cases i with|zero=>simp at hy;subst hy;exact⟨_,rfl,.inl hy0⟩|succ i=>obtain⟨c,h3,h4⟩:=h2 i y (by simpa using hy);exact⟨c,by simpa using h3,h4⟩
theorem FF {aa:Nat→Option AO}{ys xs:List AV} (hg:∀(i:Nat) (y:AV),ys[i]?=some y→∃c,xs[i]?=some c∧(pf aa c=some y∨(c=.pv .nil∧y=.pv .nil))):∀y∈ys,Hk y=y∧(∀e rows,y≠.fr e rows)∧∀e rows,y≠.aO [.fr e rows]:=by
 intro y hy;obtain⟨i,hi⟩:=q101 hy;obtain⟨c,_,h|⟨_,rfl⟩⟩:=hg i y hi;·exact kH h
 ·exact⟨rfl,(fun e rows h=>by cases h),fun e rows h=>by cases h⟩
theorem Bv:∀{ys:List AV},(∀y∈ys,(∀e rows,y≠.fr e rows)∧∀e rows,y≠.aO [.fr e rows])→mO ys=[]
 |[],_=>rfl|y::ys,h=>by
  have ih:=Bv (ys:=ys) fun z hz=>h z (by simp[hz]);obtain⟨h1,h2⟩:=h y (by simp);unfold mO;split;·rfl
  ·rename_i e rows l h3;cases h3;exact absurd rfl (h1 _ _)
  ·rename_i e rows l h3;cases h3;exact absurd rfl (h2 _ _)
  ·rename_i h3;cases h3;exact ih
theorem AD  (hm:∀y∈ys,Hk y=y∧(∀e rows,y≠.fr e rows)∧∀e rows,y≠.aO [.fr e rows]) (hres:cY r=true) (h:Cz P f ys r):sO P f [] ys [] r:=by
 have h0:mO ys=[]:=Bv fun y hy=>(hm y hy).2;have h1:ys.map Hk=ys:=by rw[List.map_congr_left fun y hy=>(hm y hy).1];simp
 have h2:b9 r=r∧ep r=[]:=by cases r with|bE f cs=>simp[cY,mn,iL]at hres|_=>exact⟨rfl,rfl⟩
 intro w S0 β vals a1 a2 a3 a4 a5;have hnl:∀b,¬live β (ab []) b:=fun b ⟨t,o,ho,_⟩=>by simp[ab]at ho
 have hS:(fun b=>S0 b∨live β (ab []) b)=S0:=by funext b;apply propext;exact⟨fun h=>h.resolve_right (hnl b),.inl⟩
 have h:=h w S0 β vals a1 (by rw[h0];exact a2) (by rw[h0];exact a3) a4 (by rw[h0,h1];exact a5);rw[h0,h2.1,h2.2,hS]at h;refine h.mono ?_;rintro e w' ⟨v,β',r1,r2,r3,r4,_,r5⟩;exact⟨v,β',r1,r2,r3,r4,r5⟩
theorem AG (hL:∀b,L b→S0 b) (h:Rel P S0 L B0 w0 N st a w β) {d:Nat} (hd9:d%1000≠999) {xs ys:List AV}{x X:AV}{p k t:Nat}{e:TypeId} (hk:k=998∨k=999) (hl:vals.length=xs.length) (hv:∀(i:Nat) (v:Value) (x:AV),vals[i]?=some v→xs[i]?=some x→RV P (aZ S0 w0.heap.size β st.aa w) w β (aG st.aa) v x) (hp:xs[p]?=some X) (hh:gx st.aa k X=some (t,e,rows)) (hoff:lU t p xs) (hre:rM (gb t st.aa) (wQ k e rows) p xs=some ys) (hcon:Cz P f ys x) (hpf:jQ p xs=true∨(flat (b9 x)∧pb (ep x))) (hfree:∀y∈aT d (b9 x),st.aa y.1=none) (hres:cY (b9 x)=true):Calls P f vals.toArray w fun e w'=>∃v β',e=.returned v∧Rel P S0 L B0 w0 N ⟨ie t x st.vars,bG (aT d (b9 x)) (cN t x st.aa)⟩ a w' β'∧RV P (aZ S0 w0.heap.size β' (bG (aT d (b9 x)) (cN t x st.aa)) w') w' β' (aG (bG (aT d (b9 x)) (cN t x st.aa))) v (cS (lP d) (b9 x)):=by
 have htup:=tK _ hres;have hpl:p<xs.length:=(q65.1 hp).1;have hvp:vals[p]?=some vals[p]:=q64 (by omega);generalize hvpe:vals[p]'(by omega)=vp at hvp;obtain⟨rows0,hot,hblk,hvpin,inf,us,hi,hown,hrl,hcs⟩:=xW h (hv p vp X hvp hp) hh;obtain⟨hyl,hyp,hyo⟩:=qh hre hpl;have hdt:aG st.aa t:=⟨_,hot⟩;have hmk:mO ys=[(k,.arr e rows)]:=Br hk hyp fun i y hne hy=>by obtain⟨z,_,hr⟩:=hyo i y hne hy;exact(kH hr).2
 obtain⟨inf0,us0,hi0,hown0,hrl0,hcs0⟩:=h.heap.holds t _ hot;have hnp:∀b,β t≠.pointer (some ⟨b,0,none⟩):=(gC hown0).2;have hD1:∀s,aG st.aa s→s≠t→aG (gb t st.aa) s:=fun s hs hne=>c7.2 ⟨hne,hs⟩;have hh1:Heap P (aZ S0 w0.heap.size β st.aa w) w β (gb t st.aa):=by
  refine⟨fun s o hs=>?_,fun s s' b hs hs'=>h.heap.inj s s' b (c7.1 hs).2 (c7.1 hs').2⟩;by_cases e':s=t;·simp[gb,e']at hs
  ·have hs':(st.aa s).map (dY t)=some o:=by simpa[gb,e']using hs
   obtain⟨o',ho',rfl⟩:=q0.1 hs';exact(h.heap.holds s o' ho').kill hnp (fun b hb=>⟨hb,rfl⟩) (fun s hs hne=>⟨hD1 s hs hne,rfl⟩) rfl (fun b hb=>rfl)
 let β0:Nat→Value:=fun _=>vp;have hhin:ab (mO ys)=ab [(k,.arr e rows)]:=by rw[hmk]
 have hlive0:∀b,live β0 (ab (mO ys)) b↔cr (β t)=some b:=by
  intro b;rw[hhin];constructor;·rintro⟨s,o,ho,hb⟩;rw[←hblk];exact hb
  ·intro hb;exact⟨k,.arr e rows,by simp[ab],by rw[←hblk]at hb;exact hb⟩
 have hnl:∀b,aZ S0 w0.heap.size β st.aa w b→¬cr (β t)=some b:=fun b ⟨_,_,h3⟩ hb=>h3 ⟨t,_,hot,hb⟩;obtain⟨S1,hS1,hS1lt,hS1n,hcase⟩:∃S1:Nat→Prop,(∀b,aZ S0 w0.heap.size β st.aa w b→S1 b)∧(∀b,S1 b→b<w.heap.size)∧(∀b,S1 b→¬cr (β t)=some b)∧((jQ p xs=true∧S1=aZ S0 w0.heap.size β st.aa w)∨((flat (b9 x)∧pb (ep x))∧∀b,b<w.heap.size→¬cr (β t)=some b→S1 b)):=by
  rcases hpf with hp|hp;·exact⟨_,fun b hb=>hb,fun b hb=>hb.2.1,hnl,.inl ⟨hp,rfl⟩⟩
  ·exact⟨fun b=>b<w.heap.size∧¬cr (β t)=some b,fun b hb=>⟨hb.2.1,hnl b hb⟩,fun b hb=>hb.1,fun b hb=>hb.2,.inr ⟨hp,fun b h1 h2=>⟨h1,h2⟩⟩⟩
 have hS1eq:∀b,aZ S1 w.heap.size β0 (ab (mO ys)) w b↔S1 b:=by
  intro b;constructor
  ·rintro⟨h1|h1,h2,_⟩;·exact h1
   ·omega
  ·intro hb;exact⟨.inl hb,hS1lt b hb,fun hl=>hS1n b hb ((hlive0 b).1 hl)⟩
 have htlt:∀b,cr (β t)=some b→b<w.heap.size:=fun b hb=>h.lt hdt hb;have hin:∀s o,ab (mO ys) s=some o→s=k∧o=.arr e rows:=by
  intro s o ho;rw[hhin]at ho;simp only[ab]at ho;split at ho;·rename_i e';cases ho;exact⟨e',rfl⟩
  ·cases ho
 have hHin:Heap P (aZ S1 w.heap.size β0 (ab (mO ys)) w) w β0 (ab (mO ys)):=by refine⟨fun s o ho=>?_,fun s s' b ⟨o,ho⟩ ⟨o',ho'⟩ _ _=>(hin s o ho).1.trans (hin s' o' ho').1.symm⟩;obtain⟨rfl,rfl⟩:=hin s o ho;refine⟨inf,us,hi,hown,hrl,fun i j r q h1 h2=>?_⟩;obtain⟨u,hu,h3,h4⟩:=hcs i j r q h1 h2;exact⟨u,hu,h3,h4.mono fun b hb=>⟨(hS1eq b).2 (hS1 b hb),rfl⟩⟩
 refine(hcon w S1 β0 vals hS1lt (fun s b _ hb=>htlt b (by rw[←hblk];exact hb)) hHin (by omega) (fun i v y hvi hyi=>?_)).mono ?_
 ·rw[q77,q0]at hyi;obtain⟨z,hz,rfl⟩:=hyi;by_cases hip:i=p
  ·subst hip;rw[hyp]at hz;injection hz with hz;subst hz;rw[hvp]at hvi;injection hvi with hvi;subst hvi;have hdk:aG (ab (mO ys)) k:=⟨.arr e rows,by rw[hhin];simp[ab]⟩;rcases hk with rfl|rfl;·exact .own 998 hdk
   ·exact .own 999 hdk
  ·obtain⟨X',hX',hrx⟩:=hyo i z hip hz;rw[(kH hrx).1];refine qW hh1 (fun b hb=>(hS1eq b).2 (hS1 b hb)) ((hv i v X' hvi hX').uo hD1 (xD hoff i X' hip hX')) hrx ?_;rcases hcase with⟨hpu,_⟩|⟨_,hall⟩;·exact .inl (uG hpu i X' hip hX')
   ·refine .inr fun s b hs hb=>(hS1eq b).2 (hall b (h.lt (c7.1 hs).2 hb) fun hbt=>(c7.1 hs).1 (h.heap.inj s t b (c7.1 hs).2 hdt hb hbt))
 ·rintro ee w' ⟨v,β1,rfl,hfr,hheap,hnew,hpinned,hrv⟩;have hout:ep x=[]∨∃e' rows',ep x=[(999,.arr e' rows')]:=by
   unfold ep;split;·exact .inr ⟨_,_,rfl⟩
   ·exact .inl rfl
  have hsame:∀b,b<w.heap.size→¬cr (β t)=some b→w'.heap[b]?=w.heap[b]?:=fun b hb hn=>hfr.block b hb fun hl=>hn ((hlive0 b).1 hl);have hobj:cN t x st.aa=(match ep x with|(_,o)::_=>aR t o st.aa|[]=>gb t st.aa):=rfl;have hdomU:∀s,aG (cN t x st.aa) s→aG st.aa s:=by
   intro s hs;rcases hout with ho|⟨e',rows',ho⟩;·rw[hobj,ho]at hs;exact(c7.1 hs).2
   ·rw[hobj,ho]at hs;rcases bU.1 hs with e1|e1;·rw[e1];exact hdt
    ·exact e1
  have hdomU':∀s,aG st.aa s→s≠t→aG (cN t x st.aa) s:=by
   intro s hs hne;rcases hout with ho|⟨e',rows',ho⟩;·rw[hobj,ho];exact hD1 s hs hne
   ·rw[hobj,ho];exact bU.2 (.inr hs)
  have hfreeU:∀y∈aT d (b9 x),cN t x st.aa y.1=none:=by intro y hy;cases hc:cN t x st.aa y.1 with|none=>rfl|some o=>obtain⟨o',ho'⟩:=hdomU y.1 ⟨o,hc⟩;rw[hfree y hy]at ho';cases ho'
  let F:Nat→Option AO:=bC (ab (ep x)) fun t=>dC (cellAt (b9 x) t);have hFp:∀q o,dC (cellAt (b9 x) q)=some o→F q=some o:=by
   intro q o hq;rcases hout with ho|⟨e',rows',ho⟩;·simp only[F,ho,bC,ab];exact hq
   ·simp only[F,ho,bC,ab];have:q≠999:=by rintro rfl;rw[qA hres]at hq;cases hq
    rw[if_neg this];exact hq
  let β2:Nat→Value:=fun s=>match ab (aT d (b9 x)) s with|some _=>β1 ((s-d)/1000)|none=>β s;have hβnew:∀q o,dC (cellAt (b9 x) q)=some o→β2 (d+1000*q)=β1 q:=fun q o hq=>by simp only[β2,fw d (b9 x) htup,hq];congr 1;omega
  have hβold:∀s,aG st.aa s→β2 s=β s:=fun s ⟨o,ho⟩=>by cases hlk:ab (aT d (b9 x)) s with|none=>simp only[β2,hlk]|some o'=>obtain⟨z,hz,rfl⟩:=iJ _ _ _ hlk;rw[hfree z hz]at ho;cases ho
  have hlook2:∀s,bG (aT d (b9 x)) (cN t x st.aa) s=match ab (aT d (b9 x)) s with|some o=>some o|none=>cN t x st.aa s:=fun s=>rfl;have hdomNew:∀q o,dC (cellAt (b9 x) q)=some o→bG (aT d (b9 x)) (cN t x st.aa) (d+1000*q)=some o:=fun q o hq=>by rw[hlook2,fw d (b9 x) htup,hq]
  have hdomOld:∀s o,cN t x st.aa s=some o→bG (aT d (b9 x)) (cN t x st.aa) s=some o:=fun s o ho=>by rw[hlook2];cases hlk:ab (aT d (b9 x)) s with|none=>exact ho|some o'=>obtain⟨z,hz,rfl⟩:=iJ _ _ _ hlk;rw[hfreeU z hz]at ho;cases ho
  have hcases:∀s o,bG (aT d (b9 x)) (cN t x st.aa) s=some o→(∃q,s=d+1000*q∧dC (cellAt (b9 x) q)=some o)∨(cN t x st.aa s=some o∧ab (aT d (b9 x)) s=none):=fun s o ho=>by rw[hlook2]at ho;cases hlk:ab (aT d (b9 x)) s with|none=>rw[hlk]at ho;exact .inr ⟨ho,rfl⟩|some o'=>rw[hlk]at ho;injection ho with ho;subst ho;obtain⟨q,rfl⟩:=ud d (b9 x) s hlk;rw[fw d (b9 x) htup]at hlk;exact .inl ⟨q,rfl,hlk⟩
  have hback:∀o,cN t x st.aa t=some o→ep x=[(999,o)]:=by
   intro o ho;rcases hout with h1|⟨e',rows',h1⟩;·rw[hobj,h1]at ho;simp[gb]at ho
   ·rw[hobj,h1]at ho;simp only[aR,if_true,qr]at ho;rw[h1,ho]
  have hkeep:∀s o,cN t x st.aa s=some o→s≠t→∃o0,st.aa s=some o0∧(o=o0∨(ep x=[]∧o=dY t o0)):=by
   intro s o ho hne;rcases hout with h1|⟨e',rows',h1⟩
   ·rw[hobj,h1]at ho;have:(st.aa s).map (dY t)=some o:=by simpa[gb,hne]using ho
    obtain⟨o',ho',rfl⟩:=q0.1 this;exact⟨o',ho',.inr ⟨h1,rfl⟩⟩
   ·rw[hobj,h1]at ho;exact⟨o,by simpa[aR,hne]using ho,.inl rfl⟩
  have hFt:∀o,cN t x st.aa t=some o→F 999=some o∧β1 999=vp∧vp=β t:=by intro o ho;have h1:=hback o ho;have hd:aG (ab (ep x)) 999:=⟨o,by rw[h1];simp[ab]⟩;obtain⟨hd2,hb⟩:=hpinned 999 hd;obtain⟨o2,ho2⟩:=hd2;obtain⟨rfl,_⟩:=hin 999 o2 ho2;exact⟨by simp only[F,h1,bC,ab];simp,hb,hvpin rfl⟩
  have hnewF:∀q o b,F q=some o→cr (β1 q)=some b→w.heap.size≤b∨cr (β t)=some b:=fun q o b hq hb=>by
   rcases hnew q b ⟨o,hq⟩ hb with h1|h1;·exact .inl h1
   ·exact .inr ((hlive0 b).1 h1)
  have hapart:∀q o b,dC (cellAt (b9 x) q)=some o→cr (β1 q)=some b→cr (β t)=some b→∀o',cN t x st.aa t≠some o':=by intro q o b hq hb hbt o' ho';obtain⟨h1,h2,h3⟩:=hFt o' ho';have:=hheap.inj q 999 b ⟨o,hFp q o hq⟩ ⟨o',h1⟩ hb (by rw[h2,h3];exact hbt);subst this;rw[qA hres]at hq;cases hq
  have hblk2:∀s o b,bG (aT d (b9 x)) (cN t x st.aa) s=some o→cr (β2 s)=some b→(∃q,s=d+1000*q∧dC (cellAt (b9 x) q)=some o∧cr (β1 q)=some b)∨(aG st.aa s∧cN t x st.aa s=some o∧cr (β s)=some b):=by
   intro s o b ho hb;rcases hcases s o ho with⟨q,rfl,hq⟩|⟨h1,_⟩;·rw[hβnew q o hq]at hb;exact .inl ⟨q,rfl,hq,hb⟩
   ·have hs:=hdomU s ⟨o,h1⟩;rw[hβold s hs]at hb;exact .inr ⟨hs,h1,hb⟩
  have hm:∀b,aZ S0 w0.heap.size β st.aa w b→aZ S0 w0.heap.size β2 (bG (aT d (b9 x)) (cN t x st.aa)) w' b∧w'.heap[b]?=w.heap[b]?:=by
   rintro b hb0;obtain⟨h1,h2,h3⟩:=hb0;refine⟨⟨h1,q95 h2 hfr.size,?_⟩,hsame b h2 fun hbt=>h3 ⟨t,_,hot,hbt⟩⟩;rintro⟨s,o,ho,hb⟩;rcases hblk2 s o b ho hb with⟨q,rfl,hq,hb1⟩|⟨⟨o',ho'⟩,_,hb1⟩
   ·rcases hnewF q o b (hFp q o hq) hb1 with h4|h4;·omega
    ·exact h3 ⟨t,_,hot,h4⟩
   ·exact h3 ⟨s,o',ho',hb1⟩
  have hD:∀s,aG st.aa s→s≠t→aG (bG (aT d (b9 x)) (cN t x st.aa)) s∧β2 s=β s:=fun s hs hne=>by obtain⟨o,ho⟩:=hdomU' s hs hne;exact⟨⟨o,hdomOld s o ho⟩,hβold s hs⟩
  have hcalS:jQ p xs=true→S1=aZ S0 w0.heap.size β st.aa w→∀b,aZ (fun b=>S1 b∨live β0 (ab (mO ys)) b) w.heap.size β1 F w' b→aZ S0 w0.heap.size β2 (bG (aT d (b9 x)) (cN t x st.aa)) w' b∧w'.heap[b]?=w'.heap[b]?:=by
   rintro _ hSe b ⟨h1,h2,h3⟩;refine⟨⟨?_,h2,?_⟩,rfl⟩
   ·rcases h1 with(h1|h1)|h1;·rw[hSe]at h1;exact h1.1
    ·rcases h.old t b hdt ((hlive0 b).1 h1) with h4|h4;·exact .inr h4
     ·exact .inl (hL b h4)
    ·have:=h.bZ.size;exact .inr (by omega)
   ·rintro⟨s,o,ho,hb⟩;rcases hblk2 s o b ho hb with⟨q,rfl,hq,hb1⟩|⟨⟨o',ho'⟩,hou,hb1⟩;·exact h3 ⟨q,o,hFp q o hq,hb1⟩
    ·by_cases hst:s=t;·subst hst;obtain⟨g1,g2,g3⟩:=hFt o hou;exact h3 ⟨999,o,g1,by rw[g2,g3];exact hb1⟩
     ·rcases h1 with(h1|h1)|h1;·rw[hSe]at h1;exact h1.2.2 ⟨s,o',ho',hb1⟩
      ·exact hst (h.heap.inj s t b ⟨o',ho'⟩ hdt hb1 ((hlive0 b).1 h1))
      ·have:=h.lt ⟨o',ho'⟩ hb1;omega
  have hconv:∀(u:Value) (q:PV),dt (aZ (fun b=>S1 b∨live β0 (ab (mO ys)) b) w.heap.size β1 F w') w' u q→((flat (b9 x)∧pb (ep x))→il q=true)→dt (aZ S0 w0.heap.size β2 (bG (aT d (b9 x)) (cN t x st.aa)) w') w' u q:=by
   intro u q hu hfl;rcases hcase with⟨hpu,hSe⟩|⟨hf,_⟩;·exact hu.mono (hcalS hpu hSe)
   ·exact fy hu (hfl hf)
  have hvars:∀s,RV P (aZ S0 w0.heap.size β2 (bG (aT d (b9 x)) (cN t x st.aa)) w') w' β2 (aG (bG (aT d (b9 x)) (cN t x st.aa))) (a.tmps.getD s undef) (ie t x st.vars s):=by
   intro s;rcases hout with h1|⟨e',rows',h1⟩
   ·have:ie t x st.vars=cE t st.vars:=by unfold ie;rw[h1]
    rw[this];exact(h.vars s).kill hnp hm hD
   ·have:ie t x st.vars=st.vars:=by unfold ie;rw[h1]
    rw[this];refine(h.vars s).mono hm fun s' hs'=>?_;by_cases hst:s'=t;·subst hst;exact⟨⟨.arr e' rows',hdomOld _ _ (by rw[hobj,h1];simp[aR])⟩,hβold _ hs'⟩
    ·exact hD s' hs' hst
  have hrel:Rel P S0 L B0 w0 N ⟨ie t x st.vars,bG (aT d (b9 x)) (cN t x st.aa)⟩ a w' β2:=by
   refine⟨h.size,h.defers,hvars,⟨fun s o ho=>?_,fun s s' b hs hs' hb hb'=>?_⟩,fun s b hs hb=>?_,h.qb,fun s h9 hs=>?_,?_⟩;·
    have harr:∀(q s:Nat) (o:AO),F q=some o→β2 s=β1 q→((∀cs,o≠.box cs)∧(∀es,o≠.map es)∧(∀e cs,o≠.rws e cs)∧(∀es,o≠.iB es)∧∀r c,o≠.nS r c)→((flat (b9 x)∧pb (ep x))→∀e' rows',o=.arr e' rows'→bp rows')→bz P (aZ S0 w0.heap.size β2 (bG (aT d (b9 x)) (cN t x st.aa)) w') w' β2 (aG (bG (aT d (b9 x)) (cN t x st.aa))) s o:=by intro q s o hq hβ hnb hfl;have hho:=hheap.holds q o hq;cases o with|box cs=>exact absurd rfl (hnb.1 cs)|map es=>exact absurd rfl (hnb.2.1 es)|rws e cs=>exact absurd rfl (hnb.2.2.1 e cs)|iB es=>exact absurd rfl (hnb.2.2.2.1 es)|nS r c=>exact absurd rfl (hnb.2.2.2.2 r c)|arr e' rows'=>obtain⟨inf',us',hi',hown',hrl',hcs'⟩:=hho;refine⟨inf',us',hi',by rw[hβ];exact hown',hrl',fun i j row q h1 h2=>?_⟩;obtain⟨u,hu,h3,h4⟩:=hcs' i j row q h1 h2;exact⟨u,hu,h3,hconv u q h4 fun hf=>hfl hf _ _ rfl row (List.mem_of_getElem? h1) q (List.mem_of_getElem? h2)⟩
    rcases hcases s o ho with⟨q,rfl,hq⟩|⟨h1,_⟩
    ·refine harr q _ o (hFp q o hq) (hβnew q o hq) ?_ ?_
     ·refine⟨?_,?_,?_,?_,?_⟩;·rintro cs rfl;unfold dC at hq;split at hq<;>cases hq
      ·rintro cs rfl;unfold dC at hq;split at hq<;>cases hq
      ·rintro e cs rfl;unfold dC at hq;split at hq<;>cases hq
      ·rintro cs rfl;unfold dC at hq;split at hq<;>cases hq
      ·rintro e cs rfl;unfold dC at hq;split at hq<;>cases hq
     ·rintro⟨hf,_⟩ e' rows' rfl;have hcell:∃e',cellAt (b9 x) q=some (.fr e' rows'):=by
       unfold dC at hq;split at hq;·rename_i e1 rows1 heq;injection hq with hq;injection hq with hq1 hq2;subst hq2;exact⟨e1,heq⟩
       ·cases hq
      obtain⟨e1,hce⟩:=hcell;exact(iF (b9 x) q _ hf hce:bp rows')
    ·by_cases hst:s=t
     ·subst hst;obtain⟨g1,g2,g3⟩:=hFt o h1;have hbk:=hback o h1;refine harr 999 _ o g1 (by rw[hβold _ hdt,g2,g3]) ?_ ?_
      ·refine⟨?_,?_,?_,?_,?_⟩
       ·rintro cs rfl;rcases hout with h5|⟨e',rows',h5⟩;·rw[h5]at hbk;cases hbk
        ·rw[h5]at hbk;simp at hbk
       ·rintro cs rfl;rcases hout with h5|⟨e',rows',h5⟩;·rw[h5]at hbk;cases hbk
        ·rw[h5]at hbk;simp at hbk
       ·rintro e cs rfl;rcases hout with h5|⟨e',rows',h5⟩;·rw[h5]at hbk;cases hbk
        ·rw[h5]at hbk;simp at hbk
       ·rintro cs rfl;rcases hout with h5|⟨e',rows',h5⟩;·rw[h5]at hbk;cases hbk
        ·rw[h5]at hbk;simp at hbk
       ·rintro e cs rfl;rcases hout with h5|⟨e',rows',h5⟩;·rw[h5]at hbk;cases hbk
        ·rw[h5]at hbk;simp at hbk
      ·rintro⟨_,hf⟩ e' rows' rfl;rw[hbk]at hf;exact hf.1
     ·obtain⟨o0,ho0,hor⟩:=hkeep s o h1 hst;have hbl:∀b,cr (β s)=some b→w'.heap[b]?=w.heap[b]?:=fun b hb=>hsame b (h.lt ⟨o0,ho0⟩ hb) fun hbt=>hst (h.heap.inj s t b ⟨o0,ho0⟩ hdt hb hbt);rcases hor with rfl|⟨h5,rfl⟩
      ·by_cases hx5:ep x=[];·
        have h6:cN t x st.aa s=some (dY t o):=by rw[hobj,hx5];simp[gb,hst,ho0]
        rw[h1]at h6;injection h6 with h6;rw[h6];exact(h.heap.holds s o ho0).kill hnp hm hD (hβold s ⟨o,ho0⟩) hbl
       ·refine(h.heap.holds s o ho0).mono hm (fun s' hs'=>?_) (hβold s ⟨o,ho0⟩) hbl;by_cases hst':s'=t
        ·subst hst';rcases hout with h5|⟨e',rows',h5⟩;·exact absurd h5 hx5
         ·exact⟨⟨.arr e' rows',hdomOld _ _ (by rw[hobj,h5];simp[aR])⟩,hβold _ hs'⟩
        ·exact hD s' hs' hst'
      ·exact(h.heap.holds s o0 ho0).kill hnp hm hD (hβold s ⟨o0,ho0⟩) hbl
   ·obtain⟨o,ho⟩:=hs;obtain⟨o',ho'⟩:=hs';have hfo:∀(q s:Nat) (o o':AO),dC (cellAt (b9 x) q)=some o→cr (β1 q)=some b→aG st.aa s→cN t x st.aa s=some o'→cr (β s)=some b→False:=by
     intro q s o o' hq hb1 hs hu hb2;rcases hnewF q o b (hFp q o hq) hb1 with h4|h4;·have:=h.lt hs hb2;omega
     ·have:=h.heap.inj s t b hs hdt hb2 h4;subst this;exact hapart q o b hq hb1 h4 o' hu
    rcases hblk2 s o b ho hb with⟨q,rfl,hq,hb1⟩|⟨h1,h2,h3⟩<;>rcases hblk2 s' o' b ho' hb' with⟨q',rfl,hq',hb1'⟩|⟨h1',h2',h3'⟩;·rw[hheap.inj q q' b ⟨o,hFp q o hq⟩ ⟨o',hFp q' o' hq'⟩ hb1 hb1']
    ·exact(hfo q s' o o' hq hb1 h1' h2' h3').elim
    ·exact(hfo q' s o' o hq' hb1' h1 h2 h3).elim
    ·exact h.heap.inj s s' b h1 h1' h3 h3'
   ·obtain⟨o,ho⟩:=hs;rcases hblk2 s o b ho hb with⟨q,rfl,hq,hb1⟩|⟨h1,_,h3⟩
    ·rcases hnewF q o b (hFp q o hq) hb1 with h4|h4;·have:=h.bZ.size;exact .inl (by omega)
     ·exact h.old t b hdt h4
    ·exact h.old s b h1 h3
   ·obtain⟨o,ho⟩:=hs;rcases hcases s o ho with⟨q,rfl,_⟩|⟨h1,_⟩;·omega
    ·have hs:=hdomU s ⟨o,h1⟩;rw[hβold s hs];exact h.vw s h9 hs
   ·refine⟨hfr.os.trans h.bZ.os,hfr.tape.trans h.bZ.tape,hfr.output.trans h.bZ.output,q113 h.bZ.size hfr.size,fun b h1 h2=>?_⟩;refine(hsame b (by have:=h.bZ.size;omega) fun hbt=>?_).trans (h.bZ.block b h1 h2);rcases h.old t b hdt hbt with h4|h4;·omega
    ·exact h2 h4
  refine⟨v,β2,rfl,hrel,?_⟩;refine kF htup (fun q c u hc hu=>?_) hrv;have hrc:=zI (b9 x) q c hres hc;cases c with
  |fr e' rows'=>
   have hq:dC (cellAt (b9 x) q)=some (.arr e' rows'):=by rw[hc];rfl
   obtain⟨hu1,hu2⟩:=RV.aX (show RV P _ w' β1 _ u (.own q) from hu);rw[hu1,←hβnew q _ hq];exact .own (d+1000*q) ⟨_,hdomNew q _ hq⟩|pv q'=>exact .pv _ _ (hconv u q' hu.bq fun hf=>iF (b9 x) q _ hf.1 hc)|rp cs=>
   rcases hcase with⟨hpu,hSe⟩|⟨hfl,_⟩;·obtain⟨ad,us',rfl,h1,h2,h3,h4⟩:=(show RV P _ w' β1 _ u (.rp cs) from hu).jn;exact .rp ad cs us' (hcalS hpu hSe _ h1).1 h2 h3 (fun j q hq=>(h4 j q hq).mono (hcalS hpu hSe))
   ·exact(iF (b9 x) q _ hfl.1 hc).elim|_=>simp[iL]at hrc
end
section
variable{P:Program}{S0 L:Nat→Prop}{B0:Nat→Value}{w0 w:World}{N:Nat}{st:St}{a:Act}{β:Nat→Value}
theorem Gm {aa objs':Nat→Option AO}{T ks:List Nat}{xs:List AV} (h:BC aa objs' T ks xs=some [.aw]):False:=by
 have hr:∀{x:AV}{r:AV×List Nat},rd 5 aa x=some r→r.1≠.aw:=by
  intro x r h e;unfold rd at h;split at h;·obtain⟨y,hy,rfl⟩:=q0.1 h;simp only at e;subst e;unfold VX at hy;split at hy<;>cases hy
  ·obtain⟨_,_,h⟩:=q63.1 h;obtain⟨_,_,rfl⟩:=q0.1 h;cases e
  ·obtain⟨_,_,rfl⟩:=q0.1 h;cases e
  ·cases h;cases e
  ·cases h;cases e
  ·cases h;cases e
  ·cases h
 match ks,xs with
 |[],[]=>cases h|[],_::_=>cases h|_::_,[]=>cases h|k::ks,x::xs=>
  obtain⟨y,hy,h⟩:=q63.1 h;obtain⟨ys,_,h⟩:=q0.1 h;have e:y=.aw:=by injection h
  subst e;split at hy;·exact rJ hy
  ·split at hy;·obtain⟨r,h1,h2⟩:=q0.1 hy;exact hr h1 h2
   ·obtain⟨r,_,h2⟩:=q0.1 hy;cases h2
theorem noF {n f:Nat} (h0:n≤1000000) (h2:3000000≤f+2000000) (h:f<n):False:=by omega
theorem jD {Γ:bX} (hL:∀b,L b→S0 b) (hΓ:eb P Γ) (h:Rel P S0 L B0 w0 N st a w β) {d:Option Nat} (hd:∀s,d=some s→s<N) (hfn:fF P f=true) {xs:List AV} (hl:vals.length=xs.length) (hv:aq xs→∀(i:Nat) (v:Value) (x:AV),vals[i]?=some v→(xs.map strip)[i]?=some x→RV P (aZ S0 w0.heap.size β st.aa w) w β (aG st.aa) v x) (hs:stepG Γ d f xs (jj Γ f) K st):Calls P f vals.toArray w fun e w'=>∃v β' st',e=.returned v∧K st'∧Rel P S0 L B0 w0 N st' (a.put d v) w' β':=by
 unfold stepG at hs;obtain⟨d,rfl,ha,hs⟩:=ae hs;obtain⟨ks,_,hs⟩:=ae hs;obtain⟨hTn,hQT,hs⟩:=hs;obtain⟨hQn0,hs⟩:=hs;obtain⟨ys,hys,hs⟩:=ae hs;obtain⟨⟨φ,x⟩,hx,hφ,hpf,hs⟩:=ae hs;obtain⟨o,ho,ho1,hs⟩:=ae hs;obtain⟨r,hr,hfree,hK⟩:=ae hs;have hdN:=hd d rfl;have hlim:=h.qb.1;have hcon:Da P f ys x:=by
  rcases hΓ (f+2000000) ys φ x hx hφ with⟨h1,_⟩|⟨_,_,h1,_⟩|⟨_,_,_,h1|h1⟩|⟨h0,h1,_⟩;·exact absurd h1 (q205.2 (q113 (by decide) (q165 2000000 f)))
  ·exact absurd h1 (q205.2 (q165 2000000 f))
  ·subst h1;exact(Gm hys).elim
  ·rw[show f+2000000-2000000=f from q159 _ _]at h1;exact h1
  ·exact(noF h0 h1 (iA hfn)).elim
 have hQn:∀{T Q:List Nat},T.Nodup→Q.Nodup→(∀t∈Q,t∈T)→(Q++pd d T (T.filter fun t=>!Q.contains t)).Nodup:=by
  intro T Q hT hQ hQT;unfold pd;rw[q172,q172];refine⟨hQ,⟨q242 _ (q242 _ hT),q242 _ (rO d),?_⟩,?_⟩;·rintro x hx y hy rfl;have h1:=(q125.1 (q125.1 hx).1).1;have h2:=(q125.1 hy).2;simp at h2;exact h2 h1
  ·rintro x hx y hy rfl;rcases q80.1 hy with hy|hy;·have h2:=(q125.1 (q125.1 hy).1).2;simp at h2;exact h2 hx
   ·have h2:=(q125.1 hy).2;simp at h2;exact h2 (hQT _ hx)
 refine(H5 (a:=a) (fun _=>hL) h (by omega) (by rw[hl,List.length_map]) (hv ha) rfl rfl rfl hTn hQT (hQn hTn hQn0 hQT) hys hcon hpf ho ho1 hr hfree).mono ?_;rintro e w' ⟨v,β',rfl,hR,hrv⟩;exact⟨v,β',_,rfl,hK,hR.put hd hrv⟩
end
end Go.Proofs.YtlicclncicbajaaGreat.Ab
