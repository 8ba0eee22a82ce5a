/- The abstract machine: two operations of one region change places; any order of a region's operations. -/
import Derived.Test.YtlicclncicbajaaGreatY5
set_option linter.unusedVariables false
set_option linter.unusedSimpArgs false
set_option linter.unnecessarySimpa false
set_option maxHeartbeats 40000000
set_option maxRecDepth 100000
namespace Go.Proofs.YtlicclncicbajaaGreat.Ab
open Go Go.RowKit
theorem St.ext' {a b:St} (h1:a.vars=b.vars) (h2:a.aa=b.aa):a=b:=by cases a;cases b;simp only at h1 h2;rw[h1,h2]
theorem oO {d:Option Nat}{v:AV}{f:Nat→AV}{s:Nat} (h:d≠some s):Ab.put d v f s=f s:=by cases d with|none=>rfl|some d=>have:s≠d:=fun e=>h (by rw[e]);simp[Ab.put,this]
theorem put_comm {d d':Option Nat}{v v':AV}{f:Nat→AV} (h:∀s,d=some s→d'≠some s):Ab.put d v (Ab.put d' v' f)=Ab.put d' v' (Ab.put d v f):=by cases d with|none=>rfl|some d=>cases d' with|none=>rfl|some d'=>
 have hne:d'≠d:=fun e=>h d rfl (by rw[e]);funext s;by_cases h1:s=d;·subst h1;simp[Ab.put,hne.symm]
 ·simp[Ab.put,h1]
theorem oF {t:Nat}{d:Option Nat}{v:AV}{f:Nat→AV}:cr t (Ab.put d v f)=Ab.put d (kill t v) (cr t f):=by cases d with|none=>rfl|some d=>
 funext s;by_cases h1:s=d;·simp[cr,Ab.put,h1]
 ·simp[cr,Ab.put,h1]
def ov:bA→Nat→Option AO|.new _ os=>ab os|.vq t o=>fun s=>if s=t then some o else none|_=>fun _=>none
def pQ (f g:Nat→Option AO):Nat→Option AO:=fun t=>match f t with|some o=>some o|none=>g t
def valE:bA→AV|.put v=>v|.new v _=>v|.vq _ _=>.au|.app t _=>.own t
def plain:bA→Prop|.app _ _=>False|_=>True
theorem dR {e:bA}{d:Option Nat}{st:St} (h:plain e):e.on d st=⟨Ab.put d (valE e) st.vars,pQ (ov e) st.aa⟩:=by cases e with|put v=>rfl|new v os=>rfl|vq t o=>refine St.ext' rfl ?_;funext s;by_cases hs:s=t<;>simp[bA.on,pQ,ov,aL,hs]|app t o=>exact h.elim
theorem DR {f g h:Nat→Option AO} (hfg:∀t,f t=none∨g t=none):pQ f (pQ g h)=pQ g (pQ f h):=by funext t;unfold pQ;rcases hfg t with e|e<;>rw[e]<;>cases f t<;>cases g t<;>rfl
def Yi (P:Program) (Γ:bJ) (i:AI) (st:St) (e:bA):Prop:=(i.un=[]∨jE i.un st.aa ((i.xs.map (Ab.ev st.vars)).map strip))∧(dI P Γ i st.vars st.aa fun e'=>e'=e)∧A7 i.un i.tg e
theorem vI {P:Program}{Γ:bJ}{d:Option Nat}{k:AK}{xs:List AV}{aa:Nat→Option AO}{e:bA}{C:bA→Prop} (hC:C e) (hs:aX P Γ d k xs aa fun e'=>e'=e):aX P Γ d k xs aa C:=by cases k with
 |nS=>dsimp only[aX]at hs ⊢;obtain⟨x,hx,hl,rfl⟩:=ae hs;rw[hx];exact⟨hl,hC⟩|pick=>dsimp only[aX]at hs ⊢;obtain⟨x,hx,hl,rfl⟩:=ae hs;rw[hx];exact⟨hl,hC⟩|gK e=>dsimp only[aX]at hs ⊢;obtain⟨d,hd,ha,hw⟩:=ae hs;obtain⟨x,hx,hl,hn,rfl⟩:=ae hw;rw[hd];exact⟨ha,by rw[hx];exact⟨hl,hn,hC⟩⟩|box=>dsimp only[aX]at hs ⊢;obtain⟨d,hd,ha,hw⟩:=ae hs;obtain⟨x,hx,hl,hn,rfl⟩:=ae hw;rw[hd];exact⟨ha,by rw[hx];exact⟨hl,hn,hC⟩⟩|alloc zs=>dsimp only[aX]at hs ⊢;obtain⟨d,hd,ha,hw⟩:=ae hs;obtain⟨x,hx,hl,hn,rfl⟩:=ae hw;rw[hd];exact⟨ha,by rw[hx];exact⟨hl,hn,hC⟩⟩|rG e sz=>dsimp only[aX]at hs ⊢;obtain⟨d,hd,ha,hw⟩:=ae hs;obtain⟨x,hx,hl,hn,rfl⟩:=ae hw;rw[hd];exact⟨ha,by rw[hx];exact⟨hl,hn,hC⟩⟩|store n=>dsimp only[aX]at hs ⊢;obtain⟨ha,hw⟩:=hs;obtain⟨x,hx,hl,rfl⟩:=ae hw;exact⟨ha,by rw[hx];exact⟨hl,hC⟩⟩|app e sz bytes=>
  dsimp only[aX]at hs ⊢;obtain⟨ha,hw⟩:=hs;refine⟨ha,?_⟩;by_cases ho:oJ (xs.map strip)=true;·rw[if_pos ho]at hw ⊢;obtain⟨x,hx,hl,rfl⟩:=ae hw;rw[hx];exact⟨hl,hC⟩
  ·rw[if_neg ho]at hw ⊢;obtain⟨d,hd,hw⟩:=ae hw;obtain⟨x,hx,hl,hn,rfl⟩:=ae hw;rw[hd];show ai (ct _ d _ _) _;rw[hx];exact⟨hl,hn,hC⟩|call f=>dsimp only[aX,cx]at hs ⊢;obtain⟨d,hd,ha,hw⟩:=ae hs;obtain⟨ys,hys,hw⟩:=ae hw;obtain⟨⟨φ,r⟩,hr,h1,h2,h3,h4,rfl⟩:=ae hw;rw[hd];exact⟨ha,by rw[hys];show ai (gt Γ f ys) _;rw[hr];exact⟨h1,h2,h3,h4,hC⟩⟩|_=>obtain⟨ha,hw⟩:=hs;obtain⟨x,hx,hl,rfl⟩:=ae hw;exact⟨ha,by rw[hx];exact⟨hl,hC⟩⟩
theorem Eg {P:Program}{Γ:bJ}{c:Bool}{d:Option Nat}{k:AK}{xs:List AV}{aa:Nat→Option AO}{e:bA}{C:bA→Prop} (hC:C e) (hs:cd P Γ c d k xs aa fun e'=>e'=e):cd P Γ c d k xs aa C:=by have hmk:∀{v:AV},((c=true→aX P Γ d k xs aa fun e'=>e'=e)∧(c=false→bA.put v=e))→((c=true→aX P Γ d k xs aa C)∧(c=false→C (.put v))):=fun h=>⟨fun hc=>vI hC (h.1 hc),fun hc=>by rw[h.2 hc];exact hC⟩;cases k with
 |nS=>dsimp only[cd]at hs ⊢;obtain⟨x,hx,hl,rfl⟩:=ae hs;rw[hx];exact⟨hl,hC⟩|pick=>dsimp only[cd]at hs ⊢;obtain⟨x,hx,hl,rfl⟩:=ae hs;rw[hx];exact⟨hl,hC⟩|gK e=>exact hmk hs|box=>exact hmk hs|alloc zs=>exact hmk hs|rG e sz=>exact hmk hs|store n=>exact hmk hs|app e sz bytes=>exact hmk hs|call f=>
  dsimp only[cd]at hs ⊢;obtain⟨ys,hys,hs⟩:=ae hs;obtain⟨⟨φ,r⟩,hr,hs⟩:=ae hs;rw[hys];show ai (gt Γ f ys) _;rw[hr];show ite _ _ _;split at hs;·rename_i hif;obtain⟨h1,h2,h3,h4,rfl⟩:=hs;rw[if_pos hif];exact⟨h1,h2,h3,h4,hC⟩
  ·rename_i hif;rw[if_neg hif];exact hmk hs|_=>dsimp only[cd]at hs ⊢;obtain⟨x,hx,hl,rfl⟩:=ae hs;rw[hx];exact⟨hl,hC⟩
theorem Dr {P:Program}{Γ:bJ}{i:AI}{vars:Nat→AV}{aa:Nat→Option AO}{e:bA}{C:bA→Prop} (hC:C e) (hs:dI P Γ i vars aa fun e'=>e'=e):dI P Γ i vars aa C:=by unfold dI at hs ⊢;cases hg:i.g with|none=>rw[hg]at hs;exact vI hC hs|some sw=>obtain⟨s,w⟩:=sw;rw[hg]at hs;dsimp only at hs ⊢;obtain⟨c,hc,hs⟩:=ae hs;rw[hc];exact Eg hC hs
theorem cp {P:Program}{Γ:bJ}{i:AI}{K:St→Prop}{st:St}:cR P Γ i K st↔∃e,Yi P Γ i st e∧K (e.on i.d st):=by
 constructor;·rintro⟨hu,hs⟩;obtain⟨e,⟨ht,hK⟩,he⟩:=Dj hs;exact⟨e,⟨hu,he,ht⟩,hK⟩
 ·rintro⟨e,⟨hu,he,ht⟩,hK⟩;exact⟨hu,Dr (C:=fun e=>A7 i.un i.tg e∧K (e.on i.d st)) ⟨ht,hK⟩ he⟩
structure Cw (x y:AI):Prop where
 xd:∀d,x.d=some d→d∉cF y∧y.d≠some d∧y.tg≠some d∧d<1000
 yd:∀d,y.d=some d→d∉cF x∧x.tg≠some d∧d<1000
 ya:(aK y.k=true∧y.un=[])∨(isApp x.k=false∧(writes x.k=true→∃s,x.tg=some s)∧∀t∈bX x,t<1000∧y.un.contains t=true)
 xa:(aK x.k=true∧x.un=[])∨(isApp y.k=false∧(writes y.k=true→∃s,y.tg=some s)∧∀t∈bX y,t<1000∧x.un.contains t=true)
 both:aK x.k=true∨aK y.k=true∨writes x.k=false∨writes y.k=false∨x.tg≠y.tg
theorem qD {o:Option Nat} (h:wZ o=true):∃s,o=some s:=by cases o with|none=>cases h|some s=>exact⟨s,rfl⟩
theorem apart_spec {x y:AI} (h:BK x y=true):Cw x y:=by
 unfold BK at h;simp only[Bool.and_eq_true]at h;obtain⟨⟨⟨⟨h1,h2⟩,h3⟩,h4⟩,h5⟩:=h;refine⟨fun d hd=>?_,fun d hd=>?_,?_,?_,?_⟩;·rw[hd]at h1;simp only[Bool.and_eq_true,Bool.not_eq_true',List.contains_eq_mem,decide_eq_false_iff_not,bne_iff_ne,decide_eq_true_eq]at h1;exact⟨h1.1.1.1,h1.1.1.2,h1.1.2,h1.2⟩
 ·rw[hd]at h2;simp only[Bool.and_eq_true,Bool.not_eq_true',List.contains_eq_mem,decide_eq_false_iff_not,bne_iff_ne,decide_eq_true_eq]at h2;exact⟨h2.1.1,h2.1.2,h2.2⟩
 ·simp only[Bool.or_eq_true,Bool.and_eq_true,Bool.not_eq_true',List.all_eq_true,decide_eq_true_eq,List.isEmpty_iff]at h3;refine h3.imp id fun⟨⟨ha,hb⟩,hc⟩=>⟨ha,fun hw=>?_,fun t ht=>hc t ht⟩;rcases hb with hb|hb;·rw[hb]at hw;cases hw
  ·exact qD hb
 ·simp only[Bool.or_eq_true,Bool.and_eq_true,Bool.not_eq_true',List.all_eq_true,decide_eq_true_eq,List.isEmpty_iff]at h4;refine h4.imp id fun⟨⟨ha,hb⟩,hc⟩=>⟨ha,fun hw=>?_,fun t ht=>hc t ht⟩;rcases hb with hb|hb;·rw[hb]at hw;cases hw
  ·exact qD hb
 ·simp only[Bool.or_eq_true,Bool.not_eq_true',bne_iff_ne]at h5;rcases h5 with(((h|h)|h)|h)|h;·exact .inl h
  ·exact .inr (.inl h)
  ·exact .inr (.inr (.inl h))
  ·exact .inr (.inr (.inr (.inl h)))
  ·exact .inr (.inr (.inr (.inr h)))
section
variable{P:Program}{Γ:bJ}{x y:AI}{st:St}{e e':bA}
theorem vx:∀{os:List (Nat×AO)}{t:Nat}{o:AO},ab os t=some o→∃x∈os,x.1=t
 |[],_,_,h=>by cases h|(s,v)::os,t,o,h=>by
  simp only[ab]at h;split at h;·rename_i hs;exact⟨(s,v),List.mem_cons_self,hs.symm⟩
  ·obtain⟨x,hx,h⟩:=vx h;exact⟨x,List.mem_cons_of_mem _ hx,h⟩
theorem xH {i:AI}{e:bA} (he:ox i e) (htg:sM i.tg e) (hlt:∀t∈bX i,t<1000) (hw:writes i.k=true→∃s,i.tg=some s) (ha:isApp i.k=false) {t:Nat} (h:ov e t≠none):(bX i).contains (t%1000)=true:=by
 rcases he with⟨v,rfl⟩|⟨hm,d,v,os,hd,rfl,hos⟩|⟨hwr,hm,t',o,rfl⟩|⟨hap,t,o,rfl⟩;·exact absurd rfl h
 ·cases hl:ab os t with|none=>exact absurd hl h|some o=>
   obtain⟨x,hx,rfl⟩:=vx hl;obtain⟨p,hp⟩:=hos x hx;have hmem:d∈bX i:=by unfold bX;rw[if_pos hm,hd];simp
   rw[hp,Nat.add_mul_mod_self_left,Nat.mod_eq_of_lt (hlt d hmem)];simpa using hmem
 ·obtain⟨s,hs⟩:=hw hwr;have hmem:s∈bX i:=by unfold bX;rw[hm,hwr,hs];simp
  rw[hs]at htg;have htg:t'=s:=htg;subst htg;have:t=t':=by
   by_cases e:t=t';·exact e
   ·exact absurd (by simp[ov,e]) h
  subst this;rw[Nat.mod_eq_of_lt (hlt t hmem)];simpa using hmem
 ·rw[ha]at hap;cases hap
theorem sO {i:AI}{e:bA}{aa:Nat→Option AO}{U:List Nat} (he:ox i e) (htg:sM i.tg e) (hlt:∀t∈bX i,t<1000) (hU:∀t,jy U t→jy (bX i) t) (hw:writes i.k=true→∃s,i.tg=some s) (ha:isApp i.k=false):∀t,jy U t→aa t=pQ (ov e) aa t:=by intro t ht;unfold pQ;cases ho:ov e t with|none=>rfl|some o=>have h1:=xH he htg hlt hw ha (t:=t) (by rw[ho];simp);have h2:=hU t ht;unfold jy at h2;rw[h1]at h2;cases h2
theorem Yi.wN (hyx:(aK y.k=true∧y.un=[])∨(isApp x.k=false∧(writes x.k=true→∃s,x.tg=some s)∧∀t∈bX x,t<1000∧y.un.contains t=true)) (hax:aK y.k=true∨isApp y.k=false) (hyd:∀d,y.d=some d→x.d≠some d∧x.tg≠some d∧d<1000) (hu:∀d,x.d=some d→d∉cF y) {vars:Nat→AV}{aa objs':Nat→Option AO}{v:AV} (hag:∀T,(∀t,jy T t→jy (bX x) t)→(isApp x.k=false∧(writes x.k=true→∃s,x.tg=some s)∧∀t∈bX x,t<1000)→∀t,jy T t→aa t=objs' t):Yi P Γ y ⟨Ab.put x.d v vars,aa⟩ e'↔Yi P Γ y ⟨vars,objs'⟩ e':=by
 have hvs:∀s∈cF y,Ab.put x.d v vars s=vars s:=fun s hs=>oO fun hd=>hu s hd hs;have hev:y.xs.map (Ab.ev (Ab.put x.d v vars))=y.xs.map (Ab.ev vars):=fM fun s hs=>hvs s (List.mem_append_left _ hs);have hsym:∀{f g:Nat→Option AO}{T:List Nat},(∀t,jy T t→f t=g t)→∀t,jy T t→g t=f t:=fun h t ht=>(h t ht).symm;unfold Yi;simp only[hev];rcases hyx with⟨hy,hun⟩|⟨hxa,hxw,hxt⟩
 ·constructor;·rintro⟨_,h,ht⟩;exact⟨.inl hun,dV hvs ((dC hy h).2 _),ht⟩
  ·rintro⟨_,h,ht⟩;exact⟨.inl hun,dV (fun s hs=>(hvs s hs).symm) ((dC hy h).2 _),ht⟩
 ·have hsub:∀t,jy y.un t→jy (bX x) t:=by intro t ht;unfold jy at ht ⊢;cases hc:(bX x).contains (t%1000) with|false=>rfl|true=>rw[(hxt _ (by simpa using hc)).2]at ht;cases ht
  have hx3:=(⟨hxa,hxw,fun t ht=>(hxt t ht).1⟩:isApp x.k=false∧(writes x.k=true→∃s,x.tg=some s)∧∀t∈bX x,t<1000);have hA:=hag (bX x) (fun _ h=>h) hx3;have hB:=hag y.un hsub hx3;have hd:∀s,y.d=some s→s<1000∧(bX x).contains s=false:=by
   intro s hs;obtain⟨h1,h2,h3⟩:=hyd s hs;refine⟨h3,?_⟩;unfold bX;split;·cases hxd:x.d with|none=>rfl|some d=>have:¬d=s:=fun e=>h1 (by rw[hxd,e]);simpa[Option.toList,eq_comm]using this
   ·split;·cases hxd:x.tg with|none=>rfl|some d=>have:¬d=s:=fun e=>h2 (by rw[hxd,e]);simpa[Option.toList,eq_comm]using this
    ·rfl
  by_cases hy:aK y.k=true
  ·constructor;·rintro⟨hn,h,ht⟩;exact⟨hn.imp id fun hn=>iB hB hn,dV hvs ((dC hy h).2 _),ht⟩
   ·rintro⟨hn,h,ht⟩;exact⟨hn.imp id fun hn=>iB (hsym hB) hn,dV (fun s hs=>(hvs s hs).symm) ((dC hy h).2 _),ht⟩
  ·have hya:=hax.resolve_left hy;have hne:y.un=[]→∀(f:Nat→Option AO) (l:List AV),jE (bX x) f l:=by
    intro hun f l;have hnil:bX x=[]:=by cases h:bX x with|nil=>rfl|cons t ts=>have:=(hxt t (by rw[h];simp)).2;rw[hun]at this;simp at this
    rw[hnil];have hT:∀t,jy [] t:=fun t=>rfl;have hC:∀v,uO [] v:=fun v=>by cases v<;>first|trivial|exact hT _
    have hCs:∀cs,gL [] cs:=fun cs=>by induction cs with|nil=>trivial|cons c cs ih=>exact⟨hC c,ih⟩
    have hP:∀v,nu [] f v:=fun v=>by
     rcases FC v with⟨t,o,rfl⟩|⟨cs,rfl⟩|h2;·exact⟨hT _,hCs _⟩
     ·exact hCs _
     ·rw[h2];exact hC _
    have hPs:∀cs,kL [] f cs:=fun cs=>by induction cs with|nil=>trivial|cons c cs ih=>exact⟨hP c,ih⟩
    induction l with|nil=>trivial|cons c cs ih=>
     refine⟨?_,ih⟩;rcases Ch c with⟨f,cs,rfl⟩|⟨_,h2⟩;·exact hPs _
     ·rw[h2];exact hP _
   constructor
   ·rintro⟨hn,h,ht⟩;refine⟨hn.imp id fun hn=>iB hB hn,?_,ht⟩;have h:=dV hvs h;refine uc hA hya hd (.inr ?_) h;rcases hn with hn|hn;·exact hne hn _ _
    ·exact sv hsub hn
   ·rintro⟨hn,h,ht⟩;refine⟨hn.imp id fun hn=>iB (hsym hB) hn,?_,ht⟩;have h:=dV (vars':=Ab.put x.d v vars) (fun s hs=>(hvs s hs).symm) h;refine uc (hsym hA) hya hd (.inr ?_) h;rw[hev];rcases hn with hn|hn;·exact hne hn _ _
    ·exact sv hsub hn
end
theorem kr {q:Option AO}{r:TypeId×List (List PV)} (h:cM q=some r):q=some (.arr r.1 r.2):=by
 unfold cM at h;split at h;·cases h;rfl
 ·cases h
theorem ug {aa objs':Nat→Option AO} (hs:∀s o,aa s=some o→objs' s=some o) {X:AV}{rows:List (List PV)} (h:cG aa X=some rows):cG objs' X=some rows:=by cases X with
 |pv p=>cases p<;>first|exact h|(simp[cG]at h)
 |own t=>simp only[cG,Option.map_eq_some_iff]at h ⊢;obtain⟨r,hr,rfl⟩:=h;have:=hs _ _ (kr hr);exact⟨r,by rw[this];rfl,rfl⟩|sub t e lo hi=>simp only[cG,Option.bind_eq_some_iff]at h ⊢;obtain⟨r,hr,h⟩:=h;have:=hs _ _ (kr hr);exact⟨r,by rw[this];rfl,h⟩|_=>simp[cG]at h
theorem tZ {aa objs':Nat→Option AO}{X:AV}{rows:List (List PV)}{un:List Nat} (h:cG aa X=some rows) (hn:qO un aa X):qO un objs' X:=by cases X with|pv p=>trivial|own t=>exact hn|sub t e lo hi=>exact hn|_=>simp[cG]at h
section
variable{P:Program}{Γ:bJ}{d:Option Nat}{e:TypeId}{sz bytes:Nat}{xs:List AV}{aa objs':Nat→Option AO}{ee:bA}
theorem JD (h:aX P Γ d (.app e sz bytes) xs aa fun e1=>e1=ee):(∃(t:Nat) (X:AV) (r:TypeId×List (List PV)) (more:List (List PV)),xs.map strip=[.own t,X]∧aa t=some (.arr r.1 r.2)∧cG aa X=some more∧ee=.app t (.arr r.1 (r.2++more)))∨(∃(dd:Nat) (X:AV) (rows:List (List PV)),d=some dd∧xs.map strip=[.pv .nil,X]∧cG aa X=some rows∧aa dd=none∧ee=.new (.own dd) [(dd,.arr e rows)]):=by
 dsimp only[aX]at h;obtain⟨ha,h⟩:=h;generalize xs.map strip=ys at h ⊢;split at h
 ·rename_i ho;obtain⟨x,hx,hφ,rfl⟩:=ae h;rcases ys with _|⟨y,_|⟨X,_|⟨z,l⟩⟩⟩;·simp[oJ]at ho
  ·cases y<;>simp[eB]at hx
  ·cases y with
   |own t=>
    simp only[eB,Option.bind_eq_some_iff]at hx;obtain⟨r,hr,more,hm,hx⟩:=hx;split at hx;·cases hx;rename_i hc;exact .inl ⟨t,X,r,more,rfl,kr hr,hm,by rw[hc.1]⟩
    ·cases hx|_=>simp[oJ]at ho
  ·cases y<;>simp[eB]at hx
 ·obtain⟨dd,hd,h⟩:=ae h;obtain⟨x,hx,hφ,hn,rfl⟩:=ae h;rcases ys with _|⟨y,_|⟨X,_|⟨z,l⟩⟩⟩;·simp[ct]at hx
  ·cases y with|pv p=>cases p<;>simp[ct]at hx|_=>simp[ct]at hx
  ·cases y with
   |pv p=>cases p with|nil=>simp only[ct,Option.map_eq_some_iff]at hx;obtain⟨rows,hr,rfl⟩:=hx;exact .inr ⟨dd,X,rows,hd,rfl,hr,hn,rfl⟩|_=>simp[ct]at hx
   |_=>simp[ct]at hx
  ·cases y with|pv p=>cases p<;>simp[ct]at hx|_=>simp[ct]at hx
theorem JA (hs:∀s o,aa s=some o→objs' s=some o) (hn:∀dd,d=some dd→aa dd=none→objs' dd=none) (h:aX P Γ d (.app e sz bytes) xs aa fun e1=>e1=ee):aX P Γ d (.app e sz bytes) xs objs' fun e1=>e1=ee:=by
 dsimp only[aX]at h ⊢;obtain⟨ha,h⟩:=h;refine⟨ha,?_⟩;generalize xs.map strip=ys at h ⊢;split at h
 ·rename_i ho;rw[if_pos ho];obtain⟨x,hx,hφ,he⟩:=ae h;have hx':eB (.app e sz bytes) ys objs'=some x:=by
   rcases ys with _|⟨y,_|⟨X,_|⟨z,l⟩⟩⟩;·simp[oJ]at ho
   ·cases y<;>simp[eB]at hx
   ·cases y with|own t=>simp only[eB,Option.bind_eq_some_iff]at hx ⊢;obtain⟨r,hr,more,hm,hx⟩:=hx;have:=hs _ _ (kr hr);exact⟨r,by rw[this];rfl,more,ug hs hm,hx⟩|_=>simp[oJ]at ho
   ·cases y<;>simp[eB]at hx
  rw[hx'];exact⟨hφ,he⟩
 ·rename_i ho;rw[if_neg ho];obtain⟨dd,hd,h⟩:=ae h;obtain⟨x,hx,hφ,hnn,he⟩:=ae h;rw[hd];show ai (ct (.app e sz bytes) dd ys objs') _;have hx':ct (.app e sz bytes) dd ys objs'=some x:=by
   rcases ys with _|⟨y,_|⟨X,_|⟨z,l⟩⟩⟩;·simp[ct]at hx
   ·cases y with|pv p=>cases p<;>simp[ct]at hx|_=>simp[ct]at hx
   ·cases y with
    |pv p=>cases p with|nil=>simp only[ct,Option.map_eq_some_iff]at hx ⊢;obtain⟨rows,hr,hx⟩:=hx;exact⟨rows,ug hs hr,hx⟩|_=>simp[ct]at hx
    |_=>simp[ct]at hx
   ·cases y with|pv p=>cases p<;>simp[ct]at hx|_=>simp[ct]at hx
  rw[hx'];exact⟨hφ,hn _ hd hnn,he⟩
theorem AF {un:List Nat}{t:Nat} (ht:jy un t) {c:AV} (h:uO un (bW t c)):uO un c:=by cases c with
 |own s=>by_cases e:s=t;·subst e;exact ht
         ·simpa[bW,e]using h
 |aZ s _ _ _=>by_cases e:s=t;·subst e;exact ht
              ·simpa[bW,e]using h
 |sub s _ _ _=>by_cases e:s=t;·subst e;exact ht
               ·simpa[bW,e]using h|ptr s o=>exact h|_=>trivial
theorem ow {un:List Nat}{t:Nat} (ht:jy un t):∀{cs:List AV},gL un (bP t cs)→gL un cs|[],_=>trivial|c::cs,h=>⟨AF ht h.1,ow ht h.2⟩
theorem qI (t:Nat):∀(n:Nat) (cs:List AV),(bP t cs).take n=bP t (cs.take n)|0,_=>by simp[bP]|n+1,[]=>by simp[bP]|n+1,c::cs=>by simp[bP,qI t n cs]
theorem rB (t:Nat):∀(n:Nat) (cs:List AV),(bP t cs).drop n=bP t (cs.drop n)|0,_=>by simp|n+1,[]=>by simp[bP]|n+1,c::cs=>by simp[bP,rB t n cs]
theorem np (t:Nat):∀(ps:List PV),bP t (ps.map AV.pv)=ps.map .pv|[]=>rfl|p::ps=>by simp only[List.map_cons,bP,np t ps];rfl
theorem wo (t:Nat):∀(zs:List Value),bP t (zs.map cv)=zs.map cv|[]=>rfl|z::zs=>by simp only[List.map_cons,bP,wo t zs];congr 1;unfold cv;split<;>rfl
theorem tA {t:Nat}{X:AV}{s o:Nat} (h:kill t X=.ptr s o):X=.ptr s o:=by cases X with|ptr s' o'=>exact h|own s=>have h:(if s=t then AV.au else .own s)=.ptr _ _:=h;split at h<;>cases h|aZ s e i o=>have h:(if s=t then AV.au else .aZ s e i o)=.ptr _ _:=h;split at h<;>cases h|sub s e i o=>have h:(if s=t then AV.au else .sub s e i o)=.ptr _ _:=h;split at h<;>cases h|bo f cs=>cases cs<;>cases h|_=>cases h
theorem pX {t:Nat}{X:AV}{s o:Nat}{e:TypeId}{i:Int} (h:kill t X=.aZ s e i o):X=.aZ s e i o∧s≠t:=by cases X with
 |aZ s' e' i' o'=>
  have h:(if s'=t then AV.au else .aZ s' e' i' o')=.aZ _ _ _ _:=h;split at h;·cases h
  ·rename_i hne;cases h;exact⟨rfl,hne⟩|own s=>have h:(if s=t then AV.au else .own s)=.aZ _ _ _ _:=h;split at h<;>cases h|sub s e i o=>have h:(if s=t then AV.au else .sub s e i o)=.aZ _ _ _ _:=h;split at h<;>cases h|bo f cs=>cases cs<;>cases h|_=>cases h
theorem xW {t:Nat}{X:AV}{cs:List PV} (h:kill t X=.rp cs):X=.rp cs:=by cases X with|rp cs'=>exact h|own s=>have h:(if s=t then AV.au else .own s)=.rp _:=h;split at h<;>cases h|aZ s e i o=>have h:(if s=t then AV.au else .aZ s e i o)=.rp _:=h;split at h<;>cases h|sub s e i o=>have h:(if s=t then AV.au else .sub s e i o)=.rp _:=h;split at h<;>cases h|bo f cs=>cases cs<;>cases h|_=>cases h
theorem Gb {k:AK} (hk:xD k=true) {ys:List AV}{aa:Nat→Option AO}{r:Prop×AV} (h:aj k ys aa=some r):∃X,ys=[X]∧((∃s o,X=.ptr s o)∨(∃s e i o,X=.aZ s e i o)∨∃cs,X=.rp cs):=by cases k with
 |load n=>
  rcases ys with _|⟨y,_|⟨z,l⟩⟩;·cases n<;>simp[aj]at h
  ·cases y with|ptr s o=>exact⟨_,rfl,.inl ⟨s,o,rfl⟩⟩|aZ s e i o=>exact⟨_,rfl,.inr (.inl ⟨s,e,i,o,rfl⟩)⟩|rp cs=>exact⟨_,rfl,.inr (.inr ⟨cs,rfl⟩)⟩|_=>cases n<;>simp[aj]at h
  ·cases n<;>cases y<;>simp[aj]at h|rS off=>
  rcases ys with _|⟨y,_|⟨z,l⟩⟩;·simp[aj]at h
  ·cases y with|ptr s o=>exact⟨_,rfl,.inl ⟨s,o,rfl⟩⟩|aZ s e i o=>exact⟨_,rfl,.inr (.inl ⟨s,e,i,o,rfl⟩)⟩|rp cs=>exact⟨_,rfl,.inr (.inr ⟨cs,rfl⟩)⟩|_=>simp[aj]at h
  ·cases y<;>simp[aj]at h|_=>simp[xD]at hk
theorem EL {k:AK} (hk:xD k=true) {t:Nat}{X:AV}{e:TypeId}{rows rows':List (List PV)} (hob:aa t=some (.arr e rows)) {φ:Prop}{v:AV} (h:aj k [kill t X] (aL t (.arr e rows') (dt t aa))=some (φ,v)):∃u,aj k [X] aa=some (φ,u)∧v=kill t u:=by
 obtain⟨Y,hY,hc⟩:=Gb hk h;simp only[List.cons.injEq,and_true]at hY;have hbox:∀s cs,eK (aL t (.arr e rows') (dt t aa) s)=some cs→∃cs0,eK (aa s)=some cs0∧cs=bP t cs0:=by
  intro s cs hb;unfold aL at hb;split at hb;·cases hb
  ·unfold dt at hb;cases ho:aa s with|none=>rw[ho]at hb;cases hb|some q=>rw[ho]at hb;cases q with|box cs0=>cases hb;exact⟨cs0,rfl,rfl⟩|arr e rows=>cases hb|map es=>cases hb|rws e cs=>cases hb|gY es=>cases hb|nk rem cur=>cases hb
 have harr:∀s,s≠t→cM (aL t (.arr e rows') (dt t aa) s)=cM (aa s):=by intro s hs;unfold aL dt;rw[if_neg hs];cases ho:aa s with|none=>rfl|some q=>cases q<;>rfl
 have hboxa:∀s,s≠t→True:=fun _ _=>trivial;rcases hc with⟨s,o,rfl⟩|⟨s,e',i,o,rfl⟩|⟨cs,rfl⟩;·cases tA hY;rw[hY]at h;cases k with
  |load n=>cases n with
   |none=>
    simp only[aj,Option.bind_eq_some_iff]at h ⊢;obtain⟨cs,hcs,c,hcc,h⟩:=h;obtain⟨cs0,hcs0,rfl⟩:=hbox _ _ hcs;rw[eU]at hcc;obtain⟨c0,hc0,rfl⟩:=Option.map_eq_some_iff.1 hcc;split at h
    ·rename_i hkc;cases h;by_cases hcell:lE c0=true;·refine⟨c0,⟨cs0,hcs0,c0,hc0,by rw[if_pos hcell]⟩,?_⟩;cases c0<;>first|rfl|(simp[lE]at hcell)
     ·exfalso;cases c0<;>first|(exact hcell rfl)|(simp[bW,lE]at hkc)
    ·cases h|some n=>
    simp only[aj,Option.bind_eq_some_iff]at h ⊢;obtain⟨cs,hcs,h⟩:=h;obtain⟨cs0,hcs0,rfl⟩:=hbox _ _ hcs;split at h;·rename_i hle;cases h;refine⟨_,⟨cs0,hcs0,by rw[if_pos (by simpa[dS]using hle)]⟩,?_⟩;show AV.agg _=AV.agg _;rw[rB,qI]
    ·cases h
  |rS off=>cases h;exact⟨_,rfl,rfl⟩|_=>simp[xD]at hk
 ·obtain⟨rfl,hst⟩:=pX hY;rw[hY]at h;cases k with
  |load n=>cases n with
   |none=>
    have h:lv e' i o (aL t (.arr e rows') (dt t aa) s)=some (φ,v):=h;show∃u,lv e' i o (aa s)=some (φ,u)∧v=kill t u;have he:aL t (.arr e rows') (dt t aa) s=(aa s).map (dJ t):=by unfold aL dt;rw[if_neg hst]
    rw[he]at h;cases hos:aa s with|none=>rw[hos]at h;cases h|some q=>rw[hos]at h;cases q with
     |box cs=>cases h|map es=>cases h|gY es=>cases h|nk r c=>cases h|arr e1 rows1=>
      have h:lv e' i o (some (.arr e1 rows1))=some (φ,v):=h;unfold lv at h ⊢;simp only at h ⊢;split at h;·cases h;exact⟨_,by rw[if_pos ‹_›],rfl⟩
      ·cases h|rws e1 cs=>
      have h:lv e' i o (some (.rws e1 (bP t cs)))=some (φ,v):=h;unfold lv at h ⊢;simp only at h ⊢;split at h;rotate_left;·cases h
      rename_i h1;obtain⟨c,hc,h⟩:=Option.bind_eq_some_iff.1 h;rw[eU]at hc;obtain⟨c0,hc0,rfl⟩:=Option.map_eq_some_iff.1 hc;rw[if_pos h1,hc0];split at h
      ·rename_i hkc;cases h;by_cases hcell:lE c0=true;·refine⟨c0,by simp only[Option.bind_some];rw[if_pos hcell],?_⟩;cases c0<;>first|rfl|(simp[lE]at hcell)
       ·exfalso;cases c0<;>first|(exact hcell rfl)|(simp[bW,lE]at hkc)
      ·cases h
   |some n=>
    simp only[aj,harr s hst]at h ⊢;obtain⟨r,hr,h⟩:=Option.bind_eq_some_iff.1 h;split at h;·rename_i h1;cases h;refine⟨_,by rw[hr];simp only[Option.bind_some];rw[if_pos h1],?_⟩;show AV.agg _=AV.agg _;rw[np]
    ·cases h
  |rS off=>cases h;refine⟨_,rfl,?_⟩;show AV.aZ _ _ _ _=(if s=t then AV.au else .aZ _ _ _ _);rw[if_neg hst]|_=>simp[xD]at hk
 ·cases xW hY;rw[hY]at h;cases k with
  |load n=>cases n with
   |none=>cases cs with|nil=>cases h;exact⟨_,rfl,rfl⟩|cons c cs=>cases h;exact⟨_,rfl,rfl⟩
   |some n=>
    simp only[aj]at h ⊢;split at h;·rename_i h1;cases h;refine⟨_,by rw[if_pos h1],?_⟩;show AV.agg _=AV.agg _;rw[np]
    ·cases h
  |rS off=>cases h;exact⟨_,rfl,rfl⟩|_=>simp[xD]at hk
end
structure B7 (x y:AI):Prop where
 app:∃e sz b,x.k=.app e sz b
 xg:x.g=none
 yg:y.g=none
 yt:y.tg=none
 ds:∃d d',x.d=some d∧y.d=some d'∧d∉cF y∧d'∉cF x∧d≠d'∧d<1000∧d'<1000
 kd:(∃zs,y.k=.alloc zs∧y.xs=[])∨(xD y.k=true∧(∀d,x.d=some d→y.un.contains d=true)∧∀t,y.un.contains t=true→x.un.contains (t+1000)=true)
theorem Av {x y:AI} (h:BI x y=true):B7 x y:=by
 unfold BI at h;simp only[Bool.and_eq_true]at h;obtain⟨⟨⟨⟨h1,h2⟩,h3⟩,h4⟩,h5⟩:=h;split at h5
 ·rename_i d d' hd hd';simp only[Bool.and_eq_true,Bool.not_eq_true',List.contains_eq_mem,decide_eq_false_iff_not,bne_iff_ne,decide_eq_true_eq,Bool.or_eq_true]at h5;obtain⟨⟨⟨⟨⟨g1,g2⟩,g3⟩,g4⟩,g5⟩,g6⟩:=h5;refine⟨?_,by simpa using h2,by simpa using h3,by simpa using h4,⟨d,d',hd,hd',g1,g2,g3,g4,g5⟩,?_⟩;·cases hk:x.k with|app e sz b=>exact⟨_,_,_,rfl⟩|_=>rw[hk]at h1;cases h1
  ·rcases g6 with⟨g6,g7⟩|⟨⟨g6,g7⟩,g8⟩;·refine .inl ?_;cases hk:y.k with|alloc zs=>exact⟨zs,rfl,by simpa using g7⟩|_=>rw[hk]at g6;cases g6
   ·refine .inr ⟨g6,fun d0 h0=>?_,fun t ht=>?_⟩;·rw[hd]at h0;cases h0;simpa using g7
    ·have:=(List.all_eq_true.1 g8) t (by simpa using ht);simpa using this
 ·cases h5
theorem pA {d:Option Nat}{t:Nat}{o:AO}{st:St}:(bA.app t o).on d st=⟨Ab.put d (.own t) (cr t st.vars),aL t o (dt t st.aa)⟩:=rfl
theorem jn {d:Option Nat}{v:AV}{os:List (Nat×AO)}{st:St}:(bA.new v os).on d st=⟨Ab.put d v st.vars,bp os st.aa⟩:=rfl
section
variable{P:Program}{Γ:bJ}{x y:AI}{st:St}{e e':bA}
theorem Yi.Fq {vars vars':Nat→AV}{aa:Nat→Option AO} (hvs:∀s∈cF y,vars s=vars' s) (h:Yi P Γ y ⟨vars,aa⟩ e):Yi P Γ y ⟨vars',aa⟩ e:=by have hev:y.xs.map (Ab.ev vars)=y.xs.map (Ab.ev vars'):=fM fun s hs=>hvs s (List.mem_append_left _ hs);obtain⟨h1,h2,h3⟩:=h;simp only at h1 h2;exact⟨by simp only[←hev];exact h1,dV hvs h2,h3⟩
theorem WR (hap:B7 x y) (hx:Yi P Γ x st e) (hy:Yi P Γ y (e.on x.d st) e'):∃e1 e2,Yi P Γ y st e1∧Yi P Γ x (e1.on y.d st) e2∧e2.on x.d (e1.on y.d st)=e'.on y.d (e.on x.d st):=by
 obtain⟨ea,sz,b,hxk⟩:=hap.app;obtain⟨d,d',hd,hd',hu1,hu2,hdd,hlt,hlt'⟩:=hap.ds;have hcd:∀s,x.d=some s→y.d≠some s:=fun s h1 h2=>hdd (by rw[hd]at h1;rw[hd']at h2;cases h1;cases h2;rfl);have hvx:∀(v:AV) (f:Nat→AV),∀s∈cF y,Ab.put x.d v f s=f s:=fun v f s hs=>oO fun h=>hu1 (by rw[hd]at h;cases h;exact hs);have hvy:∀(v:AV) (f:Nat→AV),∀s∈cF x,Ab.put y.d v f s=f s:=fun v f s hs=>oO fun h=>hu2 (by rw[hd']at h;cases h;exact hs);have hxs:aX P Γ x.d (.app ea sz b) (x.xs.map (Ab.ev st.vars)) st.aa fun e1=>e1=e:=by have:=hx.2.1;unfold dI at this;rw[hap.xg,hxk]at this;exact this
 have hinv:=JD hxs;rcases hap.kd with⟨zs,hyk,hyx⟩|⟨hyk,hun1,hun2⟩;·
  have hys:ai y.d fun d=>ak []∧ai (ct (.alloc zs) d [] (e.on x.d st).aa) fun r=>r.1∧(e.on x.d st).aa d=none∧bA.new r.2.1 [(d,r.2.2)]=e':=by have:=hy.2.1;unfold dI at this;rw[hap.yg,hyk,hyx]at this;exact this
  rw[hd']at hys;obtain⟨_,hys⟩:=hys;obtain⟨r,hr,hφ,hn,rfl⟩:=ae hys;have hr0:r=(True,.ptr d' 0,.box (zs.map cv))∧zs.all (·.oneCell')=true:=by
   simp only[ct]at hr;split at hr;·rename_i hz;cases hr;exact⟨rfl,hz⟩
   ·cases hr
  obtain⟨rfl,hz⟩:=hr0;have hn0:st.aa d'=none:=by
   rcases hinv with⟨t,X,r,more,_,_,_,rfl⟩|⟨dd,X,rows,h1,_,_,_,rfl⟩
   ·rw[pA]at hn;simp only[aL]at hn;split at hn;·cases hn
    ·simpa[dt]using hn
   ·rw[jn,cf]at hn;simp only[aL]at hn;split at hn;·cases hn
    ·exact hn
  have hyi:Yi P Γ y st (.new (.ptr d' 0) [(d',.box (zs.map cv))]):=by
   refine⟨?_,?_,hy.2.2⟩;·rw[hyx];exact .inr trivial
   ·unfold dI;rw[hap.yg,hyk,hyx,hd'];exact⟨trivial,by show ai (ct (.alloc zs) d' [] st.aa) _;rw[show ct (.alloc zs) d' [] st.aa=some (True,.ptr d' 0,.box (zs.map cv)) from by simp only[ct];rw[if_pos hz]];exact⟨trivial,hn0,rfl⟩⟩
  have hsub:∀s o,st.aa s=some o→bp [(d',.box (zs.map cv))] st.aa s=some o:=by
   intro s o hs;rw[cf];simp only[aL];split;·rename_i h;subst h;rw[hn0]at hs;cases hs
   ·exact hs
  have hxi:Yi P Γ x ((bA.new (.ptr d' 0) [(d',.box (zs.map cv))]).on y.d st) e:=by
   refine Yi.Fq (vars:=st.vars) (fun s hs=>(hvy _ _ s hs).symm) ⟨?_,?_,hx.2.2⟩
   ·refine hx.1.imp id fun hm=>?_;rcases hinv with⟨t,X,r,more,h1,_,h3,_⟩|⟨dd,X,rows,_,h1,h3,_,_⟩;·rw[h1]at hm ⊢;exact⟨hm.1,tZ h3 hm.2.1,trivial⟩
    ·rw[h1]at hm ⊢;exact⟨trivial,tZ h3 hm.2.1,trivial⟩
   ·unfold dI;rw[hap.xg,hxk];refine JA hsub (fun dd h1 h2=>?_) hxs;rw[cf];simp only[aL];rw[hd]at h1;cases h1;rw[if_neg hdd];exact h2
  refine⟨_,_,hyi,hxi,?_⟩;rcases hinv with⟨t,X,r,more,_,hob,_,rfl⟩|⟨dd,X,rows,_,_,_,_,rfl⟩
  ·have htd:d'≠t:=fun h=>by subst h;rw[hn0]at hob;cases hob
   rw[pA,jn,pA,jn];refine St.ext' ?_ ?_;·show Ab.put x.d (.own t) (cr t (Ab.put y.d (.ptr d' 0) st.vars))=Ab.put y.d (.ptr d' 0) (Ab.put x.d (.own t) (cr t st.vars));rw[oF];exact put_comm hcd
   ·show aL t _ (dt t (bp [(d',.box (zs.map cv))] st.aa))=bp [(d',.box (zs.map cv))] (aL t _ (dt t st.aa));rw[cf,cf];funext s;simp only[aL,dt];by_cases h1:s=t;·subst h1;rw[if_pos rfl,if_neg (Ne.symm htd),if_pos rfl]
    ·rw[if_neg h1];by_cases h2:s=d';·subst h2;rw[if_pos rfl,if_pos rfl];simp[dJ,wo]
     ·rw[if_neg h2,if_neg h2,if_neg h1]
  ·rw[jn,jn,jn,jn];refine St.ext' (put_comm hcd) ?_;show bp [(dd,_)] (bp [(d',_)] st.aa)=bp [(d',_)] (bp [(dd,_)] st.aa);rename_i h1 _ _ _;rw[hd]at h1;cases h1;rw[cf,cf,cf,cf];funext s;simp only[aL];by_cases h1:s=d;·subst h1;rw[if_pos rfl,if_neg hdd,if_pos rfl]
   ·by_cases h2:s=d';·subst h2;rw[if_neg h1,if_pos rfl,if_pos rfl]
    ·rw[if_neg h1,if_neg h2,if_neg h2,if_neg h1]
 ·have hun0:y.un≠[]:=fun h=>by have:=hun1 d hd;rw[h]at this;simp at this
  have hny:=hy.1.resolve_left hun0;have hys:ak (y.xs.map (Ab.ev (e.on x.d st).vars))∧ai (aj y.k ((y.xs.map (Ab.ev (e.on x.d st).vars)).map strip) (e.on x.d st).aa) fun r=>r.1∧bA.put r.2=e':=by have:=hy.2.1;unfold dI at this;rw[hap.yg]at this;cases hk:y.k with|load n=>rw[hk]at this;exact this|rS off=>rw[hk]at this;exact this|_=>rw[hk]at hyk;cases hyk
  obtain⟨has,hys⟩:=hys;obtain⟨r,hr,hφ,rfl⟩:=ae hys;have hmk:∀{aa:Nat→Option AO}{vars:Nat→AV}{φ:Prop}{v:AV},ak (y.xs.map (Ab.ev vars))→aj y.k ((y.xs.map (Ab.ev vars)).map strip) aa=some (φ,v)→φ→dI P Γ y vars aa fun e1=>e1=.put v:=by intro aa vars φ v h1 h2 h3;unfold dI;rw[hap.yg];cases hk:y.k with|load n=>rw[hk]at h2;exact⟨h1,by rw[h2];exact⟨h3,rfl⟩⟩|rS off=>rw[hk]at h2;exact⟨h1,by rw[h2];exact⟨h3,rfl⟩⟩|_=>rw[hk]at hyk;cases hyk
  have htg:∀v,A7 y.un y.tg (.put v):=fun v=>by rw[hap.yt];exact And.intro trivial trivial
  obtain⟨X1,hX1,hcase⟩:=Gb hyk hr;rcases hinv with⟨t,X,rr,more,hargs,hob,_,rfl⟩|⟨dd,X,rows,h1,_,_,hnone,rfl⟩
  ·rw[pA]at hr has hny hX1;simp only at hr has hny hX1;have hev:y.xs.map (Ab.ev (Ab.put x.d (.own t) (cr t st.vars)))=(y.xs.map (Ab.ev st.vars)).map (kill t):=by rw[fM (vars:=Ab.put x.d (.own t) (cr t st.vars)) (vars':=cr t st.vars) fun s hs=>hvx _ _ s (List.mem_append_left _ hs),lz]
   rw[hev]at hr has hny hX1;rw[kp]at has;obtain⟨A,hA⟩:∃A,y.xs.map (Ab.ev st.vars)=[A]:=by
    have:((y.xs.map (Ab.ev st.vars)).map (kill t)).length=1:=by have:=congrArg List.length hX1;simpa using this
    simp only[List.length_map]at this;obtain⟨z,hz⟩:=List.length_eq_one_iff.1 this;exact⟨Ab.ev st.vars z,by rw[hz];rfl⟩
   rw[hA]at hr has hny hX1;simp only[List.map_cons,List.map_nil,ka,List.cons.injEq,and_true]at hr hny hX1;obtain⟨u,hu,hvu⟩:=EL hyk (rows:=rr.2) (rows':=rr.2++more) hob hr;have htu:jy y.un t:=by have h0:x.un.contains (t%1000+1000)=false:=hx.2.2.2;unfold jy;cases hc:y.un.contains (t%1000) with|false=>rfl|true=>rw[hun2 _ hc]at h0;cases h0
   have hyi:Yi P Γ y st (.put u):=by
    refine⟨.inr ?_,hmk (by rw[hA];exact has) (by rw[hA];exact hu) hφ,htg _⟩;rw[hA];refine⟨?_,trivial⟩;have hn1:=hny.1;rcases hcase with⟨s,o,rfl⟩|⟨s,e1,i,o,rfl⟩|⟨cs,rfl⟩
    ·have h9:=tA hX1;show qO y.un st.aa (strip A);rw[h9];rw[hX1]at hn1;refine⟨hn1.1,?_⟩;have h8:=hn1.2;unfold aL at h8;by_cases hst:s=t;·subst hst;rw[hob];trivial
     ·rw[if_neg hst]at h8;unfold dt at h8;cases hos:st.aa s with|none=>trivial|some q=>rw[hos]at h8;cases q with|box cs=>exact ow htu h8|arr e rows=>trivial|map es=>trivial|rws e cs=>trivial|gY es=>trivial|nk rem cur=>trivial
    ·have h9:=(pX hX1).1;show qO y.un st.aa (strip A);rw[h9];rw[hX1]at hn1;exact hn1
    ·have h9:=xW hX1;show qO y.un st.aa (strip A);rw[h9];trivial
   refine⟨_,_,hyi,Yi.Fq (vars:=st.vars) (fun s hs=>(hvy _ _ s hs).symm) hx,?_⟩;rw[pA];refine St.ext' ?_ rfl;show Ab.put x.d (.own t) (cr t (Ab.put y.d u st.vars))=Ab.put y.d r.2 (Ab.put x.d (.own t) (cr t st.vars));rw[oF,hvu];exact put_comm hcd
  ·rw[hd]at h1;cases h1;rw[jn]at hr has hny hX1;simp only at hr has hny hX1;have hev:y.xs.map (Ab.ev (Ab.put x.d (.own d) st.vars))=y.xs.map (Ab.ev st.vars):=fM fun s hs=>hvx _ _ s (List.mem_append_left _ hs);rw[hev]at hr has hny hX1;rw[hX1]at hr hny;have hnd:¬jy y.un d:=fun h=>by unfold jy at h;rw[Nat.mod_eq_of_lt hlt,hun1 d hd]at h;cases h
   have hsame:∀s,jy y.un s→bp [(d,AO.arr ea rows)] st.aa s=st.aa s:=by intro s hs;rw[cf];simp only[aL];rw[if_neg (fun h:s=d=>hnd (by rw[←h];exact hs))]
   have hgo:aj y.k [X1] st.aa=some r∧qO y.un st.aa X1:=by
    have hn1:=hny.1;rcases hcase with⟨s,o,rfl⟩|⟨s,e1,i,o,rfl⟩|⟨cs,rfl⟩
    ·have hs:=hsame s hn1.1;refine⟨?_,?_⟩;·cases hk:y.k with|load n=>rw[hk]at hr;cases n<;>(simp only[aj,hs]at hr ⊢;exact hr)|rS off=>rw[hk]at hr;exact hr|_=>rw[hk]at hyk;cases hyk
     ·have:=hn1.2;rw[hs]at this;exact⟨hn1.1,this⟩
    ·have hs:=hsame s hn1;refine⟨?_,hn1⟩;cases hk:y.k with|load n=>rw[hk]at hr;cases n<;>(simp only[aj,hs]at hr ⊢;exact hr)|rS off=>rw[hk]at hr;exact hr|_=>rw[hk]at hyk;cases hyk
    ·refine⟨?_,trivial⟩;cases hk:y.k with|load n=>rw[hk]at hr;cases n<;>cases cs<;>exact hr|rS off=>rw[hk]at hr;exact hr|_=>rw[hk]at hyk;cases hyk
   have hyi:Yi P Γ y st (.put r.2):=⟨.inr (by rw[hX1];exact⟨hgo.2,trivial⟩),hmk has (by rw[hX1];exact hgo.1) hφ,htg _⟩;refine⟨_,_,hyi,Yi.Fq (vars:=st.vars) (fun s hs=>(hvy _ _ s hs).symm) hx,?_⟩;rw[jn];exact St.ext' (put_comm hcd) rfl
end
def Apt (x y:AI):Prop:=Cw x y∨B7 x y
theorem yD {x y:AI} (h:tH x y=true):Apt x y:=by
 unfold tH at h;rcases Bool.or_eq_true_iff.1 h with h|h;·exact .inl (apart_spec h)
 ·exact .inr (Av h)
section
variable{P:Program}{Γ:bJ}{x y:AI}{st:St}{e e':bA}
theorem Yi.vars {vars vars':Nat→AV}{aa:Nat→Option AO} (hvs:∀s∈cF y,vars s=vars' s) (h:Yi P Γ y ⟨vars,aa⟩ e):Yi P Γ y ⟨vars',aa⟩ e:=by have hev:y.xs.map (Ab.ev vars)=y.xs.map (Ab.ev vars'):=fM fun s hs=>hvs s (List.mem_append_left _ hs);obtain⟨h1,h2,h3⟩:=h;simp only at h1 h2;exact⟨by simp only[←hev];exact h1,dV hvs h2,h3⟩
theorem xQ (e:bA):plain e∨∃t o,e=.app t o:=by cases e<;>first|exact .inl trivial|exact .inr ⟨_,_,rfl⟩
theorem ox.plain {i:AI} (h:ox i e) (ha:isApp i.k=false):plain e:=by
 rcases xQ e with hp|⟨t,o,rfl⟩;·exact hp
 ·rcases h with⟨v,h⟩|⟨_,_,_,_,_,h,_⟩|⟨_,_,_,_,h⟩|⟨h,_⟩;·cases h
  ·cases h
  ·cases h
  ·rw[ha]at h;cases h
theorem vm {i:AI}{t:Nat}{o:AO} (h:ox i (.app t o)):isApp i.k=true:=by
 rcases h with⟨v,h⟩|⟨_,_,_,_,_,h,_⟩|⟨_,_,_,_,h⟩|⟨h,_⟩;·cases h
 ·cases h
 ·cases h
 ·exact h
theorem Bz (hap:Cw x y) (hx:aK x.k=false) (hy:aK y.k=false):∀t,(bX x).contains t=true→(bX y).contains t=true→False:=by
 intro t h1 h2;have hb:=hap.both;unfold bX at h1 h2;split at h1
 ·have hxd:x.d=some t:=by cases h:x.d<;>rw[h]at h1<;>simp_all
  obtain⟨_,a2,a3,_⟩:=hap.xd t hxd;split at h2;·exact a2 (by cases h:y.d<;>rw[h]at h2<;>simp_all)
  ·split at h2;·exact a3 (by cases h:y.tg<;>rw[h]at h2<;>simp_all)
   ·simp at h2
 ·split at h1
  ·rename_i hw;have hxt:x.tg=some t:=by cases h:x.tg<;>rw[h]at h1<;>simp_all
   split at h2
   ·have hyd:y.d=some t:=by cases h:y.d<;>rw[h]at h2<;>simp_all
    exact(hap.yd t hyd).2.1 hxt
   ·split at h2
    ·rename_i hw2;have hyt:y.tg=some t:=by cases h:y.tg<;>rw[h]at h2<;>simp_all
     rcases hb with h|h|h|h|h;·rw[hx]at h;cases h
     ·rw[hy]at h;cases h
     ·rw[hw]at h;cases h
     ·rw[hw2]at h;cases h
     ·exact h (hxt.trans hyt.symm)
    ·simp at h2
  ·simp at h1
theorem swap (hap:Cw x y) (hx:Yi P Γ x st e) (hy:Yi P Γ y (e.on x.d st) e'):∃e1 e2,Yi P Γ y st e1∧Yi P Γ x (e1.on y.d st) e2∧e2.on x.d (e1.on y.d st)=e'.on y.d (e.on x.d st):=by
 have hex:=yP hx.2.1;have hey:=yP hy.2.1;have hux:∀d,x.d=some d→d∉cF y:=fun d hd=>(hap.xd d hd).1;have huy:∀d,y.d=some d→d∉cF x:=fun d hd=>(hap.yd d hd).1;have hcd:∀s,x.d=some s→y.d≠some s:=fun d hd=>(hap.xd d hd).2.1;have hvx:∀(v:AV) (f:Nat→AV),∀s∈cF y,Ab.put x.d v f s=f s:=fun v f s hs=>oO fun hd=>hux s hd hs;have hvy:∀(v:AV) (f:Nat→AV),∀s∈cF x,Ab.put y.d v f s=f s:=fun v f s hs=>oO fun hd=>huy s hd hs;have hydd:∀d,y.d=some d→x.d≠some d∧x.tg≠some d∧d<1000:=fun d hd=>⟨fun h=>hcd d h hd,(hap.yd d hd).2.1,(hap.yd d hd).2.2⟩;have hxdd:∀d,x.d=some d→y.d≠some d∧y.tg≠some d∧d<1000:=fun d hd=>⟨(hap.xd d hd).2.1,(hap.xd d hd).2.2.1,(hap.xd d hd).2.2.2⟩;have hagx:∀T,(∀t,jy T t→jy (bX x) t)→(isApp x.k=false∧(writes x.k=true→∃s,x.tg=some s)∧∀t∈bX x,t<1000)→∀t,jy T t→pQ (ov e) st.aa t=st.aa t:=fun T hT h t ht=>(sO hex hx.2.2.1 h.2.2 hT h.2.1 h.1 t ht).symm;have hagy:∀T,(∀t,jy T t→jy (bX y) t)→(isApp y.k=false∧(writes y.k=true→∃s,y.tg=some s)∧∀t∈bX y,t<1000)→∀t,jy T t→pQ (ov e') st.aa t=st.aa t:=fun T hT h t ht=>(sO hey hy.2.2.1 h.2.2 hT h.2.1 h.1 t ht).symm;by_cases hxa:aK x.k=true;·
  obtain⟨⟨v,rfl⟩,hxo⟩:=dC hxa hx.2.1;have hy0:Yi P Γ y st e':=Yi.vars (hvx v st.vars) hy;have htg:x.tg=none:=by have:=hx.2.2.1;cases h:x.tg with|none=>rfl|some s=>rw[h]at this;exact this.elim
  rcases xQ e' with hp|⟨t,o,rfl⟩
  ·refine⟨e',.put v,hy0,?_,?_⟩;·rw[dR hp];exact(Yi.wN hap.xa (.inl hxa) hxdd huy hagy).2 hx
   ·rw[dR hp,dR hp];exact St.ext' (put_comm hcd) rfl
  ·have hun:x.un=[]:=by
    rcases hap.xa with h|h;·exact h.2
    ·have:=vm hey;rw[h.1]at this;cases this
   obtain⟨u,hu,hk⟩:=sX hxa hx.2.1;cases hu;refine⟨.app t o,.put (kill t v),hy0,⟨.inl hun,dV (fun s hs=>(hvy _ _ s hs).symm) (hk t _),by rw[htg];exact And.intro trivial trivial⟩,?_⟩;refine St.ext' ?_ rfl;show Ab.put x.d (kill t v) (Ab.put y.d (.own t) (cr t st.vars))=Ab.put y.d (.own t) (cr t (Ab.put x.d v st.vars));rw[oF];exact put_comm hcd
 ·have hxa':aK x.k=false:=by simpa using hxa
  have hyr:isApp y.k=false∧(writes y.k=true→∃s,y.tg=some s)∧∀t∈bX y,t<1000∧x.un.contains t=true:=by
   rcases hap.xa with h|h;·exact absurd h.1 hxa
   ·exact h
  have hpy:plain e':=hey.plain hyr.1;by_cases hya:aK y.k=true
  ·obtain⟨⟨v,rfl⟩,hyo⟩:=dC hya hy.2.1;rcases xQ e with hp|⟨t,o,rfl⟩
   ·have hy0:Yi P Γ y st (.put v):=by rw[dR hp]at hy;exact(Yi.wN hap.ya (.inl hya) hydd hux hagx).1 hy
    refine⟨.put v,e,hy0,Yi.vars (fun s hs=>(hvy _ _ s hs).symm) hx,?_⟩;rw[dR hp,dR hp];exact St.ext' (put_comm hcd) rfl
   ·have hun:y.un=[]:=by
     rcases hap.ya with h|h;·exact h.2
     ·have:=vm hex;rw[h.1]at this;cases this
    have htg:y.tg=none:=by have:=hy.2.2.1;cases h:y.tg with|none=>rfl|some s=>rw[h]at this;exact this.elim
    have hk:=dV (vars':=cr t st.vars) (hvx _ _) hy.2.1;obtain⟨u,hu,hk'⟩:=pN hya hk;cases hu;refine⟨.put u,.app t o,⟨.inl hun,hk' _,by rw[htg];exact And.intro trivial trivial⟩,Yi.vars (fun s hs=>(hvy _ _ s hs).symm) hx,?_⟩;refine St.ext' ?_ rfl;show Ab.put x.d (.own t) (cr t (Ab.put y.d u st.vars))=Ab.put y.d (kill t u) (Ab.put x.d (.own t) (cr t st.vars));rw[oF];exact put_comm hcd
  ·have hya':aK y.k=false:=by simpa using hya
   have hxr:isApp x.k=false∧(writes x.k=true→∃s,x.tg=some s)∧∀t∈bX x,t<1000∧y.un.contains t=true:=by
    rcases hap.ya with h|h;·exact absurd h.1 hya
    ·exact h
   have hpx:plain e:=hex.plain hxr.1;have hy0:Yi P Γ y st e':=by rw[dR hpx]at hy;exact(Yi.wN hap.ya (.inr hyr.1) hydd hux hagx).1 hy
   refine⟨e',e,hy0,?_,?_⟩;·rw[dR hpy];exact(Yi.wN hap.xa (.inr hxr.1) hxdd huy hagy).2 hx
   ·rw[dR hpx,dR hpy,dR hpx,dR hpy];refine St.ext' (put_comm hcd) (DR fun t=>?_);cases h1:ov e t with|none=>exact .inl rfl|some o1=>cases h2:ov e' t with|none=>exact .inr rfl|some o2=>
     refine(Bz hap hxa' hya' (t%1000) ?_ ?_).elim;·exact xH hex hx.2.2.1 (fun t ht=>(hxr.2.2 t ht).1) hxr.2.1 hxr.1 (by rw[h1];simp)
     ·exact xH hey hy.2.2.1 (fun t ht=>(hyr.2.2 t ht).1) hyr.2.1 hyr.1 (by rw[h2];simp)
theorem swapT (hap:Apt x y) (hx:Yi P Γ x st e) (hy:Yi P Γ y (e.on x.d st) e'):∃e1 e2,Yi P Γ y st e1∧Yi P Γ x (e1.on y.d st) e2∧e2.on x.d (e1.on y.d st)=e'.on y.d (e.on x.d st):=hap.elim (fun h=>swap h hx hy) fun h=>WR h hx hy
end
section
variable{P:Program}{Γ:bJ}{ops:Array Oper}{is:Array AI}
def opA (P:Program) (Γ:bJ) (is:Array AI) (i:Nat) (K:St→Prop) (st:St):Prop:=match is[i]? with|some x=>cR P Γ x K st|none=>K st
theorem uw {i:AI}{K K':St→Prop}{st:St} (h:∀st,K st→K' st) (hh:cR P Γ i K st):cR P Γ i K' st:=by rw[cp]at hh ⊢;obtain⟨e,he,hK⟩:=hh;exact⟨e,he,h _ hK⟩
def anyA (P:Program) (Γ:bJ) (ops:Array Oper) (is:Array AI) (Q:St→Prop):Nat→Array Bool→St→Prop|0,listed,st=>Region.ready .any ops listed=[]∧Q st|fuel+1,listed,st=>(Region.ready .any ops listed=[]→Q st)∧∀i∈Region.ready .any ops listed,opA P Γ is i (anyA P Γ ops is Q fuel (listed.setIfInBounds i true)) st
def pV (ops:Array Oper) (listed:Array Bool):Prop:=∀j o,ops[j]?=some o→listed.getD j false=true→∀e∈o.after,Region.binds .any e=true→listed.getD e.on false=true
theorem pV.set {listed:Array Bool}{i:Nat} (h:pV ops listed) (hi:i∈Region.ready .any ops listed):pV ops (listed.setIfInBounds i true):=by
 intro j o hj hl e he hb;obtain⟨h0,o',ho',hall⟩:=mem_ready.1 hi;by_cases hij:i=j;·subst hij;rw[hj]at ho';cases ho';exact getD_set_true (hall e he hb)
 ·rw[getD_set_ne false hij]at hl;exact getD_set_true (h j o hj hl e he hb)
theorem chain {n:Nat} (hch:∀j,j<n→∀i,i<j→lx ops i j=true) {listed:Array Bool} (hc:pV ops listed) {i:Nat}:∀j,j<n→i<j→bits ops i j=true→(∃o,ops[j]?=some o∧∀e∈o.after,Region.binds .any e=true→listed.getD e.on false=true)→listed.getD i false=true:=by intro j;induction j using Nat.strongRecOn with|_ j ih=>
 rintro hjn hij hb ⟨o,ho,hall⟩;have h:=hch j hjn i hij;unfold lx at h;rw[hb,ho]at h;simp only[Bool.not_true,Bool.false_or]at h;obtain⟨e,he,h⟩:=List.any_eq_true.1 h;replace he:=Array.mem_toList_iff.1 he;simp only[Bool.and_eq_true,Bool.or_eq_true,beq_iff_eq,decide_eq_true_eq]at h;obtain⟨hbe,h⟩:=h;have hl:=hall e he hbe;rcases h with rfl|⟨⟨h1,h2⟩,h3⟩;·exact hl
 ·cases hk:ops[e.on]? with|none=>
   exfalso;rw[Hm]at h3;have hlt:¬e.on<ops.size:=by intro hlt;rw[Array.getElem?_eq_getElem hlt]at hk;cases hk
   have hjlt:j<ops.size:=(Array.getElem?_eq_some_iff.1 ho).1;omega|some o'=>exact ih e.on h2 (by omega) h1 h3 ⟨o',hk,fun e' he' hb'=>hc e.on o' hk hl e' he' hb'⟩
def ei (n k:Nat):Array Bool:=((List.range n).map fun j=>decide (j<k)).toArray
theorem fX {n k j:Nat} (d:Bool) (h:j<n):(ei n k).getD j d=decide (j<k):=by simp[ei,h]
theorem AW {n k:Nat} (h:k<n):(ei n k).setIfInBounds k true=ei n (k+1):=by
 apply Array.ext;·simp[ei]
 ·intro j h1 h2;have hj:j<n:=by simpa[ei]using h2
  by_cases hjk:j=k;·subst hjk;simp[ei,h]
  ·rw[Array.getElem_setIfInBounds_ne (by simpa[ei]using hj) (Ne.symm hjk)];simp only[ei,List.getElem_toArray,List.getElem_map,List.getElem_range,decide_eq_decide];omega
def anyS (S:Nat→(St→Prop)→St→Prop) (ops:Array Oper) (Q:St→Prop):Nat→Array Bool→St→Prop|0,listed,st=>Region.ready .any ops listed=[]∧Q st|fuel+1,listed,st=>(Region.ready .any ops listed=[]→Q st)∧∀i∈Region.ready .any ops listed,S i (anyS S ops Q fuel (listed.setIfInBounds i true)) st
theorem tQ {S:Nat→(St→Prop)→St→Prop}{Q:St→Prop}{i:Nat} (hmono:∀(j:Nat) (K K':St→Prop) (st:St),(∀st,K st→K' st)→S j K st→S j K' st) (hstrict:∀(j:Nat) (st:St),¬S j (fun _=>False) st) (hch:∀j,j<ops.size→∀i,i<j→lx ops i j=true) (un:Nat→Prop) (hsw:∀(j:Nat) (K:St→Prop) (st:St),j<ops.size→un j→(i<j→bits ops i j=false)→S i (S j K) st→S j (S i K) st):∀(fuel:Nat) (listed:Array Bool) (st:St),pV ops listed→(∀j,j<ops.size→listed.getD j true=false→j≠i→un j)→listed.size=ops.size→i∈Region.ready .any ops listed→S i (anyS S ops Q fuel (listed.setIfInBounds i true)) st→anyS S ops Q (fuel+1) listed st:=by intro fuel;induction fuel with
 |zero=>
  intro listed st hc hlt hls hr H;refine⟨fun h=>(by rw[h]at hr;cases hr),fun j hj=>?_⟩;by_cases hji:j=i;·subst hji;exact H
  ·exfalso;refine hstrict i st (hmono i _ _ st (fun st' h=>?_) H);have:=ready_mono hj hji;rw[h.1]at this;cases this|succ fuel ih=>
  intro listed st hc hlt hls hr H;refine⟨fun h=>(by rw[h]at hr;cases hr),fun j hj=>?_⟩;by_cases hji:j=i;·subst hji;exact H
  ·obtain⟨hjun,oj,hoj,hall⟩:=mem_ready.1 hj;have hjlt:j<ops.size:=(Array.getElem?_eq_some_iff.1 hoj).1;have hij:=hlt j hjlt hjun hji;have hiun:=(mem_ready.1 hr).1;have hilt:i<ops.size:=by obtain⟨_,o,ho,_⟩:=mem_ready.1 hr;exact(Array.getElem?_eq_some_iff.1 ho).1
   have hbits:i<j→bits ops i j=false:=by intro hij;cases hb:bits ops i j with|false=>rfl|true=>
    have h1:=chain hch hc j hjlt hij hb ⟨oj,hoj,hall⟩;have hilt:i<listed.size:=by omega
    simp[hilt]at h1 hiun;rw[hiun]at h1;cases h1
   have h1:=hsw j _ st hjlt hij hbits (hmono i _ _ st (fun st' h=>h.2 j (ready_mono hj hji)) H);refine hmono j _ _ st (fun st' h=>?_) h1;refine ih (listed.setIfInBounds j true) st' (hc.set hj) ?_ (by simpa using hls) (ready_mono hr (Ne.symm hji)) ?_
   ·intro k hk hun hki;by_cases hjk:j=k;·subst hjk;exact hij
    ·rw[getD_set_ne true hjk]at hun;exact hlt k hk hun hki
   ·rw[Array.setIfInBounds_comm _ _ (Ne.symm hji)]at h;exact h
def Cp (S:Nat→(St→Prop)→St→Prop) (Q:St→Prop):Nat→Nat→St→Prop|0,_,st=>Q st|m+1,k,st=>S k (Cp S Q m (k+1)) st
theorem HF {S:Nat→(St→Prop)→St→Prop}{Q:St→Prop} (hmono:∀(j:Nat) (K K':St→Prop) (st:St),(∀st,K st→K' st)→S j K st→S j K' st) (hstrict:∀(j:Nat) (st:St),¬S j (fun _=>False) st) (hch:∀j,j<ops.size→jI ops j=true∧∀i,i<j→lx ops i j=true) (hsw:∀(i j:Nat) (K:St→Prop) (st:St),j<ops.size→i<j→bits ops i j=false→S i (S j K) st→S j (S i K) st):∀(m k:Nat) (st:St),k+m=ops.size→Cp S Q m k st→anyS S ops Q m (ei ops.size k) st:=by intro m;induction m with
 |zero=>intro k st hk hs;refine⟨?_,hs⟩;cases hr:Region.ready .any ops (ei ops.size k) with|nil=>rfl|cons j js=>
   have hj:j∈Region.ready .any ops (ei ops.size k):=by rw[hr];exact List.mem_cons_self
   obtain⟨h0,o,ho,_⟩:=mem_ready.1 hj;have hjlt:j<ops.size:=(Array.getElem?_eq_some_iff.1 ho).1;rw[fX true hjlt]at h0;simp only[decide_eq_false_iff_not]at h0;omega
 |succ m ih=>
  intro k st hk hs;have hko:k<ops.size:=by omega
  have hearly:∀j o,ops[j]?=some o→∀e∈o.after,Region.binds .any e=true→e.on<j:=by
   intro j o ho e he hb;have h:=(hch j (Array.getElem?_eq_some_iff.1 ho).1).1;unfold jI at h;rw[ho]at h;simp only[List.all_eq_true,Bool.or_eq_true,Bool.not_eq_true',decide_eq_true_eq]at h;rcases h e (Array.mem_toList_iff.2 he) with h|h;·rw[hb]at h;cases h
   ·exact h
  refine tQ hmono hstrict (fun j hj i hij=>(hch j hj).2 i hij) (fun j=>k<j) (fun j K st hj hij hb=>hsw k j K st hj hij (hb hij)) m (ei ops.size k) st ?_ ?_ (by simp[ei]) ?_ ?_;·intro j o ho hl e he hb;have hjlt:=(Array.getElem?_eq_some_iff.1 ho).1;rw[fX false hjlt]at hl;simp only[decide_eq_true_eq]at hl;have:=hearly j o ho e he hb;rw[fX false (by omega)];simp only[decide_eq_true_eq];omega
  ·intro j hj hun hne;rw[fX true hj]at hun;simp only[decide_eq_false_iff_not]at hun;omega
  ·refine mem_ready.2 ⟨by rw[fX true hko];simp,ops[k],by rw[Array.getElem?_eq_getElem hko],fun e he hb=>?_⟩;have:=hearly k ops[k] (by rw[Array.getElem?_eq_getElem hko]) e he hb;rw[fX false (by omega)];simpa using this
  ·rw[AW hko];exact hmono k _ _ st (fun st' h=>ih (k+1) st' (by omega) h) hs
def Hl (S:Nat→(St→Prop)→St→Prop) (Q:St→Prop):List Nat→St→Prop|[],st=>Q st|i::l,st=>S i (Hl S Q l) st
def cw (n:Nat) (pre:List Nat):Array Bool:=((List.range n).map fun j=>pre.contains j).toArray
theorem gx {n j:Nat}{pre:List Nat} (d:Bool) (h:j<n):(cw n pre).getD j d=pre.contains j:=by simp[cw,h]
theorem Ar {n k:Nat}{pre:List Nat} (h:k<n):(cw n pre).setIfInBounds k true=cw n (k::pre):=by
 apply Array.ext;·simp[cw]
 ·intro j h1 h2;have hj:j<n:=by simpa[cw]using h2
  by_cases hjk:j=k;·subst hjk;simp[cw,h]
  ·rw[Array.getElem_setIfInBounds_ne (by simpa[cw]using hj) (Ne.symm hjk)];have:¬k=j:=fun e=>hjk e.symm;simp[cw,hjk]
theorem Ff {S:Nat→(St→Prop)→St→Prop}{Q:St→Prop}{ks:Array AI} (hmono:∀(j:Nat) (K K':St→Prop) (st:St),(∀st,K st→K' st)→S j K st→S j K' st) (hstrict:∀(j:Nat) (st:St),¬S j (fun _=>False) st) (hch:∀j,j<ops.size→jI ops j=true∧∀i,i<j→lx ops i j=true) (hsw:∀(i j:Nat) (K:St→Prop) (st:St),(∃x y,ks[i]?=some x∧ks[j]?=some y∧tH x y=true)→S i (S j K) st→S j (S i K) st):∀(l pre:List Nat) (st:St),(∀j,j<ops.size→pre.contains j=false→j∈l)→(∀j∈l,j<ops.size)→(∀j,pre.contains j=true→j<ops.size)→pV ops (cw ops.size pre)→J1 ops ks pre l=true→Hl S Q l st→anyS S ops Q l.length (cw ops.size pre) st:=by intro l;induction l with
 |nil=>intro pre st hall _ _ _ _ hs;refine⟨?_,hs⟩;cases hr:Region.ready .any ops (cw ops.size pre) with|nil=>rfl|cons j js=>
   have hj:j∈Region.ready .any ops (cw ops.size pre):=by rw[hr];exact List.mem_cons_self
   obtain⟨h0,o,ho,_⟩:=mem_ready.1 hj;have hjlt:j<ops.size:=(Array.getElem?_eq_some_iff.1 ho).1;rw[gx true hjlt]at h0;have:=hall j hjlt h0;cases this
 |cons i l ih=>
  intro pre st hall hlt hpre hcl hord hs;unfold J1 at hord;simp only[Bool.and_eq_true]at hord;obtain⟨⟨⟨h1,h2⟩,h3⟩,h4⟩:=hord;have hio:i<ops.size:=hlt i List.mem_cons_self;have hipre:pre.contains i=false:=by simpa using h2
  have hready:i∈Region.ready .any ops (cw ops.size pre):=by
   refine mem_ready.2 ⟨by rw[gx true hio];exact hipre,ops[i],by rw[Array.getElem?_eq_getElem hio],fun e he hb=>?_⟩;rw[Array.getElem?_eq_getElem hio]at h1;simp only[List.all_eq_true,Bool.or_eq_true,Bool.not_eq_true']at h1;rcases h1 e (Array.mem_toList_iff.2 he) with h|h;·rw[hb]at h;cases h
   ·rw[gx false (hpre e.on h)];exact h
  have hset:(cw ops.size pre).setIfInBounds i true=cw ops.size (i::pre):=Ar hio;rw[List.all_eq_true]at h3;refine tQ hmono hstrict (fun j hj i hij=>(hch j hj).2 i hij) (fun j=>j∈l) (fun j K st hj hjl hb=>hsw i j K st ?_) l.length (cw ops.size pre) st hcl ?_ (by simp[cw]) hready ?_
  ·have h5:=h3 j hjl;rw[Bool.or_eq_true]at h5;rcases h5 with h5|h5;·exfalso;simp only[Bool.and_eq_true,decide_eq_true_eq]at h5;rw[hb h5.1]at h5;cases h5.2
   ·split at h5;·rename_i x y hx hy;exact⟨x,y,hx,hy,h5⟩
    ·cases h5
  ·intro j hj hun hne;rw[gx true hj]at hun;rcases List.mem_cons.1 (hall j hj hun) with rfl|h;·exact absurd rfl hne
   ·exact h
  ·rw[hset];have hcl':=hcl.set hready;rw[hset]at hcl';refine hmono i _ _ st (fun st' h=>ih (i::pre) st' (fun j hj hun=>?_) (fun j hj=>hlt j (List.mem_cons_of_mem _ hj)) (fun j hj=>?_) hcl' h4 h) hs
   ·simp only[List.contains_cons,Bool.or_eq_false_iff,beq_eq_false_iff_ne]at hun;rcases List.mem_cons.1 (hall j hj hun.2) with rfl|h;·exact absurd rfl hun.1
    ·exact h
   ·simp only[List.contains_cons,Bool.or_eq_true,beq_iff_eq]at hj;rcases hj with rfl|h;·exact hio
    ·exact hpre j h
theorem Bs {d:Option Nat}{f:FuncId}{xs:List AV}{p k:Nat}{K K':St→Prop}{st:St} (h:∀st,K st→K' st) (hs:kJ P Γ d f xs p k K st):kJ P Γ d f xs p k K' st:=by unfold kJ at hs ⊢;obtain⟨d,hd,ha,hs⟩:=ae hs;obtain⟨X,hX,hs⟩:=ae hs;obtain⟨T,hT,ho,hs⟩:=ae hs;obtain⟨ys,hy,hs⟩:=ae hs;obtain⟨x,hx,h1,h2,h3,h4,hK⟩:=ae hs;rw[hd];refine⟨ha,?_⟩;rw[hX];show ai (fp st.aa k X) _;rw[hT];refine⟨ho,?_⟩;rw[hy];show ai (Γ (f+1000000) ys) _;rw[hx];exact⟨h1,h2,h3,h4,h _ hK⟩
theorem gg {d:Option Nat}{f:FuncId}{xs:List AV}{ks:Option (List Nat)}{K K':St→Prop}{st:St} (h:∀st,K st→K' st) (hs:stepG Γ d f xs ks K st):stepG Γ d f xs ks K' st:=by unfold stepG at hs;obtain⟨d,rfl,ha,hs⟩:=ae hs;obtain⟨ks,rfl,hT,hQ,hn,hs⟩:=ae hs;obtain⟨ys,hy,hs⟩:=ae hs;obtain⟨x,hx,h1,h2,hs⟩:=ae hs;obtain⟨o,ho,h3,hs⟩:=ae hs;obtain⟨r,hr,h4,hK⟩:=ae hs;refine⟨ha,hT,hQ,hn,?_⟩;rw[hy];show ai (Γ (f+2000000) ys) _;rw[hx];refine⟨h1,h2,?_⟩;rw[ho];refine⟨h3,?_⟩;rw[hr];exact⟨h4,h _ hK⟩
theorem qZ {d:Option Nat}{f:FuncId}{xs:List AV}{ks:Option (List Nat)}{st:St} (hs:stepG Γ d f xs ks (fun _=>False) st):False:=by unfold stepG at hs;obtain⟨d,rfl,ha,hs⟩:=ae hs;obtain⟨ks,rfl,hT,hQ,hn,hs⟩:=ae hs;obtain⟨ys,hy,hs⟩:=ae hs;obtain⟨x,hx,h1,h2,hs⟩:=ae hs;obtain⟨o,ho,h3,hs⟩:=ae hs;obtain⟨r,hr,h4,hK⟩:=ae hs;exact hK
theorem zD {d:Option Nat}{xs:List AV}{K K':St→Prop}{st:St} (h:∀st,K st→K' st) (hs:fH P Γ d xs none K st):fH P Γ d xs none K' st:=by
 unfold fH at hs ⊢;obtain⟨ha,hs⟩:=hs;obtain⟨x,hx,hf,hs⟩:=ae hs;refine⟨ha,?_⟩;rw[hx];refine⟨hf,?_⟩;unfold eH at hs ⊢;split at hs
 ·split at hs;·rename_i h2;rw[if_pos h2];exact gg h hs
  ·exact hs.elim
 ·obtain⟨d,hd,ha,hs⟩:=ae hs;obtain⟨ys,hy,hs⟩:=ae hs;obtain⟨z,hz,h1,h2,h3,h4,hK⟩:=ae hs;unfold cx;subst hd;refine⟨ha,?_⟩;rw[hy];show ai (gt Γ x.1 ys) _;rw[hz];exact⟨h1,h2,h3,h4,h _ hK⟩
theorem iJ {i:AI}{K K':St→Prop}{st:St} (h:∀st,K st→K' st) (hs:cB P Γ i K st):cB P Γ i K' st:=by
 unfold cB at hs ⊢;split at hs
 ·unfold gQ at hs ⊢;split at hs
  ·split at hs;·rename_i h1;rw[if_pos h1];exact⟨hs.1,Bs h hs.2⟩
   ·rename_i h1;rw[if_neg h1];split at hs;·rename_i h2;rw[if_pos h2];exact⟨hs.1,gg h hs.2⟩
    ·exact hs.elim
  ·exact uw h hs
 ·exact zD h hs
 ·exact uw h hs
theorem oP {i:AI}{st:St} (hs:cB P Γ i (fun _=>False) st):False:=by
 have hI:∀{i:AI},¬cR P Γ i (fun _=>False) st:=fun h=>by obtain⟨_,_,h⟩:=cp.1 h;exact h
 unfold cB at hs;split at hs
 ·unfold gQ at hs;split at hs
  ·split at hs;·have hs:=hs.2;unfold kJ at hs;obtain⟨_,_,_,hs⟩:=ae hs;obtain⟨_,_,hs⟩:=ae hs;obtain⟨_,_,_,hs⟩:=ae hs;obtain⟨_,_,hs⟩:=ae hs;obtain⟨_,_,_,_,_,_,hK⟩:=ae hs;exact hK
   ·split at hs;·exact qZ hs.2
    ·exact hs
  ·exact hI hs
 ·unfold fH at hs;obtain⟨_,hs⟩:=hs;obtain⟨_,_,_,hs⟩:=ae hs;unfold eH at hs;split at hs
  ·split at hs;·exact qZ hs
   ·exact hs
  ·obtain⟨_,_,_,hs⟩:=ae hs;obtain⟨_,_,hs⟩:=ae hs;obtain⟨_,_,_,_,_,_,hK⟩:=ae hs;exact hK
 ·exact hI hs
theorem c7 {i:AI} (h:i.tg≠some 999999) {K:St→Prop}{st:St}:cB P Γ i K st=cR P Γ i K st:=by
 unfold cB;split;·rename_i h1 _;exact absurd h1 h
 ·rename_i h1 _;exact absurd h1 h
 ·rfl
theorem F5 {dd:Nat}{c:AV}{vars:Nat→AV}{xs:List Operand} (h:(tmpsOf xs).contains dd=false):xs.map (ev (put (some dd) c vars))=xs.map (ev vars):=by induction xs with|nil=>rfl|cons x xs ih=>cases x with|tmp t=>simp only[tmpsOf,List.contains_cons,Bool.or_eq_false_iff,beq_eq_false_iff_ne]at h;have ht:t≠dd:=fun e=>h.1 e.symm;rw[List.map_cons,List.map_cons,ih h.2];simp only[ev,put,if_neg ht]|const v=>simp only[tmpsOf]at h;rw[List.map_cons,List.map_cons,ih h];rfl|func f=>simp only[tmpsOf]at h;rw[List.map_cons,List.map_cons,ih h];rfl|global g=>simp only[tmpsOf]at h;rw[List.map_cons,List.map_cons,ih h];rfl
theorem JW (t:Nat) (v:Value):kill t (cv v)=cv v:=by unfold cv;split<;>rfl
theorem lC {d dd:Nat} (h:d≠dd) (r c:AV) (f:Nat→AV):put (some d) r (put (some dd) c f)=put (some dd) c (put (some d) r f):=by
 funext s;simp only[put];by_cases h1:s=d<;>by_cases h2:s=dd;·omega
 ·simp[h1,h]
 ·simp[h2,Ne.symm h]
 ·simp[h1,h2]
def kU (t:Nat) (x:AV) (c:AV):AV:=match dW x with|_::_=>c|[]=>kill t c
theorem EH (t:Nat) (x:AV) (dd:Nat) (c:AV) (f:Nat→AV):gP t x (put (some dd) c f)=put (some dd) (kU t x c) (gP t x f):=by unfold gP kU;cases dW x with|cons y l=>rfl|nil=>funext s;simp only[cr,put];split<;>rfl
theorem IG (W:List Nat) (v:Value):eT W (cv v)=cv v:=by
 unfold eT;split;·rfl
 ·unfold cv;split<;>rfl
theorem vW (W:List Nat) (dd:Nat) (c:AV) (f:Nat→AV):gM W (put (some dd) c f)=put (some dd) (eT W c) (gM W f):=by funext s;simp only[gM,put];split<;>rfl
def yu (d:Option Nat):Operand→Prop|.const _=>True|.tmp s=>d≠some s|_=>False
theorem Jg {x:AI}{o:Operand} (h:Zf x o=true):yu x.d o:=by cases o with|const v=>trivial|tmp s=>have h:(x.d !=some s)=true:=h;simpa[yu]using h|func f=>cases h|global g=>cases h
theorem sb {d:Nat}{o:Operand} (h:yu (some d) o) (r:AV) (f:Nat→AV):ev (put (some d) r f) o=ev f o:=by cases o with|const v=>rfl|tmp s=>have:s≠d:=fun e=>h (by rw[e]);simp only[ev,put,if_neg this]|func f=>exact h.elim|global g=>exact h.elim
theorem IL {d:Option Nat}{o:Operand} (h:yu d o) (W:List Nat) (f:Nat→AV):ev (gM W f) o=eT W (ev f o):=by cases o with|const v=>exact(IG W v).symm|tmp s=>rfl|func f=>exact h.elim|global g=>exact h.elim
theorem F6 {d:Option Nat}{o:Operand} (h:yu d o) (t:Nat) (x:AV) (f:Nat→AV):ev (gP t x f) o=kU t x (ev f o):=by unfold gP kU;cases o with
 |const v=>cases dW x with|cons y l=>rfl|nil=>exact(JW t v).symm
 |tmp s=>cases dW x<;>rfl|func f=>exact h.elim|global g=>exact h.elim
theorem zO {d:Option Nat}{f:FuncId}{xs:List AV}{ks:Option (List Nat)}{dd:Nat}{o:Operand} (ho:yu d o) (hd:d≠some dd) {K:St→Prop}{st:St}:stepG Γ d f xs ks (fun st'=>K ⟨put (some dd) (ev st'.vars o) st'.vars,st'.aa⟩) st=stepG Γ d f xs ks K ⟨put (some dd) (ev st.vars o) st.vars,st.aa⟩:=by unfold stepG;cases d with|none=>rfl|some d=>have hne:d≠dd:=fun e=>hd (by rw[e]);simp only[ai,yo,xC,yl,vW,lC hne,sb ho,IL ho]
theorem BN {d:Option Nat}{f:FuncId}{xs:List AV}{dd:Nat}{o:Operand} (ho:yu d o) (hd:d≠some dd) {K:St→Prop}{st:St}:cx P Γ d f xs st.aa (fun e=>K ⟨put (some dd) (ev (e.on d st).vars o) (e.on d st).vars,(e.on d st).aa⟩)=cx P Γ d f xs st.aa (fun e=>K (e.on d ⟨put (some dd) (ev st.vars o) st.vars,st.aa⟩)):=by unfold cx;cases d with|none=>rfl|some d=>have hne:d≠dd:=fun e=>hd (by rw[e]);simp only[ai,bA.on,lC hne,sb ho]
theorem Gg {d:Option Nat}{xs:List AV}{dd:Nat}{o:Operand} (ho:yu d o) (hd:d≠some dd) {K:St→Prop}{st:St}:fH P Γ d xs none (fun st'=>K ⟨put (some dd) (ev st'.vars o) st'.vars,st'.aa⟩) st=fH P Γ d xs none K ⟨put (some dd) (ev st.vars o) st.vars,st.aa⟩:=by
 have key:∀x:FuncId×List AV,eH P Γ d x.1 x.2 (dB Γ x.1) (fun st'=>K ⟨put (some dd) (ev st'.vars o) st'.vars,st'.aa⟩) st=eH P Γ d x.1 x.2 (dB Γ x.1) K ⟨put (some dd) (ev st.vars o) st.vars,st.aa⟩:=by
  intro x;unfold eH;split
  ·split;·exact zO ho hd
   ·rfl
  ·exact BN ho hd
 show(ak xs∧ai (kR (xs.map strip)) fun x=>fo P x.1=true∧eH P Γ d x.1 x.2 (dB Γ x.1) (fun st'=>K ⟨put (some dd) (ev st'.vars o) st'.vars,st'.aa⟩) st)=(ak xs∧ai (kR (xs.map strip)) fun x=>fo P x.1=true∧eH P Γ d x.1 x.2 (dB Γ x.1) K ⟨put (some dd) (ev st.vars o) st.vars,st.aa⟩);simp only[key]
theorem KN {T:List Nat}{st:St}{l:List Nat}{dd:Nat}{c:AV} (hl:dd∉l):mQ T ⟨put (some dd) c st.vars,st.aa⟩ l=mQ T st l:=by induction l with|nil=>rfl|cons s l ih=>have h1:s≠dd:=fun e=>hl (by rw[e];exact List.mem_cons_self);simp only[mQ,put,if_neg h1];rw[←ih (fun h=>hl (List.mem_cons_of_mem _ h))];rfl
theorem G9 {y x:AI} (hk:(∃f,x.k=.call f)∨x.k=.lh) (hg:x.g=none) (ht:x.tg=some 999999) (hc:Mb y x=true) (hun:∀dd,y.d=some dd→dd∉x.un):∃dd o,y=⟨some dd,.nS,[o],none,[],none⟩∧∀(K:St→Prop) (st:St),cB P Γ x (fun st'=>K ⟨put (some dd) (ev st'.vars o) st'.vars,st'.aa⟩) st=cB P Γ x K ⟨put (some dd) (ev st.vars o) st.vars,st.aa⟩:=by
 obtain⟨yd,yk,yxs,yg,yun,ytg⟩:=y;unfold Mb at hc;split at hc
 ·rename_i o dd e1 e2 e3 e4 e5 e6;simp only at e1 e2 e3 e4 e5 e6;subst e1 e2 e3 e4 e5 e6;refine⟨dd,o,rfl,fun K st=>?_⟩;simp only[Bool.and_eq_true,Bool.not_eq_true',bne_iff_ne,ne_eq,cF,hg,List.append_nil]at hc;obtain⟨⟨hok,hu⟩,hd⟩:=hc;have ho:=Jg hok;have hun2:=hun dd rfl;have hev:∀c vars,x.xs.map (ev (put (some dd) c vars))=x.xs.map (ev vars):=fun c vars=>F5 hu;obtain⟨xd,xk,xxs,xg,xun,xtg⟩:=x;simp only at hk hg ht hd hev ho hun2;subst hg ht;rcases hk with⟨f,rfl⟩|rfl
  ·show gQ P Γ _ f (dB Γ f) _ _=gQ P Γ _ f (dB Γ f) _ _;unfold gQ;split
   ·split;·unfold kJ;simp only[hev];cases xd with|none=>rfl|some d=>have hne:d≠dd:=fun e=>hd (by rw[e]);simp only[ai,EH,lC hne,sb ho,F6 ho]
    ·split;·simp only[hev,KN hun2];rw[zO ho hd]
     ·rfl
   ·simp only[cR,dI,hev];unfold aX;simp only[cx];cases xd with|none=>rfl|some d=>have hne:d≠dd:=fun e=>hd (by rw[e]);simp only[ai,bA.on,A7,sM,kH,lC hne,sb ho]
  ·show fH P Γ _ _ none _ _=fH P Γ _ _ none _ _;simp only[hev];exact Gg ho hd
 ·cases hc
theorem zT {dd:Nat}{o:Operand}{K:St→Prop}{st:St}:cB P Γ ⟨some dd,.nS,[o],none,[],none⟩ K st=K ⟨put (some dd) (ev st.vars o) st.vars,st.aa⟩:=by simp[cB,cR,dI,aX,ai,A7,sM,kH,bA.on]
theorem uC {x y:AI} (hk:(∃f,x.k=.call f)∨x.k=.lh) (hg:x.g=none) (ht:x.tg=some 999999) (hc:Mb y x=true) (hun:∀dd,y.d=some dd→dd∉x.un) {K:St→Prop}{st:St}:cB P Γ x (cB P Γ y K) st=cB P Γ y (cB P Γ x K) st:=by obtain⟨dd,o,rfl,h⟩:=G9 (P:=P) (Γ:=Γ) hk hg ht hc hun;rw[zT,←h];congr 1;funext st';exact zT
theorem nP {W:List Nat}:∀{cs:List AV},kS cs=true→cs.map (ec W)=cs|[],_=>rfl|c::cs,h=>by cases c with|pv p=>rw[List.map_cons,nP (cs:=cs) h];rfl|_=>cases h
theorem yz:∀{cs:List AV}{i:Nat}{c:AV},kS cs=true→cs[i]?=some c→∃p,c=.pv p|[],i,c,_,h=>by simp at h|x::cs,i,c,h,hc=>by cases x with
 |pv p=>cases i with|zero=>exact⟨p,by simpa using hc.symm⟩|succ i=>exact yz (cs:=cs) h (by simpa using hc)
 |_=>cases h
theorem su:∀{cs:List AV} (n:Nat),kS cs=true→kS (cs.drop n)=true|cs,0,h=>h|[],n+1,h=>h|c::cs,n+1,h=>by cases c with|pv p=>exact su (cs:=cs) n h|_=>cases h
theorem tG:∀{cs:List AV} (n:Nat),kS cs=true→kS (cs.take n)=true|cs,0,h=>rfl|[],n+1,h=>rfl|c::cs,n+1,h=>by cases c with|pv p=>exact tG (cs:=cs) n h|_=>cases h
theorem Ji (W:List Nat) (p:PV):eT W (.pv p)=.pv p:=by unfold eT;split<;>rfl
theorem E9 {W:List Nat}{cs:List AV} (h:kS cs=true):eT W (.agg cs)=.agg cs:=by
 unfold eT;split;·rfl
 ·show AV.agg (cs.map (ec W))=_;rw[nP h]
theorem DE {W:List Nat}{cs:List AV} (h:kS cs=true):jj W (.box cs)=.box cs:=by
 unfold jj;split;·rfl
 ·show AO.box (cs.map (ec W))=_;rw[nP h]
theorem Ce {n:Option Nat}{t o:Nat}{aa:Nat→Option AO}{cs:List AV} (ht:aa t=some (.box cs)) (hp:kS cs=true) {x:Prop×AV} (h:aj (.load n) [.ptr t o] aa=some x):(∀W,eT W x.2=x.2)∧∀objs',objs' t=some (.box cs)→aj (.load n) [.ptr t o] objs'=some x:=by cases n with
 |none=>
  simp only[aj,ht,eK,Option.bind_some]at h ⊢;refine⟨?_,fun objs' h'=>by rw[h'];exact h⟩;obtain⟨c,hc,h⟩:=Option.bind_eq_some_iff.1 h;obtain⟨p,rfl⟩:=yz hp hc;split at h;·cases h;exact fun W=>Ji W p
  ·cases h|some n=>
  simp only[aj,ht,eK,Option.bind_some]at h ⊢;refine⟨?_,fun objs' h'=>by rw[h'];exact h⟩;split at h;·cases h;exact fun W=>E9 (tG _ (su _ hp))
  ·cases h
theorem wB {T:List Nat}{st:St}{s:Nat}:∀{l:List Nat},mQ T st l→s∈l→∃t o cs,st.vars s=.ptr t o∧st.aa t=some (.box cs)∧kS cs=true∧T.contains t=false
 |[],_,hm=>by cases hm|s'::l,h,hm=>by
  rcases List.mem_cons.1 hm with rfl|hm
  ·obtain⟨t,ht,hT⟩:=ae h.1;unfold ldT at ht;split at ht
   ·rename_i t' o e;obtain⟨cs,hb,ht⟩:=Option.bind_eq_some_iff.1 ht;split at ht;·rename_i hp;cases ht;refine⟨_,o,cs,e,?_,hp,hT⟩;revert hb;cases st.aa t with|none=>intro hb;cases hb|some ob=>cases ob with|box l=>intro hb;cases hb;rfl|_=>intro hb;cases hb
    ·cases ht
   ·cases ht
  ·exact wB h.2 hm
theorem AA {dd s:Nat}{n:Option Nat}{un:List Nat}{K:St→Prop}{st:St}:cB P Γ ⟨some dd,.load n,[.tmp s],none,un,none⟩ K st=((un=[]∨jE un st.aa [strip (st.vars s)])∧asks (st.vars s)∧ai (aj (.load n) [strip (st.vars s)] st.aa) fun x=>x.1∧K ⟨put (some dd) x.2 st.vars,st.aa⟩):=by show((un=[]∨jE un st.aa [strip (st.vars s)])∧(asks (st.vars s)∧True)∧ai (aj (.load n) [strip (st.vars s)] st.aa) fun x=>x.1∧A7 un none (.put x.2)∧K ((bA.put x.2).on (some dd) st))=_;simp[A7,sM,kH,bA.on]
theorem DS {d:Option Nat}{f:FuncId}{xs:List AV}{ks:Option (List Nat)}{K K2:St→Prop}{st st':St} (ho:st'.aa=st.aa) (hK:∀d' W r objs1,d=some d'→(∀t∈W,t∈Dd ks st.aa (xs.map strip))→(∀t c,(Dd ks st.aa (xs.map strip)).contains t=false→st.aa t=some c→objs1 t=some (jj W c))→K ⟨put (some d') r (gM W st'.vars),objs1⟩→K2 ⟨put (some d') r (gM W st.vars),objs1⟩) (hs:stepG Γ d f xs ks K st'):stepG Γ d f xs ks K2 st:=by
 unfold stepG at hs;rw[ho]at hs;obtain⟨d,rfl,ha,hs⟩:=ae hs;obtain⟨ks,rfl,hT,hQ,hn,hs⟩:=ae hs;obtain⟨ys,hy,hs⟩:=ae hs;rw[ho]at hy;obtain⟨x,hx,h1,h2,hs⟩:=ae hs;obtain⟨o,hoo,h3,hs⟩:=ae hs;obtain⟨r,hr,h4,h5⟩:=ae hs;rw[ho]at h4 h5;refine⟨ha,hT,hQ,hn,?_⟩;rw[hy];show ai (Γ (f+2000000) ys) _;rw[hx];refine⟨h1,h2,?_⟩;rw[hoo];refine⟨h3,?_⟩;rw[hr];refine⟨h4,hK _ _ _ _ rfl (fun t ht=>(List.mem_filter.1 ht).1) (fun t c htT hc=>?_) h5⟩;show(match ab (o.2.1++r.2.1) t with|some o=>some o|none=>_)=_;have hno:ab (o.2.1++r.2.1) t=none:=by cases hl:ab (o.2.1++r.2.1) t with|none=>rfl|some c'=>
  obtain⟨q,hq,rfl⟩:=im _ _ _ hl;rcases h4 _ hq with h|h;·have htT:(eF st.aa ks (xs.map strip)).contains q.1=false:=htT;rw[htT]at h;cases h
  ·rw[hc]at h;cases h
 rw[hno];unfold eL;have htT:(eF st.aa ks (xs.map strip)).contains t=false:=htT;rw[htT,hc];rfl
theorem JK {x y:AI}{f:FuncId} (hxk:x.k=.call f) (hg:x.g=none) (ht:x.tg=some 999999) {p k:Nat} (hfl:dB Γ f=some (p,k)) {dd s:Nat}{n:Option Nat}{un:List Nat} (hy:y=⟨some dd,.load n,[.tmp s],none,un,none⟩) (hds:x.d≠some s) (hu:(cF x).contains dd=false) (hdd:x.d≠some dd) (hsd:dd≠s) (hsu:s∈x.un) (hdu:dd∉x.un) {K:St→Prop}{st:St} (hs:cB P Γ y (cB P Γ x K) st):cB P Γ x (cB P Γ y K) st:=by
 subst hy;obtain⟨xd,xk,xxs,xg,xun,xtg⟩:=x;simp only at hxk hg ht hds hdd hsu hdu;subst hxk hg ht;have hu':(tmpsOf xxs).contains dd=false:=by simpa[cF]using hu
 have hev:∀c vars,xxs.map (ev (put (some dd) c vars))=xxs.map (ev vars):=fun c vars=>F5 hu';rw[AA]at hs;obtain⟨hn,ha,hs⟩:=hs;obtain⟨v,hv,hφ,hs⟩:=ae hs;change gQ P Γ _ f (dB Γ f) K _ at hs;show gQ P Γ _ f (dB Γ f) _ st;rw[hfl]at hs ⊢;unfold gQ at hs ⊢;dsimp only at hs ⊢;split at hs;·rw[hs.1]at hsu;cases hsu
 rename_i hk;rw[if_neg hk];split at hs;rotate_left;·exact hs.elim
 rename_i hk2;rw[if_pos hk2];simp only[hev,KN hdu]at hs;obtain⟨hl,hs⟩:=hs;refine⟨hl,?_⟩;obtain⟨t,o,cs,e1,e2,e3,e4⟩:=wB hl hsu;rw[e1]at hn hv;obtain⟨hw,hq⟩:=Ce e2 e3 hv;refine DS (st':=⟨put (some dd) v.2 st.vars,st.aa⟩) rfl (fun d' W r objs1 hd' hW ho h=>?_) hs;subst hd';have hWt:W.contains t=false:=by cases hc:W.contains t with|false=>rfl|true=>have:=hW t (by simpa using hc);rw[←List.contains_iff_mem]at this;rw[this]at e4;cases e4
 have hsd':s≠d':=fun e=>hds (by rw[e]);have hdd':d'≠dd:=fun e=>hdd (by rw[e]);have h1:=ho t _ e4 e2;rw[DE e3]at h1;have hvs:(put (some d') r (gM W st.vars)) s=.ptr t o:=by
  simp only[put,if_neg hsd',gM,e1];unfold eT;split;·rfl
  ·show(if W.contains t=true then AV.au else .ptr t o)=_;rw[hWt];rfl
 rw[AA];simp only[hvs];refine⟨?_,trivial,?_⟩
 ·rcases hn with hn|hn;·exact .inl hn
  ·right;have hb:eK (objs1 t)=eK (st.aa t):=by rw[h1,e2]
   refine⟨?_,trivial⟩;have:=hn.1;simpa only[strip,qO,nu,hb]using this
 ·show ai (aj (.load n) [.ptr t o] objs1) _;rw[hq objs1 h1];refine⟨hφ,?_⟩;have e:put (some d') r (gM W (put (some dd) v.2 st.vars))=put (some dd) v.2 (put (some d') r (gM W st.vars)):=by rw[vW,hw,lC hdd']
  rw[←e];exact h
end
section
variable{P:Program}{Γ:bJ}{S0 L:Nat→Prop}{B0:Nat→Value}{w0 w:World}{N:Nat}{st:St}{a:Act}{β:Nat→Value}{o:Oper}{x:Operand}
theorem xl (h:Rel P S0 L B0 w0 N st a w β) {t' b lo n c:Nat}{e:TypeId}{inf:TypeInfo}{rows mid:List (List PV)}{us:List Value} (hc:st.aa t'=some (.arr e rows)) (hi:P.info? e=some inf) (hb:β t'=.slice (some ⟨b,0,none⟩) n c) (hle:lo+mid.length≤rows.length) (hml:∀r∈mid,r.length=inf.size) (hul:us.length=mid.length*inf.size) (hv:∀v∈us,v.oneCell'=true) (hr:∀(i j:Nat) (r:List PV) (p:PV),mid[i]?=some r→r[j]?=some p→∃u,us[i*inf.size+j]?=some u∧u.oneCell'=true∧cZ (aS S0 w0.heap.size β st.aa w) w u p):∃w',(storeCells ⟨b,lo*inf.size,none⟩ us).run P w=.ok () w'∧Rel P S0 L B0 w0 N ⟨st.vars,aL t' (.arr e (bL rows lo mid)) st.aa⟩ a w' β:=by
 obtain⟨inf',xs,hi',hown,hrl,hcells⟩:=h.heap.arr hc;have:inf'=inf:=by rw[hi]at hi';injection hi' with hi';exact hi'.symm
 subst this;have hfit:lo*inf'.size+mid.length*inf'.size≤rows.length*inf'.size:=by rw[←Nat.add_mul];exact Nat.mul_le_mul_right _ hle
 rcases hown.2 with⟨hnil,_⟩|⟨g,cap,cur,hv',_,hheap,hnc,hcm,hcs,htake⟩;·rw[hb]at hnil;cases hnil
 ·have hgb:g=b:=by rw[hb]at hv';simp at hv';exact hv'.1.symm
  subst hgb;have hnn:n=rows.length∧c=cap:=by rw[hb]at hv';simp at hv';exact hv'
  have hxl:xs.length=rows.length*inf'.size:=hown.1;have hcap:rows.length*inf'.size≤cur.size:=by rw[hcs];exact Nat.mul_le_mul_right _ hnc
  have hin:lo*inf'.size+us.length≤cur.size:=by rw[hul];omega
  refine⟨_,nB (P:=P) hheap hin hv,?_⟩;have hblk:b9 (β t')=some g:=by rw[hb];rfl
  have hmono:∀(cs':Array Value) (o':AO) (k:Nat),aS S0 w0.heap.size β st.aa w k→aS S0 w0.heap.size β (aL t' o' st.aa) (w.setRow g cs') k∧(w.setRow g cs').heap[k]?=w.heap[k]?:=by
   intro cs' o' k hk;obtain⟨g1,g2,g3⟩:=hk;have hkb:k≠g:=fun e=>g3 ⟨t',_,hc,by rw[e];exact hblk⟩;refine⟨⟨g1,by simpa using g2,?_⟩,setRow_other w g k cs' hkb⟩;rintro⟨s,q,hs,hk⟩;by_cases e:s=t';·subst e;exact hkb (by rw[hblk]at hk;injection hk with hk;exact hk.symm)
   ·exact g3 ⟨s,q,by simpa[aL,e]using hs,hk⟩
  have hsl:(bL rows lo mid).length=rows.length:=eO _ _ _ hle;refine(h.vq (w':=w.setRow g (cur.toList.take (lo*inf'.size)++us++cur.toList.drop (lo*inf'.size+us.length)).toArray) (o':=.arr e (bL rows lo mid)) hc hblk rfl rfl rfl (by simp) (fun k hk=>setRow_other _ _ _ _ hk) ⟨inf',bL xs (lo*inf'.size) us,hi,?_,fun r hr'=>?_,fun k j r p hk hp=>?_⟩).1
  ·rw[hsl];refine⟨by rw[eO _ _ _ (by rw[hxl,hul];omega)];exact hxl,.inr ⟨g,cap,_,hv',Nat.zero_le _,setRow_heap _ _ _ _ _ _ hheap,hnc,hcm,?_,?_⟩⟩;·simp;omega
   ·rw[←htake];simp only[bL];rw[List.take_append,List.take_append];simp only[List.length_append,List.length_take,Array.length_toList];rw[List.take_of_length_le (l:=List.take (lo*inf'.size) cur.toList) (by rw[List.length_take];omega),List.take_take,Nat.min_eq_left (by omega)];rw[Nat.min_eq_left (by omega)];rw[List.take_of_length_le (l:=us) (by omega)];congr 1;rw[List.drop_take]
  ·unfold bL at hr';simp only[List.mem_append]at hr';rcases hr' with(h1|h1)|h1;·exact hrl r (List.mem_of_mem_take h1)
   ·exact hml r h1
   ·exact hrl r (List.mem_of_mem_drop h1)
  ·rw[iG _ _ _ hle]at hk;rw[iG _ _ _ (by rw[hxl,hul];omega)];by_cases e1:lo≤k∧k<lo+mid.length
   ·rw[if_pos e1]at hk;have hjl:j<inf'.size:=by rw[←hml r (List.mem_of_getElem? hk)];exact(List.getElem?_eq_some_iff.1 hp).1
    have h1:lo*inf'.size≤k*inf'.size:=Nat.mul_le_mul_right _ e1.1;have h2:(k+1)*inf'.size≤(lo+mid.length)*inf'.size:=Nat.mul_le_mul_right _ e1.2;rw[Nat.succ_mul,Nat.add_mul]at h2;rw[if_pos (by rw[hul];omega)];obtain⟨u,hu,h3,h4⟩:=hr _ j r p hk hp;refine⟨u,?_,h3,h4.mono (hmono _ _)⟩;rw[←hu,Nat.sub_mul];congr 1;omega
   ·rw[if_neg e1]at hk;have hjl:j<inf'.size:=by rw[←hrl r (List.mem_of_getElem? hk)];exact(List.getElem?_eq_some_iff.1 hp).1
    obtain⟨u,hu,h3,h4⟩:=hcells k j r p hk hp;refine⟨u,?_,h3,h4.mono (hmono _ _)⟩;rw[if_neg ?_];·exact hu
    ·rintro⟨g1,g2⟩;refine e1 ⟨?_,?_⟩
     ·rcases Nat.lt_or_ge k lo with hlt|hge;·have:(k+1)*inf'.size≤lo*inf'.size:=Nat.mul_le_mul_right _ hlt;rw[Nat.succ_mul]at this;omega
      ·exact hge
     ·rcases Nat.lt_or_ge k (lo+mid.length) with hlt|hge;·exact hlt
      ·have:(lo+mid.length)*inf'.size≤k*inf'.size:=Nat.mul_le_mul_right _ hge;rw[Nat.add_mul]at this;rw[hul]at g2;omega
theorem u7 (z:Array Value) (n i j:Nat) (hi:i<n) (hj:j<z.size):(Builtin.zeroCells z n).toList[i*z.size+j]?=some z[j]:=by
 have hlt:i*z.size+j<n*z.size:=by have:=Nat.mul_le_mul_right z.size (show i+1≤n from hi);rw[Nat.succ_mul]at this;omega
 simp only[Builtin.zeroCells,Array.toList_map,List.getElem?_map,Array.getElem?_toList];rw[Array.getElem?_range,if_pos hlt];simp only[Option.map_some,Option.some.injEq];rw[Nat.mul_comm,Nat.mul_add_mod,Nat.mod_eq_of_lt hj];exact getElem!_pos z j hj
theorem mP (z:Array Value) (n:Nat) (v:Value) (h:v∈(Builtin.zeroCells z n).toList):v∈z.toList:=by
 simp only[Builtin.zeroCells,Array.toList_map,List.mem_map]at h;obtain⟨i,hi,rfl⟩:=h;have hi':i<n*z.size:=by simpa using hi
 have hz:0<z.size:=by
  rcases Nat.eq_zero_or_pos z.size with h|h;·rw[h]at hi';omega
  ·exact h
 have:=Nat.mod_lt i hz;rw[getElem!_pos z _ this];simp
theorem Ev {t e:TypeId}{sz:Nat}{zs:List Value} (ho:o.op=.call {callee:=.builtin .clear,args:=#[x],argTypes:=#[t]}) (ht:P.underlying t=some (.slice e)) (hsz:cm P e=some sz) (hz:dE P e=some zs) (hpos:0<sz) (hall:zs.all (·.oneCell')=true) (h:Rel P S0 L B0 w0 N st a w β) (hd:∀s,o.dst=some s→s<N) {X:AV} (hX:RV P (aS S0 w0.heap.size β st.aa w) w β (ay st.aa) (a.eval x) X) {r:Nat×AO} (hs:Bg st.aa e zs X=some r):∃v w',(execOp a.eval o).run P w=.ok (.value v) w'∧Rel P S0 L B0 w0 N ((bA.vq r.1 r.2).on o.dst st) (a.put o.dst v) w' β:=by
 obtain⟨i,z,hi,hzv,hzs,rfl⟩:=dG hz;have hsi:i.size=sz:=by obtain⟨i',hi',rfl⟩:=fY hsz;rw[hi]at hi';injection hi' with hi';rw[hi']
 have hzr:(zeroValue e).run P w=.ok z w:=by simp[zeroValue,typeInfo,hi,hzv]
 have hex:∀(A:Option Addr) (n c:Nat) (w':World),a.eval x=.slice A n c→((A=none∨n=0)∧w'=w∨∃ad,A=some ad∧n≠0∧(storeCells ad (Builtin.zeroCells z.cells n).toList).run P w=.ok () w')→(execOp a.eval o).run P w=.ok (.value (.tuple #[])) w':=by
  rintro A n c w' hv (⟨h0,rfl⟩|⟨ad,rfl,hn,hst⟩);·cases A with|none=>cases n<;>simp[execOp,ho,resolve,invoke,builtin,Builtin.clear_,run_underlying ht,hv]|some ad=>
   obtain rfl:n=0:=by rcases h0 with h0|h0;cases h0;exact h0
   simp[execOp,ho,resolve,invoke,builtin,Builtin.clear_,run_underlying ht,hv]
  ·obtain⟨m,rfl⟩:∃m,n=m+1:=⟨n-1,by omega⟩;simp[execOp,ho,resolve,invoke,builtin,Builtin.clear_,run_underlying ht,hv,hzr,hst]
 have hput:∀{w':World}{objs':Nat→Option AO},Rel P S0 L B0 w0 N ⟨st.vars,objs'⟩ a w' β→Rel P S0 L B0 w0 N ⟨Ab.put o.dst .au st.vars,objs'⟩ (a.put o.dst (.tuple #[])) w' β:=fun hR=>hR.put hd (.au _);have main:∀(t' lo hi':Nat) (rows:List (List PV)) (A1:Option Addr),st.aa t'=some (.arr e rows)→lo≤hi'→hi'≤rows.length→(∀A n c,β t'=.slice A n c→a.eval x=.slice A1 (hi'-lo) (c-lo)∧(c≠lo→A1=A.map (·.add (lo*i.size))))→∃v w',(execOp a.eval o).run P w=.ok (.value v) w'∧Rel P S0 L B0 w0 N ⟨Ab.put o.dst .au st.vars,aL t' (.arr e (bL rows lo (List.replicate (hi'-lo) (z.cells.toList.map rE)))) st.aa⟩ (a.put o.dst v) w' β:=by
  intro t' lo hi' rows A1 hc h1 h2 hx;obtain⟨inf',xs,hinf,hown,hrl,hcells⟩:=h.heap.arr hc;have:inf'=i:=by rw[hi]at hinf;injection hinf with hinf;exact hinf.symm
  subst this;by_cases hz0:hi'-lo=0
  ·have hsp:bL rows lo (List.replicate (hi'-lo) (z.cells.toList.map rE))=rows:=by rw[hz0];simp[bL]
   rw[hsp];obtain⟨A,c,hv,hcc⟩:=cn hown;obtain⟨hxe,_⟩:=hx A rows.length c hv;rw[hz0]at hxe;refine⟨_,w,hex _ _ _ w hxe (.inl ⟨.inr rfl,rfl⟩),?_⟩;have hsame:aL t' (.arr e rows) st.aa=st.aa:=by
    funext s;by_cases hst:s=t';·subst hst;simp[aL,hc]
    ·simp[aL,hst]
   rw[hsame];exact hput h
  ·rcases hown.2 with⟨_,hr0⟩|⟨g,cap,cur,hv,_,_,hnc,_⟩;·omega
   ·obtain⟨hxe,hA⟩:=hx _ _ _ hv;rw[hA (by omega)]at hxe;obtain⟨w',hst,hR⟩:=xl h (lo:=lo) (mid:=List.replicate (hi'-lo) (z.cells.toList.map rE)) (us:=(Builtin.zeroCells z.cells (hi'-lo)).toList) hc hi hv (by simp;omega) (fun r hr=>by rw[List.eq_of_mem_replicate hr];simp[hzs]) (by rw[Array.length_toList,size_zeroCells,List.length_replicate,hzs]) (fun v hv'=>(List.all_eq_true.1 hall) v (mP _ _ _ hv')) (fun k j r p hk hp=>by
     have hk1:k<hi'-lo:=by have:=(List.getElem?_eq_some_iff.1 hk).1;simpa using this
     rw[List.getElem?_replicate,if_pos hk1]at hk;injection hk with hk;subst hk;rw[List.getElem?_map,Option.map_eq_some_iff]at hp;obtain⟨q,hq,rfl⟩:=hp;have hj:j<z.cells.size:=by have:=(List.getElem?_eq_some_iff.1 hq).1;simpa using this
     have hqe:q=z.cells[j]:=by
      have:z.cells[j]?=some q:=by simpa using hq
      rw[Array.getElem?_eq_getElem hj]at this;injection this with this;exact this.symm
     have hq1:q.oneCell'=true:=(List.all_eq_true.1 hall) q (List.mem_of_getElem? hq);refine⟨q,?_,hq1,ia _ _ q hq1⟩;rw[←hzs,u7 _ _ _ _ hk1 hj,hqe]);have hst':(storeCells ((⟨g,0,none⟩:Addr).add (lo*inf'.size)) (Builtin.zeroCells z.cells (hi'-lo)).toList).run P w=.ok () w':=by rw[Addr.add_lit,Nat.zero_add];exact hst
    exact⟨_,w',hex _ _ _ w' hxe (.inr ⟨_,rfl,hz0,hst'⟩),hput hR⟩
 cases X with
 |own t'=>
  simp only[Bg,Option.bind_eq_some_iff]at hs;obtain⟨⟨e',rows⟩,har,hs⟩:=hs;split at hs
  ·rename_i hee;simp only at hee;subst hee;cases hs;have hc:=bB har;have:=main t' 0 rows.length rows (match β t' with|.slice A _ _=>A|_=>none) hc (Nat.zero_le _) (Nat.le_refl _) (fun A n c hb=>by
    have hx:=hX.aR.1;obtain⟨inf',xs,hinf,hown,_⟩:=h.heap.arr hc;obtain⟨A',c',hv,_⟩:=cn hown;rw[hb]at hv;have hn:n=rows.length:=by simp at hv;exact hv.2.1
    rw[hx,hb];refine⟨by simp[hn],fun _=>?_⟩;cases A with|none=>rfl|some ad=>simp[add_zero']);have he:bL rows 0 (List.replicate (rows.length-0) (z.cells.toList.map rE))=List.replicate rows.length (z.cells.toList.map rE):=by simp[bL]
   rw[he]at this;exact this
  ·cases hs|sub t' e1 lo hi'=>
  simp only[Bg,Option.bind_eq_some_iff]at hs;obtain⟨⟨e',rows⟩,har,hs⟩:=hs;split at hs
  ·rename_i hee;obtain⟨hee,hee1⟩:=hee;simp only at hee;subst hee hee1;cases hs;have hc:=bB har;obtain⟨inf1,Ad,Ad1,n,c,hdt,hi1,hbt,g1,g2,g3,g4,g5,hx⟩:=hX.gh;have hinf:inf1=i:=by rw[hi]at hi1;injection hi1 with hi1;exact hi1.symm
   subst hinf;obtain⟨inf',xs,hinf',hown,_⟩:=h.heap.arr hc;obtain⟨A',c',hv,_⟩:=cn hown;have hn:n=rows.length:=by rw[hbt]at hv;simp at hv;exact hv.2.1
   subst hn;have:=main t' lo hi' rows Ad1 hc g1 g2 (fun A n c' hb=>by
    rw[hbt]at hb;have h3:Ad=A∧rows.length=n∧c=c':=by simpa using hb
    obtain⟨rfl,rfl,rfl⟩:=h3;exact⟨hx,g5⟩);have he:bL rows lo (List.replicate (hi'-lo) (z.cells.toList.map rE))=rows.take lo++List.replicate (hi'-lo) (z.cells.toList.map rE)++rows.drop hi':=by simp only[bL,List.length_replicate];rw[show lo+(hi'-lo)=hi' from by omega]
   rw[he]at this;exact this
  ·cases hs|_=>simp[Bg]at hs
end
section
variable{P:Program}{S:Nat→Prop}{w:World}{β:Nat→Value}{D D':Nat→Prop}{t:Nat}
theorem RV.pr {v:Value}{x:AV} (hD:∀s,D s→s≠t→D' s) (hx:pr t x) (h:RV P S w β D v x):RV P S w β D' v x:=by cases h with
 |pv v p h=>exact .pv _ _ h|own s h=>exact .own s (hD s h hx)|ptr s o b h hb=>exact .ptr s o b (hD s h hx) hb|aZ s e i o b n c inf h hi hb=>exact .aZ s e i o b n c inf (hD s h hx) hi hb|sub v s e lo hi inf A A1 n c h hi' hb h1 h2 h3 h4 h5 hv=>exact .sub _ s e lo hi inf A A1 n c (hD s h hx) hi' hb h1 h2 h3 h4 h5 hv|rp ad cs us h1 h2 h3 h4=>exact .rp ad cs us h1 h2 h3 h4|agg cs us hl h=>exact hx.elim|aJ cs us hl h=>exact hx.elim|bo f cs us hl h=>cases cs with|nil=>exact .bo f [] us hl fun i c u hc=>by simp at hc|cons c cs=>exact hx.elim
 |bY g v av h=>exact hx.elim|au v=>exact .au _
theorem pz:∀{cs:List AV},sN t cs→∀(i:Nat) (c:AV),cs[i]?=some c→Ab.pr t c|[],_,i,c,hc=>by simp at hc|x::cs,h,0,c,hc=>by simp only[List.getElem?_cons_zero,Option.some.injEq]at hc;subst hc;exact h.1|x::cs,h,i+1,c,hc=>pz h.2 i c (by simpa using hc)
theorem RV.tD {v:Value}{x:AV} (hD:∀s,D s→s≠t→D' s) (hx:tD t x) (h:RV P S w β D v x):RV P S w β D' v x:=by cases h with|agg cs us hl h=>exact .agg cs us hl fun i c u hc hu=>(h i c u hc hu).pr hD (pz hx i c hc)|bo f cs us hl h=>exact .bo f cs us hl fun i c u hc hu=>(h i c u hc hu).pr hD (pz hx i c hc)|pv v p h=>exact .pv _ _ h|own s h=>exact RV.pr (x:=.own s) hD hx (.own s h)|ptr s o b h hb=>exact RV.pr (x:=.ptr s o) hD hx (.ptr s o b h hb)|aZ s e i o b n c inf h hi hb=>exact RV.pr (x:=.aZ s e i o) hD hx (.aZ s e i o b n c inf h hi hb)|sub v s e lo hi inf A A1 n c h hi' hb h1 h2 h3 h4 h5 hv=>exact RV.pr (x:=.sub s e lo hi) hD hx (.sub v s e lo hi inf A A1 n c h hi' hb h1 h2 h3 h4 h5 hv)|rp ad cs us h1 h2 h3 h4=>exact .rp ad cs us h1 h2 h3 h4|aJ cs us hl h=>exact hx.elim|bY g v av h=>exact hx.elim|au v=>exact .au _
theorem uD:∀{vs:List AV},lF.nv t vs→∀(i:Nat) (v:AV),vs[i]?=some v→Ab.tD t v|[],_,i,c,hc=>by simp at hc|x::cs,h,0,c,hc=>by simp only[List.getElem?_cons_zero,Option.some.injEq]at hc;subst hc;exact h.1|x::cs,h,i+1,c,hc=>uD h.2 i c (by simpa using hc)
theorem vf:∀{vs:List AV}{p:Nat},lF t p vs→∀(i:Nat) (v:AV),i≠p→vs[i]?=some v→Ab.tD t v|[],_,_,i,c,_,hc=>by simp at hc|x::cs,0,h,0,c,hne,hc=>absurd rfl hne|x::cs,0,h,i+1,c,hne,hc=>uD h i c (by simpa using hc)|x::cs,p+1,h,0,c,hne,hc=>by simp only[List.getElem?_cons_zero,Option.some.injEq]at hc;subst hc;exact h.1|x::cs,p+1,h,i+1,c,hne,hc=>vf h.2 i c (by omega) (by simpa using hc)
variable{aa:Nat→Option AO}
theorem qo {m:AV}:∀{p:Nat}{xs ys:List AV},qC aa m p xs=some ys→p<xs.length→ys.length=xs.length∧ys[p]?=some m∧∀(i:Nat) (y:AV),i≠p→ys[i]?=some y→∃x,xs[i]?=some x∧oL aa x=some y
 |_,[],_,_,hp=>by simp at hp|0,x::xs,ys,h,_=>by simp only[qC,Option.map_eq_some_iff]at h;obtain⟨zs,hz,rfl⟩:=h;obtain⟨h1,h2⟩:=oz xs zs hz;refine⟨by simp[h1],rfl,fun i y hne hy=>?_⟩;cases i with|zero=>exact absurd rfl hne|succ i=>obtain⟨c,hc,hr⟩:=h2 i y (by simpa using hy);exact⟨c,by simpa using hc,hr⟩
 |p+1,x::xs,ys,h,hp=>by simp only[qC,Option.bind_eq_some_iff,Option.map_eq_some_iff]at h;obtain⟨y0,hy0,zs,hz,rfl⟩:=h;obtain⟨h1,h2,h3⟩:=qo hz (by simpa using hp);refine⟨by simp[h1],by simpa using h2,fun i y hne hy=>?_⟩;cases i with|zero=>simp only[List.getElem?_cons_zero,Option.some.injEq]at hy;subst hy;exact⟨x,rfl,hy0⟩|succ i=>obtain⟨c,hc,hr⟩:=h3 i y (by omega) (by simpa using hy);exact⟨c,by simpa using hc,hr⟩
theorem sy:∀{p:Nat}{xs:List AV},jo p xs=true→∀(i:Nat) (x:AV),i≠p→xs[i]?=some x→ed x=true|_,[],_,i,c,_,hc=>by simp at hc|0,x::xs,h,0,c,hne,hc=>absurd rfl hne|0,x::xs,h,i+1,c,hne,hc=>qf xs i c h (by simpa using hc)|p+1,x::xs,h,0,c,hne,hc=>by simp only[jo,Bool.and_eq_true]at h;simp only[List.getElem?_cons_zero,Option.some.injEq]at hc;subst hc;exact h.1|p+1,x::xs,h,i+1,c,hne,hc=>by simp only[jo,Bool.and_eq_true]at h;exact sy h.2 i c (by omega) (by simpa using hc)
theorem j6 {x y:AV} (h:oL aa x=some y):FO y=y∧(∀e rows,y≠.fr e rows)∧∀e rows,y≠.aJ [.fr e rows]:=by
 have hpv:∀{o:Option PV},o.map AV.pv=some y→∃p,y=.pv p:=fun h=>by obtain⟨p,_,rfl⟩:=Option.map_eq_some_iff.1 h;exact⟨p,rfl⟩
 have key:(∃p,y=.pv p)∨(∃cs,y=.rp cs)∨(∃cs,y=.agg cs)∨∃f cs,y=.bo f cs:=by
  have h1:∀{x y:AV},eW aa x=some y→(∃p,y=.pv p)∨(∃cs,y=.rp cs)∨(∃cs,y=.agg cs)∨∃f cs,y=.bo f cs:=by
   intro x y h;unfold eW at h;split at h;·obtain⟨cs,_,h⟩:=Option.bind_eq_some_iff.1 h;obtain⟨ps,_,rfl⟩:=Option.map_eq_some_iff.1 h;exact .inr (.inl ⟨_,rfl⟩)
   ·cases h;exact .inr (.inl ⟨_,rfl⟩)
   ·obtain⟨ps,_,rfl⟩:=Option.map_eq_some_iff.1 h;exact .inr (.inr (.inl ⟨_,rfl⟩))
   ·cases h;exact .inr (.inr (.inr ⟨_,_,rfl⟩))
   ·obtain⟨p,_,rfl⟩:=Option.map_eq_some_iff.1 h;exact .inl ⟨_,rfl⟩
  unfold oL at h;split at h;·obtain⟨ps,_,rfl⟩:=Option.map_eq_some_iff.1 h;exact .inr (.inr (.inr ⟨_,_,rfl⟩))
  ·exact h1 h
 rcases key with⟨p,rfl⟩|⟨cs,rfl⟩|⟨cs,rfl⟩|⟨f,cs,rfl⟩<;>exact⟨rfl,(fun e rows h=>by cases h),(fun e rows h=>by cases h)⟩
theorem qA {x:AV} (h:oL aa x=some .au):False:=by
 have hpv:∀{o:Option PV},¬o.map AV.pv=some .au:=fun h=>by obtain⟨p,_,h⟩:=Option.map_eq_some_iff.1 h;cases h
 have h1:∀{x:AV},¬eW aa x=some .au:=by
  intro x h;unfold eW at h;split at h;·obtain⟨cs,_,h⟩:=Option.bind_eq_some_iff.1 h;obtain⟨ps,_,h⟩:=Option.map_eq_some_iff.1 h;cases h
  ·cases h
  ·obtain⟨ps,_,h⟩:=Option.map_eq_some_iff.1 h;cases h
  ·cases h
  ·exact hpv h
 unfold oL at h;split at h;·obtain⟨ps,_,h⟩:=Option.map_eq_some_iff.1 h;cases h
 ·exact h1 h
theorem yL {e:TypeId}{rows:List (List PV)}{k:Nat} (hk:k=998∨k=999):∀{ys:List AV}{p:Nat},ys[p]?=some (wL k e rows)→(∀(i:Nat) (y:AV),i≠p→ys[i]?=some y→(∀e rows,y≠.fr e rows)∧∀e rows,y≠.aJ [.fr e rows])→lI ys=[(k,.arr e rows)]
 |[],p,h,_=>by simp at h|y::ys,0,h,ho=>by simp only[List.getElem?_cons_zero,Option.some.injEq]at h;subst h;rcases hk with rfl|rfl<;>rfl|y::ys,p+1,h,ho=>by
  have h0:=ho 0 y (by omega) rfl;have ih:=yL hk (ys:=ys) (p:=p) (by simpa using h) (fun i z hne hz=>ho (i+1) z (by omega) (by simpa using hz));unfold lI;split;·rename_i e;cases e
  ·rename_i e1 r1 _ e;cases e;exact absurd rfl (h0.1 _ _)
  ·rename_i e1 r1 _ e;cases e;exact absurd rfl (h0.2 _ _)
  ·rename_i e;cases e;exact ih
end
section
variable{P:Program}{S0 L:Nat→Prop}{B0:Nat→Value}{w0 w:World}{N:Nat}{st:St}{a:Act}{β:Nat→Value}
theorem wU (h:Rel P S0 L B0 w0 N st a w β) {k t:Nat}{e:TypeId}{rows:List (List PV)}{X:AV}{v:Value} (hX:RV P (aS S0 w0.heap.size β st.aa w) w β (ay st.aa) v X) (hs:fp st.aa k X=some (t,e,rows)):∃rows0,st.aa t=some (.arr e rows0)∧b9 v=b9 (β t)∧(k=999→v=β t)∧∃inf us,P.info? e=some inf∧w.ownsRow 0 e inf.size v rows.length us∧(∀r,r∈rows→r.length=inf.size)∧∀(i j:Nat) (r:List PV) (p:PV),rows[i]?=some r→r[j]?=some p→∃u,us[i*inf.size+j]?=some u∧u.oneCell'=true∧cZ (aS S0 w0.heap.size β st.aa w) w u p:=by cases X with
 |own t'=>simp only[fp,Option.map_eq_some_iff]at hs;obtain⟨⟨e',rows'⟩,har,he⟩:=hs;simp only[Prod.mk.injEq]at he;obtain⟨rfl,rfl,rfl⟩:=he;obtain⟨inf,us,hi,hown,hrl,hcs⟩:=h.heap.arr (bB har);have hv:=hX.aR.1;subst hv;exact⟨rows',bB har,rfl,fun _=>rfl,inf,us,hi,hown,hrl,hcs⟩|sub t' e1 lo hi=>cases lo with|succ lo=>simp[fp]at hs|zero=>
   simp only[fp]at hs;split at hs
   ·rename_i hk;obtain⟨⟨e',rows'⟩,har,hs⟩:=Option.bind_eq_some_iff.1 hs;split at hs
    ·rename_i hee;simp only at hee;subst hee;simp only[Option.some.injEq,Prod.mk.injEq]at hs;obtain⟨rfl,rfl,rfl⟩:=hs;obtain⟨inf,us,hi',hown,hrl,hcs⟩:=h.heap.arr (bB har);obtain⟨inf1,Ad,Ad1,n,c,hdt,hi1,hbt,g1,g2,g3,g4,g5,hx⟩:=hX.gh;obtain⟨A',c',hv,_⟩:=cn hown;have hn:n=rows'.length:=by rw[hbt]at hv;simp at hv;exact hv.2.1
     subst hn;have hA:=g4 rfl;subst hA;have hlen:(rows'.take hi).length=hi:=by rw[List.length_take];omega
     simp only[Nat.sub_zero]at hx;refine⟨rows',bB har,?_,fun hk9=>by omega,inf,us.take (hi*inf.size),hi',?_,fun r hr=>hrl r (List.mem_of_mem_take hr),fun i j r p hr hp=>?_⟩;·rw[hx,hbt];cases Ad1<;>rfl
     ·rw[hlen,hx];exact kh hown g2 hbt
     ·have hi2:i<hi:=by rw[←hlen];exact(List.getElem?_eq_some_iff.1 hr).1
      rw[List.getElem?_take,if_pos hi2]at hr;obtain⟨u,hu,h1,h2⟩:=hcs i j r p hr hp;have hj:j<inf.size:=by rw[←hrl r (List.mem_of_getElem? hr)];exact(List.getElem?_eq_some_iff.1 hp).1
      have hlt:i*inf.size+j<hi*inf.size:=by have:=Nat.mul_le_mul_right inf.size (show i+1≤hi from hi2);rw[Nat.succ_mul]at this;omega
      exact⟨u,by rw[List.getElem?_take,if_pos hlt];exact hu,h1,h2⟩
    ·cases hs
   ·cases hs|_=>simp[fp]at hs
theorem qg {r:AV} (h:cP r=true):dm (cellAt r 999)=none:=by cases r with|aJ vs=>simp only[cP,Bool.and_eq_true,decide_eq_true_eq]at h;simp only[cellAt,show 999%1000=999 from rfl];rw[List.getElem?_eq_none (by omega)];rfl|_=>rfl
theorem vU {aa:Nat→Option AO}:∀{p:Nat}{xs ys:List AV},rq aa p xs=some ys→ys.length=xs.length∧∀(i:Nat) (y:AV),ys[i]?=some y→∃c,xs[i]?=some c∧(oL aa c=some y∨(c=.pv .nil∧y=.pv .nil))
 |p,[],ys,h=>by
  have:ys=[]:=by cases p<;>(simp[rq]at h;exact h)
  subst this;exact⟨rfl,fun i y hy=>by simp at hy⟩|0,x::xs,ys,h=>by
  unfold rq at h;split at h;·rename_i h1;cases h1
  ·rename_i vs h1;cases h1;obtain⟨zs,hz,rfl⟩:=Option.map_eq_some_iff.1 h;obtain⟨h1,h2⟩:=oz _ zs hz;refine⟨by simp[h1],fun i y hy=>?_⟩;cases i with|zero=>simp at hy;subst hy;exact⟨_,rfl,.inr ⟨rfl,rfl⟩⟩|succ i=>obtain⟨c,h3,h4⟩:=h2 i y (by simpa using hy);exact⟨c,by simpa using h3,.inl h4⟩
  ·cases h
  ·rename_i h1 _;cases h1|p+1,x::xs,ys,h=>by simp only[rq,Option.bind_eq_some_iff,Option.map_eq_some_iff]at h;obtain⟨y0,hy0,zs,hz,rfl⟩:=h;obtain⟨h1,h2⟩:=vU hz;refine⟨by simp[h1],fun i y hy=>?_⟩;cases i with|zero=>simp at hy;subst hy;exact⟨_,rfl,.inl hy0⟩|succ i=>obtain⟨c,h3,h4⟩:=h2 i y (by simpa using hy);exact⟨c,by simpa using h3,h4⟩
theorem Dl {aa:Nat→Option AO}{ys xs:List AV} (hg:∀(i:Nat) (y:AV),ys[i]?=some y→∃c,xs[i]?=some c∧(oL aa c=some y∨(c=.pv .nil∧y=.pv .nil))):∀y∈ys,FO y=y∧(∀e rows,y≠.fr e rows)∧∀e rows,y≠.aJ [.fr e rows]:=by
 intro y hy;obtain⟨i,hi⟩:=List.getElem?_of_mem hy;obtain⟨c,_,h|⟨_,rfl⟩⟩:=hg i y hi;·exact j6 h
 ·exact⟨rfl,(fun e rows h=>by cases h),fun e rows h=>by cases h⟩
theorem yW:∀{ys:List AV},(∀y∈ys,(∀e rows,y≠.fr e rows)∧∀e rows,y≠.aJ [.fr e rows])→lI ys=[]
 |[],_=>rfl|y::ys,h=>by
  have ih:=yW (ys:=ys) fun z hz=>h z (by simp[hz]);obtain⟨h1,h2⟩:=h y (by simp);unfold lI;split;·rfl
  ·rename_i e rows l h3;cases h3;exact absurd rfl (h1 _ _)
  ·rename_i e rows l h3;cases h3;exact absurd rfl (h2 _ _)
  ·rename_i h3;cases h3;exact ih
theorem za {f:FuncId}{ys:List AV}{r:AV} (hm:∀y∈ys,FO y=y∧(∀e rows,y≠.fr e rows)∧∀e rows,y≠.aJ [.fr e rows]) (hres:cP r=true) (h:A9 P f ys r):rT P f [] ys [] r:=by
 have h0:lI ys=[]:=yW fun y hy=>(hm y hy).2;have h1:ys.map FO=ys:=by rw[List.map_congr_left fun y hy=>(hm y hy).1];simp
 have h2:bS r=r∧dW r=[]:=by cases r with|bo f cs=>simp[cP,lZ,iA]at hres|_=>exact⟨rfl,rfl⟩
 intro w S0 β vals a1 a2 a3 a4 a5;have hnl:∀b,¬live β (ab []) b:=fun b ⟨t,o,ho,_⟩=>by simp[ab]at ho
 have hS:(fun b=>S0 b∨live β (ab []) b)=S0:=by funext b;apply propext;exact⟨fun h=>h.resolve_right (hnl b),.inl⟩
 have h:=h w S0 β vals a1 (by rw[h0];exact a2) (by rw[h0];exact a3) a4 (by rw[h0,h1];exact a5);rw[h0,h2.1,h2.2,hS]at h;refine h.mono ?_;rintro e w' ⟨v,β',r1,r2,r3,r4,_,r5⟩;exact⟨v,β',r1,r2,r3,r4,r5⟩
theorem yv (hL:∀b,L b→S0 b) (h:Rel P S0 L B0 w0 N st a w β) {f:FuncId}{d:Nat} (hd9:d%1000≠999) {vals:List Value}{xs ys:List AV}{x X:AV}{p k t:Nat}{e:TypeId}{rows:List (List PV)} (hk:k=998∨k=999) (hl:vals.length=xs.length) (hv:∀(i:Nat) (v:Value) (x:AV),vals[i]?=some v→xs[i]?=some x→RV P (aS S0 w0.heap.size β st.aa w) w β (ay st.aa) v x) (hp:xs[p]?=some X) (hh:fp st.aa k X=some (t,e,rows)) (hoff:lF t p xs) (hre:qC (fJ t st.aa) (wL k e rows) p xs=some ys) (hcon:A9 P f ys x) (hpf:jo p xs=true∨(flat (bS x)∧om (dW x))) (hfree:∀y∈aM d (bS x),st.aa y.1=none) (hres:cP (bS x)=true):Calls P f vals.toArray w fun e w'=>∃v β',e=.returned v∧Rel P S0 L B0 w0 N ⟨gP t x st.vars,bp (aM d (bS x)) (cA t x st.aa)⟩ a w' β'∧RV P (aS S0 w0.heap.size β' (bp (aM d (bS x)) (cA t x st.aa)) w') w' β' (ay (bp (aM d (bS x)) (cA t x st.aa))) v (cI (kW d) (bS x)):=by
 have htup:=tL _ hres;have hpl:p<xs.length:=(List.getElem?_eq_some_iff.1 hp).1;have hvp:vals[p]?=some vals[p]:=List.getElem?_eq_getElem (by omega);generalize hvpe:vals[p]'(by omega)=vp at hvp;obtain⟨rows0,hot,hblk,hvpin,inf,us,hi,hown,hrl,hcs⟩:=wU h (hv p vp X hvp hp) hh;obtain⟨hyl,hyp,hyo⟩:=qo hre hpl;have hdt:ay st.aa t:=⟨_,hot⟩;have hmk:lI ys=[(k,.arr e rows)]:=yL hk hyp fun i y hne hy=>by obtain⟨z,_,hr⟩:=hyo i y hne hy;exact(j6 hr).2
 obtain⟨inf0,us0,hi0,hown0,hrl0,hcs0⟩:=h.heap.holds t _ hot;have hnp:∀b,β t≠.pointer (some ⟨b,0,none⟩):=(gm hown0).2;have hD1:∀s,ay st.aa s→s≠t→ay (fJ t st.aa) s:=fun s hs hne=>cQ.2 ⟨hne,hs⟩;have hh1:Heap P (aS S0 w0.heap.size β st.aa w) w β (fJ t st.aa):=by
  refine⟨fun s o hs=>?_,fun s s' b hs hs'=>h.heap.inj s s' b (cQ.1 hs).2 (cQ.1 hs').2⟩;by_cases e':s=t;·simp[fJ,e']at hs
  ·have hs':(st.aa s).map (dJ t)=some o:=by simpa[fJ,e']using hs
   obtain⟨o',ho',rfl⟩:=Option.map_eq_some_iff.1 hs';exact(h.heap.holds s o' ho').kill hnp (fun b hb=>⟨hb,rfl⟩) (fun s hs hne=>⟨hD1 s hs hne,rfl⟩) rfl (fun b hb=>rfl)
 let β0:Nat→Value:=fun _=>vp;have hhin:ab (lI ys)=ab [(k,.arr e rows)]:=by rw[hmk]
 have hlive0:∀b,live β0 (ab (lI ys)) b↔b9 (β t)=some b:=by
  intro b;rw[hhin];constructor;·rintro⟨s,o,ho,hb⟩;rw[←hblk];exact hb
  ·intro hb;exact⟨k,.arr e rows,by simp[ab],by rw[←hblk]at hb;exact hb⟩
 have hnl:∀b,aS S0 w0.heap.size β st.aa w b→¬b9 (β t)=some b:=fun b ⟨_,_,h3⟩ hb=>h3 ⟨t,_,hot,hb⟩;obtain⟨S1,hS1,hS1lt,hS1n,hcase⟩:∃S1:Nat→Prop,(∀b,aS S0 w0.heap.size β st.aa w b→S1 b)∧(∀b,S1 b→b<w.heap.size)∧(∀b,S1 b→¬b9 (β t)=some b)∧((jo p xs=true∧S1=aS S0 w0.heap.size β st.aa w)∨((flat (bS x)∧om (dW x))∧∀b,b<w.heap.size→¬b9 (β t)=some b→S1 b)):=by
  rcases hpf with hp|hp;·exact⟨_,fun b hb=>hb,fun b hb=>hb.2.1,hnl,.inl ⟨hp,rfl⟩⟩
  ·exact⟨fun b=>b<w.heap.size∧¬b9 (β t)=some b,fun b hb=>⟨hb.2.1,hnl b hb⟩,fun b hb=>hb.1,fun b hb=>hb.2,.inr ⟨hp,fun b h1 h2=>⟨h1,h2⟩⟩⟩
 have hS1eq:∀b,aS S1 w.heap.size β0 (ab (lI ys)) w b↔S1 b:=by
  intro b;constructor
  ·rintro⟨h1|h1,h2,_⟩;·exact h1
   ·omega
  ·intro hb;exact⟨.inl hb,hS1lt b hb,fun hl=>hS1n b hb ((hlive0 b).1 hl)⟩
 have htlt:∀b,b9 (β t)=some b→b<w.heap.size:=fun b hb=>h.lt hdt hb;have hin:∀s o,ab (lI ys) s=some o→s=k∧o=.arr e rows:=by
  intro s o ho;rw[hhin]at ho;simp only[ab]at ho;split at ho;·rename_i e';cases ho;exact⟨e',rfl⟩
  ·cases ho
 have hHin:Heap P (aS S1 w.heap.size β0 (ab (lI ys)) w) w β0 (ab (lI ys)):=by refine⟨fun s o ho=>?_,fun s s' b ⟨o,ho⟩ ⟨o',ho'⟩ _ _=>(hin s o ho).1.trans (hin s' o' ho').1.symm⟩;obtain⟨rfl,rfl⟩:=hin s o ho;refine⟨inf,us,hi,hown,hrl,fun i j r q h1 h2=>?_⟩;obtain⟨u,hu,h3,h4⟩:=hcs i j r q h1 h2;exact⟨u,hu,h3,h4.mono fun b hb=>⟨(hS1eq b).2 (hS1 b hb),rfl⟩⟩
 refine(hcon w S1 β0 vals hS1lt (fun s b _ hb=>htlt b (by rw[←hblk];exact hb)) hHin (by omega) (fun i v y hvi hyi=>?_)).mono ?_
 ·rw[List.getElem?_map,Option.map_eq_some_iff]at hyi;obtain⟨z,hz,rfl⟩:=hyi;by_cases hip:i=p
  ·subst hip;rw[hyp]at hz;injection hz with hz;subst hz;rw[hvp]at hvi;injection hvi with hvi;subst hvi;have hdk:ay (ab (lI ys)) k:=⟨.arr e rows,by rw[hhin];simp[ab]⟩;rcases hk with rfl|rfl;·exact .own 998 hdk
   ·exact .own 999 hdk
  ·obtain⟨X',hX',hrx⟩:=hyo i z hip hz;rw[(j6 hrx).1];refine qj hh1 (fun b hb=>(hS1eq b).2 (hS1 b hb)) ((hv i v X' hvi hX').tD hD1 (vf hoff i X' hip hX')) hrx ?_;rcases hcase with⟨hpu,_⟩|⟨_,hall⟩;·exact .inl (sy hpu i X' hip hX')
   ·refine .inr fun s b hs hb=>(hS1eq b).2 (hall b (h.lt (cQ.1 hs).2 hb) fun hbt=>(cQ.1 hs).1 (h.heap.inj s t b (cQ.1 hs).2 hdt hb hbt))
 ·rintro ee w' ⟨v,β1,rfl,hfr,hheap,hnew,hpinned,hrv⟩;have hout:dW x=[]∨∃e' rows',dW x=[(999,.arr e' rows')]:=by
   unfold dW;split;·exact .inr ⟨_,_,rfl⟩
   ·exact .inl rfl
  have hsame:∀b,b<w.heap.size→¬b9 (β t)=some b→w'.heap[b]?=w.heap[b]?:=fun b hb hn=>hfr.block b hb fun hl=>hn ((hlive0 b).1 hl);have hobj:cA t x st.aa=(match dW x with|(_,o)::_=>aL t o st.aa|[]=>fJ t st.aa):=rfl;have hdomU:∀s,ay (cA t x st.aa) s→ay st.aa s:=by
   intro s hs;rcases hout with ho|⟨e',rows',ho⟩;·rw[hobj,ho]at hs;exact(cQ.1 hs).2
   ·rw[hobj,ho]at hs;rcases bF.1 hs with e1|e1;·rw[e1];exact hdt
    ·exact e1
  have hdomU':∀s,ay st.aa s→s≠t→ay (cA t x st.aa) s:=by
   intro s hs hne;rcases hout with ho|⟨e',rows',ho⟩;·rw[hobj,ho];exact hD1 s hs hne
   ·rw[hobj,ho];exact bF.2 (.inr hs)
  have hfreeU:∀y∈aM d (bS x),cA t x st.aa y.1=none:=by intro y hy;cases hc:cA t x st.aa y.1 with|none=>rfl|some o=>obtain⟨o',ho'⟩:=hdomU y.1 ⟨o,hc⟩;rw[hfree y hy]at ho';cases ho'
  let F:Nat→Option AO:=bn (ab (dW x)) fun t=>dm (cellAt (bS x) t);have hFp:∀q o,dm (cellAt (bS x) q)=some o→F q=some o:=by
   intro q o hq;rcases hout with ho|⟨e',rows',ho⟩;·simp only[F,ho,bn,ab];exact hq
   ·simp only[F,ho,bn,ab];have:q≠999:=by rintro rfl;rw[qg hres]at hq;cases hq
    rw[if_neg this];exact hq
  let β2:Nat→Value:=fun s=>match ab (aM d (bS x)) s with|some _=>β1 ((s-d)/1000)|none=>β s;have hβnew:∀q o,dm (cellAt (bS x) q)=some o→β2 (d+1000*q)=β1 q:=fun q o hq=>by simp only[β2,fb d (bS x) htup,hq];congr 1;omega
  have hβold:∀s,ay st.aa s→β2 s=β s:=fun s ⟨o,ho⟩=>by cases hlk:ab (aM d (bS x)) s with|none=>simp only[β2,hlk]|some o'=>obtain⟨z,hz,rfl⟩:=im _ _ _ hlk;rw[hfree z hz]at ho;cases ho
  have hlook2:∀s,bp (aM d (bS x)) (cA t x st.aa) s=match ab (aM d (bS x)) s with|some o=>some o|none=>cA t x st.aa s:=fun s=>rfl;have hdomNew:∀q o,dm (cellAt (bS x) q)=some o→bp (aM d (bS x)) (cA t x st.aa) (d+1000*q)=some o:=fun q o hq=>by rw[hlook2,fb d (bS x) htup,hq]
  have hdomOld:∀s o,cA t x st.aa s=some o→bp (aM d (bS x)) (cA t x st.aa) s=some o:=fun s o ho=>by rw[hlook2];cases hlk:ab (aM d (bS x)) s with|none=>exact ho|some o'=>obtain⟨z,hz,rfl⟩:=im _ _ _ hlk;rw[hfreeU z hz]at ho;cases ho
  have hcases:∀s o,bp (aM d (bS x)) (cA t x st.aa) s=some o→(∃q,s=d+1000*q∧dm (cellAt (bS x) q)=some o)∨(cA t x st.aa s=some o∧ab (aM d (bS x)) s=none):=fun s o ho=>by rw[hlook2]at ho;cases hlk:ab (aM d (bS x)) s with|none=>rw[hlk]at ho;exact .inr ⟨ho,rfl⟩|some o'=>rw[hlk]at ho;injection ho with ho;subst ho;obtain⟨q,rfl⟩:=tc d (bS x) s hlk;rw[fb d (bS x) htup]at hlk;exact .inl ⟨q,rfl,hlk⟩
  have hback:∀o,cA t x st.aa t=some o→dW x=[(999,o)]:=by
   intro o ho;rcases hout with h1|⟨e',rows',h1⟩;·rw[hobj,h1]at ho;simp[fJ]at ho
   ·rw[hobj,h1]at ho;simp only[aL,if_true,Option.some.injEq]at ho;rw[h1,ho]
  have hkeep:∀s o,cA t x st.aa s=some o→s≠t→∃o0,st.aa s=some o0∧(o=o0∨(dW x=[]∧o=dJ t o0)):=by
   intro s o ho hne;rcases hout with h1|⟨e',rows',h1⟩
   ·rw[hobj,h1]at ho;have:(st.aa s).map (dJ t)=some o:=by simpa[fJ,hne]using ho
    obtain⟨o',ho',rfl⟩:=Option.map_eq_some_iff.1 this;exact⟨o',ho',.inr ⟨h1,rfl⟩⟩
   ·rw[hobj,h1]at ho;exact⟨o,by simpa[aL,hne]using ho,.inl rfl⟩
  have hFt:∀o,cA t x st.aa t=some o→F 999=some o∧β1 999=vp∧vp=β t:=by intro o ho;have h1:=hback o ho;have hd:ay (ab (dW x)) 999:=⟨o,by rw[h1];simp[ab]⟩;obtain⟨hd2,hb⟩:=hpinned 999 hd;obtain⟨o2,ho2⟩:=hd2;obtain⟨rfl,_⟩:=hin 999 o2 ho2;exact⟨by simp only[F,h1,bn,ab];simp,hb,hvpin rfl⟩
  have hnewF:∀q o b,F q=some o→b9 (β1 q)=some b→w.heap.size≤b∨b9 (β t)=some b:=fun q o b hq hb=>by
   rcases hnew q b ⟨o,hq⟩ hb with h1|h1;·exact .inl h1
   ·exact .inr ((hlive0 b).1 h1)
  have hapart:∀q o b,dm (cellAt (bS x) q)=some o→b9 (β1 q)=some b→b9 (β t)=some b→∀o',cA t x st.aa t≠some o':=by intro q o b hq hb hbt o' ho';obtain⟨h1,h2,h3⟩:=hFt o' ho';have:=hheap.inj q 999 b ⟨o,hFp q o hq⟩ ⟨o',h1⟩ hb (by rw[h2,h3];exact hbt);subst this;rw[qg hres]at hq;cases hq
  have hblk2:∀s o b,bp (aM d (bS x)) (cA t x st.aa) s=some o→b9 (β2 s)=some b→(∃q,s=d+1000*q∧dm (cellAt (bS x) q)=some o∧b9 (β1 q)=some b)∨(ay st.aa s∧cA t x st.aa s=some o∧b9 (β s)=some b):=by
   intro s o b ho hb;rcases hcases s o ho with⟨q,rfl,hq⟩|⟨h1,_⟩;·rw[hβnew q o hq]at hb;exact .inl ⟨q,rfl,hq,hb⟩
   ·have hs:=hdomU s ⟨o,h1⟩;rw[hβold s hs]at hb;exact .inr ⟨hs,h1,hb⟩
  have hm:∀b,aS S0 w0.heap.size β st.aa w b→aS S0 w0.heap.size β2 (bp (aM d (bS x)) (cA t x st.aa)) w' b∧w'.heap[b]?=w.heap[b]?:=by
   rintro b hb0;obtain⟨h1,h2,h3⟩:=hb0;refine⟨⟨h1,Nat.lt_of_lt_of_le h2 hfr.size,?_⟩,hsame b h2 fun hbt=>h3 ⟨t,_,hot,hbt⟩⟩;rintro⟨s,o,ho,hb⟩;rcases hblk2 s o b ho hb with⟨q,rfl,hq,hb1⟩|⟨⟨o',ho'⟩,_,hb1⟩
   ·rcases hnewF q o b (hFp q o hq) hb1 with h4|h4;·omega
    ·exact h3 ⟨t,_,hot,h4⟩
   ·exact h3 ⟨s,o',ho',hb1⟩
  have hD:∀s,ay st.aa s→s≠t→ay (bp (aM d (bS x)) (cA t x st.aa)) s∧β2 s=β s:=fun s hs hne=>by obtain⟨o,ho⟩:=hdomU' s hs hne;exact⟨⟨o,hdomOld s o ho⟩,hβold s hs⟩
  have hcalS:jo p xs=true→S1=aS S0 w0.heap.size β st.aa w→∀b,aS (fun b=>S1 b∨live β0 (ab (lI ys)) b) w.heap.size β1 F w' b→aS S0 w0.heap.size β2 (bp (aM d (bS x)) (cA t x st.aa)) w' b∧w'.heap[b]?=w'.heap[b]?:=by
   rintro _ hSe b ⟨h1,h2,h3⟩;refine⟨⟨?_,h2,?_⟩,rfl⟩
   ·rcases h1 with(h1|h1)|h1;·rw[hSe]at h1;exact h1.1
    ·rcases h.old t b hdt ((hlive0 b).1 h1) with h4|h4;·exact .inr h4
     ·exact .inl (hL b h4)
    ·have:=h.bK.size;exact .inr (by omega)
   ·rintro⟨s,o,ho,hb⟩;rcases hblk2 s o b ho hb with⟨q,rfl,hq,hb1⟩|⟨⟨o',ho'⟩,hou,hb1⟩;·exact h3 ⟨q,o,hFp q o hq,hb1⟩
    ·by_cases hst:s=t;·subst hst;obtain⟨g1,g2,g3⟩:=hFt o hou;exact h3 ⟨999,o,g1,by rw[g2,g3];exact hb1⟩
     ·rcases h1 with(h1|h1)|h1;·rw[hSe]at h1;exact h1.2.2 ⟨s,o',ho',hb1⟩
      ·exact hst (h.heap.inj s t b ⟨o',ho'⟩ hdt hb1 ((hlive0 b).1 h1))
      ·have:=h.lt ⟨o',ho'⟩ hb1;omega
  have hconv:∀(u:Value) (q:PV),cZ (aS (fun b=>S1 b∨live β0 (ab (lI ys)) b) w.heap.size β1 F w') w' u q→((flat (bS x)∧om (dW x))→gR q=true)→cZ (aS S0 w0.heap.size β2 (bp (aM d (bS x)) (cA t x st.aa)) w') w' u q:=by
   intro u q hu hfl;rcases hcase with⟨hpu,hSe⟩|⟨hf,_⟩;·exact hu.mono (hcalS hpu hSe)
   ·exact fc hu (hfl hf)
  have hvars:∀s,RV P (aS S0 w0.heap.size β2 (bp (aM d (bS x)) (cA t x st.aa)) w') w' β2 (ay (bp (aM d (bS x)) (cA t x st.aa))) (a.tmps.getD s undef) (gP t x st.vars s):=by
   intro s;rcases hout with h1|⟨e',rows',h1⟩
   ·have:gP t x st.vars=cr t st.vars:=by unfold gP;rw[h1]
    rw[this];exact(h.vars s).kill hnp hm hD
   ·have:gP t x st.vars=st.vars:=by unfold gP;rw[h1]
    rw[this];refine(h.vars s).mono hm fun s' hs'=>?_;by_cases hst:s'=t;·subst hst;exact⟨⟨.arr e' rows',hdomOld _ _ (by rw[hobj,h1];simp[aL])⟩,hβold _ hs'⟩
    ·exact hD s' hs' hst
  have hrel:Rel P S0 L B0 w0 N ⟨gP t x st.vars,bp (aM d (bS x)) (cA t x st.aa)⟩ a w' β2:=by
   refine⟨h.size,h.defers,hvars,⟨fun s o ho=>?_,fun s s' b hs hs' hb hb'=>?_⟩,fun s b hs hb=>?_,h.pY,fun s h9 hs=>?_,?_⟩;·
    have harr:∀(q s:Nat) (o:AO),F q=some o→β2 s=β1 q→((∀cs,o≠.box cs)∧(∀es,o≠.map es)∧(∀e cs,o≠.rws e cs)∧(∀es,o≠.gY es)∧∀r c,o≠.nk r c)→((flat (bS x)∧om (dW x))→∀e' rows',o=.arr e' rows'→bz rows')→bj P (aS S0 w0.heap.size β2 (bp (aM d (bS x)) (cA t x st.aa)) w') w' β2 (ay (bp (aM d (bS x)) (cA t x st.aa))) s o:=by intro q s o hq hβ hnb hfl;have hho:=hheap.holds q o hq;cases o with|box cs=>exact absurd rfl (hnb.1 cs)|map es=>exact absurd rfl (hnb.2.1 es)|rws e cs=>exact absurd rfl (hnb.2.2.1 e cs)|gY es=>exact absurd rfl (hnb.2.2.2.1 es)|nk r c=>exact absurd rfl (hnb.2.2.2.2 r c)|arr e' rows'=>obtain⟨inf',us',hi',hown',hrl',hcs'⟩:=hho;refine⟨inf',us',hi',by rw[hβ];exact hown',hrl',fun i j row q h1 h2=>?_⟩;obtain⟨u,hu,h3,h4⟩:=hcs' i j row q h1 h2;exact⟨u,hu,h3,hconv u q h4 fun hf=>hfl hf _ _ rfl row (List.mem_of_getElem? h1) q (List.mem_of_getElem? h2)⟩
    rcases hcases s o ho with⟨q,rfl,hq⟩|⟨h1,_⟩
    ·refine harr q _ o (hFp q o hq) (hβnew q o hq) ?_ ?_
     ·refine⟨?_,?_,?_,?_,?_⟩;·rintro cs rfl;unfold dm at hq;split at hq<;>cases hq
      ·rintro cs rfl;unfold dm at hq;split at hq<;>cases hq
      ·rintro e cs rfl;unfold dm at hq;split at hq<;>cases hq
      ·rintro cs rfl;unfold dm at hq;split at hq<;>cases hq
      ·rintro e cs rfl;unfold dm at hq;split at hq<;>cases hq
     ·rintro⟨hf,_⟩ e' rows' rfl;have hcell:∃e',cellAt (bS x) q=some (.fr e' rows'):=by
       unfold dm at hq;split at hq;·rename_i e1 rows1 heq;injection hq with hq;injection hq with hq1 hq2;subst hq2;exact⟨e1,heq⟩
       ·cases hq
      obtain⟨e1,hce⟩:=hcell;exact(ie (bS x) q _ hf hce:bz rows')
    ·by_cases hst:s=t
     ·subst hst;obtain⟨g1,g2,g3⟩:=hFt o h1;have hbk:=hback o h1;refine harr 999 _ o g1 (by rw[hβold _ hdt,g2,g3]) ?_ ?_
      ·refine⟨?_,?_,?_,?_,?_⟩
       ·rintro cs rfl;rcases hout with h5|⟨e',rows',h5⟩;·rw[h5]at hbk;cases hbk
        ·rw[h5]at hbk;simp at hbk
       ·rintro cs rfl;rcases hout with h5|⟨e',rows',h5⟩;·rw[h5]at hbk;cases hbk
        ·rw[h5]at hbk;simp at hbk
       ·rintro e cs rfl;rcases hout with h5|⟨e',rows',h5⟩;·rw[h5]at hbk;cases hbk
        ·rw[h5]at hbk;simp at hbk
       ·rintro cs rfl;rcases hout with h5|⟨e',rows',h5⟩;·rw[h5]at hbk;cases hbk
        ·rw[h5]at hbk;simp at hbk
       ·rintro e cs rfl;rcases hout with h5|⟨e',rows',h5⟩;·rw[h5]at hbk;cases hbk
        ·rw[h5]at hbk;simp at hbk
      ·rintro⟨_,hf⟩ e' rows' rfl;rw[hbk]at hf;exact hf.1
     ·obtain⟨o0,ho0,hor⟩:=hkeep s o h1 hst;have hbl:∀b,b9 (β s)=some b→w'.heap[b]?=w.heap[b]?:=fun b hb=>hsame b (h.lt ⟨o0,ho0⟩ hb) fun hbt=>hst (h.heap.inj s t b ⟨o0,ho0⟩ hdt hb hbt);rcases hor with rfl|⟨h5,rfl⟩
      ·by_cases hx5:dW x=[];·
        have h6:cA t x st.aa s=some (dJ t o):=by rw[hobj,hx5];simp[fJ,hst,ho0]
        rw[h1]at h6;injection h6 with h6;rw[h6];exact(h.heap.holds s o ho0).kill hnp hm hD (hβold s ⟨o,ho0⟩) hbl
       ·refine(h.heap.holds s o ho0).mono hm (fun s' hs'=>?_) (hβold s ⟨o,ho0⟩) hbl;by_cases hst':s'=t
        ·subst hst';rcases hout with h5|⟨e',rows',h5⟩;·exact absurd h5 hx5
         ·exact⟨⟨.arr e' rows',hdomOld _ _ (by rw[hobj,h5];simp[aL])⟩,hβold _ hs'⟩
        ·exact hD s' hs' hst'
      ·exact(h.heap.holds s o0 ho0).kill hnp hm hD (hβold s ⟨o0,ho0⟩) hbl
   ·obtain⟨o,ho⟩:=hs;obtain⟨o',ho'⟩:=hs';have hfo:∀(q s:Nat) (o o':AO),dm (cellAt (bS x) q)=some o→b9 (β1 q)=some b→ay st.aa s→cA t x st.aa s=some o'→b9 (β s)=some b→False:=by
     intro q s o o' hq hb1 hs hu hb2;rcases hnewF q o b (hFp q o hq) hb1 with h4|h4;·have:=h.lt hs hb2;omega
     ·have:=h.heap.inj s t b hs hdt hb2 h4;subst this;exact hapart q o b hq hb1 h4 o' hu
    rcases hblk2 s o b ho hb with⟨q,rfl,hq,hb1⟩|⟨h1,h2,h3⟩<;>rcases hblk2 s' o' b ho' hb' with⟨q',rfl,hq',hb1'⟩|⟨h1',h2',h3'⟩;·rw[hheap.inj q q' b ⟨o,hFp q o hq⟩ ⟨o',hFp q' o' hq'⟩ hb1 hb1']
    ·exact(hfo q s' o o' hq hb1 h1' h2' h3').elim
    ·exact(hfo q' s o' o hq' hb1' h1 h2 h3).elim
    ·exact h.heap.inj s s' b h1 h1' h3 h3'
   ·obtain⟨o,ho⟩:=hs;rcases hblk2 s o b ho hb with⟨q,rfl,hq,hb1⟩|⟨h1,_,h3⟩
    ·rcases hnewF q o b (hFp q o hq) hb1 with h4|h4;·have:=h.bK.size;exact .inl (by omega)
     ·exact h.old t b hdt h4
    ·exact h.old s b h1 h3
   ·obtain⟨o,ho⟩:=hs;rcases hcases s o ho with⟨q,rfl,_⟩|⟨h1,_⟩;·omega
    ·have hs:=hdomU s ⟨o,h1⟩;rw[hβold s hs];exact h.uI s h9 hs
   ·refine⟨hfr.os.trans h.bK.os,hfr.tape.trans h.bK.tape,hfr.output.trans h.bK.output,Nat.le_trans h.bK.size hfr.size,fun b h1 h2=>?_⟩;refine(hsame b (by have:=h.bK.size;omega) fun hbt=>?_).trans (h.bK.block b h1 h2);rcases h.old t b hdt hbt with h4|h4;·omega
    ·exact h2 h4
  refine⟨v,β2,rfl,hrel,?_⟩;refine j9 htup (fun q c u hc hu=>?_) hrv;have hrc:=zN (bS x) q c hres hc;cases c with
  |fr e' rows'=>
   have hq:dm (cellAt (bS x) q)=some (.arr e' rows'):=by rw[hc];rfl
   obtain⟨hu1,hu2⟩:=RV.aR (show RV P _ w' β1 _ u (.own q) from hu);rw[hu1,←hβnew q _ hq];exact .own (d+1000*q) ⟨_,hdomNew q _ hq⟩|pv q'=>exact .pv _ _ (hconv u q' hu.bh fun hf=>ie (bS x) q _ hf.1 hc)|rp cs=>
   rcases hcase with⟨hpu,hSe⟩|⟨hfl,_⟩;·obtain⟨ad,us',rfl,h1,h2,h3,h4⟩:=(show RV P _ w' β1 _ u (.rp cs) from hu).iK;exact .rp ad cs us' (hcalS hpu hSe _ h1).1 h2 h3 (fun j q hq=>(h4 j q hq).mono (hcalS hpu hSe))
   ·exact(ie (bS x) q _ hfl.1 hc).elim|_=>simp[iA]at hrc
end
section
variable{P:Program}{S0 L:Nat→Prop}{B0:Nat→Value}{w0 w:World}{N:Nat}{st:St}{a:Act}{β:Nat→Value}
theorem Gx {aa objs':Nat→Option AO}{T ks:List Nat}{xs:List AV} (h:Bd aa objs' T ks xs=some [.au]):False:=by
 have hr:∀{x:AV}{r:AV×List Nat},rd 5 aa x=some r→r.1≠.au:=by
  intro x r h e;unfold rd at h;split at h;·obtain⟨y,hy,rfl⟩:=Option.map_eq_some_iff.1 h;simp only at e;subst e;unfold RR at hy;split at hy<;>cases hy
  ·obtain⟨_,_,h⟩:=Option.bind_eq_some_iff.1 h;obtain⟨_,_,rfl⟩:=Option.map_eq_some_iff.1 h;cases e
  ·obtain⟨_,_,rfl⟩:=Option.map_eq_some_iff.1 h;cases e
  ·cases h;cases e
  ·cases h;cases e
  ·cases h;cases e
  ·cases h
 match ks,xs with
 |[],[]=>cases h|[],_::_=>cases h|_::_,[]=>cases h|k::ks,x::xs=>
  obtain⟨y,hy,h⟩:=Option.bind_eq_some_iff.1 h;obtain⟨ys,_,h⟩:=Option.map_eq_some_iff.1 h;have e:y=.au:=by injection h
  subst e;split at hy;·exact qA hy
  ·split at hy;·obtain⟨r,h1,h2⟩:=Option.map_eq_some_iff.1 hy;exact hr h1 h2
   ·obtain⟨r,_,h2⟩:=Option.map_eq_some_iff.1 hy;cases h2
theorem noF {n f:Nat} (h0:n≤1000000) (h2:3000000≤f+2000000) (h:f<n):False:=by omega
theorem jl {Γ:bJ} (hL:∀b,L b→S0 b) (hΓ:dL P Γ) (h:Rel P S0 L B0 w0 N st a w β) {d:Option Nat} (hd:∀s,d=some s→s<N) {f:FuncId} (hfn:fo P f=true) {K:St→Prop}{vals:List Value}{xs:List AV} (hl:vals.length=xs.length) (hv:ak xs→∀(i:Nat) (v:Value) (x:AV),vals[i]?=some v→(xs.map strip)[i]?=some x→RV P (aS S0 w0.heap.size β st.aa w) w β (ay st.aa) v x) (hs:stepG Γ d f xs (iN Γ f) K st):Calls P f vals.toArray w fun e w'=>∃v β' st',e=.returned v∧K st'∧Rel P S0 L B0 w0 N st' (a.put d v) w' β':=by
 unfold stepG at hs;obtain⟨d,rfl,ha,hs⟩:=ae hs;obtain⟨ks,_,hs⟩:=ae hs;obtain⟨hTn,hQT,hs⟩:=hs;obtain⟨hQn0,hs⟩:=hs;obtain⟨ys,hys,hs⟩:=ae hs;obtain⟨⟨φ,x⟩,hx,hφ,hpf,hs⟩:=ae hs;obtain⟨o,ho,ho1,hs⟩:=ae hs;obtain⟨r,hr,hfree,hK⟩:=ae hs;have hdN:=hd d rfl;have hlim:=h.pY.1;have hcon:Bv P f ys x:=by
  rcases hΓ (f+2000000) ys φ x hx hφ with⟨h1,_⟩|⟨_,_,h1,_⟩|⟨_,_,_,h1|h1⟩|⟨h0,h1,_⟩;·exact absurd h1 (Nat.not_lt.2 (Nat.le_trans (by decide) (Nat.le_add_left 2000000 f)))
  ·exact absurd h1 (Nat.not_lt.2 (Nat.le_add_left 2000000 f))
  ·subst h1;exact(Gx hys).elim
  ·rw[show f+2000000-2000000=f from Nat.add_sub_cancel _ _]at h1;exact h1
  ·exact(noF h0 h1 (gW hfn)).elim
 have hQn:∀{T Q:List Nat},T.Nodup→Q.Nodup→(∀t∈Q,t∈T)→(Q++pe d T (T.filter fun t=>!Q.contains t)).Nodup:=by
  intro T Q hT hQ hQT;unfold pe;rw[List.nodup_append,List.nodup_append];refine⟨hQ,⟨List.Pairwise.filter _ (List.Pairwise.filter _ hT),List.Pairwise.filter _ (qG d),?_⟩,?_⟩;·rintro x hx y hy rfl;have h1:=(List.mem_filter.1 (List.mem_filter.1 hx).1).1;have h2:=(List.mem_filter.1 hy).2;simp at h2;exact h2 h1
  ·rintro x hx y hy rfl;rcases List.mem_append.1 hy with hy|hy;·have h2:=(List.mem_filter.1 (List.mem_filter.1 hy).1).2;simp at h2;exact h2 hx
   ·have h2:=(List.mem_filter.1 hy).2;simp at h2;exact h2 (hQT _ hx)
 refine(HB (a:=a) (fun _=>hL) h (by omega) (by rw[hl,List.length_map]) (hv ha) rfl rfl rfl hTn hQT (hQn hTn hQn0 hQT) hys hcon hpf ho ho1 hr hfree).mono ?_;rintro e w' ⟨v,β',rfl,hR,hrv⟩;exact⟨v,β',_,rfl,hK,hR.put hd hrv⟩
end
end Go.Proofs.YtlicclncicbajaaGreat.Ab
