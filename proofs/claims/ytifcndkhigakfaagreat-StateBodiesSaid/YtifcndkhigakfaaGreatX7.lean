/- The abstract machine: two operations of one region change places. -/
import Derived.Test.YtifcndkhigakfaaGreatX6
set_option linter.unusedVariables false
set_option linter.unusedSimpArgs false
set_option linter.unnecessarySimpa false
set_option maxHeartbeats 40000000
set_option maxRecDepth 100000
namespace Go.Proofs.YtifcndkhigakfaaGreat.Ab
open Go Go.RowKit
theorem kl (t:Nat):∀a:AV,strip (kill t a)=kill t (strip a)|.ck g v=>by simp only[kill,strip];exact kl t v|.pv p=>rfl|.own s=>by show strip (if s=t then .ak else .own s)=(if s=t then .ak else .own s);split<;>rfl|.ptr s o=>rfl|.aY s e i o=>by show strip (if s=t then .ak else .aY s e i o)=(if s=t then .ak else .aY s e i o);split<;>rfl|.sub s e i o=>by show strip (if s=t then .ak else .sub s e i o)=(if s=t then .ak else .sub s e i o);split<;>rfl|.rp cs=>rfl|.agg cs=>rfl|.aS vs=>rfl|.bZ f []=>rfl|.bZ f (c::cs)=>rfl|.fr e rows=>rfl|.bx _=>rfl|.mf _=>rfl|.ak=>rfl
theorem wN (t:Nat):∀a:AV,asks (kill t a)=asks a|.ck g v=>by simp only[kill,asks];rw[wN t v]|.pv p=>rfl|.own s=>by show asks (if s=t then .ak else .own s)=asks (.own s);split<;>rfl|.ptr s o=>rfl|.aY s e i o=>by show asks (if s=t then .ak else .aY s e i o)=asks (.aY s e i o);split<;>rfl|.sub s e i o=>by show asks (if s=t then .ak else .sub s e i o)=asks (.sub s e i o);split<;>rfl|.rp cs=>rfl|.agg cs=>rfl|.aS vs=>rfl|.bZ f []=>rfl|.bZ f (c::cs)=>rfl|.fr e rows=>rfl|.bx _=>rfl|.mf _=>rfl|.ak=>rfl
theorem yO {t:Nat}{v:AV}{p:PV} (h:kill t v=.pv p):v=.pv p:=by cases v with|pv q=>exact h|own s=>have h:(if s=t then AV.ak else .own s)=.pv p:=h;split at h<;>cases h|aY s e i o=>have h:(if s=t then AV.ak else .aY s e i o)=.pv p:=h;split at h<;>cases h|sub s e i o=>have h:(if s=t then AV.ak else .sub s e i o)=.pv p:=h;split at h<;>cases h|bZ f cs=>cases cs<;>cases h|_=>cases h
theorem Iv (t:Nat) (v:Value):kill t (cv v)=cv v:=by unfold cv;split<;>rfl
theorem Kw (t:Nat) (vars:Nat→AV) (x:Operand):Ab.ev (cC t vars) x=kill t (Ab.ev vars x):=by cases x with|const v=>exact(Iv t v).symm|_=>rfl
theorem lQ (t:Nat) (vars:Nat→AV) (xs:List Operand):xs.map (Ab.ev (cC t vars))=(xs.map (Ab.ev vars)).map (kill t):=by rw[List.map_map];exact List.map_congr_left fun x _=>Kw t vars x
theorem kz (t:Nat):∀xs:List AV,an (xs.map (kill t))=an xs|[]=>rfl|x::xs=>by simp only[List.map_cons,an];rw[wN,kz t xs]
theorem rC {t:Nat}:∀{xs:List AV},(∀y∈xs.map strip,∃p,y=AV.pv p)→(xs.map (kill t)).map strip=xs.map strip|[],_=>rfl|x::xs,h=>by simp only[List.map_cons,List.mem_cons,forall_eq_or_imp]at h ⊢;obtain⟨⟨p,hp⟩,h⟩:=h;rw[rC h,kl,hp];rfl
theorem nh {t:Nat}:∀{xs:List AV},(∀y∈(xs.map (kill t)).map strip,∃p,y=AV.pv p)→(xs.map (kill t)).map strip=xs.map strip|[],_=>rfl|x::xs,h=>by simp only[List.map_cons,List.mem_cons,forall_eq_or_imp]at h ⊢;obtain⟨⟨p,hp⟩,h⟩:=h;rw[nh h,hp];rw[kl]at hp;rw[yO hp]
theorem Dg {k:AK}{ys:List AV}{aa:Nat→Option AO}{r:Prop×AV} (hk:aK k=true) (h:al k ys aa=some r):(∀y∈ys,∃p,y=AV.pv p)∧∃q,r.2=.pv q:=by unfold al at h;split at h<;>first|(simp[aK]at hk;done)|(obtain⟨x,_,rfl⟩:=Option.map_eq_some_iff.1 h;exact⟨by simp,_,rfl⟩)|(simp only[Option.some.injEq]at h;subst h;exact⟨by simp,_,rfl⟩)|cases h
section
variable{P:Program}{Γ:bR}{d:Option Nat}{k:AK}{xs:List AV}{aa objs':Nat→Option AO}{e:bE}{t:Nat}
def vk (k:AK) (xs:List AV):Option (Prop×AV):=match k with
 |.nX=>match xs with|[x]=>some (True,x)|_=>none
 |k=>(al k (xs.map strip) fun _=>none).map fun r=>(an xs∧r.1,r.2)
theorem gj (hk:aK k=true):aZ P Γ d k xs aa (fun e'=>e'=e)↔∃φ v,vk k xs=some (φ,v)∧φ∧e=.put v:=by
 have hq:∀{k:AK},aK k=true→((an xs∧ai (al k (xs.map strip) aa) fun x=>x.1∧bE.put x.2=e)↔∃φ v,((al k (xs.map strip) fun _=>none).map fun r=>(an xs∧r.1,r.2))=some (φ,v)∧φ∧e=.put v):=by
  intro k hk;constructor;·rintro⟨ha,hw⟩;obtain⟨r,hr,hφ,he⟩:=ae hw;exact⟨an xs∧r.1,r.2,by rw[iJ (objs':=fun _=>none) hk hr];rfl,⟨ha,hφ⟩,he.symm⟩
  ·rintro⟨φ,v,hs,hφ,he⟩;obtain⟨r,hr,hx⟩:=Option.map_eq_some_iff.1 hs;cases hx;exact⟨hφ.1,by rw[iJ (objs':=aa) hk hr];exact⟨hφ.2,he.symm⟩⟩
 cases k with
 |nX=>
  dsimp only[aZ,vk];constructor;·intro h;obtain⟨x,hx,hl,he⟩:=ae h;obtain⟨y,rfl⟩:=List.length_eq_one_iff.1 hl;simp only[List.head?_cons,Option.some.injEq]at hx;subst hx;exact⟨_,_,rfl,trivial,he.symm⟩
  ·rintro⟨φ,v,hs,hφ,rfl⟩;split at hs;·cases hs;exact⟨rfl,rfl⟩
   ·cases hs|bin op=>exact hq rfl|beq ne=>exact hq rfl|not=>exact hq rfl|neg=>exact hq rfl|CE k=>exact hq rfl|Di=>exact hq rfl|_=>simp[aK]at hk
theorem gm {c:Bool} (hk:aK k=true):cw P Γ c d k xs aa (fun e'=>e'=e)↔∃φ v,vk k xs=some (φ,v)∧(c=true→φ)∧e=.put (.ck c v):=by
 have hq:∀{k:AK},aK k=true→((ai (al k (xs.map strip) aa) fun x=>(c=true→an xs∧x.1)∧bE.put (.ck c x.2)=e)↔∃φ v,((al k (xs.map strip) fun _=>none).map fun r=>(an xs∧r.1,r.2))=some (φ,v)∧(c=true→φ)∧e=.put (.ck c v)):=by
  intro k hk;constructor;·intro hw;obtain⟨r,hr,hφ,he⟩:=ae hw;exact⟨an xs∧r.1,r.2,by rw[iJ (objs':=fun _=>none) hk hr];rfl,hφ,he.symm⟩
  ·rintro⟨φ,v,hs,hφ,he⟩;obtain⟨r,hr,hx⟩:=Option.map_eq_some_iff.1 hs;cases hx;rw[iJ (objs':=aa) hk hr];exact⟨hφ,he.symm⟩
 cases k with
 |nX=>
  dsimp only[cw,vk];constructor;·intro h;obtain⟨x,hx,hl,he⟩:=ae h;obtain⟨y,rfl⟩:=List.length_eq_one_iff.1 hl;simp only[List.head?_cons,Option.some.injEq]at hx;subst hx;exact⟨_,_,rfl,fun _=>trivial,he.symm⟩
  ·rintro⟨φ,v,hs,hφ,rfl⟩;split at hs;·cases hs;exact⟨rfl,rfl⟩
   ·cases hs|bin op=>exact hq rfl|beq ne=>exact hq rfl|not=>exact hq rfl|neg=>exact hq rfl|CE k=>exact hq rfl|Di=>exact hq rfl|_=>simp[aK]at hk
theorem wh {φ:Prop}{v:AV} (hk:aK k=true) (h:vk k xs=some (φ,v)):vk k (xs.map (kill t))=some (φ,kill t v):=by
 have hq:((al k (xs.map strip) fun _=>none).map fun r=>(an xs∧r.1,r.2))=some (φ,v)→((al k ((xs.map (kill t)).map strip) fun _=>none).map fun r=>(an (xs.map (kill t))∧r.1,r.2))=some (φ,kill t v):=by intro h;obtain⟨r,hr,hx⟩:=Option.map_eq_some_iff.1 h;obtain⟨hp,q,hq⟩:=Dg hk hr;cases hx;rw[rC hp,hr,kz,hq];show some (an xs∧r.1,r.2)=_;rw[hq];rfl
 cases k with
 |nX=>
  dsimp only[vk]at h ⊢;split at h;·cases h;rfl
  ·cases h|bin op=>exact hq h|beq ne=>exact hq h|not=>exact hq h|neg=>exact hq h|CE k=>exact hq h|Di=>exact hq h|_=>simp[aK]at hk
theorem qQ {φ:Prop}{v:AV} (hk:aK k=true) (h:vk k (xs.map (kill t))=some (φ,v)):∃u,v=kill t u∧vk k xs=some (φ,u):=by
 have hq:((al k ((xs.map (kill t)).map strip) fun _=>none).map fun r=>(an (xs.map (kill t))∧r.1,r.2))=some (φ,v)→∃u,v=kill t u∧((al k (xs.map strip) fun _=>none).map fun r=>(an xs∧r.1,r.2))=some (φ,u):=by intro h;obtain⟨r,hr,hx⟩:=Option.map_eq_some_iff.1 h;obtain⟨hp,q,hq⟩:=Dg hk hr;rw[nh hp]at hr;rw[kz]at hx;cases hx;exact⟨r.2,by rw[hq];rfl,by rw[hr];rfl⟩
 cases k with
 |nX=>
  dsimp only[vk]at h ⊢;rcases xs with _|⟨x,_|⟨y,xs⟩⟩;·cases h
  ·cases h;exact⟨x,rfl,rfl⟩
  ·cases h|bin op=>exact hq h|beq ne=>exact hq h|not=>exact hq h|neg=>exact hq h|CE k=>exact hq h|Di=>exact hq h|_=>simp[aK]at hk
end
section
variable{P:Program}{Γ:bR}{i:AI}{vars vars':Nat→AV}{aa objs':Nat→Option AO}{e:bE}{t:Nat}
theorem oF (w:Bool):∀v:AV,bJ (kill t v) w=bJ v w|.ck c v=>by simp only[kill,bJ];rw[oF w v]|.own s|.aY s _ _ _|.sub s _ _ _=>by simp only[kill,b8];split<;>rfl|.bZ f cs=>by cases cs<;>rfl|.pv _|.ptr _ _|.rp _|.agg _|.aS _|.fr _ _|.bx _|.mf _|.ak=>rfl
theorem rD {v:AV}{w c:Bool}:bJ (kill t v) w=some c↔bJ v w=some c:=by rw[oF]
theorem sP (hk:aK i.k=true) (h:dR P Γ i vars aa fun e'=>e'=e):∃v,e=.put v∧∀t objs',dR P Γ i (cC t vars) objs' fun e'=>e'=.put (kill t v):=by unfold dR at h ⊢;cases hg:i.g with|none=>rw[hg]at h;obtain⟨φ,v,hs,hφ,rfl⟩:=(gj hk).1 h;refine⟨v,rfl,fun t objs'=>?_⟩;rw[lQ];exact(gj hk).2 ⟨φ,_,wh hk hs,hφ,rfl⟩|some sw=>obtain⟨s,w⟩:=sw;rw[hg]at h;dsimp only at h ⊢;obtain⟨c,hc,h⟩:=ae h;obtain⟨φ,v,hs,hφ,rfl⟩:=(gm hk).1 h;refine⟨_,rfl,fun t objs'=>?_⟩;rw[show cC t vars s=kill t (vars s) from rfl,rD.2 hc,lQ];exact(gm hk).2 ⟨φ,_,wh hk hs,hφ,rfl⟩
theorem pY (hk:aK i.k=true) (h:dR P Γ i (cC t vars) aa fun e'=>e'=e):∃v,e=.put (kill t v)∧∀objs',dR P Γ i vars objs' fun e'=>e'=.put v:=by unfold dR at h ⊢;cases hg:i.g with|none=>rw[hg]at h;dsimp only at h;rw[lQ]at h;obtain⟨φ,v,hs,hφ,rfl⟩:=(gj hk).1 h;obtain⟨u,rfl,hu⟩:=qQ hk hs;exact⟨u,rfl,fun objs'=>(gj hk).2 ⟨φ,_,hu,hφ,rfl⟩⟩|some sw=>obtain⟨s,w⟩:=sw;rw[hg]at h;dsimp only at h ⊢;obtain⟨c,hc,h⟩:=ae h;rw[lQ]at h;obtain⟨φ,v,hs,hφ,rfl⟩:=(gm hk).1 h;obtain⟨u,rfl,hu⟩:=qQ hk hs;refine⟨.ck c u,rfl,fun objs'=>?_⟩;rw[rD.1 hc];exact(gm hk).2 ⟨φ,_,hu,hφ,rfl⟩
theorem dQ (hk:aK i.k=true) (h:dR P Γ i vars aa fun e'=>e'=e):(∃v,e=.put v)∧∀objs',dR P Γ i vars objs' fun e'=>e'=e:=by unfold dR at h ⊢;cases hg:i.g with|none=>rw[hg]at h;obtain⟨φ,v,hs,hφ,rfl⟩:=(gj hk).1 h;exact⟨⟨v,rfl⟩,fun objs'=>(gj hk).2 ⟨φ,_,hs,hφ,rfl⟩⟩|some sw=>obtain⟨s,w⟩:=sw;rw[hg]at h;dsimp only at h ⊢;obtain⟨c,hc,h⟩:=ae h;obtain⟨φ,v,hs,hφ,rfl⟩:=(gm hk).1 h;exact⟨⟨_,rfl⟩,fun objs'=>by rw[hc];exact(gm hk).2 ⟨φ,_,hs,hφ,rfl⟩⟩
theorem FK {x:Operand} (h:∀s∈tmpsOf [x],vars s=vars' s):Ab.ev vars x=Ab.ev vars' x:=by cases x with|tmp t=>exact h t (by simp[tmpsOf])|_=>rfl
theorem gi:∀{xs:List Operand},(∀s∈tmpsOf xs,vars s=vars' s)→xs.map (Ab.ev vars)=xs.map (Ab.ev vars')|[],_=>rfl|x::xs,h=>by have h1:Ab.ev vars x=Ab.ev vars' x:=FK fun s hs=>h s (by cases x<;>simp_all[tmpsOf]);have h2:xs.map (Ab.ev vars)=xs.map (Ab.ev vars'):=gi fun s hs=>h s (by cases x<;>simp_all[tmpsOf]);simp only[List.map_cons,h1,h2]
theorem ec {C:bE→Prop} (ha:∀s∈cX i,vars s=vars' s) (h:dR P Γ i vars aa C):dR P Γ i vars' aa C:=by have hx:=gi (vars:=vars) (vars':=vars') (xs:=i.xs) fun s hs=>ha s (List.mem_append_left _ hs);unfold dR at h ⊢;rw[←hx];cases hg:i.g with|none=>rw[hg]at h;exact h|some sw=>obtain⟨s,w⟩:=sw;rw[hg]at h;dsimp only at h ⊢;rw[←ha s (List.mem_append_right _ (by rw[hg];simp))];exact h
theorem s6 {T:List Nat}{C:bE→Prop} (hag:∀t,jV T t→aa t=objs' t) (hk:isApp i.k=false) (hd:∀s,i.d=some s→s<1000∧T.contains s=false) (hno:aK i.k=true∨j8 T aa ((i.xs.map (Ab.ev vars)).map strip)) (h:dR P Γ i vars aa C):dR P Γ i vars objs' C:=by unfold dR at h ⊢;cases hg:i.g with|none=>rw[hg]at h;exact tA hag hk hd hno h|some sw=>obtain⟨s,w⟩:=sw;rw[hg]at h;dsimp only at h ⊢;obtain⟨c,hc,h⟩:=ae h;rw[hc];exact Cc hag hk hd hno h
def oE (i:AI) (e:bE):Prop:=(∃v,e=.put v)∨(makes i.k=true∧∃d v os,i.d=some d∧e=.new v os∧∀x∈os,∃p,x.1=d+1000*p)∨(writes i.k=true∧makes i.k=false∧∃t o,e=.wE t o)∨(isApp i.k=true∧∃t o,e=.app t o)
theorem As {xs:List AV} (h:aZ P Γ i.d i.k xs aa fun e'=>e'=e):oE i e:=by
 have hmk:∀{k:AK},makes i.k=true→(ai i.d fun d=>an xs∧ai (cD k d (xs.map strip) aa) fun x=>x.1∧aa d=none∧bE.new x.2.1 [(d,x.2.2)]=e)→oE i e:=by intro k hk hw;obtain⟨d,hd,ha,hw⟩:=ae hw;obtain⟨x,hx,hφ,hn,rfl⟩:=ae hw;exact .inr (.inl ⟨hk,d,_,_,hd,rfl,fun x hx=>⟨0,by simp only[List.mem_singleton]at hx;rw[hx];rfl⟩⟩)
 cases hk:i.k with|nX=>rw[hk]at h;obtain⟨φ,v,_,_,rfl⟩:=(gj rfl).1 h;exact .inl ⟨v,rfl⟩|pick=>rw[hk]at h;dsimp only[aZ]at h;obtain⟨x,_,_,rfl⟩:=ae h;exact .inl ⟨_,rfl⟩|ij e=>rw[hk]at h;exact hmk (by rw[hk];rfl) h|box=>rw[hk]at h;exact hmk (by rw[hk];rfl) h|alloc zs=>rw[hk]at h;exact hmk (by rw[hk];rfl) h|rT e sz=>rw[hk]at h;exact hmk (by rw[hk];rfl) h|store n=>rw[hk]at h;obtain⟨_,hw⟩:=h;obtain⟨x,_,_,rfl⟩:=ae hw;exact .inr (.inr (.inl ⟨by rw[hk];rfl,by rw[hk];rfl,_,_,rfl⟩))|app e sz bytes=>
  rw[hk]at h;dsimp only[aZ]at h;obtain⟨ha,hw⟩:=h;split at hw;·obtain⟨x,_,_,rfl⟩:=ae hw;exact .inr (.inr (.inr ⟨by rw[hk];rfl,_,_,rfl⟩))
  ·obtain⟨d,hd,hw⟩:=ae hw;obtain⟨x,hx,hφ,hn,rfl⟩:=ae hw;exact .inr (.inl ⟨by rw[hk];rfl,d,_,_,hd,rfl,fun x hx=>⟨0,by simp only[List.mem_singleton]at hx;rw[hx];rfl⟩⟩)|call f=>rw[hk]at h;dsimp only[aZ,cH]at h;obtain⟨d,hd,ha,hw⟩:=ae h;obtain⟨ys,hys,hw⟩:=ae hw;obtain⟨⟨φ,r⟩,hr,h1,h2,h3,h4,rfl⟩:=ae hw;refine .inr (.inl ⟨by rw[hk];rfl,d,_,_,hd,rfl,fun x hx=>?_⟩);exact wL d r x hx|_=>rw[hk]at h;obtain⟨_,hw⟩:=h;obtain⟨x,_,_,rfl⟩:=ae hw;exact .inl ⟨_,rfl⟩
theorem AZ (h:dR P Γ i vars aa fun e'=>e'=e):oE i e:=by unfold dR at h;cases hg:i.g with|none=>rw[hg]at h;exact As h|some sw=>
 obtain⟨s,w⟩:=sw;rw[hg]at h;dsimp only at h;obtain⟨c,hc,h⟩:=ae h;have hmk:∀{v:AV},((c=true→aZ P Γ i.d i.k (i.xs.map (Ab.ev vars)) aa fun e'=>e'=e)∧(c=false→bE.put v=e))→oE i e:=by rintro v ⟨ht,hf⟩;cases c with|true=>exact As (ht rfl)|false=>exact .inl ⟨_,(hf rfl).symm⟩
 cases hk:i.k with
 |nX=>rw[hk]at h;obtain⟨φ,v,_,_,rfl⟩:=(gm rfl).1 h;exact .inl ⟨_,rfl⟩|pick=>rw[hk]at h;dsimp only[cw]at h;obtain⟨x,_,_,rfl⟩:=ae h;exact .inl ⟨_,rfl⟩|ij e=>rw[hk]at h hmk;exact hmk h|box=>rw[hk]at h hmk;exact hmk h|alloc zs=>rw[hk]at h hmk;exact hmk h|rT e sz=>rw[hk]at h hmk;exact hmk h|store n=>rw[hk]at h hmk;exact hmk h|app e sz bytes=>rw[hk]at h hmk;exact hmk h|call f=>
  rw[hk]at h hmk;dsimp only[cw]at h;obtain⟨ys,hys,h⟩:=ae h;obtain⟨⟨φ,r⟩,hr,h⟩:=ae h;split at h;·obtain⟨h1,h2,h3,h4,rfl⟩:=h;exact .inl ⟨_,rfl⟩
  ·exact hmk h|_=>rw[hk]at h;dsimp only[cw]at h;obtain⟨x,_,_,rfl⟩:=ae h;exact .inl ⟨_,rfl⟩
end
theorem St.ext' {a b:St} (h1:a.vars=b.vars) (h2:a.aa=b.aa):a=b:=by cases a;cases b;simp only at h1 h2;rw[h1,h2]
theorem oW {d:Option Nat}{v:AV}{f:Nat→AV}{s:Nat} (h:d≠some s):Ab.put d v f s=f s:=by cases d with|none=>rfl|some d=>have:s≠d:=fun e=>h (by rw[e]);simp[Ab.put,this]
theorem put_comm {d d':Option Nat}{v v':AV}{f:Nat→AV} (h:∀s,d=some s→d'≠some s):Ab.put d v (Ab.put d' v' f)=Ab.put d' v' (Ab.put d v f):=by cases d with|none=>rfl|some d=>cases d' with|none=>rfl|some d'=>
 have hne:d'≠d:=fun e=>h d rfl (by rw[e]);funext s;by_cases h1:s=d;·subst h1;simp[Ab.put,hne.symm]
 ·simp[Ab.put,h1]
theorem oD {t:Nat}{d:Option Nat}{v:AV}{f:Nat→AV}:cC t (Ab.put d v f)=Ab.put d (kill t v) (cC t f):=by cases d with|none=>rfl|some d=>
 funext s;by_cases h1:s=d;·simp[cC,Ab.put,h1]
 ·simp[cC,Ab.put,h1]
def ov:bE→Nat→Option AO|.new _ os=>ab os|.wE t o=>fun s=>if s=t then some o else none|_=>fun _=>none
def se (f g:Nat→Option AO):Nat→Option AO:=fun t=>match f t with|some o=>some o|none=>g t
def valE:bE→AV|.put v=>v|.new v _=>v|.wE _ _=>.ak|.app t _=>.own t
def plain:bE→Prop|.app _ _=>False|_=>True
theorem dY {e:bE}{d:Option Nat}{st:St} (h:plain e):e.on d st=⟨Ab.put d (valE e) st.vars,se (ov e) st.aa⟩:=by cases e with|put v=>rfl|new v os=>rfl|wE t o=>refine St.ext' rfl ?_;funext s;by_cases hs:s=t<;>simp[bE.on,se,ov,aN,hs]|app t o=>exact h.elim
theorem E7 {f g h:Nat→Option AO} (hfg:∀t,f t=none∨g t=none):se f (se g h)=se g (se f h):=by funext t;unfold se;rcases hfg t with e|e<;>rw[e]<;>cases f t<;>cases g t<;>rfl
def Yi (P:Program) (Γ:bR) (i:AI) (st:St) (e:bE):Prop:=(i.un=[]∨j8 i.un st.aa ((i.xs.map (Ab.ev st.vars)).map strip))∧(dR P Γ i st.vars st.aa fun e'=>e'=e)∧By i.un i.tg e
theorem wO {P:Program}{Γ:bR}{d:Option Nat}{k:AK}{xs:List AV}{aa:Nat→Option AO}{e:bE}{C:bE→Prop} (hC:C e) (hs:aZ P Γ d k xs aa fun e'=>e'=e):aZ P Γ d k xs aa C:=by cases k with
 |nX=>dsimp only[aZ]at hs ⊢;obtain⟨x,hx,hl,rfl⟩:=ae hs;rw[hx];exact⟨hl,hC⟩|pick=>dsimp only[aZ]at hs ⊢;obtain⟨x,hx,hl,rfl⟩:=ae hs;rw[hx];exact⟨hl,hC⟩|ij e=>dsimp only[aZ]at hs ⊢;obtain⟨d,hd,ha,hw⟩:=ae hs;obtain⟨x,hx,hl,hn,rfl⟩:=ae hw;rw[hd];exact⟨ha,by rw[hx];exact⟨hl,hn,hC⟩⟩|box=>dsimp only[aZ]at hs ⊢;obtain⟨d,hd,ha,hw⟩:=ae hs;obtain⟨x,hx,hl,hn,rfl⟩:=ae hw;rw[hd];exact⟨ha,by rw[hx];exact⟨hl,hn,hC⟩⟩|alloc zs=>dsimp only[aZ]at hs ⊢;obtain⟨d,hd,ha,hw⟩:=ae hs;obtain⟨x,hx,hl,hn,rfl⟩:=ae hw;rw[hd];exact⟨ha,by rw[hx];exact⟨hl,hn,hC⟩⟩|rT e sz=>dsimp only[aZ]at hs ⊢;obtain⟨d,hd,ha,hw⟩:=ae hs;obtain⟨x,hx,hl,hn,rfl⟩:=ae hw;rw[hd];exact⟨ha,by rw[hx];exact⟨hl,hn,hC⟩⟩|store n=>dsimp only[aZ]at hs ⊢;obtain⟨ha,hw⟩:=hs;obtain⟨x,hx,hl,rfl⟩:=ae hw;exact⟨ha,by rw[hx];exact⟨hl,hC⟩⟩|app e sz bytes=>
  dsimp only[aZ]at hs ⊢;obtain⟨ha,hw⟩:=hs;refine⟨ha,?_⟩;by_cases ho:pg (xs.map strip)=true;·rw[if_pos ho]at hw ⊢;obtain⟨x,hx,hl,rfl⟩:=ae hw;rw[hx];exact⟨hl,hC⟩
  ·rw[if_neg ho]at hw ⊢;obtain⟨d,hd,hw⟩:=ae hw;obtain⟨x,hx,hl,hn,rfl⟩:=ae hw;rw[hd];show ai (cD _ d _ _) _;rw[hx];exact⟨hl,hn,hC⟩|call f=>dsimp only[aZ,cH]at hs ⊢;obtain⟨d,hd,ha,hw⟩:=ae hs;obtain⟨ys,hys,hw⟩:=ae hw;obtain⟨⟨φ,r⟩,hr,h1,h2,h3,h4,rfl⟩:=ae hw;rw[hd];exact⟨ha,by rw[hys];show ai (gt Γ f ys) _;rw[hr];exact⟨h1,h2,h3,h4,hC⟩⟩|_=>obtain⟨ha,hw⟩:=hs;obtain⟨x,hx,hl,rfl⟩:=ae hw;exact⟨ha,by rw[hx];exact⟨hl,hC⟩⟩
theorem Fu {P:Program}{Γ:bR}{c:Bool}{d:Option Nat}{k:AK}{xs:List AV}{aa:Nat→Option AO}{e:bE}{C:bE→Prop} (hC:C e) (hs:cw P Γ c d k xs aa fun e'=>e'=e):cw P Γ c d k xs aa C:=by have hmk:∀{v:AV},((c=true→aZ P Γ d k xs aa fun e'=>e'=e)∧(c=false→bE.put v=e))→((c=true→aZ P Γ d k xs aa C)∧(c=false→C (.put v))):=fun h=>⟨fun hc=>wO hC (h.1 hc),fun hc=>by rw[h.2 hc];exact hC⟩;cases k with
 |nX=>dsimp only[cw]at hs ⊢;obtain⟨x,hx,hl,rfl⟩:=ae hs;rw[hx];exact⟨hl,hC⟩|pick=>dsimp only[cw]at hs ⊢;obtain⟨x,hx,hl,rfl⟩:=ae hs;rw[hx];exact⟨hl,hC⟩|ij e=>exact hmk hs|box=>exact hmk hs|alloc zs=>exact hmk hs|rT e sz=>exact hmk hs|store n=>exact hmk hs|app e sz bytes=>exact hmk hs|call f=>
  dsimp only[cw]at hs ⊢;obtain⟨ys,hys,hs⟩:=ae hs;obtain⟨⟨φ,r⟩,hr,hs⟩:=ae hs;rw[hys];show ai (gt Γ f ys) _;rw[hr];show ite _ _ _;split at hs;·rename_i hif;obtain⟨h1,h2,h3,h4,rfl⟩:=hs;rw[if_pos hif];exact⟨h1,h2,h3,h4,hC⟩
  ·rename_i hif;rw[if_neg hif];exact hmk hs|_=>dsimp only[cw]at hs ⊢;obtain⟨x,hx,hl,rfl⟩:=ae hs;rw[hx];exact⟨hl,hC⟩
theorem D8 {P:Program}{Γ:bR}{i:AI}{vars:Nat→AV}{aa:Nat→Option AO}{e:bE}{C:bE→Prop} (hC:C e) (hs:dR P Γ i vars aa fun e'=>e'=e):dR P Γ i vars aa C:=by unfold dR at hs ⊢;cases hg:i.g with|none=>rw[hg]at hs;exact wO hC hs|some sw=>obtain⟨s,w⟩:=sw;rw[hg]at hs;dsimp only at hs ⊢;obtain⟨c,hc,hs⟩:=ae hs;rw[hc];exact Fu hC hs
theorem cA {P:Program}{Γ:bR}{i:AI}{K:St→Prop}{st:St}:cZ P Γ i K st↔∃e,Yi P Γ i st e∧K (e.on i.d st):=by
 constructor;·rintro⟨hu,hs⟩;obtain⟨e,⟨ht,hK⟩,he⟩:=Ff hs;exact⟨e,⟨hu,he,ht⟩,hK⟩
 ·rintro⟨e,⟨hu,he,ht⟩,hK⟩;exact⟨hu,D8 (C:=fun e=>By i.un i.tg e∧K (e.on i.d st)) ⟨ht,hK⟩ he⟩
structure Da (x y:AI):Prop where
 xd:∀d,x.d=some d→d∉cX y∧y.d≠some d∧y.tg≠some d∧d<1000
 yd:∀d,y.d=some d→d∉cX x∧x.tg≠some d∧d<1000
 ya:(aK y.k=true∧y.un=[])∨(isApp x.k=false∧(writes x.k=true→∃s,x.tg=some s)∧∀t∈cg x,t<1000∧y.un.contains t=true)
 xa:(aK x.k=true∧x.un=[])∨(isApp y.k=false∧(writes y.k=true→∃s,y.tg=some s)∧∀t∈cg y,t<1000∧x.un.contains t=true)
 both:aK x.k=true∨aK y.k=true∨writes x.k=false∨writes y.k=false∨x.tg≠y.tg
theorem rF {o:Option Nat} (h:yl o=true):∃s,o=some s:=by cases o with|none=>cases h|some s=>exact⟨s,rfl⟩
theorem apart_spec {x y:AI} (h:CH x y=true):Da x y:=by
 unfold CH at h;simp only[Bool.and_eq_true]at h;obtain⟨⟨⟨⟨h1,h2⟩,h3⟩,h4⟩,h5⟩:=h;refine⟨fun d hd=>?_,fun d hd=>?_,?_,?_,?_⟩;·rw[hd]at h1;simp only[Bool.and_eq_true,Bool.not_eq_true',List.contains_eq_mem,decide_eq_false_iff_not,bne_iff_ne,decide_eq_true_eq]at h1;exact⟨h1.1.1.1,h1.1.1.2,h1.1.2,h1.2⟩
 ·rw[hd]at h2;simp only[Bool.and_eq_true,Bool.not_eq_true',List.contains_eq_mem,decide_eq_false_iff_not,bne_iff_ne,decide_eq_true_eq]at h2;exact⟨h2.1.1,h2.1.2,h2.2⟩
 ·simp only[Bool.or_eq_true,Bool.and_eq_true,Bool.not_eq_true',List.all_eq_true,decide_eq_true_eq,List.isEmpty_iff]at h3;refine h3.imp id fun⟨⟨ha,hb⟩,hc⟩=>⟨ha,fun hw=>?_,fun t ht=>hc t ht⟩;rcases hb with hb|hb;·rw[hb]at hw;cases hw
  ·exact rF hb
 ·simp only[Bool.or_eq_true,Bool.and_eq_true,Bool.not_eq_true',List.all_eq_true,decide_eq_true_eq,List.isEmpty_iff]at h4;refine h4.imp id fun⟨⟨ha,hb⟩,hc⟩=>⟨ha,fun hw=>?_,fun t ht=>hc t ht⟩;rcases hb with hb|hb;·rw[hb]at hw;cases hw
  ·exact rF hb
 ·simp only[Bool.or_eq_true,Bool.not_eq_true',bne_iff_ne]at h5;rcases h5 with(((h|h)|h)|h)|h;·exact .inl h
  ·exact .inr (.inl h)
  ·exact .inr (.inr (.inl h))
  ·exact .inr (.inr (.inr (.inl h)))
  ·exact .inr (.inr (.inr (.inr h)))
section
variable{P:Program}{Γ:bR}{x y:AI}{st:St}{e e':bE}
theorem xr:∀{os:List (Nat×AO)}{t:Nat}{o:AO},ab os t=some o→∃x∈os,x.1=t
 |[],_,_,h=>by cases h|(s,v)::os,t,o,h=>by
  simp only[ab]at h;split at h;·rename_i hs;exact⟨(s,v),List.mem_cons_self,hs.symm⟩
  ·obtain⟨x,hx,h⟩:=xr h;exact⟨x,List.mem_cons_of_mem _ hx,h⟩
theorem xE {i:AI}{e:bE} (he:oE i e) (htg:sO i.tg e) (hlt:∀t∈cg i,t<1000) (hw:writes i.k=true→∃s,i.tg=some s) (ha:isApp i.k=false) {t:Nat} (h:ov e t≠none):(cg i).contains (t%1000)=true:=by
 rcases he with⟨v,rfl⟩|⟨hm,d,v,os,hd,rfl,hos⟩|⟨hwr,hm,t',o,rfl⟩|⟨hap,t,o,rfl⟩;·exact absurd rfl h
 ·cases hl:ab os t with|none=>exact absurd hl h|some o=>
   obtain⟨x,hx,rfl⟩:=xr hl;obtain⟨p,hp⟩:=hos x hx;have hmem:d∈cg i:=by unfold cg;rw[if_pos hm,hd];simp
   rw[hp,Nat.add_mul_mod_self_left,Nat.mod_eq_of_lt (hlt d hmem)];simpa using hmem
 ·obtain⟨s,hs⟩:=hw hwr;have hmem:s∈cg i:=by unfold cg;rw[hm,hwr,hs];simp
  rw[hs]at htg;have htg:t'=s:=htg;subst htg;have:t=t':=by
   by_cases e:t=t';·exact e
   ·exact absurd (by simp[ov,e]) h
  subst this;rw[Nat.mod_eq_of_lt (hlt t hmem)];simpa using hmem
 ·rw[ha]at hap;cases hap
theorem tK {i:AI}{e:bE}{aa:Nat→Option AO}{U:List Nat} (he:oE i e) (htg:sO i.tg e) (hlt:∀t∈cg i,t<1000) (hU:∀t,jV U t→jV (cg i) t) (hw:writes i.k=true→∃s,i.tg=some s) (ha:isApp i.k=false):∀t,jV U t→aa t=se (ov e) aa t:=by intro t ht;unfold se;cases ho:ov e t with|none=>rfl|some o=>have h1:=xE he htg hlt hw ha (t:=t) (by rw[ho];simp);have h2:=hU t ht;unfold jV at h2;rw[h1]at h2;cases h2
theorem Yi.yf (hyx:(aK y.k=true∧y.un=[])∨(isApp x.k=false∧(writes x.k=true→∃s,x.tg=some s)∧∀t∈cg x,t<1000∧y.un.contains t=true)) (hax:aK y.k=true∨isApp y.k=false) (hyd:∀d,y.d=some d→x.d≠some d∧x.tg≠some d∧d<1000) (hu:∀d,x.d=some d→d∉cX y) {vars:Nat→AV}{aa objs':Nat→Option AO}{v:AV} (hag:∀T,(∀t,jV T t→jV (cg x) t)→(isApp x.k=false∧(writes x.k=true→∃s,x.tg=some s)∧∀t∈cg x,t<1000)→∀t,jV T t→aa t=objs' t):Yi P Γ y ⟨Ab.put x.d v vars,aa⟩ e'↔Yi P Γ y ⟨vars,objs'⟩ e':=by
 have hvs:∀s∈cX y,Ab.put x.d v vars s=vars s:=fun s hs=>oW fun hd=>hu s hd hs;have hev:y.xs.map (Ab.ev (Ab.put x.d v vars))=y.xs.map (Ab.ev vars):=gi fun s hs=>hvs s (List.mem_append_left _ hs);have hsym:∀{f g:Nat→Option AO}{T:List Nat},(∀t,jV T t→f t=g t)→∀t,jV T t→g t=f t:=fun h t ht=>(h t ht).symm;unfold Yi;simp only[hev];rcases hyx with⟨hy,hun⟩|⟨hxa,hxw,hxt⟩
 ·constructor;·rintro⟨_,h,ht⟩;exact⟨.inl hun,ec hvs ((dQ hy h).2 _),ht⟩
  ·rintro⟨_,h,ht⟩;exact⟨.inl hun,ec (fun s hs=>(hvs s hs).symm) ((dQ hy h).2 _),ht⟩
 ·have hsub:∀t,jV y.un t→jV (cg x) t:=by intro t ht;unfold jV at ht ⊢;cases hc:(cg x).contains (t%1000) with|false=>rfl|true=>rw[(hxt _ (by simpa using hc)).2]at ht;cases ht
  have hx3:=(⟨hxa,hxw,fun t ht=>(hxt t ht).1⟩:isApp x.k=false∧(writes x.k=true→∃s,x.tg=some s)∧∀t∈cg x,t<1000);have hA:=hag (cg x) (fun _ h=>h) hx3;have hB:=hag y.un hsub hx3;have hd:∀s,y.d=some s→s<1000∧(cg x).contains s=false:=by
   intro s hs;obtain⟨h1,h2,h3⟩:=hyd s hs;refine⟨h3,?_⟩;unfold cg;split;·cases hxd:x.d with|none=>rfl|some d=>have:¬d=s:=fun e=>h1 (by rw[hxd,e]);simpa[Option.toList,eq_comm]using this
   ·split;·cases hxd:x.tg with|none=>rfl|some d=>have:¬d=s:=fun e=>h2 (by rw[hxd,e]);simpa[Option.toList,eq_comm]using this
    ·rfl
  by_cases hy:aK y.k=true
  ·constructor;·rintro⟨hn,h,ht⟩;exact⟨hn.imp id fun hn=>jf hB hn,ec hvs ((dQ hy h).2 _),ht⟩
   ·rintro⟨hn,h,ht⟩;exact⟨hn.imp id fun hn=>jf (hsym hB) hn,ec (fun s hs=>(hvs s hs).symm) ((dQ hy h).2 _),ht⟩
  ·have hya:=hax.resolve_left hy;have hne:y.un=[]→∀(f:Nat→Option AO) (l:List AV),j8 (cg x) f l:=by
    intro hun f l;have hnil:cg x=[]:=by cases h:cg x with|nil=>rfl|cons t ts=>have:=(hxt t (by rw[h];simp)).2;rw[hun]at this;simp at this
    rw[hnil];have hT:∀t,jV [] t:=fun t=>rfl;have hC:∀v,vw [] v:=fun v=>by cases v<;>first|trivial|exact hT _
    have hCs:∀cs,ir [] cs:=fun cs=>by induction cs with|nil=>trivial|cons c cs ih=>exact⟨hC c,ih⟩
    have hP:∀v,nQ [] f v:=fun v=>by
     rcases GK v with⟨t,o,rfl⟩|⟨cs,rfl⟩|h2;·exact⟨hT _,hCs _⟩
     ·exact hCs _
     ·rw[h2];exact hC _
    have hPs:∀cs,ll [] f cs:=fun cs=>by induction cs with|nil=>trivial|cons c cs ih=>exact⟨hP c,ih⟩
    induction l with|nil=>trivial|cons c cs ih=>
     refine⟨?_,ih⟩;rcases C7 c with⟨f,cs,rfl⟩|⟨_,h2⟩;·exact hPs _
     ·rw[h2];exact hP _
   constructor
   ·rintro⟨hn,h,ht⟩;refine⟨hn.imp id fun hn=>jf hB hn,?_,ht⟩;have h:=ec hvs h;refine s6 hA hya hd (.inr ?_) h;rcases hn with hn|hn;·exact hne hn _ _
    ·exact uu hsub hn
   ·rintro⟨hn,h,ht⟩;refine⟨hn.imp id fun hn=>jf (hsym hB) hn,?_,ht⟩;have h:=ec (vars':=Ab.put x.d v vars) (fun s hs=>(hvs s hs).symm) h;refine s6 (hsym hA) hya hd (.inr ?_) h;rw[hev];rcases hn with hn|hn;·exact hne hn _ _
    ·exact uu hsub hn
end
theorem k7 {q:Option AO}{r:TypeId×List (List PV)} (h:df q=some r):q=some (.arr r.1 r.2):=by
 unfold df at h;split at h;·cases h;rfl
 ·cases h
theorem uZ {aa objs':Nat→Option AO} (hs:∀s o,aa s=some o→objs' s=some o) {X:AV}{rows:List (List PV)} (h:cU aa X=some rows):cU objs' X=some rows:=by cases X with
 |pv p=>cases p<;>first|exact h|(simp[cU]at h)
 |own t=>simp only[cU,Option.map_eq_some_iff]at h ⊢;obtain⟨r,hr,rfl⟩:=h;have:=hs _ _ (k7 hr);exact⟨r,by rw[this];rfl,rfl⟩|sub t e lo hi=>simp only[cU,Option.bind_eq_some_iff]at h ⊢;obtain⟨r,hr,h⟩:=h;have:=hs _ _ (k7 hr);exact⟨r,by rw[this];rfl,h⟩|_=>simp[cU]at h
theorem tV {aa objs':Nat→Option AO}{X:AV}{rows:List (List PV)}{un:List Nat} (h:cU aa X=some rows) (hn:rB un aa X):rB un objs' X:=by cases X with|pv p=>trivial|own t=>exact hn|sub t e lo hi=>exact hn|_=>simp[cU]at h
section
variable{P:Program}{Γ:bR}{d:Option Nat}{e:TypeId}{sz bytes:Nat}{xs:List AV}{aa objs':Nat→Option AO}{ee:bE}
theorem IN (h:aZ P Γ d (.app e sz bytes) xs aa fun e1=>e1=ee):(∃(t:Nat) (X:AV) (r:TypeId×List (List PV)) (more:List (List PV)),xs.map strip=[.own t,X]∧aa t=some (.arr r.1 r.2)∧cU aa X=some more∧ee=.app t (.arr r.1 (r.2++more)))∨(∃(dd:Nat) (X:AV) (rows:List (List PV)),d=some dd∧xs.map strip=[.pv .nil,X]∧cU aa X=some rows∧aa dd=none∧ee=.new (.own dd) [(dd,.arr e rows)]):=by
 dsimp only[aZ]at h;obtain⟨ha,h⟩:=h;generalize xs.map strip=ys at h ⊢;split at h
 ·rename_i ho;obtain⟨x,hx,hφ,rfl⟩:=ae h;rcases ys with _|⟨y,_|⟨X,_|⟨z,l⟩⟩⟩;·simp[pg]at ho
  ·cases y<;>simp[eS]at hx
  ·cases y with
   |own t=>
    simp only[eS,Option.bind_eq_some_iff]at hx;obtain⟨r,hr,more,hm,hx⟩:=hx;split at hx;·cases hx;rename_i hc;exact .inl ⟨t,X,r,more,rfl,k7 hr,hm,by rw[hc.1]⟩
    ·cases hx|_=>simp[pg]at ho
  ·cases y<;>simp[eS]at hx
 ·obtain⟨dd,hd,h⟩:=ae h;obtain⟨x,hx,hφ,hn,rfl⟩:=ae h;rcases ys with _|⟨y,_|⟨X,_|⟨z,l⟩⟩⟩;·simp[cD]at hx
  ·cases y with|pv p=>cases p<;>simp[cD]at hx|_=>simp[cD]at hx
  ·cases y with
   |pv p=>cases p with|nil=>simp only[cD,Option.map_eq_some_iff]at hx;obtain⟨rows,hr,rfl⟩:=hx;exact .inr ⟨dd,X,rows,hd,rfl,hr,hn,rfl⟩|_=>simp[cD]at hx
   |_=>simp[cD]at hx
  ·cases y with|pv p=>cases p<;>simp[cD]at hx|_=>simp[cD]at hx
theorem JP (hs:∀s o,aa s=some o→objs' s=some o) (hn:∀dd,d=some dd→aa dd=none→objs' dd=none) (h:aZ P Γ d (.app e sz bytes) xs aa fun e1=>e1=ee):aZ P Γ d (.app e sz bytes) xs objs' fun e1=>e1=ee:=by
 dsimp only[aZ]at h ⊢;obtain⟨ha,h⟩:=h;refine⟨ha,?_⟩;generalize xs.map strip=ys at h ⊢;split at h
 ·rename_i ho;rw[if_pos ho];obtain⟨x,hx,hφ,he⟩:=ae h;have hx':eS (.app e sz bytes) ys objs'=some x:=by
   rcases ys with _|⟨y,_|⟨X,_|⟨z,l⟩⟩⟩;·simp[pg]at ho
   ·cases y<;>simp[eS]at hx
   ·cases y with|own t=>simp only[eS,Option.bind_eq_some_iff]at hx ⊢;obtain⟨r,hr,more,hm,hx⟩:=hx;have:=hs _ _ (k7 hr);exact⟨r,by rw[this];rfl,more,uZ hs hm,hx⟩|_=>simp[pg]at ho
   ·cases y<;>simp[eS]at hx
  rw[hx'];exact⟨hφ,he⟩
 ·rename_i ho;rw[if_neg ho];obtain⟨dd,hd,h⟩:=ae h;obtain⟨x,hx,hφ,hnn,he⟩:=ae h;rw[hd];show ai (cD (.app e sz bytes) dd ys objs') _;have hx':cD (.app e sz bytes) dd ys objs'=some x:=by
   rcases ys with _|⟨y,_|⟨X,_|⟨z,l⟩⟩⟩;·simp[cD]at hx
   ·cases y with|pv p=>cases p<;>simp[cD]at hx|_=>simp[cD]at hx
   ·cases y with
    |pv p=>cases p with|nil=>simp only[cD,Option.map_eq_some_iff]at hx ⊢;obtain⟨rows,hr,hx⟩:=hx;exact⟨rows,uZ hs hr,hx⟩|_=>simp[cD]at hx
    |_=>simp[cD]at hx
   ·cases y with|pv p=>cases p<;>simp[cD]at hx|_=>simp[cD]at hx
  rw[hx'];exact⟨hφ,hn _ hd hnn,he⟩
theorem zO {un:List Nat}{t:Nat} (ht:jV un t) {c:AV} (h:vw un (b8 t c)):vw un c:=by cases c with
 |own s=>by_cases e:s=t;·subst e;exact ht
         ·simpa[b8,e]using h
 |aY s _ _ _=>by_cases e:s=t;·subst e;exact ht
              ·simpa[b8,e]using h
 |sub s _ _ _=>by_cases e:s=t;·subst e;exact ht
               ·simpa[b8,e]using h|ptr s o=>exact h|_=>trivial
theorem oG {un:List Nat}{t:Nat} (ht:jV un t):∀{cs:List AV},ir un (bW t cs)→ir un cs|[],_=>trivial|c::cs,h=>⟨zO ht h.1,oG ht h.2⟩
theorem rN (t:Nat):∀(n:Nat) (cs:List AV),(bW t cs).take n=bW t (cs.take n)|0,_=>by simp[bW]|n+1,[]=>by simp[bW]|n+1,c::cs=>by simp[bW,rN t n cs]
theorem rJ (t:Nat):∀(n:Nat) (cs:List AV),(bW t cs).drop n=bW t (cs.drop n)|0,_=>by simp|n+1,[]=>by simp[bW]|n+1,c::cs=>by simp[bW,rJ t n cs]
theorem nB (t:Nat):∀(ps:List PV),bW t (ps.map AV.pv)=ps.map .pv|[]=>rfl|p::ps=>by simp only[List.map_cons,bW,nB t ps];rfl
theorem vG (t:Nat):∀(zs:List Value),bW t (zs.map cv)=zs.map cv|[]=>rfl|z::zs=>by simp only[List.map_cons,bW,vG t zs];congr 1;unfold cv;split<;>rfl
theorem ug {t:Nat}{X:AV}{s o:Nat} (h:kill t X=.ptr s o):X=.ptr s o:=by cases X with|ptr s' o'=>exact h|own s=>have h:(if s=t then AV.ak else .own s)=.ptr _ _:=h;split at h<;>cases h|aY s e i o=>have h:(if s=t then AV.ak else .aY s e i o)=.ptr _ _:=h;split at h<;>cases h|sub s e i o=>have h:(if s=t then AV.ak else .sub s e i o)=.ptr _ _:=h;split at h<;>cases h|bZ f cs=>cases cs<;>cases h|_=>cases h
theorem qo {t:Nat}{X:AV}{s o:Nat}{e:TypeId}{i:Int} (h:kill t X=.aY s e i o):X=.aY s e i o∧s≠t:=by cases X with
 |aY s' e' i' o'=>
  have h:(if s'=t then AV.ak else .aY s' e' i' o')=.aY _ _ _ _:=h;split at h;·cases h
  ·rename_i hne;cases h;exact⟨rfl,hne⟩|own s=>have h:(if s=t then AV.ak else .own s)=.aY _ _ _ _:=h;split at h<;>cases h|sub s e i o=>have h:(if s=t then AV.ak else .sub s e i o)=.aY _ _ _ _:=h;split at h<;>cases h|bZ f cs=>cases cs<;>cases h|_=>cases h
theorem xM {t:Nat}{X:AV}{cs:List PV} (h:kill t X=.rp cs):X=.rp cs:=by cases X with|rp cs'=>exact h|own s=>have h:(if s=t then AV.ak else .own s)=.rp _:=h;split at h<;>cases h|aY s e i o=>have h:(if s=t then AV.ak else .aY s e i o)=.rp _:=h;split at h<;>cases h|sub s e i o=>have h:(if s=t then AV.ak else .sub s e i o)=.rp _:=h;split at h<;>cases h|bZ f cs=>cases cs<;>cases h|_=>cases h
theorem H0 {k:AK} (hk:yj k=true) {ys:List AV}{aa:Nat→Option AO}{r:Prop×AV} (h:al k ys aa=some r):∃X,ys=[X]∧((∃s o,X=.ptr s o)∨(∃s e i o,X=.aY s e i o)∨∃cs,X=.rp cs):=by cases k with
 |load n=>
  rcases ys with _|⟨y,_|⟨z,l⟩⟩;·cases n<;>simp[al]at h
  ·cases y with|ptr s o=>exact⟨_,rfl,.inl ⟨s,o,rfl⟩⟩|aY s e i o=>exact⟨_,rfl,.inr (.inl ⟨s,e,i,o,rfl⟩)⟩|rp cs=>exact⟨_,rfl,.inr (.inr ⟨cs,rfl⟩)⟩|_=>cases n<;>simp[al]at h
  ·cases n<;>cases y<;>simp[al]at h|sy off=>
  rcases ys with _|⟨y,_|⟨z,l⟩⟩;·simp[al]at h
  ·cases y with|ptr s o=>exact⟨_,rfl,.inl ⟨s,o,rfl⟩⟩|aY s e i o=>exact⟨_,rfl,.inr (.inl ⟨s,e,i,o,rfl⟩)⟩|rp cs=>exact⟨_,rfl,.inr (.inr ⟨cs,rfl⟩)⟩|_=>simp[al]at h
  ·cases y<;>simp[al]at h|_=>simp[yj]at hk
theorem Ep {k:AK} (hk:yj k=true) {t:Nat}{X:AV}{e:TypeId}{rows rows':List (List PV)} (hob:aa t=some (.arr e rows)) {φ:Prop}{v:AV} (h:al k [kill t X] (aN t (.arr e rows') (dz t aa))=some (φ,v)):∃u,al k [X] aa=some (φ,u)∧v=kill t u:=by
 obtain⟨Y,hY,hc⟩:=H0 hk h;simp only[List.cons.injEq,and_true]at hY;have hbox:∀s cs,eV (aN t (.arr e rows') (dz t aa) s)=some cs→∃cs0,eV (aa s)=some cs0∧cs=bW t cs0:=by
  intro s cs hb;unfold aN at hb;split at hb;·cases hb
  ·unfold dz at hb;cases ho:aa s with|none=>rw[ho]at hb;cases hb|some q=>rw[ho]at hb;cases q with|box cs0=>cases hb;exact⟨cs0,rfl,rfl⟩|arr e rows=>cases hb|map es=>cases hb|rws e cs=>cases hb|iF es=>cases hb|nC rem cur=>cases hb
 have harr:∀s,s≠t→df (aN t (.arr e rows') (dz t aa) s)=df (aa s):=by intro s hs;unfold aN dz;rw[if_neg hs];cases ho:aa s with|none=>rfl|some q=>cases q<;>rfl
 have hboxa:∀s,s≠t→True:=fun _ _=>trivial;rcases hc with⟨s,o,rfl⟩|⟨s,e',i,o,rfl⟩|⟨cs,rfl⟩;·cases ug hY;rw[hY]at h;cases k with
  |load n=>cases n with
   |none=>
    simp only[al,Option.bind_eq_some_iff]at h ⊢;obtain⟨cs,hcs,c,hcc,h⟩:=h;obtain⟨cs0,hcs0,rfl⟩:=hbox _ _ hcs;rw[fj]at hcc;obtain⟨c0,hc0,rfl⟩:=Option.map_eq_some_iff.1 hcc;split at h
    ·rename_i hkc;cases h;by_cases hcell:lG c0=true;·refine⟨c0,⟨cs0,hcs0,c0,hc0,by rw[if_pos hcell]⟩,?_⟩;cases c0<;>first|rfl|(simp[lG]at hcell)
     ·exfalso;cases c0<;>first|(exact hcell rfl)|(simp[b8,lG]at hkc)
    ·cases h|some n=>
    simp only[al,Option.bind_eq_some_iff]at h ⊢;obtain⟨cs,hcs,h⟩:=h;obtain⟨cs0,hcs0,rfl⟩:=hbox _ _ hcs;split at h;·rename_i hle;cases h;refine⟨_,⟨cs0,hcs0,by rw[if_pos (by simpa[eb]using hle)]⟩,?_⟩;show AV.agg _=AV.agg _;rw[rJ,rN]
    ·cases h
  |sy off=>cases h;exact⟨_,rfl,rfl⟩|_=>simp[yj]at hk
 ·obtain⟨rfl,hst⟩:=qo hY;rw[hY]at h;cases k with
  |load n=>cases n with
   |none=>
    have h:mn e' i o (aN t (.arr e rows') (dz t aa) s)=some (φ,v):=h;show∃u,mn e' i o (aa s)=some (φ,u)∧v=kill t u;have he:aN t (.arr e rows') (dz t aa) s=(aa s).map (dX t):=by unfold aN dz;rw[if_neg hst]
    rw[he]at h;cases hos:aa s with|none=>rw[hos]at h;cases h|some q=>rw[hos]at h;cases q with
     |box cs=>cases h|map es=>cases h|iF es=>cases h|nC r c=>cases h|arr e1 rows1=>
      have h:mn e' i o (some (.arr e1 rows1))=some (φ,v):=h;unfold mn at h ⊢;simp only at h ⊢;split at h;·cases h;exact⟨_,by rw[if_pos ‹_›],rfl⟩
      ·cases h|rws e1 cs=>
      have h:mn e' i o (some (.rws e1 (bW t cs)))=some (φ,v):=h;unfold mn at h ⊢;simp only at h ⊢;split at h;rotate_left;·cases h
      rename_i h1;obtain⟨c,hc,h⟩:=Option.bind_eq_some_iff.1 h;rw[fj]at hc;obtain⟨c0,hc0,rfl⟩:=Option.map_eq_some_iff.1 hc;rw[if_pos h1,hc0];split at h
      ·rename_i hkc;cases h;by_cases hcell:lG c0=true;·refine⟨c0,by simp only[Option.bind_some];rw[if_pos hcell],?_⟩;cases c0<;>first|rfl|(simp[lG]at hcell)
       ·exfalso;cases c0<;>first|(exact hcell rfl)|(simp[b8,lG]at hkc)
      ·cases h
   |some n=>
    simp only[al,harr s hst]at h ⊢;obtain⟨r,hr,h⟩:=Option.bind_eq_some_iff.1 h;split at h;·rename_i h1;cases h;refine⟨_,by rw[hr];simp only[Option.bind_some];rw[if_pos h1],?_⟩;show AV.agg _=AV.agg _;rw[nB]
    ·cases h
  |sy off=>cases h;refine⟨_,rfl,?_⟩;show AV.aY _ _ _ _=(if s=t then AV.ak else .aY _ _ _ _);rw[if_neg hst]|_=>simp[yj]at hk
 ·cases xM hY;rw[hY]at h;cases k with
  |load n=>cases n with
   |none=>cases cs with|nil=>cases h;exact⟨_,rfl,rfl⟩|cons c cs=>cases h;exact⟨_,rfl,rfl⟩
   |some n=>
    simp only[al]at h ⊢;split at h;·rename_i h1;cases h;refine⟨_,by rw[if_pos h1],?_⟩;show AV.agg _=AV.agg _;rw[nB]
    ·cases h
  |sy off=>cases h;exact⟨_,rfl,rfl⟩|_=>simp[yj]at hk
end
structure B7 (x y:AI):Prop where
 app:∃e sz b,x.k=.app e sz b
 xg:x.g=none
 yg:y.g=none
 yt:y.tg=none
 ds:∃d d',x.d=some d∧y.d=some d'∧d∉cX y∧d'∉cX x∧d≠d'∧d<1000∧d'<1000
 kd:(∃zs,y.k=.alloc zs∧y.xs=[])∨(yj y.k=true∧(∀d,x.d=some d→y.un.contains d=true)∧∀t,y.un.contains t=true→x.un.contains (t+1000)=true)
theorem Bc {x y:AI} (h:Cg x y=true):B7 x y:=by
 unfold Cg at h;simp only[Bool.and_eq_true]at h;obtain⟨⟨⟨⟨h1,h2⟩,h3⟩,h4⟩,h5⟩:=h;split at h5
 ·rename_i d d' hd hd';simp only[Bool.and_eq_true,Bool.not_eq_true',List.contains_eq_mem,decide_eq_false_iff_not,bne_iff_ne,decide_eq_true_eq,Bool.or_eq_true]at h5;obtain⟨⟨⟨⟨⟨g1,g2⟩,g3⟩,g4⟩,g5⟩,g6⟩:=h5;refine⟨?_,by simpa using h2,by simpa using h3,by simpa using h4,⟨d,d',hd,hd',g1,g2,g3,g4,g5⟩,?_⟩;·cases hk:x.k with|app e sz b=>exact⟨_,_,_,rfl⟩|_=>rw[hk]at h1;cases h1
  ·rcases g6 with⟨g6,g7⟩|⟨⟨g6,g7⟩,g8⟩;·refine .inl ?_;cases hk:y.k with|alloc zs=>exact⟨zs,rfl,by simpa using g7⟩|_=>rw[hk]at g6;cases g6
   ·refine .inr ⟨g6,fun d0 h0=>?_,fun t ht=>?_⟩;·rw[hd]at h0;cases h0;simpa using g7
    ·have:=(List.all_eq_true.1 g8) t (by simpa using ht);simpa using this
 ·cases h5
theorem qz {d:Option Nat}{t:Nat}{o:AO}{st:St}:(bE.app t o).on d st=⟨Ab.put d (.own t) (cC t st.vars),aN t o (dz t st.aa)⟩:=rfl
theorem jO {d:Option Nat}{v:AV}{os:List (Nat×AO)}{st:St}:(bE.new v os).on d st=⟨Ab.put d v st.vars,bA os st.aa⟩:=rfl
section
variable{P:Program}{Γ:bR}{x y:AI}{st:St}{e e':bE}
theorem Yi.HO {vars vars':Nat→AV}{aa:Nat→Option AO} (hvs:∀s∈cX y,vars s=vars' s) (h:Yi P Γ y ⟨vars,aa⟩ e):Yi P Γ y ⟨vars',aa⟩ e:=by have hev:y.xs.map (Ab.ev vars)=y.xs.map (Ab.ev vars'):=gi fun s hs=>hvs s (List.mem_append_left _ hs);obtain⟨h1,h2,h3⟩:=h;simp only at h1 h2;exact⟨by simp only[←hev];exact h1,ec hvs h2,h3⟩
theorem UQ (hap:B7 x y) (hx:Yi P Γ x st e) (hy:Yi P Γ y (e.on x.d st) e'):∃e1 e2,Yi P Γ y st e1∧Yi P Γ x (e1.on y.d st) e2∧e2.on x.d (e1.on y.d st)=e'.on y.d (e.on x.d st):=by
 obtain⟨ea,sz,b,hxk⟩:=hap.app;obtain⟨d,d',hd,hd',hu1,hu2,hdd,hlt,hlt'⟩:=hap.ds;have hcd:∀s,x.d=some s→y.d≠some s:=fun s h1 h2=>hdd (by rw[hd]at h1;rw[hd']at h2;cases h1;cases h2;rfl);have hvx:∀(v:AV) (f:Nat→AV),∀s∈cX y,Ab.put x.d v f s=f s:=fun v f s hs=>oW fun h=>hu1 (by rw[hd]at h;cases h;exact hs);have hvy:∀(v:AV) (f:Nat→AV),∀s∈cX x,Ab.put y.d v f s=f s:=fun v f s hs=>oW fun h=>hu2 (by rw[hd']at h;cases h;exact hs);have hxs:aZ P Γ x.d (.app ea sz b) (x.xs.map (Ab.ev st.vars)) st.aa fun e1=>e1=e:=by have:=hx.2.1;unfold dR at this;rw[hap.xg,hxk]at this;exact this
 have hinv:=IN hxs;rcases hap.kd with⟨zs,hyk,hyx⟩|⟨hyk,hun1,hun2⟩;·
  have hys:ai y.d fun d=>an []∧ai (cD (.alloc zs) d [] (e.on x.d st).aa) fun r=>r.1∧(e.on x.d st).aa d=none∧bE.new r.2.1 [(d,r.2.2)]=e':=by have:=hy.2.1;unfold dR at this;rw[hap.yg,hyk,hyx]at this;exact this
  rw[hd']at hys;obtain⟨_,hys⟩:=hys;obtain⟨r,hr,hφ,hn,rfl⟩:=ae hys;have hr0:r=(True,.ptr d' 0,.box (zs.map cv))∧zs.all (·.oneCell')=true:=by
   simp only[cD]at hr;split at hr;·rename_i hz;cases hr;exact⟨rfl,hz⟩
   ·cases hr
  obtain⟨rfl,hz⟩:=hr0;have hn0:st.aa d'=none:=by
   rcases hinv with⟨t,X,r,more,_,_,_,rfl⟩|⟨dd,X,rows,h1,_,_,_,rfl⟩
   ·rw[qz]at hn;simp only[aN]at hn;split at hn;·cases hn
    ·simpa[dz]using hn
   ·rw[jO,cx]at hn;simp only[aN]at hn;split at hn;·cases hn
    ·exact hn
  have hyi:Yi P Γ y st (.new (.ptr d' 0) [(d',.box (zs.map cv))]):=by
   refine⟨?_,?_,hy.2.2⟩;·rw[hyx];exact .inr trivial
   ·unfold dR;rw[hap.yg,hyk,hyx,hd'];exact⟨trivial,by show ai (cD (.alloc zs) d' [] st.aa) _;rw[show cD (.alloc zs) d' [] st.aa=some (True,.ptr d' 0,.box (zs.map cv)) from by simp only[cD];rw[if_pos hz]];exact⟨trivial,hn0,rfl⟩⟩
  have hsub:∀s o,st.aa s=some o→bA [(d',.box (zs.map cv))] st.aa s=some o:=by
   intro s o hs;rw[cx];simp only[aN];split;·rename_i h;subst h;rw[hn0]at hs;cases hs
   ·exact hs
  have hxi:Yi P Γ x ((bE.new (.ptr d' 0) [(d',.box (zs.map cv))]).on y.d st) e:=by
   refine Yi.HO (vars:=st.vars) (fun s hs=>(hvy _ _ s hs).symm) ⟨?_,?_,hx.2.2⟩
   ·refine hx.1.imp id fun hm=>?_;rcases hinv with⟨t,X,r,more,h1,_,h3,_⟩|⟨dd,X,rows,_,h1,h3,_,_⟩;·rw[h1]at hm ⊢;exact⟨hm.1,tV h3 hm.2.1,trivial⟩
    ·rw[h1]at hm ⊢;exact⟨trivial,tV h3 hm.2.1,trivial⟩
   ·unfold dR;rw[hap.xg,hxk];refine JP hsub (fun dd h1 h2=>?_) hxs;rw[cx];simp only[aN];rw[hd]at h1;cases h1;rw[if_neg hdd];exact h2
  refine⟨_,_,hyi,hxi,?_⟩;rcases hinv with⟨t,X,r,more,_,hob,_,rfl⟩|⟨dd,X,rows,_,_,_,_,rfl⟩
  ·have htd:d'≠t:=fun h=>by subst h;rw[hn0]at hob;cases hob
   rw[qz,jO,qz,jO];refine St.ext' ?_ ?_;·show Ab.put x.d (.own t) (cC t (Ab.put y.d (.ptr d' 0) st.vars))=Ab.put y.d (.ptr d' 0) (Ab.put x.d (.own t) (cC t st.vars));rw[oD];exact put_comm hcd
   ·show aN t _ (dz t (bA [(d',.box (zs.map cv))] st.aa))=bA [(d',.box (zs.map cv))] (aN t _ (dz t st.aa));rw[cx,cx];funext s;simp only[aN,dz];by_cases h1:s=t;·subst h1;rw[if_pos rfl,if_neg (Ne.symm htd),if_pos rfl]
    ·rw[if_neg h1];by_cases h2:s=d';·subst h2;rw[if_pos rfl,if_pos rfl];simp[dX,vG]
     ·rw[if_neg h2,if_neg h2,if_neg h1]
  ·rw[jO,jO,jO,jO];refine St.ext' (put_comm hcd) ?_;show bA [(dd,_)] (bA [(d',_)] st.aa)=bA [(d',_)] (bA [(dd,_)] st.aa);rename_i h1 _ _ _;rw[hd]at h1;cases h1;rw[cx,cx,cx,cx];funext s;simp only[aN];by_cases h1:s=d;·subst h1;rw[if_pos rfl,if_neg hdd,if_pos rfl]
   ·by_cases h2:s=d';·subst h2;rw[if_neg h1,if_pos rfl,if_pos rfl]
    ·rw[if_neg h1,if_neg h2,if_neg h2,if_neg h1]
 ·have hun0:y.un≠[]:=fun h=>by have:=hun1 d hd;rw[h]at this;simp at this
  have hny:=hy.1.resolve_left hun0;have hys:an (y.xs.map (Ab.ev (e.on x.d st).vars))∧ai (al y.k ((y.xs.map (Ab.ev (e.on x.d st).vars)).map strip) (e.on x.d st).aa) fun r=>r.1∧bE.put r.2=e':=by have:=hy.2.1;unfold dR at this;rw[hap.yg]at this;cases hk:y.k with|load n=>rw[hk]at this;exact this|sy off=>rw[hk]at this;exact this|_=>rw[hk]at hyk;cases hyk
  obtain⟨has,hys⟩:=hys;obtain⟨r,hr,hφ,rfl⟩:=ae hys;have hmk:∀{aa:Nat→Option AO}{vars:Nat→AV}{φ:Prop}{v:AV},an (y.xs.map (Ab.ev vars))→al y.k ((y.xs.map (Ab.ev vars)).map strip) aa=some (φ,v)→φ→dR P Γ y vars aa fun e1=>e1=.put v:=by intro aa vars φ v h1 h2 h3;unfold dR;rw[hap.yg];cases hk:y.k with|load n=>rw[hk]at h2;exact⟨h1,by rw[h2];exact⟨h3,rfl⟩⟩|sy off=>rw[hk]at h2;exact⟨h1,by rw[h2];exact⟨h3,rfl⟩⟩|_=>rw[hk]at hyk;cases hyk
  have htg:∀v,By y.un y.tg (.put v):=fun v=>by rw[hap.yt];exact And.intro trivial trivial
  obtain⟨X1,hX1,hcase⟩:=H0 hyk hr;rcases hinv with⟨t,X,rr,more,hargs,hob,_,rfl⟩|⟨dd,X,rows,h1,_,_,hnone,rfl⟩
  ·rw[qz]at hr has hny hX1;simp only at hr has hny hX1;have hev:y.xs.map (Ab.ev (Ab.put x.d (.own t) (cC t st.vars)))=(y.xs.map (Ab.ev st.vars)).map (kill t):=by rw[gi (vars:=Ab.put x.d (.own t) (cC t st.vars)) (vars':=cC t st.vars) fun s hs=>hvx _ _ s (List.mem_append_left _ hs),lQ]
   rw[hev]at hr has hny hX1;rw[kz]at has;obtain⟨A,hA⟩:∃A,y.xs.map (Ab.ev st.vars)=[A]:=by
    have:((y.xs.map (Ab.ev st.vars)).map (kill t)).length=1:=by have:=congrArg List.length hX1;simpa using this
    simp only[List.length_map]at this;obtain⟨z,hz⟩:=List.length_eq_one_iff.1 this;exact⟨Ab.ev st.vars z,by rw[hz];rfl⟩
   rw[hA]at hr has hny hX1;simp only[List.map_cons,List.map_nil,kl,List.cons.injEq,and_true]at hr hny hX1;obtain⟨u,hu,hvu⟩:=Ep hyk (rows:=rr.2) (rows':=rr.2++more) hob hr;have htu:jV y.un t:=by have h0:x.un.contains (t%1000+1000)=false:=hx.2.2.2;unfold jV;cases hc:y.un.contains (t%1000) with|false=>rfl|true=>rw[hun2 _ hc]at h0;cases h0
   have hyi:Yi P Γ y st (.put u):=by
    refine⟨.inr ?_,hmk (by rw[hA];exact has) (by rw[hA];exact hu) hφ,htg _⟩;rw[hA];refine⟨?_,trivial⟩;have hn1:=hny.1;rcases hcase with⟨s,o,rfl⟩|⟨s,e1,i,o,rfl⟩|⟨cs,rfl⟩
    ·have h9:=ug hX1;show rB y.un st.aa (strip A);rw[h9];rw[hX1]at hn1;refine⟨hn1.1,?_⟩;have h8:=hn1.2;unfold aN at h8;by_cases hst:s=t;·subst hst;rw[hob];trivial
     ·rw[if_neg hst]at h8;unfold dz at h8;cases hos:st.aa s with|none=>trivial|some q=>rw[hos]at h8;cases q with|box cs=>exact oG htu h8|arr e rows=>trivial|map es=>trivial|rws e cs=>trivial|iF es=>trivial|nC rem cur=>trivial
    ·have h9:=(qo hX1).1;show rB y.un st.aa (strip A);rw[h9];rw[hX1]at hn1;exact hn1
    ·have h9:=xM hX1;show rB y.un st.aa (strip A);rw[h9];trivial
   refine⟨_,_,hyi,Yi.HO (vars:=st.vars) (fun s hs=>(hvy _ _ s hs).symm) hx,?_⟩;rw[qz];refine St.ext' ?_ rfl;show Ab.put x.d (.own t) (cC t (Ab.put y.d u st.vars))=Ab.put y.d r.2 (Ab.put x.d (.own t) (cC t st.vars));rw[oD,hvu];exact put_comm hcd
  ·rw[hd]at h1;cases h1;rw[jO]at hr has hny hX1;simp only at hr has hny hX1;have hev:y.xs.map (Ab.ev (Ab.put x.d (.own d) st.vars))=y.xs.map (Ab.ev st.vars):=gi fun s hs=>hvx _ _ s (List.mem_append_left _ hs);rw[hev]at hr has hny hX1;rw[hX1]at hr hny;have hnd:¬jV y.un d:=fun h=>by unfold jV at h;rw[Nat.mod_eq_of_lt hlt,hun1 d hd]at h;cases h
   have hsame:∀s,jV y.un s→bA [(d,AO.arr ea rows)] st.aa s=st.aa s:=by intro s hs;rw[cx];simp only[aN];rw[if_neg (fun h:s=d=>hnd (by rw[←h];exact hs))]
   have hgo:al y.k [X1] st.aa=some r∧rB y.un st.aa X1:=by
    have hn1:=hny.1;rcases hcase with⟨s,o,rfl⟩|⟨s,e1,i,o,rfl⟩|⟨cs,rfl⟩
    ·have hs:=hsame s hn1.1;refine⟨?_,?_⟩;·cases hk:y.k with|load n=>rw[hk]at hr;cases n<;>(simp only[al,hs]at hr ⊢;exact hr)|sy off=>rw[hk]at hr;exact hr|_=>rw[hk]at hyk;cases hyk
     ·have:=hn1.2;rw[hs]at this;exact⟨hn1.1,this⟩
    ·have hs:=hsame s hn1;refine⟨?_,hn1⟩;cases hk:y.k with|load n=>rw[hk]at hr;cases n<;>(simp only[al,hs]at hr ⊢;exact hr)|sy off=>rw[hk]at hr;exact hr|_=>rw[hk]at hyk;cases hyk
    ·refine⟨?_,trivial⟩;cases hk:y.k with|load n=>rw[hk]at hr;cases n<;>cases cs<;>exact hr|sy off=>rw[hk]at hr;exact hr|_=>rw[hk]at hyk;cases hyk
   have hyi:Yi P Γ y st (.put r.2):=⟨.inr (by rw[hX1];exact⟨hgo.2,trivial⟩),hmk has (by rw[hX1];exact hgo.1) hφ,htg _⟩;refine⟨_,_,hyi,Yi.HO (vars:=st.vars) (fun s hs=>(hvy _ _ s hs).symm) hx,?_⟩;rw[jO];exact St.ext' (put_comm hcd) rfl
end
def Apt (x y:AI):Prop:=Da x y∨B7 x y
theorem A7 {x y:AI} (h:uQ x y=true):Apt x y:=by
 unfold uQ at h;rcases Bool.or_eq_true_iff.1 h with h|h;·exact .inl (apart_spec h)
 ·exact .inr (Bc h)
section
variable{P:Program}{Γ:bR}{x y:AI}{st:St}{e e':bE}
theorem Yi.vars {vars vars':Nat→AV}{aa:Nat→Option AO} (hvs:∀s∈cX y,vars s=vars' s) (h:Yi P Γ y ⟨vars,aa⟩ e):Yi P Γ y ⟨vars',aa⟩ e:=by have hev:y.xs.map (Ab.ev vars)=y.xs.map (Ab.ev vars'):=gi fun s hs=>hvs s (List.mem_append_left _ hs);obtain⟨h1,h2,h3⟩:=h;simp only at h1 h2;exact⟨by simp only[←hev];exact h1,ec hvs h2,h3⟩
theorem yK (e:bE):plain e∨∃t o,e=.app t o:=by cases e<;>first|exact .inl trivial|exact .inr ⟨_,_,rfl⟩
theorem oE.plain {i:AI} (h:oE i e) (ha:isApp i.k=false):plain e:=by
 rcases yK e with hp|⟨t,o,rfl⟩;·exact hp
 ·rcases h with⟨v,h⟩|⟨_,_,_,_,_,h,_⟩|⟨_,_,_,_,h⟩|⟨h,_⟩;·cases h
  ·cases h
  ·cases h
  ·rw[ha]at h;cases h
theorem vH {i:AI}{t:Nat}{o:AO} (h:oE i (.app t o)):isApp i.k=true:=by
 rcases h with⟨v,h⟩|⟨_,_,_,_,_,h,_⟩|⟨_,_,_,_,h⟩|⟨h,_⟩;·cases h
 ·cases h
 ·cases h
 ·exact h
theorem Cp (hap:Da x y) (hx:aK x.k=false) (hy:aK y.k=false):∀t,(cg x).contains t=true→(cg y).contains t=true→False:=by
 intro t h1 h2;have hb:=hap.both;unfold cg at h1 h2;split at h1
 ·have hxd:x.d=some t:=by cases h:x.d<;>rw[h]at h1<;>simp_all
  obtain⟨_,a2,a3,_⟩:=hap.xd t hxd;split at h2;·exact a2 (by cases h:y.d<;>rw[h]at h2<;>simp_all)
  ·split at h2;·exact a3 (by cases h:y.tg<;>rw[h]at h2<;>simp_all)
   ·simp at h2
 ·split at h1
  ·rename_i hw;have hxt:x.tg=some t:=by cases h:x.tg<;>rw[h]at h1<;>simp_all
   split at h2
   ·have hyd:y.d=some t:=by cases h:y.d<;>rw[h]at h2<;>simp_all
    exact(hap.yd t hyd).2.1 hxt
   ·split at h2
    ·rename_i hw2;have hyt:y.tg=some t:=by cases h:y.tg<;>rw[h]at h2<;>simp_all
     rcases hb with h|h|h|h|h;·rw[hx]at h;cases h
     ·rw[hy]at h;cases h
     ·rw[hw]at h;cases h
     ·rw[hw2]at h;cases h
     ·exact h (hxt.trans hyt.symm)
    ·simp at h2
  ·simp at h1
theorem swap (hap:Da x y) (hx:Yi P Γ x st e) (hy:Yi P Γ y (e.on x.d st) e'):∃e1 e2,Yi P Γ y st e1∧Yi P Γ x (e1.on y.d st) e2∧e2.on x.d (e1.on y.d st)=e'.on y.d (e.on x.d st):=by
 have hex:=AZ hx.2.1;have hey:=AZ hy.2.1;have hux:∀d,x.d=some d→d∉cX y:=fun d hd=>(hap.xd d hd).1;have huy:∀d,y.d=some d→d∉cX x:=fun d hd=>(hap.yd d hd).1;have hcd:∀s,x.d=some s→y.d≠some s:=fun d hd=>(hap.xd d hd).2.1;have hvx:∀(v:AV) (f:Nat→AV),∀s∈cX y,Ab.put x.d v f s=f s:=fun v f s hs=>oW fun hd=>hux s hd hs;have hvy:∀(v:AV) (f:Nat→AV),∀s∈cX x,Ab.put y.d v f s=f s:=fun v f s hs=>oW fun hd=>huy s hd hs;have hydd:∀d,y.d=some d→x.d≠some d∧x.tg≠some d∧d<1000:=fun d hd=>⟨fun h=>hcd d h hd,(hap.yd d hd).2.1,(hap.yd d hd).2.2⟩;have hxdd:∀d,x.d=some d→y.d≠some d∧y.tg≠some d∧d<1000:=fun d hd=>⟨(hap.xd d hd).2.1,(hap.xd d hd).2.2.1,(hap.xd d hd).2.2.2⟩;have hagx:∀T,(∀t,jV T t→jV (cg x) t)→(isApp x.k=false∧(writes x.k=true→∃s,x.tg=some s)∧∀t∈cg x,t<1000)→∀t,jV T t→se (ov e) st.aa t=st.aa t:=fun T hT h t ht=>(tK hex hx.2.2.1 h.2.2 hT h.2.1 h.1 t ht).symm;have hagy:∀T,(∀t,jV T t→jV (cg y) t)→(isApp y.k=false∧(writes y.k=true→∃s,y.tg=some s)∧∀t∈cg y,t<1000)→∀t,jV T t→se (ov e') st.aa t=st.aa t:=fun T hT h t ht=>(tK hey hy.2.2.1 h.2.2 hT h.2.1 h.1 t ht).symm;by_cases hxa:aK x.k=true;·
  obtain⟨⟨v,rfl⟩,hxo⟩:=dQ hxa hx.2.1;have hy0:Yi P Γ y st e':=Yi.vars (hvx v st.vars) hy;have htg:x.tg=none:=by have:=hx.2.2.1;cases h:x.tg with|none=>rfl|some s=>rw[h]at this;exact this.elim
  rcases yK e' with hp|⟨t,o,rfl⟩
  ·refine⟨e',.put v,hy0,?_,?_⟩;·rw[dY hp];exact(Yi.yf hap.xa (.inl hxa) hxdd huy hagy).2 hx
   ·rw[dY hp,dY hp];exact St.ext' (put_comm hcd) rfl
  ·have hun:x.un=[]:=by
    rcases hap.xa with h|h;·exact h.2
    ·have:=vH hey;rw[h.1]at this;cases this
   obtain⟨u,hu,hk⟩:=sP hxa hx.2.1;cases hu;refine⟨.app t o,.put (kill t v),hy0,⟨.inl hun,ec (fun s hs=>(hvy _ _ s hs).symm) (hk t _),by rw[htg];exact And.intro trivial trivial⟩,?_⟩;refine St.ext' ?_ rfl;show Ab.put x.d (kill t v) (Ab.put y.d (.own t) (cC t st.vars))=Ab.put y.d (.own t) (cC t (Ab.put x.d v st.vars));rw[oD];exact put_comm hcd
 ·have hxa':aK x.k=false:=by simpa using hxa
  have hyr:isApp y.k=false∧(writes y.k=true→∃s,y.tg=some s)∧∀t∈cg y,t<1000∧x.un.contains t=true:=by
   rcases hap.xa with h|h;·exact absurd h.1 hxa
   ·exact h
  have hpy:plain e':=hey.plain hyr.1;by_cases hya:aK y.k=true
  ·obtain⟨⟨v,rfl⟩,hyo⟩:=dQ hya hy.2.1;rcases yK e with hp|⟨t,o,rfl⟩
   ·have hy0:Yi P Γ y st (.put v):=by rw[dY hp]at hy;exact(Yi.yf hap.ya (.inl hya) hydd hux hagx).1 hy
    refine⟨.put v,e,hy0,Yi.vars (fun s hs=>(hvy _ _ s hs).symm) hx,?_⟩;rw[dY hp,dY hp];exact St.ext' (put_comm hcd) rfl
   ·have hun:y.un=[]:=by
     rcases hap.ya with h|h;·exact h.2
     ·have:=vH hex;rw[h.1]at this;cases this
    have htg:y.tg=none:=by have:=hy.2.2.1;cases h:y.tg with|none=>rfl|some s=>rw[h]at this;exact this.elim
    have hk:=ec (vars':=cC t st.vars) (hvx _ _) hy.2.1;obtain⟨u,hu,hk'⟩:=pY hya hk;cases hu;refine⟨.put u,.app t o,⟨.inl hun,hk' _,by rw[htg];exact And.intro trivial trivial⟩,Yi.vars (fun s hs=>(hvy _ _ s hs).symm) hx,?_⟩;refine St.ext' ?_ rfl;show Ab.put x.d (.own t) (cC t (Ab.put y.d u st.vars))=Ab.put y.d (kill t u) (Ab.put x.d (.own t) (cC t st.vars));rw[oD];exact put_comm hcd
  ·have hya':aK y.k=false:=by simpa using hya
   have hxr:isApp x.k=false∧(writes x.k=true→∃s,x.tg=some s)∧∀t∈cg x,t<1000∧y.un.contains t=true:=by
    rcases hap.ya with h|h;·exact absurd h.1 hya
    ·exact h
   have hpx:plain e:=hex.plain hxr.1;have hy0:Yi P Γ y st e':=by rw[dY hpx]at hy;exact(Yi.yf hap.ya (.inr hyr.1) hydd hux hagx).1 hy
   refine⟨e',e,hy0,?_,?_⟩;·rw[dY hpy];exact(Yi.yf hap.xa (.inr hxr.1) hxdd huy hagy).2 hx
   ·rw[dY hpx,dY hpy,dY hpx,dY hpy];refine St.ext' (put_comm hcd) (E7 fun t=>?_);cases h1:ov e t with|none=>exact .inl rfl|some o1=>cases h2:ov e' t with|none=>exact .inr rfl|some o2=>
     refine(Cp hap hxa' hya' (t%1000) ?_ ?_).elim;·exact xE hex hx.2.2.1 (fun t ht=>(hxr.2.2 t ht).1) hxr.2.1 hxr.1 (by rw[h1];simp)
     ·exact xE hey hy.2.2.1 (fun t ht=>(hyr.2.2 t ht).1) hyr.2.1 hyr.1 (by rw[h2];simp)
theorem swapT (hap:Apt x y) (hx:Yi P Γ x st e) (hy:Yi P Γ y (e.on x.d st) e'):∃e1 e2,Yi P Γ y st e1∧Yi P Γ x (e1.on y.d st) e2∧e2.on x.d (e1.on y.d st)=e'.on y.d (e.on x.d st):=hap.elim (fun h=>swap h hx hy) fun h=>UQ h hx hy
end
section
variable{P:Program}{Γ:bR}{ops:Array Oper}{is:Array AI}
def opA (P:Program) (Γ:bR) (is:Array AI) (i:Nat) (K:St→Prop) (st:St):Prop:=match is[i]? with|some x=>cZ P Γ x K st|none=>K st
theorem tJ {i:AI}{K K':St→Prop}{st:St} (h:∀st,K st→K' st) (hh:cZ P Γ i K st):cZ P Γ i K' st:=by rw[cA]at hh ⊢;obtain⟨e,he,hK⟩:=hh;exact⟨e,he,h _ hK⟩
def anyA (P:Program) (Γ:bR) (ops:Array Oper) (is:Array AI) (Q:St→Prop):Nat→Array Bool→St→Prop|0,listed,st=>Region.ready .any ops listed=[]∧Q st|fuel+1,listed,st=>(Region.ready .any ops listed=[]→Q st)∧∀i∈Region.ready .any ops listed,opA P Γ is i (anyA P Γ ops is Q fuel (listed.setIfInBounds i true)) st
def pU (ops:Array Oper) (listed:Array Bool):Prop:=∀j o,ops[j]?=some o→listed.getD j false=true→∀e∈o.after,Region.binds .any e=true→listed.getD e.on false=true
theorem pU.set {listed:Array Bool}{i:Nat} (h:pU ops listed) (hi:i∈Region.ready .any ops listed):pU ops (listed.setIfInBounds i true):=by
 intro j o hj hl e he hb;obtain⟨h0,o',ho',hall⟩:=mem_ready.1 hi;by_cases hij:i=j;·subst hij;rw[hj]at ho';cases ho';exact getD_set_true (hall e he hb)
 ·rw[getD_set_ne false hij]at hl;exact getD_set_true (h j o hj hl e he hb)
theorem chain {n:Nat} (hch:∀j,j<n→∀i,i<j→lY ops i j=true) {listed:Array Bool} (hc:pU ops listed) {i:Nat}:∀j,j<n→i<j→bits ops i j=true→(∃o,ops[j]?=some o∧∀e∈o.after,Region.binds .any e=true→listed.getD e.on false=true)→listed.getD i false=true:=by intro j;induction j using Nat.strongRecOn with|_ j ih=>
 rintro hjn hij hb ⟨o,ho,hall⟩;have h:=hch j hjn i hij;unfold lY at h;rw[hb,ho]at h;simp only[Bool.not_true,Bool.false_or]at h;obtain⟨e,he,h⟩:=List.any_eq_true.1 h;replace he:=Array.mem_toList_iff.1 he;simp only[Bool.and_eq_true,Bool.or_eq_true,beq_iff_eq,decide_eq_true_eq]at h;obtain⟨hbe,h⟩:=h;have hl:=hall e he hbe;rcases h with rfl|⟨⟨h1,h2⟩,h3⟩;·exact hl
 ·cases hk:ops[e.on]? with|none=>
   exfalso;rw[Ht]at h3;have hlt:¬e.on<ops.size:=by intro hlt;rw[Array.getElem?_eq_getElem hlt]at hk;cases hk
   have hjlt:j<ops.size:=(Array.getElem?_eq_some_iff.1 ho).1;omega|some o'=>exact ih e.on h2 (by omega) h1 h3 ⟨o',hk,fun e' he' hb'=>hc e.on o' hk hl e' he' hb'⟩
def ez (n k:Nat):Array Bool:=((List.range n).map fun j=>decide (j<k)).toArray
theorem gh {n k j:Nat} (d:Bool) (h:j<n):(ez n k).getD j d=decide (j<k):=by simp[ez,h]
theorem Cm {n k:Nat} (h:k<n):(ez n k).setIfInBounds k true=ez n (k+1):=by
 apply Array.ext;·simp[ez]
 ·intro j h1 h2;have hj:j<n:=by simpa[ez]using h2
  by_cases hjk:j=k;·subst hjk;simp[ez,h]
  ·rw[Array.getElem_setIfInBounds_ne (by simpa[ez]using hj) (Ne.symm hjk)];simp only[ez,List.getElem_toArray,List.getElem_map,List.getElem_range,decide_eq_decide];omega
def anyS (S:Nat→(St→Prop)→St→Prop) (ops:Array Oper) (Q:St→Prop):Nat→Array Bool→St→Prop|0,listed,st=>Region.ready .any ops listed=[]∧Q st|fuel+1,listed,st=>(Region.ready .any ops listed=[]→Q st)∧∀i∈Region.ready .any ops listed,S i (anyS S ops Q fuel (listed.setIfInBounds i true)) st
theorem ub {S:Nat→(St→Prop)→St→Prop}{Q:St→Prop}{i:Nat} (hmono:∀(j:Nat) (K K':St→Prop) (st:St),(∀st,K st→K' st)→S j K st→S j K' st) (hstrict:∀(j:Nat) (st:St),¬S j (fun _=>False) st) (hch:∀j,j<ops.size→∀i,i<j→lY ops i j=true) (un:Nat→Prop) (hsw:∀(j:Nat) (K:St→Prop) (st:St),j<ops.size→un j→(i<j→bits ops i j=false)→S i (S j K) st→S j (S i K) st):∀(fuel:Nat) (listed:Array Bool) (st:St),pU ops listed→(∀j,j<ops.size→listed.getD j true=false→j≠i→un j)→listed.size=ops.size→i∈Region.ready .any ops listed→S i (anyS S ops Q fuel (listed.setIfInBounds i true)) st→anyS S ops Q (fuel+1) listed st:=by intro fuel;induction fuel with
 |zero=>
  intro listed st hc hlt hls hr H;refine⟨fun h=>(by rw[h]at hr;cases hr),fun j hj=>?_⟩;by_cases hji:j=i;·subst hji;exact H
  ·exfalso;refine hstrict i st (hmono i _ _ st (fun st' h=>?_) H);have:=ready_mono hj hji;rw[h.1]at this;cases this|succ fuel ih=>
  intro listed st hc hlt hls hr H;refine⟨fun h=>(by rw[h]at hr;cases hr),fun j hj=>?_⟩;by_cases hji:j=i;·subst hji;exact H
  ·obtain⟨hjun,oj,hoj,hall⟩:=mem_ready.1 hj;have hjlt:j<ops.size:=(Array.getElem?_eq_some_iff.1 hoj).1;have hij:=hlt j hjlt hjun hji;have hiun:=(mem_ready.1 hr).1;have hilt:i<ops.size:=by obtain⟨_,o,ho,_⟩:=mem_ready.1 hr;exact(Array.getElem?_eq_some_iff.1 ho).1
   have hbits:i<j→bits ops i j=false:=by intro hij;cases hb:bits ops i j with|false=>rfl|true=>
    have h1:=chain hch hc j hjlt hij hb ⟨oj,hoj,hall⟩;have hilt:i<listed.size:=by omega
    simp[hilt]at h1 hiun;rw[hiun]at h1;cases h1
   have h1:=hsw j _ st hjlt hij hbits (hmono i _ _ st (fun st' h=>h.2 j (ready_mono hj hji)) H);refine hmono j _ _ st (fun st' h=>?_) h1;refine ih (listed.setIfInBounds j true) st' (hc.set hj) ?_ (by simpa using hls) (ready_mono hr (Ne.symm hji)) ?_
   ·intro k hk hun hki;by_cases hjk:j=k;·subst hjk;exact hij
    ·rw[getD_set_ne true hjk]at hun;exact hlt k hk hun hki
   ·rw[Array.setIfInBounds_comm _ _ (Ne.symm hji)]at h;exact h
def Dv (S:Nat→(St→Prop)→St→Prop) (Q:St→Prop):Nat→Nat→St→Prop|0,_,st=>Q st|m+1,k,st=>S k (Dv S Q m (k+1)) st
theorem Gh {S:Nat→(St→Prop)→St→Prop}{Q:St→Prop} (hmono:∀(j:Nat) (K K':St→Prop) (st:St),(∀st,K st→K' st)→S j K st→S j K' st) (hstrict:∀(j:Nat) (st:St),¬S j (fun _=>False) st) (hch:∀j,j<ops.size→j4 ops j=true∧∀i,i<j→lY ops i j=true) (hsw:∀(i j:Nat) (K:St→Prop) (st:St),j<ops.size→i<j→bits ops i j=false→S i (S j K) st→S j (S i K) st):∀(m k:Nat) (st:St),k+m=ops.size→Dv S Q m k st→anyS S ops Q m (ez ops.size k) st:=by intro m;induction m with
 |zero=>intro k st hk hs;refine⟨?_,hs⟩;cases hr:Region.ready .any ops (ez ops.size k) with|nil=>rfl|cons j js=>
   have hj:j∈Region.ready .any ops (ez ops.size k):=by rw[hr];exact List.mem_cons_self
   obtain⟨h0,o,ho,_⟩:=mem_ready.1 hj;have hjlt:j<ops.size:=(Array.getElem?_eq_some_iff.1 ho).1;rw[gh true hjlt]at h0;simp only[decide_eq_false_iff_not]at h0;omega
 |succ m ih=>
  intro k st hk hs;have hko:k<ops.size:=by omega
  have hearly:∀j o,ops[j]?=some o→∀e∈o.after,Region.binds .any e=true→e.on<j:=by
   intro j o ho e he hb;have h:=(hch j (Array.getElem?_eq_some_iff.1 ho).1).1;unfold j4 at h;rw[ho]at h;simp only[List.all_eq_true,Bool.or_eq_true,Bool.not_eq_true',decide_eq_true_eq]at h;rcases h e (Array.mem_toList_iff.2 he) with h|h;·rw[hb]at h;cases h
   ·exact h
  refine ub hmono hstrict (fun j hj i hij=>(hch j hj).2 i hij) (fun j=>k<j) (fun j K st hj hij hb=>hsw k j K st hj hij (hb hij)) m (ez ops.size k) st ?_ ?_ (by simp[ez]) ?_ ?_;·intro j o ho hl e he hb;have hjlt:=(Array.getElem?_eq_some_iff.1 ho).1;rw[gh false hjlt]at hl;simp only[decide_eq_true_eq]at hl;have:=hearly j o ho e he hb;rw[gh false (by omega)];simp only[decide_eq_true_eq];omega
  ·intro j hj hun hne;rw[gh true hj]at hun;simp only[decide_eq_false_iff_not]at hun;omega
  ·refine mem_ready.2 ⟨by rw[gh true hko];simp,ops[k],by rw[Array.getElem?_eq_getElem hko],fun e he hb=>?_⟩;have:=hearly k ops[k] (by rw[Array.getElem?_eq_getElem hko]) e he hb;rw[gh false (by omega)];simpa using this
  ·rw[Cm hko];exact hmono k _ _ st (fun st' h=>ih (k+1) st' (by omega) h) hs
def GS (S:Nat→(St→Prop)→St→Prop) (Q:St→Prop):List Nat→St→Prop|[],st=>Q st|i::l,st=>S i (GS S Q l) st
def cG (n:Nat) (pre:List Nat):Array Bool:=((List.range n).map fun j=>pre.contains j).toArray
theorem gP {n j:Nat}{pre:List Nat} (d:Bool) (h:j<n):(cG n pre).getD j d=pre.contains j:=by simp[cG,h]
theorem zy {n k:Nat}{pre:List Nat} (h:k<n):(cG n pre).setIfInBounds k true=cG n (k::pre):=by
 apply Array.ext;·simp[cG]
 ·intro j h1 h2;have hj:j<n:=by simpa[cG]using h2
  by_cases hjk:j=k;·subst hjk;simp[cG,h]
  ·rw[Array.getElem_setIfInBounds_ne (by simpa[cG]using hj) (Ne.symm hjk)];have:¬k=j:=fun e=>hjk e.symm;simp[cG,hjk]
theorem Gp {S:Nat→(St→Prop)→St→Prop}{Q:St→Prop}{ks:Array AI} (hmono:∀(j:Nat) (K K':St→Prop) (st:St),(∀st,K st→K' st)→S j K st→S j K' st) (hstrict:∀(j:Nat) (st:St),¬S j (fun _=>False) st) (hch:∀j,j<ops.size→j4 ops j=true∧∀i,i<j→lY ops i j=true) (hsw:∀(i j:Nat) (K:St→Prop) (st:St),(∃x y,ks[i]?=some x∧ks[j]?=some y∧uQ x y=true)→S i (S j K) st→S j (S i K) st):∀(l pre:List Nat) (st:St),(∀j,j<ops.size→pre.contains j=false→j∈l)→(∀j∈l,j<ops.size)→(∀j,pre.contains j=true→j<ops.size)→pU ops (cG ops.size pre)→Kv ops ks pre l=true→GS S Q l st→anyS S ops Q l.length (cG ops.size pre) st:=by intro l;induction l with
 |nil=>intro pre st hall _ _ _ _ hs;refine⟨?_,hs⟩;cases hr:Region.ready .any ops (cG ops.size pre) with|nil=>rfl|cons j js=>
   have hj:j∈Region.ready .any ops (cG ops.size pre):=by rw[hr];exact List.mem_cons_self
   obtain⟨h0,o,ho,_⟩:=mem_ready.1 hj;have hjlt:j<ops.size:=(Array.getElem?_eq_some_iff.1 ho).1;rw[gP true hjlt]at h0;have:=hall j hjlt h0;cases this
 |cons i l ih=>
  intro pre st hall hlt hpre hcl hord hs;unfold Kv at hord;simp only[Bool.and_eq_true]at hord;obtain⟨⟨⟨h1,h2⟩,h3⟩,h4⟩:=hord;have hio:i<ops.size:=hlt i List.mem_cons_self;have hipre:pre.contains i=false:=by simpa using h2
  have hready:i∈Region.ready .any ops (cG ops.size pre):=by
   refine mem_ready.2 ⟨by rw[gP true hio];exact hipre,ops[i],by rw[Array.getElem?_eq_getElem hio],fun e he hb=>?_⟩;rw[Array.getElem?_eq_getElem hio]at h1;simp only[List.all_eq_true,Bool.or_eq_true,Bool.not_eq_true']at h1;rcases h1 e (Array.mem_toList_iff.2 he) with h|h;·rw[hb]at h;cases h
   ·rw[gP false (hpre e.on h)];exact h
  have hset:(cG ops.size pre).setIfInBounds i true=cG ops.size (i::pre):=zy hio;rw[List.all_eq_true]at h3;refine ub hmono hstrict (fun j hj i hij=>(hch j hj).2 i hij) (fun j=>j∈l) (fun j K st hj hjl hb=>hsw i j K st ?_) l.length (cG ops.size pre) st hcl ?_ (by simp[cG]) hready ?_
  ·have h5:=h3 j hjl;rw[Bool.or_eq_true]at h5;rcases h5 with h5|h5;·exfalso;simp only[Bool.and_eq_true,decide_eq_true_eq]at h5;rw[hb h5.1]at h5;cases h5.2
   ·split at h5;·rename_i x y hx hy;exact⟨x,y,hx,hy,h5⟩
    ·cases h5
  ·intro j hj hun hne;rw[gP true hj]at hun;rcases List.mem_cons.1 (hall j hj hun) with rfl|h;·exact absurd rfl hne
   ·exact h
  ·rw[hset];have hcl':=hcl.set hready;rw[hset]at hcl';refine hmono i _ _ st (fun st' h=>ih (i::pre) st' (fun j hj hun=>?_) (fun j hj=>hlt j (List.mem_cons_of_mem _ hj)) (fun j hj=>?_) hcl' h4 h) hs
   ·simp only[List.contains_cons,Bool.or_eq_false_iff,beq_eq_false_iff_ne]at hun;rcases List.mem_cons.1 (hall j hj hun.2) with rfl|h;·exact absurd rfl hun.1
    ·exact h
   ·simp only[List.contains_cons,Bool.or_eq_true,beq_iff_eq]at hj;rcases hj with rfl|h;·exact hio
    ·exact hpre j h
theorem BD {d:Option Nat}{f:FuncId}{xs:List AV}{p k:Nat}{K K':St→Prop}{st:St} (h:∀st,K st→K' st) (hs:lp P Γ d f xs p k K st):lp P Γ d f xs p k K' st:=by unfold lp at hs ⊢;obtain⟨d,hd,ha,hs⟩:=ae hs;obtain⟨X,hX,hs⟩:=ae hs;obtain⟨T,hT,ho,hs⟩:=ae hs;obtain⟨ys,hy,hs⟩:=ae hs;obtain⟨x,hx,h1,h2,h3,h4,hK⟩:=ae hs;rw[hd];refine⟨ha,?_⟩;rw[hX];show ai (hZ st.aa k X) _;rw[hT];refine⟨ho,?_⟩;rw[hy];show ai (Γ (f+1000000) ys) _;rw[hx];exact⟨h1,h2,h3,h4,h _ hK⟩
theorem gw {d:Option Nat}{f:FuncId}{xs:List AV}{ks:Option (List Nat)}{K K':St→Prop}{st:St} (h:∀st,K st→K' st) (hs:stepG Γ d f xs ks K st):stepG Γ d f xs ks K' st:=by unfold stepG at hs;obtain⟨d,rfl,ha,hs⟩:=ae hs;obtain⟨ks,rfl,hT,hQ,hn,hs⟩:=ae hs;obtain⟨ys,hy,hs⟩:=ae hs;obtain⟨x,hx,h1,h2,hs⟩:=ae hs;obtain⟨o,ho,h3,hs⟩:=ae hs;obtain⟨r,hr,h4,hK⟩:=ae hs;refine⟨ha,hT,hQ,hn,?_⟩;rw[hy];show ai (Γ (f+2000000) ys) _;rw[hx];refine⟨h1,h2,?_⟩;rw[ho];refine⟨h3,?_⟩;rw[hr];exact⟨h4,h _ hK⟩
theorem qF {d:Option Nat}{f:FuncId}{xs:List AV}{ks:Option (List Nat)}{st:St} (hs:stepG Γ d f xs ks (fun _=>False) st):False:=by unfold stepG at hs;obtain⟨d,rfl,ha,hs⟩:=ae hs;obtain⟨ks,rfl,hT,hQ,hn,hs⟩:=ae hs;obtain⟨ys,hy,hs⟩:=ae hs;obtain⟨x,hx,h1,h2,hs⟩:=ae hs;obtain⟨o,ho,h3,hs⟩:=ae hs;obtain⟨r,hr,h4,hK⟩:=ae hs;exact hK
theorem Bk {d:Option Nat}{xs:List AV}{K K':St→Prop}{st:St} (h:∀st,K st→K' st) (hs:fW P Γ d xs none K st):fW P Γ d xs none K' st:=by
 unfold fW at hs ⊢;obtain⟨ha,hs⟩:=hs;obtain⟨x,hx,hf,hs⟩:=ae hs;refine⟨ha,?_⟩;rw[hx];refine⟨hf,?_⟩;unfold eT at hs ⊢;split at hs
 ·split at hs;·rename_i h2;rw[if_pos h2];exact gw h hs
  ·exact hs.elim
 ·obtain⟨d,hd,ha,hs⟩:=ae hs;obtain⟨ys,hy,hs⟩:=ae hs;obtain⟨z,hz,h1,h2,h3,h4,hK⟩:=ae hs;unfold cH;subst hd;refine⟨ha,?_⟩;rw[hy];show ai (gt Γ x.1 ys) _;rw[hz];exact⟨h1,h2,h3,h4,h _ hK⟩
theorem iW {i:AI}{K K':St→Prop}{st:St} (h:∀st,K st→K' st) (hs:cK P Γ i K st):cK P Γ i K' st:=by
 unfold cK at hs ⊢;split at hs
 ·unfold iq at hs ⊢;split at hs
  ·split at hs;·rename_i h1;rw[if_pos h1];exact⟨hs.1,BD h hs.2⟩
   ·rename_i h1;rw[if_neg h1];split at hs;·rename_i h2;rw[if_pos h2];exact⟨hs.1,gw h hs.2⟩
    ·exact hs.elim
  ·exact tJ h hs
 ·exact Bk h hs
 ·exact tJ h hs
theorem pw {i:AI}{st:St} (hs:cK P Γ i (fun _=>False) st):False:=by
 have hI:∀{i:AI},¬cZ P Γ i (fun _=>False) st:=fun h=>by obtain⟨_,_,h⟩:=cA.1 h;exact h
 unfold cK at hs;split at hs
 ·unfold iq at hs;split at hs
  ·split at hs;·have hs:=hs.2;unfold lp at hs;obtain⟨_,_,_,hs⟩:=ae hs;obtain⟨_,_,hs⟩:=ae hs;obtain⟨_,_,_,hs⟩:=ae hs;obtain⟨_,_,hs⟩:=ae hs;obtain⟨_,_,_,_,_,_,hK⟩:=ae hs;exact hK
   ·split at hs;·exact qF hs.2
    ·exact hs
  ·exact hI hs
 ·unfold fW at hs;obtain⟨_,hs⟩:=hs;obtain⟨_,_,_,hs⟩:=ae hs;unfold eT at hs;split at hs
  ·split at hs;·exact qF hs
   ·exact hs
  ·obtain⟨_,_,_,hs⟩:=ae hs;obtain⟨_,_,hs⟩:=ae hs;obtain⟨_,_,_,_,_,_,hK⟩:=ae hs;exact hK
 ·exact hI hs
theorem dg {i:AI} (h:i.tg≠some 999999) {K:St→Prop}{st:St}:cK P Γ i K st=cZ P Γ i K st:=by
 unfold cK;split;·rename_i h1 _;exact absurd h1 h
 ·rename_i h1 _;exact absurd h1 h
 ·rfl
theorem G9 {dd:Nat}{c:AV}{vars:Nat→AV}{xs:List Operand} (h:(tmpsOf xs).contains dd=false):xs.map (ev (put (some dd) c vars))=xs.map (ev vars):=by induction xs with|nil=>rfl|cons x xs ih=>cases x with|tmp t=>simp only[tmpsOf,List.contains_cons,Bool.or_eq_false_iff,beq_eq_false_iff_ne]at h;have ht:t≠dd:=fun e=>h.1 e.symm;rw[List.map_cons,List.map_cons,ih h.2];simp only[ev,put,if_neg ht]|const v=>simp only[tmpsOf]at h;rw[List.map_cons,List.map_cons,ih h];rfl|func f=>simp only[tmpsOf]at h;rw[List.map_cons,List.map_cons,ih h];rfl|global g=>simp only[tmpsOf]at h;rw[List.map_cons,List.map_cons,ih h];rfl
theorem Jm (t:Nat) (v:Value):kill t (cv v)=cv v:=by unfold cv;split<;>rfl
theorem mD {d dd:Nat} (h:d≠dd) (r c:AV) (f:Nat→AV):put (some d) r (put (some dd) c f)=put (some dd) c (put (some d) r f):=by
 funext s;simp only[put];by_cases h1:s=d<;>by_cases h2:s=dd;·omega
 ·simp[h1,h]
 ·simp[h2,Ne.symm h]
 ·simp[h1,h2]
def kU (t:Nat) (x:AV) (c:AV):AV:=match en x with|_::_=>c|[]=>kill t c
theorem ES (t:Nat) (x:AV) (dd:Nat) (c:AV) (f:Nat→AV):iV t x (put (some dd) c f)=put (some dd) (kU t x c) (iV t x f):=by unfold iV kU;cases en x with|cons y l=>rfl|nil=>funext s;simp only[cC,put];split<;>rfl
theorem IF (W:List Nat) (v:Value):fB W (cv v)=cv v:=by
 unfold fB;split;·rfl
 ·unfold cv;split<;>rfl
theorem wD (W:List Nat) (dd:Nat) (c:AV) (f:Nat→AV):iy W (put (some dd) c f)=put (some dd) (fB W c) (iy W f):=by funext s;simp only[iy,put];split<;>rfl
def yW (d:Option Nat):Operand→Prop|.const _=>True|.tmp s=>d≠some s|_=>False
theorem JU {x:AI}{o:Operand} (h:VX x o=true):yW x.d o:=by cases o with|const v=>trivial|tmp s=>have h:(x.d !=some s)=true:=h;simpa[yW]using h|func f=>cases h|global g=>cases h
theorem sg {d:Nat}{o:Operand} (h:yW (some d) o) (r:AV) (f:Nat→AV):ev (put (some d) r f) o=ev f o:=by cases o with|const v=>rfl|tmp s=>have:s≠d:=fun e=>h (by rw[e]);simp only[ev,put,if_neg this]|func f=>exact h.elim|global g=>exact h.elim
theorem Jd {d:Option Nat}{o:Operand} (h:yW d o) (W:List Nat) (f:Nat→AV):ev (iy W f) o=fB W (ev f o):=by cases o with|const v=>exact(IF W v).symm|tmp s=>rfl|func f=>exact h.elim|global g=>exact h.elim
theorem H4 {d:Option Nat}{o:Operand} (h:yW d o) (t:Nat) (x:AV) (f:Nat→AV):ev (iV t x f) o=kU t x (ev f o):=by unfold iV kU;cases o with
 |const v=>cases en x with|cons y l=>rfl|nil=>exact(Jm t v).symm
 |tmp s=>cases en x<;>rfl|func f=>exact h.elim|global g=>exact h.elim
theorem zW {d:Option Nat}{f:FuncId}{xs:List AV}{ks:Option (List Nat)}{dd:Nat}{o:Operand} (ho:yW d o) (hd:d≠some dd) {K:St→Prop}{st:St}:stepG Γ d f xs ks (fun st'=>K ⟨put (some dd) (ev st'.vars o) st'.vars,st'.aa⟩) st=stepG Γ d f xs ks K ⟨put (some dd) (ev st.vars o) st.vars,st.aa⟩:=by unfold stepG;cases d with|none=>rfl|some d=>have hne:d≠dd:=fun e=>hd (by rw[e]);simp only[ai,xO,xN,xW,wD,mD hne,sg ho,Jd ho]
theorem Cn {d:Option Nat}{f:FuncId}{xs:List AV}{dd:Nat}{o:Operand} (ho:yW d o) (hd:d≠some dd) {K:St→Prop}{st:St}:cH P Γ d f xs st.aa (fun e=>K ⟨put (some dd) (ev (e.on d st).vars o) (e.on d st).vars,(e.on d st).aa⟩)=cH P Γ d f xs st.aa (fun e=>K (e.on d ⟨put (some dd) (ev st.vars o) st.vars,st.aa⟩)):=by unfold cH;cases d with|none=>rfl|some d=>have hne:d≠dd:=fun e=>hd (by rw[e]);simp only[ai,bE.on,mD hne,sg ho]
theorem FU {d:Option Nat}{xs:List AV}{dd:Nat}{o:Operand} (ho:yW d o) (hd:d≠some dd) {K:St→Prop}{st:St}:fW P Γ d xs none (fun st'=>K ⟨put (some dd) (ev st'.vars o) st'.vars,st'.aa⟩) st=fW P Γ d xs none K ⟨put (some dd) (ev st.vars o) st.vars,st.aa⟩:=by
 have key:∀x:FuncId×List AV,eT P Γ d x.1 x.2 (dP Γ x.1) (fun st'=>K ⟨put (some dd) (ev st'.vars o) st'.vars,st'.aa⟩) st=eT P Γ d x.1 x.2 (dP Γ x.1) K ⟨put (some dd) (ev st.vars o) st.vars,st.aa⟩:=by
  intro x;unfold eT;split
  ·split;·exact zW ho hd
   ·rfl
  ·exact Cn ho hd
 show(an xs∧ai (lH (xs.map strip)) fun x=>ib P x.1=true∧eT P Γ d x.1 x.2 (dP Γ x.1) (fun st'=>K ⟨put (some dd) (ev st'.vars o) st'.vars,st'.aa⟩) st)=(an xs∧ai (lH (xs.map strip)) fun x=>ib P x.1=true∧eT P Γ d x.1 x.2 (dP Γ x.1) K ⟨put (some dd) (ev st.vars o) st.vars,st.aa⟩);simp only[key]
theorem Ln {T:List Nat}{st:St}{l:List Nat}{dd:Nat}{c:AV} (hl:dd∉l):nj T ⟨put (some dd) c st.vars,st.aa⟩ l=nj T st l:=by induction l with|nil=>rfl|cons s l ih=>have h1:s≠dd:=fun e=>hl (by rw[e];exact List.mem_cons_self);simp only[nj,put,if_neg h1];rw[←ih (fun h=>hl (List.mem_cons_of_mem _ h))];rfl
theorem G2 {y x:AI} (hk:(∃f,x.k=.call f)∨x.k=.ly) (hg:x.g=none) (ht:x.tg=some 999999) (hc:KM y x=true) (hun:∀dd,y.d=some dd→dd∉x.un):∃dd o,y=⟨some dd,.nX,[o],none,[],none⟩∧∀(K:St→Prop) (st:St),cK P Γ x (fun st'=>K ⟨put (some dd) (ev st'.vars o) st'.vars,st'.aa⟩) st=cK P Γ x K ⟨put (some dd) (ev st.vars o) st.vars,st.aa⟩:=by
 obtain⟨yd,yk,yxs,yg,yun,ytg⟩:=y;unfold KM at hc;split at hc
 ·rename_i o dd e1 e2 e3 e4 e5 e6;simp only at e1 e2 e3 e4 e5 e6;subst e1 e2 e3 e4 e5 e6;refine⟨dd,o,rfl,fun K st=>?_⟩;simp only[Bool.and_eq_true,Bool.not_eq_true',bne_iff_ne,ne_eq,cX,hg,List.append_nil]at hc;obtain⟨⟨hok,hu⟩,hd⟩:=hc;have ho:=JU hok;have hun2:=hun dd rfl;have hev:∀c vars,x.xs.map (ev (put (some dd) c vars))=x.xs.map (ev vars):=fun c vars=>G9 hu;obtain⟨xd,xk,xxs,xg,xun,xtg⟩:=x;simp only at hk hg ht hd hev ho hun2;subst hg ht;rcases hk with⟨f,rfl⟩|rfl
  ·show iq P Γ _ f (dP Γ f) _ _=iq P Γ _ f (dP Γ f) _ _;unfold iq;split
   ·split;·unfold lp;simp only[hev];cases xd with|none=>rfl|some d=>have hne:d≠dd:=fun e=>hd (by rw[e]);simp only[ai,ES,mD hne,sg ho,H4 ho]
    ·split;·simp only[hev,Ln hun2];rw[zW ho hd]
     ·rfl
   ·simp only[cZ,dR,hev];unfold aZ;simp only[cH];cases xd with|none=>rfl|some d=>have hne:d≠dd:=fun e=>hd (by rw[e]);simp only[ai,bE.on,By,sO,lj,mD hne,sg ho]
  ·show fW P Γ _ _ none _ _=fW P Γ _ _ none _ _;simp only[hev];exact FU ho hd
 ·cases hc
theorem At {dd:Nat}{o:Operand}{K:St→Prop}{st:St}:cK P Γ ⟨some dd,.nX,[o],none,[],none⟩ K st=K ⟨put (some dd) (ev st.vars o) st.vars,st.aa⟩:=by simp[cK,cZ,dR,aZ,ai,By,sO,lj,bE.on]
theorem sN {x y:AI} (hk:(∃f,x.k=.call f)∨x.k=.ly) (hg:x.g=none) (ht:x.tg=some 999999) (hc:KM y x=true) (hun:∀dd,y.d=some dd→dd∉x.un) {K:St→Prop}{st:St}:cK P Γ x (cK P Γ y K) st=cK P Γ y (cK P Γ x K) st:=by obtain⟨dd,o,rfl,h⟩:=G2 (P:=P) (Γ:=Γ) hk hg ht hc hun;rw[At,←h];congr 1;funext st';exact At
theorem nN {W:List Nat}:∀{cs:List AV},ln cs=true→cs.map (eF W)=cs|[],_=>rfl|c::cs,h=>by cases c with|pv p=>rw[List.map_cons,nN (cs:=cs) h];rfl|_=>cases h
theorem zm:∀{cs:List AV}{i:Nat}{c:AV},ln cs=true→cs[i]?=some c→∃p,c=.pv p|[],i,c,_,h=>by simp at h|x::cs,i,c,h,hc=>by cases x with
 |pv p=>cases i with|zero=>exact⟨p,by simpa using hc.symm⟩|succ i=>exact zm (cs:=cs) h (by simpa using hc)
 |_=>cases h
theorem sU:∀{cs:List AV} (n:Nat),ln cs=true→ln (cs.drop n)=true|cs,0,h=>h|[],n+1,h=>h|c::cs,n+1,h=>by cases c with|pv p=>exact sU (cs:=cs) n h|_=>cases h
theorem te:∀{cs:List AV} (n:Nat),ln cs=true→ln (cs.take n)=true|cs,0,h=>rfl|[],n+1,h=>rfl|c::cs,n+1,h=>by cases c with|pv p=>exact te (cs:=cs) n h|_=>cases h
theorem J3 (W:List Nat) (p:PV):fB W (.pv p)=.pv p:=by unfold fB;split<;>rfl
theorem HA {W:List Nat}{cs:List AV} (h:ln cs=true):fB W (.agg cs)=.agg cs:=by
 unfold fB;split;·rfl
 ·show AV.agg (cs.map (eF W))=_;rw[nN h]
theorem Fc {W:List Nat}{cs:List AV} (h:ln cs=true):kc W (.box cs)=.box cs:=by
 unfold kc;split;·rfl
 ·show AO.box (cs.map (eF W))=_;rw[nN h]
theorem BE {n:Option Nat}{t o:Nat}{aa:Nat→Option AO}{cs:List AV} (ht:aa t=some (.box cs)) (hp:ln cs=true) {x:Prop×AV} (h:al (.load n) [.ptr t o] aa=some x):(∀W,fB W x.2=x.2)∧∀objs',objs' t=some (.box cs)→al (.load n) [.ptr t o] objs'=some x:=by cases n with
 |none=>
  simp only[al,ht,eV,Option.bind_some]at h ⊢;refine⟨?_,fun objs' h'=>by rw[h'];exact h⟩;obtain⟨c,hc,h⟩:=Option.bind_eq_some_iff.1 h;obtain⟨p,rfl⟩:=zm hp hc;split at h;·cases h;exact fun W=>J3 W p
  ·cases h|some n=>
  simp only[al,ht,eV,Option.bind_some]at h ⊢;refine⟨?_,fun objs' h'=>by rw[h'];exact h⟩;split at h;·cases h;exact fun W=>HA (te _ (sU _ hp))
  ·cases h
theorem wK {T:List Nat}{st:St}{s:Nat}:∀{l:List Nat},nj T st l→s∈l→∃t o cs,st.vars s=.ptr t o∧st.aa t=some (.box cs)∧ln cs=true∧T.contains t=false
 |[],_,hm=>by cases hm|s'::l,h,hm=>by
  rcases List.mem_cons.1 hm with rfl|hm
  ·obtain⟨t,ht,hT⟩:=ae h.1;unfold ldT at ht;split at ht
   ·rename_i t' o e;obtain⟨cs,hb,ht⟩:=Option.bind_eq_some_iff.1 ht;split at ht;·rename_i hp;cases ht;refine⟨_,o,cs,e,?_,hp,hT⟩;revert hb;cases st.aa t with|none=>intro hb;cases hb|some ob=>cases ob with|box l=>intro hb;cases hb;rfl|_=>intro hb;cases hb
    ·cases ht
   ·cases ht
  ·exact wK h.2 hm
theorem zl {dd s:Nat}{n:Option Nat}{un:List Nat}{K:St→Prop}{st:St}:cK P Γ ⟨some dd,.load n,[.tmp s],none,un,none⟩ K st=((un=[]∨j8 un st.aa [strip (st.vars s)])∧asks (st.vars s)∧ai (al (.load n) [strip (st.vars s)] st.aa) fun x=>x.1∧K ⟨put (some dd) x.2 st.vars,st.aa⟩):=by show((un=[]∨j8 un st.aa [strip (st.vars s)])∧(asks (st.vars s)∧True)∧ai (al (.load n) [strip (st.vars s)] st.aa) fun x=>x.1∧By un none (.put x.2)∧K ((bE.put x.2).on (some dd) st))=_;simp[By,sO,lj,bE.on]
theorem EB {d:Option Nat}{f:FuncId}{xs:List AV}{ks:Option (List Nat)}{K K2:St→Prop}{st st':St} (ho:st'.aa=st.aa) (hK:∀d' W r objs1,d=some d'→(∀t∈W,t∈Dw ks st.aa (xs.map strip))→(∀t c,(Dw ks st.aa (xs.map strip)).contains t=false→st.aa t=some c→objs1 t=some (kc W c))→K ⟨put (some d') r (iy W st'.vars),objs1⟩→K2 ⟨put (some d') r (iy W st.vars),objs1⟩) (hs:stepG Γ d f xs ks K st'):stepG Γ d f xs ks K2 st:=by
 unfold stepG at hs;rw[ho]at hs;obtain⟨d,rfl,ha,hs⟩:=ae hs;obtain⟨ks,rfl,hT,hQ,hn,hs⟩:=ae hs;obtain⟨ys,hy,hs⟩:=ae hs;rw[ho]at hy;obtain⟨x,hx,h1,h2,hs⟩:=ae hs;obtain⟨o,hoo,h3,hs⟩:=ae hs;obtain⟨r,hr,h4,h5⟩:=ae hs;rw[ho]at h4 h5;refine⟨ha,hT,hQ,hn,?_⟩;rw[hy];show ai (Γ (f+2000000) ys) _;rw[hx];refine⟨h1,h2,?_⟩;rw[hoo];refine⟨h3,?_⟩;rw[hr];refine⟨h4,hK _ _ _ _ rfl (fun t ht=>(List.mem_filter.1 ht).1) (fun t c htT hc=>?_) h5⟩;show(match ab (o.2.1++r.2.1) t with|some o=>some o|none=>_)=_;have hno:ab (o.2.1++r.2.1) t=none:=by cases hl:ab (o.2.1++r.2.1) t with|none=>rfl|some c'=>
  obtain⟨q,hq,rfl⟩:=iN _ _ _ hl;rcases h4 _ hq with h|h;·have htT:(fu st.aa ks (xs.map strip)).contains q.1=false:=htT;rw[htT]at h;cases h
  ·rw[hc]at h;cases h
 rw[hno];unfold eY;have htT:(fu st.aa ks (xs.map strip)).contains t=false:=htT;rw[htT,hc];rfl
theorem JB {x y:AI}{f:FuncId} (hxk:x.k=.call f) (hg:x.g=none) (ht:x.tg=some 999999) {p k:Nat} (hfl:dP Γ f=some (p,k)) {dd s:Nat}{n:Option Nat}{un:List Nat} (hy:y=⟨some dd,.load n,[.tmp s],none,un,none⟩) (hds:x.d≠some s) (hu:(cX x).contains dd=false) (hdd:x.d≠some dd) (hsd:dd≠s) (hsu:s∈x.un) (hdu:dd∉x.un) {K:St→Prop}{st:St} (hs:cK P Γ y (cK P Γ x K) st):cK P Γ x (cK P Γ y K) st:=by
 subst hy;obtain⟨xd,xk,xxs,xg,xun,xtg⟩:=x;simp only at hxk hg ht hds hdd hsu hdu;subst hxk hg ht;have hu':(tmpsOf xxs).contains dd=false:=by simpa[cX]using hu
 have hev:∀c vars,xxs.map (ev (put (some dd) c vars))=xxs.map (ev vars):=fun c vars=>G9 hu';rw[zl]at hs;obtain⟨hn,ha,hs⟩:=hs;obtain⟨v,hv,hφ,hs⟩:=ae hs;change iq P Γ _ f (dP Γ f) K _ at hs;show iq P Γ _ f (dP Γ f) _ st;rw[hfl]at hs ⊢;unfold iq at hs ⊢;dsimp only at hs ⊢;split at hs;·rw[hs.1]at hsu;cases hsu
 rename_i hk;rw[if_neg hk];split at hs;rotate_left;·exact hs.elim
 rename_i hk2;rw[if_pos hk2];simp only[hev,Ln hdu]at hs;obtain⟨hl,hs⟩:=hs;refine⟨hl,?_⟩;obtain⟨t,o,cs,e1,e2,e3,e4⟩:=wK hl hsu;rw[e1]at hn hv;obtain⟨hw,hq⟩:=BE e2 e3 hv;refine EB (st':=⟨put (some dd) v.2 st.vars,st.aa⟩) rfl (fun d' W r objs1 hd' hW ho h=>?_) hs;subst hd';have hWt:W.contains t=false:=by cases hc:W.contains t with|false=>rfl|true=>have:=hW t (by simpa using hc);rw[←List.contains_iff_mem]at this;rw[this]at e4;cases e4
 have hsd':s≠d':=fun e=>hds (by rw[e]);have hdd':d'≠dd:=fun e=>hdd (by rw[e]);have h1:=ho t _ e4 e2;rw[Fc e3]at h1;have hvs:(put (some d') r (iy W st.vars)) s=.ptr t o:=by
  simp only[put,if_neg hsd',iy,e1];unfold fB;split;·rfl
  ·show(if W.contains t=true then AV.ak else .ptr t o)=_;rw[hWt];rfl
 rw[zl];simp only[hvs];refine⟨?_,trivial,?_⟩
 ·rcases hn with hn|hn;·exact .inl hn
  ·right;have hb:eV (objs1 t)=eV (st.aa t):=by rw[h1,e2]
   refine⟨?_,trivial⟩;have:=hn.1;simpa only[strip,rB,nQ,hb]using this
 ·show ai (al (.load n) [.ptr t o] objs1) _;rw[hq objs1 h1];refine⟨hφ,?_⟩;have e:put (some d') r (iy W (put (some dd) v.2 st.vars))=put (some dd) v.2 (put (some d') r (iy W st.vars)):=by rw[wD,hw,mD hdd']
  rw[←e];exact h
end
section
variable{P:Program}{Γ:bR}{S0 L:Nat→Prop}{B0:Nat→Value}{w0 w:World}{N:Nat}{st:St}{a:Act}{β:Nat→Value}{o:Oper}{x:Operand}
theorem yM (h:Rel P S0 L B0 w0 N st a w β) {t' b lo n c:Nat}{e:TypeId}{inf:TypeInfo}{rows mid:List (List PV)}{us:List Value} (hc:st.aa t'=some (.arr e rows)) (hi:P.info? e=some inf) (hb:β t'=.slice (some ⟨b,0,none⟩) n c) (hle:lo+mid.length≤rows.length) (hml:∀r∈mid,r.length=inf.size) (hul:us.length=mid.length*inf.size) (hv:∀v∈us,v.oneCell'=true) (hr:∀(i j:Nat) (r:List PV) (p:PV),mid[i]?=some r→r[j]?=some p→∃u,us[i*inf.size+j]?=some u∧u.oneCell'=true∧da (aU S0 w0.heap.size β st.aa w) w u p):∃w',(storeCells ⟨b,lo*inf.size,none⟩ us).run P w=.ok () w'∧Rel P S0 L B0 w0 N ⟨st.vars,aN t' (.arr e (bX rows lo mid)) st.aa⟩ a w' β:=by
 obtain⟨inf',xs,hi',hown,hrl,hcells⟩:=h.heap.arr hc;have:inf'=inf:=by rw[hi]at hi';injection hi' with hi';exact hi'.symm
 subst this;have hfit:lo*inf'.size+mid.length*inf'.size≤rows.length*inf'.size:=by rw[←Nat.add_mul];exact Nat.mul_le_mul_right _ hle
 rcases hown.2 with⟨hnil,_⟩|⟨g,cap,cur,hv',_,hheap,hnc,hcm,hcs,htake⟩;·rw[hb]at hnil;cases hnil
 ·have hgb:g=b:=by rw[hb]at hv';simp at hv';exact hv'.1.symm
  subst hgb;have hnn:n=rows.length∧c=cap:=by rw[hb]at hv';simp at hv';exact hv'
  have hxl:xs.length=rows.length*inf'.size:=hown.1;have hcap:rows.length*inf'.size≤cur.size:=by rw[hcs];exact Nat.mul_le_mul_right _ hnc
  have hin:lo*inf'.size+us.length≤cur.size:=by rw[hul];omega
  refine⟨_,nz (P:=P) hheap hin hv,?_⟩;have hblk:ct (β t')=some g:=by rw[hb];rfl
  have hmono:∀(cs':Array Value) (o':AO) (k:Nat),aU S0 w0.heap.size β st.aa w k→aU S0 w0.heap.size β (aN t' o' st.aa) (w.setRow g cs') k∧(w.setRow g cs').heap[k]?=w.heap[k]?:=by
   intro cs' o' k hk;obtain⟨g1,g2,g3⟩:=hk;have hkb:k≠g:=fun e=>g3 ⟨t',_,hc,by rw[e];exact hblk⟩;refine⟨⟨g1,by simpa using g2,?_⟩,setRow_other w g k cs' hkb⟩;rintro⟨s,q,hs,hk⟩;by_cases e:s=t';·subst e;exact hkb (by rw[hblk]at hk;injection hk with hk;exact hk.symm)
   ·exact g3 ⟨s,q,by simpa[aN,e]using hs,hk⟩
  have hsl:(bX rows lo mid).length=rows.length:=fb _ _ _ hle;refine(h.wE (w':=w.setRow g (cur.toList.take (lo*inf'.size)++us++cur.toList.drop (lo*inf'.size+us.length)).toArray) (o':=.arr e (bX rows lo mid)) hc hblk rfl rfl rfl (by simp) (fun k hk=>setRow_other _ _ _ _ hk) ⟨inf',bX xs (lo*inf'.size) us,hi,?_,fun r hr'=>?_,fun k j r p hk hp=>?_⟩).1
  ·rw[hsl];refine⟨by rw[fb _ _ _ (by rw[hxl,hul];omega)];exact hxl,.inr ⟨g,cap,_,hv',Nat.zero_le _,setRow_heap _ _ _ _ _ _ hheap,hnc,hcm,?_,?_⟩⟩;·simp;omega
   ·rw[←htake];simp only[bX];rw[List.take_append,List.take_append];simp only[List.length_append,List.length_take,Array.length_toList];rw[List.take_of_length_le (l:=List.take (lo*inf'.size) cur.toList) (by rw[List.length_take];omega),List.take_take,Nat.min_eq_left (by omega)];rw[Nat.min_eq_left (by omega)];rw[List.take_of_length_le (l:=us) (by omega)];congr 1;rw[List.drop_take]
  ·unfold bX at hr';simp only[List.mem_append]at hr';rcases hr' with(h1|h1)|h1;·exact hrl r (List.mem_of_mem_take h1)
   ·exact hml r h1
   ·exact hrl r (List.mem_of_mem_drop h1)
  ·rw[iS _ _ _ hle]at hk;rw[iS _ _ _ (by rw[hxl,hul];omega)];by_cases e1:lo≤k∧k<lo+mid.length
   ·rw[if_pos e1]at hk;have hjl:j<inf'.size:=by rw[←hml r (List.mem_of_getElem? hk)];exact(List.getElem?_eq_some_iff.1 hp).1
    have h1:lo*inf'.size≤k*inf'.size:=Nat.mul_le_mul_right _ e1.1;have h2:(k+1)*inf'.size≤(lo+mid.length)*inf'.size:=Nat.mul_le_mul_right _ e1.2;rw[Nat.succ_mul,Nat.add_mul]at h2;rw[if_pos (by rw[hul];omega)];obtain⟨u,hu,h3,h4⟩:=hr _ j r p hk hp;refine⟨u,?_,h3,h4.mono (hmono _ _)⟩;rw[←hu,Nat.sub_mul];congr 1;omega
   ·rw[if_neg e1]at hk;have hjl:j<inf'.size:=by rw[←hrl r (List.mem_of_getElem? hk)];exact(List.getElem?_eq_some_iff.1 hp).1
    obtain⟨u,hu,h3,h4⟩:=hcells k j r p hk hp;refine⟨u,?_,h3,h4.mono (hmono _ _)⟩;rw[if_neg ?_];·exact hu
    ·rintro⟨g1,g2⟩;refine e1 ⟨?_,?_⟩
     ·rcases Nat.lt_or_ge k lo with hlt|hge;·have:(k+1)*inf'.size≤lo*inf'.size:=Nat.mul_le_mul_right _ hlt;rw[Nat.succ_mul]at this;omega
      ·exact hge
     ·rcases Nat.lt_or_ge k (lo+mid.length) with hlt|hge;·exact hlt
      ·have:(lo+mid.length)*inf'.size≤k*inf'.size:=Nat.mul_le_mul_right _ hge;rw[Nat.add_mul]at this;rw[hul]at g2;omega
theorem vg (z:Array Value) (n i j:Nat) (hi:i<n) (hj:j<z.size):(Builtin.zeroCells z n).toList[i*z.size+j]?=some z[j]:=by
 have hlt:i*z.size+j<n*z.size:=by have:=Nat.mul_le_mul_right z.size (show i+1≤n from hi);rw[Nat.succ_mul]at this;omega
 simp only[Builtin.zeroCells,Array.toList_map,List.getElem?_map,Array.getElem?_toList];rw[Array.getElem?_range,if_pos hlt];simp only[Option.map_some,Option.some.injEq];rw[Nat.mul_comm,Nat.mul_add_mod,Nat.mod_eq_of_lt hj];exact getElem!_pos z j hj
theorem vv (z:Array Value) (n:Nat) (v:Value) (h:v∈(Builtin.zeroCells z n).toList):v∈z.toList:=by
 simp only[Builtin.zeroCells,Array.toList_map,List.mem_map]at h;obtain⟨i,hi,rfl⟩:=h;have hi':i<n*z.size:=by simpa using hi
 have hz:0<z.size:=by
  rcases Nat.eq_zero_or_pos z.size with h|h;·rw[h]at hi';omega
  ·exact h
 have:=Nat.mod_lt i hz;rw[getElem!_pos z _ this];simp
theorem E8 {t e:TypeId}{sz:Nat}{zs:List Value} (ho:o.op=.call {callee:=.builtin .clear,args:=#[x],argTypes:=#[t]}) (ht:P.underlying t=some (.slice e)) (hsz:cy P e=some sz) (hz:dN P e=some zs) (hpos:0<sz) (hall:zs.all (·.oneCell')=true) (h:Rel P S0 L B0 w0 N st a w β) (hd:∀s,o.dst=some s→s<N) {X:AV} (hX:RV P (aU S0 w0.heap.size β st.aa w) w β (aG st.aa) (a.eval x) X) {r:Nat×AO} (hs:EV st.aa e zs X=some r):∃v w',(execOp a.eval o).run P w=.ok (.value v) w'∧Rel P S0 L B0 w0 N ((bE.wE r.1 r.2).on o.dst st) (a.put o.dst v) w' β:=by
 obtain⟨i,z,hi,hzv,hzs,rfl⟩:=dO hz;have hsi:i.size=sz:=by obtain⟨i',hi',rfl⟩:=gl hsz;rw[hi]at hi';injection hi' with hi';rw[hi']
 have hzr:(zeroValue e).run P w=.ok z w:=by simp[zeroValue,typeInfo,hi,hzv]
 have hex:∀(A:Option Addr) (n c:Nat) (w':World),a.eval x=.slice A n c→((A=none∨n=0)∧w'=w∨∃ad,A=some ad∧n≠0∧(storeCells ad (Builtin.zeroCells z.cells n).toList).run P w=.ok () w')→(execOp a.eval o).run P w=.ok (.value (.tuple #[])) w':=by
  rintro A n c w' hv (⟨h0,rfl⟩|⟨ad,rfl,hn,hst⟩);·cases A with|none=>cases n<;>simp[execOp,ho,resolve,invoke,builtin,Builtin.clear_,run_underlying ht,hv]|some ad=>
   obtain rfl:n=0:=by rcases h0 with h0|h0;cases h0;exact h0
   simp[execOp,ho,resolve,invoke,builtin,Builtin.clear_,run_underlying ht,hv]
  ·obtain⟨m,rfl⟩:∃m,n=m+1:=⟨n-1,by omega⟩;simp[execOp,ho,resolve,invoke,builtin,Builtin.clear_,run_underlying ht,hv,hzr,hst]
 have hput:∀{w':World}{objs':Nat→Option AO},Rel P S0 L B0 w0 N ⟨st.vars,objs'⟩ a w' β→Rel P S0 L B0 w0 N ⟨Ab.put o.dst .ak st.vars,objs'⟩ (a.put o.dst (.tuple #[])) w' β:=fun hR=>hR.put hd (.ak _);have main:∀(t' lo hi':Nat) (rows:List (List PV)) (A1:Option Addr),st.aa t'=some (.arr e rows)→lo≤hi'→hi'≤rows.length→(∀A n c,β t'=.slice A n c→a.eval x=.slice A1 (hi'-lo) (c-lo)∧(c≠lo→A1=A.map (·.add (lo*i.size))))→∃v w',(execOp a.eval o).run P w=.ok (.value v) w'∧Rel P S0 L B0 w0 N ⟨Ab.put o.dst .ak st.vars,aN t' (.arr e (bX rows lo (List.replicate (hi'-lo) (z.cells.toList.map u7)))) st.aa⟩ (a.put o.dst v) w' β:=by
  intro t' lo hi' rows A1 hc h1 h2 hx;obtain⟨inf',xs,hinf,hown,hrl,hcells⟩:=h.heap.arr hc;have:inf'=i:=by rw[hi]at hinf;injection hinf with hinf;exact hinf.symm
  subst this;by_cases hz0:hi'-lo=0
  ·have hsp:bX rows lo (List.replicate (hi'-lo) (z.cells.toList.map u7))=rows:=by rw[hz0];simp[bX]
   rw[hsp];obtain⟨A,c,hv,hcc⟩:=cB hown;obtain⟨hxe,_⟩:=hx A rows.length c hv;rw[hz0]at hxe;refine⟨_,w,hex _ _ _ w hxe (.inl ⟨.inr rfl,rfl⟩),?_⟩;have hsame:aN t' (.arr e rows) st.aa=st.aa:=by
    funext s;by_cases hst:s=t';·subst hst;simp[aN,hc]
    ·simp[aN,hst]
   rw[hsame];exact hput h
  ·rcases hown.2 with⟨_,hr0⟩|⟨g,cap,cur,hv,_,_,hnc,_⟩;·omega
   ·obtain⟨hxe,hA⟩:=hx _ _ _ hv;rw[hA (by omega)]at hxe;obtain⟨w',hst,hR⟩:=yM h (lo:=lo) (mid:=List.replicate (hi'-lo) (z.cells.toList.map u7)) (us:=(Builtin.zeroCells z.cells (hi'-lo)).toList) hc hi hv (by simp;omega) (fun r hr=>by rw[List.eq_of_mem_replicate hr];simp[hzs]) (by rw[Array.length_toList,size_zeroCells,List.length_replicate,hzs]) (fun v hv'=>(List.all_eq_true.1 hall) v (vv _ _ _ hv')) (fun k j r p hk hp=>by
     have hk1:k<hi'-lo:=by have:=(List.getElem?_eq_some_iff.1 hk).1;simpa using this
     rw[List.getElem?_replicate,if_pos hk1]at hk;injection hk with hk;subst hk;rw[List.getElem?_map,Option.map_eq_some_iff]at hp;obtain⟨q,hq,rfl⟩:=hp;have hj:j<z.cells.size:=by have:=(List.getElem?_eq_some_iff.1 hq).1;simpa using this
     have hqe:q=z.cells[j]:=by
      have:z.cells[j]?=some q:=by simpa using hq
      rw[Array.getElem?_eq_getElem hj]at this;injection this with this;exact this.symm
     have hq1:q.oneCell'=true:=(List.all_eq_true.1 hall) q (List.mem_of_getElem? hq);refine⟨q,?_,hq1,iL _ _ q hq1⟩;rw[←hzs,vg _ _ _ _ hk1 hj,hqe]);have hst':(storeCells ((⟨g,0,none⟩:Addr).add (lo*inf'.size)) (Builtin.zeroCells z.cells (hi'-lo)).toList).run P w=.ok () w':=by rw[Addr.add_lit,Nat.zero_add];exact hst
    exact⟨_,w',hex _ _ _ w' hxe (.inr ⟨_,rfl,hz0,hst'⟩),hput hR⟩
 cases X with
 |own t'=>
  simp only[EV,Option.bind_eq_some_iff]at hs;obtain⟨⟨e',rows⟩,har,hs⟩:=hs;split at hs
  ·rename_i hee;simp only at hee;subst hee;cases hs;have hc:=bH har;have:=main t' 0 rows.length rows (match β t' with|.slice A _ _=>A|_=>none) hc (Nat.zero_le _) (Nat.le_refl _) (fun A n c hb=>by
    have hx:=hX.aT.1;obtain⟨inf',xs,hinf,hown,_⟩:=h.heap.arr hc;obtain⟨A',c',hv,_⟩:=cB hown;rw[hb]at hv;have hn:n=rows.length:=by simp at hv;exact hv.2.1
    rw[hx,hb];refine⟨by simp[hn],fun _=>?_⟩;cases A with|none=>rfl|some ad=>simp[add_zero']);have he:bX rows 0 (List.replicate (rows.length-0) (z.cells.toList.map u7))=List.replicate rows.length (z.cells.toList.map u7):=by simp[bX]
   rw[he]at this;exact this
  ·cases hs|sub t' e1 lo hi'=>
  simp only[EV,Option.bind_eq_some_iff]at hs;obtain⟨⟨e',rows⟩,har,hs⟩:=hs;split at hs
  ·rename_i hee;obtain⟨hee,hee1⟩:=hee;simp only at hee;subst hee hee1;cases hs;have hc:=bH har;obtain⟨inf1,Ad,Ad1,n,c,hdt,hi1,hbt,g1,g2,g3,g4,g5,hx⟩:=hX.gF;have hinf:inf1=i:=by rw[hi]at hi1;injection hi1 with hi1;exact hi1.symm
   subst hinf;obtain⟨inf',xs,hinf',hown,_⟩:=h.heap.arr hc;obtain⟨A',c',hv,_⟩:=cB hown;have hn:n=rows.length:=by rw[hbt]at hv;simp at hv;exact hv.2.1
   subst hn;have:=main t' lo hi' rows Ad1 hc g1 g2 (fun A n c' hb=>by
    rw[hbt]at hb;have h3:Ad=A∧rows.length=n∧c=c':=by simpa using hb
    obtain⟨rfl,rfl,rfl⟩:=h3;exact⟨hx,g5⟩);have he:bX rows lo (List.replicate (hi'-lo) (z.cells.toList.map u7))=rows.take lo++List.replicate (hi'-lo) (z.cells.toList.map u7)++rows.drop hi':=by simp only[bX,List.length_replicate];rw[show lo+(hi'-lo)=hi' from by omega]
   rw[he]at this;exact this
  ·cases hs|_=>simp[EV]at hs
end
end Go.Proofs.YtifcndkhigakfaaGreat.Ab
