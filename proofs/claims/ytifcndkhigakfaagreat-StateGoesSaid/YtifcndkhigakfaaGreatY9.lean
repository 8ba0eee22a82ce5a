/- The abstract machine: something is appended to a slice, and something else is looked at, or made: the two may change places. -/
import Derived.Test.YtifcndkhigakfaaGreatY8
set_option linter.unusedVariables false
set_option linter.unusedSimpArgs false
set_option linter.unnecessarySimpa false
set_option maxHeartbeats 40000000
set_option maxRecDepth 100000
set_option linter.defProp false
namespace Go.Proofs.YtifcndkhigakfaaGreat.Ab
open Go Go.RowKit
def q133:=@List.any_eq_true
def q141:=@Nat.lt_or_ge
def q200:=@List.eq_of_mem_replicate
def q216:=@Array.getElem?_toList
def q217:=@List.length_replicate
def q221:=@Bool.or_eq_false_iff
def q238:=@List.getElem?_replicate
def q251:=@Array.mem_toList_iff
def q252:=@Array.getElem_setIfInBounds_ne
def q260:=@Ne.symm
def q266:=@Bool.false_or
def q294:=@Nat.mul_add_mod
end Go.Proofs.YtifcndkhigakfaaGreat.Ab
namespace Go.Proofs.YtifcndkhigakfaaGreat.Ab
open Go Go.RowKit
variable {n k t j i dd:Nat}{f:FuncId}{v X:AV}{rows:List (List PV)}{K:St->Prop}{un pre:List Nat}{cs:List AV}{listed:Array Bool}
def lY {q:Option AO}{r:TypeId×List (List PV)} (h:dx q=some r):q=some (.arr r.1 r.2):=by
 unfold dx at h;split at h;·cases h;rfl
 ·cases h
def vq {aa objs':Nat->Option AO} (hs:∀s o,aa s=some o->objs' s=some o)  (h:dk aa X=some rows):dk objs' X=some rows:=by cases X with
 |pv p=>cases p<;>first|exact h|(simp[dk]at h)
 |own t=>simp only[dk,q900]at h |-;obtain⟨r,hr,rfl⟩:=h;have:=hs _ _ (lY hr);exact⟨r,by rw[this];rfl,rfl⟩|sub t e lo hi=>simp only[dk,qB]at h |-;obtain⟨r,hr,h⟩:=h;have:=hs _ _ (lY hr);exact⟨r,by rw[this];rfl,h⟩|_=>simp[dk]at h
def wO {aa objs':Nat->Option AO} (h:dk aa X=some rows) (hn:tz un aa X):tz un objs' X:=by cases X with|pv p=>trivial|own t=>exact hn|sub t e lo hi=>exact hn|_=>simp[dk]at h
section
variable{P:Program}{Γ:b7}{d:Option Nat}{e:TypeId}{sz bytes:Nat}{xs:List AV}{aa objs':Nat->Option AO}{ee:bR}
def Nj (h:bf P Γ d (.app e sz bytes) xs aa fun e1=>e1=ee):(∃(t:Nat) (X:AV) (r:TypeId×List (List PV)) (more:List (List PV)),xs.map strip=[.own t,X]/\aa t=some (.arr r.1 r.2)/\dk aa X=some more/\ee=.app t (.arr r.1 (r.2++more)))\/(∃(dd:Nat) (X:AV) (rows:List (List PV)),d=some dd/\xs.map strip=[.pv .nil,X]/\dk aa X=some rows/\aa dd=none/\ee=.new (.own dd) [(dd,.arr e rows)]):=by
 dsimp only[bf]at h;obtain⟨ha,h⟩:=h;generalize xs.map strip=ys at h |-;split at h
 ·rename_i ho;obtain⟨x,hx,hφ,rfl⟩:=af h;rcases ys with _|⟨y,_|⟨X,_|⟨z,l⟩⟩⟩;·simp[rN]at ho
  ·cases y<;>simp[fo]at hx
  ·cases y with
   |own t=>
    simp only[fo,qB]at hx;obtain⟨r,hr,more,hm,hx⟩:=hx;split at hx;·cases hx;rename_i hc;exact .inl ⟨t,X,r,more,rfl,lY hr,hm,by rw[hc.1]⟩
    ·cases hx|_=>simp[rN]at ho
  ·cases y<;>simp[fo]at hx
 ·obtain⟨dd,hd,h⟩:=af h;obtain⟨x,hx,hφ,hn,rfl⟩:=af h;rcases ys with _|⟨y,_|⟨X,_|⟨z,l⟩⟩⟩;·simp[cQ]at hx
  ·cases y with|pv p=>cases p<;>simp[cQ]at hx|_=>simp[cQ]at hx
  ·cases y with
   |pv p=>cases p with|nil=>simp only[cQ,q900]at hx;obtain⟨rows,hr,rfl⟩:=hx;exact .inr ⟨dd,X,rows,hd,rfl,hr,hn,rfl⟩|_=>simp[cQ]at hx
   |_=>simp[cQ]at hx
  ·cases y with|pv p=>cases p<;>simp[cQ]at hx|_=>simp[cQ]at hx
def Nu (hs:∀s o,aa s=some o->objs' s=some o) (hn:∀dd,d=some dd->aa dd=none->objs' dd=none) (h:bf P Γ d (.app e sz bytes) xs aa fun e1=>e1=ee):bf P Γ d (.app e sz bytes) xs objs' fun e1=>e1=ee:=by
 dsimp only[bf]at h |-;obtain⟨ha,h⟩:=h;refine⟨ha,?_⟩;generalize xs.map strip=ys at h |-;split at h
 ·rename_i ho;rw[if_pos ho];obtain⟨x,hx,hφ,he⟩:=af h;have hx':fo (.app e sz bytes) ys objs'=some x:=by
   rcases ys with _|⟨y,_|⟨X,_|⟨z,l⟩⟩⟩;·simp[rN]at ho
   ·cases y<;>simp[fo]at hx
   ·cases y with|own t=>simp only[fo,qB]at hx |-;obtain⟨r,hr,more,hm,hx⟩:=hx;have:=hs _ _ (lY hr);exact⟨r,by rw[this];rfl,more,vq hs hm,hx⟩|_=>simp[rN]at ho
   ·cases y<;>simp[fo]at hx
  rw[hx'];exact⟨hφ,he⟩
 ·rename_i ho;rw[if_neg ho];obtain⟨dd,hd,h⟩:=af h;obtain⟨x,hx,hφ,hnn,he⟩:=af h;rw[hd];show aj (cQ (.app e sz bytes) dd ys objs') _;have hx':cQ (.app e sz bytes) dd ys objs'=some x:=by
   rcases ys with _|⟨y,_|⟨X,_|⟨z,l⟩⟩⟩;·simp[cQ]at hx
   ·cases y with|pv p=>cases p<;>simp[cQ]at hx|_=>simp[cQ]at hx
   ·cases y with
    |pv p=>cases p with|nil=>simp only[cQ,q900]at hx |-;obtain⟨rows,hr,hx⟩:=hx;exact⟨rows,vq hs hr,hx⟩|_=>simp[cQ]at hx
    |_=>simp[cQ]at hx
   ·cases y with|pv p=>cases p<;>simp[cQ]at hx|_=>simp[cQ]at hx
  rw[hx'];exact⟨hφ,hn _ hd hnn,he⟩
def CL  (ht:lB un t) {c:AV} (h:yB un (cq t c)):yB un c:=by cases c with
 |own s=>by_cases e:s=t;·subst e;exact ht
         ·simpa[cq,e]using h
 |bd s _ _ _=>by_cases e:s=t;·subst e;exact ht
              ·simpa[cq,e]using h
 |sub s _ _ _=>by_cases e:s=t;·subst e;exact ht
               ·simpa[cq,e]using h|ptr s o=>exact h|_=>trivial
def qS {un:List Nat}{t:Nat} (ht:lB un t):∀{cs:List AV},jh un (cf t cs)->jh un cs|[],_=>trivial|c::cs,h=>⟨CL ht h.1,qS ht h.2⟩
def tZ (t:Nat):∀(n:Nat) (cs:List AV),(cf t cs).take n=cf t (cs.take n)|0,_=>by simp[cf]|n+1,[]=>by simp[cf]|n+1,c::cs=>by simp[cf,tZ t n cs]
def tA (t:Nat):∀(n:Nat) (cs:List AV),(cf t cs).drop n=cf t (cs.drop n)|0,_=>by simp|n+1,[]=>by simp[cf]|n+1,c::cs=>by simp[cf,tA t n cs]
def qC (t:Nat):∀(ps:List PV),cf t (ps.map AV.pv)=ps.map .pv|[]=>rfl|p::ps=>by simp only[q74,cf,qC t ps];rfl
def Aa (t:Nat):∀(zs:List Value),cf t (zs.map cv)=zs.map cv|[]=>rfl|z::zs=>by simp only[q74,cf,Aa t zs];congr 1;unfold cv;split<;>rfl
def wE {s o:Nat} (h:kill t X=.ptr s o):X=.ptr s o:=by cases X with|ptr s' o'=>exact h|own s=>have h:(if s=t then AV.ak else .own s)=.ptr _ _:=h;split at h<;>cases h|bd s e i o=>have h:(if s=t then AV.ak else .bd s e i o)=.ptr _ _:=h;split at h<;>cases h|sub s e i o=>have h:(if s=t then AV.ak else .sub s e i o)=.ptr _ _:=h;split at h<;>cases h|bI f cs=>cases cs<;>cases h|_=>cases h
def sK {s o:Nat}{e:TypeId}{i:Int} (h:kill t X=.bd s e i o):X=.bd s e i o/\s≠t:=by cases X with
 |bd s' e' i' o'=>
  have h:(if s'=t then AV.ak else .bd s' e' i' o')=.bd _ _ _ _:=h;split at h;·cases h
  ·rename_i hne;cases h;exact⟨rfl,hne⟩|own s=>have h:(if s=t then AV.ak else .own s)=.bd _ _ _ _:=h;split at h<;>cases h|sub s e i o=>have h:(if s=t then AV.ak else .sub s e i o)=.bd _ _ _ _:=h;split at h<;>cases h|bI f cs=>cases cs<;>cases h|_=>cases h
def AH {cs:List PV} (h:kill t X=.rp cs):X=.rp cs:=by cases X with|rp cs'=>exact h|own s=>have h:(if s=t then AV.ak else .own s)=.rp _:=h;split at h<;>cases h|bd s e i o=>have h:(if s=t then AV.ak else .bd s e i o)=.rp _:=h;split at h<;>cases h|sub s e i o=>have h:(if s=t then AV.ak else .sub s e i o)=.rp _:=h;split at h<;>cases h|bI f cs=>cases cs<;>cases h|_=>cases h
def I5 {k:AK} (hk:AD k=true) {ys:List AV}{aa:Nat->Option AO}{r:Prop×AV} (h:al k ys aa=some r):∃X,ys=[X]/\((∃s o,X=.ptr s o)\/(∃s e i o,X=.bd s e i o)\/∃cs,X=.rp cs):=by cases k with
 |load n=>
  rcases ys with _|⟨y,_|⟨z,l⟩⟩;·cases n<;>simp[al]at h
  ·cases y with|ptr s o=>exact⟨_,rfl,.inl ⟨s,o,rfl⟩⟩|bd s e i o=>exact⟨_,rfl,.inr (.inl ⟨s,e,i,o,rfl⟩)⟩|rp cs=>exact⟨_,rfl,.inr (.inr ⟨cs,rfl⟩)⟩|_=>cases n<;>simp[al]at h
  ·cases n<;>cases y<;>simp[al]at h|uV off=>
  rcases ys with _|⟨y,_|⟨z,l⟩⟩;·simp[al]at h
  ·cases y with|ptr s o=>exact⟨_,rfl,.inl ⟨s,o,rfl⟩⟩|bd s e i o=>exact⟨_,rfl,.inr (.inl ⟨s,e,i,o,rfl⟩)⟩|rp cs=>exact⟨_,rfl,.inr (.inr ⟨cs,rfl⟩)⟩|_=>simp[al]at h
  ·cases y<;>simp[al]at h|_=>simp[AD]at hk
def GY {k:AK} (hk:AD k=true) {e:TypeId}{rows rows':List (List PV)} (hob:aa t=some (.arr e rows)) {φ:Prop} (h:al k [kill t X] (ba t (.arr e rows') (dU t aa))=some (φ,v)):∃u,al k [X] aa=some (φ,u)/\v=kill t u:=by
 obtain⟨Y,hY,hc⟩:=I5 hk h;simp only[q112,and_true]at hY;have hbox:∀s cs,fT (ba t (.arr e rows') (dU t aa) s)=some cs->∃cs0,fT (aa s)=some cs0/\cs=cf t cs0:=by
  intro s cs hb;unfold ba at hb;split at hb;·cases hb
  ·unfold dU at hb;cases ho:aa s with|none=>rw[ho]at hb;cases hb|some q=>rw[ho]at hb;cases q with|box cs0=>cases hb;exact⟨cs0,rfl,rfl⟩|arr e rows=>cases hb|map es=>cases hb|rws e cs=>cases hb|kk es=>cases hb|yJ rem cur=>cases hb
 have harr:∀s,s≠t->dx (ba t (.arr e rows') (dU t aa) s)=dx (aa s):=by intro s hs;unfold ba dU;rw[if_neg hs];cases ho:aa s with|none=>rfl|some q=>cases q<;>rfl
 have hboxa:∀s,s≠t->True:=fun _ _=>trivial;rcases hc with⟨s,o,rfl⟩|⟨s,e',i,o,rfl⟩|⟨cs,rfl⟩;·cases wE hY;rw[hY]at h;cases k with
  |load n=>cases n with
   |none=>
    simp only[al,qB]at h |-;obtain⟨cs,hcs,c,hcc,h⟩:=h;obtain⟨cs0,hcs0,rfl⟩:=hbox _ _ hcs;rw[gb]at hcc;obtain⟨c0,hc0,rfl⟩:=q900.1 hcc;split at h
    ·rename_i hkc;cases h;by_cases hcell:nB c0=true;·refine⟨c0,⟨cs0,hcs0,c0,hc0,by rw[if_pos hcell]⟩,?_⟩;cases c0<;>first|rfl|(simp[nB]at hcell)
     ·exfalso;cases c0<;>first|(exact hcell rfl)|(simp[cq,nB]at hkc)
    ·cases h|some n=>
    simp only[al,qB]at h |-;obtain⟨cs,hcs,h⟩:=h;obtain⟨cs0,hcs0,rfl⟩:=hbox _ _ hcs;split at h;·rename_i hle;cases h;refine⟨_,⟨cs0,hcs0,by rw[if_pos (by simpa[eO]using hle)]⟩,?_⟩;show AV.agg _=AV.agg _;rw[tA,tZ]
    ·cases h
  |uV off=>cases h;exact⟨_,rfl,rfl⟩|_=>simp[AD]at hk
 ·obtain⟨rfl,hst⟩:=sK hY;rw[hY]at h;cases k with
  |load n=>cases n with
   |none=>
    have h:nR e' i o (ba t (.arr e rows') (dU t aa) s)=some (φ,v):=h;show∃u,nR e' i o (aa s)=some (φ,u)/\v=kill t u;have he:ba t (.arr e rows') (dU t aa) s=(aa s).map (eM t):=by unfold ba dU;rw[if_neg hst]
    rw[he]at h;cases hos:aa s with|none=>rw[hos]at h;cases h|some q=>rw[hos]at h;cases q with
     |box cs=>cases h|map es=>cases h|kk es=>cases h|yJ r c=>cases h|arr e1 rows1=>
      have h:nR e' i o (some (.arr e1 rows1))=some (φ,v):=h;unfold nR at h |-;simp only at h |-;split at h;·cases h;exact⟨_,by rw[if_pos ‹_›],rfl⟩
      ·cases h|rws e1 cs=>
      have h:nR e' i o (some (.rws e1 (cf t cs)))=some (φ,v):=h;unfold nR at h |-;simp only at h |-;split at h;rotate_left;·cases h
      rename_i h1;obtain⟨c,hc,h⟩:=qB.1 h;rw[gb]at hc;obtain⟨c0,hc0,rfl⟩:=q900.1 hc;rw[if_pos h1,hc0];split at h
      ·rename_i hkc;cases h;by_cases hcell:nB c0=true;·refine⟨c0,by simp only[q131];rw[if_pos hcell],?_⟩;cases c0<;>first|rfl|(simp[nB]at hcell)
       ·exfalso;cases c0<;>first|(exact hcell rfl)|(simp[cq,nB]at hkc)
      ·cases h
   |some n=>
    simp only[al,harr s hst]at h |-;obtain⟨r,hr,h⟩:=qB.1 h;split at h;·rename_i h1;cases h;refine⟨_,by rw[hr];simp only[q131];rw[if_pos h1],?_⟩;show AV.agg _=AV.agg _;rw[qC]
    ·cases h
  |uV off=>cases h;refine⟨_,rfl,?_⟩;show AV.bd _ _ _ _=(if s=t then AV.ak else .bd _ _ _ _);rw[if_neg hst]|_=>simp[AD]at hk
 ·cases AH hY;rw[hY]at h;cases k with
  |load n=>cases n with
   |none=>cases cs with|nil=>cases h;exact⟨_,rfl,rfl⟩|cons c cs=>cases h;exact⟨_,rfl,rfl⟩
   |some n=>
    simp only[al]at h |-;split at h;·rename_i h1;cases h;refine⟨_,by rw[if_pos h1],?_⟩;show AV.agg _=AV.agg _;rw[qC]
    ·cases h
  |uV off=>cases h;exact⟨_,rfl,rfl⟩|_=>simp[AD]at hk
end
structure FL (x y:AI):Prop where
 app:∃e sz b,x.k=.app e sz b
 xg:x.g=none
 yg:y.g=none
 yt:y.tg=none
 ds:∃d d',x.d=some d/\y.d=some d'/\d∉dr y/\d'∉dr x/\d≠d'/\d<1000/\d'<1000
 kd:(∃zs,y.k=.alloc zs/\y.xs=[])\/(AD y.k=true/\(∀d,x.d=some d->y.un.contains d=true)/\∀t,y.un.contains t=true->x.un.contains (t+1000)=true)
def DF {x y:AI} (h:EJ x y=true):FL x y:=by
 unfold EJ at h;simp only[q71]at h;obtain⟨⟨⟨⟨h1,h2⟩,h3⟩,h4⟩,h5⟩:=h;split at h5
 ·rename_i d d' hd hd';simp only[q71,q125,q250,decide_eq_false_iff_not,bne_iff_ne,decide_eq_true_eq,q132]at h5;obtain⟨⟨⟨⟨⟨g1,g2⟩,g3⟩,g4⟩,g5⟩,g6⟩:=h5;refine⟨?_,by simpa using h2,by simpa using h3,by simpa using h4,⟨d,d',hd,hd',g1,g2,g3,g4,g5⟩,?_⟩;·cases hk:x.k with|app e sz b=>exact⟨_,_,_,rfl⟩|_=>rw[hk]at h1;cases h1
  ·rcases g6 with⟨g6,g7⟩|⟨⟨g6,g7⟩,g8⟩;·refine .inl ?_;cases hk:y.k with|alloc zs=>exact⟨zs,rfl,by simpa using g7⟩|_=>rw[hk]at g6;cases g6
   ·refine .inr ⟨g6,fun d0 h0=>?_,fun t ht=>?_⟩;·rw[hd]at h0;cases h0;simpa using g7
    ·have:=(q85.1 g8) t (by simpa using ht);simpa using this
 ·cases h5
def sn {d:Option Nat}{o:AO}{st:St}:(bR.app t o).on d st=⟨Ab.put d (.own t) (cO t st.vars),ba t o (dU t st.aa)⟩:=rfl
def kJ {d:Option Nat}{os:List (Nat×AO)}{st:St}:(bR.new v os).on d st=⟨Ab.put d v st.vars,bK os st.aa⟩:=rfl
section
variable{P:Program}{Γ:b7}{x y:AI}{st:St}{e e':bR}
def Yi.LF {vars vars':Nat->AV}{aa:Nat->Option AO} (hvs:∀s∈dr y,vars s=vars' s) (h:Yi P Γ y ⟨vars,aa⟩ e):Yi P Γ y ⟨vars',aa⟩ e:=by have hev:y.xs.map (Ab.ev vars)=y.xs.map (Ab.ev vars'):=ia fun s hs=>hvs s (q104 _ hs);obtain⟨h1,h2,h3⟩:=h;simp only at h1 h2;exact⟨by simp only[<-hev];exact h1,eN hvs h2,h3⟩
def swapA (hap:FL x y) (hx:Yi P Γ x st e) (hy:Yi P Γ y (e.on x.d st) e'):∃e1 e2,Yi P Γ y st e1/\Yi P Γ x (e1.on y.d st) e2/\e2.on x.d (e1.on y.d st)=e'.on y.d (e.on x.d st):=by
 obtain⟨ea,sz,b,hxk⟩:=hap.app;obtain⟨d,d',hd,hd',hu1,hu2,hdd,hlt,hlt'⟩:=hap.ds;have hcd:∀s,x.d=some s->y.d≠some s:=fun s h1 h2=>hdd (by rw[hd]at h1;rw[hd']at h2;cases h1;cases h2;rfl);have hvx:∀(v:AV) (f:Nat->AV),∀s∈dr y,Ab.put x.d v f s=f s:=fun v f s hs=>rP fun h=>hu1 (by rw[hd]at h;cases h;exact hs);have hvy:∀(v:AV) (f:Nat->AV),∀s∈dr x,Ab.put y.d v f s=f s:=fun v f s hs=>rP fun h=>hu2 (by rw[hd']at h;cases h;exact hs);have hxs:bf P Γ x.d (.app ea sz b) (x.xs.map (Ab.ev st.vars)) st.aa fun e1=>e1=e:=by have:=hx.2.1;unfold eA at this;rw[hap.xg,hxk]at this;exact this
 have hinv:=Nj hxs;rcases hap.kd with⟨zs,hyk,hyx⟩|⟨hyk,hun1,hun2⟩;·
  have hys:aj y.d fun d=>aw []/\aj (cQ (.alloc zs) d [] (e.on x.d st).aa) fun r=>r.1/\(e.on x.d st).aa d=none/\bR.new r.2.1 [(d,r.2.2)]=e':=by have:=hy.2.1;unfold eA at this;rw[hap.yg,hyk,hyx]at this;exact this
  rw[hd']at hys;obtain⟨_,hys⟩:=hys;obtain⟨r,hr,hφ,hn,rfl⟩:=af hys;have hr0:r=(True,.ptr d' 0,.box (zs.map cv))/\zs.all (·.oneCell')=true:=by
   simp only[cQ]at hr;split at hr;·rename_i hz;cases hr;exact⟨rfl,hz⟩
   ·cases hr
  obtain⟨rfl,hz⟩:=hr0;have hn0:st.aa d'=none:=by
   rcases hinv with⟨t,X,r,more,_,_,_,rfl⟩|⟨dd,X,rows,h1,_,_,_,rfl⟩
   ·rw[sn]at hn;simp only[ba]at hn;split at hn;·cases hn
    ·simpa[dU]using hn
   ·rw[kJ,cT]at hn;simp only[ba]at hn;split at hn;·cases hn
    ·exact hn
  have hyi:Yi P Γ y st (.new (.ptr d' 0) [(d',.box (zs.map cv))]):=by
   refine⟨?_,?_,hy.2.2⟩;·rw[hyx];exact .inr trivial
   ·unfold eA;rw[hap.yg,hyk,hyx,hd'];exact⟨trivial,by show aj (cQ (.alloc zs) d' [] st.aa) _;rw[show cQ (.alloc zs) d' [] st.aa=some (True,.ptr d' 0,.box (zs.map cv)) from by simp only[cQ];rw[if_pos hz]];exact⟨trivial,hn0,rfl⟩⟩
  have hsub:∀s o,st.aa s=some o->bK [(d',.box (zs.map cv))] st.aa s=some o:=by
   intro s o hs;rw[cT];simp only[ba];split;·rename_i h;subst h;rw[hn0]at hs;cases hs
   ·exact hs
  have hxi:Yi P Γ x ((bR.new (.ptr d' 0) [(d',.box (zs.map cv))]).on y.d st) e:=by
   refine Yi.LF (vars:=st.vars) (fun s hs=>(hvy _ _ s hs).symm) ⟨?_,?_,hx.2.2⟩
   ·refine hx.1.imp id fun hm=>?_;rcases hinv with⟨t,X,r,more,h1,_,h3,_⟩|⟨dd,X,rows,_,h1,h3,_,_⟩;·rw[h1]at hm |-;exact⟨hm.1,wO h3 hm.2.1,trivial⟩
    ·rw[h1]at hm |-;exact⟨trivial,wO h3 hm.2.1,trivial⟩
   ·unfold eA;rw[hap.xg,hxk];refine Nu hsub (fun dd h1 h2=>?_) hxs;rw[cT];simp only[ba];rw[hd]at h1;cases h1;rw[if_neg hdd];exact h2
  refine⟨_,_,hyi,hxi,?_⟩;rcases hinv with⟨t,X,r,more,_,hob,_,rfl⟩|⟨dd,X,rows,_,_,_,_,rfl⟩
  ·have htd:d'≠t:=fun h=>by subst h;rw[hn0]at hob;cases hob
   rw[sn,kJ,sn,kJ];refine St.ext' ?_ ?_;·show Ab.put x.d (.own t) (cO t (Ab.put y.d (.ptr d' 0) st.vars))=Ab.put y.d (.ptr d' 0) (Ab.put x.d (.own t) (cO t st.vars));rw[rM];exact put_comm hcd
   ·show ba t _ (dU t (bK [(d',.box (zs.map cv))] st.aa))=bK [(d',.box (zs.map cv))] (ba t _ (dU t st.aa));rw[cT,cT];funext s;simp only[ba,dU];by_cases h1:s=t;·subst h1;rw[if_pos rfl,if_neg (q260 htd),if_pos rfl]
    ·rw[if_neg h1];by_cases h2:s=d';·subst h2;rw[if_pos rfl,if_pos rfl];simp[eM,Aa]
     ·rw[if_neg h2,if_neg h2,if_neg h1]
  ·rw[kJ,kJ,kJ,kJ];refine St.ext' (put_comm hcd) ?_;show bK [(dd,_)] (bK [(d',_)] st.aa)=bK [(d',_)] (bK [(dd,_)] st.aa);rename_i h1 _ _ _;rw[hd]at h1;cases h1;rw[cT,cT,cT,cT];funext s;simp only[ba];by_cases h1:s=d;·subst h1;rw[if_pos rfl,if_neg hdd,if_pos rfl]
   ·by_cases h2:s=d';·subst h2;rw[if_neg h1,if_pos rfl,if_pos rfl]
    ·rw[if_neg h1,if_neg h2,if_neg h2,if_neg h1]
 ·have hun0:y.un≠[]:=fun h=>by have:=hun1 d hd;rw[h]at this;simp at this
  have hny:=hy.1.resolve_left hun0;have hys:aw (y.xs.map (Ab.ev (e.on x.d st).vars))/\aj (al y.k ((y.xs.map (Ab.ev (e.on x.d st).vars)).map strip) (e.on x.d st).aa) fun r=>r.1/\bR.put r.2=e':=by have:=hy.2.1;unfold eA at this;rw[hap.yg]at this;cases hk:y.k with|load n=>rw[hk]at this;exact this|uV off=>rw[hk]at this;exact this|_=>rw[hk]at hyk;cases hyk
  obtain⟨has,hys⟩:=hys;obtain⟨r,hr,hφ,rfl⟩:=af hys;have hmk:∀{aa:Nat->Option AO}{vars:Nat->AV}{φ:Prop}{v:AV},aw (y.xs.map (Ab.ev vars))->al y.k ((y.xs.map (Ab.ev vars)).map strip) aa=some (φ,v)->φ->eA P Γ y vars aa fun e1=>e1=.put v:=by intro aa vars φ v h1 h2 h3;unfold eA;rw[hap.yg];cases hk:y.k with|load n=>rw[hk]at h2;exact⟨h1,by rw[h2];exact⟨h3,rfl⟩⟩|uV off=>rw[hk]at h2;exact⟨h1,by rw[h2];exact⟨h3,rfl⟩⟩|_=>rw[hk]at hyk;cases hyk
  have htg:∀v,Ed y.un y.tg (.put v):=fun v=>by rw[hap.yt];exact And.intro trivial trivial
  obtain⟨X1,hX1,hcase⟩:=I5 hyk hr;rcases hinv with⟨t,X,rr,more,hargs,hob,_,rfl⟩|⟨dd,X,rows,h1,_,_,hnone,rfl⟩
  ·rw[sn]at hr has hny hX1;simp only at hr has hny hX1;have hev:y.xs.map (Ab.ev (Ab.put x.d (.own t) (cO t st.vars)))=(y.xs.map (Ab.ev st.vars)).map (kill t):=by rw[ia (vars:=Ab.put x.d (.own t) (cO t st.vars)) (vars':=cO t st.vars) fun s hs=>hvx _ _ s (q104 _ hs),nn]
   rw[hev]at hr has hny hX1;rw[mo]at has;obtain⟨A,hA⟩:∃A,y.xs.map (Ab.ev st.vars)=[A]:=by
    have:((y.xs.map (Ab.ev st.vars)).map (kill t)).length=1:=by have:=congrArg List.length hX1;simpa using this
    simp only[List.length_map]at this;obtain⟨z,hz⟩:=q208.1 this;exact⟨Ab.ev st.vars z,by rw[hz];rfl⟩
   rw[hA]at hr has hny hX1;simp only[q74,q119,lU,q112,and_true]at hr hny hX1;obtain⟨u,hu,hvu⟩:=GY hyk (rows:=rr.2) (rows':=rr.2++more) hob hr;have htu:lB y.un t:=by have h0:x.un.contains (t%1000+1000)=false:=hx.2.2.2;unfold lB;cases hc:y.un.contains (t%1000) with|false=>rfl|true=>rw[hun2 _ hc]at h0;cases h0
   have hyi:Yi P Γ y st (.put u):=by
    refine⟨.inr ?_,hmk (by rw[hA];exact has) (by rw[hA];exact hu) hφ,htg _⟩;rw[hA];refine⟨?_,trivial⟩;have hn1:=hny.1;rcases hcase with⟨s,o,rfl⟩|⟨s,e1,i,o,rfl⟩|⟨cs,rfl⟩
    ·have h9:=wE hX1;show tz y.un st.aa (strip A);rw[h9];rw[hX1]at hn1;refine⟨hn1.1,?_⟩;have h8:=hn1.2;unfold ba at h8;by_cases hst:s=t;·subst hst;rw[hob];trivial
     ·rw[if_neg hst]at h8;unfold dU at h8;cases hos:st.aa s with|none=>trivial|some q=>rw[hos]at h8;cases q with|box cs=>exact qS htu h8|arr e rows=>trivial|map es=>trivial|rws e cs=>trivial|kk es=>trivial|yJ rem cur=>trivial
    ·have h9:=(sK hX1).1;show tz y.un st.aa (strip A);rw[h9];rw[hX1]at hn1;exact hn1
    ·have h9:=AH hX1;show tz y.un st.aa (strip A);rw[h9];trivial
   refine⟨_,_,hyi,Yi.LF (vars:=st.vars) (fun s hs=>(hvy _ _ s hs).symm) hx,?_⟩;rw[sn];refine St.ext' ?_ rfl;show Ab.put x.d (.own t) (cO t (Ab.put y.d u st.vars))=Ab.put y.d r.2 (Ab.put x.d (.own t) (cO t st.vars));rw[rM,hvu];exact put_comm hcd
  ·rw[hd]at h1;cases h1;rw[kJ]at hr has hny hX1;simp only at hr has hny hX1;have hev:y.xs.map (Ab.ev (Ab.put x.d (.own d) st.vars))=y.xs.map (Ab.ev st.vars):=ia fun s hs=>hvx _ _ s (q104 _ hs);rw[hev]at hr has hny hX1;rw[hX1]at hr hny;have hnd:¬lB y.un d:=fun h=>by unfold lB at h;rw[q109 hlt,hun1 d hd]at h;cases h
   have hsame:∀s,lB y.un s->bK [(d,AO.arr ea rows)] st.aa s=st.aa s:=by intro s hs;rw[cT];simp only[ba];rw[if_neg (fun h:s=d=>hnd (by rw[<-h];exact hs))]
   have hgo:al y.k [X1] st.aa=some r/\tz y.un st.aa X1:=by
    have hn1:=hny.1;rcases hcase with⟨s,o,rfl⟩|⟨s,e1,i,o,rfl⟩|⟨cs,rfl⟩
    ·have hs:=hsame s hn1.1;refine⟨?_,?_⟩;·cases hk:y.k with|load n=>rw[hk]at hr;cases n<;>(simp only[al,hs]at hr |-;exact hr)|uV off=>rw[hk]at hr;exact hr|_=>rw[hk]at hyk;cases hyk
     ·have:=hn1.2;rw[hs]at this;exact⟨hn1.1,this⟩
    ·have hs:=hsame s hn1;refine⟨?_,hn1⟩;cases hk:y.k with|load n=>rw[hk]at hr;cases n<;>(simp only[al,hs]at hr |-;exact hr)|uV off=>rw[hk]at hr;exact hr|_=>rw[hk]at hyk;cases hyk
    ·refine⟨?_,trivial⟩;cases hk:y.k with|load n=>rw[hk]at hr;cases n<;>cases cs<;>exact hr|uV off=>rw[hk]at hr;exact hr|_=>rw[hk]at hyk;cases hyk
   have hyi:Yi P Γ y st (.put r.2):=⟨.inr (by rw[hX1];exact⟨hgo.2,trivial⟩),hmk has (by rw[hX1];exact hgo.1) hφ,htg _⟩;refine⟨_,_,hyi,Yi.LF (vars:=st.vars) (fun s hs=>(hvy _ _ s hs).symm) hx,?_⟩;rw[kJ];exact St.ext' (put_comm hcd) rfl
end
def Apt (x y:AI):Prop:=GG x y\/FL x y
def CV {x y:AI} (h:vN x y=true):Apt x y:=by
 unfold vN at h;rcases Bool.or_eq_true_iff.1 h with h|h;·exact .inl (apart_spec h)
 ·exact .inr (DF h)
section
variable{P:Program}{Γ:b7}{x y:AI}{st:St}{e e':bR}
def Yi.vars {vars vars':Nat->AV}{aa:Nat->Option AO} (hvs:∀s∈dr y,vars s=vars' s) (h:Yi P Γ y ⟨vars,aa⟩ e):Yi P Γ y ⟨vars',aa⟩ e:=by have hev:y.xs.map (Ab.ev vars)=y.xs.map (Ab.ev vars'):=ia fun s hs=>hvs s (q104 _ hs);obtain⟨h1,h2,h3⟩:=h;simp only at h1 h2;exact⟨by simp only[<-hev];exact h1,eN hvs h2,h3⟩
def At (e:bR):plain e\/∃t o,e=.app t o:=by cases e<;>first|exact .inl trivial|exact .inr ⟨_,_,rfl⟩
def qX.plain {i:AI} (h:qX i e) (ha:isApp i.k=false):plain e:=by
 rcases At e with hp|⟨t,o,rfl⟩;·exact hp
 ·rcases h with⟨v,h⟩|⟨_,_,_,_,_,h,_⟩|⟨_,_,_,_,h⟩|⟨h,_⟩;·cases h
  ·cases h
  ·cases h
  ·rw[ha]at h;cases h
def za {i:AI}{o:AO} (h:qX i (.app t o)):isApp i.k=true:=by
 rcases h with⟨v,h⟩|⟨_,_,_,_,_,h,_⟩|⟨_,_,_,_,h⟩|⟨h,_⟩;·cases h
 ·cases h
 ·cases h
 ·exact h
def E9 (hap:GG x y) (hx:aO x.k=false) (hy:aO y.k=false):∀t,(cw x).contains t=true->(cw y).contains t=true->False:=by
 intro t h1 h2;have hb:=hap.both;unfold cw at h1 h2;split at h1
 ·have hxd:x.d=some t:=by cases h:x.d<;>rw[h]at h1<;>simp_all
  obtain⟨_,a2,a3,_⟩:=hap.xd t hxd;split at h2;·exact a2 (by cases h:y.d<;>rw[h]at h2<;>simp_all)
  ·split at h2;·exact a3 (by cases h:y.tg<;>rw[h]at h2<;>simp_all)
   ·simp at h2
 ·split at h1
  ·rename_i hw;have hxt:x.tg=some t:=by cases h:x.tg<;>rw[h]at h1<;>simp_all
   split at h2
   ·have hyd:y.d=some t:=by cases h:y.d<;>rw[h]at h2<;>simp_all
    exact(hap.yd t hyd).2.1 hxt
   ·split at h2
    ·rename_i hw2;have hyt:y.tg=some t:=by cases h:y.tg<;>rw[h]at h2<;>simp_all
     rcases hb with h|h|h|h|h;·rw[hx]at h;cases h
     ·rw[hy]at h;cases h
     ·rw[hw]at h;cases h
     ·rw[hw2]at h;cases h
     ·exact h (hxt.trans hyt.symm)
    ·simp at h2
  ·simp at h1
def swap (hap:GG x y) (hx:Yi P Γ x st e) (hy:Yi P Γ y (e.on x.d st) e'):∃e1 e2,Yi P Γ y st e1/\Yi P Γ x (e1.on y.d st) e2/\e2.on x.d (e1.on y.d st)=e'.on y.d (e.on x.d st):=by
 have hex:=CZ hx.2.1;have hey:=CZ hy.2.1;have hux:∀d,x.d=some d->d∉dr y:=fun d hd=>(hap.xd d hd).1;have huy:∀d,y.d=some d->d∉dr x:=fun d hd=>(hap.yd d hd).1;have hcd:∀s,x.d=some s->y.d≠some s:=fun d hd=>(hap.xd d hd).2.1;have hvx:∀(v:AV) (f:Nat->AV),∀s∈dr y,Ab.put x.d v f s=f s:=fun v f s hs=>rP fun hd=>hux s hd hs;have hvy:∀(v:AV) (f:Nat->AV),∀s∈dr x,Ab.put y.d v f s=f s:=fun v f s hs=>rP fun hd=>huy s hd hs;have hydd:∀d,y.d=some d->x.d≠some d/\x.tg≠some d/\d<1000:=fun d hd=>⟨fun h=>hcd d h hd,(hap.yd d hd).2.1,(hap.yd d hd).2.2⟩;have hxdd:∀d,x.d=some d->y.d≠some d/\y.tg≠some d/\d<1000:=fun d hd=>⟨(hap.xd d hd).2.1,(hap.xd d hd).2.2.1,(hap.xd d hd).2.2.2⟩;have hagx:∀T,(∀t,lB T t->lB (cw x) t)->(isApp x.k=false/\(writes x.k=true->∃s,x.tg=some s)/\∀t∈cw x,t<1000)->∀t,lB T t->qc (ov e) st.aa t=st.aa t:=fun T hT h t ht=>(xT hex hx.2.2.1 h.2.2 hT h.2.1 h.1 t ht).symm;have hagy:∀T,(∀t,lB T t->lB (cw y) t)->(isApp y.k=false/\(writes y.k=true->∃s,y.tg=some s)/\∀t∈cw y,t<1000)->∀t,lB T t->qc (ov e') st.aa t=st.aa t:=fun T hT h t ht=>(xT hey hy.2.2.1 h.2.2 hT h.2.1 h.1 t ht).symm;by_cases hxa:aO x.k=true;·
  obtain⟨⟨v,rfl⟩,hxo⟩:=ey hxa hx.2.1;have hy0:Yi P Γ y st e':=Yi.vars (hvx v st.vars) hy;have htg:x.tg=none:=by have:=hx.2.2.1;cases h:x.tg with|none=>rfl|some s=>rw[h]at this;exact this.elim
  rcases At e' with hp|⟨t,o,rfl⟩
  ·refine⟨e',.put v,hy0,?_,?_⟩;·rw[eJ hp];exact(Yi.Ba hap.xa (.inl hxa) hxdd huy hagy).2 hx
   ·rw[eJ hp,eJ hp];exact St.ext' (put_comm hcd) rfl
  ·have hun:x.un=[]:=by
    rcases hap.xa with h|h;·exact h.2
    ·have:=za hey;rw[h.1]at this;cases this
   obtain⟨u,hu,hk⟩:=wc hxa hx.2.1;cases hu;refine⟨.app t o,.put (kill t v),hy0,⟨.inl hun,eN (fun s hs=>(hvy _ _ s hs).symm) (hk t _),by rw[htg];exact And.intro trivial trivial⟩,?_⟩;refine St.ext' ?_ rfl;show Ab.put x.d (kill t v) (Ab.put y.d (.own t) (cO t st.vars))=Ab.put y.d (.own t) (cO t (Ab.put x.d v st.vars));rw[rM];exact put_comm hcd
 ·have hxa':aO x.k=false:=by simpa using hxa
  have hyr:isApp y.k=false/\(writes y.k=true->∃s,y.tg=some s)/\∀t∈cw y,t<1000/\x.un.contains t=true:=by
   rcases hap.xa with h|h;·exact absurd h.1 hxa
   ·exact h
  have hpy:plain e':=hey.plain hyr.1;by_cases hya:aO y.k=true
  ·obtain⟨⟨v,rfl⟩,hyo⟩:=ey hya hy.2.1;rcases At e with hp|⟨t,o,rfl⟩
   ·have hy0:Yi P Γ y st (.put v):=by rw[eJ hp]at hy;exact(Yi.Ba hap.ya (.inl hya) hydd hux hagx).1 hy
    refine⟨.put v,e,hy0,Yi.vars (fun s hs=>(hvy _ _ s hs).symm) hx,?_⟩;rw[eJ hp,eJ hp];exact St.ext' (put_comm hcd) rfl
   ·have hun:y.un=[]:=by
     rcases hap.ya with h|h;·exact h.2
     ·have:=za hex;rw[h.1]at this;cases this
    have htg:y.tg=none:=by have:=hy.2.2.1;cases h:y.tg with|none=>rfl|some s=>rw[h]at this;exact this.elim
    have hk:=eN (vars':=cO t st.vars) (hvx _ _) hy.2.1;obtain⟨u,hu,hk'⟩:=ss hya hk;cases hu;refine⟨.put u,.app t o,⟨.inl hun,hk' _,by rw[htg];exact And.intro trivial trivial⟩,Yi.vars (fun s hs=>(hvy _ _ s hs).symm) hx,?_⟩;refine St.ext' ?_ rfl;show Ab.put x.d (.own t) (cO t (Ab.put y.d u st.vars))=Ab.put y.d (kill t u) (Ab.put x.d (.own t) (cO t st.vars));rw[rM];exact put_comm hcd
  ·have hya':aO y.k=false:=by simpa using hya
   have hxr:isApp x.k=false/\(writes x.k=true->∃s,x.tg=some s)/\∀t∈cw x,t<1000/\y.un.contains t=true:=by
    rcases hap.ya with h|h;·exact absurd h.1 hya
    ·exact h
   have hpx:plain e:=hex.plain hxr.1;have hy0:Yi P Γ y st e':=by rw[eJ hpx]at hy;exact(Yi.Ba hap.ya (.inr hyr.1) hydd hux hagx).1 hy
   refine⟨e',e,hy0,?_,?_⟩;·rw[eJ hpy];exact(Yi.Ba hap.xa (.inr hxr.1) hxdd huy hagy).2 hx
   ·rw[eJ hpx,eJ hpy,eJ hpx,eJ hpy];refine St.ext' (put_comm hcd) (II fun t=>?_);cases h1:ov e t with|none=>exact .inl rfl|some o1=>cases h2:ov e' t with|none=>exact .inr rfl|some o2=>
     refine(E9 hap hxa' hya' (t%1000) ?_ ?_).elim;·exact Bg hex hx.2.2.1 (fun t ht=>(hxr.2.2 t ht).1) hxr.2.1 hxr.1 (by rw[h1];simp)
     ·exact Bg hey hy.2.2.1 (fun t ht=>(hyr.2.2 t ht).1) hyr.2.1 hyr.1 (by rw[h2];simp)
def swapT (hap:Apt x y) (hx:Yi P Γ x st e) (hy:Yi P Γ y (e.on x.d st) e'):∃e1 e2,Yi P Γ y st e1/\Yi P Γ x (e1.on y.d st) e2/\e2.on x.d (e1.on y.d st)=e'.on y.d (e.on x.d st):=hap.elim (fun h=>swap h hx hy) fun h=>swapA h hx hy
end
section
variable{P:Program}{Γ:b7}{ops:Array Oper}{is:Array AI}
def vM {i:AI}{K K':St->Prop}{st:St} (h:∀st,K st->K' st) (hh:dz P Γ i K st):dz P Γ i K' st:=by rw[cM]at hh |-;obtain⟨e,he,hK⟩:=hh;exact⟨e,he,h _ hK⟩
def sU (ops:Array Oper) (listed:Array Bool):Prop:=∀j o,ops[j]?=some o->listed.getD j false=true->∀e∈o.after,Region.binds .any e=true->listed.getD e.on false=true
def sU.set  (h:sU ops listed) (hi:i∈Region.ready .any ops listed):sU ops (listed.setIfInBounds i true):=by
 intro j o hj hl e he hb;obtain⟨h0,o',ho',hall⟩:=mem_ready.1 hi;by_cases hij:i=j;·subst hij;rw[hj]at ho';cases ho';exact getD_set_true (hall e he hb)
 ·rw[getD_set_ne false hij]at hl;exact getD_set_true (h j o hj hl e he hb)
def chain (hch:∀j,j<n->∀i,i<j->og ops i j=true) (hc:sU ops listed) :∀j,j<n->i<j->bits ops i j=true->(∃o,ops[j]?=some o/\∀e∈o.after,Region.binds .any e=true->listed.getD e.on false=true)->listed.getD i false=true:=by intro j;induction j using Nat.strongRecOn with|_ j ih=>
 rintro hjn hij hb ⟨o,ho,hall⟩;have h:=hch j hjn i hij;unfold og at h;rw[hb,ho]at h;simp only[q305,q266]at h;obtain⟨e,he,h⟩:=q133.1 h;replace he:=q251.1 he;simp only[q71,q132,beq_iff_eq,decide_eq_true_eq]at h;obtain⟨hbe,h⟩:=h;have hl:=hall e he hbe;rcases h with rfl|⟨⟨h1,h2⟩,h3⟩;·exact hl
 ·cases hk:ops[e.on]? with|none=>
   exfalso;rw[Kc]at h3;have hlt:¬e.on<ops.size:=by intro hlt;rw[q136 hlt]at hk;cases hk
   have hjlt:j<ops.size:=(q67.1 ho).1;omega|some o'=>exact ih e.on h2 (by omega) h1 h3 ⟨o',hk,fun e' he' hb'=>hc e.on o' hk hl e' he' hb'⟩
def ff (n k:Nat):Array Bool:=((List.range n).map fun j=>decide (j<k)).toArray
def ie (d:Bool) (h:j<n):(ff n k).getD j d=decide (j<k):=by simp[ff,h]
def D6 (h:k<n):(ff n k).setIfInBounds k true=ff n (k+1):=by
 apply Array.ext;·simp[ff]
 ·intro j h1 h2;have hj:j<n:=by simpa[ff]using h2
  by_cases hjk:j=k;·subst hjk;simp[ff,h]
  ·rw[q252 (by simpa[ff]using hj) (q260 hjk)];simp only[ff,List.getElem_toArray,List.getElem_map,List.getElem_range,decide_eq_decide];omega
def anyS (S:Nat->(St->Prop)->St->Prop) (ops:Array Oper) (Q:St->Prop):Nat->Array Bool->St->Prop|0,listed,st=>Region.ready .any ops listed=[]/\Q st|fuel+1,listed,st=>(Region.ready .any ops listed=[]->Q st)/\∀i∈Region.ready .any ops listed,S i (anyS S ops Q fuel (listed.setIfInBounds i true)) st
def vw {S:Nat->(St->Prop)->St->Prop}{Q:St->Prop} (hmono:∀(j:Nat) (K K':St->Prop) (st:St),(∀st,K st->K' st)->S j K st->S j K' st) (hstrict:∀(j:Nat) (st:St),¬S j (fun _=>False) st) (hch:∀j,j<ops.size->∀i,i<j->og ops i j=true) (un:Nat->Prop) (hsw:∀(j:Nat) (K:St->Prop) (st:St),j<ops.size->un j->(i<j->bits ops i j=false)->S i (S j K) st->S j (S i K) st):∀(fuel:Nat) (listed:Array Bool) (st:St),sU ops listed->(∀j,j<ops.size->listed.getD j true=false->j≠i->un j)->listed.size=ops.size->i∈Region.ready .any ops listed->S i (anyS S ops Q fuel (listed.setIfInBounds i true)) st->anyS S ops Q (fuel+1) listed st:=by intro fuel;induction fuel with
 |zero=>
  intro listed st hc hlt hls hr H;refine⟨fun h=>(by rw[h]at hr;cases hr),fun j hj=>?_⟩;by_cases hji:j=i;·subst hji;exact H
  ·exfalso;refine hstrict i st (hmono i _ _ st (fun st' h=>?_) H);have:=ready_mono hj hji;rw[h.1]at this;cases this|succ fuel ih=>
  intro listed st hc hlt hls hr H;refine⟨fun h=>(by rw[h]at hr;cases hr),fun j hj=>?_⟩;by_cases hji:j=i;·subst hji;exact H
  ·obtain⟨hjun,oj,hoj,hall⟩:=mem_ready.1 hj;have hjlt:j<ops.size:=(q67.1 hoj).1;have hij:=hlt j hjlt hjun hji;have hiun:=(mem_ready.1 hr).1;have hilt:i<ops.size:=by obtain⟨_,o,ho,_⟩:=mem_ready.1 hr;exact(q67.1 ho).1
   have hbits:i<j->bits ops i j=false:=by intro hij;cases hb:bits ops i j with|false=>rfl|true=>
    have h1:=chain hch hc j hjlt hij hb ⟨oj,hoj,hall⟩;have hilt:i<listed.size:=by omega
    simp[hilt]at h1 hiun;rw[hiun]at h1;cases h1
   have h1:=hsw j _ st hjlt hij hbits (hmono i _ _ st (fun st' h=>h.2 j (ready_mono hj hji)) H);refine hmono j _ _ st (fun st' h=>?_) h1;refine ih (listed.setIfInBounds j true) st' (hc.set hj) ?_ (by simpa using hls) (ready_mono hr (q260 hji)) ?_
   ·intro k hk hun hki;by_cases hjk:j=k;·subst hjk;exact hij
    ·rw[getD_set_ne true hjk]at hun;exact hlt k hk hun hki
   ·rw[Array.setIfInBounds_comm _ _ (q260 hji)]at h;exact h
def FP (S:Nat->(St->Prop)->St->Prop) (Q:St->Prop):Nat->Nat->St->Prop|0,_,st=>Q st|m+1,k,st=>S k (FP S Q m (k+1)) st
def Jq {S:Nat->(St->Prop)->St->Prop}{Q:St->Prop} (hmono:∀(j:Nat) (K K':St->Prop) (st:St),(∀st,K st->K' st)->S j K st->S j K' st) (hstrict:∀(j:Nat) (st:St),¬S j (fun _=>False) st) (hch:∀j,j<ops.size->lI ops j=true/\∀i,i<j->og ops i j=true) (hsw:∀(i j:Nat) (K:St->Prop) (st:St),j<ops.size->i<j->bits ops i j=false->S i (S j K) st->S j (S i K) st):∀(m k:Nat) (st:St),k+m=ops.size->FP S Q m k st->anyS S ops Q m (ff ops.size k) st:=by intro m;induction m with
 |zero=>intro k st hk hs;refine⟨?_,hs⟩;cases hr:Region.ready .any ops (ff ops.size k) with|nil=>rfl|cons j js=>
   have hj:j∈Region.ready .any ops (ff ops.size k):=by rw[hr];exact q122
   obtain⟨h0,o,ho,_⟩:=mem_ready.1 hj;have hjlt:j<ops.size:=(q67.1 ho).1;rw[ie true hjlt]at h0;simp only[decide_eq_false_iff_not]at h0;omega
 |succ m ih=>
  intro k st hk hs;have hko:k<ops.size:=by omega
  have hearly:∀j o,ops[j]?=some o->∀e∈o.after,Region.binds .any e=true->e.on<j:=by
   intro j o ho e he hb;have h:=(hch j (q67.1 ho).1).1;unfold lI at h;rw[ho]at h;simp only[q85,q132,q125,decide_eq_true_eq]at h;rcases h e (q251.2 he) with h|h;·rw[hb]at h;cases h
   ·exact h
  refine vw hmono hstrict (fun j hj i hij=>(hch j hj).2 i hij) (fun j=>k<j) (fun j K st hj hij hb=>hsw k j K st hj hij (hb hij)) m (ff ops.size k) st ?_ ?_ (by simp[ff]) ?_ ?_;·intro j o ho hl e he hb;have hjlt:=(q67.1 ho).1;rw[ie false hjlt]at hl;simp only[decide_eq_true_eq]at hl;have:=hearly j o ho e he hb;rw[ie false (by omega)];simp only[decide_eq_true_eq];omega
  ·intro j hj hun hne;rw[ie true hj]at hun;simp only[decide_eq_false_iff_not]at hun;omega
  ·refine mem_ready.2 ⟨by rw[ie true hko];simp,ops[k],by rw[q136 hko],fun e he hb=>?_⟩;have:=hearly k ops[k] (by rw[q136 hko]) e he hb;rw[ie false (by omega)];simpa using this
  ·rw[D6 hko];exact hmono k _ _ st (fun st' h=>ih (k+1) st' (by omega) h) hs
def JN (S:Nat->(St->Prop)->St->Prop) (Q:St->Prop):List Nat->St->Prop|[],st=>Q st|i::l,st=>S i (JN S Q l) st
def cR (n:Nat) (pre:List Nat):Array Bool:=((List.range n).map fun j=>pre.contains j).toArray
def iJ  (d:Bool) (h:j<n):(cR n pre).getD j d=pre.contains j:=by simp[cR,h]
def DH  (h:k<n):(cR n pre).setIfInBounds k true=cR n (k::pre):=by
 apply Array.ext;·simp[cR]
 ·intro j h1 h2;have hj:j<n:=by simpa[cR]using h2
  by_cases hjk:j=k;·subst hjk;simp[cR,h]
  ·rw[q252 (by simpa[cR]using hj) (q260 hjk)];have:¬k=j:=fun e=>hjk e.symm;simp[cR,hjk]
def K1 {S:Nat->(St->Prop)->St->Prop}{Q:St->Prop}{ks:Array AI} (hmono:∀(j:Nat) (K K':St->Prop) (st:St),(∀st,K st->K' st)->S j K st->S j K' st) (hstrict:∀(j:Nat) (st:St),¬S j (fun _=>False) st) (hch:∀j,j<ops.size->lI ops j=true/\∀i,i<j->og ops i j=true) (hsw:∀(i j:Nat) (K:St->Prop) (st:St),(∃x y,ks[i]?=some x/\ks[j]?=some y/\vN x y=true)->S i (S j K) st->S j (S i K) st):∀(l pre:List Nat) (st:St),(∀j,j<ops.size->pre.contains j=false->j∈l)->(∀j∈l,j<ops.size)->(∀j,pre.contains j=true->j<ops.size)->sU ops (cR ops.size pre)->Nz ops ks pre l=true->JN S Q l st->anyS S ops Q l.length (cR ops.size pre) st:=by intro l;induction l with
 |nil=>intro pre st hall _ _ _ _ hs;refine⟨?_,hs⟩;cases hr:Region.ready .any ops (cR ops.size pre) with|nil=>rfl|cons j js=>
   have hj:j∈Region.ready .any ops (cR ops.size pre):=by rw[hr];exact q122
   obtain⟨h0,o,ho,_⟩:=mem_ready.1 hj;have hjlt:j<ops.size:=(q67.1 ho).1;rw[iJ true hjlt]at h0;have:=hall j hjlt h0;cases this
 |cons i l ih=>
  intro pre st hall hlt hpre hcl hord hs;unfold Nz at hord;simp only[q71]at hord;obtain⟨⟨⟨h1,h2⟩,h3⟩,h4⟩:=hord;have hio:i<ops.size:=hlt i q122;have hipre:pre.contains i=false:=by simpa using h2
  have hready:i∈Region.ready .any ops (cR ops.size pre):=by
   refine mem_ready.2 ⟨by rw[iJ true hio];exact hipre,ops[i],by rw[q136 hio],fun e he hb=>?_⟩;rw[q136 hio]at h1;simp only[q85,q132,q125]at h1;rcases h1 e (q251.2 he) with h|h;·rw[hb]at h;cases h
   ·rw[iJ false (hpre e.on h)];exact h
  have hset:(cR ops.size pre).setIfInBounds i true=cR ops.size (i::pre):=DH hio;rw[q85]at h3;refine vw hmono hstrict (fun j hj i hij=>(hch j hj).2 i hij) (fun j=>j∈l) (fun j K st hj hjl hb=>hsw i j K st ?_) l.length (cR ops.size pre) st hcl ?_ (by simp[cR]) hready ?_
  ·have h5:=h3 j hjl;rw[q132]at h5;rcases h5 with h5|h5;·exfalso;simp only[q71,decide_eq_true_eq]at h5;rw[hb h5.1]at h5;cases h5.2
   ·split at h5;·rename_i x y hx hy;exact⟨x,y,hx,hy,h5⟩
    ·cases h5
  ·intro j hj hun hne;rw[iJ true hj]at hun;rcases q78.1 (hall j hj hun) with rfl|h;·exact absurd rfl hne
   ·exact h
  ·rw[hset];have hcl':=hcl.set hready;rw[hset]at hcl';refine hmono i _ _ st (fun st' h=>ih (i::pre) st' (fun j hj hun=>?_) (fun j hj=>hlt j (q108 _ hj)) (fun j hj=>?_) hcl' h4 h) hs
   ·simp only[q234,q221,beq_eq_false_iff_ne]at hun;rcases q78.1 (hall j hj hun.2) with rfl|h;·exact absurd rfl hun.1
    ·exact h
   ·simp only[q234,q132,beq_iff_eq]at hj;rcases hj with rfl|h;·exact hio
    ·exact hpre j h
def FF {d:Option Nat}{xs:List AV}{p k:Nat}{K K':St->Prop}{st:St} (h:∀st,K st->K' st) (hs:my P Γ d f xs p k K st):my P Γ d f xs p k K' st:=by unfold my at hs |-;obtain⟨d,hd,ha,hs⟩:=af hs;obtain⟨X,hX,hs⟩:=af hs;obtain⟨T,hT,ho,hs⟩:=af hs;obtain⟨ys,hy,hs⟩:=af hs;obtain⟨x,hx,h1,h2,h3,h4,hK⟩:=af hs;rw[hd];refine⟨ha,?_⟩;rw[hX];show aj (hZ st.aa k X) _;rw[hT];refine⟨ho,?_⟩;rw[hy];show aj (Γ (f+1000000) ys) _;rw[hx];exact⟨h1,h2,h3,h4,h _ hK⟩
def gV {d:Option Nat}{xs:List AV}{ks:Option (List Nat)}{K K':St->Prop}{st:St} (h:∀st,K st->K' st) (hs:stepG Γ d f xs ks K st):stepG Γ d f xs ks K' st:=by unfold stepG at hs;obtain⟨d,rfl,ha,hs⟩:=af hs;obtain⟨ks,rfl,hT,hQ,hn,hs⟩:=af hs;obtain⟨ys,hy,hs⟩:=af hs;obtain⟨x,hx,h1,h2,hs⟩:=af hs;obtain⟨o,ho,h3,hs⟩:=af hs;obtain⟨r,hr,h4,hK⟩:=af hs;refine⟨ha,hT,hQ,hn,?_⟩;rw[hy];show aj (Γ (f+2000000) ys) _;rw[hx];refine⟨h1,h2,?_⟩;rw[ho];refine⟨h3,?_⟩;rw[hr];exact⟨h4,h _ hK⟩
def tY {d:Option Nat}{xs:List AV}{ks:Option (List Nat)}{st:St} (hs:stepG Γ d f xs ks (fun _=>False) st):False:=by unfold stepG at hs;obtain⟨d,rfl,ha,hs⟩:=af hs;obtain⟨ks,rfl,hT,hQ,hn,hs⟩:=af hs;obtain⟨ys,hy,hs⟩:=af hs;obtain⟨x,hx,h1,h2,hs⟩:=af hs;obtain⟨o,ho,h3,hs⟩:=af hs;obtain⟨r,hr,h4,hK⟩:=af hs;exact hK
def Dx {d:Option Nat}{xs:List AV}{K K':St->Prop}{st:St} (h:∀st,K st->K' st) (hs:gS P Γ d xs none K st):gS P Γ d xs none K' st:=by
 unfold gS at hs |-;obtain⟨ha,hs⟩:=hs;obtain⟨x,hx,hf,hs⟩:=af hs;refine⟨ha,?_⟩;rw[hx];refine⟨hf,?_⟩;unfold fI at hs |-;split at hs
 ·split at hs;·rename_i h2;rw[if_pos h2];exact gV h hs
  ·exact hs.elim
 ·obtain⟨d,hd,ha,hs⟩:=af hs;obtain⟨ys,hy,hs⟩:=af hs;obtain⟨z,hz,h1,h2,h3,h4,hK⟩:=af hs;unfold cS;subst hd;refine⟨ha,?_⟩;rw[hy];show aj (gt Γ x.1 ys) _;rw[hz];exact⟨h1,h2,h3,h4,h _ hK⟩
def jY {i:AI}{K K':St->Prop}{st:St} (h:∀st,K st->K' st) (hs:cY P Γ i K st):cY P Γ i K' st:=by
 unfold cY at hs |-;split at hs
 ·unfold jc at hs |-;split at hs
  ·split at hs;·rename_i h1;rw[if_pos h1];exact⟨hs.1,FF h hs.2⟩
   ·rename_i h1;rw[if_neg h1];split at hs;·rename_i h2;rw[if_pos h2];exact⟨hs.1,gV h hs.2⟩
    ·exact hs.elim
  ·exact vM h hs
 ·exact Dx h hs
 ·exact vM h hs
def rU {i:AI}{st:St} (hs:cY P Γ i (fun _=>False) st):False:=by
 have hI:∀{i:AI},¬dz P Γ i (fun _=>False) st:=fun h=>by obtain⟨_,_,h⟩:=cM.1 h;exact h
 unfold cY at hs;split at hs
 ·unfold jc at hs;split at hs
  ·split at hs;·have hs:=hs.2;unfold my at hs;obtain⟨_,_,_,hs⟩:=af hs;obtain⟨_,_,hs⟩:=af hs;obtain⟨_,_,_,hs⟩:=af hs;obtain⟨_,_,hs⟩:=af hs;obtain⟨_,_,_,_,_,_,hK⟩:=af hs;exact hK
   ·split at hs;·exact tY hs.2
    ·exact hs
  ·exact hI hs
 ·unfold gS at hs;obtain⟨_,hs⟩:=hs;obtain⟨_,_,_,hs⟩:=af hs;unfold fI at hs;split at hs
  ·split at hs;·exact tY hs
   ·exact hs
  ·obtain⟨_,_,_,hs⟩:=af hs;obtain⟨_,_,hs⟩:=af hs;obtain⟨_,_,_,_,_,_,hK⟩:=af hs;exact hK
 ·exact hI hs
def dE {i:AI} (h:i.tg≠some 999999) {st:St}:cY P Γ i K st=dz P Γ i K st:=by
 unfold cY;split;·rename_i h1 _;exact absurd h1 h
 ·rename_i h1 _;exact absurd h1 h
 ·rfl
def K9 {c:AV}{vars:Nat->AV}{xs:List Operand} (h:(tmpsOf xs).contains dd=false):xs.map (ev (put (some dd) c vars))=xs.map (ev vars):=by induction xs with|nil=>rfl|cons x xs ih=>cases x with|tmp t=>simp only[tmpsOf,q234,q221,beq_eq_false_iff_ne]at h;have ht:t≠dd:=fun e=>h.1 e.symm;rw[q74,q74,ih h.2];simp only[ev,put,if_neg ht]|const v=>simp only[tmpsOf]at h;rw[q74,q74,ih h];rfl|func f=>simp only[tmpsOf]at h;rw[q74,q74,ih h];rfl|global g=>simp only[tmpsOf]at h;rw[q74,q74,ih h];rfl
def Oj (t:Nat) (v:Value):kill t (cv v)=cv v:=by unfold cv;split<;>rfl
def nH {d dd:Nat} (h:d≠dd) (r c:AV) (f:Nat->AV):put (some d) r (put (some dd) c f)=put (some dd) c (put (some d) r f):=by
 funext s;simp only[put];by_cases h1:s=d<;>by_cases h2:s=dd;·omega
 ·simp[h1,h]
 ·simp[h2,q260 h]
 ·simp[h1,h2]
def kU (t:Nat) (x:AV) (c:AV):AV:=match eS x with|_::_=>c|[]=>kill t c
def HQ (t:Nat) (x:AV) (dd:Nat) (c:AV) (f:Nat->AV):jd t x (put (some dd) c f)=put (some dd) (kU t x c) (jd t x f):=by unfold jd kU;cases eS x with|cons y l=>rfl|nil=>funext s;simp only[cO,put];split<;>rfl
def MU (W:List Nat) (v:Value):gg W (cv v)=cv v:=by
 unfold gg;split;·rfl
 ·unfold cv;split<;>rfl
def zX (W:List Nat) (dd:Nat) (c:AV) (f:Nat->AV):ji W (put (some dd) c f)=put (some dd) (gg W c) (ji W f):=by funext s;simp only[ji,put];split<;>rfl
def DC (d:Option Nat):Operand->Prop|.const _=>True|.tmp s=>d≠some s|_=>False
def M6 {x:AI}{o:Operand} (h:okOp x o=true):DC x.d o:=by cases o with|const v=>trivial|tmp s=>have h:(x.d !=some s)=true:=h;simpa[DC]using h|func f=>cases h|global g=>cases h
def uP {d:Nat}{o:Operand} (h:DC (some d) o) (r:AV) (f:Nat->AV):ev (put (some d) r f) o=ev f o:=by cases o with|const v=>rfl|tmp s=>have:s≠d:=fun e=>h (by rw[e]);simp only[ev,put,if_neg this]|func f=>exact h.elim|global g=>exact h.elim
def NA {d:Option Nat}{o:Operand} (h:DC d o) (W:List Nat) (f:Nat->AV):ev (ji W f) o=gg W (ev f o):=by cases o with|const v=>exact(MU W v).symm|tmp s=>rfl|func f=>exact h.elim|global g=>exact h.elim
def Lg {d:Option Nat}{o:Operand} (h:DC d o) (t:Nat) (x:AV) (f:Nat->AV):ev (jd t x f) o=kU t x (ev f o):=by unfold jd kU;cases o with
 |const v=>cases eS x with|cons y l=>rfl|nil=>exact(Oj t v).symm
 |tmp s=>cases eS x<;>rfl|func f=>exact h.elim|global g=>exact h.elim
def Cr {d:Option Nat}{xs:List AV}{ks:Option (List Nat)}{o:Operand} (ho:DC d o) (hd:d≠some dd) {st:St}:stepG Γ d f xs ks (fun st'=>K ⟨put (some dd) (ev st'.vars o) st'.vars,st'.aa⟩) st=stepG Γ d f xs ks K ⟨put (some dd) (ev st.vars o) st.vars,st.aa⟩:=by unfold stepG;cases d with|none=>rfl|some d=>have hne:d≠dd:=fun e=>hd (by rw[e]);simp only[aj,Bw,AM,AU,zX,nH hne,uP ho,NA ho]
def E0 {d:Option Nat}{xs:List AV}{o:Operand} (ho:DC d o) (hd:d≠some dd) {st:St}:cS P Γ d f xs st.aa (fun e=>K ⟨put (some dd) (ev (e.on d st).vars o) (e.on d st).vars,(e.on d st).aa⟩)=cS P Γ d f xs st.aa (fun e=>K (e.on d ⟨put (some dd) (ev st.vars o) st.vars,st.aa⟩)):=by unfold cS;cases d with|none=>rfl|some d=>have hne:d≠dd:=fun e=>hd (by rw[e]);simp only[aj,bR.on,nH hne,uP ho]
def J2 {d:Option Nat}{xs:List AV}{o:Operand} (ho:DC d o) (hd:d≠some dd) {st:St}:gS P Γ d xs none (fun st'=>K ⟨put (some dd) (ev st'.vars o) st'.vars,st'.aa⟩) st=gS P Γ d xs none K ⟨put (some dd) (ev st.vars o) st.vars,st.aa⟩:=by
 have key:∀x:FuncId×List AV,fI P Γ d x.1 x.2 (ew Γ x.1) (fun st'=>K ⟨put (some dd) (ev st'.vars o) st'.vars,st'.aa⟩) st=fI P Γ d x.1 x.2 (ew Γ x.1) K ⟨put (some dd) (ev st.vars o) st.vars,st.aa⟩:=by
  intro x;unfold fI;split
  ·split;·exact Cr ho hd
   ·rfl
  ·exact E0 ho hd
 show(aw xs/\aj (mD (xs.map strip)) fun x=>gz P x.1=true/\fI P Γ d x.1 x.2 (ew Γ x.1) (fun st'=>K ⟨put (some dd) (ev st'.vars o) st'.vars,st'.aa⟩) st)=(aw xs/\aj (mD (xs.map strip)) fun x=>gz P x.1=true/\fI P Γ d x.1 x.2 (ew Γ x.1) K ⟨put (some dd) (ev st.vars o) st.vars,st.aa⟩);simp only[key]
def OZ {T:List Nat}{st:St}{l:List Nat}{c:AV} (hl:dd∉l):pw T ⟨put (some dd) c st.vars,st.aa⟩ l=pw T st l:=by induction l with|nil=>rfl|cons s l ih=>have h1:s≠dd:=fun e=>hl (by rw[e];exact q122);simp only[pw,put,if_neg h1];rw[<-ih (fun h=>hl (q108 _ h))];rfl
def Lq {y x:AI} (hk:(∃f,x.k=.call f)\/x.k=.mV) (hg:x.g=none) (ht:x.tg=some 999999) (hc:QB y x=true) (hun:∀dd,y.d=some dd->dd∉x.un):∃dd o,y=⟨some dd,.qE,[o],none,[],none⟩/\∀(K:St->Prop) (st:St),cY P Γ x (fun st'=>K ⟨put (some dd) (ev st'.vars o) st'.vars,st'.aa⟩) st=cY P Γ x K ⟨put (some dd) (ev st.vars o) st.vars,st.aa⟩:=by
 obtain⟨yd,yk,yxs,yg,yun,ytg⟩:=y;unfold QB at hc;split at hc
 ·rename_i o dd e1 e2 e3 e4 e5 e6;simp only at e1 e2 e3 e4 e5 e6;subst e1 e2 e3 e4 e5 e6;refine⟨dd,o,rfl,fun K st=>?_⟩;simp only[q71,q125,bne_iff_ne,ne_eq,dr,hg,q130]at hc;obtain⟨⟨hok,hu⟩,hd⟩:=hc;have ho:=M6 hok;have hun2:=hun dd rfl;have hev:∀c vars,x.xs.map (ev (put (some dd) c vars))=x.xs.map (ev vars):=fun c vars=>K9 hu;obtain⟨xd,xk,xxs,xg,xun,xtg⟩:=x;simp only at hk hg ht hd hev ho hun2;subst hg ht;rcases hk with⟨f,rfl⟩|rfl
  ·show jc P Γ _ f (ew Γ f) _ _=jc P Γ _ f (ew Γ f) _ _;unfold jc;split
   ·split;·unfold my;simp only[hev];cases xd with|none=>rfl|some d=>have hne:d≠dd:=fun e=>hd (by rw[e]);simp only[aj,HQ,nH hne,uP ho,Lg ho]
    ·split;·simp only[hev,OZ hun2];rw[Cr ho hd]
     ·rfl
   ·simp only[dz,eA,hev];unfold bf;simp only[cS];cases xd with|none=>rfl|some d=>have hne:d≠dd:=fun e=>hd (by rw[e]);simp only[aj,bR.on,Ed,wZ,mz,nH hne,uP ho]
  ·show gS P Γ _ _ none _ _=gS P Γ _ _ none _ _;simp only[hev];exact J2 ho hd
 ·cases hc
def B2 {o:Operand}{st:St}:cY P Γ ⟨some dd,.qE,[o],none,[],none⟩ K st=K ⟨put (some dd) (ev st.vars o) st.vars,st.aa⟩:=by simp[cY,dz,eA,bf,aj,Ed,wZ,mz,bR.on]
def vd {x y:AI} (hk:(∃f,x.k=.call f)\/x.k=.mV) (hg:x.g=none) (ht:x.tg=some 999999) (hc:QB y x=true) (hun:∀dd,y.d=some dd->dd∉x.un) {st:St}:cY P Γ x (cY P Γ y K) st=cY P Γ y (cY P Γ x K) st:=by obtain⟨dd,o,rfl,h⟩:=Lq (P:=P) (Γ:=Γ) hk hg ht hc hun;rw[B2,<-h];congr 1;funext st';exact B2
def qz {W:List Nat}:∀{cs:List AV},mK cs=true->cs.map (eX W)=cs|[],_=>rfl|c::cs,h=>by cases c with|pv p=>rw[q74,qz (cs:=cs) h];rfl|_=>cases h
def BO:∀{cs:List AV}{i:Nat}{c:AV},mK cs=true->cs[i]?=some c->∃p,c=.pv p|[],i,c,_,h=>by simp at h|x::cs,i,c,h,hc=>by cases x with
 |pv p=>cases i with|zero=>exact⟨p,by simpa using hc.symm⟩|succ i=>exact BO (cs:=cs) h (by simpa using hc)
 |_=>cases h
def wI:∀{cs:List AV} (n:Nat),mK cs=true->mK (cs.drop n)=true|cs,0,h=>h|[],n+1,h=>h|c::cs,n+1,h=>by cases c with|pv p=>exact wI (cs:=cs) n h|_=>cases h
def xM:∀{cs:List AV} (n:Nat),mK cs=true->mK (cs.take n)=true|cs,0,h=>rfl|[],n+1,h=>rfl|c::cs,n+1,h=>by cases c with|pv p=>exact xM (cs:=cs) n h|_=>cases h
def MH (W:List Nat) (p:PV):gg W (.pv p)=.pv p:=by unfold gg;split<;>rfl
def LG {W:List Nat} (h:mK cs=true):gg W (.agg cs)=.agg cs:=by
 unfold gg;split;·rfl
 ·show AV.agg (cs.map (eX W))=_;rw[qz h]
def HM {W:List Nat} (h:mK cs=true):ku W (.box cs)=.box cs:=by
 unfold ku;split;·rfl
 ·show AO.box (cs.map (eX W))=_;rw[qz h]
def Fz {n:Option Nat}{t o:Nat}{aa:Nat->Option AO} (ht:aa t=some (.box cs)) (hp:mK cs=true) {x:Prop×AV} (h:al (.load n) [.ptr t o] aa=some x):(∀W,gg W x.2=x.2)/\∀objs',objs' t=some (.box cs)->al (.load n) [.ptr t o] objs'=some x:=by cases n with
 |none=>
  simp only[al,ht,fT,q131]at h |-;refine⟨?_,fun objs' h'=>by rw[h'];exact h⟩;obtain⟨c,hc,h⟩:=qB.1 h;obtain⟨p,rfl⟩:=BO hp hc;split at h;·cases h;exact fun W=>MH W p
  ·cases h|some n=>
  simp only[al,ht,fT,q131]at h |-;refine⟨?_,fun objs' h'=>by rw[h'];exact h⟩;split at h;·cases h;exact fun W=>LG (xM _ (wI _ hp))
  ·cases h
def zj {T:List Nat}{st:St}{s:Nat}:∀{l:List Nat},pw T st l->s∈l->∃t o cs,st.vars s=.ptr t o/\st.aa t=some (.box cs)/\mK cs=true/\T.contains t=false
 |[],_,hm=>by cases hm|s'::l,h,hm=>by
  rcases q78.1 hm with rfl|hm
  ·obtain⟨t,ht,hT⟩:=af h.1;unfold ldT at ht;split at ht
   ·rename_i t' o e;obtain⟨cs,hb,ht⟩:=qB.1 ht;split at ht;·rename_i hp;cases ht;refine⟨_,o,cs,e,?_,hp,hT⟩;revert hb;cases st.aa t with|none=>intro hb;cases hb|some ob=>cases ob with|box l=>intro hb;cases hb;rfl|_=>intro hb;cases hb
    ·cases ht
   ·cases ht
  ·exact zj h.2 hm
def BP {dd s:Nat}{n:Option Nat}{st:St}:cY P Γ ⟨some dd,.load n,[.tmp s],none,un,none⟩ K st=((un=[]\/ll un st.aa [strip (st.vars s)])/\asks (st.vars s)/\aj (al (.load n) [strip (st.vars s)] st.aa) fun x=>x.1/\K ⟨put (some dd) x.2 st.vars,st.aa⟩):=by show((un=[]\/ll un st.aa [strip (st.vars s)])/\(asks (st.vars s)/\True)/\aj (al (.load n) [strip (st.vars s)] st.aa) fun x=>x.1/\Ed un none (.put x.2)/\K ((bR.put x.2).on (some dd) st))=_;simp[Ed,wZ,mz,bR.on]
def Ig {d:Option Nat}{xs:List AV}{ks:Option (List Nat)}{K K2:St->Prop}{st st':St} (ho:st'.aa=st.aa) (hK:∀d' W r objs1,d=some d'->(∀t∈W,t∈F7 ks st.aa (xs.map strip))->(∀t c,(F7 ks st.aa (xs.map strip)).contains t=false->st.aa t=some c->objs1 t=some (ku W c))->K ⟨put (some d') r (ji W st'.vars),objs1⟩->K2 ⟨put (some d') r (ji W st.vars),objs1⟩) (hs:stepG Γ d f xs ks K st'):stepG Γ d f xs ks K2 st:=by
 unfold stepG at hs;rw[ho]at hs;obtain⟨d,rfl,ha,hs⟩:=af hs;obtain⟨ks,rfl,hT,hQ,hn,hs⟩:=af hs;obtain⟨ys,hy,hs⟩:=af hs;rw[ho]at hy;obtain⟨x,hx,h1,h2,hs⟩:=af hs;obtain⟨o,hoo,h3,hs⟩:=af hs;obtain⟨r,hr,h4,h5⟩:=af hs;rw[ho]at h4 h5;refine⟨ha,hT,hQ,hn,?_⟩;rw[hy];show aj (Γ (f+2000000) ys) _;rw[hx];refine⟨h1,h2,?_⟩;rw[hoo];refine⟨h3,?_⟩;rw[hr];refine⟨h4,hK _ _ _ _ rfl (fun t ht=>(q94.1 ht).1) (fun t c htT hc=>?_) h5⟩;show(match ab (o.2.1++r.2.1) t with|some o=>some o|none=>_)=_;have hno:ab (o.2.1++r.2.1) t=none:=by cases hl:ab (o.2.1++r.2.1) t with|none=>rfl|some c'=>
  obtain⟨q,hq,rfl⟩:=ju _ _ _ hl;rcases h4 _ hq with h|h;·have htT:(gy st.aa ks (xs.map strip)).contains q.1=false:=htT;rw[htT]at h;cases h
  ·rw[hc]at h;cases h
 rw[hno];unfold fS;have htT:(gy st.aa ks (xs.map strip)).contains t=false:=htT;rw[htT,hc];rfl
def N3 {x y:AI} (hxk:x.k=.call f) (hg:x.g=none) (ht:x.tg=some 999999) {p k:Nat} (hfl:ew Γ f=some (p,k)) {dd s:Nat}{n:Option Nat} (hy:y=⟨some dd,.load n,[.tmp s],none,un,none⟩) (hds:x.d≠some s) (hu:(dr x).contains dd=false) (hdd:x.d≠some dd) (hsd:dd≠s) (hsu:s∈x.un) (hdu:dd∉x.un) {st:St} (hs:cY P Γ y (cY P Γ x K) st):cY P Γ x (cY P Γ y K) st:=by
 subst hy;obtain⟨xd,xk,xxs,xg,xun,xtg⟩:=x;simp only at hxk hg ht hds hdd hsu hdu;subst hxk hg ht;have hu':(tmpsOf xxs).contains dd=false:=by simpa[dr]using hu
 have hev:∀c vars,xxs.map (ev (put (some dd) c vars))=xxs.map (ev vars):=fun c vars=>K9 hu';rw[BP]at hs;obtain⟨hn,ha,hs⟩:=hs;obtain⟨v,hv,hφ,hs⟩:=af hs;change jc P Γ _ f (ew Γ f) K _ at hs;show jc P Γ _ f (ew Γ f) _ st;rw[hfl]at hs |-;unfold jc at hs |-;dsimp only at hs |-;split at hs;·rw[hs.1]at hsu;cases hsu
 rename_i hk;rw[if_neg hk];split at hs;rotate_left;·exact hs.elim
 rename_i hk2;rw[if_pos hk2];simp only[hev,OZ hdu]at hs;obtain⟨hl,hs⟩:=hs;refine⟨hl,?_⟩;obtain⟨t,o,cs,e1,e2,e3,e4⟩:=zj hl hsu;rw[e1]at hn hv;obtain⟨hw,hq⟩:=Fz e2 e3 hv;refine Ig (st':=⟨put (some dd) v.2 st.vars,st.aa⟩) rfl (fun d' W r objs1 hd' hW ho h=>?_) hs;subst hd';have hWt:W.contains t=false:=by cases hc:W.contains t with|false=>rfl|true=>have:=hW t (by simpa using hc);rw[<-q303]at this;rw[this]at e4;cases e4
 have hsd':s≠d':=fun e=>hds (by rw[e]);have hdd':d'≠dd:=fun e=>hdd (by rw[e]);have h1:=ho t _ e4 e2;rw[HM e3]at h1;have hvs:(put (some d') r (ji W st.vars)) s=.ptr t o:=by
  simp only[put,if_neg hsd',ji,e1];unfold gg;split;·rfl
  ·show(if W.contains t=true then AV.ak else .ptr t o)=_;rw[hWt];rfl
 rw[BP];simp only[hvs];refine⟨?_,trivial,?_⟩
 ·rcases hn with hn|hn;·exact .inl hn
  ·right;have hb:fT (objs1 t)=fT (st.aa t):=by rw[h1,e2]
   refine⟨?_,trivial⟩;have:=hn.1;simpa only[strip,tz,qt,hb]using this
 ·show aj (al (.load n) [.ptr t o] objs1) _;rw[hq objs1 h1];refine⟨hφ,?_⟩;have e:put (some d') r (ji W (put (some dd) v.2 st.vars))=put (some dd) v.2 (put (some d') r (ji W st.vars)):=by rw[zX,hw,nH hdd']
  rw[<-e];exact h
end
section
variable{P:Program}{Γ:b7}{S0 L:Nat->Prop}{B0:Nat->Value}{w0 w:World}{N:Nat}{st:St}{a:Act}{β:Nat->Value}{o:Oper}{x:Operand}
def Bt (h:Rel P S0 L B0 w0 N st a w β) {t' b lo n c:Nat}{e:TypeId}{inf:TypeInfo}{rows mid:List (List PV)}{us:List Value} (hc:st.aa t'=some (.arr e rows)) (hi:P.info? e=some inf) (hb:β t'=.slice (some ⟨b,0,none⟩) n c) (hle:lo+mid.length<=rows.length) (hml:∀r∈mid,r.length=inf.size) (hul:us.length=mid.length*inf.size) (hv:∀v∈us,v.oneCell'=true) (hr:∀(i j:Nat) (r:List PV) (p:PV),mid[i]?=some r->r[j]?=some p->∃u,us[i*inf.size+j]?=some u/\u.oneCell'=true/\dA (bn S0 w0.heap.size β st.aa w) w u p):∃w',(storeCells ⟨b,lo*inf.size,none⟩ us).run P w=.ok () w'/\Rel P S0 L B0 w0 N ⟨st.vars,ba t' (.arr e (cd rows lo mid)) st.aa⟩ a w' β:=by
 obtain⟨inf',xs,hi',hown,hrl,hcells⟩:=h.heap.arr hc;have:inf'=inf:=by rw[hi]at hi';injection hi' with hi';exact hi'.symm
 subst this;have hfit:lo*inf'.size+mid.length*inf'.size<=rows.length*inf'.size:=by rw[<-q151];exact q82 _ hle
 rcases hown.2 with⟨hnil,_⟩|⟨g,cap,cur,hv',_,hheap,hnc,hcm,hcs,htake⟩;·rw[hb]at hnil;cases hnil
 ·have hgb:g=b:=by rw[hb]at hv';simp at hv';exact hv'.1.symm
  subst hgb;have hnn:n=rows.length/\c=cap:=by rw[hb]at hv';simp at hv';exact hv'
  have hxl:xs.length=rows.length*inf'.size:=hown.1;have hcap:rows.length*inf'.size<=cur.size:=by rw[hcs];exact q82 _ hnc
  have hin:lo*inf'.size+us.length<=cur.size:=by rw[hul];omega
  refine⟨_,qp (P:=P) hheap hin hv,?_⟩;have hblk:cI (β t')=some g:=by rw[hb];rfl
  have hmono:∀(cs':Array Value) (o':AO) (k:Nat),bn S0 w0.heap.size β st.aa w k->bn S0 w0.heap.size β (ba t' o' st.aa) (w.setRow g cs') k/\(w.setRow g cs').heap[k]?=w.heap[k]?:=by
   intro cs' o' k hk;obtain⟨g1,g2,g3⟩:=hk;have hkb:k≠g:=fun e=>g3 ⟨t',_,hc,by rw[e];exact hblk⟩;refine⟨⟨g1,by simpa using g2,?_⟩,setRow_other w g k cs' hkb⟩;rintro⟨s,q,hs,hk⟩;by_cases e:s=t';·subst e;exact hkb (by rw[hblk]at hk;injection hk with hk;exact hk.symm)
   ·exact g3 ⟨s,q,by simpa[ba,e]using hs,hk⟩
  have hsl:(cd rows lo mid).length=rows.length:=fY _ _ _ hle;refine(h.yT (w':=w.setRow g (cur.toList.take (lo*inf'.size)++us++cur.toList.drop (lo*inf'.size+us.length)).toArray) (o':=.arr e (cd rows lo mid)) hc hblk rfl rfl rfl (by simp) (fun k hk=>setRow_other _ _ _ _ hk) ⟨inf',cd xs (lo*inf'.size) us,hi,?_,fun r hr'=>?_,fun k j r p hk hp=>?_⟩).1
  ·rw[hsl];refine⟨by rw[fY _ _ _ (by rw[hxl,hul];omega)];exact hxl,.inr ⟨g,cap,_,hv',q95 _,setRow_heap _ _ _ _ _ _ hheap,hnc,hcm,?_,?_⟩⟩;·simp;omega
   ·rw[<-htake];simp only[cd];rw[q199,q199];simp only[q65,q68,q87];rw[List.take_of_length_le (l:=List.take (lo*inf'.size) cur.toList) (by rw[q68];omega),q148,q103 (by omega)];rw[q103 (by omega)];rw[List.take_of_length_le (l:=us) (by omega)];congr 1;rw[q214]
  ·unfold cd at hr';simp only[q75]at hr';rcases hr' with(h1|h1)|h1;·exact hrl r (q96 h1)
   ·exact hml r h1
   ·exact hrl r (q110 h1)
  ·rw[j4 _ _ _ hle]at hk;rw[j4 _ _ _ (by rw[hxl,hul];omega)];by_cases e1:lo<=k/\k<lo+mid.length
   ·rw[if_pos e1]at hk;have hjl:j<inf'.size:=by rw[<-hml r (List.mem_of_getElem? hk)];exact(q63.1 hp).1
    have h1:lo*inf'.size<=k*inf'.size:=q82 _ e1.1;have h2:(k+1)*inf'.size<=(lo+mid.length)*inf'.size:=q82 _ e1.2;rw[q120,q151]at h2;rw[if_pos (by rw[hul];omega)];obtain⟨u,hu,h3,h4⟩:=hr _ j r p hk hp;refine⟨u,?_,h3,h4.mono (hmono _ _)⟩;rw[<-hu,Nat.sub_mul];congr 1;omega
   ·rw[if_neg e1]at hk;have hjl:j<inf'.size:=by rw[<-hrl r (List.mem_of_getElem? hk)];exact(q63.1 hp).1
    obtain⟨u,hu,h3,h4⟩:=hcells k j r p hk hp;refine⟨u,?_,h3,h4.mono (hmono _ _)⟩;rw[if_neg ?_];·exact hu
    ·rintro⟨g1,g2⟩;refine e1 ⟨?_,?_⟩
     ·rcases q141 k lo with hlt|hge;·have:(k+1)*inf'.size<=lo*inf'.size:=q82 _ hlt;rw[q120]at this;omega
      ·exact hge
     ·rcases q141 k (lo+mid.length) with hlt|hge;·exact hlt
      ·have:(lo+mid.length)*inf'.size<=k*inf'.size:=q82 _ hge;rw[q151]at this;rw[hul]at g2;omega
def yH (z:Array Value) (n i j:Nat) (hi:i<n) (hj:j<z.size):(Builtin.zeroCells z n).toList[i*z.size+j]?=some z[j]:=by
 have hlt:i*z.size+j<n*z.size:=by have:=q82 z.size (show i+1<=n from hi);rw[q120]at this;omega
 simp only[Builtin.zeroCells,Array.toList_map,q79,q216];rw[Array.getElem?_range,if_pos hlt];simp only[q121,qr];rw[q168,q294,q109 hj];exact getElem!_pos z j hj
def pr (z:Array Value) (n:Nat) (v:Value) (h:v∈(Builtin.zeroCells z n).toList):v∈z.toList:=by
 simp only[Builtin.zeroCells,Array.toList_map,q83]at h;obtain⟨i,hi,rfl⟩:=h;have hi':i<n*z.size:=by simpa using hi
 have hz:0<z.size:=by
  rcases q154 z.size with h|h;·rw[h]at hi';omega
  ·exact h
 have:=q275 i hz;rw[getElem!_pos z _ this];simp
def Ha {t e:TypeId}{sz:Nat}{zs:List Value} (ho:o.op=.call {callee:=.builtin .clear,args:=#[x],argTypes:=#[t]}) (ht:P.underlying t=some (.slice e)) (hsz:c7 P e=some sz) (hz:eB P e=some zs) (hpos:0<sz) (hall:zs.all (·.oneCell')=true) (h:Rel P S0 L B0 w0 N st a w β) (hd:∀s,o.dst=some s->s<N) (hX:RV P (bn S0 w0.heap.size β st.aa w) w β (aE st.aa) (a.eval x) X) {r:Nat×AO} (hs:D5 st.aa e zs X=some r):∃v w',(execOp a.eval o).run P w=.ok (.value v) w'/\Rel P S0 L B0 w0 N ((bR.yT r.1 r.2).on o.dst st) (a.put o.dst v) w' β:=by
 obtain⟨i,z,hi,hzv,hzs,rfl⟩:=eP hz;have hsi:i.size=sz:=by obtain⟨i',hi',rfl⟩:=jz hsz;rw[hi]at hi';injection hi' with hi';rw[hi']
 have hzr:(zeroValue e).run P w=.ok z w:=by simp[zeroValue,typeInfo,hi,hzv]
 have hex:∀(A:Option Addr) (n c:Nat) (w':World),a.eval x=.slice A n c->((A=none\/n=0)/\w'=w\/∃ad,A=some ad/\n≠0/\(storeCells ad (Builtin.zeroCells z.cells n).toList).run P w=.ok () w')->(execOp a.eval o).run P w=.ok (.value (.tuple #[])) w':=by
  rintro A n c w' hv (⟨h0,rfl⟩|⟨ad,rfl,hn,hst⟩);·cases A with|none=>cases n<;>simp[execOp,ho,resolve,invoke,builtin,Builtin.clear_,run_underlying ht,hv]|some ad=>
   obtain rfl:n=0:=by rcases h0 with h0|h0;cases h0;exact h0
   simp[execOp,ho,resolve,invoke,builtin,Builtin.clear_,run_underlying ht,hv]
  ·obtain⟨m,rfl⟩:∃m,n=m+1:=⟨n-1,by omega⟩;simp[execOp,ho,resolve,invoke,builtin,Builtin.clear_,run_underlying ht,hv,hzr,hst]
 have hput:∀{w':World}{objs':Nat->Option AO},Rel P S0 L B0 w0 N ⟨st.vars,objs'⟩ a w' β->Rel P S0 L B0 w0 N ⟨Ab.put o.dst .ak st.vars,objs'⟩ (a.put o.dst (.tuple #[])) w' β:=fun hR=>hR.put hd (.ak _);have main:∀(t' lo hi':Nat) (rows:List (List PV)) (A1:Option Addr),st.aa t'=some (.arr e rows)->lo<=hi'->hi'<=rows.length->(∀A n c,β t'=.slice A n c->a.eval x=.slice A1 (hi'-lo) (c-lo)/\(c≠lo->A1=A.map (·.add (lo*i.size))))->∃v w',(execOp a.eval o).run P w=.ok (.value v) w'/\Rel P S0 L B0 w0 N ⟨Ab.put o.dst .ak st.vars,ba t' (.arr e (cd rows lo (List.replicate (hi'-lo) (z.cells.toList.map si)))) st.aa⟩ (a.put o.dst v) w' β:=by
  intro t' lo hi' rows A1 hc h1 h2 hx;obtain⟨inf',xs,hinf,hown,hrl,hcells⟩:=h.heap.arr hc;have:inf'=i:=by rw[hi]at hinf;injection hinf with hinf;exact hinf.symm
  subst this;by_cases hz0:hi'-lo=0
  ·have hsp:cd rows lo (List.replicate (hi'-lo) (z.cells.toList.map si))=rows:=by rw[hz0];simp[cd]
   rw[hsp];obtain⟨A,c,hv,hcc⟩:=cN hown;obtain⟨hxe,_⟩:=hx A rows.length c hv;rw[hz0]at hxe;refine⟨_,w,hex _ _ _ w hxe (.inl ⟨.inr rfl,rfl⟩),?_⟩;have hsame:ba t' (.arr e rows) st.aa=st.aa:=by
    funext s;by_cases hst:s=t';·subst hst;simp[ba,hc]
    ·simp[ba,hst]
   rw[hsame];exact hput h
  ·rcases hown.2 with⟨_,hr0⟩|⟨g,cap,cur,hv,_,_,hnc,_⟩;·omega
   ·obtain⟨hxe,hA⟩:=hx _ _ _ hv;rw[hA (by omega)]at hxe;obtain⟨w',hst,hR⟩:=Bt h (lo:=lo) (mid:=List.replicate (hi'-lo) (z.cells.toList.map si)) (us:=(Builtin.zeroCells z.cells (hi'-lo)).toList) hc hi hv (by simp;omega) (fun r hr=>by rw[q200 hr];simp[hzs]) (by rw[q87,size_zeroCells,q217,hzs]) (fun v hv'=>(q85.1 hall) v (pr _ _ _ hv')) (fun k j r p hk hp=>by
     have hk1:k<hi'-lo:=by have:=(q63.1 hk).1;simpa using this
     rw[q238,if_pos hk1]at hk;injection hk with hk;subst hk;rw[q79,q900]at hp;obtain⟨q,hq,rfl⟩:=hp;have hj:j<z.cells.size:=by have:=(q63.1 hq).1;simpa using this
     have hqe:q=z.cells[j]:=by
      have:z.cells[j]?=some q:=by simpa using hq
      rw[q136 hj]at this;injection this with this;exact this.symm
     have hq1:q.oneCell'=true:=(q85.1 hall) q (List.mem_of_getElem? hq);refine⟨q,?_,hq1,jv _ _ q hq1⟩;rw[<-hzs,yH _ _ _ _ hk1 hj,hqe]);have hst':(storeCells ((⟨g,0,none⟩:Addr).add (lo*inf'.size)) (Builtin.zeroCells z.cells (hi'-lo)).toList).run P w=.ok () w':=by rw[q100,q126];exact hst
    exact⟨_,w',hex _ _ _ w' hxe (.inr ⟨_,rfl,hz0,hst'⟩),hput hR⟩
 cases X with
 |own t'=>
  simp only[D5,qB]at hs;obtain⟨⟨e',rows⟩,har,hs⟩:=hs;split at hs
  ·rename_i hee;simp only at hee;subst hee;cases hs;have hc:=b9 har;have:=main t' 0 rows.length rows (match β t' with|.slice A _ _=>A|_=>none) hc (q95 _) (q92 _) (fun A n c hb=>by
    have hx:=hX.bo.1;obtain⟨inf',xs,hinf,hown,_⟩:=h.heap.arr hc;obtain⟨A',c',hv,_⟩:=cN hown;rw[hb]at hv;have hn:n=rows.length:=by simp at hv;exact hv.2.1
    rw[hx,hb];refine⟨by simp[hn],fun _=>?_⟩;cases A with|none=>rfl|some ad=>simp[add_zero']);have he:cd rows 0 (List.replicate (rows.length-0) (z.cells.toList.map si))=List.replicate rows.length (z.cells.toList.map si):=by simp[cd]
   rw[he]at this;exact this
  ·cases hs|sub t' e1 lo hi'=>
  simp only[D5,qB]at hs;obtain⟨⟨e',rows⟩,har,hs⟩:=hs;split at hs
  ·rename_i hee;obtain⟨hee,hee1⟩:=hee;simp only at hee;subst hee hee1;cases hs;have hc:=b9 har;obtain⟨inf1,Ad,Ad1,n,c,hdt,hi1,hbt,g1,g2,g3,g4,g5,hx⟩:=hX.iz;have hinf:inf1=i:=by rw[hi]at hi1;injection hi1 with hi1;exact hi1.symm
   subst hinf;obtain⟨inf',xs,hinf',hown,_⟩:=h.heap.arr hc;obtain⟨A',c',hv,_⟩:=cN hown;have hn:n=rows.length:=by rw[hbt]at hv;simp at hv;exact hv.2.1
   subst hn;have:=main t' lo hi' rows Ad1 hc g1 g2 (fun A n c' hb=>by
    rw[hbt]at hb;have h3:Ad=A/\rows.length=n/\c=c':=by simpa using hb
    obtain⟨rfl,rfl,rfl⟩:=h3;exact⟨hx,g5⟩);have he:cd rows lo (List.replicate (hi'-lo) (z.cells.toList.map si))=rows.take lo++List.replicate (hi'-lo) (z.cells.toList.map si)++rows.drop hi':=by simp only[cd,q217];rw[show lo+(hi'-lo)=hi' from by omega]
   rw[he]at this;exact this
  ·cases hs|_=>simp[D5]at hs
end
end Go.Proofs.YtifcndkhigakfaaGreat.Ab
