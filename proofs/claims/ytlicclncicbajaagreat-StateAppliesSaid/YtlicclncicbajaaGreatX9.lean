/- How the abstract machine reckons: objects handed over whole, maps of plain values, ranges. -/
import Derived.Test.YtlicclncicbajaaGreatX8
import Derived.Test.YtlicclncicbajaaGreatChecked
set_option linter.unusedVariables false
set_option linter.unusedSimpArgs false
set_option linter.unnecessarySimpa false
set_option maxHeartbeats 40000000
set_option maxRecDepth 100000
set_option linter.defProp false
namespace Go.Proofs.YtlicclncicbajaaGreat.Ab
open Go Go.RowKit
def q82:=@List.getElem_mem
def q91:=@List.mem_take_iff_getElem
def q104:=@List.take_length
def q124:=@List.map_take
def q131:=@List.filter_append
def q139:=@Int.fdiv_eq_ediv_of_nonneg
def q144:=@List.length_filter_le
def q157:=@List.length_singleton
def q166:=@List.findIdx_eq
def q168:=@Nat.le_of_ble_eq_true
def q178:=@Int.tmod_eq_emod_of_nonneg
def q191:=@Int.eq_ofNat_of_zero_le
def q208:=@List.findIdx_eq_length
def q209:=@List.findIdx_lt_length
def q217:=@List.map_set
def q225:=@List.any_append
def q233:=@List.map_drop
def q243:=@Nat.add_lt_add_right
def q244:=@UInt8.toNat_inj
def q245:=@Nat.pow_le_pow_right
def q253:=@List.drop_set_of_lt
def q254:=@List.take_set_of_le
def q258:=@List.drop_drop
def q302:=@Nat.div_lt_iff_lt_mul
end Go.Proofs.YtlicclncicbajaaGreat.Ab
namespace Go.Proofs.YtlicclncicbajaaGreat.Ab.R
open Go Go.RowKit
variable {α:Type}{n k i sz t:Nat}{f:FuncId}{xs L:List AV}{d:Option Nat}{J:Exit→St→Prop}{x y:AV}{e:TypeId}{rows:List (List PV)}{G:List AV→Option (Prop×AV)}{z:Value}{ok:Bool}{ks:List Nat}{es:List (PV×PV)}{hout:List (Nat×AO)}
section
variable{P:Program}{Γ:bX}{K:St→Prop}{vs:List (Nat×AV)}{os:List (Nat×AO)}
@[simp↓] theorem RO {d:Nat}:ba (some d) .mkv [] K ⟨look vs,ab os⟩=(ab os d=none∧K ⟨put (some d) (.own d) (look vs),bG [(d,.iB [])] (ab os)⟩):=rfl
@[simp↓] theorem QH {s:Nat}{x y z:AV}:ba d (.TU s) [x,y,z] K ⟨look vs,ab os⟩=sk d s (strip x) (strip y) (qx (strip z)) [x,y,z] K ⟨look vs,ab os⟩:=rfl
@[congr] theorem Nk {s:Nat}{x x' y y' z z':AV}{st:St} (h1:True→x=x') (h2:True→y=y') (h3:True→z=z'):sk d s x y z xs K st=sk d s x' y' z' xs K st:=by rw[h1 trivial,h2 trivial,h3 trivial]
@[simp↓] theorem exPuv_eq {s t:Nat}{k v:PV}:sk d s (.own t) (.pv k) (.pv v) xs K ⟨look vs,ab os⟩=(aq xs∧ai (sC (ab os t)) fun es=>dB k=s∧fI s es∧K ⟨put d .aw (look vs),aR t (.iB (mi k v es)) (ab os)⟩):=rfl
@[simp↓] theorem RC {s:Nat}:ba d (.FT s z ok) [x,y] K ⟨look vs,ab os⟩=wP d s z ok (strip x) (strip y) [x,y] K ⟨look vs,ab os⟩:=rfl
@[simp↓] theorem WN {s:Nat}{X:AV}{k:PV}:wP d s z ok X (.pv k) xs K ⟨look vs,ab os⟩=(aq xs∧ai (IV (ab os) X) fun es=>z.oneCell'=true∧dB k=s∧fI s es∧K ⟨put d (ye z ok (lK k es)) (look vs),ab os⟩):=rfl
@[simp↓] theorem RB {s:Nat}:ba d (.dlv s) [x,y] K ⟨look vs,ab os⟩=wg d s (strip x) (strip y) [x,y] K ⟨look vs,ab os⟩:=rfl
@[simp↓] theorem ZY {s t:Nat}{k:PV}:wg d s (.own t) (.pv k) xs K ⟨look vs,ab os⟩=(aq xs∧ai (sC (ab os t)) fun es=>dB k=s∧fI s es∧K ⟨put d .aw (look vs),aR t (.iB (qk k es)) (ab os)⟩):=rfl
@[simp↓] theorem M7 {ne:Bool}:ba d (.Eu ne) [x] K ⟨look vs,ab os⟩=(aq [x]∧ai (ux (strip x)) fun b=>K ⟨put d (.pv (.bool (b !=ne))) (look vs),ab os⟩):=rfl
@[simp↓] theorem Qk :ba d .Zj [x] K ⟨look vs,ab os⟩=xA d (strip x) [x] K ⟨look vs,ab os⟩:=rfl
@[simp↓] theorem Wh {d:Nat}:xA (some d) (.pv (.mv es)) xs K ⟨look vs,ab os⟩=(aq xs∧ab os d=none∧K ⟨put (some d) (.ptr d 0) (look vs),bG [(d,.nS es none)] (ab os)⟩):=rfl
@[simp↓] theorem Qu :ba d .nxt [x] K ⟨look vs,ab os⟩=xo d (strip x) [x] K ⟨look vs,ab os⟩:=rfl
@[simp↓] theorem exNxt_eq :xo d (.ptr t 0) xs K ⟨look vs,ab os⟩=(aq xs∧ai (Ex (ab os t)) fun r=>(r.1=[]→K ⟨put d (.aO [.pv (.bool false)]) (look vs),ab os⟩)∧∀(e:PV×PV) (l m:List (PV×PV)),r.1=l++e::m→K ⟨put d (.aO [.pv (.bool true),.pv e.1,.pv e.2]) (look vs),aR t (.nS (l++m) (some e)) (ab os)⟩):=rfl
@[simp↓] theorem Pu :ba d .ent [x] K ⟨look vs,ab os⟩=wY d (strip x) [x] K ⟨look vs,ab os⟩:=rfl
@[simp↓] theorem Wj :wY d (.ptr t 0) xs K ⟨look vs,ab os⟩=(aq xs∧ai (Ex (ab os t)) fun r=>ai r.2 fun e=>K ⟨put d (.aO [.pv e.1,.pv e.2]) (look vs),ab os⟩):=rfl
@[simp↓] theorem stepG_eq {d f:Nat}:stepG Γ (some d) f xs (some ks) K ⟨look vs,ab os⟩=(aq xs∧yD Γ d f ks (xs.map strip) (eU (ab os) ks (xs.map strip)) ((er ks (xs.map strip)).flatMap sy) K ⟨look vs,ab os⟩):=rfl
@[congr] theorem Nr {f:Nat}{xs xs':List AV}{o o':Option (List Nat)}{st:St} (h1:True→xs=xs') (h2:True→o=o'):stepG Γ d f xs o K st=stepG Γ d f xs' o' K st:=by rw[h1 trivial,h2 trivial]
@[simp↓] theorem U8 {d f:Nat}{T Q:List Nat}:yD Γ d f ks xs T Q K ⟨look vs,ab os⟩=(T.Nodup∧(∀t∈Q,t∈T)∧yU Γ d f ks xs T Q (T.filter fun t=>!Q.contains t) K ⟨look vs,ab os⟩):=rfl
@[simp↓] theorem UW {d f:Nat}{T Q W:List Nat}:yU Γ d f ks xs T Q W K ⟨look vs,ab os⟩=(Q.Nodup∧ai (BC (ab os) (fm T T (ab os)) T ks xs) fun ys=>xT Γ d f ks xs T Q W K ⟨look vs,ab os⟩ ys):=rfl
@[simp↓] theorem Sm {d f:Nat}{xs ys:List AV}{T Q W:List Nat}:xT Γ d f ks xs T Q W K ⟨look vs,ab os⟩ ys=ai (Γ (f+2000000) ys) fun x=>x.1∧(eH T ks xs=true∨∀y∈lO x.2++[kS x.2],fT 5 y)∧ai (oa (num 5 true) (lO x.2) (Q,pd d T W)) fun o=>o.1=er ks xs∧ai (num 5 false (kS x.2) o.2.2) fun r=>(∀p∈o.2.1++r.2.1,T.contains p.1=true∨ab os p.1=none)∧K ⟨put (some d) r.1 (iq W (look vs)),bG (o.2.1++r.2.1) (fm T W (ab os))⟩:=rfl
end
@[simp↓] theorem XD {P:Program}{Γ:bX}{s:Nat}{aa:Nat→Option AO}{C:bI→Prop}:bf P Γ d (.ex (.FT s z ok)) [x,y] aa C=(aq [x,y]∧ai (al (.ex (.FT s z ok)) [strip x,strip y] aa) fun r=>r.1∧C (.put r.2)):=rfl
@[simp↓] theorem UT {P:Program}{Γ:bX}{aa:Nat→Option AO}{C:bI→Prop}:bf P Γ d (.ex (.nn e sz)) xs aa C=(aq xs∧ai (al (.ex (.nn e sz)) (xs.map strip) aa) fun r=>r.1∧C (.put r.2)):=rfl
@[simp↓] theorem Sr {P:Program}{Γ:bX}{aa:Nat→Option AO}{C:bI→Prop}{c:Bool}:cu P Γ c d (.ex (.nn e sz)) xs aa C=ai (al (.ex (.nn e sz)) (xs.map strip) aa) fun x=>(c=true→aq xs∧x.1)∧C (.put (.cp c x.2)):=rfl
@[simp] theorem Vz {aa:Nat→Option AO}:al (.ex (.nn e sz)) xs aa=(rowsOf xs).map fun rows=>(∀r∈rows,r.length=sz,.pv (.ro rows)):=nr (by unfold al;rfl)
@[simp] theorem XG {s:Nat}{k:PV}{aa:Nat→Option AO}:al (.ex (.FT s z ok)) [.pv (.mv es),.pv k] aa=some (z.oneCell'=true∧dB k=s∧fI s es,ye z ok (lK k es)):=nr rfl
@[simp] theorem aaZ (k v:PV):mi k v []=[(k,v)]:=nr rfl
@[simp] theorem putV_int (k k':IntKind) (a b:Int) (v x:PV) (l:List (PV×PV)):mi (.int k a) v ((.int k' b,x)::l)=if a=b then(.int k a,v)::l else(.int k' b,x)::mi (.int k a) v l:=by simp[mi,mU]
@[simp] theorem ID (k k':IntKind) (a b:Int) (x:PV) (l:List (PV×PV)):lK (.int k a) ((.int k' b,x)::l)=if a=b then some x else lK (.int k a) l:=by simp[lK,mU]
@[simp] theorem BM (s:Nat) (e:PV×PV) (l:List (PV×PV)):fI s (e::l)=(dB e.1=s∧fI s l):=by simp[fI]
@[simp] theorem Ts {args:List AV}:lv (.pv (.val (.func (.func f) #[] #[]))::args)=some (f,args):=nr rfl
@[simp] theorem shP_own (t s:Nat) (es:List (PV×PV)):ZS t es (.own s)=if s=t then .pv (.mv es) else .own s:=nr rfl
@[simp] theorem pubM_eq (vs:List (Nat×AV)) (os:List (Nat×AO)) (t:Nat):AU t ⟨look vs,ab os⟩=match sC (ab os t) with|some es=>⟨look (vs.map fun x=>(x.1,ZS t es x.2)),ab (J0 t os)⟩|none=>⟨look vs,ab os⟩:=by unfold AU;dsimp only;cases sC (ab os t) with|none=>rfl|some es=>dsimp only;rw[vu];congr 1;funext s;induction vs with|nil=>rfl|cons x l ih=>
 simp only[q71,look];split;·rfl
 ·exact ih
@[simp] theorem Ti (es:List (PV×PV)):sC (some (.iB es))=some es:=nr rfl
@[simp] theorem gotV_t (z:Value) (o:Option PV):ye z true o=.aO [.pv (o.getD (su z)),.pv (.bool o.isSome)]:=nr rfl
@[simp] theorem TW (s:Nat):fI s []=True:=by simp[fI]
@[simp] theorem V1 (k:PV):lK k []=none:=nr rfl
@[simp] theorem rdO_arr (e:TypeId) (rows:List (List PV)):VX (some (.arr e rows))=some (.fr e rows):=nr rfl
@[simp] theorem rdW_nil (f:AV→Option (AV×List Nat)):H8 f []=some ([],[]):=nr rfl
@[simp] theorem aal (f:AV→Option (AV×List Nat)) (c:AV) (cs:List AV):H8 f (c::cs)=(f c).bind fun r=>(H8 f cs).map fun q=>(r.1::q.1,r.2++q.2):=nr rfl
@[simp] theorem rd_own (n:Nat) (aa:Nat→Option AO) (t:Nat):rd (n+1) aa (.own t)=(VX (aa t)).map fun y=>(y,[t]):=nr rfl
@[simp] theorem rd_ptr (n:Nat) (aa:Nat→Option AO) (t:Nat):rd (n+1) aa (.ptr t 0)=(eY (aa t)).bind fun cs=>(H8 (rd n aa) cs).map fun r=>(.bx r.1,t::r.2):=nr rfl
@[simp] theorem rd_agg (n:Nat) (aa:Nat→Option AO) (cs:List AV):rd (n+1) aa (.agg cs)=(H8 (rd n aa) cs).map fun r=>(.agg r.1,r.2):=nr rfl
@[simp] theorem rd_pv (n:Nat) (aa:Nat→Option AO) (p:PV):rd (n+1) aa (.pv p)=some (.pv p,[]):=nr rfl
@[simp] theorem tk_t (p:Nat) (ps us:List Nat):tk true (p::ps,us)=some (p,ps,us):=nr rfl
@[simp] theorem tk_f (u:Nat) (ps us:List Nat):tk false (ps,u::us)=some (u,ps,us):=nr rfl
@[simp] theorem ZF (f:AV→List Nat×List Nat→Option (AV×List (Nat×AO)×List Nat×List Nat)) (s:List Nat×List Nat):oa f [] s=some ([],[],s):=nr rfl
@[simp] theorem Tp (f:AV→List Nat×List Nat→Option (AV×List (Nat×AO)×List Nat×List Nat)) (c:AV) (cs:List AV) (s:List Nat×List Nat):oa f (c::cs) s=(f c s).bind fun r=>(oa f cs r.2.2).map fun q=>(r.1::q.1,r.2.1++q.2.1,q.2.2):=nr rfl
@[simp] theorem num_fr (n:Nat) (top:Bool) (e:TypeId) (rows:List (List PV)) (s:List Nat×List Nat):num (n+1) top (.fr e rows) s=(tk top s).map fun q=>(.own q.1,[(q.1,.arr e rows)],q.2):=nr rfl
@[simp] theorem num_bx (n:Nat) (top:Bool) (cs:List AV) (s:List Nat×List Nat):num (n+1) top (.bx cs) s=(tk top s).bind fun q=>(oa (num n false) cs q.2).map fun r=>(.ptr q.1 0,(q.1,.box r.1)::r.2.1,r.2.2):=nr rfl
@[simp] theorem num_agg (n:Nat) (top:Bool) (cs:List AV) (s:List Nat×List Nat):num (n+1) top (.agg cs) s=(oa (num n top) cs s).map fun r=>(.agg r.1,r.2):=nr rfl
@[simp] theorem num_tup (n:Nat) (top:Bool) (cs:List AV) (s:List Nat×List Nat):num (n+1) top (.aO cs) s=(oa (num n top) cs s).map fun r=>(.aO r.1,r.2):=nr rfl
@[simp] theorem num_pv (n:Nat) (top:Bool) (p:PV) (s:List Nat×List Nat):num (n+1) top (.pv p) s=some (.pv p,[],s):=nr rfl
@[simp] theorem Y2 (t:Nat):sy (.own t)=[t]:=nr rfl
@[simp] theorem YD (t:Nat):sy (.ptr t 0)=[t]:=nr rfl
@[simp] theorem ysG_nil (aa objs':Nat→Option AO) (T:List Nat):BC aa objs' T [] []=some []:=nr rfl
@[simp] theorem ysG_0 (aa objs':Nat→Option AO) (T ks:List Nat) (x:AV) (xs:List AV):BC aa objs' T (0::ks) (x::xs)=(pf objs' (fu T x)).bind fun y=>(BC aa objs' T ks xs).map (y::·):=nr rfl
@[simp] theorem ysG_1 (aa objs':Nat→Option AO) (T ks:List Nat) (x:AV) (xs:List AV):BC aa objs' T (1::ks) (x::xs)=((rd 5 aa x).map (·.1)).bind fun y=>(BC aa objs' T ks xs).map (y::·):=nr rfl
@[simp] theorem ysG_2 (aa objs':Nat→Option AO) (T ks:List Nat) (x:AV) (xs:List AV):BC aa objs' T (2::ks) (x::xs)=((rd 5 aa x).map fun r=>.aO [r.1]).bind fun y=>(BC aa objs' T ks xs).map (y::·):=nr rfl
@[simp] theorem TO (aa:Nat→Option AO):eU aa [] []=[]:=nr rfl
@[simp] theorem tagsG_0 (aa:Nat→Option AO) (ks:List Nat) (x:AV) (xs:List AV):eU aa (0::ks) (x::xs)=eU aa ks xs:=nr rfl
@[simp] theorem tagsG_1 (aa:Nat→Option AO) (ks:List Nat) (x:AV) (xs:List AV):eU aa (1::ks) (x::xs)=((rd 5 aa x).map (·.2)).getD []++eU aa ks xs:=nr rfl
@[simp] theorem tagsG_2 (aa:Nat→Option AO) (ks:List Nat) (x:AV) (xs:List AV):eU aa (2::ks) (x::xs)=((rd 5 aa x).map (·.2)).getD []++eU aa ks xs:=nr rfl
@[simp] theorem Vx:er [] []=[]:=nr rfl
@[simp] theorem lentG_0 (ks:List Nat) (x:AV) (xs:List AV):er (0::ks) (x::xs)=er ks xs:=nr rfl
@[simp] theorem lentG_1 (ks:List Nat) (x:AV) (xs:List AV):er (1::ks) (x::xs)=er ks xs:=nr rfl
@[simp] theorem lentG_2 (ks:List Nat) (x:AV) (xs:List AV):er (2::ks) (x::xs)=x::er ks xs:=nr rfl
@[simp] theorem Qa (T:List Nat):eH T [] []=true:=nr rfl
@[simp] theorem Zf (T ks:List Nat) (x:AV) (xs:List AV):eH T (0::ks) (x::xs)=(eC (fu T x)&&eH T ks xs):=nr rfl
@[simp] theorem aaL (T ks:List Nat) (x:AV) (xs:List AV):eH T (1::ks) (x::xs)=eH T ks xs:=nr rfl
@[simp] theorem aa3 (T ks:List Nat) (x:AV) (xs:List AV):eH T (2::ks) (x::xs)=eH T ks xs:=nr rfl
@[simp] theorem Xc (n:Nat) (e:TypeId) (rows:List (List PV)):fT (n+1) (.fr e rows)=bp rows:=nr rfl
@[simp] theorem flatG_bx (n:Nat) (cs:List AV):fT (n+1) (.bx cs)=∀c∈cs,fT n c:=nr rfl
@[simp] theorem SN (n:Nat) (cs:List AV):fT (n+1) (.agg cs)=∀c∈cs,fT n c:=nr rfl
@[simp] theorem UP (n:Nat) (cs:List AV):fT (n+1) (.aO cs)=∀c∈cs,fT n c:=nr rfl
@[simp] theorem Xl (n:Nat) (p:PV):fT (n+1) (.pv p)=(il p=true):=nr rfl
@[simp] theorem outG_clo (n:Nat) (r:AV) (l:List AV):lO (.bE n (r::l))=l:=nr rfl
@[simp] theorem XS (n:Nat) (r:AV) (l:List AV):kS (.bE n (r::l))=r:=nr rfl
@[simp] theorem ksOf_rp (l:List PV):Sh (.rp l)=some (l.map fun p=>match p with|.int _ n=>n.toNat|_=>0):=nr rfl
@[simp] theorem YG (d:Nat) (T W:List Nat):pd d T W=W.filter (fun t=>t%1000 !=999)++[d,d+1000,d+2000,d+3000,d+4000,d+5000,d+6000,d+7000].filter fun t=>!T.contains t:=nr rfl
@[simp] theorem XF (x:AV):fu [] x=x:=nr rfl
@[simp] theorem UB (t:Nat) (W:List Nat) (x:AV):fu (t::W) x=lC (t::W) x:=nr rfl
@[simp] theorem Us (W:List Nat) (g:Bool) (v:AV):lC W (.cp g v)=.cp g (lC W v):=nr rfl
@[simp] theorem TS (W:List Nat) (cs:List AV):lC W (.agg cs)=.agg (cs.map (ey W)):=nr rfl
@[simp] theorem UK (W:List Nat) (t o:Nat):lC W (.ptr t o)=ey W (.ptr t o):=nr rfl
@[simp] theorem ZQ (W:List Nat) (p:PV):lC W (.pv p)=.pv p:=nr rfl
@[simp] theorem Rq (W:List Nat):lC W .aw=.aw:=nr rfl
@[simp] theorem Sv (W:List Nat) (t:Nat):ey W (.own t)=if W.contains t then .aw else .own t:=nr rfl
@[simp] theorem UY (W:List Nat) (t o:Nat):ey W (.ptr t o)=if W.contains t then .aw else .ptr t o:=nr rfl
@[simp] theorem wipeC_pv (W:List Nat) (p:PV):ey W (.pv p)=.pv p:=nr rfl
@[simp] theorem Sw (o:AO):jG [] o=o:=nr rfl
@[simp] theorem RX (t:Nat) (W:List Nat) (o:AO):jG (t::W) o=yY (t::W) o:=nr rfl
@[simp] theorem QG (W:List Nat) (cs:List AV):yY W (.box cs)=.box (cs.map (ey W)):=nr rfl
@[simp] theorem Px (W:List Nat) (e:TypeId) (rows:List (List PV)):yY W (.arr e rows)=.arr e rows:=nr rfl
@[simp] theorem O5 (W:List Nat) (l:List (Nat×AV)):iq W (look l)=look (l.map fun x=>(x.1,fu W x.2)):=by funext s;unfold iq;induction l with|nil=>show fu W .aw=.aw;unfold fu;split<;>rfl|cons x l ih=>
 obtain⟨k,v⟩:=x;simp only[q71,look];split;·rfl
 ·exact ih
def LZ (T W:List Nat):List (Nat×AO)→List (Nat×AO)|[]=>[]|x::l=>if T.contains x.1=true then LZ T W l else(x.1,jG W x.2)::LZ T W l
@[simp] theorem rmG_nil (T W:List Nat):LZ T W []=[]:=nr rfl
@[simp] theorem HN (T W:List Nat) (s:Nat) (o:AO) (l:List (Nat×AO)):LZ T W ((s,o)::l)=if T.contains s=true then LZ T W l else(s,jG W o)::LZ T W l:=nr rfl
@[simp] theorem QV (T W:List Nat) (l:List (Nat×AO)):fm T W (ab l)=ab (LZ T W l):=by funext s;unfold fm;induction l with|nil=>simp[LZ,ab]|cons x l ih=>
 obtain⟨k,v⟩:=x;simp only[HN,ab];by_cases hs:T.contains s=true
 ·rw[if_pos hs]at ih ⊢;by_cases hk:T.contains k=true;·rw[if_pos hk];exact ih
  ·have:¬s=k:=fun e=>hk (e▸hs);rw[if_neg hk];simp only[ab,if_neg this];exact ih
 ·rw[if_neg hs]at ih ⊢;by_cases hsk:s=k;·subst hsk;rw[if_neg hs];simp[ab]
  ·rw[if_neg hsk];by_cases hk:T.contains k=true;·rw[if_pos hk];exact ih
   ·rw[if_neg hk];simp only[ab,if_neg hsk];exact ih
@[simp] theorem Ef (cs:List AV):Gk (.agg cs)=cs.any fun c=>match c with|.bx _|.mf _=>true|_=>false:=nr rfl
@[simp] theorem trC_pv (p:PV):Gk (.pv p)=false:=nr rfl
@[simp] theorem trC_fr (e:TypeId) (rows:List (List PV)):Gk (.fr e rows)=false:=nr rfl
@[simp] theorem trR_tup (vs:List AV):pP (.aO vs)=vs.any Gk:=nr rfl
@[simp] theorem trR_agg (cs:List AV):pP (.agg cs)=Gk (.agg cs):=nr rfl
@[simp] theorem trR_pv (p:PV):pP (.pv p)=false:=nr rfl
@[simp] theorem trR_fr (e:TypeId) (rows:List (List PV)):pP (.fr e rows)=false:=nr rfl
@[simp] theorem flatR_eq (r:AV):sn r=if pP r=true then fT 5 r else flat r:=nr rfl
@[simp] theorem newO_eq (d:Nat) (r:AV):j8 d r=if pP r=true then(((num 5 false r ([],ku d)).map (·.2.1)).getD []) else aT d r:=nr rfl
@[simp] theorem newV_eq (d:Nat) (r:AV):As d r=if pP r=true then(((num 5 false r ([],ku d)).map (·.1)).getD .aw) else cS (lP d) r:=nr rfl
@[simp] theorem resR_eq (d:Nat) (r:AV):Bu d r=if pP r=true then(num 5 false r ([],ku d)).isSome else cY r:=nr rfl
@[simp] theorem YJ (d:Nat):ku d=[d,d+1000,d+2000,d+3000,d+4000,d+5000,d+6000,d+7000]:=nr rfl
@[congr] theorem JX {P:Program}{rs:List (Nat×Option (Option Nat))}{st st':St} (h:True→st=st'):qj P rs L x st=qj P rs L x st':=by rw[h trivial]
@[congr] theorem Nu {P:Program}{rs:List (Nat×Option (Option Nat))}{st st':St} (h:True→st=st'):sf P rs L x st=sf P rs L x st':=by rw[h trivial]
section
variable{P:Program}{aa:Nat→Option AO}
@[simp] theorem mtW_nil (f:AV→AV→Prop):vy f [] []=True:=nr rfl
@[simp] theorem aay (f:AV→AV→Prop) (c y:AV) (cs ys:List AV):vy f (c::cs) (y::ys)=(f c y∧vy f cs ys):=nr rfl
@[simp] theorem mt_fr (n:Nat) (x:AV) (e:TypeId) (rows:List (List PV)):mt P aa (n+1) x (.fr e rows)=vz P aa x (.fr e rows):=nr rfl
@[simp] theorem mt_bx (n t:Nat) (cs:List AV):mt P aa (n+1) (.ptr t 0) (.bx cs)=ai (eY (aa t)) fun l=>vy (mt P aa n) l cs:=by
 show(∃t' l,AV.ptr t 0=.ptr t' 0∧aa t'=some (.box l)∧vy (mt P aa n) l cs)=_;apply propext;constructor;·rintro⟨t',l,h,h',h''⟩;cases h;rw[h'];exact h''
 ·intro h;obtain⟨l,hl,h⟩:=ae h;exact⟨t,l,rfl,fH hl,h⟩
@[simp] theorem mt_agg (n:Nat) (l cs:List AV):mt P aa (n+1) (.agg l) (.agg cs)=vy (mt P aa n) l cs:=by show(∃l',AV.agg l=.agg l'∧vy (mt P aa n) l' cs)=_;apply propext;exact⟨fun⟨_,h,h'⟩=>by cases h;exact h',fun h=>⟨l,rfl,h⟩⟩
@[simp] theorem mt_tup (n:Nat) (l cs:List AV):mt P aa (n+1) (.aO l) (.aO cs)=vy (mt P aa n) l cs:=by show(∃l',AV.aO l=.aO l'∧vy (mt P aa n) l' cs)=_;apply propext;exact⟨fun⟨_,h,h'⟩=>by cases h;exact h',fun h=>⟨l,rfl,h⟩⟩
@[simp] theorem mt_pv (n:Nat) (x:AV) (p:PV):mt P aa (n+1) x (.pv p)=(x=.pv p):=nr rfl
@[simp] theorem tg_own (n t:Nat):tg aa (n+1) (.own t)=[t]:=nr rfl
@[simp] theorem tg_ptr (n t:Nat):tg aa (n+1) (.ptr t 0)=t::((eY (aa t)).getD []).flatMap (tg aa n):=nr rfl
@[simp] theorem tg_agg (n:Nat) (cs:List AV):tg aa (n+1) (.agg cs)=cs.flatMap (tg aa n):=nr rfl
@[simp] theorem tg_tup (n:Nat) (cs:List AV):tg aa (n+1) (.aO cs)=cs.flatMap (tg aa n):=nr rfl
@[simp] theorem tg_pv (n:Nat) (p:PV):tg aa (n+1) (.pv p)=[]:=nr rfl
end
def EL (ks:List Nat) (G:List AV→Option (Prop×AV)) (ys:List AV):Option (Prop×AV):=match ys with|[.aw]=>some (True,.rp (ks.map fun k:Nat=>PV.int .i64 (k:Int)))|ys=>G ys
def dI (P:Program) (f:FuncId) (G:List AV→Option (Prop×AV)):Prop:=∀ys φ r,G ys=some (φ,r)→φ→Da P f ys r
@[simp] theorem Vj (ks:List Nat) (G:List AV→Option (Prop×AV)):EL ks G [.aw]=some (True,.rp (ks.map fun k:Nat=>PV.int .i64 (k:Int))):=nr rfl
@[simp] theorem tabG_pv (ks:List Nat) (G:List AV→Option (Prop×AV)) (q:PV) (l:List AV):EL ks G (.pv q::l)=G (.pv q::l):=nr rfl
@[simp] theorem Zw (ks:List Nat) (G:List AV→Option (Prop×AV)) (q l:List AV):EL ks G (.aO q::l)=G (.aO q::l):=nr rfl
@[simp] theorem WE (ks:List Nat) (G:List AV→Option (Prop×AV)) (q l:List AV):EL ks G (.agg q::l)=G (.agg q::l):=nr rfl
@[simp↓] theorem gt_eq (Γ:bX) (f:FuncId) (ys:List AV):gt Γ f ys=SR (Γ f ys) (Γ (f+3000000) ys):=rfl
@[congr] theorem Tg {a a' b:Option (Prop×AV)} (h:True→a=a'):SR a b=SR a' b:=by rw[h trivial]
@[simp↓] theorem YC (x:Prop×AV) (y:Option (Prop×AV)):SR (some x) y=some (x.1∧pP x.2=false,x.2):=rfl
@[simp↓] theorem Zo (y:Option (Prop×AV)):SR none y=y.map fun x=>(x.1∧pP x.2=true,x.2):=rfl
section
variable{P:Program}{Γ:bX}{vs:List (Nat×AV)}{os:List (Nat×AO)}{K:St→Prop}{rs:List (Nat×Option (Option Nat))}{r:AV}{aa:Nat→Option AO}{C:List AV→Prop}
@[simp↓] theorem Xz:zX K .ret ⟨look vs,ab os⟩=K ⟨look vs,ab os⟩:=rfl
@[simp↓] theorem UU {id:Nat}:zX K (.exit id) ⟨look vs,ab os⟩=False:=rfl
@[simp↓] theorem Ends_eq {r:AV}:Ends P rs r ⟨look vs,ab os⟩=cR ⟨look vs,ab os⟩ rs fun xs=>xJ P rs r (cF (nk (bV xs) r) ⟨look vs,ab os⟩):=rfl
@[congr] theorem MV {st st':St}{r:AV} (h:True→st=st'):xJ P rs r st=xJ P rs r st':=by rw[h trivial]
@[simp↓] theorem V4 {r:AV}:nv P rs r hout ⟨look vs,ab os⟩=cR ⟨look vs,ab os⟩ rs fun xs=>oI P rs r hout (cF (nk (bV xs) r) ⟨look vs,ab os⟩):=rfl
@[congr] theorem KD {st st':St}{r:AV} (h:True→st=st'):oI P rs r hout st=oI P rs r hout st':=by rw[h trivial]
@[simp↓] theorem SV {r:AV}:oI P rs r hout ⟨look vs,ab os⟩=cR ⟨look vs,ab os⟩ rs fun xs=>fz P (ab os) (bV xs) r∧kN (pl (bV xs))∧mm (ab os) (pl (bV xs)) hout:=rfl
@[simp] theorem PR (l:List (Nat×Nat)):mm aa l []=True:=nr rfl
@[simp] theorem Mc (l:List (Nat×Nat)) (x:Nat×AO) (hout:List (Nat×AO)):mm aa l (x::hout)=(aa x.1=some x.2∧(∀y∈l,y.2≠x.1)∧mm aa l hout):=nr rfl
@[simp] theorem mkA_fr (e:TypeId) (rows:List (List PV)):Hk (.fr e rows)=.own 998:=nr rfl
@[simp] theorem mkA_tup (e:TypeId) (rows:List (List PV)):Hk (.aO [.fr e rows])=.own 999:=nr rfl
@[simp] theorem mkA_pv (p:PV):Hk (.pv p)=.pv p:=nr rfl
@[simp] theorem mkA_clo (f:FuncId) (l:List AV):Hk (.bE f l)=.bE f l:=nr rfl
@[simp] theorem mkO_nil:mO []=[]:=nr rfl
@[simp] theorem mkO_fr (e:TypeId) (rows:List (List PV)) (l:List AV):mO (.fr e rows::l)=[(998,.arr e rows)]:=nr rfl
@[simp] theorem mkO_tup (e:TypeId) (rows:List (List PV)) (l:List AV):mO (.aO [.fr e rows]::l)=[(999,.arr e rows)]:=nr rfl
@[simp] theorem mkO_pv (p:PV) (l:List AV):mO (.pv p::l)=mO l:=nr rfl
@[simp↓] theorem Yx {r:AV}:xJ P rs r ⟨look vs,ab os⟩=cR ⟨look vs,ab os⟩ rs fun xs=>fz P (ab os) (bV xs) r∧kN (pl (bV xs)):=rfl
@[simp↓] theorem Z7 :sf P rs L x ⟨look vs,ab os⟩=cR ⟨look vs,ab os⟩ rs fun xs=>qj P rs L x (cF (nk (bV xs) (kS x)) ⟨look vs,ab os⟩):=rfl
@[simp↓] theorem VS :qj P rs L x ⟨look vs,ab os⟩=cR ⟨look vs,ab os⟩ rs fun xs=>mt P (ab os) 6 (bV xs) (kS x)∧vy (mt P (ab os) 5) L (lO x)∧(L.flatMap (tg (ab os) 5)++tg (ab os) 6 (bV xs)).Nodup:=rfl
@[simp] theorem Yw :jj Γ f=(Γ (f+2000000) [.aw]).bind fun x=>Sh x.2:=nr rfl
@[simp] theorem all_or {o:AO}{R:Nat→AO→Prop}{p:Nat→AO→Prop}:(∀a b,a=k∧b=o∨R a b→p a b)=(p k o∧∀a b,R a b→p a b):=propext ⟨fun h=>⟨h k o (.inl ⟨rfl,rfl⟩),fun a b r=>h a b (.inr r)⟩,fun h a b r=>by
 rcases r with⟨rfl,rfl⟩|r;·exact h.1
 ·exact h.2 a b r⟩
@[simp] theorem ZU (l:List α):eI [] l=[]:=nr rfl
@[simp] theorem lent_tup (y:AV) (ys:List AV) (v:α) (l:List α):eI (.aO [y]::ys) (v::l)=v::eI ys l:=nr rfl
@[simp] theorem lent_pv (p:PV) (ys:List AV) (v:α) (l:List α):eI (.pv p::ys) (v::l)=eI ys l:=nr rfl
@[simp] theorem lent_agg (cs ys:List AV) (v:α) (l:List α):eI (.agg cs::ys) (v::l)=eI ys l:=nr rfl
@[simp] theorem VG (t:Nat):tA (.own t)=true:=nr rfl
@[simp] theorem VE (t:Nat):tA (.ptr t 0)=true:=nr rfl
@[simp] theorem pubs_tup (vs rs:List AV):nk (.aO vs) (.aO rs)=xM vs rs:=nr rfl
@[simp] theorem Zi (vs:List AV) (r:AV):nk (.agg vs) r=Co (.agg vs) r:=by cases r<;>rfl
@[simp] theorem pubs_pv (p:PV) (r:AV):nk (.pv p) r=rB (.pv p) r:=by cases r<;>rfl
@[simp] theorem NU (t:Nat) (e:TypeId) (rows:List (List PV)):nk (.own t) (.fr e rows)=[]:=nr rfl
@[simp] theorem UR:xM [] []=[]:=nr rfl
@[simp] theorem Qd (c r:AV) (cs rs:List AV):xM (c::cs) (r::rs)=Co c r++xM cs rs:=nr rfl
@[simp] theorem TC:u7 [] []=[]:=nr rfl
@[simp] theorem Rx (c r:AV) (cs rs:List AV):u7 (c::cs) (r::rs)=rB c r++u7 cs rs:=nr rfl
@[simp] theorem pub1_agg (cs rs:List AV):Co (.agg cs) (.agg rs)=u7 cs rs:=nr rfl
@[simp] theorem pub1_pv (p:PV) (r:AV):Co (.pv p) r=rB (.pv p) r:=by cases r<;>rfl
@[simp] theorem aa5 (t:Nat) (r:AV):Co (.own t) r=rB (.own t) r:=by cases r<;>rfl
@[simp] theorem Mz (t:Nat) (e:TypeId) (rows:List (List PV)):rB (.own t) (.fr e rows)=[]:=nr rfl
@[simp] theorem L6 (t:Nat) (rows:List (List PV)):rB (.own t) (.pv (.ro rows))=[t]:=nr rfl
@[simp] theorem NF (t:Nat) (es:List (PV×PV)):nk (.own t) (.pv (.mv es))=[t+1000000000000000]:=nr rfl
@[simp] theorem RI (rows:List (List PV)):rB (.pv .nil) (.pv (.ro rows))=[999996]:=nr rfl
@[simp] theorem SZ (p:PV):rB (.pv p) (.pv p)=[]:=by cases p<;>rfl
@[simp] theorem Ua (p:PV) (k:IntKind) (n:Int):rB (.pv p) (.pv (.int k n))=[]:=by cases p<;>rfl
@[simp] theorem OY (p:PV) (b:Bool):rB (.pv p) (.pv (.bool b))=[]:=by cases p<;>rfl
@[simp] theorem pubC_rfr (p:PV) (e:TypeId) (rows:List (List PV)):rB (.pv p) (.fr e rows)=[]:=by cases p<;>rfl
@[simp↓] theorem Mk:cR ⟨look vs,ab os⟩ [] C=C []:=rfl
@[simp↓] theorem N7 :cR ⟨look vs,ab os⟩ ((t,none)::rs) C=cR ⟨look vs,ab os⟩ rs fun xs=>C (look vs t::xs):=rfl
@[simp↓] theorem JC {n:Option Nat}:cR ⟨look vs,ab os⟩ ((t,some n)::rs) C=ai (al (.load n) [look vs t] (ab os)) fun x=>x.1∧cR ⟨look vs,ab os⟩ rs fun xs=>C (x.2::xs):=rfl
@[simp] theorem MT:bV []=.aO []:=nr rfl
@[simp] theorem Np (v:AV):bV [v]=v:=nr rfl
@[simp] theorem Mw (v u:AV) (l:List AV):bV (v::u::l)=.aO (v::u::l):=nr rfl
@[simp] theorem WY (i:Nat):nP i []=[]:=nr rfl
@[simp] theorem SQ (i:Nat) (v:AV) (l:List AV):nP i (v::l)=(i,v)::nP (i+1) l:=nr rfl
@[simp] theorem fzC_own (t:Nat) (e:TypeId) (rows:List (List PV)):vz P aa (.own t) (.fr e rows)=(aa t=some (.arr e rows)):=by
 apply propext;constructor
 ·rintro(⟨s,h,h2⟩|⟨h,_⟩|⟨_,_,_,h,_⟩);·cases h;exact h2
  ·cases h
  ·cases h
 ·exact fun h=>.inl ⟨t,rfl,h⟩
@[simp] theorem fzC_sub (t:Nat) (e e1:TypeId) (hi:Nat) (rows:List (List PV)):vz P aa (.sub t e1 0 hi) (.fr e rows)=(e1=e∧∃rs,aa t=some (.arr e rs)∧rows=rs.take hi):=by
 apply propext;constructor
 ·rintro(⟨s,h,h2⟩|⟨h,_⟩|⟨s,hi',rs,h,h2,h3⟩);·cases h
  ·cases h
  ·cases h;exact⟨rfl,rs,h2,h3⟩
 ·rintro⟨rfl,rs,h2,h3⟩;exact .inr (.inr ⟨t,hi,rs,rfl,h2,h3⟩)
@[simp] theorem fz_sub (t:Nat) (e:TypeId) (lo hi:Nat) (r:AV):fz P aa (.sub t e lo hi) r=vz P aa (.sub t e lo hi) r:=nr rfl
@[simp] theorem aaG (t:Nat) (e:TypeId) (lo hi:Nat) (r:AV):nk (.sub t e lo hi) r=[]:=by cases r<;>rfl
@[simp] theorem fzC_nil (e:TypeId) (rows:List (List PV)):vz P aa (.pv .nil) (.fr e rows)=(rows=[]∧(P.info? e).isSome=true):=by
 apply propext;constructor
 ·rintro(⟨s,h,h2⟩|⟨_,h⟩|⟨_,_,_,h,_⟩);·cases h
  ·exact h
  ·cases h
 ·exact fun h=>.inr (.inl ⟨rfl,h⟩)
@[simp] theorem fzC_pv (p q:PV):vz P aa (.pv p) (.pv q)=(p=q):=by
 apply propext;constructor;·rintro⟨h,_⟩;cases h;rfl
 ·rintro rfl;exact⟨rfl,rfl⟩
@[simp] theorem fzCs_nil:yq P aa [] []=True:=nr rfl
@[simp] theorem Vo (c d:AV) (cs ds:List AV):yq P aa (c::cs) (d::ds)=(vz P aa c d∧yq P aa cs ds):=nr rfl
@[simp] theorem fz1_agg (cs ds:List AV):DK P aa (.agg cs) (.agg ds)=yq P aa cs ds:=nr rfl
@[simp] theorem fz1_pv (p:PV) (r:AV):DK P aa (.pv p) r=vz P aa (.pv p) r:=nr rfl
@[simp] theorem fz1_own (t:Nat) (r:AV):DK P aa (.own t) r=vz P aa (.own t) r:=nr rfl
@[simp] theorem Y3:AJ P aa [] []=True:=nr rfl
@[simp] theorem Tt (c d:AV) (cs ds:List AV):AJ P aa (c::cs) (d::ds)=(DK P aa c d∧AJ P aa cs ds):=nr rfl
@[simp] theorem fz_tup (cs ds:List AV):fz P aa (.aO cs) (.aO ds)=(cs.length≤1000∧AJ P aa cs ds):=nr rfl
@[simp] theorem fz_agg (cs:List AV) (r:AV):fz P aa (.agg cs) r=DK P aa (.agg cs) r:=nr rfl
@[simp] theorem fz_pv (p:PV) (r:AV):fz P aa (.pv p) r=vz P aa (.pv p) r:=nr rfl
@[simp] theorem fz_own (t:Nat) (r:AV):fz P aa (.own t) r=vz P aa (.own t) r:=nr rfl
@[simp] theorem aaV (j:Nat):qc j []=[]:=nr rfl
@[simp] theorem Yq (j t:Nat) (cs:List AV):qc j (.own t::cs)=(1000*j,t)::qc (j+1) cs:=nr rfl
@[simp] theorem pl_sub (t:Nat) (e:TypeId) (lo hi:Nat):pl (.sub t e lo hi)=[(0,t)]:=nr rfl
@[simp] theorem plCs_pv (j:Nat) (p:PV) (cs:List AV):qc j (.pv p::cs)=qc (j+1) cs:=nr rfl
@[simp] theorem pl1_agg (cs:List AV):PZ (.agg cs)=qc 0 cs:=nr rfl
@[simp] theorem pl1_own (t:Nat):PZ (.own t)=[(0,t)]:=nr rfl
@[simp] theorem pl1_pv (p:PV):PZ (.pv p)=[]:=nr rfl
@[simp] theorem plVs_nil (i:Nat):Cp i []=[]:=nr rfl
@[simp] theorem SA (i:Nat) (v:AV) (vs:List AV):Cp i (v::vs)=(PZ v).map (fun x=>(x.1+i,x.2))++Cp (i+1) vs:=nr rfl
@[simp] theorem pl_tup (vs:List AV):pl (.aO vs)=Cp 0 vs:=nr rfl
@[simp] theorem pl_agg (cs:List AV):pl (.agg cs)=qc 0 cs:=nr rfl
@[simp] theorem pl_own (t:Nat):pl (.own t)=[(0,t)]:=nr rfl
@[simp] theorem pl_pv (p:PV):pl (.pv p)=[]:=nr rfl
@[simp] theorem OD:kN []=True:=nr rfl
@[simp] theorem Mm (x:Nat×Nat) (l:List (Nat×Nat)):kN (x::l)=((∀y∈l,y.2≠x.2)∧kN l):=nr rfl
end
section
variable{P:Program}{Γ:bX}{vs:List (Nat×AV)}{os:List (Nat×AO)}{st:St}{ad:List Nat}
theorem EH {K:St→Prop}{a:AC} (I:α→Prop) (F:α→Fr) (μ:α→Nat) (ad shs:List Nat) (x0:α) (hI:I x0) (h0:wk P ad (cF shs st) (F x0)) (hr:∀x,I x→iC P Γ a (fun st'=>∃x',I x'∧wk P [] (cF shs st') (F x')∧μ x'<μ x) J (F x).st):iC P Γ (.loop a) K J st:=by
 refine⟨{x:α//I x},fun x=>F x.1,fun x=>μ x.1,ad,shs,⟨x0,hI⟩,h0,fun x=>?_⟩;have hK:(fun st'=>∃i':{x:α//I x},wk P [] (cF shs st') (F i'.1)∧μ i'.1<μ x.1)=fun st'=>∃x',I x'∧wk P [] (cF shs st') (F x')∧μ x'<μ x.1:=by
  funext st';apply propext;constructor;·rintro⟨⟨y,hy⟩,h⟩;exact⟨y,hy,h⟩
  ·rintro⟨y,hy,h⟩;exact⟨⟨y,hy⟩,h⟩
 show iC P Γ a (fun st'=>∃i':{x:α//I x},wk P [] (cF shs st') (F i'.1)∧μ i'.1<μ x.1) J (F x.1).st;rw[hK];exact hr x.1 x.2
theorem aj {K:St→Prop}{a:AC} (I:α→Prop) (F:α→Fr) (μ:α→Nat) (ad:List Nat) (x0:α) (hI:I x0) (h0:wk P ad st (F x0)) (hr:∀x,I x→iC P Γ a (fun st'=>∃x',I x'∧wk P [] st' (F x')∧μ x'<μ x) J (F x).st):iC P Γ (.loop a) K J st:=EH I F μ ad [] x0 hI h0 hr
@[simp] theorem PM (st:St):cF [] st=st:=nr rfl
@[simp] theorem Ns (t:Nat) (l:List Nat) (st:St):cF (t::l) st=cF l (zf t st):=nr rfl
@[simp] theorem SJ (t:Nat) (st:St):zf t st=if t=999996 then vg st else if 1000000000000000≤t then AU (t-1000000000000000) st else share1 st (.own t):=nr rfl
def By:List (Nat×AO)→List (Nat×AO)|[]=>[]|x::l=>(x.1,td x.2)::By l
@[simp] theorem SX:By []=[]:=nr rfl
@[simp] theorem CA (t:Nat) (o:AO) (l:List (Nat×AO)):By ((t,o)::l)=(t,td o)::By l:=nr rfl
@[simp] theorem aar (vs:List (Nat×AV)) (os:List (Nat×AO)):vg ⟨look vs,ab os⟩=⟨look (vs.map fun x=>(x.1,xR x.2)),ab (By os)⟩:=by
 unfold vg;congr 1;·funext s;induction vs with|nil=>rfl|cons x l ih=>obtain⟨k,v⟩:=x;simp only[q71,look];split<;>simp_all
 ·funext s;induction os with|nil=>rfl|cons x l ih=>obtain⟨k,v⟩:=x;simp only[CA,ab];split<;>simp_all
@[simp] theorem nilV_pv (p:PV):xR (.pv p)=.pv (Cf p):=nr rfl
@[simp] theorem WZ (t o:Nat):xR (.ptr t o)=.ptr t o:=nr rfl
@[simp] theorem TL:xR .aw=.aw:=nr rfl
@[simp] theorem Uf:mM []=[]:=nr rfl
@[simp] theorem Pw (c:AV) (cs:List AV):mM (c::cs)=sF c::mM cs:=nr rfl
@[simp] theorem nilC_pv (p:PV):sF (.pv p)=.pv (Cf p):=nr rfl
@[simp] theorem Ye (t:Nat):sF (.own t)=.own t:=nr rfl
@[simp] theorem aaC:Cf .nil=.ro []:=nr rfl
@[simp] theorem nilP_ro (l:List (List PV)):Cf (.ro l)=.ro l:=nr rfl
@[simp] theorem Y0 (k:IntKind) (n:Int):Cf (.int k n)=.int k n:=nr rfl
@[simp] theorem Ug (b:Bool):Cf (.bool b)=.bool b:=nr rfl
@[simp] theorem ZI (cs:List AV):td (.box cs)=.box (mM cs):=nr rfl
@[simp] theorem V8 (e:TypeId) (rows:List (List PV)):td (.arr e rows)=.arr e rows:=nr rfl
@[simp] theorem wk_eq (vs':List (Nat×AV)) (os':List (Nat×AO)):wk P ad ⟨look vs,ab os⟩ ⟨vs',os'⟩=(Rr ad ⟨look vs,ab os⟩ os' vs'∧PH P ad ⟨look vs,ab os⟩ os' os'):=nr rfl
@[simp] theorem wkV_nil (os':List (Nat×AO)):Rr ad ⟨look vs,ab os⟩ os' []=True:=nr rfl
@[simp] theorem Yl (os':List (Nat×AO)) (s:Nat) (v:AV) (l:List (Nat×AV)):Rr ad ⟨look vs,ab os⟩ os' ((s,v)::l)=((v=.aw∨(look vs s=v∧lE os' v)∨(∃t,v=.own t∧ad.contains t=true∧aG (ab os') t∧look vs s=.pv .nil))∧Rr ad ⟨look vs,ab os⟩ os' l):=nr rfl
@[simp] theorem wkO_nil (os':List (Nat×AO)):PH P ad ⟨look vs,ab os⟩ os' []=True:=nr rfl
@[simp] theorem Wi (os':List (Nat×AO)) (t:Nat) (o:AO) (l:List (Nat×AO)):PH P ad ⟨look vs,ab os⟩ os' ((t,o)::l)=(((ab os t=some o∧ad.contains t=false∧xL os' o)∨(∃e,o=.arr e []∧ad.contains t=true∧ab os t=none∧(P.info? e).isSome=true∧t%1000≠999))∧PH P ad ⟨look vs,ab os⟩ os' l):=nr rfl
@[simp] theorem VN (f:FuncId) (cs:List AV):lE os (.bE f cs)=gh os cs:=nr rfl
@[simp] theorem Xn (p:PV):lE os (.pv p)=True:=nr rfl
@[simp] theorem liveV_rp (p:List PV):lE os (.rp p)=True:=nr rfl
@[simp] theorem VM (t:Nat):lE os (.own t)=aG (ab os) t:=nr rfl
@[simp] theorem TZ (t o:Nat):lE os (.ptr t o)=aG (ab os) t:=nr rfl
@[simp] theorem UF (t:Nat) (e:TypeId) (lo hi:Nat):lE os (.sub t e lo hi)=aG (ab os) t:=nr rfl
@[simp] theorem XV (p:PV):jF os (.pv p)=True:=nr rfl
@[simp] theorem aan (p:List PV):jF os (.rp p)=True:=nr rfl
@[simp] theorem P0:jF os .aw=True:=nr rfl
@[simp] theorem Uh (t:Nat):jF os (.own t)=aG (ab os) t:=nr rfl
@[simp] theorem Ov:gh os []=True:=nr rfl
@[simp] theorem MK (c:AV) (cs:List AV):gh os (c::cs)=(jF os c∧gh os cs):=nr rfl
@[simp] theorem TQ (cs:List AV):xL os (.box cs)=gh os cs:=nr rfl
@[simp] theorem TM (e:TypeId) (rows:List (List PV)):xL os (.arr e rows)=True:=nr rfl
@[simp] theorem S9 (es:List (PV×AV)):xL os (.map es)=True:=nr rfl
@[simp] theorem dom_nil (t:Nat):aG (ab []) t=False:=by
 apply propext;constructor;·rintro⟨o,h⟩;cases h
 ·exact False.elim
@[simp] theorem aao (s t:Nat) (o:AO) (l:List (Nat×AO)):aG (ab ((s,o)::l)) t=(t=s∨aG (ab l) t):=by apply propext;unfold aG;simp only[BS];by_cases h:t=s<;>simp[h]
end
@[simp↓] theorem Q5 {P:Program}{Γ:bX}{d:Nat}{aa:Nat→Option AO}{C:bI→Prop}:cH P Γ (some d) f xs aa C=(aq xs∧ai (fJ aa (xs.map strip)) fun ys=>ai (gt Γ f ys) fun x=>x.1∧(eT (xs.map strip)=true∨sn x.2)∧(∀y∈j8 d x.2,aa y.1=none)∧Bu d x.2=true∧C (.new (As d x.2) (j8 d x.2))):=rfl
def aJ (P:Program) (f:FuncId) (G:List AV→Option (Prop×AV)):Prop:=∀ys φ r,G ys=some (φ,r)→φ→sO P f [] ys [] r
def tab:List (FuncId×(List AV→Option (Prop×AV)))→bX|[]=>fun _ _=>none|x::l=>fun g ys=>if g=x.1 then x.2 ys else tab l g ys
theorem ah {P:Program}:eb P (tab []):=fun _ _ _ _ h=>by cases h
def AA (p k:Nat) (G:List AV→Option (Prop×AV)) (ys:List AV):Option (Prop×AV):=match ys with|[.aw]=>some (True,.ptr p k)|ys=>G ys
def nM (P:Program) (f:FuncId) (G:List AV→Option (Prop×AV)):Prop:=∀ys φ r,G ys=some (φ,r)→φ→Cz P f ys r
theorem eQ {P:Program}{f p k:Nat}{l:List (FuncId×(List AV→Option (Prop×AV)))} (h:nM P f G) (hP:Nat.ble P.funcs.size 1000000=true) (hl:eb P (tab l)) (hf:Nat.blt f 1000000=true:=by rfl):eb P (tab ((f+1000000,AA p k G)::l)):=by
 intro g ys φ r hg hφ;simp only[tab]at hg;split at hg
 ·rename_i e;refine .inr (.inl ⟨q168 hP,by rw[e];exact q165 _ _,by rw[e];exact q243 (q168 hf) 1000000,?_⟩);unfold AA at hg;split at hg;·exact .inl rfl
  ·right;rw[show g-1000000=f from by rw[e];exact q159 _ _];exact h ys φ r hg hφ
 ·exact hl g ys φ r hg hφ
theorem ag {P:Program}{l:List (FuncId×(List AV→Option (Prop×AV)))} (h:aJ P f G) (hl:eb P (tab l)) (hf:Nat.blt f 1000000=true:=by rfl):eb P (tab ((f,G)::l)):=by
 intro g ys φ r hg hφ;simp only[tab]at hg;split at hg;·rename_i e;subst e;exact .inl ⟨q168 hf,h ys φ r hg hφ⟩
 ·exact hl g ys φ r hg hφ
theorem bg {P:Program}{l:List (FuncId×(List AV→Option (Prop×AV)))} (h:dI P f G) (hP:Nat.ble P.funcs.size 1000000=true) (hl:eb P (tab l)) (hf:Nat.blt f 1000000=true:=by rfl):eb P (tab ((f+1000000,AA 0 996 fun _=>none)::(f+2000000,EL ks G)::l)):=by
 intro g ys φ r hg hφ;simp only[tab]at hg;split at hg
 ·rename_i e;refine .inr (.inl ⟨q168 hP,by rw[e];exact q165 _ _,by rw[e];exact q243 (q168 hf) 1000000,?_⟩);unfold AA at hg;split at hg;·exact .inl rfl
  ·cases hg
 ·split at hg
  ·rename_i e;refine .inr (.inr (.inl ⟨q168 hP,by rw[e];exact q165 _ _,by rw[e];exact q243 (q168 hf) 2000000,?_⟩));unfold EL at hg;split at hg;·exact .inl rfl
   ·right;rw[show g-2000000=f from by rw[e];exact q159 _ _];exact h ys φ r hg hφ
  ·exact hl g ys φ r hg hφ
@[simp] theorem YF (f:FuncId) (ys:List AV):tab [] f ys=none:=nr rfl
@[simp] theorem TB (p k:Nat) (G:List AV→Option (Prop×AV)):AA p k G [.aw]=some (True,.ptr p k):=nr rfl
@[simp] theorem tabU_fr (p k:Nat) (G:List AV→Option (Prop×AV)) (e:TypeId) (rows:List (List PV)) (l:List AV):AA p k G (.fr e rows::l)=G (.fr e rows::l):=nr rfl
@[simp] theorem tabU_pv (p k:Nat) (G:List AV→Option (Prop×AV)) (q:PV) (l:List AV):AA p k G (.pv q::l)=G (.pv q::l):=nr rfl
@[simp] theorem ZX (p k:Nat) (G:List AV→Option (Prop×AV)) (q l:List AV):AA p k G (.aO q::l)=G (.aO q::l):=nr rfl
@[simp] theorem XH (f g:FuncId) (G:List AV→Option (Prop×AV)) (l:List (FuncId×(List AV→Option (Prop×AV)))) (ys:List AV):tab ((f,G)::l) g ys=if g=f then G ys else tab l g ys:=nr rfl
end Go.Proofs.YtlicclncicbajaaGreat.Ab.R
namespace Go.Proofs.YtlicclncicbajaaGreat.Ab
open Go Go.RowKit
variable {α:Type}{n k i sz t:Nat}{f:FuncId}{xs L:List AV}{d:Option Nat}{J:Exit→St→Prop}{x y:AV}{e:TypeId}{rows:List (List PV)}{G:List AV→Option (Prop×AV)}{z:Value}{ok:Bool}{ks:List Nat}{es:List (PV×PV)}{hout:List (Nat×AO)}
abbrev AI.a (d:Nat) (k:AK) (xs:List Operand):AI:=⟨some d,k,xs,none,[],none⟩
abbrev AI.s (k:AK) (xs:List Operand):AI:=⟨none,k,xs,none,[],none⟩
abbrev AI.m (d t:Nat):AI:=⟨some d,.oO,[.tmp t],none,[],none⟩
abbrev AI.b (d:Nat) (k:AK) (xs:List Operand) (g:Nat) (b:Bool):AI:=⟨some d,k,xs,some (g,b),[],none⟩
abbrev AI.pa (d x y:Nat):AI:=⟨some d,.pick,[.tmp x,.tmp y,.const (.bool false)],none,[],none⟩
abbrev AI.u (d:Nat) (k:AK) (t:Nat):AI:=⟨some d,k,[.tmp t],none,[],none⟩
abbrev AI.w (d:Nat) (k:AK) (t u:Nat):AI:=⟨some d,k,[.tmp t,.tmp u],none,[],none⟩
abbrev AI.c (d:Nat) (k:AK) (t:Nat) (n:Int):AI:=⟨some d,k,[.tmp t,.const (.int .i64 n)],none,[],none⟩
end Go.Proofs.YtlicclncicbajaaGreat.Ab
namespace Go.Proofs.YtlicclncicbajaaGreat.Ab.R
open Go Go.RowKit
variable {α:Type}{n k i sz t:Nat}{f:FuncId}{xs L:List AV}{d:Option Nat}{J:Exit→St→Prop}{x y:AV}{e:TypeId}{rows:List (List PV)}{G:List AV→Option (Prop×AV)}{z:Value}{ok:Bool}{ks:List Nat}{es:List (PV×PV)}{hout:List (Nat×AO)}
theorem wrap_i64 {x:Int} (h:-9223372036854775808≤x∧x≤9223372036854775807):IntKind.i64.wrap x=x:=by simp only[IntKind.wrap,IntKind.bits,IntKind.signed];simp;omega
theorem wrap_u64 {x:Int} (h:0≤x∧x≤18446744073709551615):IntKind.u64.wrap x=x:=by simp only[IntKind.wrap,IntKind.bits,IntKind.signed];simp;omega
theorem wrap_u8 (x:Int):IntKind.u8.wrap x=x%256:=by simp only[IntKind.wrap,IntKind.bits,IntKind.signed];simp
@[simp] theorem VR:cX none=none:=rfl
@[simp] theorem arrO_box (cs:List AV):cX (some (.box cs))=none:=rfl
@[simp] theorem aa2 (k:IntKind) (n:Int):(Value.int k n).oneCell'=true:=rfl
@[simp] theorem UX (b:Bool):(Value.bool b).oneCell'=true:=rfl
@[simp] theorem vone_str (s:ByteArray):(Value.string s).oneCell'=true:=rfl
@[simp] theorem vone_ptr (a:Option Addr):(Value.pointer a).oneCell'=true:=rfl
@[simp] theorem RS (a:Option Addr) (n c:Nat):(Value.slice a n c).oneCell'=true:=rfl
@[simp] theorem Km:bytesRow []=[]:=rfl
@[simp] theorem FV (l:List UInt8):(bytesRow l).length=l.length:=by simp[bytesRow]
theorem ct (l m:List UInt8):bytesRow (l++m)=bytesRow l++bytesRow m:=by simp[bytesRow]
@[simp] theorem dq (l:List UInt8):∀r∈bytesRow l,r.length=1:=by intro r hr;simp only[bytesRow,q84]at hr;obtain⟨c,_,rfl⟩:=hr;rfl
theorem vQ (c:UInt8) (l:List UInt8):bytesRow (c::l)=[.int .u8 (c.toNat:Int)]::bytesRow l:=rfl
theorem bytesRow_at {l:List UInt8} (h:i<l.length):rowAt (bytesRow l) (i:Int)=[.int .u8 (l[i].toNat:Int)]:=by simp[rowAt,bytesRow,h]
@[simp] theorem FD (l:List UInt8):bytesOf (bytesRow l)=some l:=by induction l with|nil=>rfl|cons c l ih=>
 have hc:byteOf [.int .u8 (c.toNat:Int)]=some c:=by have:=c.toNat_lt;unfold byteOf;simp;omega
 rw[vQ];simp only[bytesOf,hc,ih,q116,q130]
theorem ax:maxLen=9223372036854775807:=rfl
end Go.Proofs.YtlicclncicbajaaGreat.Ab.R
namespace Go.Proofs.YtlicclncicbajaaGreat.Ab.R
open Go Go.RowKit
open Classical in noncomputable def dec {α:Type} (f:α→List PV) (rows:List (List PV)):Option (List α):=if h:∃l:List α,l.map f=rows then some h.choose else none
variable {α:Type}{n k i sz t:Nat}{f:FuncId}{xs L:List AV}{d:Option Nat}{J:Exit→St→Prop}{x y:AV}{e:TypeId}{rows:List (List PV)}{G:List AV→Option (Prop×AV)}{z:Value}{ok:Bool}{ks:List Nat}{es:List (PV×PV)}{hout:List (Nat×AO)}
theorem map_inj {α β:Type}{f:α→β} (hf:∀a b,f a=f b→a=b):∀{l m:List α},l.map f=m.map f→l=m|[],[],_=>rfl|[],_::_,h=>by simp at h|_::_,[],h=>by simp at h|a::l,b::m,h=>by simp only[q71,q110]at h;rw[hf _ _ h.1,map_inj hf h.2]
theorem jH {f:α→List PV} (hf:∀a b,f a=f b→a=b) (l:List α):dec f (l.map f)=some l:=by unfold dec;have h:∃m:List α,m.map f=l.map f:=⟨l,rfl⟩;rw[dif_pos h];exact congrArg some (map_inj hf h.choose_spec)
theorem jz {f:α→List PV}{l:List α} (h:dec f rows=some l):rows=l.map f:=by
 unfold dec at h;split at h;·rename_i h';simp only[qr]at h;rw[←h];exact h'.choose_spec.symm
 ·cases h
def fM (c:UInt8):List PV:=[.int .u8 (c.toNat:Int)]
theorem E6:∀a b,fM a=fM b→a=b:=by intro a b h;simp only[fM,q110,PV.int.injEq,true_and,and_true]at h;exact q244.1 (by omega)
@[simp] theorem US (l:List UInt8):dec fM (bytesRow l)=some l:=jH E6 l
@[simp] theorem dec_nil (f:α→List PV):dec f []=some []:=by unfold dec;have h:∃m:List α,m.map f=[]:=⟨[],rfl⟩;rw[dif_pos h];have:=h.choose_spec;simpa using this
theorem en {l:List UInt8} (h:dec fM rows=some l):rows=bytesRow l:=jz h
end Go.Proofs.YtlicclncicbajaaGreat.Ab.R
namespace Go.Proofs.YtlicclncicbajaaGreat.Ab
open Go Go.RowKit R
variable {α:Type}{n k i sz t:Nat}{f:FuncId}{xs L:List AV}{d:Option Nat}{J:Exit→St→Prop}{x y:AV}{e:TypeId}{rows:List (List PV)}{G:List AV→Option (Prop×AV)}{z:Value}{ok:Bool}{ks:List Nat}{es:List (PV×PV)}{hout:List (Nat×AO)}
def fC (n:Nat):List UInt8:=if h:n<128 then[n.toUInt8] else(n%128+128).toUInt8::fC (n/128) termination_by n decreasing_by omega
def cW (n:Int):List UInt8:=fC n.toNat
theorem df (h:n<128):fC n=[n.toUInt8]:=by rw[fC,dif_pos h]
theorem jb (h:¬n<128):fC n=(n%128+128).toUInt8::fC (n/128):=by rw[fC,dif_neg h]
theorem Pv (m:Nat):gl .or .u8 ((m:Int)%256) 128=.int .u8 (((m%128+128).toUInt8.toNat:Nat):Int):=by
 have key:∀x:Fin 256,IntKind.u8.wrap ((BitVec.ofInt IntKind.u8.bits (x.val:Int)|||BitVec.ofInt IntKind.u8.bits 128).toNat:Nat)=(((x.val%128+128).toUInt8.toNat:Nat):Int):=by decide+kernel
 have h:=key ⟨m%256,by omega⟩;have e1:(m:Int)%256=((m%256:Nat):Int):=by omega
 have e2:m%256%128=m%128:=by omega
 rw[e1];simp only[e2]at h;unfold gl;exact congrArg _ h
def Gh:List AV→Option (Prop×AV)|[.pv (.int .u64 n)]=>some (0≤n∧n≤18446744073709551615,.fr 5 (bytesRow (cW n)))|_=>none
@[simp] theorem Kj (n:Int):Gh [.pv (.int .u64 n)]=some (0≤n∧n≤18446744073709551615,.fr 5 (bytesRow (cW n))):=rfl
theorem zT:aJ Tryz.prog 74 Gh:=by
 intro ys φ r h hφ;unfold Gh at h;split at h
 ·rename_i N;cases h;obtain⟨n,rfl⟩:=q191 hφ.1;have hn:n≤18446744073709551615:=by omega
  refine ak ah (by kernel_rfl) (by conv=>lhs;reduce) (by simp) ?_;simp(config := { maxSteps := 3000000 });refine aj (fun x:Nat×List UInt8=>x.2++fC x.1=fC n∧x.1≤18446744073709551615∧(x.2.length≤10∧x.1*128^x.2.length≤n)) (fun x=>⟨[(0,.pv (.int .u64 x.1)),(3,.own 3)],[(3,.arr 5 (bytesRow x.2))]⟩) (fun x=>x.1) [] (n,[]) ?_ ?_ ?_;·simp[hn]
  ·simp
  ·rintro⟨m,acc⟩ ⟨h1,h2,h3,h4⟩;dsimp only at h1 h2 h3 h4;simp(config := { maxSteps := 3000000 }) [wrap_u8,-Int.emod_emod_of_dvd,ax];rw[Pv];refine⟨fun hm=>⟨by omega,m/128,acc++[(m%128+128).toUInt8],⟨?_,by omega,?_,?_⟩,⟨?_,?_⟩,by omega⟩,fun hm=>⟨by omega,?_⟩⟩;·rw[←h1,jb (n:=m) (by omega)];simp
   ·simp only[q74,q157];have:¬9≤acc.length:=by intro h9;have h128:128^9≤128^acc.length:=q245 (by decide) h9;have:128*128^acc.length≤m*128^acc.length:=q86 _ (by omega);omega
    omega
   ·simp only[q74,q157,Nat.pow_succ];refine q113 ?_ h4;have:m/128*128≤m:=by omega
    calc m/128*(128^acc.length*128)=(m/128*128)*128^acc.length:=by rw[q170 (128^acc.length) 128,Nat.mul_assoc]
     _≤m*128^acc.length:=q86 _ this
   ·simp[IntKind.bits,q139]
   ·rw[ct];rfl
   ·rw[cW,q68,←h1,df (n:=m) (by omega),ct];simp[bytesRow]
 ·cases h
theorem vf (n:Nat):1≤(fC n).length:=by rw[fC];split<;>simp
theorem uK:∀(k n:Nat),n<128^(k+1)→(fC n).length≤k+1
 |0,n,h=>by rw[df (by simpa using h)];simp|k+1,n,h=>by
  by_cases h1:n<128;·rw[df h1];simp
  ·rw[jb h1];have:n/128<128^(k+1):=by rw[q302 (by decide)];rw[Nat.pow_succ]at h;exact h
   have:=uK k (n/128) this;simp;omega
theorem iK (h:n≤18446744073709551615):(fC n).length≤10:=uK 9 n (by omega)
@[simp] def DC:List AV→Option (Prop×AV)|[.pv (.int .u64 n)]=>some (0≤n∧n≤18446744073709551615,.pv (.int .i64 (cW n).length))|_=>none
theorem G1:aJ Tryz.prog 122 DC:=by
 intro ys φ r h hφ;unfold DC at h;split at h
 ·rename_i N;cases h;obtain⟨n,rfl⟩:=q191 hφ.1;have hn:n≤18446744073709551615:=by omega
  have hl:=iK hn;refine ak ah (by kernel_rfl) (by conv=>lhs;reduce) (by simp) ?_;simp(config := { maxSteps := 3000000 });refine aj (fun x:Nat×Nat=>x.2+(fC x.1).length=(fC n).length+1∧x.1≤18446744073709551615) (fun x=>⟨[(0,.pv (.int .u64 x.1)),(3,.pv (.int .i64 x.2))],[]⟩) (fun x=>x.1) [] (n,1) ?_ ?_ ?_;·simp[hn];omega
  ·simp
  ·rintro⟨m,k⟩ ⟨h1,h2⟩;dsimp only at h1 h2;have hl2:=vf m;simp(config := { maxSteps := 3000000 }) (disch:=omega) [wrap_i64,wrap_u64];refine⟨fun hm=>⟨m/128,k+1,⟨?_,by omega⟩,⟨by omega,by omega⟩,by omega⟩,fun hm=>?_⟩;·rw[jb (n:=m) (by omega)]at h1;simp at h1;omega
   ·rw[df (n:=m) (by omega)]at h1;simp at h1;rw[cW,q68];omega
 ·cases h
theorem Jy (m:Nat) (h:m<128):(m.toUInt8.toNat:Int)=m:=by
 have:m.toUInt8.toNat=m:=by simp[Nat.toUInt8];omega
 omega
theorem G6 (m:Nat) (h:m<256):(m.toUInt8.toNat:Int)=m:=by
 have:m.toUInt8.toNat=m:=by simp[Nat.toUInt8];omega
 omega
theorem QL:aJ Tryz.prog 77 Gh:=by
 intro ys φ r h hφ;unfold Gh at h;split at h
 ·rename_i N;cases h;obtain⟨n,rfl⟩:=q191 hφ.1;have hn:n≤18446744073709551615:=by omega
  have hl:=iK hn;have hl1:=vf n;refine ak (ag G1 ah) (by kernel_rfl) (by conv=>lhs;reduce) (by simp) ?_;simp(config := { maxSteps := 3000000 }) [cW];refine⟨by omega,?_⟩;refine aj (fun x:Nat×List UInt8=>x.2++(if x.2.length<(fC n).length then fC x.1 else[])=fC n∧x.1≤18446744073709551615∧x.2.length≤(fC n).length) (fun x=>⟨[(0,.pv (.int .u64 x.1)),(3,.own 3),(4,.pv (.int .i64 (fC n).length)),(5,.pv (.int .i64 x.2.length))],[(3,.arr 5 (bytesRow x.2))]⟩) (fun x=>(fC n).length-x.2.length) [] (n,[]) ?_ ?_ ?_;·refine⟨?_,hn,by simp⟩;rw[if_pos (by simp only[q87];omega),q158]
  ·simp
  ·rintro⟨m,acc⟩ ⟨h1,h2,h3⟩;dsimp only at h1 h2 h3;have w1:IntKind.i64.wrap ((acc.length:Int)+1)=(acc.length:Int)+1:=wrap_i64 (by omega);have w2:IntKind.u8.wrap ((m:Int)%128)=(m:Int)%128:=by rw[wrap_u8];omega
   have w3:IntKind.u8.wrap ((m:Int)%128+128)=(m:Int)%128+128:=by rw[wrap_u8];omega
   have w4:IntKind.u64.wrap ((m:Int)/128)=(m:Int)/128:=wrap_u64 (by omega);have w5:(m:Int).tmod 128=(m:Int)%128:=q178 (by omega);by_cases hlt:acc.length<(fC n).length
   ·rw[if_pos hlt]at h1;have hlen:acc.length+(fC m).length=(fC n).length:=by rw[←h1];simp
    by_cases hm:m<128
    ·have hv:=df hm;rw[hv]at h1 hlen;simp at hlen;simp(config := { maxSteps := 3000000 }) [w1,w2,w3,w4,w5,hlt,ax];refine⟨fun h=>by omega,fun h=>⟨by omega,m/128,acc++[m.toUInt8],⟨?_,by omega,by simp;omega⟩,⟨⟨by omega,by simp⟩,?_⟩,by simp;omega⟩⟩;·rw[if_neg (by simp;omega),q147];exact h1
     ·rw[ct];simp only[bytesRow,q71,q117];rw[Jy m hm];have:(m:Int)%128=m:=by omega
      rw[this]
    ·have hv:=jb hm;have hl2:=vf (m/128);rw[hv]at h1 hlen;simp at hlen;simp(config := { maxSteps := 3000000 }) [w1,w2,w3,w4,w5,hlt,ax];refine⟨fun h=>⟨by omega,m/128,acc++[(m%128+128).toUInt8],⟨?_,by omega,by simp;omega⟩,⟨⟨by omega,by simp⟩,?_⟩,by simp;omega⟩,fun h=>by omega⟩;·rw[if_pos (by simp;omega)];simpa using h1
     ·rw[ct];simp only[bytesRow,q71,q117];rw[G6 (m%128+128) (by omega)];simp
   ·rw[if_neg hlt,q147]at h1;simp(config := { maxSteps := 3000000 }) [hlt];rw[h1]
 ·cases h
def oU (s:List UInt8):List UInt8:=fC s.length++s
@[simp] def NS:List AV→Option (Prop×AV)|[.pv (.str s)]=>some (s.length≤1000000,.fr 5 (bytesRow (oU s)))|_=>none
theorem HH:aJ Tryz.prog 113 NS:=by
 intro ys φ r h hφ;unfold NS at h;split at h;·rename_i s;cases h;refine ak (ag zT ah) (by kernel_rfl) (by conv=>lhs;reduce) (by simp) ?_;have hl:=iK (n:=s.length) (by omega);have w1:IntKind.u64.wrap (s.length:Int)=(s.length:Int):=wrap_u64 (by omega);simp(config := { maxSteps := 3000000 }) [w1,cW,ax,oU,ct];exact⟨by omega,by omega,by omega,dq s⟩
 ·cases h
@[simp] noncomputable def IZ:List AV→Option (Prop×AV)|[.pv (.ro a),.pv (.ro b)]=>(dec fM a).bind fun la=>(dec fM b).map fun lb=>(la.length≤1000000000,.pv (.bool (decide (la=lb))))|_=>none
theorem JL:aJ Tryz.prog 23 IZ:=by
 intro ys φ r h hφ;unfold IZ at h;split at h
 ·rename_i ra rb;obtain⟨a,ha,h⟩:=q63.1 h;obtain⟨b,hb,h⟩:=q0.1 h;cases h;cases en ha;cases en hb;refine ak ah (by kernel_rfl) (by conv=>lhs;reduce) (by simp) ?_;simp(config := { maxSteps := 3000000 });refine⟨fun hne=>?_,fun hlen=>?_⟩;·intro e;exact hne (by rw[e])
  refine aj (fun i:Nat=>i≤a.length∧a.take i=b.take i) (fun i=>⟨[(0,.pv (.ro (bytesRow a))),(1,.pv (.ro (bytesRow b))),(5,.pv (.int .i64 i))],[]⟩) (fun i=>a.length-i) [] 0 (by simp) ?_ ?_;·simp
  ·rintro i ⟨hi,ht⟩;have w2:IntKind.i64.wrap ((i:Int)+1)=(i:Int)+1:=wrap_i64 (by omega);by_cases hlt:i<a.length
   ·have r1:=R.bytesRow_at hlt;have hlb:i<b.length:=by omega
    have r2:=R.bytesRow_at hlb;simp(config := { maxSteps := 3000000 }) [w2,hlt,hlb,r1,r2];refine⟨fun hne e=>hne (by subst e;rfl),fun heq=>⟨i+1,⟨by omega,?_⟩,by omega,by omega⟩⟩;rw[q62 hlt,q62 hlb,ht];congr 2;exact q244.1 (by omega)
   ·simp(config := { maxSteps := 3000000 }) [hlt];rw[List.take_of_length_le (by omega),List.take_of_length_le (by omega)]at ht;exact ht
 ·cases h
def Db:List UInt8→Nat→Nat→Nat×Nat×Int|[],_,_=>(0,0,10)|c::l,i,n=>if(i=9∧1<c.toNat)∨(c.toNat=0∧0<i) then(0,0,11) else if c.toNat<128 then(n+c.toNat%128*2^(7*i),i+1,0) else Db l (i+1) (n+c.toNat%128*2^(7*i))
def cB (b:List UInt8) (p:Int):Int×Int×Int:=if p<0∨(b.length:Int)≤p then(0,p,10) else(((Db (b.drop p.toNat) 0 0).1:Int),p+((Db (b.drop p.toNat) 0 0).2.1:Int),(Db (b.drop p.toNat) 0 0).2.2)
def val:List UInt8→Nat|[]=>0|c::l=>c.toNat%128+128*val l
theorem DQ:∀(k n:Nat),n<2^(7*(k+1))→(fC n).length≤k+1
 |0,n,h=>by rw[df (by simpa using h)];simp|k+1,n,h=>by
  by_cases hn:n<128;·rw[df hn];simp
  ·rw[jb hn];have:2^(7*(k+1+1))=128*2^(7*(k+1)):=by rw[Nat.mul_add 7 (k+1),Nat.pow_add];omega
   have:=DQ k (n/128) (by omega);simp only[q79];omega
@[simp] noncomputable def Gtake:List AV→Option (Prop×AV)|[.pv (.ro b),.pv (.int .i64 p)]=>(dec fM b).map fun l=>(l.length≤1000000000∧-9223372036854775808≤p∧p≤9223372036854775807,.aO [.pv (.int .u64 (cB l p).1),.pv (.int .i64 (cB l p).2.1),.pv (.int .i64 (cB l p).2.2)])|_=>none
def vq (b:List UInt8) (p:Int):List UInt8×Int×Int:=if(cB b p).2.2≠0 then([],p,(cB b p).2.2) else if(b.length:Int)-(cB b p).2.1<(cB b p).1 then([],p,10) else((b.drop (cB b p).2.1.toNat).take (cB b p).1.toNat,(cB b p).2.1+(cB b p).1,0)
@[simp] noncomputable def GtakeT:List AV→Option (Prop×AV)|[.pv (.ro b),.pv (.int .i64 p)]=>(dec fM b).map fun l=>(l.length≤1000000000∧-9223372036854775808≤p∧p≤9223372036854775807,.aO [.pv (.str (vq l p).1),.pv (.int .i64 (vq l p).2.1),.pv (.int .i64 (vq l p).2.2)])|_=>none
def Si (b:List UInt8) (at':Nat) (w:List UInt8):Bool:=decide (at'+w.length≤b.length∧(b.drop at').take w.length=w)
@[simp] noncomputable def Gstand:List AV→Option (Prop×AV)|[.pv (.ro b),.pv (.int .i64 i),.pv (.ro w)]=>(dec fM b).bind fun lb=>(dec fM w).map fun lw=>(0≤i∧i≤1000000000∧lb.length≤1000000000∧lw.length≤1000000000,.pv (.bool (Si lb i.toNat lw)))|_=>none
structure Pn where
 i:Int
 v:Int
 u:Int deriving DecidableEq
def rowP (e:Pn):List PV:=[.int .u64 e.i,.int .u64 e.v,.int .u64 e.u]
theorem iM:∀a b,rowP a=rowP b→a=b:=by rintro⟨k,n,t⟩ ⟨k',n',t'⟩ h;simp only[rowP,q110,PV.int.injEq,true_and,and_true]at h;obtain⟨h1,h2,h3⟩:=h;rw[h1,h2,h3]
def au (l:List Pn):List (List PV):=l.map rowP
@[simp] theorem Vp:au []=[]:=rfl
@[simp] theorem ec (l:List Pn):(au l).length=l.length:=by simp[au]
theorem bQ (l m:List Pn):au (l++m)=au l++au m:=by simp[au]
theorem bH (l:List Pn):∀r∈au l,r.length=3:=by intro r hr;simp only[au,q84]at hr;obtain⟨c,_,rfl⟩:=hr;rfl
theorem bo {l:List Pn} (h:i<l.length):rowAt (au l) (i:Int)=[.int .u64 l[i].i,.int .u64 l[i].v,.int .u64 l[i].u]:=by simp[rowAt,au,h,rowP]
@[simp] theorem Te (l:List Pn):dec rowP (au l)=some l:=jH iM l
theorem az {l:List Pn} (h:dec rowP rows=some l):rows=au l:=jz h
theorem aF (l:List Pn):bp (au l):=by intro r hr p hp;simp only[au,q84]at hr;obtain⟨c,_,rfl⟩:=hr;simp only[rowP,q76,q92,or_false]at hp;rcases hp with rfl|rfl|rfl<;>rfl
def kf (l:List Pn):Bool:=(List.range (l.length-1)).all fun k=>match l[k]?,l[k+1]? with|some a,some b=>decide (a.i<b.i)|_,_=>true
theorem qX (l:List Pn):kf l=true↔∀(k:Nat) (h:k+1<l.length),l[k].i<l[k+1].i:=by
 unfold kf;rw[q90];constructor;·intro h k hk;have:=h k (by rw[q162];omega);rw[q64 (by omega),q64 hk]at this;simpa using this
 ·intro h k hk;rw[q162]at hk;rw[q64 (by omega),q64 (show k+1<l.length by omega)];simpa using h k (by omega)
theorem xI {l:List Pn} (h:k+1<l.length) (hk:l[k+1].i≤l[k].i):kf l=false:=by cases hr:kf l with|false=>rfl|true=>have:=(qX l).1 hr k h;omega
@[simp] noncomputable def GpR:List AV→Option (Prop×AV)|[.agg [.pv (.ro a)]]=>(dec rowP a).map fun l=>(l.length≤1000000000,.pv (.bool (kf l)))|_=>none
@[simp] noncomputable def GrR:List AV→Option (Prop×AV)|[.pv (.ro a)]=>(dec rowP a).map fun l=>(l.length≤1000000000,.pv (.bool (kf l)))|_=>none
theorem AY:aJ Tryz.prog 115 GpR:=by
 intro ys φ r h hφ;unfold GpR at h;split at h
 ·rename_i ra;obtain⟨a,ha,h⟩:=q0.1 h;cases h;cases az ha;refine ak ah (by kernel_rfl) (by conv=>lhs;reduce) (by simp) ?_;simp(config := { maxSteps := 3000000 });refine aj (fun i:Nat=>i≤a.length∧∀(k:Nat) (h:k+1<a.length),k+1<i→a[k].i<a[k+1].i) (fun i=>⟨[(1,.ptr 1 0),(6,.pv (.int .i64 a.length)),(7,.pv (.int .i64 i))],[(1,.box [.pv (.ro (au a))])]⟩) (fun i=>a.length-i) [] 0 ?_ ?_ ?_;·exact⟨q126 _,fun k h h2=>absurd h2 (by omega)⟩
  ·simp
  ·rintro i ⟨hi,ht⟩;have w2:IntKind.i64.wrap ((i:Int)+1)=(i:Int)+1:=wrap_i64 (by omega);have w3:IntKind.i64.wrap ((i:Int)-1)=(i:Int)-1:=wrap_i64 (by omega);by_cases hlt:i<a.length
   ·have r1:=bo hlt;by_cases h0:i=0;·subst h0;have wm:IntKind.i64.wrap (-1)=-1:=wrap_i64 (by omega);have rm:rowAt (au a) (-1)=[.int .u64 a[0].i,.int .u64 a[0].v,.int .u64 a[0].u]:=r1;have rz:rowAt (au a) 0=[.int .u64 a[0].i,.int .u64 a[0].v,.int .u64 a[0].u]:=r1;simp(config := { maxSteps := 3000000 }) [hlt,rm,rz,wm];exact⟨1,⟨by omega,fun k h h2=>absurd h2 (by omega)⟩,by rw[wrap_i64 (by omega)];rfl,by omega⟩
    ·obtain⟨k,hik⟩:∃k,i=k+1:=⟨i-1,by omega⟩;have hk:k<a.length:=by omega
     have r2:=bo hk;have w3:IntKind.i64.wrap ((i:Int)-1)=(k:Int):=by rw[wrap_i64 (by omega)];omega
     have h0i:0<i:=by omega
     simp(config := { maxSteps := 3000000 }) [w2,w3,hlt,hk,r1,r2,h0i];subst hik;refine⟨fun h=>xI (k:=k) hlt h,fun h=>⟨k+2,⟨by omega,fun j hj h2=>?_⟩,by omega,by omega⟩⟩;by_cases hjk:j=k;·subst hjk;exact h
     ·exact ht j hj (by omega)
   ·simp(config := { maxSteps := 3000000 }) [hlt];rw[qX];exact fun k h=>ht k h (by omega)
 ·cases h
theorem Iy:aJ Tryz.prog 126 GrR:=by
 intro ys φ r h hφ;unfold GrR at h;split at h
 ·rename_i ra;obtain⟨a,ha,h⟩:=q0.1 h;cases h;cases az ha;refine ak ah (by kernel_rfl) (by conv=>lhs;reduce) (by simp) ?_;simp(config := { maxSteps := 3000000 });refine aj (fun i:Nat=>1≤i∧i≤a.length+1∧∀(k:Nat) (h:k+1<a.length),k+1<i→a[k].i<a[k+1].i) (fun i=>⟨[(0,.pv (.ro (au a))),(3,.pv (.int .i64 i))],[]⟩) (fun i=>a.length+1-i) [] 1 ?_ ?_ ?_;·exact⟨by omega,by omega,fun k h h2=>absurd h2 (by omega)⟩
  ·simp
  ·rintro i ⟨hi1,hi,ht⟩;obtain⟨k,hik⟩:∃k,i=k+1:=⟨i-1,by omega⟩;have w2:IntKind.i64.wrap ((i:Int)+1)=(i:Int)+1:=wrap_i64 (by omega);have w3:IntKind.i64.wrap ((i:Int)-1)=(k:Int):=by rw[wrap_i64 (by omega)];omega
   by_cases hlt:i<a.length
   ·have r1:=bo hlt;have hk:k<a.length:=by omega
    have r2:=bo hk;simp(config := { maxSteps := 3000000 }) [w2,w3,hlt,hk,r1,r2];subst hik;refine⟨fun h=>xI (k:=k) hlt h,fun h=>⟨k+2,⟨by omega,by omega,fun j hj h2=>?_⟩,by omega,by omega⟩⟩;by_cases hjk:j=k;·subst hjk;exact h
    ·exact ht j hj (by omega)
   ·simp(config := { maxSteps := 3000000 }) [hlt];rw[qX];exact fun k h=>ht k h (by omega)
 ·cases h
@[simp] noncomputable def GS1:List AV→Option (Prop×AV)|[.agg [.pv (.int .u64 a),.pv (.int .u64 b),.pv (.int .u64 c)],.agg [.pv (.int .u64 d),.pv (.int .u64 e),.pv (.int .u64 f)]]=>some (True,.pv (.bool (decide (a=d)&&(decide (b=e)&&decide (c=f)))))|_=>none
theorem c_S1:aJ Tryz.prog 111 GS1:=by
 intro ys φ r h hφ;unfold GS1 at h;split at h;·cases h;refine ak ah (by kernel_rfl) (by conv=>lhs;reduce) (by simp) ?_;simp(config := { maxSteps := 3000000 })
 ·cases h
@[simp] noncomputable def GrS:List AV→Option (Prop×AV)|[.pv (.ro a),.pv (.ro b)]=>(dec rowP a).bind fun la=>(dec rowP b).map fun lb=>(la.length≤1000000000,.pv (.bool (decide (la=lb))))|_=>none
theorem LO:aJ Tryz.prog 65 GrS:=by
 intro ys φ r h hφ;unfold GrS at h;split at h
 ·rename_i ra rb;obtain⟨a,ha,h⟩:=q63.1 h;obtain⟨b,hb,h⟩:=q0.1 h;cases h;cases az ha;cases az hb;refine ak ah (by kernel_rfl) (by conv=>lhs;reduce) (by simp) ?_;simp(config := { maxSteps := 3000000 });refine⟨fun hne=>?_,fun hlen=>?_⟩;·intro e;exact hne (by rw[e])
  refine aj (fun i:Nat=>i≤a.length∧a.take i=b.take i) (fun i=>⟨[(0,.pv (.ro (au a))),(1,.pv (.ro (au b))),(5,.pv (.int .i64 i))],[]⟩) (fun i=>a.length-i) [] 0 (by simp) ?_ ?_;·simp
  ·rintro i ⟨hi,ht⟩;have w2:IntKind.i64.wrap ((i:Int)+1)=(i:Int)+1:=wrap_i64 (by omega);by_cases hlt:i<a.length
   ·have r1:=bo hlt;have hlb:i<b.length:=by omega
    have r2:=bo hlb;simp(config := { maxSteps := 3000000 }) [w2,hlt,hlb,r1,r2];refine⟨fun hne e=>by subst e;simp at hne,fun h1 h2 h3=>⟨i+1,⟨by omega,?_⟩,by omega,by omega⟩⟩;rw[q62 hlt,q62 hlb,ht];congr 2;exact iM _ _ (by simp only[rowP,h1,h2,h3])
   ·simp(config := { maxSteps := 3000000 }) [hlt];rw[List.take_of_length_le (by omega),List.take_of_length_le (by omega)]at ht;exact ht
 ·cases h
@[simp] noncomputable def GEq:List AV→Option (Prop×AV)|[.pv (.ro a),.pv (.ro b),.bE f []]=>if f=111 then(dec rowP a).bind fun la=>(dec rowP b).map fun lb=>(la.length≤1000000000,.pv (.bool (decide (la=lb)))) else none|_=>none
theorem PJ:fF Tryz.prog 111=true:=by kernel_rfl
theorem c_Eq:aJ Tryz.prog 110 GEq:=by
 intro ys φ r h hφ;unfold GEq at h;split at h
 ·rename_i ra rb f;split at h
  ·rename_i hf;subst hf;obtain⟨a,ha,h⟩:=q63.1 h;obtain⟨b,hb,h⟩:=q0.1 h;cases h;cases az ha;cases az hb;refine ak (ag c_S1 ah) (by kernel_rfl) (by conv=>lhs;reduce) (by simp) ?_;simp(config := { maxSteps := 3000000 });refine⟨fun hne=>?_,fun hlen=>?_⟩;·intro e;exact hne (by rw[e])
   refine aj (fun i:Nat=>i≤a.length∧a.take i=b.take i) (fun i=>⟨[(0,.pv (.ro (au a))),(1,.pv (.ro (au b))),(2,.bE 111 []),(15,.pv (.ro (au a))),(16,.pv (.int .i64 a.length)),(17,.pv (.int .i64 i))],[]⟩) (fun i=>a.length-i) [] 0 (by simp) ?_ ?_;·simp
   ·rintro i ⟨hi,ht⟩;have w2:IntKind.i64.wrap ((i:Int)+1)=(i:Int)+1:=wrap_i64 (by omega);by_cases hlt:i<a.length
    ·have r1:=bo hlt;have hlb:i<b.length:=by omega
     have r2:=bo hlb;simp(config := { maxSteps := 3000000 }) [w2,hlt,hlb,r1,r2,PJ];refine⟨fun hne e=>by subst e;simp at hne,fun h1 h2 h3=>⟨i+1,⟨by omega,?_⟩,by omega,by omega⟩⟩;rw[q62 hlt,q62 hlb,ht];congr 2;exact iM _ _ (by simp only[rowP,h1,h2,h3])
    ·simp(config := { maxSteps := 3000000 }) [hlt];rw[List.take_of_length_le (by omega),List.take_of_length_le (by omega)]at ht;exact ht
  ·cases h
 ·cases h
@[simp] noncomputable def GpS:List AV→Option (Prop×AV)|[.agg [.pv (.ro a)],.agg [.pv (.ro b)]]=>(dec rowP a).bind fun la=>(dec rowP b).map fun lb=>(la.length≤1000000000,.pv (.bool (decide (la=lb))))|_=>none
theorem Jg:aJ Tryz.prog 69 GpS:=by
 intro ys φ r h hφ;unfold GpS at h;split at h;·rename_i ra rb;obtain⟨a,ha,h⟩:=q63.1 h;obtain⟨b,hb,h⟩:=q0.1 h;cases h;cases az ha;cases az hb;refine ak (ag c_Eq ah) (by kernel_rfl) (by conv=>lhs;reduce) (by simp) ?_;simp(config := { maxSteps := 3000000 });exact hφ
 ·cases h
@[simp] noncomputable def Gpref:List AV→Option (Prop×AV)|[.agg [.pv (.ro a)]]=>(dec rowP a).map fun l=>(l.length≤100000000,.fr 162 (au l))|_=>none
@[simp] noncomputable def aad:List AV→Option (Prop×AV)|[.pv (.ro a)]=>(dec rowP a).map fun l=>(l.length≤100000000,.fr 134 (au l))|_=>none
theorem pT:aJ Tryz.prog 57 aad:=by
 intro ys φ r h hφ;unfold aad at h;split at h;·rename_i ra;obtain⟨a,ha,h⟩:=q0.1 h;cases h;cases az ha;refine ak ah (by kernel_rfl) (by conv=>lhs;reduce) (by simp) ?_;cases a with|nil=>simp(config := { maxSteps := 3000000 }) [mD]|cons x l=>have hx:au (x::l)=rowP x::au l:=rfl;simp(config := { maxSteps := 3000000 }) [hx,ax];simp only[q79]at hφ;exact⟨by omega,by omega,rfl,bH l⟩
 ·cases h
@[simp] noncomputable def GOf1:List AV→Option (Prop×AV)|[.agg [.pv (.int .u64 a),.pv (.int .u64 b),.pv (.int .u64 c)],.rp [.int .u64 n]]=>some (True,.pv (.bool (decide (b=n))))|_=>none
@[simp] noncomputable def aa4:List AV→Option (Prop×AV)|[.agg [.pv (.int .u64 a),.pv (.int .u64 b),.pv (.int .u64 c)],.rp [.int .u64 n]]=>some (True,.pv (.bool (decide (a=n))))|_=>none
theorem WC:aJ Tryz.prog 187 aa4:=by
 intro ys φ r h hφ;unfold aa4 at h;split at h;·cases h;refine ak ah (by kernel_rfl) (by conv=>lhs;reduce) (by simp) ?_;simp(config := { maxSteps := 3000000 })
 ·cases h
def To (f:FuncId) (n:Int) (e:Pn):Bool:=decide (e.i=n)
def oi (p:Pn→Bool) (l:List Pn):Int:=if l.findIdx p<l.length then(l.findIdx p:Nat) else-1
theorem yv {p:Pn→Bool}{l:List Pn} (hi:i<l.length) (h:p l[i]=true) (ha:∀e∈l.take i,p e=false):oi p l=(i:Int):=by
 have:l.findIdx p=i:=by rw[q166 hi];refine⟨h,fun j hj=>?_⟩;exact ha l[j] (by rw[q91];exact⟨j,by omega,rfl⟩)
 unfold oi;rw[this,if_pos hi]
theorem kr {p:Pn→Bool}{l:List Pn} (ha:∀e∈l,p e=false):oi p l=-1:=by
 have:l.findIdx p=l.length:=by rw[q208];exact ha
 unfold oi;rw[this,if_neg (by omega)]
theorem Ht (p:Pn→Bool) (l:List Pn):(0≤oi p l)=(l.any p=true):=by
 apply propext;by_cases h:l.any p=true
 ·obtain⟨e,he,hr⟩:=q112.1 h;have:l.findIdx p<l.length:=by rw[q209];exact⟨e,he,hr⟩
  unfold oi;rw[if_pos this];simp[h]
 ·have h':l.any p=false:=by simpa using h
  rw[q141]at h';rw[kr fun e he=>by simpa using h' e he];simp[h]
@[simp] noncomputable def GIx:List AV→Option (Prop×AV)|[.pv (.ro a),.bE f [.rp [.int .u64 n]]]=>if f=187 then(dec rowP a).map fun l=>(l.length≤1000000000,.pv (.int .i64 (oi (To f n) l))) else none|_=>none
theorem Jh:fF Tryz.prog 187=true:=by kernel_rfl
theorem c_Ix:aJ Tryz.prog 186 GIx:=by
 intro ys φ r h hφ;unfold GIx at h;split at h
 ·rename_i ra f n;split at h
  ·rename_i hf;obtain⟨a,ha,h⟩:=q0.1 h;cases h;cases az ha;have hfn:fF Tryz.prog f=true:=by rw[hf];exact Jh
   refine ak (ag WC ah) (by kernel_rfl) (by conv=>lhs;reduce) (by simp) ?_;simp(config := { maxSteps := 3000000 });refine aj (fun i:Nat=>i≤a.length∧∀e∈a.take i,To f n e=false) (fun i=>⟨[(0,.pv (.ro (au a))),(1,.bE f [.rp [.int .u64 n]]),(7,.pv (.int .i64 a.length)),(8,.pv (.int .i64 i))],[]⟩) (fun i=>a.length-i) [] 0 (by simp) ?_ ?_;·simp
   ·rintro i ⟨hi,ht⟩;have w2:IntKind.i64.wrap ((i:Int)+1)=(i:Int)+1:=wrap_i64 (by omega);by_cases hlt:i<a.length
    ·have r1:=bo hlt;have hr:To f n a[i]=false→∀e∈a.take (i+1),To f n e=false:=by
      intro h0 e he;rw[q62 hlt,q80]at he;rcases he with he|he;·exact ht e he
      ·rw[q75]at he;rw[he];exact h0
     subst hf;·have hp:To 187 n a[i]=decide (a[i].i=n):=rfl;simp(config := { maxSteps := 3000000 }) [w2,hlt,r1,hfn];refine⟨fun h=>(yv hlt (by rw[hp];simpa using h) ht).symm,fun h=>⟨i+1,⟨by omega,hr (by rw[hp];simpa using h)⟩,by omega,by omega⟩⟩
    ·simp(config := { maxSteps := 3000000 }) [hlt];rw[List.take_of_length_le (by omega)]at ht;exact(kr ht).symm
  ·cases h
 ·cases h
def dX (n:Int):List PV:=[.int .u64 n]
theorem F7:∀a b,dX a=dX b→a=b:=by intro a b h;simpa[dX]using h
def cm (l:List Int):List (List PV):=l.map dX
@[simp] theorem Tc:cm []=[]:=rfl
@[simp] theorem Jq (l:List Int):(cm l).length=l.length:=by simp[cm]
theorem pW (l m:List Int):cm (l++m)=cm l++cm m:=by simp[cm]
theorem fh {l:List Int} (h:i<l.length):rowAt (cm l) (i:Int)=[.int .u64 l[i]]:=by simp[rowAt,cm,h,dX]
@[simp] theorem mX (l:List Int):dec dX (cm l)=some l:=jH F7 l
theorem dM {l:List Int} (h:dec dX rows=some l):rows=cm l:=jz h
theorem tP (l:List UInt8):bp (bytesRow l):=by intro r hr p hp;simp only[bytesRow,q84]at hr;obtain⟨c,_,rfl⟩:=hr;simp only[q75]at hp;subst hp;rfl
theorem uC (l:List Int):bp (cm l):=by intro r hr p hp;simp only[cm,q84]at hr;obtain⟨c,_,rfl⟩:=hr;simp only[dX,q75]at hp;subst hp;rfl
def cy (n:Int):Prop:=0≤n∧n≤18446744073709551615
def lI (l:List Int):List UInt8:=l.flatMap cW
theorem gg {n:Int} (h:cy n):(cW n).length≤10:=by obtain⟨h1,h2⟩:=h;unfold cW;exact DQ 9 _ (by omega)
theorem ug:∀{l:List Int},(∀n∈l,cy n)→(lI l).length≤10*l.length|[],_=>by simp[lI]|n::l,h=>by have h1:=gg (h n (by simp));have h2:=ug (l:=l) fun m hm=>h m (by simp[hm]);unfold lI at h2 ⊢;simp only[q106,q74,q79];omega
theorem E8 (l:List Int) (n:Int):lI (l++[n])=lI l++cW n:=by simp[lI]
noncomputable def Le:List AV→Option (Prop×AV)|[.pv (.ro a)]=>(dec dX a).map fun l=>(l.length≤1000000∧(∀n∈l,cy n),.fr 5 (bytesRow (lI l)))|_=>none
@[simp] theorem Lh (a:List (List PV)):Le [.pv (.ro a)]=(dec dX a).map fun l=>(l.length≤1000000∧(∀n∈l,cy n),.fr 5 (bytesRow (lI l))):=rfl
theorem H9:aJ Tryz.prog 40 Le:=by
 intro ys φ r h hφ;unfold Le at h;split at h
 ·rename_i ra;obtain⟨a,ha,h⟩:=q0.1 h;cases h;cases dM ha;obtain⟨hl,hn⟩:=hφ;refine ak (ag zT ah) (by kernel_rfl) (by conv=>lhs;reduce) (by simp) ?_;simp(config := { maxSteps := 3000000 });refine aj (fun i:Nat=>i≤a.length) (fun i=>⟨[(2,.own 2),(5,.pv (.ro (cm a))),(6,.pv (.int .i64 a.length)),(7,.pv (.int .i64 i))],[(2,.arr 5 (bytesRow (lI (a.take i))))]⟩) (fun i=>a.length-i) [] 0 (by simp) ?_ ?_;·simp[lI]
  ·rintro i hi;have w2:IntKind.i64.wrap ((i:Int)+1)=(i:Int)+1:=wrap_i64 (by omega);by_cases hlt:i<a.length;·have r1:=fh hlt;have ho:=hn _ (q82 hlt);have h1:=gg ho;have h2:=ug (l:=a.take i) fun n h=>hn n (q107 h);rw[q67]at h2;obtain⟨o1,o2⟩:=ho;simp(config := { maxSteps := 3000000 }) [w2,hlt,r1,ax,o1,o2];refine⟨⟨by omega,by omega,dq _⟩,i+1,by omega,⟨by omega,?_⟩,by omega⟩;rw[q62 hlt,E8,ct]
   ·simp(config := { maxSteps := 3000000 }) [hlt];rw[List.take_of_length_le (by omega)]
 ·cases h
def ki (e:Pn):Prop:=cy e.i∧cy e.v∧cy e.u
def Fj (e:Pn):List UInt8:=cW e.i++(cW e.v++cW e.u)
def nI (l:List Pn):List UInt8:=l.flatMap Fj
def wZ (l:List Pn):List UInt8:=cW l.length++nI l
theorem Ga (e:Pn):lI [e.i,e.v,e.u]=Fj e:=by simp[lI,Fj]
theorem zG {e:Pn} (h:ki e):(Fj e).length≤30:=by have h1:=gg h.1;have h2:=gg h.2.1;have h3:=gg h.2.2;simp[Fj];omega
theorem qw:∀{l:List Pn},(∀n∈l,ki n)→(nI l).length≤30*l.length|[],_=>by simp[nI]|n::l,h=>by have h1:=zG (h n (by simp));have h2:=qw (l:=l) fun m hm=>h m (by simp[hm]);unfold nI at h2 ⊢;simp only[q106,q74,q79];omega
theorem CO (l:List Pn) (n:Pn):nI (l++[n])=nI l++Fj n:=by simp[nI]
theorem Fl (a b c:Int):dec dX [[.int .u64 a],[.int .u64 b],[.int .u64 c]]=some [a,b,c]:=mX [a,b,c]
@[simp] noncomputable def Nf:List AV→Option (Prop×AV)|[.agg [.pv (.ro a)]]=>(dec rowP a).map fun l=>(l.length≤1000000∧(∀n∈l,ki n),.fr 5 (bytesRow (wZ l)))|_=>none
theorem PI:aJ Tryz.prog 118 Nf:=by
 intro ys φ r h hφ;unfold Nf at h;split at h
 ·rename_i ra;obtain⟨a,ha,h⟩:=q0.1 h;cases h;cases az ha;obtain⟨hl,hn⟩:=hφ;refine ak (ag zT (ag H9 ah)) (by kernel_rfl) (by conv=>lhs;reduce) (by simp) ?_;have wl:IntKind.u64.wrap (a.length:Int)=(a.length:Int):=wrap_u64 (by omega);have l0:(0:Int)≤(a.length:Int):=by omega
  have l1:(a.length:Int)≤18446744073709551615:=by omega
  have hv:=gg (n:=(a.length:Int)) ⟨by omega,by omega⟩;simp(config := { maxSteps := 3000000 }) [wl,l0,l1];refine aj (fun i:Nat=>i≤a.length) (fun i=>⟨[(1,.ptr 1 0),(3,.own 10),(12,.pv (.ro (au a))),(13,.pv (.int .i64 a.length)),(14,.pv (.int .i64 i))],[(1,.box [.pv (.ro (au a))]),(10,.arr 5 (bytesRow (cW a.length++nI (a.take i))))]⟩) (fun i=>a.length-i) [] 0 (by simp) ?_ ?_;·simp[nI]
  ·rintro i hi;have w2:IntKind.i64.wrap ((i:Int)+1)=(i:Int)+1:=wrap_i64 (by omega);by_cases hlt:i<a.length
   ·have r1:=bo hlt;have ho:=hn _ (q82 hlt);have h1:=zG ho;have h2:=qw (l:=a.take i) fun n h=>hn n (q107 h);rw[q67]at h2;obtain⟨o1,o2,o3⟩:=ho;simp(config := { maxSteps := 3000000 }) [w2,hlt,r1,ax,o1,o2,o3,Fl,Ga];first|refine⟨tP _,⟨by omega,by omega,dq _⟩,i+1,by omega,⟨by omega,?_⟩,by omega⟩|refine⟨⟨by omega,by omega,dq _⟩,i+1,by omega,⟨by omega,?_⟩,by omega⟩
    rw[q62 hlt,CO,←q96,ct (cW _++_)]
   ·simp(config := { maxSteps := 3000000 }) [hlt];rw[List.take_of_length_le (by omega)];rfl
 ·cases h
@[simp] noncomputable def GrPut:List AV→Option (Prop×AV)|[.pv (.ro a)]=>(dec rowP a).map fun l=>(l.length≤1000000∧(∀n∈l,ki n),.fr 5 (bytesRow (wZ l)))|_=>none
def fQ (b:List UInt8):Nat→Int→List Int×Int×Int|0,p=>([],p,0)|k+1,p=>if(cB b p).2.2≠0 then([],0,(cB b p).2.2) else if(fQ b k (cB b p).2.1).2.2≠0 then([],0,(fQ b k (cB b p).2.1).2.2) else((cB b p).1::(fQ b k (cB b p).2.1).1,(fQ b k (cB b p).2.1).2.1,0)
def Gz (b:List UInt8) (p:Int) (k:Nat):List Int×Int×Int:=if(fQ b k p).2.2≠0 then([],p,(fQ b k p).2.2) else fQ b k p
def ahead (L:List Int) (q:List Int×Int×Int):List Int×Int×Int:=if q.2.2≠0 then([],0,q.2.2) else(L++q.1,q.2.1,0)
@[simp] noncomputable def GtA:List AV→Option (Prop×AV)|[.pv (.ro b),.pv (.int .i64 p),.pv (.int .i64 k)]=>(dec fM b).map fun l=>(l.length≤1000000000∧-9223372036854775808≤p∧p≤9223372036854775807∧0≤k∧k≤1000,.aO [.fr 22 (cm (Gz l p k.toNat).1),.pv (.int .i64 (Gz l p k.toNat).2.1),.pv (.int .i64 (Gz l p k.toNat).2.2)])|_=>none
def pnOf:List Int→Pn|[a,b,c]=>⟨a,b,c⟩|_=>⟨0,0,0⟩
def lR (b:List UInt8):Nat→Int→Int→List Pn×Int×Int|0,_,q=>([],q,0)|f+1,n,q=>if n≤0 then([],q,0) else if(fQ b 3 q).2.2≠0 then([],0,(fQ b 3 q).2.2) else if(lR b f (n-1) (fQ b 3 q).2.1).2.2≠0 then([],0,(lR b f (n-1) (fQ b 3 q).2.1).2.2) else(pnOf (fQ b 3 q).1::(lR b f (n-1) (fQ b 3 q).2.1).1,(lR b f (n-1) (fQ b 3 q).2.1).2.1,0)
def xG (b:List UInt8) (p:Int):List Pn×Int×Int:=if(cB b p).2.2≠0 then([],p,(cB b p).2.2) else if(lR b (b.length+1) (cB b p).1 (cB b p).2.1).2.2≠0 then([],p,(lR b (b.length+1) (cB b p).1 (cB b p).2.1).2.2) else if kf (lR b (b.length+1) (cB b p).1 (cB b p).2.1).1=false then([],p,2) else lR b (b.length+1) (cB b p).1 (cB b p).2.1
@[simp] noncomputable def GrTk:List AV→Option (Prop×AV)|[.pv (.ro b),.pv (.int .i64 p)]=>(dec fM b).map fun l=>(l.length≤100000000∧-9223372036854775808≤p∧p≤9223372036854775807,.aO [.fr 162 (au (xG l p).1),.pv (.int .i64 (xG l p).2.1),.pv (.int .i64 (xG l p).2.2)])|_=>none
@[simp] noncomputable def GpTk:List AV→Option (Prop×AV)|[.pv (.ro b),.pv (.int .i64 p)]=>(dec fM b).map fun l=>(l.length≤100000000∧-9223372036854775808≤p∧p≤9223372036854775807,.aO [.agg [.fr 134 (au (xG l p).1)],.pv (.int .i64 (xG l p).2.1),.pv (.int .i64 (xG l p).2.2)])|_=>none
def mK (n u s:Int):Bool:=decide (u+s<n)
@[simp] noncomputable def D7:List AV→Option (Prop×AV)|[.pv (.int .u64 n),.pv (.int .u64 u),.pv (.int .u64 s)]=>some (cy n∧cy u∧cy s,.pv (.bool (mK n u s)))|_=>none
theorem Qx:aJ Tryz.prog 190 D7:=by
 intro ys φ r h hφ;unfold D7 at h;split at h
 ·rename_i n u s;cases h;obtain⟨⟨n1,n2⟩,⟨u1,u2⟩,⟨s1,s2⟩⟩:=hφ;refine ak ah (by kernel_rfl) (by conv=>lhs;reduce) (by simp) ?_;unfold mK;by_cases hc:u+s<18446744073709551616
  ·have e1:(u+s)/18446744073709551616=0:=by omega
   have e2:(u+s)%18446744073709551616=u+s:=by omega
   simp(config := { maxSteps := 3000000 }) [e1,e2,u1,s1]
  ·have e1:(u+s)/18446744073709551616=1:=by omega
   have e2:¬(u+s<n):=by omega
   simp(config := { maxSteps := 3000000 }) [e1,e2,u1,s1]
 ·cases h
theorem JP:aJ Tryz.prog 127 D7:=by
 intro ys φ r h hφ;unfold D7 at h;split at h
 ·rename_i n u s;cases h;obtain⟨⟨n1,n2⟩,⟨u1,u2⟩,⟨s1,s2⟩⟩:=hφ;refine ak ah (by kernel_rfl) (by conv=>lhs;reduce) (by simp) ?_;unfold mK;have w1:IntKind.u64.wrap (18446744073709551615-u)=18446744073709551615-u:=wrap_u64 (by omega);by_cases hc:s≤18446744073709551615-u;·have w2:IntKind.u64.wrap (u+s)=u+s:=wrap_u64 (by omega);simp(config := { maxSteps := 3000000 }) [w1,w2,hc]
  ·have e2:¬(u+s<n):=by omega
   simp(config := { maxSteps := 3000000 }) [w1,hc,e2]
 ·cases h
@[simp] noncomputable def aap:List AV→Option (Prop×AV)|[.agg [.pv (.int .u64 a),.pv (.int .u64 b),.pv (.int .u64 c)],.rp [.int .u64 n],.rp [.int .u64 s]]=>some (cy n∧cy c∧cy s,.pv (.bool (mK n c s)))|_=>none
theorem Mp:aJ Tryz.prog 189 aap:=by
 intro ys φ r h hφ;unfold aap at h;split at h;·cases h;obtain⟨h1,h2,h3⟩:=hφ;refine ak (ag Qx ah) (by kernel_rfl) (by conv=>lhs;reduce) (by simp) ?_;simp(config := { maxSteps := 3000000 }) [h1,h2,h3]
 ·cases h
theorem Eg:fF Tryz.prog 189=true:=by kernel_rfl
def fg (n s:Int) (e:Pn):Bool:=mK n e.u s
@[simp] noncomputable def YA:List AV→Option (Prop×AV)|[.pv (.ro a),.bE f [.rp [.int .u64 n],.rp [.int .u64 s]]]=>if f=189 then(dec rowP a).map fun l=>(l.length≤1000000000∧cy n∧cy s∧∀e∈l,cy e.u,.pv (.int .i64 (oi (fg n s) l))) else none|_=>none
theorem c_IxL:aJ Tryz.prog 186 YA:=by
 intro ys φ r h hφ;unfold YA at h;split at h
 ·rename_i ra f n s;split at h
  ·rename_i hf;subst hf;obtain⟨a,ha,h⟩:=q0.1 h;cases h;cases az ha;obtain⟨hl,o1,o2,o3⟩:=hφ;have hfn:=Eg;refine ak (ag Mp ah) (by kernel_rfl) (by conv=>lhs;reduce) (by simp) ?_;simp(config := { maxSteps := 3000000 });refine aj (fun i:Nat=>i≤a.length∧∀e∈a.take i,fg n s e=false) (fun i=>⟨[(0,.pv (.ro (au a))),(1,.bE 189 [.rp [.int .u64 n],.rp [.int .u64 s]]),(7,.pv (.int .i64 a.length)),(8,.pv (.int .i64 i))],[]⟩) (fun i=>a.length-i) [] 0 (by simp) ?_ ?_;·simp
   ·rintro i ⟨hi,ht⟩;have w2:IntKind.i64.wrap ((i:Int)+1)=(i:Int)+1:=wrap_i64 (by omega);by_cases hlt:i<a.length
    ·have r1:=bo hlt;have o4:cy a[i].u:=o3 _ (q82 hlt);have hr:fg n s a[i]=false→∀e∈a.take (i+1),fg n s e=false:=by
      intro h0 e he;rw[q62 hlt,q80]at he;rcases he with he|he;·exact ht e he
      ·rw[q75]at he;rw[he];exact h0
     by_cases hp:fg n s a[i]=true;·have hp':mK n a[i].u s=true:=hp;simp(config := { maxSteps := 3000000 }) [w2,hlt,r1,hfn,o1,o2,o4,hp'];exact(yv hlt hp ht).symm
     ·have hp0:fg n s a[i]=false:=by simpa using hp
      have hp':mK n a[i].u s=false:=hp0;simp(config := { maxSteps := 3000000 }) [w2,hlt,r1,hfn,o1,o2,o4,hp'];exact⟨i+1,⟨by omega,hr hp0⟩,by omega,by omega⟩
    ·simp(config := { maxSteps := 3000000 }) [hlt];rw[List.take_of_length_le (by omega)]at ht;exact(kr ht).symm
  ·cases h
 ·cases h
theorem Bt {p:Pn→Bool}{l:List Pn} (h:oi p l=(k:Int)):k<l.length∧(l.take (k+1)).filter (fun e=>!p e)=l.take k:=by
 unfold oi at h;split at h
 ·rename_i hlt;have hk:l.findIdx p=k:=by omega
  rw[hk]at hlt;refine⟨hlt,?_⟩;obtain⟨h1,h2⟩:=(q166 hlt).1 hk;rw[q62 hlt,q131];have hf:(l.take k).filter (fun e=>!p e)=l.take k:=by rw[q174];intro e he;rw[q91]at he;obtain⟨j,hj,rfl⟩:=he;have:=h2 j (by omega);simpa using this
  rw[hf];simp[h1]
 ·omega
theorem wG (l:List Pn) (i:Nat) (e:Pn):(au l).set i [.int .u64 e.i,.int .u64 e.v,.int .u64 e.u]=au (l.set i e):=by unfold au;rw[q217];rfl
def dP (l:List Pn) (n s:Int):List Pn:=l.filter fun e=>!fg n s e
@[simp] noncomputable def MJ:List AV→Option (Prop×AV)|[.fr e a,.bE f [.rp [.int .u64 n],.rp [.int .u64 s]]]=>if e=134∧f=189 then(dec rowP a).map fun l=>(l.length≤1000000∧cy n∧cy s∧∀e∈l,cy e.u,.fr 134 (au (dP l n s))) else none|_=>none
theorem QO:nM Tryz.prog 191 MJ:=by
 intro ys φ r h hφ;unfold MJ at h;split at h
 ·rename_i e ra f n s;split at h
  ·rename_i hef;obtain⟨rfl,rfl⟩:=hef;obtain⟨a,ha,h⟩:=q0.1 h;cases h;cases az ha;obtain⟨hl6,o1,o2,o3⟩:=hφ;refine na (ag c_IxL (ag Mp ah)) (by kernel_rfl) (by conv=>lhs;reduce) (by simp) (by simp[cY,mn,iL]) (by simp) ?_;have hl9:a.length≤1000000000:=by omega
   have isfn3:=Eg;by_cases hr:a.any (fg n s)=true
   ·have hw:0≤oi (fg n s) a:=by rw[Ht];exact hr
    obtain⟨k,hk⟩:=q191 hw;obtain⟨hkl,hkf⟩:=Bt hk;have hne:¬((k:Int)=-1):=by omega
    have w1:IntKind.i64.wrap ((k:Int)+1)=(k:Int)+1:=wrap_i64 (by omega);simp(config := { maxSteps := 3000000 }) [hk,hne,w1,hl9,o1,o2];refine⟨o3,?_⟩;refine aj (fun x:Nat×Nat×List Pn=>x.1<x.2.1∧x.2.1≤a.length∧x.2.2.length=a.length∧x.2.2.take x.1=(a.take x.2.1).filter (fun e=>!fg n s e)∧x.2.2.drop x.2.1=a.drop x.2.1) (fun x=>⟨[(0,.own 998),(1,.bE 189 [.rp [.int .u64 n],.rp [.int .u64 s]]),(5,.pv (.int .i64 x.1)),(6,.pv (.int .i64 x.2.1))],[(998,.arr 134 (au x.2.2))]⟩) (fun x=>a.length-x.2.1) [] (k,k+1,a) ?_ ?_ ?_;·exact⟨by simp,by simp;omega,rfl,by simp[hkf],rfl⟩
    ·simp
    ·rintro⟨i,j,b⟩ ⟨h1,h2,h3,h4,h5⟩;dsimp only at h1 h2 h3 h4 h5;have w2:IntKind.i64.wrap ((j:Int)+1)=(j:Int)+1:=wrap_i64 (by omega);have w3:IntKind.i64.wrap ((i:Int)+1)=(i:Int)+1:=wrap_i64 (by omega);by_cases hlt:j<a.length
     ·have hjb:j<b.length:=by omega
      have hib:i<b.length:=by omega
      have o4:cy a[j].u:=o3 _ (q82 hlt);have hbj:b[j]=a[j]:=by have e1:=q88 hjb;have e2:=q88 hlt;rw[h5,e2]at e1;injection e1 with e1 _;exact e1.symm
      have r1:=bo hjb;rw[hbj]at r1;have r2:=bo hib;have hib':(i:Int)<a.length:=by omega
      have hdrop:∀e,(b.set i e).drop (j+1)=a.drop (j+1):=by
       intro e;rw[q253 (by omega)];have e1:(b.drop j).drop 1=(a.drop j).drop 1:=by rw[h5]
       simpa[q258]using e1
      by_cases hq:fg n s a[j]=true
      ·have hq':mK n a[j].u s=true:=hq;simp(config := { maxSteps := 3000000 }) [w2,w3,hlt,hjb,r1,r2,h3,hq',wG,hib',o1,o2,o4,isfn3];refine⟨i,j+1,b,⟨by omega,by omega,h3,?_,?_⟩,⟨⟨rfl,by omega⟩,rfl⟩,by omega⟩;·rw[q62 hlt,q131,←h4];simp[hq]
       ·have e1:(b.drop j).drop 1=(a.drop j).drop 1:=by rw[h5]
        simpa[q258]using e1
      ·have hq0:fg n s a[j]=false:=by simpa using hq
       have hq':mK n a[j].u s=false:=hq0;simp(config := { maxSteps := 3000000 }) [w2,w3,hlt,hjb,r1,r2,h3,hq',wG,hib',o1,o2,o4,isfn3];refine⟨by omega,i+1,j+1,b.set i a[j],⟨by omega,by omega,by simp[h3],?_,hdrop _⟩,⟨⟨by omega,by omega⟩,rfl⟩,by omega⟩;rw[q62 hlt,q131,←h4,q62 (by simp;omega)];simp[hq0,q254]
     ·simp(config := { maxSteps := 3000000 }) [hlt,h3];have hja:j=a.length:=by omega
      subst hja;rw[q104]at h4;have h3r:=bH b;refine⟨⟨by omega,h3r⟩,⟨by omega,?_⟩,?_⟩
      ·rintro x (hx|⟨_,rfl⟩|hx);·exact h3r x (q107 hx)
       ·rfl
       ·exact h3r x (q123 hx)
      ·rw[q122 (by simp;omega),q145,Nat.min_self];unfold dP;rw[←h4];simp[au,q124]
   ·have hw:oi (fg n s) a=-1:=by apply kr;have:=hr;simp only[q112,not_exists,not_and]at this;intro e he;simpa using this e he
    have hfil:dP a n s=a:=by unfold dP;rw[q174];intro e he;have:=hr;simp only[q112,not_exists,not_and]at this;simpa using this e he
    simp(config := { maxSteps := 3000000 }) [hw,hfil,hl9,o1,o2];exact o3
  ·cases h
 ·cases h
@[simp] noncomputable def GY:List AV→Option (Prop×AV)|[.agg [.pv (.ro a)],.pv (.int .u64 n),.pv (.int .u64 s)]=>(dec rowP a).map fun l=>(l.length≤1000000∧cy n∧cy s∧∀e∈l,cy e.u,.agg [.fr 134 (au (dP l n s))])|_=>none
theorem Om:aJ Tryz.prog 175 GY:=by
 intro ys φ r h hφ;unfold GY at h;split at h
 ·rename_i ra n s;obtain⟨a,ha,h⟩:=q0.1 h;cases h;cases az ha;obtain⟨hl6,o1,o2,o3⟩:=hφ;have hl8:a.length≤100000000:=by omega
  refine ak (ag pT (eQ (p:=0) (k:=998) QO (by kernel_rfl) ah)) (by kernel_rfl) (by conv=>lhs;reduce) (by simp) ?_;simp(config := { maxSteps := 3000000 }) [hl6,hl8,o1,o2];exact⟨o3,aF _⟩
 ·cases h
@[simp] noncomputable def IK:List AV→Option (Prop×AV)|[.pv (.ro a),.pv (.int .u64 n),.pv (.int .u64 s)]=>(dec rowP a).map fun l=>(l.length≤1000000∧cy n∧cy s∧∀e∈l,cy e.u,.fr 162 (au (dP l n s)))|_=>none
theorem Lk:aJ Tryz.prog 92 IK:=by
 intro ys φ r h hφ;unfold IK at h;split at h
 ·rename_i ra n s;obtain⟨a,ha,h⟩:=q0.1 h;cases h;cases az ha;obtain⟨hl6,o1,o2,o3⟩:=hφ;refine ak (ag JP ah) (by kernel_rfl) (by conv=>lhs;reduce) (by simp) ?_;simp(config := { maxSteps := 3000000 });refine aj (fun i:Nat=>i≤a.length) (fun i=>⟨[(0,.pv (.ro (au a))),(1,.pv (.int .u64 n)),(2,.pv (.int .u64 s)),(7,.own 7),(8,.pv (.int .i64 i))],[(7,.arr 162 (au (dP (a.take i) n s)))]⟩) (fun i=>a.length-i) [] 0 (by simp) ?_ ?_;·simp[dP]
  ·intro i hi;have w2:IntKind.i64.wrap ((i:Int)+1)=(i:Int)+1:=wrap_i64 (by omega);by_cases hlt:i<a.length
   ·have r1:=bo hlt;have o4:cy a[i].u:=o3 _ (q82 hlt);have hln:(dP (a.take i) n s).length≤i:=by unfold dP;have:=q144 (fun e=>!fg n s e) (a.take i);simp at this;omega
    have hst:dP (a.take (i+1)) n s=dP (a.take i) n s++(if fg n s a[i]=true then[] else[a[i]]):=by unfold dP;rw[q62 hlt,q131];cases hp:fg n s a[i]<;>simp[hp]
    by_cases hq:fg n s a[i]=true;·have hq':mK n a[i].u s=true:=hq;rw[if_pos hq,q147]at hst;simp(config := { maxSteps := 3000000 }) [w2,hlt,r1,hq',o1,o2,o4];refine⟨i+1,by omega,⟨by omega,by rw[hst]⟩,by omega⟩
    ·have hq0:fg n s a[i]=false:=by simpa using hq
     have hq':mK n a[i].u s=false:=hq0;rw[if_neg hq]at hst;simp(config := { maxSteps := 3000000 }) [w2,hlt,r1,hq',o1,o2,o4,ax];refine⟨⟨by omega,by omega⟩,i+1,by omega,⟨by omega,by rw[hst,bQ];rfl⟩,by omega⟩
   ·have hia:i=a.length:=by omega
    subst hia;simp(config := { maxSteps := 3000000 })
 ·cases h
def qn (l:List Pn) (e:Pn):List Pn×Int:=if kf (l++[e])=true then(l++[e],0) else([],2)
@[simp] noncomputable def Oa:List AV→Option (Prop×AV)|[.agg [.pv (.ro a)],.agg [.pv (.int .u64 x),.pv (.int .u64 y),.pv (.int .u64 z)]]=>(dec rowP a).map fun l=>(l.length≤1000000,.aO [.agg [.fr 134 (au (qn l ⟨x,y,z⟩).1)],.pv (.int .i64 (qn l ⟨x,y,z⟩).2)])|_=>none
theorem O8:aJ Tryz.prog 173 Oa:=by
 intro ys φ r h hφ;unfold Oa at h;split at h
 ·rename_i ra x y z;obtain⟨a,ha,h⟩:=q0.1 h;cases h;cases az ha;have hl8:a.length≤100000000:=by omega
  have hinf:(Tryz.prog.info? 134).isSome=true:=by kernel_rfl
  have hap:au a++[[PV.int .u64 x,.int .u64 y,.int .u64 z]]=au (a++[⟨x,y,z⟩]):=by rw[bQ];rfl
  refine ak (ag pT (ag AY ah)) (by kernel_rfl) (by conv=>lhs;reduce) (by simp) ?_;unfold qn;by_cases hr:kf (a++[⟨x,y,z⟩])=true;·simp(config := { maxSteps := 3000000 }) [hl8,hr,hap,hinf,ax];exact⟨⟨by omega,by omega⟩,by omega⟩
  ·simp(config := { maxSteps := 3000000 }) [hl8,hr,hap,hinf,ax];exact⟨⟨by omega,by omega⟩,by omega⟩
 ·cases h
@[simp] noncomputable def MS:List AV→Option (Prop×AV)|[.pv (.ro a),.agg [.pv (.int .u64 x),.pv (.int .u64 y),.pv (.int .u64 z)]]=>(dec rowP a).map fun l=>(l.length≤1000000,.aO [.fr 162 (au (qn l ⟨x,y,z⟩).1),.pv (.int .i64 (qn l ⟨x,y,z⟩).2)])|_=>none
theorem PN:aJ Tryz.prog 90 MS:=by
 intro ys φ r h hφ;unfold MS at h;split at h
 ·rename_i ra x y z;obtain⟨a,ha,h⟩:=q0.1 h;cases h;cases az ha;have hl8:a.length≤100000000:=by omega
  have h3:=bH a;have hap:au a++[[PV.int .u64 x,.int .u64 y,.int .u64 z]]=au (a++[⟨x,y,z⟩]):=by rw[bQ];rfl
  refine ak (ag Iy ah) (by kernel_rfl) (by conv=>lhs;reduce) (by simp) ?_;unfold qn;by_cases hr:kf (a++[⟨x,y,z⟩])=true;·simp(config := { maxSteps := 3000000 }) [hl8,hr,hap,ax];exact⟨⟨by omega,by omega,h3⟩,⟨by omega,by omega⟩,by omega⟩
  ·simp(config := { maxSteps := 3000000 }) [hl8,hr,hap,ax];exact⟨⟨by omega,by omega,h3⟩,⟨by omega,by omega⟩,by omega⟩
 ·cases h
def lL (n:Int):List Pn→List Pn|[]=>[]|e::l=>if e.i=n then l else e::lL n l
def iv (l:List Pn) (n:Int):Bool:=l.any fun e=>decide (e.i=n)
def rh (l:List Pn) (n:Int):List Pn×Int:=if iv l n=true then(lL n l,0) else([],80)
theorem tc (n:Int):∀l:List Pn,(lL n l).length≤l.length
 |[]=>by simp[lL]|e::l=>by
  have:=tc n l;unfold lL;split;·simp
  ·simp;exact this
theorem xq (n:Int) (e:Pn):∀l:List Pn,lL n (l++[e])=if iv l n=true then lL n l++[e] else if e.i=n then l else l++[e]
 |[]=>by simp[lL,iv]|x::l=>by
  have ih:=xq n e l;by_cases hx:x.i=n;·simp[lL,iv,hx]
  ·have:iv (x::l) n=iv l n:=by simp[iv,hx]
   simp only[q149,lL,if_neg hx,ih,this];split;·rfl
   ·split<;>rfl
theorem xl {n:Int}:∀{l:List Pn},iv l n=false→lL n l=l|[],_=>rfl|x::l,h=>by simp only[iv,q222,q197,decide_eq_false_iff_not]at h;simp only[lL,if_neg h.1,xl (n:=n) (l:=l) h.2]
theorem Fc (l:List Pn) (e:Pn) (n:Int):iv (l++[e]) n=(iv l n||decide (e.i=n)):=by simp[iv]
theorem Ba (n:Int):∀l:List Pn,iv l n=true→∃k:Nat,oi (fun e=>decide (e.i=n)) l=(k:Int)∧k<l.length∧lL n l=l.take k++l.drop (k+1)
 |[],h=>by simp[iv]at h|x::l,h=>by
  by_cases hx:x.i=n;·refine⟨0,?_,by simp,by simp[lL,hx]⟩;exact yv (i:=0) (by simp) (by simpa using hx) (by simp)
  ·have h':iv l n=true:=by simpa[iv,hx]using h
   obtain⟨k,h1,h2,h3⟩:=Ba n l h';refine⟨k+1,?_,by simp;omega,by simp[lL,hx,h3]⟩;unfold oi at h1 ⊢;split at h1
   ·rename_i hlt;have hf:(x::l).findIdx (fun e=>decide (e.i=n))=l.findIdx (fun e=>decide (e.i=n))+1:=by rw[List.findIdx_cons];simp[hx]
    rw[hf,if_pos (by rw[q79];omega)];omega
   ·omega
@[simp] noncomputable def MA:List AV→Option (Prop×AV)|[.pv .nil,.pv (.int .i64 n)]=>some (0≤n∧n≤1000000,.fr 134 [])|_=>none
theorem OM:nM Tryz.prog 202 MA:=by
 intro ys φ r h hφ;unfold MA at h;split at h
 ·rename_i n;cases h;obtain⟨h1,h2⟩:=hφ;have hinf:(Tryz.prog.info? 134).isSome=true:=by kernel_rfl
  have w0:IntKind.i64.wrap 0=0:=wrap_i64 (by omega);have w1:IntKind.i64.wrap n=n:=wrap_i64 (by omega);refine na ah (by kernel_rfl) (by conv=>lhs;reduce) (by simp) (by simp[cY,mn,iL]) (by simp) ?_;have hn0:¬n<0:=by omega
  by_cases h0:0<n;·simp(config := { maxSteps := 3000000 }) [hn0,h0,w0,w1,hinf];exact⟨h1,by omega,by omega⟩
  ·simp(config := { maxSteps := 3000000 }) [hn0,h0,w0,w1,hinf]
 ·cases h
@[simp] noncomputable def Z4:List AV→Option (Prop×AV)|[.pv (.ro [[.ro a],[.ro b]])]=>(dec rowP a).bind fun la=>(dec rowP b).map fun lb=>(la.length≤100000∧lb.length≤100000,.fr 134 (au (la++lb)))|_=>none
theorem Zs:aJ Tryz.prog 188 Z4:=by
 intro ys φ r h hφ;unfold Z4 at h;split at h
 ·rename_i ra rb;obtain⟨a,ha,h⟩:=q63.1 h;obtain⟨b,hb,h⟩:=q0.1 h;cases h;cases az ha;cases az hb;obtain⟨hla,hlb⟩:=hφ;have h3a:=bH a;have h3b:=bH b;have w1:IntKind.i64.wrap 1=1:=wrap_i64 (by omega);have w2:IntKind.i64.wrap 2=2:=wrap_i64 (by omega);have wa:IntKind.i64.wrap (a.length:Int)=a.length:=wrap_i64 (by omega);have wab:IntKind.i64.wrap ((a.length:Int)+(b.length:Int))=(a.length:Int)+(b.length:Int):=wrap_i64 (by omega);have r0:rowAt [[PV.ro (au a)],[PV.ro (au b)]] 0=[.ro (au a)]:=rfl;have r1:rowAt [[PV.ro (au a)],[PV.ro (au b)]] 1=[.ro (au b)]:=rfl;have ga:¬((a.length:Int)<0):=by omega
  have gab:¬((a.length:Int)+(b.length:Int)<0):=by omega
  have gc:(a.length:Int)+(b.length:Int)≤1000000:=by omega
  have gd:(0:Int)≤(a.length:Int)+(b.length:Int):=by omega
  refine ak (eQ (p:=0) (k:=997) OM (by kernel_rfl) ah) (by kernel_rfl) (by conv=>lhs;reduce) (by simp) ?_;simp(config := { maxSteps := 3000000 });refine aj (fun i:Nat=>i=0∨i=1∨i=2) (fun i=>⟨[(0,.pv (.ro [[.ro (au a)],[.ro (au b)]])),(2,.own 2),(3,.pv (.int .i64 (if i=0 then 0 else if i=1 then(a.length:Int) else(a.length:Int)+(b.length:Int)))),(9,.pv (.ro [[.ro (au a)],[.ro (au b)]])),(10,.pv (.int .i64 2)),(11,.pv (.int .i64 i))],[(2,.arr 134 [])]⟩) (fun i=>2-i) [] 0 (by simp) ?_ ?_;·simp
  ·rintro i (rfl|rfl|rfl);·simp(config := { maxSteps := 3000000 }) [r0,wa,ga,w1]
   ·simp(config := { maxSteps := 3000000 }) [r1,wab,gab,w2]
   ·simp(config := { maxSteps := 3000000 }) [gc,gd];refine aj (fun i:Nat=>i=0∨i=1∨i=2) (fun i=>⟨[(0,.pv (.ro [[.ro (au a)],[.ro (au b)]])),(2,.own 2),(6,.own 24),(25,.pv (.ro [[.ro (au a)],[.ro (au b)]])),(26,.pv (.int .i64 2)),(27,.pv (.int .i64 i))],[(2,.arr 134 []),(24,.arr 134 (if i=0 then[] else if i=1 then au a else au (a++b)))]⟩) (fun i=>2-i) [] 0 (by simp) ?_ ?_;·simp
    ·rintro i (rfl|rfl|rfl);·simp(config := { maxSteps := 3000000 }) [r0,w1,ax];exact⟨by omega,by omega,h3a⟩
     ·simp(config := { maxSteps := 3000000 }) [r1,w2,ax];exact⟨⟨by omega,by omega,h3b⟩,(bQ a b).symm⟩
     ·simp(config := { maxSteps := 3000000 })
 ·cases h
@[simp] noncomputable def Ma:List AV→Option (Prop×AV)|[.agg [.pv (.ro a)],.pv (.int .u64 n)]=>(dec rowP a).map fun l=>(l.length≤100000,.aO [.agg [.fr 134 (au (rh l n).1)],.pv (.int .i64 (rh l n).2)])|_=>none
theorem nb (l:List Pn) (i j:Int):cut (au l) i j=au ((l.take j.toNat).drop i.toNat):=by unfold cut au;rw[q233,q124]
theorem QD:aJ Tryz.prog 174 Ma:=by
 intro ys φ r h hφ;unfold Ma at h;split at h
 ·rename_i ra n;obtain⟨a,ha,h⟩:=q0.1 h;cases h;cases az ha;have hl9:a.length≤1000000000:=by omega
  have hinf:(Tryz.prog.info? 134).isSome=true:=by kernel_rfl
  have h3:=bH a;have his:To 187 n=fun e=>decide (e.i=n):=by rfl
  refine ak (ag c_Ix (ag Zs ah)) (by kernel_rfl) (by conv=>lhs;reduce) (by simp) ?_;unfold rh;by_cases hh:iv a n=true
  ·obtain⟨k,hk,hkl,hke⟩:=Ba n a hh;have hn0:¬((k:Int)<0):=by omega
   have w1:IntKind.i64.wrap ((k:Int)+1)=(k:Int)+1:=wrap_i64 (by omega);have c1:cut (au a) 0 (k:Int)=au (a.take k):=by rw[nb];simp
   have c2:cut (au a) ((k:Int)+1) (a.length:Int)=au (a.drop (k+1)):=by rw[nb,show((k:Int)+1).toNat=k+1 from by omega];simp
   have hl1:(a.take k).length≤100000:=by rw[q67];omega
   have hl2:(a.drop (k+1)).length≤100000:=by rw[q94];omega
   have hf:∀l,bp (au l):=aF;simp(config := { maxSteps := 3000000 }) [hh,hl9,his,hk,hn0,w1,c1,c2,hl1,hl2,hke,hf,hinf];exact⟨⟨by omega,h3⟩,⟨by omega,by omega,h3⟩,by omega,by omega⟩
  ·have hh':iv a n=false:=by simpa using hh
   have hk:oi (fun e=>decide (e.i=n)) a=-1:=by apply kr;intro e he;unfold iv at hh';rw[q141]at hh';simpa using hh' e he
   simp(config := { maxSteps := 3000000 }) [hh,hl9,his,hk,hinf]
 ·cases h
@[simp] noncomputable def M8:List AV→Option (Prop×AV)|[.pv (.ro a),.pv (.int .u64 n)]=>(dec rowP a).map fun l=>(l.length≤100000,.aO [.fr 162 (au (rh l n).1),.pv (.int .i64 (rh l n).2)])|_=>none
theorem O0:aJ Tryz.prog 91 M8:=by
 intro ys φ r h hφ;unfold M8 at h;split at h
 ·rename_i ra n;obtain⟨a,ha,h⟩:=q0.1 h;cases h;cases az ha;refine ak ah (by kernel_rfl) (by conv=>lhs;reduce) (by simp) ?_;simp(config := { maxSteps := 3000000 });refine aj (fun i:Nat=>i≤a.length) (fun i=>⟨[(0,.pv (.ro (au a))),(1,.pv (.int .u64 n)),(4,.own 4),(6,.own 6),(7,.pv (.bool (iv (a.take i) n))),(8,.pv (.int .i64 i))],[(4,.arr 162 []),(6,.arr 162 (au (lL n (a.take i))))]⟩) (fun i=>a.length-i) [] 0 (by simp) ?_ ?_;·simp[lL,iv]
  ·intro i hi;have w2:IntKind.i64.wrap ((i:Int)+1)=(i:Int)+1:=wrap_i64 (by omega);by_cases hlt:i<a.length
   ·have r1:=bo hlt;have hs:=xq n a[i] (a.take i);have ht:=Fc (a.take i) a[i] n;rw[←q62 hlt]at hs ht;have hll:=tc n (a.take i);rw[q67]at hll;have hap:∀m:List Pn,au m++[[PV.int .u64 a[i].i,.int .u64 a[i].v,.int .u64 a[i].u]]=au (m++[a[i]]):=fun m=>by rw[bQ];rfl
    cases hg:iv (a.take i) n with|true=>
     rw[hg]at hs ht;rw[if_pos rfl]at hs;by_cases he:a[i].i=n;·simp(config := { maxSteps := 3000000 }) [w2,hlt,r1,he,ax];exact⟨⟨by omega,by omega⟩,i+1,by omega,⟨⟨by simp[ht],by omega⟩,by rw[hs,bQ];simp[au,rowP,he]⟩,by omega⟩
     ·simp(config := { maxSteps := 3000000 }) [w2,hlt,r1,he,ax];exact⟨⟨by omega,by omega⟩,i+1,by omega,⟨⟨by simp[ht],by omega⟩,by rw[hs,bQ];rfl⟩,by omega⟩|false=>
     rw[hg]at hs ht;rw[if_neg (by simp)]at hs;have hrn:=xl hg;by_cases he:a[i].i=n;·rw[if_pos he]at hs;simp(config := { maxSteps := 3000000 }) [w2,hlt,r1,he];exact⟨i+1,by omega,⟨⟨by simp[ht,he],by omega⟩,by rw[hs,hrn]⟩,by omega⟩
     ·rw[if_neg he]at hs;simp(config := { maxSteps := 3000000 }) [w2,hlt,r1,he,ax];exact⟨⟨by omega,by omega⟩,i+1,by omega,⟨⟨by simp[ht,he],by omega⟩,by rw[hs,hrn,q62 hlt,bQ];rfl⟩,by omega⟩
   ·have hia:i=a.length:=by omega
    subst hia;have hinf:(Tryz.prog.info? 162).isSome=true:=by kernel_rfl
    unfold rh;by_cases hh:iv a n=true;·simp(config := { maxSteps := 3000000 }) [hh]
    ·have hh':iv a n=false:=by simpa using hh
     simp(config := { maxSteps := 3000000 }) [hh',hinf]
 ·cases h
def G8 (l:List Pn) (n:Int):Bool:=l.any fun e=>decide (e.v=n)
@[simp] noncomputable def GpOf:List AV→Option (Prop×AV)|[.agg [.pv (.ro a)],.pv (.int .u64 n)]=>(dec rowP a).map fun l=>(l.length≤1000000000,.pv (.bool (G8 l n)))|_=>none
@[simp] noncomputable def Y5:List AV→Option (Prop×AV)|[.pv (.ro a),.pv (.int .u64 n)]=>(dec rowP a).map fun l=>(l.length≤1000000000,.pv (.bool (G8 l n)))|_=>none
theorem c_rOf:aJ Tryz.prog 132 Y5:=by
 intro ys φ r h hφ;unfold Y5 at h;split at h
 ·rename_i ra n;obtain⟨a,ha,h⟩:=q0.1 h;cases h;cases az ha;refine ak ah (by kernel_rfl) (by conv=>lhs;reduce) (by simp) ?_;simp(config := { maxSteps := 3000000 });refine aj (fun i:Nat=>i≤a.length∧G8 (a.take i) n=false) (fun i=>⟨[(0,.pv (.ro (au a))),(1,.pv (.int .u64 n)),(4,.pv (.bool false)),(5,.pv (.int .i64 i))],[]⟩) (fun i=>a.length-i) [] 0 (by simp[G8]) ?_ ?_;·simp
  ·rintro i ⟨hi,ht⟩;have w2:IntKind.i64.wrap ((i:Int)+1)=(i:Int)+1:=wrap_i64 (by omega);by_cases hlt:i<a.length
   ·have r1:=bo hlt;by_cases he:a[i].v=n
    ·have hv:G8 a n=true:=by unfold G8;rw[q112];exact⟨a[i],q82 hlt,by simpa using he⟩
     simp(config := { maxSteps := 3000000 }) [w2,hlt,r1,he,hv]
    ·simp(config := { maxSteps := 3000000 }) [w2,hlt,r1,he];refine⟨i+1,⟨by omega,?_⟩,by omega,by omega⟩;rw[q62 hlt];unfold G8 at ht ⊢;rw[q225,ht];simp[he]
   ·rw[List.take_of_length_le (by omega)]at ht;simp(config := { maxSteps := 3000000 }) [hlt,ht]
 ·cases h
end Go.Proofs.YtlicclncicbajaaGreat.Ab
