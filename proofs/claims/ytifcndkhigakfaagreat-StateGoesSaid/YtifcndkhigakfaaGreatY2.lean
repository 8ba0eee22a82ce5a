/- How the code of a function is brought into the abstract machine's form. Definitions alone. -/
import Derived.Test.YtifcndkhigakfaaGreatY1
set_option linter.unusedVariables false
set_option linter.unusedSimpArgs false
set_option linter.unnecessarySimpa false
set_option maxHeartbeats 40000000
set_option maxRecDepth 100000
set_option linter.defProp false
namespace Go.Proofs.YtifcndkhigakfaaGreat.Ab
open Go Go.RowKit
def q80:=@List.getD_eq_getElem?_getD
def q129:=@Array.getD_eq_getD_getElem?
end Go.Proofs.YtifcndkhigakfaaGreat.Ab
namespace Go.Proofs.YtifcndkhigakfaaGreat.Ab
open Go Go.RowKit
def pf (P:Program) (t:TypeId):Option (Option Nat):=match P.underlying t with|some (.struct _)|some (.array _ _)=>(P.info? t).map fun i=>some i.size|some _=>some none|none=>none
def c7 (P:Program) (t:TypeId):Option Nat:=(P.info? t).map (·.size)
def eB (P:Program) (t:TypeId):Option (List Value):=(P.info? t).bind fun i=>i.zero.bind fun z=>if z.cells.size=i.size then some z.cells.toList else none
def gi:Operand->Bool|.const (.slice none 0 0)=>true|_=>false
def te (P:Program) (fs:Array Field):List (Nat×Operand)->Option (List (Nat×Nat))|[]=>some []|(i,_)::l=>match fs[i]?,te P fs l with|some f,some r=>(c7 P f.type).map fun n=>(f.offset,n)::r|_,_=>none
def oJ (P:Program) (f:TypeId->Option (List Nat)):Nat->List Field->Option (List Nat)|_,[]=>some []|off,fl::fs=>if fl.name≠ "_" /\fl.offset=off then(f fl.type).bind fun a=>if c7 P fl.type=some a.length then(oJ P f (off+a.length) fs).map (a++·) else none else none
def kL (P:Program):Nat->TypeId->Option (List Nat)|0,_=>none|n+1,t=>match P.underlying t with|some .bool=>some [0]|some .string=>some [1]|some (.int k)=>some [2+pq k]|some (.struct fs)=>if t<P.types.size/\Hh P t=false then oJ P (kL P n) 0 fs.toList else none|_=>none
def dF (P:Program) (b:Builtin) (xs:List Operand) (ts:List TypeId):Option (AK×List Operand):=match b,xs,ts with
 |.len,[x],[t]=>match P.underlying t with|some .string=>some (.yb,[x])|some (.slice _)=>some (.len,[x])|_=>none
 |.append,[s,x],[t,t']=>match P.underlying t,P.underlying t' with
  |some (.slice e),some .string=>match P.info? e with|some i=>if i.size=1/\(eB P e).isSome=true then some (.app e i.size i.bytes,[s,x]) else none|none=>none
  |some (.slice e),some (.slice _)=>match P.info? e with|some i=>if 0<i.size/\(eB P e).isSome=true then some (.app e i.size i.bytes,[s,x]) else none|none=>none
  |_,_=>none
 |.min,[x,y],[_,_]=>some (.IW false,[x,y])|.max,[x,y],[_,_]=>some (.IW true,[x,y])|.clear,[x],[t]=>match P.underlying t with
  |some (.slice e)=>match c7 P e,eB P e with|some sz,some zs=>if 0<sz/\zs.all (·.oneCell')=true then some (.LA e sz zs,[x]) else none|_,_=>none
  |_=>none
 |_,_,_=>none
def iQ (P:Program) (c:Call):Option (AK×List Operand):=match c.callee with|.builtin b=>dF P b c.args.toList c.argTypes.toList|.value (.func f)=>if gz P f then some (.call f,c.args.toList) else none|.value x=>some (.mV,x::c.args.toList)|.invoke _ _=>none
def mR (P:Program) (t:TypeId):Option Nat:=match P.underlying t with|some .bool=>some 0|some .string=>some 1|some (.int k)=>some (2+pq k)|_=>none
def zeroV (P:Program) (t:TypeId):Option Value:=(P.info? t).bind (·.zero)
def mP (P:Program) (t:TypeId):Option (TypeId×TypeId):=match P.underlying t with|some (.map k e)=>some (k,e)|_=>none
def AS (P:Program) (f:FuncId):Bool:=match P.funcs[f]? with|some fn=>fn.name== "math/bits.Add64" &&fn.body.isNone&&(Extern.findNext fn).isNone|none=>false
def AZ (P:Program) (b:Builtin) (xs:List Operand) (ts:List TypeId):Option (XK×List Operand):=match b,xs,ts with
 |.cap,[x],[t]=>match P.underlying t with|some (.slice _)=>some (.Li,[x])|_=>none
 |.append,[s,x],[t,t']=>match P.underlying t,P.underlying t' with
  |some (.slice e),some (.int _)=>match P.info? e,eB P e with|some i,some zs=>if 0<i.size/\zs.all (·.oneCell')=true then some (.IA e i.size i.bytes zs,[s,x]) else none|_,_=>none
  |_,_=>none
 |_,_,_=>none
def rwsT (P:Program) (e:TypeId):Bool:=match(P.info? e).map (fun i:TypeInfo=>i.desc),P.underlying e with|some (TypeDesc.named _ _),some (TypeDesc.slice _)=>true|_,_=>false
def Z7 (P:Program) (e:TypeId):Bool:=match P.underlying e with|some (.int .u64)=>true|_=>false
def vz (P:Program) (o:Oper):Option (XK×List Operand):=match o.op with
 |.makeMap t none=>match mP P t with|some _=>some (.mkm,[])|none=>none
 |.mapUpdate t m k x|.insert t m k x=>match mP P t with
  |some (kt,_)=>match mR P kt with|some s=>some (.Kk s,[m,k,x])|none=>none
  |none=>none
 |.lookup t m k ok=>match mP P t with
  |some (kt,et)=>match mR P kt,zeroV P et with|some s,some z=>some (.G2 s z ok,[m,k])|_,_=>none
  |none=>none
 |.buildSlice t n ps=>match P.underlying t with
  |some (.slice e)=>match c7 P e,eB P e with|some sz,some zs=>if Z7 P e=true/\ps.toList.map (·.1)=List.range n/\n*sz<=2^24/\zs.length=sz/\0<sz then some (.pj e sz,ps.toList.map (·.2)) else none|_,_=>none
  |_=>none
 |.makeSlice t l c=>match P.underlying t with
  |some (.slice e)=>match P.info? e,eB P e with|some i,some zs=>if 0<i.size/\zs.all (·.oneCell')=true then some (.WZ e i.bytes zs,[l,c]) else none|_,_=>none
  |_=>none
 |.binOp op t x y _=>match P.underlying t with|some (.slice _)=>if gi y then match op with|.eql=>some (.yQ false,[x])|.neq=>some (.yQ true,[x])|_=>none else none|_=>none
 |.call c=>match c.callee with|.value (.func f)=>if AS P f=true then some (.B7,c.args.toList) else none|.builtin b=>AZ P b c.args.toList c.argTypes.toList|_=>none
 |_=>none
def Tm (P:Program) (t:TypeId):Bool:=match P.underlying t with|some .bool|some .string|some (.int _)|some (.func _ _ _)|some (.slice _)=>true|_=>false
def Co (P:Program) (o:Oper):Option (XK×List Operand):=match o.op with
 |.makeMap t none=>match mP P t with|some (_,et)=>if Tm P et=true then some (.mkv,[]) else none|none=>none
 |.mapUpdate t m k x|.insert t m k x=>match mP P t with
  |some (kt,et)=>match mR P kt with|some s=>if Tm P et=true then some (.XF s,[m,k,x]) else none|none=>none
  |none=>none
 |.lookup t m k ok=>match mP P t with
  |some (kt,et)=>match mR P kt,zeroV P et with|some s,some z=>if Tm P et=true then some (.IS s z ok,[m,k]) else none|_,_=>none
  |none=>none
 |_=>none
def kO (P:Program) (o:Oper):XK×List Operand:=match Co P o with|some r=>r|none=>(vz P o).getD (.dead,[])
def iG (P:Program) (o:Oper):Option (AK×List Operand):=match o.op with
 |.move x|.assign x=>if gi x then match P.underlying o.type with|some (.slice e)=>if(P.info? e).isSome then some (.iU e,[]) else none|_=>none else some (.qE,[x])|.pick c a b=>some (.pick,[c,a,b])|.alloc e=>(eB P e).map fun zs=>(.alloc zs,[])|.box _ x=>some (.box,[x])|.build t ps=>match eB P t,P.underlying t with|some zs,some (.struct fs)=>if fs.toList.all (fun f=>(P.info? f.type).isSome)=false then none else(te P fs ps.toList).map fun l=>(.L0 zs l,ps.toList.map (·.2))|_,_=>none
 |.buildSlice t n ps=>match P.underlying t with
  |some (.slice e)=>match c7 P e,eB P e with|some sz,some zs=>if(rwsT P e||Z7 P e)=false/\ps.toList.map (·.1)=List.range n/\n*sz<=2^24/\zs.length=sz/\0<sz then some (.uF e sz,ps.toList.map (·.2)) else none|_,_=>none
  |_=>none
 |.load t a=>(pf P t).map fun n=>(.load n,[a])|.store t a v=>match pf P t with|some none=>if c7 P t=some 1 then some (.store none,[a,v]) else none|some (some n)=>some (.store (some n),[a,v])|none=>none
 |.binOp op t x y _=>match P.underlying t with
  |some .bool=>match op with|.eql=>some (.beq false,[x,y])|.neq=>some (.beq true,[x,y])|_=>none
  |some (.int _)|some .string=>some (.bin op,[x,y])|some (.struct _)=>match kL P 8 t with
   |some ks=>if ks.all (·<99)=true then match op with|.eql=>some (.eqs false ks,[x,y])|.neq=>some (.eqs true ks,[x,y])|_=>none else none|none=>none
  |_=>none
 |.unOp .not _ x=>some (.not,[x])|.unOp .neg _ x=>some (.neg,[x])|.convert src dst x=>match P.underlying src,P.underlying dst with
  |some (.int _),some (.int k)=>some (.DY k,[x])|some .string,some .string=>some (.Gb,[x])|some (.slice e),some .string=>match P.underlying e with|some (.int .u8)=>some (.uD,[x])|_=>none
  |some .string,some (.slice e)=>match P.underlying e with|some (.int .u8)=>some (.qP e,[x])|_=>none
  |_,_=>none
 |.fieldAddr s x i=>match P.underlying s with
  |some (.struct fs)=>match fs[i]? with
   |some f=>match c7 P f.type with|some (_+1)=>some (.uV f.offset,[x])|_=>none
   |none=>none
  |_=>none
 |.field s x i=>match P.underlying s with
  |some (.struct fs)=>match fs[i]? with|some f=>(pf P f.type).map fun n=>(.Ja f.offset n,[x])|none=>none
  |_=>none
 |.indexAddr t x i=>match P.underlying t with|some (.slice e)=>(c7 P e).map fun sz=>(.Gi e sz,[x,i])|some (.array n e)=>(c7 P e).map fun sz=>(.IV n sz,[x,i])|_=>none
 |.index t x i=>match P.underlying t with|some .string=>some (.yC,[x,i])|_=>none
 |.slice t x lo hi none=>match P.underlying t with|some .string=>some (.L9 lo.isSome hi.isSome,[x]++lo.toList++hi.toList)|some (.slice e)=>(c7 P e).map fun sz=>(.Fh sz lo.isSome hi.isSome,[x]++lo.toList++hi.toList)|_=>none
 |.extract x i=>some (.ext i,[x])|.nilCheck x=>some (.HD,[x])|.makeFunc (.func f) first caps=>match first.toList with|[]=>some (.LR f,caps.toList)|_=>none
 |.call c=>iQ P c|_=>none
def iT (P:Program) (o:Oper):Option (AK×List Operand):=match iG P o with|some r=>some r|none=>some (.ex (kO P o).1,(kO P o).2)
def eI {P:Program}{o:Oper}{k:AK}{xs:List Operand} (h:iT P o=some (k,xs)):iG P o=some (k,xs)\/∃x,k=.ex x/\kO P o=(x,xs):=by
 unfold iT at h;split at h;·rename_i r hr;rw[hr];exact .inl h
 ·cases h;exact .inr ⟨_,rfl,rfl⟩
def makes:AK->Bool|.iU _|.box|.alloc _|.uF _ _|.app _ _ _|.call _|.mV|.uD|.qP _|.ex .mkm|.ex .mkv|.ex .rng|.ex (.IA _ _ _ _)|.ex (.Sv _)|.ex (.WZ _ _ _)=>true|_=>false
def writes:AK->Bool|.store _|.app _ _ _=>true|_=>false
def aO:AK->Bool|.qE|.bin _|.beq _|.not|.neg|.DY _|.Gb=>true|_=>false
def tmpsOf:List Operand->List Nat|[]=>[]|.tmp t::l=>t::tmpsOf l|_::l=>tmpsOf l
def dr (i:AI):List Nat:=tmpsOf i.xs++(match i.g with|some (s,_)=>[s]|none=>[])
def BH:Option Nat->Bool|some _=>true|none=>false
def cw (i:AI):List Nat:=if makes i.k then i.d.toList else if writes i.k then i.tg.toList else[]
def isApp:AK->Bool|.app _ _ _=>true|_=>false
def abh:AK->Bool|.alloc _=>true|_=>false
def AD:AK->Bool|.load _|.uV _=>true|_=>false
def EJ (x y:AI):Bool:=isApp x.k&&x.g.isNone&&y.g.isNone&&y.tg.isNone&&(match x.d,y.d with|some d,some d'=>!(dr y).contains d&&!(dr x).contains d'&&d !=d'&&decide (d<1000)&&decide (d'<1000)&&((abh y.k&&y.xs.isEmpty)||(AD y.k&&y.un.contains d&&y.un.all fun t=>x.un.contains (t+1000)))|_,_=>false)
def Ee (x y:AI):Bool:=(match x.d with|some d=>!(dr y).contains d&&y.d !=some d&&y.tg !=some d&&decide (d<1000)|none=>true)&&(match y.d with|some d=>!(dr x).contains d&&x.tg !=some d&&decide (d<1000)|none=>true)&&((aO y.k&&y.un.isEmpty)||(!isApp x.k&&(!writes x.k||BH x.tg)&&(cw x).all fun t=>decide (t<1000)&&y.un.contains t))&&((aO x.k&&x.un.isEmpty)||(!isApp y.k&&(!writes y.k||BH y.tg)&&(cw y).all fun t=>decide (t<1000)&&x.un.contains t))&&(aO x.k||aO y.k||!writes x.k||!writes y.k||x.tg !=y.tg)
def vN (x y:AI):Bool:=Ee x y||EJ x y
def JD (P:Program) (N:Nat) (ops:Array Oper) (o:Oper):Option AI:=match iT P o with|none=>none|some (k,xs)=>let okd:=match o.dst with|some d=>decide (d<N/\d<1000)|none=>!makes k&&(k matches .store _||k matches .LA _ _ _||k matches .ex _)
 if !okd then none else match o.guard with|none=>some ⟨o.dst,k,xs,none,[],none⟩|some (j,want)=>match(ops[j]?).bind (·.dst) with|some s=>some ⟨o.dst,k,xs,some (s,want),[],none⟩|none=>none
def xG (P:Program) (N:Nat) (ops:Array Oper):List Oper->Option (List AI)|[]=>some []|o::l=>match JD P N ops o,xG P N ops l with|some i,some is=>some (i::is)|_,_=>none
def aft (e:Nat) (l:List Nat) (n:Nat):Nat:=if e<n then l.getD (n-1-e) 0 else 0
def Lu (n:Nat) (acc:List Nat) (o:Oper):Nat:=o.after.toList.foldl (fun s e=>if Region.binds .any e then s|||2^e.on|||aft e.on acc n else s) 0
def Ca:List Oper->Nat->List Nat->List Nat|[],_,acc=>acc|o::l,n,acc=>match Lu n acc o with|0=>Ca l (n+1) (0::acc)|m+1=>Ca l (n+1) ((m+1)::acc)
def RR (ops:Array Oper):List Nat:=(Ca ops.toList 0 []).reverse
def RO (e:Nat) (acc:Array Nat):aft e acc.toList.reverse acc.size=acc.getD e 0:=by
 unfold aft;split;·rename_i h;rw[q80,List.getElem?_reverse (by simp;omega)];simp[h,show acc.size-1-(acc.size-1-e)=e by omega]
 ·simp_all
def FX:∀(l:List Oper) (acc:Array Nat),(Ca l acc.size acc.toList.reverse).reverse=(l.foldl (fun acc o=>acc.push (o.after.foldl (fun s e=>if Region.binds .any e then s|||2^e.on|||acc.getD e.on 0 else s) 0)) acc).toList
 |[],acc=>by simp[Ca]|o::l,acc=>by
  have hv:Lu acc.size acc.toList.reverse o=o.after.foldl (fun s e=>if Region.binds .any e then s|||2^e.on|||acc.getD e.on 0 else s) 0:=by simp only[Lu,RO,Array.foldl_toList]
  have ih:=FX l (acc.push (Lu acc.size acc.toList.reverse o));have e:Ca (o::l) acc.size acc.toList.reverse=Ca l (acc.size+1) (Lu acc.size acc.toList.reverse o::acc.toList.reverse):=by rw[Ca];split<;>rename_i h<;>rw[h]
  rw[e,List.foldl_cons,<-hv,<-ih];simp
def TF (ops:Array Oper):(Region.before ops).toList=RR ops:=by unfold RR Region.before;rw[<-Array.foldl_toList];exact(FX ops.toList #[]).symm
def L2 (ops:Array Oper) (j:Nat):(RR ops).getD j 0=(Region.before ops).getD j 0:=by rw[<-TF];simp[q129]
def bits (ops:Array Oper) (i j:Nat):Bool:=((RR ops).getD j 0).testBit i
def Kc (ops:Array Oper) (i j:Nat):bits ops i j=((Region.before ops).getD j 0).testBit i:=by unfold bits;rw[L2]
def og (ops:Array Oper) (i j:Nat):Bool:=!bits ops i j||match ops[j]? with|some o=>o.after.toList.any fun e=>Region.binds .any e&&(e.on==i||(decide (i<e.on)&&decide (e.on<j)&&bits ops i e.on))|none=>false
def lI (ops:Array Oper) (j:Nat):Bool:=match ops[j]? with|some o=>o.after.toList.all fun e=>!Region.binds .any e||decide (e.on<j)|none=>true
def JK (ops:Array Oper) (is:Array AI):Bool:=(List.range ops.size).all fun j=>lI ops j&&(List.range j).all fun i=>og ops i j&&(bits ops i j||match is[i]?,is[j]? with|some x,some y=>vN x y|_,_=>false)
def unOf (ops:Array Oper) (is:Array AI) (j:Nat):List Nat:=let b:=RR ops
 (List.range is.size).filterMap fun i=>if i=j||(b.getD j 0).testBit i||(b.getD i 0).testBit j then none else match is[i]?,is[j]? with|some x,some y=>if aO y.k then none else(cw x).head?|_,_=>none
def unA (ops:Array Oper) (is:Array AI) (j:Nat):List Nat:=let b:=RR ops
 match is[j]? with|some y=>if isApp y.k then(List.range is.size).flatMap fun i=>if i=j||(b.getD j 0).testBit i||(b.getD i 0).testBit j then[] else match is[i]? with|some x=>if AD x.k then x.un.map (·+1000) else[]|none=>[] else[]|none=>[]
def jR (ops:Array Oper) (is:Array AI) (j:Nat):List AI->List AI|[]=>[]|i::l=>{i with un:=i.un++unA ops is j}::jR ops is (j+1) l
def ue (ops:Array Oper) (is:Array AI) (j:Nat):List AI->List AI|[]=>[]|i::l=>{i with un:=unOf ops is j}::ue ops is (j+1) l
def tgOf (is:List AI) (i:AI):Option Nat:=match i.k,i.xs with|.store _,.tmp s::_=>if is.any fun x=>x.d==some s&&(match x.k with|.alloc _|.box=>true|_=>false) then some s else none|_,_=>none
def zb (is:List AI):List AI->List AI|[]=>[]|i::l=>{i with tg:=tgOf is i}::zb is l
def tgOf2 (is:List AI) (i:AI):Option Nat:=match i.k,i.xs with|.store _,.tmp s::_=>some (if is.any fun x=>x.d==some s then 999 else s)|_,_=>none
def sq (is:List AI):List AI->List AI|[]=>[]|i::l=>{i with tg:=tgOf2 is i}::sq is l
def okOp (x:AI):Operand->Bool|.const _=>true|.tmp s=>x.d !=some s|_=>false
def QB (y x:AI):Bool:=match y.k,y.xs,y.d,y.g,y.tg,y.un with|.qE,[o],some dd,none,none,[]=>okOp x o&&!(dr x).contains dd&&x.d !=some dd|_,_,_,_,_,_=>false
def ldB (y x:AI):Bool:=match y.k,y.xs,y.d,y.g,y.tg,x.k with|.load _,[.tmp s],some dd,none,none,.call _=>x.d !=some s&&!(dr x).contains dd&&x.d !=some dd&&dd !=s|_,_,_,_,_,_=>false
def Fb (y:AI):List Nat:=match y.k,y.xs with|.load _,[.tmp s]=>[s]|_,_=>[]
def IX:AK->Bool|.call _|.mV=>true|_=>false
def lC (ops:Array Oper) (is:Array AI) (j:Nat):List Nat:=(List.range j).flatMap fun q=>if bits ops q j then[] else match is[q]? with|some y=>Fb y|none=>[]
def C8 (ops:Array Oper) (is:Array AI) (j:Nat) (x:AI):Bool:=IX x.k&&x.g.isNone&&x.tg.isNone&&x.un.isEmpty&&(List.range is.size).all fun q=>q==j||(if q<j then bits ops q j else bits ops j q)||(match is[q]? with|some y=>(QB y x||(decide (q<j)&&ldB y x))&&(match y.d with|some dd=>!(lC ops is j).contains dd|none=>true)|none=>false)
def Db (ops:Array Oper) (is:Array AI) (j:Nat):List AI->List AI|[]=>[]|i::l=>(if C8 ops is j i then{i with tg:=some 999999,un:=lC ops is j} else i)::Db ops is (j+1) l
def Dd (b:Nat):List AI->Bool|[]=>false|i::l=>(match i.k,i.xs with|.qE,[.tmp s]=>s==b|_,_=>false)||(if i.d==some b then false else Dd b l)
def OC (s:Nat):List AI->Option Nat|[]=>none|i::l=>if i.d==some s then(match i.k,i.xs with|.qE,[.tmp b]=>some b|_,_=>none) else OC s l
def apsB (i:AI) (pre l:List AI):Bool:=match i.k,i.xs,i.g with
 |.app _ _ _,.tmp s::_,none=>match OC s pre with|some b=>Dd b l|none=>false
 |_,_,_=>false
def yI (pre:List AI):List AI->List AI|[]=>[]|i::l=>(if apsB i pre l then{i with tg:=some 999998} else i)::yI (i::pre) l
def drawn (ops:Array Oper) (js:List AI):Option AC:=let hs:=ue ops js.toArray 0 js
 let ks:=jR ops hs.toArray 0 hs
 if JK ops ks.toArray&&ks.all (fun i=>i.tg !=some 999999) then some (.LZ (Db ops ks.toArray 0 ks) true []) else none
def oE (ops:Array Oper) (js:List AI):List Nat:=let b:=RR ops
 let f:=fun j=>(List.range ops.size).any fun i=>(match js[i]? with|some x=>isApp x.k|none=>false)&&(i==j||(b.getD i 0).testBit j)
 (List.range ops.size).filter f++(List.range ops.size).filter fun j=>!f j
def Nz (ops:Array Oper) (ks:Array AI):List Nat->List Nat->Bool|_,[]=>true|pre,j::l=>(match ops[j]? with|some o=>o.after.toList.all fun e=>!Region.binds .any e||pre.contains e.on|none=>false)&&(!pre.contains j)&&(l.all fun b=>(decide (j<b)&&bits ops j b)||match ks[j]?,ks[b]? with|some x,some y=>vN x y|_,_=>false)&&Nz ops ks (j::pre) l
def AT (ops:Array Oper) (js:List AI) (l:List Nat):Option AC:=let hs:=ue ops js.toArray 0 js
 let ks:=jR ops hs.toArray 0 hs
 if l.length=ops.size/\Nz ops ks.toArray [] l=true/\((List.range ops.size).all fun j=>lI ops j&&(List.range j).all fun i=>og ops i j)=true/\(l.all fun j=>decide (j<ops.size))=true/\((List.range ops.size).all fun j=>l.contains j)=true/\ks.all (fun i=>i.tg !=some 999999)=true then some (.LZ (l.filterMap fun j=>ks[j]?) true []) else none
def comp (P:Program) (N:Nat):Code->Option AC
 |.skip=>some .skip|.region _ ops draw=>match xG P N ops ops.toList with|some is=>if draw then((drawn ops (zb is is)).or (drawn ops (sq is is))).or ((AT ops (zb is is) (oE ops is)).or (AT ops (sq is is) (oE ops is))) else some (.LZ (yI [] is) false [])|none=>none
 |.seq a b=>match comp P N a,comp P N b with|some x,some y=>some (.seq x y)|_,_=>none
 |.cond c a b=>match comp P N a,comp P N b with|some x,some y=>some (.cond c x y)|_,_=>none
 |.block id a=>(comp P N a).map (.block id)|.loop a=>(comp P N a).map .loop|.exit id=>some (.exit id)|.ret=>some .ret|.scope a=>comp P N a|.label _=>some .skip|_=>none
def GM (w:List Nat):List AI->List Nat|[]=>[]|i::l=>(dr i).filter (fun s=>!w.contains s)++GM (i.d.toList++w) l
def zl:AC->List Nat|.LZ is _ _=>GM [] is|.seq a b=>zl a++zl b|.cond x a b=>tmpsOf [x]++zl a++zl b|.block _ a|.loop a=>zl a|_=>[]
def iB (bU:List Nat):AC->AC|.LZ is d _=>.LZ is d bU|.seq a b=>.seq (iB bU a) (iB bU b)|.cond x a b=>.cond x (iB bU a) (iB bU b)|.block id a=>.block id (iB bU a)|.loop a=>.loop (iB bU a)|c=>c
def jm (P:Program):List ResultVar->Option (List (Nat×Option (Option Nat)))|[]=>some []|.tmp t::l=>(jm P l).map ((t,none)::·)|.cell a t::l=>(pf P t).bind fun n=>(jm P l).map ((a,some n)::·)
structure AFn where
 n:Nat
 params:Nat
 res:List (Nat×Option (Option Nat))
 body:AC
def A8 (P:Program) (f:FuncId) (bU:List Nat):Option AFn:=match P.funcs[f]? with
 |some fn=>match fn.body,jm P fn.results.toList with|some c,some rs=>(comp P fn.ntmps c).bind fun b=>if fn.ntmps<=998 then some ⟨fn.ntmps,fn.params.size+fn.nfree,rs,iB bU b⟩ else none|_,_=>none
 |none=>none
def insN (n:Nat):List Nat->List Nat|[]=>[n]|m::l=>if n<m then n::m::l else if n=m then m::l else m::insN n l
def keepF (P:Program) (f:FuncId):List Nat:=match P.funcs[f]? with
 |some fn=>match fn.body,jm P fn.results.toList with
  |some c,some rs=>match comp P fn.ntmps c with|some b=>(zl b++rs.map (·.1)).foldr insN []|none=>[]
  |_,_=>[]
 |none=>[]
abbrev aFn (P:Program) (f:FuncId):Option AFn:=A8 P f (keepF P f)
end Go.Proofs.YtifcndkhigakfaaGreat.Ab
