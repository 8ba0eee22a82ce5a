/- Chapter 2: checksums as plain numbers: one digit, a byte, a row; by a table, and digit by digit. -/
import Derived.Test.YtifcndkhigakfaaGreatX13
set_option linter.unusedVariables false
set_option linter.unusedSimpArgs false
set_option linter.unnecessarySimpa false
set_option maxHeartbeats 40000000
set_option maxRecDepth 100000
namespace Go.Proofs.YtifcndkhigakfaaGreat.Ab
open Go Go.RowKit R
def S1 (n:Nat):Nat:=n/2^^^(if n%2=1 then 2197175160 else 0)
def S8 (n:Nat):Nat:=S1 (S1 (S1 (S1 (S1 (S1 (S1 (S1 n)))))))
def FC:Nat→Nat→Nat|0,n=>n|k+1,n=>S1 (FC k n)
theorem KI (n:Nat):FC 8 n=S8 n:=rfl
theorem Ha (a b:Nat):(a^^^b)/2=a/2^^^b/2:=by apply Nat.eq_of_testBit_eq;intro i;simp[Nat.testBit_div_two,Nat.testBit_xor]
theorem FF (a b:Nat):(a^^^b)%2=(a%2+b%2)%2:=by rcases Nat.mod_two_eq_zero_or_one a with ha|ha<;>rcases Nat.mod_two_eq_zero_or_one b with hb|hb<;>(have h:=Nat.testBit_xor (x:=a) (y:=b) (i:=0);simp only[Nat.testBit_zero,ha,hb]at h;rcases Nat.mod_two_eq_zero_or_one (a^^^b) with hc|hc<;>simp_all)
theorem HJ (a b:Nat):S1 (a^^^b)=S1 a^^^S1 b:=by
 unfold S1;rw[Ha,FF];rcases Nat.mod_two_eq_zero_or_one a with ha|ha<;>rcases Nat.mod_two_eq_zero_or_one b with hb|hb<;>simp only[ha,hb];·simp
 ·simp[Nat.xor_assoc]
 ·simp only[Nat.reduceAdd,Nat.reduceMod,if_true,if_false,Nat.zero_ne_one,Nat.xor_zero];rw[Nat.xor_assoc,Nat.xor_assoc,Nat.xor_comm 2197175160]
 ·simp only[Nat.reduceAdd,Nat.reduceMod,if_true,if_false,Nat.zero_ne_one,Nat.xor_zero];rw[Nat.xor_assoc,Nat.xor_comm 2197175160,Nat.xor_assoc,Nat.xor_self,Nat.xor_zero]
theorem Hq (a b:Nat):S8 (a^^^b)=S8 a^^^S8 b:=by unfold S8;simp only[HJ]
theorem Od (m:Nat):S1 (2*m)=m:=by unfold S1;simp
theorem PL (m:Nat):S8 (256*m)=m:=by
 have:256*m=2*(2*(2*(2*(2*(2*(2*(2*m))))))):=by omega
 unfold S8;rw[this];simp only[Od]
theorem ng {n:Nat} (h:n<4294967296):S1 n<4294967296:=by unfold S1;apply Nat.xor_lt_two_pow (n:=32) (by omega);split<;>decide
theorem KN {n:Nat} (h:n<4294967296):S8 n<4294967296:=by unfold S8;exact ng (ng (ng (ng (ng (ng (ng (ng h)))))))
theorem HD {n:Nat} (h:n<4294967296):∀k,FC k n<4294967296|0=>h|k+1=>ng (HD h k)
theorem P6 (n:Nat):n=(n%256)^^^(256*(n/256)):=by
 apply Nat.eq_of_testBit_eq;intro i;rw[Nat.testBit_xor,show(256:Nat)=2^8 from rfl,Nat.testBit_mod_two_pow,Nat.testBit_two_pow_mul,Nat.testBit_div_two_pow];by_cases h:i<8;·simp[h,show¬8≤i from by omega]
 ·simp[h,show 8≤i from by omega,show i-8+8=i from by omega]
theorem B9 (a b:Nat):(a^^^b)%256=a%256^^^b%256:=by rw[show(256:Nat)=2^8 from rfl,Nat.xor_mod_two_pow]
theorem B3 (a b:Nat):(a^^^b)/256=a/256^^^b/256:=by rw[show(256:Nat)=2^8 from rfl,Nat.xor_div_two_pow]
def LI (c x:Nat):Nat:=S8 (c%256^^^x)^^^c/256
theorem H5 {c x:Nat} (h:x<256):LI c x=S8 (c^^^x):=by have e:=P6 (c^^^x);rw[e,Hq,PL,B9,B3,Nat.mod_eq_of_lt h,Nat.div_eq_of_lt h,Nat.xor_zero];rfl
theorem Oo {c x:Nat} (hc:c<4294967296) (h:x<256):LI c x<4294967296:=by rw[H5 h];exact KN (Nat.xor_lt_two_pow (n:=32) (by omega) (by omega))
def Ft (c x:Nat):Nat→Nat|0=>c|k+1=>S1 (Ft c x k^^^(x/2^k)%2)
theorem FP {c x:Nat} (hc:c<4294967296):∀k,Ft c x k<4294967296|0=>hc|k+1=>ng (Nat.xor_lt_two_pow (n:=32) (FP hc k) (by omega))
theorem CX (c x:Nat):∀k,Ft c x k=FC k c^^^Ft 0 x k|0=>by simp[Ft,FC]|k+1=>by simp only[Ft,FC];rw[CX c x k,Nat.xor_assoc,HJ]
theorem Gy:∀x,x<256→Ft 0 x 8=S8 x:=by decide
theorem Oq {c x:Nat} (h:x<256):Ft c x 8=LI c x:=by rw[CX,KI,Gy x h,←Hq,H5 h]
def ku (c:Nat) (l:List UInt8):Nat:=l.foldl (fun c x=>LI c x.toNat) c
theorem wW (c:Nat) (l:List UInt8) (x:UInt8):ku c (l++[x])=LI (ku c l) x.toNat:=by simp[ku]
theorem pz {c:Nat} (h:c<4294967296):∀l:List UInt8,ku c l<4294967296:=by intro l;induction l generalizing c with|nil=>exact h|cons x l ih=>exact ih (Oo h (by have:=x.toNat_lt;omega))
def ve (c:Nat) (l:List UInt8):Nat:=ku (c^^^4294967295) l^^^4294967295
theorem IT {c:Nat} (h:c<4294967296) (l:List UInt8):ve c l<4294967296:=Nat.xor_lt_two_pow (n:=32) (pz (Nat.xor_lt_two_pow (n:=32) h (by omega)) l) (by omega)
def iO (l:List UInt8):Nat:=ve 0 l
theorem wrap_u32 {n:Int} (h:0≤n) (h':n<4294967296):IntKind.u32.wrap n=n:=by simp only[IntKind.wrap,IntKind.bits,IntKind.signed];simp;omega
theorem iK (w a:Nat) (h:a<2^w):(BitVec.ofInt w (a:Int)).toNat=a:=by rw[BitVec.ofInt_natCast,BitVec.toNat_ofNat,Nat.mod_eq_of_lt h]
theorem jA {a b:Nat} (ha:a<4294967296) (hb:b<4294967296):fS .xor .u32 (a:Int) (b:Int)=.int .u32 ((a^^^b:Nat):Int):=by
 have hx:a^^^b<4294967296:=Nat.xor_lt_two_pow (n:=32) ha hb;have h4:(BitVec.ofInt IntKind.u32.bits (a:Int)^^^BitVec.ofInt IntKind.u32.bits (b:Int)).toNat=a^^^b:=by show(BitVec.ofInt 32 (a:Int)^^^BitVec.ofInt 32 (b:Int)).toNat=_;rw[BitVec.toNat_xor,iK 32 a ha,iK 32 b hb]
 unfold fS;simp only[h4];exact congrArg _ (wrap_u32 (by omega) (by omega))
theorem yG {a b:Nat} (ha:a<4294967296) (hb:b<4294967296):fS .and .u32 (a:Int) (b:Int)=.int .u32 ((a&&&b:Nat):Int):=by
 have hx:a&&&b<4294967296:=Nat.lt_of_le_of_lt Nat.and_le_left ha;have h4:(BitVec.ofInt IntKind.u32.bits (a:Int)&&&BitVec.ofInt IntKind.u32.bits (b:Int)).toNat=a&&&b:=by show(BitVec.ofInt 32 (a:Int)&&&BitVec.ofInt 32 (b:Int)).toNat=_;rw[BitVec.toNat_and,iK 32 a ha,iK 32 b hb]
 unfold fS;simp only[h4];exact congrArg _ (wrap_u32 (by omega) (by omega))
theorem MV {a b:Nat} (ha:a<256) (hb:b<256):fS .xor .u8 (a:Int) (b:Int)=.int .u8 ((a^^^b:Nat):Int):=by
 have hx:a^^^b<256:=Nat.xor_lt_two_pow (n:=8) ha hb;have h4:(BitVec.ofInt IntKind.u8.bits (a:Int)^^^BitVec.ofInt IntKind.u8.bits (b:Int)).toNat=a^^^b:=by show(BitVec.ofInt 8 (a:Int)^^^BitVec.ofInt 8 (b:Int)).toNat=_;rw[BitVec.toNat_xor,iK 8 a ha,iK 8 b hb]
 unfold fS;simp only[h4];exact congrArg _ ((wrap_u8 _).trans (by omega))
def dC (l:List Int):List AV:=l.map fun n=>.pv (.int .u32 n)
def xS (l:List Int):List PV:=l.map fun n=>.int .u32 n
@[simp] theorem Hz (l:List Int):(dC l).length=l.length:=by simp[dC]
@[simp] theorem UJ (l:List Int) (i:Nat) (n:Int):(dC l).set i (.pv (.int .u32 n))=dC (l.set i n):=by simp[dC,List.map_set]
@[simp] theorem QT (l:List Int) (n:Nat):(dC l).take n=dC (l.take n):=by simp[dC,List.map_take]
@[simp] theorem Qc (l:List Int) (n:Nat):(dC l).drop n=dC (l.drop n):=by simp[dC,List.map_drop]
@[simp] theorem Fg:∀l:List Int,fA (dC l)=true|[]=>rfl|n::l=>by have:=Fg l;unfold dC at this ⊢;simp only[List.map_cons,fA,eE,Bool.true_and];exact this
theorem qL {l m:List Int} (h:l.length≤m.length):bX (dC l) 0 (dC m)=dC m:=by simp[bX,List.drop_eq_nil_of_le,Hz,h]
@[simp] theorem CI:∀l:List Int,mc (dC l)=true|[]=>rfl|n::l=>by have:=CI l;unfold dC at this ⊢;simp only[List.map_cons,mc,lz,Bool.true_and];exact this
@[simp] theorem Eu (d:Nat):∀(l:List Int) (j:Nat),fZ (lA d) j (dC l)=dC l|[],_=>rfl|n::l,j=>by have:=Eu d l (j+1);unfold dC at this ⊢;simp only[List.map_cons,fZ,this];rfl
@[simp] theorem HP:∀(l:List Int) (j:Nat),fY j (dC l)=[]|[],_=>rfl|n::l,j=>HP l (j+1)
@[simp] theorem Ds (P:Program) (aa:Nat→Option AO):∀l:List Int,xA P aa (dC l) (dC l)|[]=>trivial|n::l=>⟨⟨rfl,rfl⟩,Ds P aa l⟩
@[simp] theorem Gr:∀l m:List Int,tr (dC l) (dC m)=[]|[],[]=>rfl|[],_::_=>rfl|_::_,[]=>rfl|n::l,k::m=>Gr l m
@[simp] theorem JY:∀(l:List Int) (j:Nat),qv j (dC l)=[]|[],_=>rfl|n::l,j=>JY l (j+1)
@[simp] theorem FW (aa:Nat→Option AO):∀l:List Int,im aa (dC l)=some (xS l)|[]=>rfl|n::l=>by have:=FW aa l;unfold dC at this ⊢;simp only[List.map_cons,im,ei,this];rfl
@[simp] theorem Es (os:List (Nat×AO)):∀l:List Int,gx os (dC l)|[]=>trivial|n::l=>⟨trivial,Es os l⟩
theorem G1 (n:Nat):(List.replicate n (Value.int .u32 0)).all (·.oneCell')=true:=by rw[List.all_eq_true];intro v hv;rw[List.eq_of_mem_replicate hv];rfl
theorem Ho (n:Nat):(List.replicate n (Value.int .u32 0)).map cv=dC (List.replicate n 0):=by simp only[List.map_replicate,dC];rfl
def nH (i:Nat):List Int:=(List.range 256).map fun j=>if j<i then((S8 j:Nat):Int) else 0
@[simp] theorem GM (i:Nat):(nH i).length=256:=by simp[nH]
theorem pO:nH 0=List.replicate 256 0:=by
 apply List.ext_getElem;·simp
 ·intro k h1 h2;rw[List.getElem_replicate];simp[nH]
theorem Gn {i:Nat} (h:i<256):(nH i).set i ((S8 i:Nat):Int)=nH (i+1):=by
 apply List.ext_getElem;·simp
 ·intro k h1 h2;rw[List.getElem_set];simp only[nH,List.getElem_map,List.getElem_range];by_cases hk:i=k;·subst hk;simp
  ·rw[if_neg hk];by_cases hl:k<i;·simp[hl,show k<i+1 from by omega]
   ·simp[hl,show¬k<i+1 from by omega]
def tab:List Int:=nH 256
theorem Jp:tab.length=256:=GM 256
theorem Nv {j:Nat} (h:j<256):(xS tab).drop j=.int .u32 ((S8 j:Nat):Int)::xS (tab.drop (j+1)):=by
 have hl:j<(xS tab).length:=by simp[xS,tab];exact h
 rw[List.drop_eq_getElem_cons hl];congr 1;·simp[xS,tab,nH,h]
 ·simp[xS,List.map_drop]
def N1:List AV→Option (Prop×AV)|[]=>some (True,.agg (dC tab))|_=>none
@[simp] theorem GTab_eq:N1 []=some (True,.agg (dC tab)):=rfl
theorem JI (n:Nat) (h:n<4294967296):fS .and .u32 (n:Int) 1=.int .u32 ((n%2:Nat):Int):=by have:=yG (a:=n) (b:=1) h (by omega);rw[Nat.and_one_is_mod]at this;exact this
def mB (n:Nat):Nat:=if n%2=1 then 4294967295 else 0
def pB (n:Nat):Nat:=if n%2=1 then 2197175160 else 0
theorem Ko (n:Nat):IntKind.u32.wrap (-((n:Int)%2))=((mB n:Nat):Int):=by
 unfold mB;have e:((n:Int)%2)=((n%2:Nat):Int):=by omega
 rw[e];rcases Nat.mod_two_eq_zero_or_one n with h|h<;>rw[h]<;>decide
theorem F5 (n:Nat):fS .and .u32 2197175160 ((mB n:Nat):Int)=.int .u32 ((pB n:Nat):Int):=by
 unfold mB pB;rcases Nat.mod_two_eq_zero_or_one n with h|h<;>rw[h];·exact yG (a:=2197175160) (b:=0) (by omega) (by omega)
 ·exact(yG (a:=2197175160) (b:=4294967295) (by omega) (by omega)).trans (congrArg _ (by decide))
theorem N5 (n:Nat):(n:Int).fdiv (2^min 1 IntKind.u32.bits)=(n:Int)/2:=by show(n:Int).fdiv 2=_;exact Int.fdiv_eq_ediv_of_nonneg _ (by omega)
theorem Gx (n:Nat):(n:Int).fdiv (2^min 8 IntKind.u32.bits)=(n:Int)/256:=by show(n:Int).fdiv 256=_;exact Int.fdiv_eq_ediv_of_nonneg _ (by omega)
theorem N3 (n:Nat) {k:Nat} (hk:k≤8):(n:Int).fdiv (2^min k IntKind.u8.bits)=((n/2^k:Nat):Int):=by have hp:(0:Int)≤2^k:=Int.le_of_lt (Int.pow_pos (by omega));rw[show min k IntKind.u8.bits=k from Nat.min_eq_left hk,Int.fdiv_eq_ediv_of_nonneg _ hp];simp
theorem Ua:aR Tryz.prog 224 N1:=by
 intro ys φ r h hφ;unfold N1 at h;split at h
 ·cases h;refine aq aj (by kernel_rfl) (by conv=>lhs;reduce) (by simp) ?_;have hz1:=G1 256;have hz2:=Ho 256;generalize List.replicate 256 (Value.int .u32 0)=R at hz1 hz2;rw[←pO]at hz2;simp[hz1,hz2];refine au (fun i:Nat=>i≤256) (fun i=>⟨[(0,.ptr 0 0),(1,.ptr 1 0),(4,.pv (.int .i64 i))],[(0,.box (dC (nH 0))),(1,.box (dC (nH i)))]⟩) (fun i=>256-i) [] 0 (by simp) ?_ ?_;·simp;rw[pO];rfl
  ·rintro i hi;have w2:IntKind.i64.wrap ((i:Int)+1)=(i:Int)+1:=wrap_i64 (by omega);by_cases hlt:i<256
   ·have hlt':(i:Int)<256:=by omega
    have w3:IntKind.u32.wrap (i:Int)=(i:Int):=wrap_u32 (by omega) (by omega);simp[w2,w3,hlt,hlt'];refine au (fun k:Nat=>k≤8) (fun k=>⟨[(0,.ptr 0 0),(1,.ptr 1 0),(2,.pv (.int .i64 i)),(3,.pv (.int .u32 ((FC k i:Nat):Int))),(4,.pv (.int .i64 i)),(9,.pv (.int .i64 k))],[(0,.box (dC (nH 0))),(1,.box (dC (nH i)))]⟩) (fun k=>8-k) [] 0 (by simp) ?_ ?_;·simp[FC]
    ·rintro k hk;have w4:IntKind.i64.wrap ((k:Int)+1)=(k:Int)+1:=wrap_i64 (by omega);by_cases hkl:k<8
     ·have hkl':(k:Int)<8:=by omega
      have hs:FC k i<4294967296:=HD (by omega) k;generalize hc:FC k i=c at hs;have f1:=JI c hs;have f2:=Ko c;have f3:=F5 c;have f5:=N5 c;have f4:fS .xor .u32 ((c:Int)/2) ((pB c:Nat):Int)=.int .u32 ((S1 c:Nat):Int):=jA (a:=c/2) (b:=pB c) (by omega) (by unfold pB;split<;>omega);simp[w4,hkl',f1,f2,f3,f4,f5];exact⟨k+1,by omega,⟨by simp only[FC,hc],by omega⟩,by omega⟩
     ·have hk8:k=8:=by omega
      subst hk8;have hS:FC 8 i=S8 i:=KI i;simp[w2,hlt',hS,Gn hlt];rw[if_pos hlt];exact⟨trivial,i+1,by omega,⟨by omega,⟨fun h=>absurd h Nat.zero_ne_one,rfl⟩⟩,by omega⟩
   ·have hi6:i=256:=by omega
    subst hi6;simp[qL];have ht:(nH 256).take 256=tab:=List.take_of_length_le (by simp);rw[ht];exact Ds _ _ _
 ·cases h
@[simp] def Z2:List AV→Option (Prop×AV)|[.rp ps,.pv (.int .u32 c),.pv (.ro b)]=>(bytesOf b).map fun l=>(ps=xS tab∧0≤c∧c<4294967296∧l.length≤1000000000,.pv (.int .u32 ((ve c.toNat l:Nat):Int)))|_=>none
theorem gV:∀{rows:List (List PV)}{l:List UInt8},bytesOf rows=some l→rows=bytesRow l
 |[],l,h=>by simp[bytesOf]at h;subst h;rfl|r::rows,l,h=>by
  simp only[bytesOf,Option.bind_eq_some_iff,Option.map_eq_some_iff]at h;obtain⟨c,hc,m,hm,rfl⟩:=h;have ih:=gV hm;unfold byteOf at hc;split at hc
  ·rename_i n;split at hc
   ·rename_i hn;simp only[Option.some.injEq]at hc;subst hc;have e:((UInt8.ofNat n.toNat).toNat:Int)=n:=by rw[UInt8.toNat_ofNat'];omega
    rw[ih];simp only[bytesRow,List.map_cons,e]
   ·cases hc
  ·cases hc
theorem bytes_at {l:List UInt8}{i:Nat} (h:i<l.length):rowAt (bytesRow l) (i:Int)=[.int .u8 ((l[i].toNat:Nat):Int)]:=by simp[rowAt,bytesRow,h]
theorem UT:aR Tryz.prog 225 Z2:=by
 intro ys φ r h hφ;unfold Z2 at h;split at h
 ·rename_i ps c0 rb;obtain⟨b,hb,h⟩:=Option.map_eq_some_iff.1 h;cases h;obtain⟨rfl,hc0,hc1,hbl⟩:=hφ;cases gV hb;obtain⟨c0,rfl⟩:∃m:Nat,c0=(m:Int):=⟨c0.toNat,by omega⟩;rw[Int.toNat_natCast];have hc2:c0<4294967296:=by omega
  refine aq aj (by kernel_rfl) (by conv=>lhs;reduce) (by simp) ?_;have x1:=jA (a:=c0) (b:=4294967295) hc2 (by omega);have x1':fS .xor .u32 (c0:Int) 4294967295=.int .u32 ((c0^^^4294967295:Nat):Int):=x1;have hq:c0^^^4294967295<4294967296:=Nat.xor_lt_two_pow (n:=32) hc2 (by omega);generalize hC:c0^^^4294967295=C at x1' hq;simp[x1'];refine au (fun i:Nat=>i≤b.length) (fun i=>⟨[(0,.rp (xS tab)),(1,.pv (.int .u32 ((ku C (b.take i):Nat):Int))),(11,.pv (.ro (bytesRow b))),(12,.pv (.int .i64 b.length)),(13,.pv (.int .i64 i))],[]⟩) (fun i=>b.length-i) [] 0 (by simp) ?_ ?_;·simp[ku]
  ·rintro i hi;have w2:IntKind.i64.wrap ((i:Int)+1)=(i:Int)+1:=wrap_i64 (by omega);have hlt4:=pz hq (b.take i);by_cases hlt:i<b.length
   ·have hlt':(i:Int)<(b.length:Int):=by omega
    have r1:=bytes_at hlt;have hs:ku C (b.take (i+1))=LI (ku C (b.take i)) b[i].toNat:=by rw[List.take_succ_eq_append_getElem hlt,wW]
    generalize ku C (b.take i)=c at hlt4 hs;have hx:b[i].toNat<256:=b[i].toNat_lt;generalize b[i].toNat=x at hx r1 hs;have w3:IntKind.u8.wrap (c:Int)=((c%256:Nat):Int):=(wrap_u8 _).trans (by omega);have w3':IntKind.u8.wrap (c:Int)=(c:Int)%256:=wrap_u8 _;have x2:fS .xor .u8 ((c:Int)%256) (x:Int)=.int .u8 ((c%256^^^x:Nat):Int):=MV (a:=c%256) (b:=x) (by omega) hx;have hj:c%256^^^x<256:=Nat.xor_lt_two_pow (n:=8) (by omega) hx;have x4:fS .xor .u32 ((S8 (c%256^^^x):Nat):Int) ((c:Int)/256)=.int .u32 ((LI c x:Nat):Int):=jA (a:=S8 (c%256^^^x)) (b:=c/256) (KN (by omega)) (by omega);generalize hJ:c%256^^^x=j at x2 hj x4;have hj':(j:Int)<256:=by omega
    have t1:=Nv hj;have f5:=Gx c;simp[w2,w3',hlt',r1,x2,hj',t1,f5,x4];exact⟨i+1,by omega,⟨by rw[hs],by omega⟩,by omega⟩
   ·have:i=b.length:=by omega
    subst this;have x3:fS .xor .u32 ((ku C b:Nat):Int) 4294967295=.int .u32 ((ve c0 b:Nat):Int):=by unfold ve;rw[hC];exact jA (a:=ku C b) (b:=4294967295) (pz hq b) (by omega)
    simp[x3,List.take_length]
 ·cases h
theorem YL (c:Nat) (hc:c<4294967296):u9 Tryz.prog 196 [] [.pv (.int .u32 c)] [] (.pv (.int .u32 ((S1 c:Nat):Int))):=by
 refine aq aj (by kernel_rfl) (by conv=>lhs;reduce) (by simp) ?_;rcases Nat.mod_two_eq_zero_or_one c with h|h
 ·have e:(c:Int).tmod 2=0:=by rw[Int.tmod_eq_emod_of_nonneg (by omega)];omega
  have q:(c:Int).tdiv 2=(c:Int)/2:=Int.tdiv_eq_ediv_of_nonneg (by omega);have q1:((S1 c:Nat):Int)=(c:Int)/2:=by unfold S1;rw[h];simp
  have w:=wrap_u32 (n:=(c:Int)/2) (by omega) (by omega);simp[e,q,q1,w]
 ·have e:(c:Int).tmod 2=1:=by rw[Int.tmod_eq_emod_of_nonneg (by omega)];omega
  have q:(c:Int).tdiv 2=(c:Int)/2:=Int.tdiv_eq_ediv_of_nonneg (by omega);have w:=wrap_u32 (n:=(c:Int)/2) (by omega) (by omega);have x1:fS .xor .u32 ((c:Int)/2) 2197175160=.int .u32 ((S1 c:Nat):Int):=by unfold S1;rw[h,if_pos rfl];exact jA (a:=c/2) (b:=2197175160) (by omega) (by omega)
  simp[e,q,w,x1]
@[simp] def XL:List AV→Option (Prop×AV)|[.pv (.int .u32 c)]=>some (0≤c∧c<4294967296,.pv (.int .u32 ((S1 c.toNat:Nat):Int)))|_=>none
theorem Oe:aR Tryz.prog 196 XL:=by
 intro ys φ r h hφ;unfold XL at h;split at h;·rename_i c;cases h;obtain⟨c,rfl⟩:∃m:Nat,c=(m:Int):=⟨c.toNat,by omega⟩;rw[Int.toNat_natCast];exact YL c (by omega)
 ·cases h
@[simp] def LN:List AV→Option (Prop×AV)|[.pv (.int .u32 c),.pv (.ro b)]=>(bytesOf b).map fun l=>(0≤c∧c<4294967296∧l.length≤1000000000,.pv (.int .u32 ((ve c.toNat l:Nat):Int)))|_=>none
theorem OJ:aR Tryz.prog 150 LN:=by
 intro ys φ r h hφ;unfold LN at h;split at h
 ·rename_i c0 rb;obtain⟨b,hb,h⟩:=Option.map_eq_some_iff.1 h;cases h;obtain⟨hc0,hc1,hbl⟩:=hφ;cases gV hb;obtain⟨c0,rfl⟩:∃m:Nat,c0=(m:Int):=⟨c0.toNat,by omega⟩;rw[Int.toNat_natCast];have hc2:c0<4294967296:=by omega
  refine aq (af Oe aj) (by kernel_rfl) (by conv=>lhs;reduce) (by simp) ?_;have x1:fS .xor .u32 (c0:Int) 4294967295=.int .u32 ((c0^^^4294967295:Nat):Int):=jA (a:=c0) (b:=4294967295) hc2 (by omega);have hq:c0^^^4294967295<4294967296:=Nat.xor_lt_two_pow (n:=32) hc2 (by omega);generalize hC:c0^^^4294967295=C at x1 hq;simp[x1];refine au (fun i:Nat=>i≤b.length) (fun i=>⟨[(0,.pv (.int .u32 ((ku C (b.take i):Nat):Int))),(1,.pv (.ro (bytesRow b))),(5,.pv (.int .i64 i))],[]⟩) (fun i=>b.length-i) [] 0 (by simp) ?_ ?_;·simp[ku]
  ·rintro i hi;have w2:IntKind.i64.wrap ((i:Int)+1)=(i:Int)+1:=wrap_i64 (by omega);have hlt4:=pz hq (b.take i);by_cases hlt:i<b.length
   ·have hlt':(i:Int)<(b.length:Int):=by omega
    have r1:=bytes_at hlt;have hs:ku C (b.take (i+1))=LI (ku C (b.take i)) b[i].toNat:=by rw[List.take_succ_eq_append_getElem hlt,wW]
    generalize ku C (b.take i)=c at hlt4 hs;have hx:b[i].toNat<256:=b[i].toNat_lt;generalize b[i].toNat=x at hx r1 hs;simp[hlt'];refine au (fun k:Nat=>k≤8) (fun k=>⟨[(0,.pv (.int .u32 ((Ft c x k:Nat):Int))),(1,.pv (.ro (bytesRow b))),(5,.pv (.int .i64 i)),(6,.pv (.int .i64 k))],[]⟩) (fun k=>8-k) [] 0 (by simp) ?_ ?_;·simp[Ft]
    ·rintro k hk;have w4:IntKind.i64.wrap ((k:Int)+1)=(k:Int)+1:=wrap_i64 (by omega);by_cases hkl:k<8
     ·have hkl':(k:Int)<8:=by omega
      have hd:=FP (x:=x) hlt4 k;have he:Ft c x (k+1)=S1 (Ft c x k^^^(x/2^k)%2):=rfl;have hD:x/2^k<256:=Nat.lt_of_le_of_lt (Nat.div_le_self _ _) hx;have hf:=N3 x (k:=k) (by omega);generalize x/2^k=D at hf hD he;have w5:IntKind.u32.wrap (D:Int)=(D:Int):=wrap_u32 (by omega) (by omega);have w6:(D:Int).tmod 2=((D%2:Nat):Int):=by rw[Int.tmod_eq_emod_of_nonneg (by omega)];omega
      have hE:D%2<2:=by omega
      generalize D%2=E at w6 hE he;generalize Ft c x k=y at hd he;have x2:=jA (a:=y) (b:=E) hd (by omega);have hz:y^^^E<4294967296:=Nat.xor_lt_two_pow (n:=32) hd (by omega);generalize y^^^E=z at x2 hz he;have hz':(z:Int)<4294967296:=by omega
      have hk0:(0:Int)≤(k:Int):=by omega
      simp[w4,hkl',hlt',r1,hf,w5,w6,x2,hz',hz,hk0];exact⟨k+1,by omega,⟨by rw[he],by omega⟩,by omega⟩
     ·have hk8:k=8:=by omega
      subst hk8;simp[w2];exact⟨i+1,by omega,⟨by rw[hs,Oq hx],by omega⟩,by omega⟩
   ·have:i=b.length:=by omega
    subst this;have x3:fS .xor .u32 ((ku C b:Nat):Int) 4294967295=.int .u32 ((ve c0 b:Nat):Int):=by unfold ve;rw[hC];exact jA (a:=ku C b) (b:=4294967295) (pz hq b) (by omega)
    simp[x3,List.take_length]
 ·cases h
def E0:List AV→Option (Prop×AV)|[.pv (.ro [[.ro b]])]=>(bytesOf b).map fun l=>(l.length≤1000000000,.pv (.int .u32 ((iO l:Nat):Int)))|_=>none
@[simp] theorem Iu (b:List (List PV)):E0 [.pv (.ro [[.ro b]])]=(bytesOf b).map fun l=>(l.length≤1000000000,.pv (.int .u32 ((iO l:Nat):Int))):=rfl
theorem Ji (l:List UInt8):iO l<4294967296:=IT (by omega) l
theorem dK:∀l:List UInt8,bytesOf (bytesRow l)=some l|[]=>rfl|c::l=>by have ih:=dK l;have h:=c.toNat_lt;simp only[bytesRow,List.map_cons]at ih ⊢;simp only[bytesOf,ih,byteOf];rw[if_pos (by omega)];simp
theorem Yk:aR Tryz.prog 198 E0:=by
 intro ys φ r h hφ;unfold E0 at h;split at h
 ·rename_i rb;obtain⟨b,hb,h⟩:=Option.map_eq_some_iff.1 h;cases h;cases gV hb;have hbb:=dK b;refine aq (af Ua (af UT aj)) (by kernel_rfl) (by conv=>lhs;reduce) (by simp) ?_;have hz1:=G1 256;have hz2:=Ho 256;generalize List.replicate 256 (Value.int .u32 0)=R at hz1 hz2;rw[←pO]at hz2;have hsp:bX (dC (nH 0)) 0 (dC tab)=dC tab:=qL (by simp[tab]);have ht:=Jp;have htr:GR (.agg (dC tab))=false:=by rw[DK,List.any_eq_false];intro x hx;simp only[dC,List.mem_map]at hx;obtain⟨n,_,rfl⟩:=hx;simp
  simp[-DK,htr,hz1,hz2,hsp,ht];refine au (fun i:Nat=>i≤1) (fun i=>⟨[(3,.ptr 3 0),(4,.pv (.int .u32 (if i=0 then 0 else((iO b:Nat):Int)))),(8,.pv (.ro [[.ro (bytesRow b)]])),(9,.pv (.int .i64 1)),(10,.pv (.int .i64 i))],[(3,.box (dC tab))]⟩) (fun i=>1-i) [] 0 (by simp) ?_ ?_;·simp
  ·rintro i hi;by_cases h0:i=0;·subst h0;have hr:rowAt [[PV.ro (bytesRow b)]] 0=[.ro (bytesRow b)]:=rfl;have hs:ve 0 b=iO b:=rfl;simp[hr,hbb,hφ,hs];exact⟨1,by omega,⟨fun h=>absurd h (by omega),by decide⟩,by omega⟩
   ·have:i=1:=by omega
    subst this;simp
 ·cases h
theorem Po:aR Tryz.prog 106 E0:=by
 intro ys φ r h hφ;unfold E0 at h;split at h
 ·rename_i rb;obtain⟨b,hb,h⟩:=Option.map_eq_some_iff.1 h;cases h;cases gV hb;have hbb:=dK b;refine aq (af OJ aj) (by kernel_rfl) (by conv=>lhs;reduce) (by simp) ?_;simp;refine au (fun i:Nat=>i≤1) (fun i=>⟨[(0,.pv (.ro [[.ro (bytesRow b)]])),(3,.own 3),(4,.pv (.int .i64 i))],[(3,.arr 5 (if i=0 then[] else bytesRow b))]⟩) (fun i=>1-i) [] 0 (by simp) ?_ ?_;·simp
  ·rintro i hi;by_cases h0:i=0;·subst h0;have hr:rowAt [[PV.ro (bytesRow b)]] 0=[.ro (bytesRow b)]:=rfl;simp[hr,aw];refine⟨⟨by omega,by omega,?_⟩,1,by omega,⟨by decide,fun h=>absurd h (by omega)⟩,by omega⟩;intro q hq;simp only[bytesRow,List.mem_map]at hq;obtain⟨c,_,rfl⟩:=hq;rfl
   ·have:i=1:=by omega
    subst this;have hs:ve 0 b=iO b:=rfl;simp[hbb,hφ,hs]
 ·cases h
@[simp] def GOf:List AV→Option (Prop×AV)|[.pv (.ro b)]=>(bytesOf b).map fun l=>(l.length≤1000000000,.agg [.pv (.int .u64 l.length),.pv (.int .u64 ((iO l:Nat):Int))])|_=>none
def ey (s:Nat):List UInt8:=[s.toUInt8,(s/256).toUInt8,(s/65536).toUInt8,(s/16777216).toUInt8]
def sj (k:UInt8) (b:List UInt8):List UInt8:=k::bd (b.length:Int)++b
def je (k:UInt8) (b:List UInt8):List UInt8:=sj k b++ey (iO (sj k b))
theorem w8 (n:Nat):IntKind.u8.wrap (n:Int)=(n.toUInt8.toNat:Int):=by rw[wrap_u8];simp
theorem D7 (b:List UInt8):∀r∈bytesRow b,r.length=1:=by intro r hr;simp only[bytesRow,List.mem_map]at hr;obtain⟨c,_,rfl⟩:=hr;rfl
theorem yy (b:List UInt8) (h:b.length≤65535):(bd (b.length:Int)).length≤10:=by
 show(bp b.length).length≤10;by_cases h1:b.length<128;·rw[cj h1];simp
 ·rw[eZ h1];by_cases h2:b.length/128<128;·rw[cj h2];simp
  ·rw[eZ h2,cj (by omega)];simp
theorem ph (k:UInt8) (b:List UInt8) (h:b.length≤65535):(sj k b).length≤b.length+11:=by have:=yy b h;simp only[sj,List.length_append,List.length_cons];omega
@[simp] noncomputable def Uc:List AV→Option (Prop×AV)|[.pv (.ro b)]=>(dec di b).map fun l=>(l.length≤1000000000,.fr 5 (bytesRow (ey (iO l))))|_=>none
theorem KU:aR Tryz.prog 156 Uc:=by
 intro ys φ r h hφ;unfold Uc at h;split at h
 ·obtain⟨b,hb,h⟩:=Option.map_eq_some_iff.1 h;cases h;cases aE hb;refine aq (af Yk aj) (by kernel_rfl) (by conv=>lhs;reduce) (by simp) ?_;have hbb:=dK b;have hl:b.length≤1000000000:=hφ;generalize hs:iO b=s;have f1:(s:Int).fdiv (2^min 8 IntKind.u32.bits)=((s/256:Nat):Int):=by rw[Gx];simp
  have f2:(s:Int).fdiv (2^min 16 IntKind.u32.bits)=((s/65536:Nat):Int):=by show(s:Int).fdiv 65536=_;rw[Int.fdiv_eq_ediv_of_nonneg _ (by omega)];simp
  have f3:(s:Int).fdiv (2^min 24 IntKind.u32.bits)=((s/16777216:Nat):Int):=by show(s:Int).fdiv 16777216=_;rw[Int.fdiv_eq_ediv_of_nonneg _ (by omega)];simp
  simp[hbb,hl,hs];rw[f1,f2,f3,w8,w8,w8,w8];rfl
 ·cases h
structure Fm where
 k:UInt8
 b:List UInt8
def lD (f:Fm):List PV:=[.int .u8 (f.k.toNat:Int),.ro (bytesRow f.b)]
theorem bytes_inj {a b:List UInt8} (h:bytesRow a=bytesRow b):a=b:=by have h1:=dK a;rw[h,dK]at h1;cases h1;rfl
theorem HH:∀a b,lD a=lD b→a=b:=by rintro⟨k,b⟩ ⟨k',b'⟩ h;simp only[lD,List.cons.injEq,PV.int.injEq,PV.ro.injEq,true_and,and_true]at h;have hk:k=k':=UInt8.toNat_inj.1 (by omega);rw[hk,bytes_inj h.2]
def dv (l:List Fm):List (List PV):=l.map lD
@[simp] theorem Jn (l:List Fm):(dv l).length=l.length:=by simp[dv]
theorem n9 {l:List Fm}{i:Nat} (h:i<l.length):rowAt (dv l) (i:Int)=[.int .u8 (l[i].k.toNat:Int),.ro (bytesRow l[i].b)]:=by simp[rowAt,dv,h,lD]
@[simp] theorem jY (l:List Fm):dec lD (dv l)=some l:=ld HH l
theorem jN {rows:List (List PV)}{l:List Fm} (h:dec lD rows=some l):rows=dv l:=kF h
@[simp] theorem dec_F1 (k:UInt8) (b:List UInt8):dec lD [[.int .u8 (k.toNat:Int),.ro (bytesRow b)]]=some [⟨k,b⟩]:=jY [⟨k,b⟩]
@[simp] noncomputable def Gfr (F:UInt8→List UInt8→List UInt8):List AV→Option (Prop×AV)|[.agg [.pv k,.pv b]]=>(dec lD [[k,b]]).map fun l=>(((l.map Fm.b).getD 0 []).length≤65535,.fr 5 (bytesRow (l.flatMap fun f=>F f.k f.b)))|_=>none
theorem j9 {k b:PV}{l:List Fm} (h:dec lD [[k,b]]=some l):∃f:Fm,l=[f]∧k=.int .u8 (f.k.toNat:Int)∧b=.ro (bytesRow f.b):=by have h2:=jN h;match l,h2 with|[f],h2=>simp only[dv,List.map_cons,List.map_nil,List.cons.injEq,and_true,lD]at h2;exact⟨f,rfl,h2.1,h2.2⟩
theorem WL:aR Tryz.prog 155 (Gfr fun k b=>k::bd (b.length:Int)):=by
 intro ys φ r h hφ;unfold Gfr at h;split at h;·obtain⟨l,hk,h⟩:=Option.map_eq_some_iff.1 h;cases h;obtain⟨⟨k,b⟩,rfl,rfl,rfl⟩:=j9 hk;have hl:b.length≤65535:=hφ;have hv:=yy b hl;refine aq (af xw aj) (by kernel_rfl) (by conv=>lhs;reduce) (by simp) ?_;have w:IntKind.u64.wrap (b.length:Int)=(b.length:Int):=wrap_u64 (by omega);simp[w,aw];refine⟨by omega,⟨by omega,by omega,D7 _⟩,rfl⟩
 ·cases h
theorem TE:aR Tryz.prog 115 (Gfr je):=by
 intro ys φ r h hφ;unfold Gfr at h;split at h
 ·obtain⟨l,hk,h⟩:=Option.map_eq_some_iff.1 h;cases h;obtain⟨⟨k,b⟩,rfl,rfl,rfl⟩:=j9 hk;have hl:b.length≤65535:=hφ;have hv:=yy b hl;refine aq (af WL (af KU aj)) (by kernel_rfl) (by conv=>lhs;reduce) (by simp) ?_;have hf:=ph k b hl;have j1:bytesRow (k::bd (b.length:Int))++bytesRow b=bytesRow (sj k b):=by simp[bytesRow,sj]
  have j2:bytesRow (sj k b)++bytesRow (ey (iO (sj k b)))=bytesRow (je k b):=by simp[bytesRow,je]
  have hl2:(sj k b).length≤1000000000:=by omega
  have h4:∀s,(ey s).length=4:=fun s=>rfl;simp[hl,j1,j2,hl2,h4,aw];exact⟨⟨by omega,by omega,D7 _⟩,by simp[ey,bytesRow,cT,iv],by omega,by omega,D7 _⟩
 ·cases h
@[simp] noncomputable def GfP:List AV→Option (Prop×AV)|[.agg [.pv k,.pv b]]=>(dec lD [[k,b]]).map fun l=>(((l.map Fm.b).getD 0 []).length≤65535,.aS [.fr 5 (bytesRow (l.flatMap fun f=>je f.k f.b)),.pv (.int .i64 0)])|_=>none
theorem c_fP:aR Tryz.prog 67 GfP:=by
 intro ys φ r h hφ;unfold GfP at h;split at h
 ·obtain⟨l,hk,h⟩:=Option.map_eq_some_iff.1 h;cases h;obtain⟨⟨k,b⟩,rfl,rfl,rfl⟩:=j9 hk;have hl:b.length≤65535:=hφ;have hl2:¬(65535:Int)<(b.length:Int):=by omega
  have hl3:(b.length:Int)≤65535:=by omega
  refine aq (af TE aj) (by kernel_rfl) (by conv=>lhs;reduce) (by simp) ?_;simp[hl,hl2,hl3]
 ·cases h
def fT (l:List Fm):List UInt8:=l.flatMap fun f=>je f.k f.b
theorem ss (k:UInt8) (b:List UInt8) (h:b.length≤65535):(je k b).length≤66000:=by have:=ph k b h;show(sj k b++ey _).length≤_;rw[List.length_append];show _+4≤_;omega
theorem sE:∀(l:List Fm),(∀f∈l,f.b.length≤65535)→(fT l).length≤l.length*66000|[],_=>by simp[fT]|f::l,h=>by have ih:=sE l fun g hg=>h g (by simp[hg]);have h1:=ss f.k f.b (h f (by simp));simp only[fT,List.flatMap_cons,List.length_append,List.length_cons]at ih ⊢;omega
@[simp] noncomputable def GfJ:List AV→Option (Prop×AV)|[.pv (.ro a)]=>(dec lD a).map fun l=>(l.length≤1000∧(∀f∈l,f.b.length≤65535),.aS [.fr 5 (bytesRow (fT l)),.pv (.int .i64 0)])|_=>none
theorem c_fJ:aR Tryz.prog 35 GfJ:=by
 intro ys φ r h hφ;unfold GfJ at h;split at h
 ·obtain⟨l,hk,h⟩:=Option.map_eq_some_iff.1 h;cases h;cases jN hk;obtain⟨hn,hb⟩:=hφ;refine aq (af c_fP aj) (by kernel_rfl) (by conv=>lhs;reduce) (by simp) ?_;simp;refine au (fun i:Nat=>i≤l.length) (fun i=>⟨[(0,.pv (.ro (dv l))),(2,.own 2),(3,.pv (.int .i64 0)),(4,.own 4),(9,.pv (.ro (dv l))),(10,.pv (.int .i64 l.length)),(11,.pv (.int .i64 (i:Int)))],[(2,.arr 5 []),(4,.arr 5 (bytesRow (fT (l.take i))))]⟩) (fun i=>l.length-i) [] 0 (by simp) ?_ ?_;·simp[fT,bytesRow]
  ·intro i hi;have w2:IntKind.i64.wrap ((i:Int)+1)=(i:Int)+1:=wrap_i64 (by omega);by_cases hlt:i<l.length
   ·have r1:=n9 hlt;have h1:=hb l[i] (List.getElem_mem hlt);have h2:=ss l[i].k l[i].b h1;have h3:=sE (l.take i) fun f hf=>hb f (List.mem_of_mem_take hf);have h4:(l.take i).length≤1000:=by rw[List.length_take];omega
    have j1:bytesRow (fT (l.take i))++bytesRow (je l[i].k l[i].b)=bytesRow (fT (l.take (i+1))):=by rw[List.take_succ_eq_append_getElem hlt];simp only[fT,List.flatMap_append,List.flatMap_cons,List.flatMap_nil,List.append_nil,bytesRow,List.map_append]
    simp[w2,hlt,r1,h1,j1,aw];exact⟨⟨by omega,by omega,D7 _⟩,i+1,by omega,⟨by omega,rfl⟩,by omega⟩
   ·simp[hlt];rw[List.take_of_length_le (by omega)]
 ·cases h
end Go.Proofs.YtifcndkhigakfaaGreat.Ab
namespace Go.Proofs.YtifcndkhigakfaaGreat.Ab
open Go Go.RowKit Go.Shelf R
attribute[local go_sem] Oper.semAt_some
theorem Ix (a b:List UInt8):dH (a++b)=dH a++dH b:=by simp[dH]
theorem EI {s i:Nat} (h:i<4):(ey s).take (i+1)=(ey s).take i++[(s/256^i).toUInt8]:=by rcases(show i=0∨i=1∨i=2∨i=3 by omega) with rfl|rfl|rfl|rfl<;>simp[ey]
theorem vO {n0:Nat}{w W W':World}{V:Value}{e:TypeId}{sz n:Nat}{xs:List Value} (hW:Below n0 w W) (hr:W.ownsRow n0 e sz V n xs) (hg:W.grownBy W' V.ownBlock) (hn:n0≤w.heap.size:=by omega):Below n0 w W':=by
 refine hW.grown hg (Nat.le_trans hn hW.size) fun q e=>?_;rcases hr.2 with⟨hv,_⟩|⟨g,cap,cur,hv,hgb,_⟩;·rw[hv]at e;cases e
 ·rw[hv]at e;have e':some g=some q:=e;cases e';exact hgb
theorem uX {P:Program} (w:World) (base:Nat) (t ty e:TypeId) (i:TypeInfo) (z:Value) (size bytes:Nat) (ht:P.underlying t=some (.slice e)) (hi:P.info? e=some i) (hz:i.zero=some z) (hsize:i.size=size) (hby:i.bytes=bytes) (hzs:z.cells.size=size) (hsz:0<size) (v:Value) (n:Nat) (xs:List Value) (hown:w.ownsRow base e size v n xs) (Ao:Option Addr) (m c:Nat) (news:List Value) (hl:news.length=m*size) (hX:(∃A,Ao=some A∧∀j u,news[j]?=some u→w.cell? (A.add j)=some u)∨(Ao=none∧m=0)) (h1:∀u∈news,u.oneCell'=true) (h63:n+m≤maxLen) (hbytes:(n+m)*bytes≤140737488355328) (hbase:base≤w.heap.size):∃v' w',(Builtin.append_ #[t,t] ty #[v,.slice Ao m c]).run P w=.ok v' w'∧w'.ownsRow base e size v' (n+m) (xs++news)∧w.grownBy w' v.ownBlock:=by
 rcases hX with⟨A,rfl,hnews⟩|⟨rfl,rfl⟩;·obtain⟨v',w',r1,r2,r3,_⟩:=run_append_own (P:=P) w base t ty e i z size bytes ht hi hz hsize hby hzs hsz v n xs hown A m c news hl hnews h1 h63 hbytes hbase;exact⟨v',w',r1,r2,r3⟩
 ·obtain rfl:news=[]:=List.eq_nil_of_length_eq_zero (by simpa using hl);refine⟨v,w,?_,by simpa using hown,⟨rfl,rfl,rfl,Nat.le_refl _,fun _ _ _=>rfl⟩⟩;rcases hown.2 with⟨rfl,rfl⟩|⟨g,cap,cur,rfl,_,_,hnc,_⟩;·simp[Builtin.append_,run_underlying ht,sizeOf,typeInfo,hi,Builtin.lenOf,Builtin.firstCells]
  ·simp[Builtin.append_,run_underlying ht,sizeOf,typeInfo,hi,Builtin.lenOf,Builtin.firstCells,hnc,storeCells]
theorem m0 {F:Fence}{n:Nat}{P:Program} (w:World) {ops:Array Oper}{rest:List Oper}{o:Oper}{a:Act}{Q:Exit→Act→World→Prop} (hg:o.guard=none) (s x:Operand) (t:TypeId) (hop:o.op=Op.call {callee:=Callee.builtin Builtin.append,args:=#[s,x],argTypes:=#[t,t]}) (base:Nat) (e:TypeId) (i:TypeInfo) (z:Value) (size bytes:Nat) (h1:P.underlying t=some (.slice e)) (h2:P.info? e=some i) (h3:i.zero=some z) (h4:i.size=size) (h5:i.bytes=bytes) (h6:z.cells.size=size) (h7:0<size) (v:Value) (k:Nat) (xs:List Value) (hs:a.eval s=v) (hown:w.ownsRow base e size v k xs) (Ao:Option Addr) (m c:Nat) (news:List Value) (hx:a.eval x=.slice Ao m c) (hn:news.length=m*size) (hX:(∃A,Ao=some A∧∀j u,news[j]?=some u→w.cell? (A.add j)=some u)∨(Ao=none∧m=0)) (h1c:∀u∈news,u.oneCell'=true) (b1:k+m≤maxLen) (b2:(k+m)*bytes≤140737488355328) (b3:base≤w.heap.size) (hK:∀v' w',w'.ownsRow base e size v' (k+m) (xs++news)→w.grownBy w' v.ownBlock→True→wpListIn F n P ops Q rest (a.put o.dst v') w'):wpListIn F n P ops Q (o::rest) a w:=by
 refine wpListIn_plain hg fun K hK'=>?_;obtain⟨v',w',hrun,r1,r2⟩:=uX (P:=P) w base t o.type e i z size bytes h1 h2 h3 h4 h5 h6 h7 v k xs hown Ao m c news hn hX h1c b1 b2 b3;unfold Oper.wpIn;refine⟨?_,?_⟩;·simp[Oper.about,hop,resolve,Target.leads,Sem.run_pure]
 ·rw[Oper.semAt_plain F _ _ (by rw[hop];intro c hc';cases hc')];simp[execOp,hop,resolve,invoke,builtin,hs,hx,hrun,Result.andThen];exact hK' _ _ (hK v' w' r1 r2 trivial)
set_option maxHeartbeats 4000000 in theorem Is (k:UInt8) (b P:List UInt8) (s:Nat) (hs:s<4294967296) (Ao:Option Addr) (c:Nat) (hb:b.length≤65535) (hP:P.length≤10) (hP0:P≠[]) (w:World) (hX:(∃A,Ao=some A∧(b≠[]→A.block<w.heap.size)∧∀j u,(dH b)[j]?=some u→w.cell? (A.add j)=some u)∨(Ao=none∧b.length=0)) (hp:∀W,Calls Tryz.prog 68 #[.int .u64 b.length] W fun e W1=>∃A c,e=.returned (.slice (some A) P.length c)∧(∀j,j<P.length→W1.cell? (A.add j)=(dH P)[j]?)∧A.block<W1.heap.size∧Below W.heap.size W W1) (hS:∀W A c V,1≤c→W.cell? (A.add 0)=some V→W.ownsRow 0 5 1 V (k::P++b).length (dH (k::P++b))→Calls Tryz.prog 106 #[.slice (some A) 1 c] W fun e W1=>e=.returned (.int .u32 (s:Int))∧Below W.heap.size W W1):Calls Tryz.prog 61 #[.agg #[.int .u8 (k.toNat:Int),.slice Ao b.length c]] w fun e w'=>∃V',e=.returned V'∧w'.ownsRow w.heap.size 5 1 V' (k::P++b++ey s).length (dH (k::P++b++ey s))∧Below w.heap.size w w':=by
 refine(callsIn_wide (n:=6)).1 ?_;refine callsIn_of_wp Tryz.func61 rfl trivial ?_ rfl;simp only[Tryz.ntmps61,List.size_toArray,List.length_cons,List.length_nil,Nat.reduceAdd,Nat.reduceSub,Array.replicate_succ,Array.replicate_zero,List.push_toArray,List.append_toArray,List.nil_append,List.cons_append];have hw:IntKind.u64.wrap (b.length:Int)=(b.length:Int):=wrap_u64 (by omega);obtain⟨iu,hiu,hu0,hu1,hu2⟩:=info_parts yF;obtain⟨W0,hW0⟩:∃W0,W0=(w.alloc (.cells #[.int .u8 (k.toNat:Int),.slice Ao b.length c] 64)).alloc (.cells #[.int .u8 (k.toNat:Int)] 5):=⟨_,rfl⟩;have hB0:Below w.heap.size w W0:=by rw[hW0];exact((Below.refl _ w).alloc (Nat.le_refl _) _).alloc (by simp) _
 have hz0:W0.heap.size=w.heap.size+2:=by rw[hW0];simp
 have hf0:W0.heap[w.heap.size]?=some (.cells #[.int .u8 (k.toNat:Int),.slice Ao b.length c] 64 (0,0)):=by rw[hW0];exact(Below.heap_alloc _ _ _ (by simp)).trans (World.alloc_heap_new w _)
 have hr0:W0.ownsRow w.heap.size 5 1 (.slice (some ⟨w.heap.size+1,0,none⟩) 1 1) 1 (dH [k]):=by refine⟨rfl,.inr ⟨w.heap.size+1,1,#[.int .u8 (k.toNat:Int)],rfl,by omega,?_,Nat.le_refl _,by unfold maxLen;omega,rfl,rfl⟩⟩;rw[hW0];have:=World.alloc_heap_new (w.alloc (.cells #[.int .u8 (k.toNat:Int),.slice Ao b.length c] 64)) (.cells #[.int .u8 (k.toNat:Int)] 5);rw[World.size_alloc]at this;exact this
 gi_wp2;rw[←hW0];refine⟨trivial,(callsIn_wide.2 (hp W0)).mono ?_⟩;rintro e W1 ⟨A1,c1,rfl,hC1,hA1,hB1⟩;have hf1:=(hB1.block _ (by omega)).trans hf0;have hr1:W1.ownsRow w.heap.size 5 1 (.slice (some ⟨w.heap.size+1,0,none⟩) 1 1) 1 (dH [k]):=by
  refine⟨hr0.1,.inr ?_⟩;rcases hr0.2 with⟨h,_⟩|⟨g,cap,cur,h1,h2,h3,h4⟩;·cases h
  ·exact⟨g,cap,cur,h1,h2,(hB1.block _ (Array.getElem?_eq_some_iff.1 h3).1).trans h3,h4⟩
 have hPw:∀j u,(dH P)[j]?=some u→W1.cell? (A1.add j)=some u:=fun j u hj=>by
  have hjl:j<P.length:=by have:=(List.getElem?_eq_some_iff.1 hj).1;simpa[dH]using this
  rw[hC1 j hjl,hj]
 have hBw1:Below w.heap.size w W1:=hB0.trans (hB1.mono (by omega));have hbk:∀{W W':World}{V:Value}{n:Nat}{xs:List Value},Below w.heap.size w W→W.ownsRow w.heap.size 5 1 V n xs→W.heap[w.heap.size]?=some (.cells #[.int .u8 (k.toNat:Int),.slice Ao b.length c] 64 (0,0))→W.grownBy W' V.ownBlock→Below w.heap.size w W'∧W'.heap[w.heap.size]?=some (.cells #[.int .u8 (k.toNat:Int),.slice Ao b.length c] 64 (0,0)):=by
  intro W W' V n xs hW hr hf hg;refine⟨hW.grown hg hW.size fun q e=>?_,(hg.block _ (Array.getElem?_eq_some_iff.1 hf).1 fun e=>?_).trans hf⟩
  ·rcases hr.2 with⟨hv,_⟩|⟨g,cap,cur,hv,hgb,_⟩;·rw[hv]at e;cases e
   ·rw[hv]at e;have e':some g=some q:=e;cases e';exact hgb
  ·rcases hr.2 with⟨hv,_⟩|⟨g,cap,cur,hv,hgb,hgh,_⟩;·rw[hv]at e;cases e
   ·rw[hv]at e;have e':some w.heap.size=some g:=e;cases e';rw[hf]at hgh;cases hgh
 have hc2:∀{W:World},W.heap[w.heap.size]?=some (.cells #[.int .u8 (k.toNat:Int),.slice Ao b.length c] 64 (0,0))→W.cell? ⟨w.heap.size,1,none⟩=some (.slice Ao b.length c):=fun h=>by unfold World.cell?;rw[h];rfl
 have hbw:∀{W:World},Below w.heap.size w W→(∃A,Ao=some A∧∀j u,(dH b)[j]?=some u→W.cell? (A.add j)=some u)∨(Ao=none∧b.length=0):=fun hW=>by
  rcases hX with⟨A,h1,hA,hcl⟩|h;·refine .inl ⟨A,h1,fun j u hj=>(hW.cell (by rw[bD];exact hA fun e=>by rw[e]at hj;simp[dH]at hj)).trans (hcl j u hj)⟩
  ·exact .inr h
 have h1c:∀l:List UInt8,∀u∈dH l,u.oneCell'=true:=by intro l u hu;simp only[dH,List.mem_map]at hu;obtain⟨q,_,rfl⟩:=hu;rfl
 have hl0:∀l:List UInt8,(dH l).length=l.length*1:=fun l=>by simp[dH]
 gi_wp2_with(first|(gi_at_builtin;refine wpListIn_append_own _ rfl _ _ 37 rfl w.heap.size 5 iu (.int .u8 0) 1 1 Tryz.underlying37 hiu hu0 hu1 hu2 rfl (by decide) _ _ _ rfl hr1 A1 P.length c1 (dH P) rfl (hl0 _) hPw (h1c _) (by unfold maxLen;omega) (by omega) hBw1.size ?_;intro V2 W2 hV2 hg2 _;obtain⟨hBw2,hf2⟩:=hbk hBw1 hr1 hf1 hg2;have hx2:=hc2 hf2;clear hr1)|(gi_at_builtin;refine m0 _ rfl _ _ 37 rfl w.heap.size 5 iu (.int .u8 0) 1 1 Tryz.underlying37 hiu hu0 hu1 hu2 rfl (by decide) _ _ _ rfl hV2 Ao b.length c (dH b) rfl (hl0 _) (hbw hBw2) (h1c _) (by unfold maxLen;omega) (by omega) hBw2.size ?_;intro V3 W3 hV3 hg3 _;obtain⟨hBw3,hf3⟩:=hbk hBw2 hV2 hf2 hg3;obtain⟨g3,cap3,rfl⟩:∃g cap,V3=.slice (some ⟨g,0,none⟩) (1+P.length+b.length) cap:=(by rcases hV3.2 with⟨_,h0⟩|⟨g,cap,cur,h,_⟩<;>first|omega|exact⟨_,_,h⟩)));obtain⟨W4,hW4⟩:∃W4,W4=W3.alloc (.cells #[.slice (some ⟨g3,0,none⟩) (1+P.length+b.length) cap3] 37):=⟨_,rfl⟩;have hV4:W4.ownsRow w.heap.size 5 1 (.slice (some ⟨g3,0,none⟩) (1+P.length+b.length) cap3) (1+P.length+b.length) (dH [k]++dH P++dH b):=by rw[hW4];exact hV3.alloc _
 have hB4:Below w.heap.size w W4:=by rw[hW4];exact hBw3.alloc hBw3.size _
 have hk4:W4.cell? ((⟨W3.heap.size,0,none⟩:Addr).add 0)=some (.slice (some ⟨g3,0,none⟩) (1+P.length+b.length) cap3):=by rw[hW4,Addr.add_lit];exact(Boxed.new W3 _ _).cell
 have hlen:(k::P++b).length=1+P.length+b.length:=by simp;omega
 have hby:dH (k::P++b)=dH [k]++dH P++dH b:=by simp[dH]
 rw[←hW4];refine⟨trivial,(callsIn_wide.2 (hS W4 ⟨W3.heap.size,0,none⟩ 1 _ (Nat.le_refl _) hk4 (by rw[hlen,hby];exact oO hV4))).mono ?_⟩;rintro e W5 ⟨rfl,hB5⟩;have hV5:W5.ownsRow w.heap.size 5 1 (.slice (some ⟨g3,0,none⟩) (1+P.length+b.length) cap3) (1+P.length+b.length) (dH [k]++dH P++dH b):=by
  refine⟨hV4.1,.inr ?_⟩;rcases hV4.2 with⟨h,_⟩|⟨g,cap,cur,h1,h2,h3,h4⟩;·cases h
  ·exact⟨g,cap,cur,h1,h2,(hB5.block _ (Array.getElem?_eq_some_iff.1 h3).1).trans h3,h4⟩
 have hBw5:Below w.heap.size w W5:=hB4.trans (hB5.mono hB4.size);clear hV4 hk4 hV3 hV2 hg2 hg3 hr0 hf0 hf1 hf2 hf3 hx2 hC1 hPw hW4 hW0 hbw hc2;gi_wp2;gi_loopw[3,4,5] (fun v p q wr=>∃i:Nat,i≤4∧p=.int .u32 ((s/256^i:Nat):Int)∧q=.int .i64 (i:Int)∧wr.ownsRow w.heap.size 5 1 v (1+P.length+b.length+i) (dH [k]++dH P++dH b++dH ((ey s).take i))∧Below w.heap.size w wr) (fun _ _ q _=>4-(intOf q).toNat);case atStart=>exact⟨0,by omega,by simp,rfl,by simpa[dH]using hV5,hBw5⟩
 case round=>
  obtain⟨i,hi,rfl,rfl,hrow,hB⟩:=hrel;have hsz:w.heap.size≤wr.heap.size:=hB.size;by_cases hlt:(i:Int)<4
  ·gi_wp2_with(gi_at_builtin;refine wpListIn_append_own _ rfl _ _ 37 rfl w.heap.size 5 iu (.int .u8 0) 1 1 Tryz.underlying37 hiu hu0 hu1 hu2 rfl (by decide) _ _ _ rfl (hrow.alloc _) ⟨wr.heap.size,0,none⟩ 1 1 [_] rfl rfl (cell_one_new _ _ _) (by simp[Value.oneCell']) (by unfold maxLen;omega) (by omega) (by simp;omega) ?_;intro V6 W6 hV6 hg6 _);have hm:s/256^i<4294967296:=Nat.lt_of_le_of_lt (Nat.div_le_self _ _) hs;have hz:((s:Int)/256^i)=((s/256^i:Nat):Int):=by simp
   have hd:s/256^(i+1)=s/256^i/256:=by rw[Nat.pow_succ,Nat.div_div_eq_div_mul]
   rw[hz]at hV6 hg6;obtain⟨m,hmd⟩:∃m,m=s/256^i:=⟨_,rfl⟩;rw[←hmd]at hV6 hg6 hz hm hd;have hm0:(0:Int)≤(m:Int):=Int.natCast_nonneg m;refine⟨⟨i+1,by omega,?_,by simp,?_,?_⟩,by simp[intOf];omega⟩;·rw[hz,hd,Int.tdiv_eq_ediv_of_nonneg hm0];congr 1;omega
   ·have hsa:(ey s).take (i+1)=(ey s).take i++[m.toUInt8]:=by rw[hmd];exact EI (by omega)
    have hv:((m:Int).tmod 256%256)=((m.toUInt8.toNat:Nat):Int):=by rw[Int.tmod_eq_emod_of_nonneg hm0];simp
    rw[hsa,Ix,←List.append_assoc,show dH [m.toUInt8]=[.int .u8 ((m.toUInt8.toNat:Nat):Int)] from rfl,←hv];exact hV6
   ·exact vO (hB.alloc hsz _) (hrow.alloc _) hg6
  ·have:i=4:=by omega
   subst this;gi_wp2;refine bodyPost_ret (results_tmp rfl _ _ _) rfl ⟨_,rfl,?_,hB⟩;have e1:(P.length+(b.length+(ey s).length)+1)=1+P.length+b.length+4:=by show P.length+(b.length+4)+1=_;omega
   have e2:dH (k::(P++(b++ey s)))=dH [k]++dH P++dH b++dH ((ey s).take 4):=by rw[show(ey s).take 4=ey s from rfl];simp[dH]
   rw[e1,e2];exact hrow
theorem HB {S:Nat→Prop}{w:World}{v:Value}{b:List UInt8} (h:da S w v (.ro (bytesRow b))) (hb:b≠[]):∃A c,v=.slice (some A) b.length c∧S A.block∧∀j u,(dH b)[j]?=some u→w.cell? (A.add j)=some u:=by
 obtain⟨A,c,rfl,hc,hne⟩:=h.fM;have hlen:(bytesRow b).length=b.length:=by simp[bytesRow]
 obtain⟨ad,sz,us,rfl,g1,g2,g3,g4,g5⟩:=hne (fun e=>hb (by have:=congrArg List.length e;rw[hlen]at this;exact List.eq_nil_of_length_eq_zero this));refine⟨ad,c,by rw[hlen],g1,fun j u hj=>?_⟩;have hjl:j<b.length:=by have:=(List.getElem?_eq_some_iff.1 hj).1;simpa[dH]using this
 have hr:(bytesRow b)[j]?=some [.int .u8 (b[j].toNat:Int)]:=by simp[bytesRow,hjl]
 have hs1:sz=1:=by rw[←g2 _ (List.mem_of_getElem? hr)];rfl
 subst hs1;have h1:=g3 j 0 (by omega) (by omega);have h2:=(g5 j 0 _ _ hr rfl).aI;rw[h2]at h1;have hu:u=.int .u8 (b[j].toNat:Int):=by simp only[dH,List.getElem?_map,List.getElem?_eq_getElem hjl,Option.map_some,Option.some.injEq]at hj;exact hj.symm
 rw[hu];simpa using h1
theorem E5 {S:Nat→Prop}{w:World}{v:Value}{b:List UInt8} (h:da S w v (.ro (bytesRow b))):∃Ao c,v=.slice Ao b.length c∧((∃A,Ao=some A∧(b≠[]→S A.block)∧∀j u,(dH b)[j]?=some u→w.cell? (A.add j)=some u)∨(Ao=none∧b.length=0)):=by
 by_cases hb:b=[];·subst hb;obtain⟨A,c,rfl,hc,_⟩:=h.fM;cases A with|none=>exact⟨none,c,rfl,.inr ⟨rfl,rfl⟩⟩|some A=>exact⟨some A,c,rfl,.inl ⟨A,rfl,fun h=>absurd rfl h,fun j u hj=>by simp[dH]at hj⟩⟩
 ·obtain⟨A,c,rfl,h1,h2⟩:=HB h hb;exact⟨some A,c,rfl,.inl ⟨A,rfl,fun _=>h1,h2⟩⟩
theorem M9 {P:Program}{f:FuncId}{args:List AV}{L:List UInt8} (h:∀(w:World) (S:Nat→Prop) (vals:List Value),(∀b,S b→b<w.heap.size)→vals.length=args.length→(∀(i:Nat) (x:Value) (y:AV),vals[i]?=some x→args[i]?=some y→RV P S w (fun _=>.nilIface) (fun _=>False) x y)→Calls P f vals.toArray w fun e w'=>∃V,e=.returned V∧da (fun b=>w.heap.size≤b∧b<w'.heap.size) w' V (.ro (bytesRow L))∧Below w.heap.size w w'):u9 P f [] args [] (.pv (.ro (bytesRow L))):=by
 intro w S0 β vals hS0 hlt hheap hvl hvr;have hno:∀t,bo (ab []) (fun t=>du (cellAt (.pv (.ro (bytesRow L))) t)) t=none:=by
  intro t;show du (cellAt (.pv (.ro (bytesRow L))) t)=none;simp only[cellAt,bI];split;·split<;>rfl
  ·rfl
 refine(h w (aU S0 w.heap.size β (ab []) w) vals (fun b hb=>hb.2.1) hvl fun i x y hx hy=>?_).mono ?_;·exact(hvr i x y hx hy).mono (fun b hb=>⟨hb,rfl⟩) (fun t ⟨o,ho⟩=>by simp[ab]at ho)
 ·rintro e w' ⟨V,rfl,hR,hb⟩;refine⟨_,fun _=>.nilIface,rfl,⟨hb.os,hb.tape,hb.output,hb.size,fun k hk _=>hb.block k hk⟩,⟨fun t o ho=>?_,fun t t' b ⟨o,ho⟩=>?_⟩,fun t b ⟨o,ho⟩=>?_,.pv _ _ (hR.mono fun b hb=>⟨⟨.inr hb.1,hb.2,fun⟨t,o,ho,_⟩=>by rw[hno]at ho;cases ho⟩,rfl⟩)⟩;·rw[hno]at ho;cases ho
  ·rw[hno]at ho;cases ho
  ·rw[hno]at ho;cases ho
@[simp] noncomputable def ZY:List AV→Option (Prop×AV)|[.agg [.pv k,.pv b]]=>(dec lD [[k,b]]).map fun l=>(((l.map Fm.b).getD 0 []).length≤65535,.pv (.ro (bytesRow (l.flatMap fun f=>je f.k f.b))))|_=>none
theorem Ky:aR Tryz.prog 61 ZY:=by
 intro ys φ r h hφ;unfold ZY at h;split at h
 ·obtain⟨l,hk,h⟩:=Option.map_eq_some_iff.1 h;cases h;obtain⟨⟨k,b⟩,rfl,rfl,rfl⟩:=j9 hk;have h1:b.length≤65535:=hφ;have hv:=yy b h1;have hv0:bd (b.length:Int)≠[]:=by show bp b.length≠[];rw[bp];split<;>simp
  have hf:=ph k b h1;have hfl:List.flatMap (fun f:Fm=>je f.k f.b) [⟨k,b⟩]=je k b:=by simp
  rw[hfl];refine M9 fun w S vals hS hvl hvr=>?_;match vals,hvl with|[v0],_=>obtain⟨us,rfl,hl,hus⟩:=(hvr 0 v0 _ rfl rfl).cN;match us,hl with
   |[a0,a1],_=>
    cases(hus 0 _ a0 rfl rfl).aI;obtain⟨Ao,c,rfl,hX⟩:=E5 (hus 1 _ a1 rfl rfl).bm;have hgs:E0 [.pv (.ro [[.ro (bytesRow (sj k b))]])]=some ((sj k b).length≤1000000000,.pv (.int .u32 ((iO (sj k b):Nat):Int))):=by rw[Iu,dK];rfl
    refine(Is k b (bd (b.length:Int)) (iO (sj k b)) (Ji _) Ao c h1 hv hv0 w (hX.imp (fun⟨A,e,h,g⟩=>⟨A,e,fun hb=>hS _ (h hb),g⟩) id) ?_ ?_).mono ?_
    ·intro W;refine(jv (nD _ _ _ (Ju (b.length:Int)) ⟨by omega,by omega⟩) (S:=fun b=>b<W.heap.size) (vals:=[.int .u64 b.length]) rfl (fun b hb=>hb) (fun i v x hi hx=>?_)).mono ?_;·match i,hi,hx with|0,hi,hx=>cases hi;cases hx;exact .pv _ _ (.int _ _)|i+1,hi,hx=>simp at hi
     ·rintro e W1 ⟨v,β',rfl,hB1,hh,hb,hr⟩;have e0:=(RV.aT (t:=0) hr).1;subst e0;have hown:=sm (n0:=W.heap.size) yb (hh.holds 0 (.arr 5 (bytesRow (bd (b.length:Int)))) rfl) (fun b hb'=>hb 0 b ⟨_,rfl⟩ hb');rcases hown.2 with⟨_,h0⟩|⟨g,cap,cur,hg,hgb,hgh,hnc,hcm,hcs,htk⟩;·exact absurd (List.eq_nil_of_length_eq_zero h0) hv0
      ·refine⟨⟨g,0,none⟩,cap,by rw[hg],fun j hj=>?_,(Array.getElem?_eq_some_iff.1 hgh).1,hB1⟩;rw[Addr.add_lit,←htk,List.getElem?_take,if_pos (by omega)];unfold World.cell?;rw[hgh];simp
    ·intro W A2 c2 V hc2 hV0 hV;have hAb:A2.block<W.heap.size:=by
      have:(A2.add 0).block<W.heap.size:=by
       unfold World.cell? at hV0;split at hV0;·rename_i hq;exact(Array.getElem?_eq_some_iff.1 hq).1
       ·cases hV0
      rwa[bD]at this
     have hRV:da (fun b=>b<W.heap.size) W V (.ro (bytesRow (sj k b))):=yC (P:=Tryz.prog) hV fun b _ hb=>hb;have hVo:V.oneCell'=true:=by rcases hV.2 with⟨rfl,_⟩|⟨g,cap,cur,rfl,_⟩<;>rfl
     refine(jv (Po _ _ _ hgs (by omega)) (S:=fun b=>b<W.heap.size) (vals:=[.slice (some A2) 1 c2]) rfl (fun b hb=>hb) (fun i v x hi hx=>?_)).mono ?_;·match i,hi,hx with
      |0,hi,hx=>
       cases hi;cases hx;refine .pv _ _ (.ro A2 c2 [[.ro (bytesRow (sj k b))]] 1 (fun _ _=>V) hAb hc2 (fun r hr=>?_) (fun i j hi hj=>?_) (fun i j r p hr hp=>hVo) (fun i j r p hr hp=>?_));·simp only[List.mem_cons,List.not_mem_nil,or_false]at hr;subst hr;rfl
       ·obtain rfl:i=0:=by simp at hi;omega
        obtain rfl:j=0:=by omega
        exact hV0
       ·match i,hr with
        |0,hr=>cases hr;match j,hp with|0,hp=>cases hp;exact hRV|j+1,hp=>simp at hp
        |i+1,hr=>simp at hr
      |i+1,hi,hx=>simp at hi
     ·rintro e W1 ⟨v,β',rfl,hB1,hh,hb,hr⟩;exact⟨by rw[RV.aI (k:=.u32) (n:=((iO (sj k b):Nat):Int)) hr],hB1⟩
    ·rintro e w' ⟨V',rfl,hR,hBw⟩;exact⟨V',rfl,yC (P:=Tryz.prog) hR fun b h1 h2=>⟨h1,h2⟩,hBw⟩
 ·cases h
@[simp] noncomputable def aar:List AV→Option (Prop×AV)|[.agg [.pv k,.pv b]]=>(dec lD [[k,b]]).map fun l=>(((l.map Fm.b).getD 0 []).length≤65535,.aS [.pv (.ro (bytesRow (l.flatMap fun f=>je f.k f.b))),.pv (.int .i64 0)])|_=>none
theorem K6:aR Tryz.prog 30 aar:=by
 intro ys φ r h hφ;unfold aar at h;split at h
 ·obtain⟨l,hk,h⟩:=Option.map_eq_some_iff.1 h;cases h;obtain⟨⟨k,b⟩,rfl,rfl,rfl⟩:=j9 hk;have hl:b.length≤65535:=hφ;have hl2:¬(65535:Int)<(b.length:Int):=by omega
  have hl3:(b.length:Int)≤65535:=by omega
  refine aq (af Ky aj) (by kernel_rfl) (by conv=>lhs;reduce) (by simp) ?_;simp[hl,hl2,hl3]
 ·cases h
attribute[local go_sem] Oper.semAt_some
set_option maxHeartbeats 4000000 in theorem Fj (ch tl:Int) (d0 d1 d2 d3 d4 d5 d6 d7 vc vl:Value) (er:Int) (rs:Bool) (hbad:er≠0∨rs=false) (w:World) (hc:∀W,Below w.heap.size w W→Calls Tryz.prog 31 #[.agg #[.int .u64 ch,.int .u64 tl,d0,d1,d2,d3,d4,d5,d6,d7,vc,vl]] W fun e W1=>∃V,e=.returned (.tuple #[V,.int .i64 er])∧Below W.heap.size W W1) (hr:∀W,Below w.heap.size w W→Calls Tryz.prog 32 #[.agg #[.int .u64 ch,.int .u64 tl,d0,d1,d2,d3,d4,d5,d6,d7,vc,vl]] W fun e W1=>e=.returned (.bool rs)∧Below W.heap.size W W1):Calls Tryz.prog 9 #[.agg #[.int .u64 ch,.int .u64 tl,d0,d1,d2,d3,d4,d5,d6,d7,vc,vl]] w fun e w'=>e=.returned (.tuple #[.slice none 0 0,.int .i64 2])∧Below w.heap.size w w':=by
 refine(callsIn_wide (n:=6)).1 ?_;refine callsIn_of_wp_marks Tryz.func9 rfl trivial ?_ rfl;simp only[Tryz.ntmps9,List.size_toArray,List.length_cons,List.length_nil,Nat.reduceAdd,Nat.reduceSub,Array.replicate_succ,Array.replicate_zero,List.push_toArray,List.append_toArray,List.nil_append,List.cons_append];obtain⟨W0,hW0⟩:∃W0,W0=w.alloc (.cells #[.int .u64 ch,.int .u64 tl,d0,d1,d2,d3,d4,d5,d6,d7,vc,vl] 36):=⟨_,rfl⟩;have hB0:Below w.heap.size w W0:=by rw[hW0];exact(Below.refl _ w).alloc (Nat.le_refl _) _
 have hh0:W0.heap[w.heap.size]?=some (.cells #[.int .u64 ch,.int .u64 tl,d0,d1,d2,d3,d4,d5,d6,d7,vc,vl] 36 (0,0)):=by rw[hW0];show(w.heap.push _)[w.heap.size]?=_;simp
 have hz0:w.heap.size<W0.heap.size:=(Array.getElem?_eq_some_iff.1 hh0).1;gi_wp2;rw[←hW0];refine⟨trivial,(callsIn_wide.2 (hc W0 hB0)).mono ?_⟩;rintro e W1 ⟨V,rfl,hB1⟩;have hh1:=(hB1.block _ hz0).trans hh0;obtain⟨x0,x1,x2,x3,x4,x5,x6,x7,x8,x9,x10,x11⟩:=sx hh1;have hBw:Below w.heap.size w W1:=hB0.trans (hB1.mono (Nat.le_of_lt hz0));by_cases he:er=0;·subst he;have hrs:rs=false:=hbad.resolve_left (fun h=>h rfl);subst hrs;gi_wp2;refine⟨trivial,(callsIn_wide.2 (hr W1 hBw)).mono ?_⟩;rintro e W2 ⟨rfl,hB2⟩;gi_wp2;exact⟨_,results_tmp2 rfl _ _ _,rfl,hBw.trans (hB2.mono hBw.size)⟩
 ·have hne:(er !=0)=true:=by simpa using he
  gi_wp2;refine⟨trivial,?_⟩;gi_wp2;exact⟨_,results_tmp2 rfl _ _ _,rfl,hBw⟩
set_option maxHeartbeats 4000000 in theorem EE (ch tl:Int) (L:List Pn) (d0 d1 d2 d3 d4 d5 d6 d7 vc:Value) (Al:Option Addr) (cl:Nat) (C R:List UInt8) (hch:cO ch) (htl:cO tl) (hLn:L.length≤10000) (hL:∀e∈L,fR e) (hlen:(cI [ch,tl,(L.length:Int)]++bg L).length+C.length≤65535) (w:World) (hA:L=[]∨∃A0,Al=some A0∧A0.block<w.heap.size∧∀(k:Nat) (h:k<L.length),w.cell? (A0.add (k*3))=some (.int .u64 L[k].i)∧w.cell? ⟨(A0.add (k*3)).block,(A0.add (k*3)).off+1,none⟩=some (.int .u64 L[k].v)∧w.cell? ⟨(A0.add (k*3)).block,(A0.add (k*3)).off+2,none⟩=some (.int .u64 L[k].u)) (hc:∀W,Below w.heap.size w W→Calls Tryz.prog 31 #[.agg #[.int .u64 ch,.int .u64 tl,d0,d1,d2,d3,d4,d5,d6,d7,vc,.slice Al L.length cl]] W fun e W1=>∃A c,e=.returned (.tuple #[.slice (some A) C.length c,.int .i64 0])∧(∀j,j<C.length→W1.cell? (A.add j)=(dH C)[j]?)∧A.block<W1.heap.size∧Below W.heap.size W W1) (hr:∀W,Below w.heap.size w W→Calls Tryz.prog 32 #[.agg #[.int .u64 ch,.int .u64 tl,d0,d1,d2,d3,d4,d5,d6,d7,vc,.slice Al L.length cl]] W fun e W1=>e=.returned (.bool true)∧Below W.heap.size W W1) (ha:∀x y z:Int,cO x→cO y→cO z→∀W A c,3≤c→W.cell? (A.add 0)=some (.int .u64 x)→W.cell? (A.add 1)=some (.int .u64 y)→W.cell? (A.add 2)=some (.int .u64 z)→Calls Tryz.prog 33 #[.slice (some A) 3 c] W fun e W1=>∃V,e=.returned V∧W1.ownsRow W.heap.size 5 1 V (cI [x,y,z]).length (dH (cI [x,y,z]))∧Below W.heap.size W W1) (hj:∀W A c V,1≤c→W.cell? (A.add 0)=some (.int .u8 12)→W.cell? (A.add 1)=some V→W.ownsRow 0 5 1 V ((cI [ch,tl,(L.length:Int)]++bg L).length+C.length) (dH (cI [ch,tl,(L.length:Int)]++bg L)++dH C)→Calls Tryz.prog 35 #[.slice (some A) 1 c] W fun e W1=>∃V',e=.returned (.tuple #[V',.int .i64 0])∧da (fun b=>W.heap.size≤b∧b<W1.heap.size) W1 V' (.ro (bytesRow R))∧Below W.heap.size W W1):Calls Tryz.prog 9 #[.agg #[.int .u64 ch,.int .u64 tl,d0,d1,d2,d3,d4,d5,d6,d7,vc,.slice Al L.length cl]] w fun e w'=>∃V',e=.returned (.tuple #[V',.int .i64 0])∧da (fun b=>w.heap.size≤b∧b<w'.heap.size) w' V' (.ro (bytesRow R))∧Below w.heap.size w w':=by
 refine(callsIn_wide (n:=6)).1 ?_;refine callsIn_of_wp_marks Tryz.func9 rfl trivial ?_ rfl;simp only[Tryz.ntmps9,List.size_toArray,List.length_cons,List.length_nil,Nat.reduceAdd,Nat.reduceSub,Array.replicate_succ,Array.replicate_zero,List.push_toArray,List.append_toArray,List.nil_append,List.cons_append];obtain⟨W0,hW0⟩:∃W0,W0=w.alloc (.cells #[.int .u64 ch,.int .u64 tl,d0,d1,d2,d3,d4,d5,d6,d7,vc,.slice Al L.length cl] 36):=⟨_,rfl⟩;have hB0:Below w.heap.size w W0:=by rw[hW0];exact(Below.refl _ w).alloc (Nat.le_refl _) _
 have hh0:W0.heap[w.heap.size]?=some (.cells #[.int .u64 ch,.int .u64 tl,d0,d1,d2,d3,d4,d5,d6,d7,vc,.slice Al L.length cl] 36 (0,0)):=by rw[hW0];show(w.heap.push _)[w.heap.size]?=_;simp
 have hwl:IntKind.u64.wrap (L.length:Int)=(L.length:Int):=wrap_u64 (by omega);have hz0:w.heap.size<W0.heap.size:=(Array.getElem?_eq_some_iff.1 hh0).1;gi_wp2;rw[←hW0];refine⟨trivial,(callsIn_wide.2 (hc W0 hB0)).mono ?_⟩;rintro e W1 ⟨A,c,rfl,hC,hAb,hB1⟩;have hh1:=(hB1.block _ hz0).trans hh0;obtain⟨x0,x1,x2,x3,x4,x5,x6,x7,x8,x9,x10,x11⟩:=sx hh1;gi_wp2;refine⟨trivial,(callsIn_wide.2 (hr W1 (hB0.trans (hB1.mono (Nat.le_of_lt hz0))))).mono ?_⟩;rintro e W2 ⟨rfl,hB2⟩;have hz1:w.heap.size<W1.heap.size:=Nat.lt_of_lt_of_le hz0 hB1.size;have hh2:=(hB2.block _ hz1).trans hh1;clear x0 x1 x2 x3 x4 x5 x6 x7 x8 x9 x10 x11;obtain⟨x0,x1,x2,x3,x4,x5,x6,x7,x8,x9,x10,x11⟩:=sx hh2;gi_wp2;have hz2:w.heap.size<W2.heap.size:=Nat.lt_of_lt_of_le hz1 hB2.size;obtain⟨W3,hW3⟩:∃W3,W3=W2.alloc (.cells #[.int .u64 ch,.int .u64 tl,.int .u64 (L.length:Int)] 22):=⟨_,rfl⟩;have hB3:Below W2.heap.size W2 W3:=by rw[hW3];exact(Below.refl _ W2).alloc (Nat.le_refl _) _
 have hh3':W3.heap[W2.heap.size]?=some (.cells #[.int .u64 ch,.int .u64 tl,.int .u64 (L.length:Int)] 22 (0,0)):=by rw[hW3];show(W2.heap.push _)[W2.heap.size]?=_;simp
 have hh3:=(hB3.block _ hz2).trans hh2;have hz3:w.heap.size<W3.heap.size:=Nat.lt_of_lt_of_le hz2 hB3.size;rw[←hW3];refine⟨trivial,(callsIn_wide.2 (ha ch tl (L.length:Int) hch htl (by unfold cO;omega) W3 ⟨W2.heap.size,0,none⟩ 3 (Nat.le_refl _) (by simp[Addr.add,World.cell?,hh3']) (by simp[Addr.add,World.cell?,hh3']) (by simp[Addr.add,World.cell?,hh3']))).mono ?_⟩;rintro e W4 ⟨V,rfl,hV,hB4⟩;have hh4:=(hB4.block _ hz3).trans hh3;clear x0 x1 x2 x3 x4 x5 x6 x7 x8 x9 x10 x11;obtain⟨x0,x1,x2,x3,x4,x5,x6,x7,x8,x9,x10,x11⟩:=sx hh4;gi_wp2;generalize hB:cI [ch,tl,(L.length:Int)]=B at*;gi_loopw[6,36] (fun vb p wr=>∃k:Nat,k≤L.length∧p=.int .i64 (k:Int)∧wr.ownsRow W3.heap.size 5 1 vb (B.length+(bg (L.take k)).length) (dH B++dH (bg (L.take k)))∧Below W3.heap.size W3 wr) (fun _ p _=>L.length-(intOf p).toNat);case atStart=>exact⟨0,Nat.zero_le _,rfl,by simpa[bg,dH]using hV,hB4⟩
 case round=>
  obtain⟨k,hk,rfl,hrow,hBr⟩:=hrel;obtain⟨iu,hiu,hu0,hu1,hu2⟩:=info_parts yF;by_cases hlt:k<L.length
  ·rcases hA with rfl|⟨A0,rfl,hA0,hcl⟩;·simp at hlt
   obtain⟨c0,c1,c2⟩:=hcl k hlt;have hb3:∀a:Addr,a.block=A0.block→wr.cell? a=w.cell? a:=fun a ha=>by have h1:Below w.heap.size w wr:=hB0.trans ((hB1.mono (Nat.le_of_lt hz0)).trans ((hB2.mono (Nat.le_of_lt hz1)).trans ((hB3.mono (Nat.le_of_lt hz2)).trans (hBr.mono (Nat.le_of_lt hz3)))));exact h1.cell (by rw[ha];exact hA0)
   have q0:wr.cell? (A0.add (k*3))=some (.int .u64 L[k].i):=by rw[hb3 _ (bD _ _),c0]
   have q1:wr.cell? ⟨(A0.add (k*3)).block,(A0.add (k*3)).off+1,none⟩=some (.int .u64 L[k].v):=(hb3 ⟨_,_,none⟩ (bD _ _)).trans c1;have q2:wr.cell? ⟨(A0.add (k*3)).block,(A0.add (k*3)).off+2,none⟩=some (.int .u64 L[k].u):=(hb3 ⟨_,_,none⟩ (bD _ _)).trans c2;have hlt':(k:Int)<(L.length:Int):=by omega
   gi_wp2;obtain⟨W5,hW5⟩:∃W5,W5=(wr.alloc (.cells #[.int .u64 L[k].i,.int .u64 L[k].v,.int .u64 L[k].u] 84)).alloc (.cells #[.int .u64 L[k].i,.int .u64 L[k].v,.int .u64 L[k].u] 22):=⟨_,rfl⟩;have hz5:W5.heap.size=wr.heap.size+2:=by rw[hW5];simp
   have hh5:W5.heap[wr.heap.size+1]?=some (.cells #[.int .u64 L[k].i,.int .u64 L[k].v,.int .u64 L[k].u] 22 (0,0)):=by rw[hW5];have:=World.alloc_heap_new (wr.alloc (.cells #[.int .u64 L[k].i,.int .u64 L[k].v,.int .u64 L[k].u] 84)) (.cells #[.int .u64 L[k].i,.int .u64 L[k].v,.int .u64 L[k].u] 22);rw[World.size_alloc]at this;exact this
   have hB5:Below wr.heap.size wr W5:=by rw[hW5];exact((Below.refl _ wr).alloc (Nat.le_refl _) _).alloc (by simp) _
   have okk:=hL L[k] (List.getElem_mem hlt);rw[←hW5];refine⟨trivial,(callsIn_wide.2 (ha _ _ _ okk.1 okk.2.1 okk.2.2 W5 ⟨wr.heap.size+1,0,none⟩ 3 (Nat.le_refl _) (by simp[Addr.add,World.cell?,hh5]) (by simp[Addr.add,World.cell?,hh5]) (by simp[Addr.add,World.cell?,hh5]))).mono ?_⟩;rintro e W6 ⟨V6,rfl,hV6,hB6⟩;have hrow6:W6.ownsRow W3.heap.size 5 1 u6 (B.length+(bg (L.take k)).length) (dH B++dH (bg (L.take k))):=by
    refine⟨hrow.1,?_⟩;rcases hrow.2 with h|⟨g,cap,cur,h1,h2,h3,h4⟩;·exact .inl h
    ·have hgl:=(Array.getElem?_eq_some_iff.1 h3).1;exact .inr ⟨g,cap,cur,h1,h2,(hB6.block _ (by omega)).trans ((hB5.block _ hgl).trans h3),h4⟩
   generalize hP:cI [L[k].i,L[k].v,L[k].u]=P at*;have hP0:P.length≠0:=by rw[←hP,j5];unfold Ai bd;have:=gJ L[k].i.toNat;simp only[List.length_append];omega
   obtain⟨A6,c6,rfl,hC6⟩:∃A6 c6,V6=.slice (some A6) P.length c6∧∀j u,(dH P)[j]?=some u→W6.cell? (A6.add j)=some u:=by
    rcases hV6.2 with⟨_,h0⟩|⟨g,cap,cur,hg,hgb,hgh,hnc,hcm,hcs,htk⟩;·exact absurd h0 hP0
    ·refine⟨⟨g,0,none⟩,cap,hg,fun j u hj=>?_⟩;have hjl:j<P.length:=by have:=(List.getElem?_eq_some_iff.1 hj).1;simpa[dH]using this
     rw[Addr.add_lit,←hj,←htk,List.getElem?_take,if_pos (by omega)];unfold World.cell?;rw[hgh];simp
   have h9:∀a b,bg (a++b)=bg a++bg b:=fun a b=>by simp[bg]
   have hLk:bg (L.take (k+1))=bg (L.take k)++P:=by rw[List.take_succ_eq_append_getElem hlt,h9,←hP,j5];congr 1;simp[bg]
   have hLl:(bg (L.take (k+1))).length≤(bg L).length:=by
    have:bg L=bg (L.take (k+1))++bg (L.drop (k+1)):=by rw[←h9,List.take_append_drop]
    rw[this,List.length_append];omega
   rw[hLk,List.length_append]at hLl;rw[List.length_append]at hlen;gi_wp2_with(gi_at_builtin;refine wpListIn_append_own _ rfl _ _ 37 rfl W3.heap.size 5 iu (.int .u8 0) 1 1 Tryz.underlying37 hiu hu0 hu1 hu2 rfl (by decide) _ _ _ rfl hrow6 A6 P.length c6 (dH P) rfl (by simp[dH]) hC6 (by intro u hu;simp only[dH,List.mem_map]at hu;obtain⟨q,_,rfl⟩:=hu;rfl) (by unfold maxLen;omega) (by omega) (by have:=hBr.size;have:=hB6.size;omega) ?_;intro V7 W7 hV7 hg7 _);refine⟨⟨k+1,by omega,by simp,?_,vO (hBr.trans ((hB5.mono hBr.size).trans (hB6.mono (by have:=hBr.size;omega)))) hrow6 hg7⟩,by simp[intOf];omega⟩;have e1:dH (bg (L.take k)++P)=dH (bg (L.take k))++dH P:=by simp[dH]
   rw[hLk,List.length_append,e1,←Nat.add_assoc,←List.append_assoc];exact hV7
  ·have hke:k=L.length:=by omega
   subst hke;rw[List.take_length]at hrow;obtain⟨BL,hBL⟩:∃BL,BL=B++bg L:=⟨_,rfl⟩;rw[←hBL]at hlen hj;have hV:wr.ownsRow W3.heap.size 5 1 u6 BL.length (dH BL):=by rw[hBL,List.length_append];simpa[dH]using hrow
   clear hBL hrow;have hBa:Below wr.heap.size wr (wr.alloc (.cells #[.slice none 0 0] 93)):=(Below.refl _ wr).alloc (Nat.le_refl _) _;have hCw:∀j u,(dH C)[j]?=some u→(wr.alloc (.cells #[.slice none 0 0] 93)).cell? (A.add j)=some u:=by
    intro j u hj;have hjl:j<C.length:=by have:=(List.getElem?_eq_some_iff.1 hj).1;simpa[dH]using this
    have hb:(A.add j).block<W1.heap.size:=by rw[bD];exact hAb
    rw[hBa.cell (Nat.lt_of_lt_of_le hb (Nat.le_trans hB2.size (Nat.le_trans hB3.size hBr.size))),(hBr.cell (Nat.lt_of_lt_of_le hb (Nat.le_trans hB2.size hB3.size))),(hB3.cell (Nat.lt_of_lt_of_le hb hB2.size)),hB2.cell hb,hC j hjl,hj]
   gi_wp2_with(gi_at_builtin;refine wpListIn_append_own _ rfl _ _ 37 rfl W3.heap.size 5 iu (.int .u8 0) 1 1 Tryz.underlying37 hiu hu0 hu1 hu2 rfl (by decide) _ _ _ rfl (hV.alloc _) A C.length c (dH C) rfl (by simp[dH]) hCw (by intro u hu;simp only[dH,List.mem_map]at hu;obtain⟨q,_,rfl⟩:=hu;rfl) (by unfold maxLen;omega) (by omega) (by have:=hBr.size;simp;omega) ?_;intro V5 W5 hV5 hg5 _);obtain⟨A5,c5,rfl⟩:∃A5 c5,V5=.slice A5 (BL.length+C.length) c5:=by
    rcases hV5.2 with⟨h,hn⟩|⟨g,cap,cur,h,_⟩;·exact⟨none,0,by rw[h,hn]⟩
    ·exact⟨_,_,h⟩
   have bO:=(Boxed.new wr 93 (.slice none 0 0)).kept hg5 ((Boxed.new wr 93 (.slice none 0 0)).not_row (by decide) (hV.alloc _));have hB5:Below w.heap.size w W5:=by
    have h4:Below w.heap.size w (wr.alloc (.cells #[.slice none 0 0] 93)):=(((((hB0.trans (hB1.mono (Nat.le_of_lt hz0))).trans (hB2.mono (Nat.le_of_lt hz1))).trans (hB3.mono (Nat.le_of_lt hz2))).trans (hBr.mono (Nat.le_of_lt hz3))).alloc (by have:=hBr.size;omega) _);refine h4.grown hg5 h4.size fun k e=>?_;have hvo:=hV.2;rcases hvo with⟨hv,_⟩|⟨g,cap,cur,hv,hb,_⟩;·rw[hv]at e;cases e
    ·rw[hv]at e;have e':some g=some k:=e;cases e';exact Nat.le_of_lt (Nat.lt_of_lt_of_le hz3 hb)
   have hz5:wr.heap.size<W5.heap.size:=by have:=hg5.size;simp at this;omega
   refine⟨trivial,(E9 Fence.wide 5 trivial rfl _ _ rfl).mono ?_⟩;rintro e W6 ⟨rfl,hW6⟩;gi_wp2;obtain⟨ifr,hif,hf0,hf1,hf2⟩:=info_parts GC;have hW65:W6=W5.alloc (.cells #[.slice A5 (BL.length+C.length) c5] 37):=hW6;have hz6:W6.heap.size=W5.heap.size+1:=by rw[hW65];simp
   have hc6:W6.cell? ⟨W5.heap.size,0,none⟩=some (.slice A5 (BL.length+C.length) c5):=by rw[hW65];exact(Boxed.new W5 _ _).cell
   have hB6:Below w.heap.size w W6:=by rw[hW65];exact hB5.alloc hB5.size _
   have bO6:Boxed W6 wr.heap.size 93 (.slice none 0 0):=by rw[hW65];exact bO.alloc _
   have hV6:W6.ownsRow W3.heap.size 5 1 (.slice A5 (BL.length+C.length) c5) (BL.length+C.length) (dH BL++dH C):=by rw[hW65];exact hV5.alloc _
   rw[←hW65];clear hW6 hW65;refine' wpIn_rangeFunc_ownG rfl (by omega) (gf:=66) (lb:=#[.pointer (some ⟨W5.heap.size,0,none⟩)]) rfl trivial (enters_of Tryz.func66 (by kernel_rfl) rfl) (xD Fence.wide 5 trivial rfl (by omega) W5.heap.size 0 A5 (BL.length+C.length) c5 hlen W6 (by omega) (by omega) hc6) belowK_t (belowK_b (by omega)) (Below.refl _ _) (fun _=>rfl) (fun(pre:List Unit) W=>((∃v,Boxed W wr.heap.size 93 v∧W.ownsRow wr.heap.size 97 2 v pre.length (pre.flatMap fun _=>[.int .u8 12,.slice A5 (BL.length+C.length) c5])∧True)∧W.ownsRow W3.heap.size 5 1 (.slice A5 (BL.length+C.length) c5) (BL.length+C.length) (dH BL++dH C))∧Below w.heap.size w W) (fun _ _ _=>False) (OwnFrom.and (OwnFrom.and (Own.from (holdsRow_own _ _ _ _ _ _ _ _) _) (Own.from (Bl _ _ _ _ _ _) _)) (ownFrom_below (Nat.le_refl _) hB6.size)) (fun _ _ _ _ _ hs _ _=>hs) ⟨⟨⟨_,bO6,World.ownsRow_nil _ _ _ _,trivial⟩,hV6⟩,hB6⟩ _ ?assign ?body ?done ?stop;case assign=>intro l x W K hK;gi_wp2;exact hK
   case body=>rintro l pre x W ⟨⟨⟨v,hv,hrow,_⟩,hVW⟩,hB⟩ hlt;have hc:=hv.cell;have hwr:wr.heap.size≤W.heap.size:=Nat.le_of_lt hv.lt;have hww:w.heap.size≤wr.heap.size:=Nat.le_of_lt (Nat.lt_of_lt_of_le hz3 hBr.size);gi_wp2_with(gi_at_builtin;refine wpListIn_append_own _ rfl _ _ 93 rfl wr.heap.size 97 ifr _ 2 32 Tryz.underlying93 hif hf0 hf1 hf2 rfl (by decide) _ _ _ rfl (hrow.alloc _) ⟨W.heap.size,0,none⟩ 1 1 [.int .u8 12,.slice A5 (BL.length+C.length) c5] rfl rfl (cell_two_new _ _ _ _) (by simp[Value.oneCell']) (by unfold maxLen;omega) (by omega) (by simp;omega) ?_;intro v' w1 hown' hgrow _;obtain⟨g',cap',rfl⟩:=ownsRow_succ hown';obtain⟨hv1,hv2,hr2,hk2,hb2⟩:=hv.appended (by decide) hrow hwr (Nat.le_refl _) hown' hgrow;have hc1:=hv1.cell;have hfz:=hv1.frozen);have hV7:=Ed hv1 (D6 (hVW.alloc _) (hrow.alloc _) (by decide) hgrow) (by decide) (.slice (some ⟨g',0,none⟩) (pre.length+1) cap');refine⟨hk2.from _,hb2.mono (Nat.zero_le _),⟨⟨_,hv2,by simpa using hr2,trivial⟩,hV7⟩,hB.trans (hb2.mono hww)⟩
   case done=>
    rintro D ys W hD rfl ⟨⟨⟨v,hv,hrow,_⟩,hVW⟩,hB⟩ hK;have hc:=hv.cell;have hDW:D<W.heap.size:=(Array.getElem?_eq_some_iff.1 hK).1;gi_wp2;rcases hrow.2 with⟨_,h0⟩|⟨g,cap,cur,rfl,hgb,hg,hcn,hcm,hcs,htk⟩;·cases h0
    have hcc:∀i,W.cell? ⟨g,i,none⟩=cur[i]?:=fun i=>by unfold World.cell?;rw[hg];rfl
    have hk0:∀i,i<2→cur[i]?=[Value.int .u8 12,.slice A5 (BL.length+C.length) c5][i]?:=fun i hi=>by have:=congrArg (fun l=>l[i]?) htk;simp only[List.length_cons,List.length_nil,Nat.zero_add,Nat.one_mul,List.getElem?_take,hi,if_true,List.flatMap_cons,List.flatMap_nil,List.append_nil,Array.getElem?_toList]at this;exact this
    refine⟨trivial,(callsIn_wide.2 (hj W ⟨g,0,none⟩ cap (.slice A5 (BL.length+C.length) c5) hcn (by rw[Addr.add_lit,hcc,hk0 _ (by omega)];rfl) (by rw[Addr.add_lit,hcc,hk0 _ (by omega)];rfl) (oO hVW))).mono ?_⟩;rintro e W8 ⟨V',rfl,hR,hB8⟩;gi_wp2;refine⟨by simp,.inl ⟨_,_,rfl,run_takeDeferred ((hB8.block D hDW).trans hK),?_⟩⟩;have hzD:w.heap.size≤D:=Nat.le_trans hB6.size hD;have hzW:w.heap.size≤W.heap.size:=hB.size;refine⟨_,results_tmp2 rfl _ _ _,V',rfl,hR.mono fun b hb=>⟨⟨Nat.le_trans hzW hb.1,by rw[World.putObj_size];exact hb.2⟩,World.putObj_heap_other (by have:=hb.1;omega)⟩,?_⟩;exact hB.trans ((hB8.mono hzW).trans (belowK_b (w:=w) (Nat.le_refl _) W8 D _ _ hzD ((hB8.block D hDW).trans hK) rfl rfl))
   case stop=>rintro D c pre W _ _ h _;exact h.elim
end Go.Proofs.YtifcndkhigakfaaGreat.Ab
namespace Go.Proofs.YtifcndkhigakfaaGreat.Ab
open Go Go.RowKit R
@[simp] noncomputable def V1:List AV→Option (Prop×AV)|[.pv (.ro b)]=>(dec di b).map fun l=>(l.length≤100000000,.fr 5 (bytesRow l))|_=>none
theorem Zz:aR Tryz.prog 160 V1:=by
 intro ys φ r h hφ;unfold V1 at h;split at h;·obtain⟨b,hb,h⟩:=Option.map_eq_some_iff.1 h;cases h;cases aE hb;have hl:b.length≤100000000:=hφ;refine aq aj (by kernel_rfl) (by conv=>lhs;reduce) (by simp) ?_;cases b with|nil=>have hx:bytesRow []=[]:=rfl;simp[hx,j7]|cons x l=>have hx:bytesRow (x::l)=[.int .u8 (x.toNat:Int)]::bytesRow l:=rfl;simp[hx,aw];simp only[List.length_cons]at hl;exact⟨by omega,by omega,D7 l⟩
 ·cases h
@[simp] noncomputable def YQ:List AV→Option (Prop×AV)|[.pv (.ro a),.pv (.ro b)]=>(dec di a).bind fun la=>(dec di b).map fun lb=>(la.length≤1000000000,.pv (.bool (decide (la=lb))))|_=>none
theorem ZD:aR Tryz.prog 159 YQ:=by
 intro ys φ r h hφ;unfold YQ at h;split at h
 ·rename_i ra rb;obtain⟨a,ha,h⟩:=Option.bind_eq_some_iff.1 h;obtain⟨b,hb,h⟩:=Option.map_eq_some_iff.1 h;cases h;cases aE ha;cases aE hb;have hl:a.length≤1000000000:=hφ;refine aq aj (by kernel_rfl) (by conv=>lhs;reduce) (by simp) ?_;by_cases hlen:a.length=b.length
  ·have hlen':(a.length:Int)=b.length:=by omega
   simp[hlen'];refine au (fun i:Nat=>i≤a.length∧a.take i=b.take i) (fun i=>⟨[(0,.pv (.ro (bytesRow a))),(1,.pv (.ro (bytesRow b))),(4,.pv (.bool false)),(12,.pv (.int .i64 a.length)),(13,.pv (.int .i64 i))],[]⟩) (fun i=>a.length-i) [] 0 (by simp) ?_ ?_;·simp[hlen]
   ·rintro i ⟨hi,ht⟩;have w2:IntKind.i64.wrap ((i:Int)+1)=(i:Int)+1:=wrap_i64 (by omega);by_cases hlt:i<a.length
    ·have r1:=R.bytesRow_at hlt;have hlb:i<b.length:=by omega
     have r2:=R.bytesRow_at hlb;by_cases he:a[i]=b[i];·simp[w2,hlt,hlb,r1,r2,he];refine⟨i+1,⟨by omega,?_⟩,by omega,by omega⟩;rw[List.take_succ_eq_append_getElem hlt,List.take_succ_eq_append_getElem hlb,ht,he]
     ·have hn:¬a=b:=fun e=>he (by subst e;rfl);have hf:¬(a[i].toNat:Int)=(b[i].toNat:Int):=fun h=>he (UInt8.toNat_inj.1 (by omega));simp[w2,hlt,hlb,r1,r2,hn,hf]
    ·simp[hlt];rw[List.take_of_length_le (by omega),List.take_of_length_le (by omega)]at ht;exact ht
  ·have hn:¬a=b:=fun e=>hlen (by rw[e]);have hlen':¬(a.length:Int)=b.length:=by omega
   simp[hlen',hn]
 ·cases h
def jz (b:List UInt8) (lo hi:Int):List UInt8:=(b.take hi.toNat).drop lo.toNat
theorem yq (b:List UInt8) (lo hi:Int):cut (bytesRow b) lo hi=bytesRow (jz b lo hi):=by simp[cut,jz,bytesRow,List.map_drop,List.map_take]
theorem mJ (b:List UInt8) {lo hi:Int} (h0:0≤lo) (h1:lo≤hi) (h2:hi≤b.length):((jz b lo hi).length:Int)=hi-lo:=by simp only[jz,List.length_drop,List.length_take];omega
def cd (b:List UInt8) (p:Int):Fm×Int×Int:=if p<0∨(b.length:Int)≤p then(⟨0,[]⟩,p,10) else if(ah b (p+1)).2.2≠0 then(⟨0,[]⟩,p,(ah b (p+1)).2.2) else if 65535<(ah b (p+1)).1 then(⟨0,[]⟩,p,3) else if(b.length:Int)-(ah b (p+1)).2.1<(ah b (p+1)).1+4 then(⟨0,[]⟩,p,10) else if jz b ((ah b (p+1)).2.1+(ah b (p+1)).1) ((ah b (p+1)).2.1+(ah b (p+1)).1+4)=ey (iO (jz b p ((ah b (p+1)).2.1+(ah b (p+1)).1))) then(⟨b.getD p.toNat 0,jz b (ah b (p+1)).2.1 ((ah b (p+1)).2.1+(ah b (p+1)).1)⟩,(ah b (p+1)).2.1+(ah b (p+1)).1+4,0) else(⟨0,[]⟩,p,30)
@[simp] noncomputable def WV:List AV→Option (Prop×AV)|[.pv (.ro b),.pv (.int .i64 p)]=>(dec di b).map fun l=>(l.length≤100000000∧-9223372036854775808≤p∧p≤9223372036854775807,.aS [.agg [.pv (.int .u8 ((cd l p).1.k.toNat:Int)),.fr 5 (bytesRow (cd l p).1.b)],.pv (.int .i64 (cd l p).2.1),.pv (.int .i64 (cd l p).2.2)])|_=>none
theorem aai:aR Tryz.prog 119 WV:=by
 intro ys φ r h hφ;unfold WV at h;split at h
 ·rename_i rb p;obtain⟨b,hb,h⟩:=Option.map_eq_some_iff.1 h;cases h;cases aE hb;obtain⟨hl,p1,p2⟩:=hφ;have hi:(Tryz.prog.info? 5).isSome=true:=by kernel_rfl
  have hl9:b.length≤1000000000:=by omega
  refine aq (af qi (af KU (af ZD (af Zz aj)))) (by kernel_rfl) (by conv=>lhs;reduce) (by simp) ?_;apply ag;·simp;exact⟨rfl,rfl⟩
  by_cases h0:p<0∨(b.length:Int)≤p
  ·have ht:cd b p=(⟨0,[]⟩,p,10):=by unfold cd;rw[if_pos h0]
   rw[ht];refine aO (fun _=>False) ?_ (fun _ h=>h.elim);apply ag
   ·by_cases h1:p<0;·simp[h1];exact⟨rfl,rfl⟩
    ·have h2:(b.length:Int)≤p:=h0.resolve_left h1;simp[h1,h2]
   apply cz rfl;simp[hi]
  ·have h1:¬p<0:=fun h=>h0 (Or.inl h);have h2:¬(b.length:Int)≤p:=fun h=>h0 (Or.inr h);have w1:IntKind.i64.wrap (p+1)=p+1:=wrap_i64 (by omega);have g1:-9223372036854775808≤p+1:=by omega
   have g2:p+1≤9223372036854775807:=by omega
   obtain⟨q,rfl⟩:∃q:Nat,p=(q:Int):=⟨p.toNat,by omega⟩;have hq:q<b.length:=by omega
   have rq:=R.bytesRow_at hq;have hgd:b.getD q 0=b[q]:=by simp[List.getD_eq_getElem?_getD,hq]
   apply ag
   ·apply ag;·simp[h1,h2];exact⟨rfl,rfl⟩
    apply c8 rfl;simp;exact⟨rfl,rfl⟩
   obtain⟨k1,k2,k3,_⟩:=bT b (q+1);unfold cd;rw[if_neg h0];apply ag;·simp[w1,g1,g2,hl9];exact⟨rfl,rfl⟩
   generalize ah b (q+1)=L at*;obtain⟨n,s,e⟩:=L;have k1:e=0→0≤(q:Int)+1∧(q:Int)+1<s∧s≤b.length:=k1;have k2:0≤n:=k2;have k3:n≤18446744073709551615:=k3;dsimp only;by_cases he:e=0;rotate_left
   ·rw[if_pos he];refine aO (fun _=>False) ?_ (fun _ h=>h.elim);rw[cp];apply ag;·simp[he];exact⟨rfl,rfl⟩
    apply cz rfl;simp[hi]
   rw[if_neg (by simp[he])];obtain⟨_,k4,k5⟩:=k1 he;by_cases hn:65535<n
   ·rw[if_pos hn];refine aO (fun _=>False) ?_ (fun _ h=>h.elim);rw[cp];apply ag;·simp[he];exact⟨rfl,rfl⟩
    apply c8 rfl;apply ag;·simp[hn];exact⟨rfl,rfl⟩
    apply cz rfl;simp[hi]
   rw[if_neg hn];obtain⟨m,rfl⟩:∃m:Nat,n=(m:Int):=⟨n.toNat,by omega⟩;obtain⟨t,rfl⟩:∃t:Nat,s=(t:Int):=⟨s.toNat,by omega⟩;have w2:IntKind.i64.wrap (m:Int)=(m:Int):=wrap_i64 (by omega);have w3:IntKind.i64.wrap ((m:Int)+4)=(m:Int)+4:=wrap_i64 (by omega);have w4:IntKind.i64.wrap ((b.length:Int)-(t:Int))=(b.length:Int)-(t:Int):=wrap_i64 (by omega);have w5:IntKind.i64.wrap ((t:Int)+(m:Int))=(t:Int)+(m:Int):=wrap_i64 (by omega);have w6:IntKind.i64.wrap ((t:Int)+(m:Int)+4)=(t:Int)+(m:Int)+4:=wrap_i64 (by omega);by_cases hs:(b.length:Int)-(t:Int)<(m:Int)+4
   ·rw[if_pos hs];refine aO (fun _=>False) ?_ (fun _ h=>h.elim);rw[cp];apply ag;·simp[he];exact⟨rfl,rfl⟩
    apply c8 rfl;apply ag;·simp[hn];exact⟨rfl,rfl⟩
    apply c8 rfl;apply ag;·simp[w2,w3,w4,hs];exact⟨rfl,rfl⟩
    apply cz rfl;simp[hi]
   rw[if_neg hs];apply ag
   ·rw[cp];apply ag;·simp[he];exact⟨rfl,rfl⟩
    apply c8 rfl;apply ag;·simp[hn];exact⟨rfl,rfl⟩
    apply c8 rfl;apply ag;·simp[w2,w3,w4,hs];exact⟨rfl,rfl⟩
    apply c8 rfl;simp;exact⟨rfl,rfl⟩
   apply ag;·simp[w2,w5];exact⟨rfl,rfl⟩
   have c1:((jz b (t+m:Int) (t+m+4)).length:Int)=4:=by rw[mJ b (by omega) (by omega) (by omega)];omega
   have c2:((jz b (q:Int) (t+m)).length:Int)=t+m-q:=mJ b (by omega) (by omega) (by omega);have c3:((jz b (t:Int) (t+m)).length:Int)=m:=by rw[mJ b (by omega) (by omega) (by omega)];omega
   have d1:(jz b (t+m:Int) (t+m+4)).length≤1000000000:=by omega
   have d2:(jz b (q:Int) (t+m)).length≤1000000000:=by omega
   have d3:(jz b (t:Int) (t+m)).length≤100000000:=by omega
   have e1:(0:Int)≤(t:Int)+m:=by omega
   have e2:(t:Int)+m≤(t:Int)+m+4:=by omega
   have e3:(t:Int)+m+4≤b.length:=by omega
   have e4:(q:Int)≤(t:Int)+m:=by omega
   have e5:(t:Int)+m≤b.length:=by omega
   have e6:(t:Int)≤(t:Int)+m:=by omega
   have s4:∀s,(ey s).length≤1000000000:=fun s=>by simp[ey]
   have hb1:(∀r∈bytesRow b,r.length=1)=True:=eq_true (D7 b);by_cases hsum:jz b (t+m:Int) (t+m+4)=ey (iO (jz b (q:Int) (t+m)))
   ·rw[if_pos hsum];apply ag
    ·apply ag;·simp[w6,yq,hb1,s4,d1,d2,e1,e2,e3,e4,e5,hsum,bK];exact⟨rfl,rfl⟩
     apply c8 rfl;simp;exact⟨rfl,rfl⟩
    simp[w6,yq,hb1,rq,hgd,hq,d3,e5,e6,bK]
   ·rw[if_neg hsum];refine aO (fun _=>False) ?_ (fun _ h=>h.elim);apply ag;·simp[w6,yq,hb1,s4,d1,d2,e1,e2,e3,e4,e5,hsum,bK];exact⟨rfl,rfl⟩
    apply cz rfl;simp[hi]
 ·cases h
theorem um (b:List UInt8) (p:Int) (h:(cd b p).2.2=0):0≤p∧p<(cd b p).2.1∧(cd b p).2.1≤b.length∧(cd b p).1.b.length≤65535∧p+(cd b p).1.b.length<(cd b p).2.1:=by
 obtain⟨k1,k2,k3,_⟩:=bT b (p+1);unfold cd at h ⊢;split at h;·cases h
 rename_i h0;rw[if_neg h0];split at h;·rename_i h1;exact absurd h h1
 rename_i h1;rw[if_neg h1];have h1:(ah b (p+1)).2.2=0:=by simpa using h1
 obtain⟨_,k4,k5⟩:=k1 h1;split at h;·cases h
 rename_i h2;rw[if_neg h2];split at h;·cases h
 rename_i h3;rw[if_neg h3];split at h;·rename_i h4;rw[if_pos h4];have h0':¬p<0:=fun h=>h0 (Or.inl h);refine⟨by omega,by show p<(ah b (p+1)).2.1+(ah b (p+1)).1+4;omega,by show(ah b (p+1)).2.1+(ah b (p+1)).1+4≤_;omega,?_⟩;have:=mJ b (lo:=(ah b (p+1)).2.1) (hi:=(ah b (p+1)).2.1+(ah b (p+1)).1) (by omega) (by omega) (by omega);show(jz b (ah b (p+1)).2.1 ((ah b (p+1)).2.1+(ah b (p+1)).1)).length≤65535∧p+((jz b (ah b (p+1)).2.1 ((ah b (p+1)).2.1+(ah b (p+1)).1)).length:Int)<(ah b (p+1)).2.1+(ah b (p+1)).1+4;omega
 ·cases h
def fm (b:List UInt8):Nat→Nat→List Fm×Nat|0,p=>([],p)|n+1,p=>if(cd b p).2.2≠0 then([],p) else((cd b p).1::(fm b n (cd b p).2.1.toNat).1,(fm b n (cd b p).2.1.toNat).2)
def dB (b:List UInt8):List Fm×Nat:=fm b (b.length+1) 0
theorem Bm (b:List UInt8):∀(n p:Nat),p≤b.length→(fm b n p).1.length+p≤b.length∧((fm b n p).1.flatMap Fm.b).length+p≤b.length∧p≤(fm b n p).2∧(fm b n p).2≤b.length∧∀f∈(fm b n p).1,f.b.length≤65535
 |0,p,hp=>⟨by simp[fm];omega,by simp[fm];omega,Nat.le_refl _,hp,fun f hf=>by cases hf⟩|n+1,p,hp=>by
  unfold fm;split;·exact⟨by simp;omega,by simp;omega,Nat.le_refl _,hp,fun f hf=>by cases hf⟩
  ·rename_i he;have he:(cd b (p:Int)).2.2=0:=by simpa using he
   obtain⟨_,k1,k2,k3,k4⟩:=um b p he;obtain⟨m,hm⟩:∃m:Nat,(cd b (p:Int)).2.1=(m:Int):=⟨(cd b (p:Int)).2.1.toNat,by omega⟩;rw[hm]at k1 k2 k4;rw[hm,Int.toNat_natCast];obtain⟨i1,i2,i3,i4,i5⟩:=Bm b n m (by omega);refine⟨by simp only[List.length_cons];omega,by simp only[List.flatMap_cons,List.length_append];omega,by show p≤(fm b n m).2;omega,i4,fun f hf=>?_⟩;rcases List.mem_cons.1 hf with rfl|hf;·exact k3
   ·exact i5 f hf
theorem oQ (b:List UInt8):(dB b).1.length≤b.length∧((dB b).1.flatMap Fm.b).length≤b.length∧(dB b).2≤b.length∧∀f∈(dB b).1,f.b.length≤65535:=by obtain⟨i1,i2,i3,i4,i5⟩:=Bm b (b.length+1) 0 (Nat.zero_le _);exact⟨i1,i2,i4,i5⟩
@[simp] noncomputable def GfA (e:TypeId):List AV→Option (Prop×AV)|[.pv (.ro b)]=>(dec di b).map fun l=>(l.length≤1000000,.aS [.fr e (dv (dB l).1),.pv (.int .i64 ((dB l).2:Int))])|_=>none
theorem pV (a b:List Fm):dv (a++b)=dv a++dv b:=by simp[dv]
theorem c_fA:aR Tryz.prog 78 (GfA 97):=by
 intro ys φ r h hφ;unfold GfA at h;split at h
 ·rename_i rb;obtain⟨b,hb,h⟩:=Option.map_eq_some_iff.1 h;cases h;cases aE hb;have hl:b.length≤1000000:=hφ;have hl8:b.length≤100000000:=by omega
  refine aq (af aai aj) (by kernel_rfl) (by conv=>lhs;reduce) (by simp) ?_;simp;refine au (fun x:Nat×List Fm=>x.1≤b.length∧x.2.length≤x.1∧∃n,b.length<n+x.1∧(dB b).1=x.2++(fm b n x.1).1∧(dB b).2=(fm b n x.1).2) (fun x=>⟨[(0,.pv (.ro (bytesRow b))),(2,.own 2),(3,.pv (.int .i64 (x.1:Int)))],[(2,.arr 97 (dv x.2))]⟩) (fun x=>b.length-x.1) [] (0,[]) ⟨by simp,by simp,b.length+1,by omega,by simp[dB],rfl⟩ ?_ ?_;·simp[dv]
  ·rintro⟨p,l⟩ ⟨hp,hpl,n,hn,h1,h2⟩;have hp:p≤b.length:=hp;have hpl:l.length≤p:=hpl;have hn:b.length<n+p:=hn;have h1:(dB b).1=l++(fm b n p).1:=h1;have h2:(dB b).2=(fm b n p).2:=h2;rw[fw];dsimp only;have g1:-9223372036854775808≤(p:Int):=by omega
   have g2:(p:Int)≤9223372036854775807:=by omega
   have hok:=um b p;match n,hn,h1,h2 with
   |0,hn,_,_=>omega|n+1,hn,h1,h2=>
    unfold fm at h1 h2;simp[hl8,g1,g2,bK,aw];refine⟨fun he=>?_,fun he=>?_⟩;·rw[if_pos he]at h1 h2;rw[h1,h2,List.append_nil];exact⟨rfl,rfl⟩
    ·obtain⟨_,k1,k2,_⟩:=hok he;obtain⟨m,hm⟩:∃m:Nat,(cd b (p:Int)).2.1=(m:Int):=⟨(cd b (p:Int)).2.1.toNat,by omega⟩;rw[if_neg (by simp[he]),hm,Int.toNat_natCast]at h1 h2;exact⟨⟨by omega,by omega⟩,m,l++[(cd b (p:Int)).1],⟨by omega,by simp;omega,n,by omega,by rw[h1];simp,h2⟩,⟨hm,by rw[pV];rfl⟩,by omega⟩
 ·cases h
def yD (n i:Nat) (f:Fm):Prop:=f.k=12∧(i+1<n→f.b.length=65535)∧(0<i→f.b≠[])
instance (n i:Nat) (f:Fm):Decidable (yD n i f):=by unfold yD;infer_instance
def Aj (l:List Fm):Bool:=(List.range l.length).all fun i=>match l[i]? with|some f=>decide (yD l.length i f)|none=>true
theorem mj {l:List Fm}:Aj l=true↔∀(i:Nat) (h:i<l.length),yD l.length i l[i]:=by
 unfold Aj;rw[List.all_eq_true];constructor;·intro h i hi;have:=h i (List.mem_range.2 hi);rw[List.getElem?_eq_getElem hi]at this;simpa using this
 ·intro h i hi;have hi:=List.mem_range.1 hi;rw[List.getElem?_eq_getElem hi];exact decide_eq_true (h i hi)
def dn (l:List Fm):List UInt8:=l.flatMap Fm.b
theorem oS (a b:List Fm):dn (a++b)=dn a++dn b:=by simp[dn]
theorem tD (f:Fm):dn [f]=f.b:=by simp[dn]
@[simp] theorem Hp:dn []=[]:=rfl
def eA (b:List UInt8):List UInt8×Bool:=if Aj (dB b).1=true then(dn (dB b).1,decide ((dB b).2=b.length)) else([],false)
@[simp] noncomputable def Gwh:List AV→Option (Prop×AV)|[.pv (.ro b)]=>(dec di b).map fun l=>(l.length≤1000000,.aS [.fr 5 (bytesRow (eA l).1),.pv (.bool (eA l).2)])|_=>none
theorem c_wh:aR Tryz.prog 42 Gwh:=by
 intro ys φ r h hφ;unfold Gwh at h;split at h
 ·rename_i rb;obtain⟨b,hb,h⟩:=Option.map_eq_some_iff.1 h;cases h;cases aE hb;have hl:b.length≤1000000:=hφ;obtain⟨a1,a2,a3,_⟩:=oQ b;have hi:(Tryz.prog.info? 5).isSome=true:=by kernel_rfl
  refine aq (af c_fA aj) (by kernel_rfl) (by conv=>lhs;reduce) (by simp) ?_;unfold eA;apply ag;·simp;exact⟨rfl,rfl⟩
  apply ag;·simp[hl];exact⟨rfl,rfl⟩
  generalize dB b=A at*;obtain⟨l,g⟩:=A;have a1:l.length≤b.length:=a1;have a2:(dn l).length≤b.length:=a2;have a3:g≤b.length:=a3;have hfl:∀k,(dn (l.take k)).length≤(dn l).length:=fun k=>by
   have:dn l=dn (l.take k)++dn (l.drop k):=by rw[←oS,List.take_append_drop]
   rw[this,List.length_append];omega
  apply ag;·simp;exact⟨rfl,rfl⟩
  rw[dV];apply ag;·simp;exact⟨rfl,rfl⟩
  rw[cp];refine au (fun k:Nat=>k≤l.length∧∀(i:Nat) (h:i<l.length),i<k→yD l.length i l[i]) (fun k=>⟨[(0,.pv (.ro (bytesRow b))),(4,.own 11),(5,.pv (.int .i64 (g:Int))),(6,.own 6),(14,.own 11),(15,.pv (.int .i64 l.length)),(16,.pv (.int .i64 (k:Int)))],[(11,.arr 97 (dv l)),(6,.arr 5 (bytesRow (dn (l.take k))))]⟩) (fun k=>l.length-k) [] 0 (by simp) ?_ ?_;·simp
  ·rintro k ⟨hk,ht⟩;have w2:IntKind.i64.wrap ((k:Int)+1)=(k:Int)+1:=wrap_i64 (by omega);rw[fw];dsimp only;by_cases hlt:k<l.length
   ·have r1:=n9 hlt;have htk:dn (l.take (k+1))=dn (l.take k)++l[k].b:=by rw[List.take_succ_eq_append_getElem hlt,oS,tD]
    have h1:=hfl (k+1);rw[htk,List.length_append]at h1;have hbs:bytesRow (dn (l.take k))++bytesRow l[k].b=bytesRow (dn (l.take (k+1))):=by rw[htk,aM]
    have hok:yD l.length k l[k]→∀(i:Nat) (h:i<l.length),i<k+1→yD l.length i l[i]:=fun h i hi hik=>by
     by_cases e:i=k;·subst e;exact h
     ·exact ht i hi (by omega)
    have hno:¬yD l.length k l[k]→Aj l=false:=fun h=>by cases hw:Aj l with|false=>rfl|true=>exact absurd (mj.1 hw k hlt) h
    have e12:(12:UInt8).toNat=12:=rfl;apply ag;·simp[hlt];exact⟨rfl,rfl⟩
    apply ag;·simp;exact⟨rfl,rfl⟩
    by_cases ho:yD l.length k l[k]
    ·obtain⟨c1,c2,c3⟩:=ho;have c1':(l[k].k.toNat:Int)=12:=by rw[c1];rfl
     by_cases d1:(k:Int)+1<l.length
     ·have d2:l[k].b.length=65535:=c2 (by omega);have d2':(l[k].b.length:Int)=65535:=by omega
      have d3:¬l[k].b=[]:=fun e=>by rw[e]at d2;simp at d2
      rw[dV,cp];apply ag;·simp[hlt,r1];exact⟨rfl,rfl⟩
      apply ag
      ·apply ag;·simp[w2,c1',d1,d2,d2',d3];exact⟨rfl,rfl⟩
       apply c8 rfl;simp;exact⟨rfl,rfl⟩
      simp[w2,hbs,aw];exact⟨⟨by omega,by omega,D7 _⟩,k+1,⟨by omega,hok ⟨c1,c2,c3⟩⟩,⟨by omega,rfl⟩,by omega⟩
     ·rcases Nat.eq_zero_or_pos k with d4|d4
      ·have d5:¬0<k:=by omega
       rw[dV,cp];apply ag;·simp[hlt,r1];exact⟨rfl,rfl⟩
       apply ag
       ·apply ag;·simp[w2,c1',d1,d5];exact⟨rfl,rfl⟩
        apply c8 rfl;simp;exact⟨rfl,rfl⟩
       simp[w2,hbs,aw];exact⟨⟨by omega,by omega,D7 _⟩,k+1,⟨by omega,hok ⟨c1,c2,c3⟩⟩,⟨by omega,rfl⟩,by omega⟩
      ·have d3:=c3 d4;rw[dV,cp];apply ag;·simp[hlt,r1];exact⟨rfl,rfl⟩
       apply ag
       ·apply ag;·simp[w2,c1',d1,d4,d3];exact⟨rfl,rfl⟩
        apply c8 rfl;simp;exact⟨rfl,rfl⟩
       simp[w2,hbs,aw];exact⟨⟨by omega,by omega,D7 _⟩,k+1,⟨by omega,hok ⟨c1,c2,c3⟩⟩,⟨by omega,rfl⟩,by omega⟩
    ·have hn:=hno ho;refine aO (fun _=>False) ?_ (fun _ h=>h.elim);rw[cp];apply ag;·simp[hlt,r1];exact⟨rfl,rfl⟩
     refine aO (fun _=>False) ?_ (fun _ h=>h.elim);by_cases c1:l[k].k=12
     ·have c1':(l[k].k.toNat:Int)=12:=by rw[c1];rfl
      by_cases c4:0<k∧l[k].b=[]
      ·obtain⟨c4,c5⟩:=c4;by_cases c2:(k:Int)+1<l.length
       ·apply ag;·simp[w2,c1',c2,c4,c5];exact⟨rfl,rfl⟩
        apply cz rfl;simp[hn,hi]
       ·apply ag;·simp[w2,c1',c2,c4,c5];exact⟨rfl,rfl⟩
        apply cz rfl;simp[hn,hi]
      ·have hx:¬((k:Int)+1<l.length→l[k].b.length=65535):=fun h=>ho ⟨c1,fun g=>h (by omega),fun g e=>c4 ⟨g,e⟩⟩;have c2:(k:Int)+1<l.length:=Classical.byContradiction fun h=>hx fun g=>absurd g h;have c3:¬l[k].b.length=65535:=fun h=>hx fun _=>h;have c3':¬(l[k].b.length:Int)=65535:=by omega
       apply ag;·simp[w2,c1',c2,c3,c3'];exact⟨rfl,rfl⟩
       apply cz rfl;simp[hn,hi]
     ·have c1':¬(l[k].k.toNat:Int)=12:=fun h=>c1 (UInt8.toNat_inj.1 (by rw[e12];omega));apply ag;·simp[c1'];exact⟨rfl,rfl⟩
      apply cz rfl;simp[hn,hi]
   ·have hke:k=l.length:=by omega
    subst hke;have hw:Aj l=true:=mj.2 fun i hi=>ht i hi hi;have hgd:decide ((g:Int)=(b.length:Int))=decide (g=b.length):=decide_eq_decide.2 (by omega);rw[List.take_length];simp[hlt,hw,hgd]
 ·cases h
end Go.Proofs.YtifcndkhigakfaaGreat.Ab
