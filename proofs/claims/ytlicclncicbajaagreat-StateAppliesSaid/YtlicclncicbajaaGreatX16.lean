/- Chapter 2: checksums as plain numbers: one digit, a byte, a row; by a table, and digit by digit. -/
import Derived.Test.YtlicclncicbajaaGreatX13
import Derived.ProofKit
import Derived.Below
import Derived.ChangeSame
import Derived.Carry
import Derived.Deep.Slices
import Derived.Deep.Fields
import Derived.Test.YtlicclncicbajaaGreatRows
set_option linter.unusedVariables false
set_option linter.unusedSimpArgs false
set_option linter.unnecessarySimpa false
set_option maxHeartbeats 40000000
set_option maxRecDepth 100000
set_option linter.defProp false
namespace Go.Proofs.YtlicclncicbajaaGreat.Ab
open Go Go.RowKit
def q119:=@Nat.le_succ
def q140:=@Nat.mod_two_eq_zero_or_one
def q223:=@Nat.xor_assoc
def q262:=@Nat.lt_of_le_of_lt
def q269:=@World.cells?_some
def q283:=@Nat.xor_zero
def q290:=@Nat.zero_ne_one
def q295:=@List.getElem_singleton
end Go.Proofs.YtlicclncicbajaaGreat.Ab
namespace Go.Proofs.YtlicclncicbajaaGreat.Ab
open Go Go.RowKit R
variable {n i:Nat}{f:FuncId}{l:List Vn}{W:World}{row:List PV}
def S1 (n:Nat):Nat:=n/2^^^(if n%2=1 then 2197175160 else 0)
def S8 (n:Nat):Nat:=S1 (S1 (S1 (S1 (S1 (S1 (S1 (S1 n)))))))
def F2:Nat→Nat→Nat|0,n=>n|k+1,n=>S1 (F2 k n)
theorem NB (n:Nat):F2 8 n=S8 n:=rfl
theorem F9 (a b:Nat):(a^^^b)/2=a/2^^^b/2:=by apply Nat.eq_of_testBit_eq;intro i;simp[Nat.testBit_div_two,Nat.testBit_xor]
theorem HA (a b:Nat):(a^^^b)%2=(a%2+b%2)%2:=by rcases q140 a with ha|ha<;>rcases q140 b with hb|hb<;>(have h:=Nat.testBit_xor (x:=a) (y:=b) (i:=0);simp only[Nat.testBit_zero,ha,hb]at h;rcases q140 (a^^^b) with hc|hc<;>simp_all)
theorem HC (a b:Nat):S1 (a^^^b)=S1 a^^^S1 b:=by
 unfold S1;rw[F9,HA];rcases q140 a with ha|ha<;>rcases q140 b with hb|hb<;>simp only[ha,hb];·simp
 ·simp[q223]
 ·simp only[Nat.reduceAdd,Nat.reduceMod,if_true,if_false,q290,q283];rw[q223,q223,Nat.xor_comm 2197175160]
 ·simp only[Nat.reduceAdd,Nat.reduceMod,if_true,if_false,q290,q283];rw[q223,Nat.xor_comm 2197175160,q223,Nat.xor_self,q283]
theorem IB (a b:Nat):S8 (a^^^b)=S8 a^^^S8 b:=by unfold S8;simp only[HC]
theorem OH (m:Nat):S1 (2*m)=m:=by unfold S1;simp
theorem PX (m:Nat):S8 (256*m)=m:=by
 have:256*m=2*(2*(2*(2*(2*(2*(2*(2*m))))))):=by omega
 unfold S8;rw[this];simp only[OH]
theorem nF (h:n<4294967296):S1 n<4294967296:=by unfold S1;apply Nat.xor_lt_two_pow (n:=32) (by omega);split<;>decide
theorem L1 (h:n<4294967296):S8 n<4294967296:=by unfold S8;exact nF (nF (nF (nF (nF (nF (nF (nF h)))))))
theorem HR {n:Nat} (h:n<4294967296):∀k,F2 k n<4294967296|0=>h|k+1=>nF (HR h k)
theorem OJ (n:Nat):n=(n%256)^^^(256*(n/256)):=by
 apply Nat.eq_of_testBit_eq;intro i;rw[Nat.testBit_xor,show(256:Nat)=2^8 from rfl,Nat.testBit_mod_two_pow,Nat.testBit_two_pow_mul,Nat.testBit_div_two_pow];by_cases h:i<8;·simp[h,show¬8≤i from by omega]
 ·simp[h,show 8≤i from by omega,show i-8+8=i from by omega]
theorem CY (a b:Nat):(a^^^b)%256=a%256^^^b%256:=by rw[show(256:Nat)=2^8 from rfl,Nat.xor_mod_two_pow]
theorem B8 (a b:Nat):(a^^^b)/256=a/256^^^b/256:=by rw[show(256:Nat)=2^8 from rfl,Nat.xor_div_two_pow]
def Nb (c x:Nat):Nat:=S8 (c%256^^^x)^^^c/256
theorem HI {c x:Nat} (h:x<256):Nb c x=S8 (c^^^x):=by have e:=OJ (c^^^x);rw[e,IB,PX,CY,B8,q115 h,Nat.div_eq_of_lt h,q283];rfl
theorem PO {c x:Nat} (hc:c<4294967296) (h:x<256):Nb c x<4294967296:=by rw[HI h];exact L1 (Nat.xor_lt_two_pow (n:=32) (by omega) (by omega))
def Fq (c x:Nat):Nat→Nat|0=>c|k+1=>S1 (Fq c x k^^^(x/2^k)%2)
theorem Hz {c x:Nat} (hc:c<4294967296):∀k,Fq c x k<4294967296|0=>hc|k+1=>nF (Nat.xor_lt_two_pow (n:=32) (Hz hc k) (by omega))
theorem Eb (c x:Nat):∀k,Fq c x k=F2 k c^^^Fq 0 x k|0=>by simp[Fq,F2]|k+1=>by simp only[Fq,F2];rw[Eb c x k,q223,HC]
theorem HW:∀x,x<256→Fq 0 x 8=S8 x:=by decide
theorem QX {c x:Nat} (h:x<256):Fq c x 8=Nb c x:=by rw[Eb,NB,HW x h,←IB,HI h]
def lk (c:Nat) (l:List UInt8):Nat:=l.foldl (fun c x=>Nb c x.toNat) c
theorem wI (c:Nat) (l:List UInt8) (x:UInt8):lk c (l++[x])=Nb (lk c l) x.toNat:=by simp[lk]
theorem pS {c:Nat} (h:c<4294967296):∀l:List UInt8,lk c l<4294967296:=by intro l;induction l generalizing c with|nil=>exact h|cons x l ih=>exact ih (PO h (by have:=x.toNat_lt;omega))
def vI (c:Nat) (l:List UInt8):Nat:=lk (c^^^4294967295) l^^^4294967295
theorem KE {c:Nat} (h:c<4294967296) (l:List UInt8):vI c l<4294967296:=Nat.xor_lt_two_pow (n:=32) (pS (Nat.xor_lt_two_pow (n:=32) h (by omega)) l) (by omega)
def pj (l:List UInt8):Nat:=vI 0 l
theorem wrap_u32 {n:Int} (h:0≤n) (h':n<4294967296):IntKind.u32.wrap n=n:=by simp only[IntKind.wrap,IntKind.bits,IntKind.signed];simp;omega
theorem iD (w a:Nat) (h:a<2^w):(BitVec.ofInt w (a:Int)).toNat=a:=by rw[q200,q206,q115 h]
theorem jJ {a b:Nat} (ha:a<4294967296) (hb:b<4294967296):gl .xor .u32 (a:Int) (b:Int)=.int .u32 ((a^^^b:Nat):Int):=by
 have hx:a^^^b<4294967296:=Nat.xor_lt_two_pow (n:=32) ha hb;have h4:(BitVec.ofInt IntKind.u32.bits (a:Int)^^^BitVec.ofInt IntKind.u32.bits (b:Int)).toNat=a^^^b:=by show(BitVec.ofInt 32 (a:Int)^^^BitVec.ofInt 32 (b:Int)).toNat=_;rw[q280,iD 32 a ha,iD 32 b hb]
 unfold gl;simp only[h4];exact congrArg _ (wrap_u32 (by omega) (by omega))
theorem zb {a b:Nat} (ha:a<4294967296) (hb:b<4294967296):gl .and .u32 (a:Int) (b:Int)=.int .u32 ((a&&&b:Nat):Int):=by
 have hx:a&&&b<4294967296:=q262 Nat.and_le_left ha;have h4:(BitVec.ofInt IntKind.u32.bits (a:Int)&&&BitVec.ofInt IntKind.u32.bits (b:Int)).toNat=a&&&b:=by show(BitVec.ofInt 32 (a:Int)&&&BitVec.ofInt 32 (b:Int)).toNat=_;rw[BitVec.toNat_and,iD 32 a ha,iD 32 b hb]
 unfold gl;simp only[h4];exact congrArg _ (wrap_u32 (by omega) (by omega))
theorem OA {a b:Nat} (ha:a<256) (hb:b<256):gl .xor .u8 (a:Int) (b:Int)=.int .u8 ((a^^^b:Nat):Int):=by
 have hx:a^^^b<256:=Nat.xor_lt_two_pow (n:=8) ha hb;have h4:(BitVec.ofInt IntKind.u8.bits (a:Int)^^^BitVec.ofInt IntKind.u8.bits (b:Int)).toNat=a^^^b:=by show(BitVec.ofInt 8 (a:Int)^^^BitVec.ofInt 8 (b:Int)).toNat=_;rw[q280,iD 8 a ha,iD 8 b hb]
 unfold gl;simp only[h4];exact congrArg _ ((wrap_u8 _).trans (by omega))
def dF (l:List Int):List AV:=l.map fun n=>.pv (.int .u32 n)
def xZ (l:List Int):List PV:=l.map fun n=>.int .u32 n
@[simp] theorem GO (l:List Int):(dF l).length=l.length:=by simp[dF]
@[simp] theorem Wy (l:List Int) (i:Nat) (n:Int):(dF l).set i (.pv (.int .u32 n))=dF (l.set i n):=by simp[dF,q217]
@[simp] theorem Vr (l:List Int) (n:Nat):(dF l).take n=dF (l.take n):=by simp[dF,q124]
@[simp] theorem Vw (l:List Int) (n:Nat):(dF l).drop n=dF (l.drop n):=by simp[dF,q233]
@[simp] theorem Fg:∀l:List Int,fB (dF l)=true|[]=>rfl|n::l=>by have:=Fg l;unfold dF at this ⊢;simp only[q71,fB,ez,q264];exact this
theorem rN {l m:List Int} (h:l.length≤m.length):bY (dF l) 0 (dF m)=dF m:=by simp[bY,q163,GO,h]
@[simp] theorem BT:∀l:List Int,lX (dF l)=true|[]=>rfl|n::l=>by have:=BT l;unfold dF at this ⊢;simp only[q71,lX,iL,q264];exact this
@[simp] theorem Ek (d:Nat):∀(l:List Int) (j:Nat),fZ (lP d) j (dF l)=dF l|[],_=>rfl|n::l,j=>by have:=Ek d l (j+1);unfold dF at this ⊢;simp only[q71,fZ,this];rfl
@[simp] theorem I0:∀(l:List Int) (j:Nat),fY j (dF l)=[]|[],_=>rfl|n::l,j=>I0 l (j+1)
@[simp] theorem DI (P:Program) (aa:Nat→Option AO):∀l:List Int,yq P aa (dF l) (dF l)|[]=>trivial|n::l=>⟨⟨rfl,rfl⟩,DI P aa l⟩
@[simp] theorem Hp:∀l m:List Int,u7 (dF l) (dF m)=[]|[],[]=>rfl|[],_::_=>rfl|_::_,[]=>rfl|n::l,k::m=>Hp l m
@[simp] theorem Jw:∀(l:List Int) (j:Nat),qc j (dF l)=[]|[],_=>rfl|n::l,j=>Jw l (j+1)
@[simp] theorem Gu (aa:Nat→Option AO):∀l:List Int,ic aa (dF l)=some (xZ l)|[]=>rfl|n::l=>by have:=Gu aa l;unfold dF at this ⊢;simp only[q71,ic,eN,this];rfl
@[simp] theorem Fx (os:List (Nat×AO)):∀l:List Int,gh os (dF l)|[]=>trivial|n::l=>⟨trivial,Fx os l⟩
def zc:Value:=.int .u32 0
theorem G5 (n:Nat):(List.replicate n (Value.int .u32 0)).all (·.oneCell')=true:=by rw[q90];intro v hv;rw[q202 hv];rfl
theorem Gg (n:Nat):(List.replicate n (Value.int .u32 0)).map cv=dF (List.replicate n 0):=by simp only[List.map_replicate,dF];rfl
def oo (i:Nat):List Int:=(List.range 256).map fun j=>if j<i then((S8 j:Nat):Int) else 0
@[simp] theorem Hu (i:Nat):(oo i).length=256:=by simp[oo]
theorem qE:oo 0=List.replicate 256 0:=by
 apply q282;·simp
 ·intro k h1 h2;rw[List.getElem_replicate];simp[oo]
theorem GS (h:i<256):(oo i).set i ((S8 i:Nat):Int)=oo (i+1):=by
 apply q282;·simp
 ·intro k h1 h2;rw[List.getElem_set];simp only[oo,List.getElem_map,List.getElem_range];by_cases hk:i=k;·subst hk;simp
  ·rw[if_neg hk];by_cases hl:k<i;·simp[hl,show k<i+1 from by omega]
   ·simp[hl,show¬k<i+1 from by omega]
def tab:List Int:=oo 256
theorem LM:tab.length=256:=Hu 256
theorem RQ {j:Nat} (h:j<256):(xZ tab).drop j=.int .u32 ((S8 j:Nat):Int)::xZ (tab.drop (j+1)):=by
 have hl:j<(xZ tab).length:=by simp[xZ,tab];exact h
 rw[q88 hl];congr 1;·simp[xZ,tab,oo,h]
 ·simp[xZ,q233]
def QK:List AV→Option (Prop×AV)|[]=>some (True,.agg (dF tab))|_=>none
@[simp] theorem GTab_eq:QK []=some (True,.agg (dF tab)):=rfl
theorem Kf (n:Nat) (h:n<4294967296):gl .and .u32 (n:Int) 1=.int .u32 ((n%2:Nat):Int):=by have:=zb (a:=n) (b:=1) h (by omega);rw[Nat.and_one_is_mod]at this;exact this
def mB (n:Nat):Nat:=if n%2=1 then 4294967295 else 0
def pB (n:Nat):Nat:=if n%2=1 then 2197175160 else 0
theorem KX (n:Nat):IntKind.u32.wrap (-((n:Int)%2))=((mB n:Nat):Int):=by
 unfold mB;have e:((n:Int)%2)=((n%2:Nat):Int):=by omega
 rw[e];rcases q140 n with h|h<;>rw[h]<;>decide
theorem HJ (n:Nat):gl .and .u32 2197175160 ((mB n:Nat):Int)=.int .u32 ((pB n:Nat):Int):=by
 unfold mB pB;rcases q140 n with h|h<;>rw[h];·exact zb (a:=2197175160) (b:=0) (by omega) (by omega)
 ·exact(zb (a:=2197175160) (b:=4294967295) (by omega) (by omega)).trans (congrArg _ (by decide))
theorem Qs (n:Nat):(n:Int).fdiv (2^min 1 IntKind.u32.bits)=(n:Int)/2:=by show(n:Int).fdiv 2=_;exact q139 _ (by omega)
theorem HL (n:Nat):(n:Int).fdiv (2^min 8 IntKind.u32.bits)=(n:Int)/256:=by show(n:Int).fdiv 256=_;exact q139 _ (by omega)
theorem Rs (n:Nat) {k:Nat} (hk:k≤8):(n:Int).fdiv (2^min k IntKind.u8.bits)=((n/2^k:Nat):Int):=by have hp:(0:Int)≤2^k:=Int.le_of_lt (Int.pow_pos (by omega));rw[show min k IntKind.u8.bits=k from q120 hk,q139 _ hp];simp
theorem ZK:aJ Tryz.prog 199 QK:=by
 intro ys φ r h hφ;unfold QK at h;split at h
 ·cases h;refine ak ah (by kernel_rfl) (by conv=>lhs;reduce) (by simp) ?_;have hz1:=G5 256;have hz2:=Gg 256;generalize List.replicate 256 (Value.int .u32 0)=R at hz1 hz2;rw[←qE]at hz2;simp(config := { maxSteps := 3000000 }) [hz1,hz2];refine aj (fun i:Nat=>i≤256) (fun i=>⟨[(0,.ptr 0 0),(1,.ptr 1 0),(4,.pv (.int .i64 i))],[(0,.box (dF (oo 0))),(1,.box (dF (oo i)))]⟩) (fun i=>256-i) [] 0 (by simp) ?_ ?_;·simp;rw[qE];rfl
  ·rintro i hi;have w2:IntKind.i64.wrap ((i:Int)+1)=(i:Int)+1:=wrap_i64 (by omega);by_cases hlt:i<256
   ·have hlt':(i:Int)<256:=by omega
    have w3:IntKind.u32.wrap (i:Int)=(i:Int):=wrap_u32 (by omega) (by omega);simp(config := { maxSteps := 3000000 }) [w2,w3,hlt,hlt'];refine aj (fun k:Nat=>k≤8) (fun k=>⟨[(0,.ptr 0 0),(1,.ptr 1 0),(2,.pv (.int .i64 i)),(3,.pv (.int .u32 ((F2 k i:Nat):Int))),(4,.pv (.int .i64 i)),(9,.pv (.int .i64 k))],[(0,.box (dF (oo 0))),(1,.box (dF (oo i)))]⟩) (fun k=>8-k) [] 0 (by simp) ?_ ?_;·simp[F2]
    ·rintro k hk;have w4:IntKind.i64.wrap ((k:Int)+1)=(k:Int)+1:=wrap_i64 (by omega);by_cases hkl:k<8
     ·have hkl':(k:Int)<8:=by omega
      have hs:F2 k i<4294967296:=HR (by omega) k;generalize hc:F2 k i=c at hs;have f1:=Kf c hs;have f2:=KX c;have f3:=HJ c;have f5:=Qs c;have f4:gl .xor .u32 ((c:Int)/2) ((pB c:Nat):Int)=.int .u32 ((S1 c:Nat):Int):=jJ (a:=c/2) (b:=pB c) (by omega) (by unfold pB;split<;>omega);simp(config := { maxSteps := 3000000 }) [w4,hkl',f1,f2,f3,f4,f5];exact⟨k+1,by omega,⟨by simp only[F2,hc],by omega⟩,by omega⟩
     ·have hk8:k=8:=by omega
      subst hk8;have hS:F2 8 i=S8 i:=NB i;simp(config := { maxSteps := 3000000 }) [w2,hlt',hS,GS hlt];rw[if_pos hlt];exact⟨trivial,i+1,by omega,⟨by omega,⟨fun h=>absurd h q290,rfl⟩⟩,by omega⟩
   ·have hi6:i=256:=by omega
    subst hi6;simp(config := { maxSteps := 3000000 }) [rN];have ht:(oo 256).take 256=tab:=List.take_of_length_le (by simp);rw[ht];exact DI _ _ _
 ·cases h
@[simp] def Yc:List AV→Option (Prop×AV)|[.rp ps,.pv (.int .u32 c),.pv (.ro b)]=>(bytesOf b).map fun l=>(ps=xZ tab∧0≤c∧c<4294967296∧l.length≤1000000000,.pv (.int .u32 ((vI c.toNat l:Nat):Int)))|_=>none
theorem gK:∀{rows:List (List PV)}{l:List UInt8},bytesOf rows=some l→rows=bytesRow l
 |[],l,h=>by simp[bytesOf]at h;subst h;rfl|r::rows,l,h=>by
  simp only[bytesOf,q63,q0]at h;obtain⟨c,hc,m,hm,rfl⟩:=h;have ih:=gK hm;unfold byteOf at hc;split at hc
  ·rename_i n;split at hc
   ·rename_i hn;simp only[qr]at hc;subst hc;have e:((UInt8.ofNat n.toNat).toNat:Int)=n:=by rw[UInt8.toNat_ofNat'];omega
    rw[ih];simp only[bytesRow,q71,e]
   ·cases hc
  ·cases hc
theorem bytes_at {l:List UInt8} (h:i<l.length):rowAt (bytesRow l) (i:Int)=[.int .u8 ((l[i].toNat:Nat):Int)]:=by simp[rowAt,bytesRow,h]
theorem Xj:aJ Tryz.prog 200 Yc:=by
 intro ys φ r h hφ;unfold Yc at h;split at h
 ·rename_i ps c0 rb;obtain⟨b,hb,h⟩:=q0.1 h;cases h;obtain⟨rfl,hc0,hc1,hbl⟩:=hφ;cases gK hb;obtain⟨c0,rfl⟩:∃m:Nat,c0=(m:Int):=⟨c0.toNat,by omega⟩;rw[q68];have hc2:c0<4294967296:=by omega
  refine ak ah (by kernel_rfl) (by conv=>lhs;reduce) (by simp) ?_;have x1:=jJ (a:=c0) (b:=4294967295) hc2 (by omega);have x1':gl .xor .u32 (c0:Int) 4294967295=.int .u32 ((c0^^^4294967295:Nat):Int):=x1;have hq:c0^^^4294967295<4294967296:=Nat.xor_lt_two_pow (n:=32) hc2 (by omega);generalize hC:c0^^^4294967295=C at x1' hq;simp(config := { maxSteps := 3000000 }) [x1'];refine aj (fun i:Nat=>i≤b.length) (fun i=>⟨[(0,.rp (xZ tab)),(1,.pv (.int .u32 ((lk C (b.take i):Nat):Int))),(11,.pv (.ro (bytesRow b))),(12,.pv (.int .i64 b.length)),(13,.pv (.int .i64 i))],[]⟩) (fun i=>b.length-i) [] 0 (by simp) ?_ ?_;·simp[lk]
  ·rintro i hi;have w2:IntKind.i64.wrap ((i:Int)+1)=(i:Int)+1:=wrap_i64 (by omega);have hlt4:=pS hq (b.take i);by_cases hlt:i<b.length
   ·have hlt':(i:Int)<(b.length:Int):=by omega
    have r1:=bytes_at hlt;have hs:lk C (b.take (i+1))=Nb (lk C (b.take i)) b[i].toNat:=by rw[q62 hlt,wI]
    generalize lk C (b.take i)=c at hlt4 hs;have hx:b[i].toNat<256:=b[i].toNat_lt;generalize b[i].toNat=x at hx r1 hs;have w3:IntKind.u8.wrap (c:Int)=((c%256:Nat):Int):=(wrap_u8 _).trans (by omega);have w3':IntKind.u8.wrap (c:Int)=(c:Int)%256:=wrap_u8 _;have x2:gl .xor .u8 ((c:Int)%256) (x:Int)=.int .u8 ((c%256^^^x:Nat):Int):=OA (a:=c%256) (b:=x) (by omega) hx;have hj:c%256^^^x<256:=Nat.xor_lt_two_pow (n:=8) (by omega) hx;have x4:gl .xor .u32 ((S8 (c%256^^^x):Nat):Int) ((c:Int)/256)=.int .u32 ((Nb c x:Nat):Int):=jJ (a:=S8 (c%256^^^x)) (b:=c/256) (L1 (by omega)) (by omega);generalize hJ:c%256^^^x=j at x2 hj x4;have hj':(j:Int)<256:=by omega
    have t1:=RQ hj;have f5:=HL c;simp(config := { maxSteps := 3000000 }) [w2,w3',hlt',r1,x2,hj',t1,f5,x4];exact⟨i+1,by omega,⟨by rw[hs],by omega⟩,by omega⟩
   ·have:i=b.length:=by omega
    subst this;have x3:gl .xor .u32 ((lk C b:Nat):Int) 4294967295=.int .u32 ((vI c0 b:Nat):Int):=by unfold vI;rw[hC];exact jJ (a:=lk C b) (b:=4294967295) (pS hq b) (by omega)
    simp(config := { maxSteps := 3000000 }) [x3,q104]
 ·cases h
theorem Yy (c:Nat) (hc:c<4294967296):sO Tryz.prog 159 [] [.pv (.int .u32 c)] [] (.pv (.int .u32 ((S1 c:Nat):Int))):=by
 refine ak ah (by kernel_rfl) (by conv=>lhs;reduce) (by simp) ?_;rcases q140 c with h|h
 ·have e:(c:Int).tmod 2=0:=by rw[q178 (by omega)];omega
  have q:(c:Int).tdiv 2=(c:Int)/2:=q146 (by omega);have q1:((S1 c:Nat):Int)=(c:Int)/2:=by unfold S1;rw[h];simp
  have w:=wrap_u32 (n:=(c:Int)/2) (by omega) (by omega);simp(config := { maxSteps := 3000000 }) [e,q,q1,w]
 ·have e:(c:Int).tmod 2=1:=by rw[q178 (by omega)];omega
  have q:(c:Int).tdiv 2=(c:Int)/2:=q146 (by omega);have w:=wrap_u32 (n:=(c:Int)/2) (by omega) (by omega);have x1:gl .xor .u32 ((c:Int)/2) 2197175160=.int .u32 ((S1 c:Nat):Int):=by unfold S1;rw[h,if_pos rfl];exact jJ (a:=c/2) (b:=2197175160) (by omega) (by omega)
  simp(config := { maxSteps := 3000000 }) [e,q,w,x1]
@[simp] def aah:List AV→Option (Prop×AV)|[.pv (.int .u32 c)]=>some (0≤c∧c<4294967296,.pv (.int .u32 ((S1 c.toNat:Nat):Int)))|_=>none
theorem Ry:aJ Tryz.prog 159 aah:=by
 intro ys φ r h hφ;unfold aah at h;split at h;·rename_i c;cases h;obtain⟨c,rfl⟩:∃m:Nat,c=(m:Int):=⟨c.toNat,by omega⟩;rw[q68];exact Yy c (by omega)
 ·cases h
@[simp] def LU:List AV→Option (Prop×AV)|[.pv (.int .u32 c),.pv (.ro b)]=>(bytesOf b).map fun l=>(0≤c∧c<4294967296∧l.length≤1000000000,.pv (.int .u32 ((vI c.toNat l:Nat):Int)))|_=>none
theorem Rd:aJ Tryz.prog 123 LU:=by
 intro ys φ r h hφ;unfold LU at h;split at h
 ·rename_i c0 rb;obtain⟨b,hb,h⟩:=q0.1 h;cases h;obtain⟨hc0,hc1,hbl⟩:=hφ;cases gK hb;obtain⟨c0,rfl⟩:∃m:Nat,c0=(m:Int):=⟨c0.toNat,by omega⟩;rw[q68];have hc2:c0<4294967296:=by omega
  refine ak (ag Ry ah) (by kernel_rfl) (by conv=>lhs;reduce) (by simp) ?_;have x1:gl .xor .u32 (c0:Int) 4294967295=.int .u32 ((c0^^^4294967295:Nat):Int):=jJ (a:=c0) (b:=4294967295) hc2 (by omega);have hq:c0^^^4294967295<4294967296:=Nat.xor_lt_two_pow (n:=32) hc2 (by omega);generalize hC:c0^^^4294967295=C at x1 hq;simp(config := { maxSteps := 3000000 }) [x1];refine aj (fun i:Nat=>i≤b.length) (fun i=>⟨[(0,.pv (.int .u32 ((lk C (b.take i):Nat):Int))),(1,.pv (.ro (bytesRow b))),(5,.pv (.int .i64 i))],[]⟩) (fun i=>b.length-i) [] 0 (by simp) ?_ ?_;·simp[lk]
  ·rintro i hi;have w2:IntKind.i64.wrap ((i:Int)+1)=(i:Int)+1:=wrap_i64 (by omega);have hlt4:=pS hq (b.take i);by_cases hlt:i<b.length
   ·have hlt':(i:Int)<(b.length:Int):=by omega
    have r1:=bytes_at hlt;have hs:lk C (b.take (i+1))=Nb (lk C (b.take i)) b[i].toNat:=by rw[q62 hlt,wI]
    generalize lk C (b.take i)=c at hlt4 hs;have hx:b[i].toNat<256:=b[i].toNat_lt;generalize b[i].toNat=x at hx r1 hs;simp(config := { maxSteps := 3000000 }) [hlt'];refine aj (fun k:Nat=>k≤8) (fun k=>⟨[(0,.pv (.int .u32 ((Fq c x k:Nat):Int))),(1,.pv (.ro (bytesRow b))),(5,.pv (.int .i64 i)),(6,.pv (.int .i64 k))],[]⟩) (fun k=>8-k) [] 0 (by simp) ?_ ?_;·simp[Fq]
    ·rintro k hk;have w4:IntKind.i64.wrap ((k:Int)+1)=(k:Int)+1:=wrap_i64 (by omega);by_cases hkl:k<8
     ·have hkl':(k:Int)<8:=by omega
      have hd:=Hz (x:=x) hlt4 k;have he:Fq c x (k+1)=S1 (Fq c x k^^^(x/2^k)%2):=rfl;have hD:x/2^k<256:=q262 (Nat.div_le_self _ _) hx;have hf:=Rs x (k:=k) (by omega);generalize x/2^k=D at hf hD he;have w5:IntKind.u32.wrap (D:Int)=(D:Int):=wrap_u32 (by omega) (by omega);have w6:(D:Int).tmod 2=((D%2:Nat):Int):=by rw[q178 (by omega)];omega
      have hE:D%2<2:=by omega
      generalize D%2=E at w6 hE he;generalize Fq c x k=y at hd he;have x2:=jJ (a:=y) (b:=E) hd (by omega);have hz:y^^^E<4294967296:=Nat.xor_lt_two_pow (n:=32) hd (by omega);generalize y^^^E=z at x2 hz he;have hz':(z:Int)<4294967296:=by omega
      have hk0:(0:Int)≤(k:Int):=by omega
      simp(config := { maxSteps := 3000000 }) [w4,hkl',hlt',r1,hf,w5,w6,x2,hz',hz,hk0];exact⟨k+1,by omega,⟨by rw[he],by omega⟩,by omega⟩
     ·have hk8:k=8:=by omega
      subst hk8;simp(config := { maxSteps := 3000000 }) [w2];exact⟨i+1,by omega,⟨by rw[hs,QX hx],by omega⟩,by omega⟩
   ·have:i=b.length:=by omega
    subst this;have x3:gl .xor .u32 ((lk C b:Nat):Int) 4294967295=.int .u32 ((vI c0 b:Nat):Int):=by unfold vI;rw[hC];exact jJ (a:=lk C b) (b:=4294967295) (pS hq b) (by omega)
    simp(config := { maxSteps := 3000000 }) [x3,q104]
 ·cases h
def Ej:List AV→Option (Prop×AV)|[.pv (.ro [[.ro b]])]=>(bytesOf b).map fun l=>(l.length≤1000000000,.pv (.int .u32 ((pj l:Nat):Int)))|_=>none
@[simp] theorem JQ (b:List (List PV)):Ej [.pv (.ro [[.ro b]])]=(bytesOf b).map fun l=>(l.length≤1000000000,.pv (.int .u32 ((pj l:Nat):Int))):=rfl
theorem JR (l:List UInt8):pj l<4294967296:=KE (by omega) l
theorem dL:∀l:List UInt8,bytesOf (bytesRow l)=some l|[]=>rfl|c::l=>by have ih:=dL l;have h:=c.toNat_lt;simp only[bytesRow,q71]at ih ⊢;simp only[bytesOf,ih,byteOf];rw[if_pos (by omega)];simp
theorem c_Sum:aJ Tryz.prog 180 Ej:=by
 intro ys φ r h hφ;unfold Ej at h;split at h
 ·rename_i rb;obtain⟨b,hb,h⟩:=q0.1 h;cases h;cases gK hb;have hbb:=dL b;refine ak (ag ZK (ag Xj ah)) (by kernel_rfl) (by conv=>lhs;reduce) (by simp) ?_;have hz1:=G5 256;have hz2:=Gg 256;generalize List.replicate 256 (Value.int .u32 0)=R at hz1 hz2;rw[←qE]at hz2;have hsp:bY (dF (oo 0)) 0 (dF tab)=dF tab:=rN (by simp[tab]);have ht:=LM;have htr:Gk (.agg (dF tab))=false:=by rw[Ef,q141];intro x hx;simp only[dF,q84]at hx;obtain⟨n,_,rfl⟩:=hx;simp
  simp(config := { maxSteps := 3000000 }) [-Ef,htr,hz1,hz2,hsp,ht];refine aj (fun i:Nat=>i≤1) (fun i=>⟨[(3,.ptr 3 0),(4,.pv (.int .u32 (if i=0 then 0 else((pj b:Nat):Int)))),(8,.pv (.ro [[.ro (bytesRow b)]])),(9,.pv (.int .i64 1)),(10,.pv (.int .i64 i))],[(3,.box (dF tab))]⟩) (fun i=>1-i) [] 0 (by simp) ?_ ?_;·simp
  ·rintro i hi;by_cases h0:i=0;·subst h0;have hr:rowAt [[PV.ro (bytesRow b)]] 0=[.ro (bytesRow b)]:=rfl;have hs:vI 0 b=pj b:=rfl;simp(config := { maxSteps := 3000000 }) [hr,hbb,hφ,hs];exact⟨1,by omega,⟨fun h=>absurd h (by omega),by decide⟩,by omega⟩
   ·have:i=1:=by omega
    subst this;simp(config := { maxSteps := 3000000 })
 ·cases h
theorem Po:aJ Tryz.prog 78 Ej:=by
 intro ys φ r h hφ;unfold Ej at h;split at h
 ·rename_i rb;obtain⟨b,hb,h⟩:=q0.1 h;cases h;cases gK hb;have hbb:=dL b;refine ak (ag Rd ah) (by kernel_rfl) (by conv=>lhs;reduce) (by simp) ?_;simp(config := { maxSteps := 3000000 });refine aj (fun i:Nat=>i≤1) (fun i=>⟨[(0,.pv (.ro [[.ro (bytesRow b)]])),(3,.own 3),(4,.pv (.int .i64 i))],[(3,.arr 5 (if i=0 then[] else bytesRow b))]⟩) (fun i=>1-i) [] 0 (by simp) ?_ ?_;·simp
  ·rintro i hi;by_cases h0:i=0;·subst h0;have hr:rowAt [[PV.ro (bytesRow b)]] 0=[.ro (bytesRow b)]:=rfl;simp(config := { maxSteps := 3000000 }) [hr,ax];refine⟨⟨by omega,by omega,?_⟩,1,by omega,⟨by decide,fun h=>absurd h (by omega)⟩,by omega⟩;intro q hq;simp only[bytesRow,q84]at hq;obtain⟨c,_,rfl⟩:=hq;rfl
   ·have:i=1:=by omega
    subst this;have hs:vI 0 b=pj b:=rfl;simp(config := { maxSteps := 3000000 }) [hbb,hφ,hs]
 ·cases h
@[simp] def GOf:List AV→Option (Prop×AV)|[.pv (.ro b)]=>(bytesOf b).map fun l=>(l.length≤1000000000,.agg [.pv (.int .u64 l.length),.pv (.int .u64 ((pj l:Nat):Int))])|_=>none
def km (s:Nat):List UInt8:=[s.toUInt8,(s/256).toUInt8,(s/65536).toUInt8,(s/16777216).toUInt8]
def zO (k:UInt8) (b:List UInt8):List UInt8:=k::cW (b.length:Int)++b
def FR (k:UInt8) (b:List UInt8):List UInt8:=zO k b++km (pj (zO k b))
theorem w8 (n:Nat):IntKind.u8.wrap (n:Int)=(n.toUInt8.toNat:Int):=by rw[wrap_u8];simp
theorem by1 (b:List UInt8):∀r∈bytesRow b,r.length=1:=by intro r hr;simp only[bytesRow,q84]at hr;obtain⟨c,_,rfl⟩:=hr;rfl
theorem zg (b:List UInt8) (h:b.length≤65535):(cW (b.length:Int)).length≤10:=by
 show(fC b.length).length≤10;by_cases h1:b.length<128;·rw[df h1];simp
 ·rw[jb h1];by_cases h2:b.length/128<128;·rw[df h2];simp
  ·rw[jb h2,df (by omega)];simp
theorem sP (k:UInt8) (b:List UInt8) (h:b.length≤65535):(zO k b).length≤b.length+11:=by have:=zg b h;simp only[zO,q74,q79];omega
@[simp] noncomputable def Xe:List AV→Option (Prop×AV)|[.pv (.ro b)]=>(dec fM b).map fun l=>(l.length≤1000000000,.fr 5 (bytesRow (km (pj l))))|_=>none
theorem WQ:aJ Tryz.prog 158 Xe:=by
 intro ys φ r h hφ;unfold Xe at h;split at h
 ·obtain⟨b,hb,h⟩:=q0.1 h;cases h;cases en hb;refine ak (ag c_Sum ah) (by kernel_rfl) (by conv=>lhs;reduce) (by simp) ?_;have hbb:=dL b;have hl:b.length≤1000000000:=hφ;generalize hs:pj b=s;have f1:(s:Int).fdiv (2^min 8 IntKind.u32.bits)=((s/256:Nat):Int):=by rw[HL];simp
  have f2:(s:Int).fdiv (2^min 16 IntKind.u32.bits)=((s/65536:Nat):Int):=by show(s:Int).fdiv 65536=_;rw[q139 _ (by omega)];simp
  have f3:(s:Int).fdiv (2^min 24 IntKind.u32.bits)=((s/16777216:Nat):Int):=by show(s:Int).fdiv 16777216=_;rw[q139 _ (by omega)];simp
  simp(config := { maxSteps := 3000000 }) [hbb,hl,hs];rw[f1,f2,f3,w8,w8,w8,w8];rfl
 ·cases h
structure Fm where
 k:UInt8
 b:List UInt8
def nq (f:Fm):List PV:=[.int .u8 (f.k.toNat:Int),.ro (bytesRow f.b)]
theorem bytes_inj {a b:List UInt8} (h:bytesRow a=bytesRow b):a=b:=by have h1:=dL a;rw[h,dL]at h1;cases h1;rfl
theorem HB:∀a b,nq a=nq b→a=b:=by rintro⟨k,b⟩ ⟨k',b'⟩ h;simp only[nq,q110,PV.int.injEq,PV.ro.injEq,true_and,and_true]at h;have hk:k=k':=q244.1 (by omega);rw[hk,bytes_inj h.2]
def lQ (l:List Fm):List (List PV):=l.map nq
@[simp] theorem LR (l:List Fm):(lQ l).length=l.length:=by simp[lQ]
theorem GG {l:List Fm} (h:i<l.length):rowAt (lQ l) (i:Int)=[.int .u8 (l[i].k.toNat:Int),.ro (bytesRow l[i].b)]:=by simp[rowAt,lQ,h,nq]
@[simp] theorem rq (l:List Fm):dec nq (lQ l)=some l:=jH HB l
theorem nC {rows:List (List PV)}{l:List Fm} (h:dec nq rows=some l):rows=lQ l:=jz h
@[simp] theorem dec_F1 (k:UInt8) (b:List UInt8):dec nq [[.int .u8 (k.toNat:Int),.ro (bytesRow b)]]=some [⟨k,b⟩]:=rq [⟨k,b⟩]
@[simp] noncomputable def Gfr (F:UInt8→List UInt8→List UInt8):List AV→Option (Prop×AV)|[.agg [.pv k,.pv b]]=>(dec nq [[k,b]]).map fun l=>(((l.map Fm.b).getD 0 []).length≤65535,.fr 5 (bytesRow (l.flatMap fun f=>F f.k f.b)))|_=>none
theorem ka {k b:PV}{l:List Fm} (h:dec nq [[k,b]]=some l):∃f:Fm,l=[f]∧k=.int .u8 (f.k.toNat:Int)∧b=.ro (bytesRow f.b):=by have h2:=nC h;match l,h2 with|[f],h2=>simp only[lQ,q71,q117,q110,and_true,nq]at h2;exact⟨f,rfl,h2.1,h2.2⟩
theorem XO:aJ Tryz.prog 157 (Gfr fun k b=>k::cW (b.length:Int)):=by
 intro ys φ r h hφ;unfold Gfr at h;split at h;·obtain⟨l,hk,h⟩:=q0.1 h;cases h;obtain⟨⟨k,b⟩,rfl,rfl,rfl⟩:=ka hk;have hl:b.length≤65535:=hφ;have hv:=zg b hl;refine ak (ag zT ah) (by kernel_rfl) (by conv=>lhs;reduce) (by simp) ?_;have w:IntKind.u64.wrap (b.length:Int)=(b.length:Int):=wrap_u64 (by omega);simp(config := { maxSteps := 3000000 }) [w,ax];refine⟨by omega,⟨by omega,by omega,by1 _⟩,rfl⟩
 ·cases h
theorem Wx:aJ Tryz.prog 121 (Gfr FR):=by
 intro ys φ r h hφ;unfold Gfr at h;split at h
 ·obtain⟨l,hk,h⟩:=q0.1 h;cases h;obtain⟨⟨k,b⟩,rfl,rfl,rfl⟩:=ka hk;have hl:b.length≤65535:=hφ;have hv:=zg b hl;refine ak (ag XO (ag WQ ah)) (by kernel_rfl) (by conv=>lhs;reduce) (by simp) ?_;have hf:=sP k b hl;have j1:bytesRow (k::cW (b.length:Int))++bytesRow b=bytesRow (zO k b):=by simp[bytesRow,zO]
  have j2:bytesRow (zO k b)++bytesRow (km (pj (zO k b)))=bytesRow (FR k b):=by simp[bytesRow,FR]
  have hl2:(zO k b).length≤1000000000:=by omega
  have h4:∀s,(km s).length=4:=fun s=>rfl;simp(config := { maxSteps := 3000000 }) [hl,j1,j2,hl2,h4,ax];exact⟨⟨by omega,by omega,by1 _⟩,by simp[km,bytesRow,bp,il],by omega,by omega,by1 _⟩
 ·cases h
@[simp] noncomputable def GfP:List AV→Option (Prop×AV)|[.agg [.pv k,.pv b]]=>(dec nq [[k,b]]).map fun l=>(((l.map Fm.b).getD 0 []).length≤65535,.aO [.fr 5 (bytesRow (l.flatMap fun f=>FR f.k f.b)),.pv (.int .i64 0)])|_=>none
theorem c_fP:aJ Tryz.prog 76 GfP:=by
 intro ys φ r h hφ;unfold GfP at h;split at h
 ·obtain⟨l,hk,h⟩:=q0.1 h;cases h;obtain⟨⟨k,b⟩,rfl,rfl,rfl⟩:=ka hk;have hl:b.length≤65535:=hφ;have hl2:¬(65535:Int)<(b.length:Int):=by omega
  have hl3:(b.length:Int)≤65535:=by omega
  refine ak (ag Wx ah) (by kernel_rfl) (by conv=>lhs;reduce) (by simp) ?_;simp(config := { maxSteps := 3000000 }) [hl,hl2,hl3]
 ·cases h
def pz (l:List Fm):List UInt8:=l.flatMap fun f=>FR f.k f.b
theorem DT (k:UInt8) (b:List UInt8) (h:b.length≤65535):(FR k b).length≤66000:=by have:=sP k b h;show(zO k b++km _).length≤_;rw[q74];show _+4≤_;omega
theorem AW:∀(l:List Fm),(∀f∈l,f.b.length≤65535)→(pz l).length≤l.length*66000|[],_=>by simp[pz]|f::l,h=>by have ih:=AW l fun g hg=>h g (by simp[hg]);have h1:=DT f.k f.b (h f (by simp));simp only[pz,q106,q74,q79]at ih ⊢;omega
@[simp] noncomputable def GfJ:List AV→Option (Prop×AV)|[.pv (.ro a)]=>(dec nq a).map fun l=>(l.length≤1000∧(∀f∈l,f.b.length≤65535),.aO [.fr 5 (bytesRow (pz l)),.pv (.int .i64 0)])|_=>none
theorem c_fJ:aJ Tryz.prog 42 GfJ:=by
 intro ys φ r h hφ;unfold GfJ at h;split at h
 ·obtain⟨l,hk,h⟩:=q0.1 h;cases h;cases nC hk;obtain⟨hn,hb⟩:=hφ;refine ak (ag c_fP ah) (by kernel_rfl) (by conv=>lhs;reduce) (by simp) ?_;simp(config := { maxSteps := 3000000 });refine aj (fun i:Nat=>i≤l.length) (fun i=>⟨[(0,.pv (.ro (lQ l))),(2,.own 2),(3,.pv (.int .i64 0)),(4,.own 4),(9,.pv (.ro (lQ l))),(10,.pv (.int .i64 l.length)),(11,.pv (.int .i64 (i:Int)))],[(2,.arr 5 []),(4,.arr 5 (bytesRow (pz (l.take i))))]⟩) (fun i=>l.length-i) [] 0 (by simp) ?_ ?_;·simp[pz,bytesRow]
  ·intro i hi;have w2:IntKind.i64.wrap ((i:Int)+1)=(i:Int)+1:=wrap_i64 (by omega);by_cases hlt:i<l.length
   ·have r1:=GG hlt;have h1:=hb l[i] (q82 hlt);have h2:=DT l[i].k l[i].b h1;have h3:=AW (l.take i) fun f hf=>hb f (q107 hf);have h4:(l.take i).length≤1000:=by rw[q67];omega
    have j1:bytesRow (pz (l.take i))++bytesRow (FR l[i].k l[i].b)=bytesRow (pz (l.take (i+1))):=by rw[q62 hlt];simp only[pz,List.flatMap_append,q106,q234,q147,bytesRow,q148]
    simp(config := { maxSteps := 3000000 }) [w2,hlt,r1,h1,j1,ax];exact⟨⟨by omega,by omega,by1 _⟩,i+1,by omega,⟨by omega,rfl⟩,by omega⟩
   ·simp(config := { maxSteps := 3000000 }) [hlt];rw[List.take_of_length_le (by omega)]
 ·cases h
end Go.Proofs.YtlicclncicbajaaGreat.Ab
namespace Go.Proofs.YtlicclncicbajaaGreat.Ab
open Go Go.RowKit R
variable {n i:Nat}{f:FuncId}{l:List Vn}{W:World}{row:List PV}
def ou (v:Vn):Bool:=decide (v=tm v.n v.t)
def nB (l:List Vn):Bool:=l.all ou
def uu (l:List Vn):Int:=if nB l=true then-1 else(l.findIdx (fun v=>!ou v):Int)
@[simp] def aaz:List AV→Option (Prop×AV)|[.agg [.pv (.int .u64 n),.pv (.int .u64 b),.pv (.int .u64 p),.pv (.int .u64 i),.pv (.int .u64 s),.pv (.int .u64 z),.pv (.int .u64 m),.pv (.str t),.pv (.bool inl),.pv (.bool dm)]]=>some (True,.pv (.bool (!ou ⟨n,b,p,i,s,z,m,t,inl,dm⟩)))|_=>none
theorem YT:aJ Tryz.prog 153 aaz:=by
 intro ys φ r h hφ;unfold aaz at h;split at h;·rename_i n b p i s z m t inl dm;cases h;have he:=IC ⟨n,b,p,i,s,z,m,t,inl,dm⟩ (tm n t);simp only[tm]at he;have hp:ou ⟨n,b,p,i,s,z,m,t,inl,dm⟩=decide ((⟨n,b,p,i,s,z,m,t,inl,dm⟩:Vn)=⟨n,0,0,0,0,0,0,t,true,false⟩):=rfl;refine ak (ag Jr ah) (by kernel_rfl) (by conv=>lhs;reduce) (by simp) ?_;simp(config := { maxSteps := 3000000 }) [hp]
 ·cases h
theorem Du:fF Tryz.prog 153=true:=by kernel_rfl
@[simp] noncomputable def X0:List AV→Option (Prop×AV)|[.pv (.ro a),.bE f []]=>if f=153 then(dec dj a).map fun l=>(l.length≤1000000000,.pv (.int .i64 (uu l))) else none|_=>none
theorem XA:aJ Tryz.prog 178 X0:=by
 intro ys φ r h hφ;unfold X0 at h;split at h
 ·rename_i ra f;split at h
  ·rename_i hf;subst hf;obtain⟨a,ha,h⟩:=q0.1 h;cases h;cases aI ha;refine ak (ag YT ah) (by kernel_rfl) (by conv=>lhs;reduce) (by simp) ?_;simp(config := { maxSteps := 3000000 });refine aj (fun i:Nat=>i≤a.length∧∀v∈a.take i,ou v=true) (fun i=>⟨[(0,.pv (.ro (aH a))),(1,.bE 153 []),(7,.pv (.int .i64 a.length)),(8,.pv (.int .i64 i))],[]⟩) (fun i=>a.length-i) [] 0 (by simp) ?_ ?_;·simp
   ·rintro i ⟨hi,ht⟩;have w2:IntKind.i64.wrap ((i:Int)+1)=(i:Int)+1:=wrap_i64 (by omega);by_cases hlt:i<a.length;·have r1:=bj hlt;have he:(⟨a[i].n,a[i].b,a[i].p,a[i].i,a[i].s,a[i].z,a[i].m,a[i].t,a[i].inl,a[i].dm⟩:Vn)=a[i]:=rfl;cases hp:ou a[i]with
     |true=>
      simp(config := { maxSteps := 3000000 }) [w2,hlt,r1,Du,he,hp];refine⟨i+1,⟨by omega,fun v hv=>?_⟩,by omega,by omega⟩;rw[q62 hlt,q80]at hv;rcases hv with hv|hv;·exact ht v hv
      ·rw[q75]at hv;rw[hv];exact hp|false=>
      have hall:nB a=false:=by unfold nB;rw[q231];exact⟨a[i],q82 hlt,by simp[hp]⟩
      have hfi:a.findIdx (fun v=>!ou v)=i:=by
       rw[q166 hlt];refine⟨by simp[hp],fun j hj=>?_⟩;have:a[j]∈a.take i:=by rw[q91];exact⟨j,by omega,rfl⟩
       simp[ht _ this]
      have hox:uu a=i:=by unfold uu;rw[hall,if_neg (by simp),hfi]
      simp(config := { maxSteps := 3000000 }) [w2,hlt,r1,Du,he,hp,hox]
    ·rw[List.take_of_length_le (by omega)]at ht;have hall:nB a=true:=by unfold nB;rw[q90];exact ht
     have hox:uu a=-1:=by unfold uu;rw[hall,if_pos rfl]
     simp(config := { maxSteps := 3000000 }) [hlt,hox]
  ·cases h
 ·cases h
@[simp] noncomputable def GcfO:List AV→Option (Prop×AV)|[.pv (.ro a),.bE f []]=>if f=153 then(dec dj a).map fun l=>(l.length≤1000000000,.pv (.bool (!nB l))) else none|_=>none
theorem Wn:aJ Tryz.prog 154 GcfO:=by
 intro ys φ r h hφ;unfold GcfO at h;split at h
 ·rename_i ra f;split at h
  ·rename_i hf;subst hf;obtain⟨a,ha,h⟩:=q0.1 h;cases h;cases aI ha;refine ak (ag XA ah) (by kernel_rfl) (by conv=>lhs;reduce) (by simp) ?_;have hq:decide (0≤uu a)=!nB a:=by unfold uu;cases hall:nB a<;>simp
   simp(config := { maxSteps := 3000000 }) [hφ,hq]
  ·cases h
 ·cases h
def tU (v:Vn):List UInt8:=cW v.n++oU v.t
def jM (l:List Vn):List UInt8:=l.flatMap tU
def HE (l:List Vn):List UInt8:=cW l.length++jM l
def im (l:List Vn):List UInt8×Int:=if bS l=true∧nB l=true then(HE l,0) else([],2)
theorem uO {n:Int} (h:0≤n∧n≤18446744073709551615):(cW n).length≤10:=iK (by omega)
theorem wM {v:Vn} (h:lg v) (ht:v.t.length≤1000000):(tU v).length≤1000020:=by have h1:=uO (n:=v.n) ⟨h.1,h.2.1⟩;have h2:=iK (n:=v.t.length) (by omega);simp only[tU,oU,q74];omega
theorem uQ:∀{l:List Vn},(∀v∈l,lg v∧v.t.length≤1000000)→(jM l).length≤1000020*l.length|[],_=>by simp[jM]|n::l,h=>by have h1:=wM (h n (by simp)).1 (h n (by simp)).2;have h2:=uQ (l:=l) fun m hm=>h m (by simp[hm]);unfold jM at h2 ⊢;simp only[q106,q74,q79];omega
theorem AN (l:List Vn) (e:Vn):jM (l++[e])=jM l++tU e:=by simp[jM]
@[simp] noncomputable def ND:List AV→Option (Prop×AV)|[.pv (.ro a)]=>(dec dj a).map fun l=>(l.length≤1000∧(∀v∈l,lg v∧v.t.length≤1000000),.aO [.fr 5 (bytesRow (im l).1),.pv (.int .i64 (im l).2)])|_=>none
theorem O3:aJ Tryz.prog 114 ND:=by
 intro ys φ r h hφ;unfold ND at h;split at h
 ·rename_i ra;obtain⟨a,ha,h⟩:=q0.1 h;cases h;cases aI ha;obtain⟨hl,hn⟩:=hφ;refine ak (ag Ky (ag Wn (ag zT (ag HH ah)))) (by kernel_rfl) (by conv=>lhs;reduce) (by simp) ?_;have hl9:a.length≤1000000000:=by omega
  cases hr:bS a with|false=>
   have hp:im a=([],2):=by simp[im,hr]
   simp(config := { maxSteps := 3000000 }) [hl9,hr,hp]|true=>cases hall:nB a with
  |false=>
   have hp:im a=([],2):=by simp[im,hall]
   simp(config := { maxSteps := 3000000 }) [hl9,hr,hall,hp]|true=>
  have hp:im a=(HE a,0):=by simp[im,hr,hall]
  have wl:IntKind.u64.wrap (a.length:Int)=(a.length:Int):=wrap_u64 (by omega);have l0:(0:Int)≤(a.length:Int):=by omega
  have l1:(a.length:Int)≤18446744073709551615:=by omega
  have hv:=uO (n:=(a.length:Int)) ⟨by omega,by omega⟩;simp(config := { maxSteps := 3000000 }) [wl,l0,l1,hl9,hr,hall,hp];refine aj (fun i:Nat=>i≤a.length) (fun i=>⟨[(5,.own 19),(20,.pv (.ro (aH a))),(21,.pv (.int .i64 a.length)),(22,.pv (.int .i64 i))],[(19,.arr 5 (bytesRow (cW a.length++jM (a.take i))))]⟩) (fun i=>a.length-i) [] 0 (by simp) ?_ ?_;·simp[jM]
  ·rintro i hi;have w2:IntKind.i64.wrap ((i:Int)+1)=(i:Int)+1:=wrap_i64 (by omega);by_cases hlt:i<a.length
   ·have r1:=bj hlt;have ho:=hn _ (q82 hlt);have h1:=wM ho.1 ho.2;have h2:=uQ (l:=a.take i) fun n h=>hn n (q107 h);rw[q67]at h2;have h3:(tU a[i]).length=(cW a[i].n).length+(oU a[i].t).length:=by simp[tU]
    obtain⟨⟨o1,o2,_,_⟩,hm6⟩:=ho;simp(config := { maxSteps := 3000000 }) [w2,hlt,r1,ax,o1,o2,hm6];refine⟨⟨by omega,by omega,dq _⟩,⟨by omega,by omega,dq _⟩,i+1,by omega,⟨by omega,?_⟩,by omega⟩;rw[q62 hlt,AN];simp only[ct,tU,q96]
   ·simp(config := { maxSteps := 3000000 }) [hlt];rw[List.take_of_length_le (by omega)];rfl
 ·cases h
def oL (b:List UInt8) (q:Int):Vn×Int×Int:=if(cB b q).2.2≠0 then(v0,0,(cB b q).2.2) else if(vq b (cB b q).2.1).2.2≠0 then(v0,0,(vq b (cB b q).2.1).2.2) else(tm (cB b q).1 (vq b (cB b q).2.1).1,(vq b (cB b q).2.1).2.1,0)
def tX (b:List UInt8):Nat→Int→Int→List Vn×Int×Int|0,_,q=>([],q,0)|f+1,n,q=>if n≤0 then([],q,0) else if(oL b q).2.2≠0 then([],0,(oL b q).2.2) else if(tX b f (n-1) (oL b q).2.1).2.2≠0 then([],0,(tX b f (n-1) (oL b q).2.1).2.2) else((oL b q).1::(tX b f (n-1) (oL b q).2.1).1,(tX b f (n-1) (oL b q).2.1).2.1,0)
def finV (b:List UInt8) (R:List Vn×Int×Int):List Vn×Int:=if R.2.2≠0 then([],R.2.2) else if R.2.1=b.length∧bS R.1=true then(R.1,0) else([],2)
def HK (b:List UInt8):List Vn×Int:=if(cB b 0).2.2≠0 then([],(cB b 0).2.2) else finV b (tX b (b.length+1) (cB b 0).1 (cB b 0).2.1)
@[simp] noncomputable def GVpar (e:TypeId):List AV→Option (Prop×AV)|[.pv (.ro b)]=>(dec fM b).map fun l=>(l.length≤100000000,.aO [.fr e (aH (HK l).1),.pv (.int .i64 (HK l).2)])|_=>none
def gQ (b:Bool):Int:=if b=true then 1 else 0
theorem zm (b:Bool):cy (gQ b):=by cases b<;>simp[gQ,cy]
@[simp] def M5:List AV→Option (Prop×AV)|[.pv (.bool b)]=>some (True,.pv (.int .u64 (gQ b)))|_=>none
theorem Rn:aJ Tryz.prog 117 M5:=by
 intro ys φ r h hφ;unfold M5 at h;split at h;·rename_i b;cases h;refine ak ah (by kernel_rfl) (by conv=>lhs;reduce) (by simp) ?_;cases b<;>simp(config := { maxSteps := 3000000 }) [gQ]
 ·cases h
@[simp] noncomputable def Gn:List AV→Option (Prop×AV)|[.pv .nil,.pv (.int .i64 n)]=>some (0≤n∧n≤1000000,.fr 5 [])|_=>none
theorem LJ:nM Tryz.prog 155 Gn:=by
 intro ys φ r h hφ;unfold Gn at h;split at h
 ·rename_i n;cases h;obtain⟨h1,h2⟩:=hφ;have hinf:(Tryz.prog.info? 5).isSome=true:=by kernel_rfl
  have w0:IntKind.i64.wrap 0=0:=wrap_i64 (by omega);have w1:IntKind.i64.wrap n=n:=wrap_i64 (by omega);refine na ah (by kernel_rfl) (by conv=>lhs;reduce) (by simp) (by simp[cY,mn,iL]) (by simp) ?_;have hn0:¬n<0:=by omega
  by_cases h0:0<n;·simp(config := { maxSteps := 3000000 }) [hn0,h0,w0,w1,hinf];omega
  ·simp(config := { maxSteps := 3000000 }) [hn0,h0,w0,w1,hinf]
 ·cases h
@[simp] noncomputable def NG:List AV→Option (Prop×AV)|[.pv (.ro [[.ro a],[.ro b],[.ro c]])]=>(dec fM a).bind fun la=>(dec fM b).bind fun lb=>(dec fM c).map fun lc=>(la.length≤200000∧lb.length≤200000∧lc.length≤200000,.fr 5 (bytesRow (la++(lb++lc))))|_=>none
theorem RH:aJ Tryz.prog 116 NG:=by
 intro ys φ r h hφ;unfold NG at h;split at h
 ·rename_i ra rb rc;obtain⟨a,ha,h⟩:=q63.1 h;obtain⟨b,hb,h⟩:=q63.1 h;obtain⟨c,hc,h⟩:=q0.1 h;cases h;cases en ha;cases en hb;cases en hc;obtain⟨hla,hlb,hlc⟩:=hφ;have w1:IntKind.i64.wrap 1=1:=wrap_i64 (by omega);have w2:IntKind.i64.wrap 2=2:=wrap_i64 (by omega);have w3:IntKind.i64.wrap 3=3:=wrap_i64 (by omega);have wa:IntKind.i64.wrap (a.length:Int)=a.length:=wrap_i64 (by omega);have wab:IntKind.i64.wrap ((a.length:Int)+(b.length:Int))=(a.length:Int)+(b.length:Int):=wrap_i64 (by omega);have wabc:IntKind.i64.wrap ((a.length:Int)+(b.length:Int)+(c.length:Int))=(a.length:Int)+(b.length:Int)+(c.length:Int):=wrap_i64 (by omega);have r0:rowAt [[PV.ro (bytesRow a)],[PV.ro (bytesRow b)],[PV.ro (bytesRow c)]] 0=[.ro (bytesRow a)]:=rfl;have r1:rowAt [[PV.ro (bytesRow a)],[PV.ro (bytesRow b)],[PV.ro (bytesRow c)]] 1=[.ro (bytesRow b)]:=rfl;have r2:rowAt [[PV.ro (bytesRow a)],[PV.ro (bytesRow b)],[PV.ro (bytesRow c)]] 2=[.ro (bytesRow c)]:=rfl;have ga:¬((a.length:Int)<0):=by omega
  have gab:¬((a.length:Int)+(b.length:Int)<0):=by omega
  have gabc:¬((a.length:Int)+(b.length:Int)+(c.length:Int)<0):=by omega
  have gc:(a.length:Int)+(b.length:Int)+(c.length:Int)≤1000000:=by omega
  have gd:(0:Int)≤(a.length:Int)+(b.length:Int)+(c.length:Int):=by omega
  refine ak (eQ (p:=0) (k:=997) LJ (by kernel_rfl) ah) (by kernel_rfl) (by conv=>lhs;reduce) (by simp) ?_;simp(config := { maxSteps := 3000000 });refine aj (fun i:Nat=>i=0∨i=1∨i=2∨i=3) (fun i=>⟨[(0,.pv (.ro [[.ro (bytesRow a)],[.ro (bytesRow b)],[.ro (bytesRow c)]])),(2,.own 2),(3,.pv (.int .i64 (if i=0 then 0 else if i=1 then(a.length:Int) else if i=2 then(a.length:Int)+(b.length:Int) else(a.length:Int)+(b.length:Int)+(c.length:Int)))),(9,.pv (.ro [[.ro (bytesRow a)],[.ro (bytesRow b)],[.ro (bytesRow c)]])),(10,.pv (.int .i64 3)),(11,.pv (.int .i64 i))],[(2,.arr 5 [])]⟩) (fun i=>3-i) [] 0 (by simp) ?_ ?_;·simp
  ·rintro i (rfl|rfl|rfl|rfl);·simp(config := { maxSteps := 3000000 }) [r0,wa,ga,w1]
   ·simp(config := { maxSteps := 3000000 }) [r1,wab,gab,w2]
   ·simp(config := { maxSteps := 3000000 }) [r2,wabc,gabc,w3]
   ·simp(config := { maxSteps := 3000000 }) [gc,gd];refine aj (fun i:Nat=>i=0∨i=1∨i=2∨i=3) (fun i=>⟨[(0,.pv (.ro [[.ro (bytesRow a)],[.ro (bytesRow b)],[.ro (bytesRow c)]])),(2,.own 2),(6,.own 24),(25,.pv (.ro [[.ro (bytesRow a)],[.ro (bytesRow b)],[.ro (bytesRow c)]])),(26,.pv (.int .i64 3)),(27,.pv (.int .i64 i))],[(2,.arr 5 []),(24,.arr 5 (if i=0 then[] else if i=1 then bytesRow a else if i=2 then bytesRow a++bytesRow b else bytesRow a++(bytesRow b++bytesRow c)))]⟩) (fun i=>3-i) [] 0 (by simp) ?_ ?_;·simp
    ·rintro i (rfl|rfl|rfl|rfl);·simp(config := { maxSteps := 3000000 }) [r0,w1,ax];exact⟨by omega,by omega,dq _⟩
     ·simp(config := { maxSteps := 3000000 }) [r1,w2,ax];exact⟨by omega,by omega,dq _⟩
     ·simp(config := { maxSteps := 3000000 }) [r2,w3,ax];exact⟨by omega,by omega,dq _⟩
     ·simp(config := { maxSteps := 3000000 }) [ct]
 ·cases h
noncomputable def GR (d:Dc):List UInt8×Int:=if(im d.vs).2≠0∨kf d.ps=false then([],2) else(lI [d.l.e,d.l.p,d.l.i,d.l.u,gQ d.l.h,gQ d.sl]++(wZ d.ps++oU (im d.vs).1),0)
def Gs (d:Dc):Prop:=d.vs.length≤1000∧(∀v∈d.vs,lg v∧v.t.length≤1000000)∧d.ps.length≤1000∧(∀e∈d.ps,ki e)∧(cy d.l.e∧cy d.l.p∧cy d.l.i∧cy d.l.u)∧(im d.vs).1.length≤100000
theorem OF {e p i u:Int}{h s:Bool} (o3:cy e) (o4:cy p) (o5:cy i) (o6:cy u):∀n∈[e,p,i,u,gQ h,gQ s],cy n:=by
 intro n hn;simp only[q76,q92,or_false]at hn;rcases hn with rfl|rfl|rfl|rfl|rfl|rfl;·exact o3
 ·exact o4
 ·exact o5
 ·exact o6
 ·exact zm _
 ·exact zm _
theorem Hr {b:List UInt8} (h:b.length≤18446744073709551615):(oU b).length≤b.length+10:=by have:=iK h;unfold oU;rw[q74];omega
theorem H2 {ps:List Pn} (o2:∀e∈ps,ki e) (l2:ps.length≤1000):(wZ ps).length≤40000:=by have h1:=gg (n:=(ps.length:Int)) (by unfold cy;omega);have h2:=qw o2;unfold wZ;rw[q74];omega
@[simp] noncomputable def Nv:List AV→Option (Prop×AV)|[.agg ys]=>jZ ys fun d=>some (Gs d,.aO [.fr 5 (bytesRow (GR d).1),.pv (.int .i64 (GR d).2)])|_=>none
theorem PW:aJ Tryz.prog 72 Nv:=by
 intro ys φ r h hφ;unfold Nv at h;split at h
 ·obtain⟨d,rfl,h2⟩:=eo h;clear h;cases h2;obtain⟨⟨e,p,i,u,h'⟩,ps,vs,sl⟩:=d;obtain⟨l1,o1,l2,o2,⟨o3,o4,o5,o6⟩,l3⟩:=hφ;have l1:vs.length≤1000:=l1;have l2:ps.length≤1000:=l2;have l3:(im vs).1.length≤100000:=l3;have o1:(∀v∈vs,lg v∧v.t.length≤1000000)=True:=eq_true o1;have o7:(∀e∈ps,ki e)=True:=eq_true o2;have o2:∀e∈ps,ki e:=o2;have o3:cy e:=o3;have o4:cy p:=o4;have o5:cy i:=o5;have o6:cy u:=o6;have o8:=OF o3 o4 o5 o6 (h:=h') (s:=sl);have a1:(lI [e,p,i,u,gQ h',gQ sl]).length≤60:=ug o8;have a2:=H2 o2 l2;have l4:ps.length≤1000000:=by omega
  have l5:ps.length≤1000000000:=by omega
  have l6:(im vs).1.length≤1000000:=by omega
  have d6:dec dX [[.int .u64 e],[.int .u64 p],[.int .u64 i],[.int .u64 u],[.int .u64 (gQ h')],[.int .u64 (gQ sl)]]=some [e,p,i,u,gQ h',gQ sl]:=mX [e,p,i,u,gQ h',gQ sl];refine ak (ag O3 (ag AY (ag Rn (ag (uN H9) (ag (uN PI) (ag (uN HH) (ag RH ah))))))) (by kernel_rfl) (by conv=>lhs;reduce) (by simp) ?_;unfold GR;apply af;·simp(config := { maxSteps := 3000000 }) [cellsD];exact⟨rfl,rfl⟩
  apply af;·simp(config := { maxSteps := 3000000 }) [l1,o1];exact⟨rfl,rfl⟩
  generalize hx:im vs=x at*;obtain⟨b,x⟩:=x;by_cases he:x=0;·subst he;cases hr:kf ps with|false=>simp(config := { maxSteps := 3000000 }) [hr,l5]|true=>
   rw[if_neg (by simp)];apply af;·simp(config := { maxSteps := 3000000 }) [hr,l5];exact⟨rfl,rfl⟩
   apply af;·simp(config := { maxSteps := 3000000 });exact⟨rfl,rfl⟩
   apply af;·simp(config := { maxSteps := 3000000 }) [d6,o8,a1,a2,l3,l4,l6,o7];exact⟨⟨by omega,by omega,by have:b.length≤100000:=l3;have:=Hr (b:=b) (by omega);omega⟩,tP _,rfl,rfl⟩
   simp(config := { maxSteps := 3000000 })
  ·simp(config := { maxSteps := 3000000 }) [he]
 ·cases h
end Go.Proofs.YtlicclncicbajaaGreat.Ab
namespace Go.Proofs.YtlicclncicbajaaGreat.Ab
open Go Go.RowKit Go.WideShapes Go.ChangeShapes
variable {n i:Nat}{f:FuncId}{l:List Vn}{W:World}{row:List PV}
def fS (P:Program):Nat→TypeId→List PV→Prop|0,_,_=>False|n+1,t,row=>match P.underlying t with|some .bool=>∃b,row=[.bool b]|some (.int k)=>∃m,row=[.int k m]∧(Lit.int k m).wf=true|some .string=>∃l,row=[.str l]∧l.length≤maxLen|some (.slice e)=>∃rows,row=[.ro rows]∧rows.length≤maxLen∧∀r∈rows,fS P n e r|some (.struct fs)=>row.length=P.cellsOf t∧∀f∈fs.toList,fS P n f.type ((row.drop f.offset).take (P.cellsOf f.type))|_=>False
def rU (P:Program) (T:Nat):Nat→List Field→Bool|o,[]=>o==T|o,f::fs=>f.offset==o&&rU P T (o+P.cellsOf f.type) fs
def fK (P:Program):Nat→TypeId→Bool|0,_=>false|n+1,t=>match P.underlying t with|some .bool|some (.int _)|some .string=>true|some (.slice e)=>decide (0<P.cellsOf e)&&fK P n e|some (.struct fs)=>rU P (P.cellsOf t) 0 fs.toList&&fs.toList.all fun f=>fK P n f.type|_=>false
section
variable{H:Type}{enc:TypeId×Value→H}{P:Program}{w:World}{base:Nat}{spare:Nat→Bool}{held:Bool}{ds gs:List (DataW H)}
def oD (w:World) (cs:List Value) (row:List PV):Prop:=∀(i:Nat) (v:Value) (p:PV),cs[i]?=some v→row[i]?=some p→v.oneCell'=true∧dt (fun b=>b<w.heap.size) w v p
theorem Bd {T:Nat}:∀{fs:List Field}{o:Nat},rU P T o fs=true→o≤T|[],o,h=>by simp only[rU,beq_iff_eq]at h;omega|f::fs,o,h=>by simp only[rU,q73,beq_iff_eq]at h;have:=Bd h.2;omega
theorem rH {n T:Nat}{cs:List Value} (hT:cs.length=T):∀(fs:List Field) (o:Nat),rU P T o fs=true→(∀f∈fs,∃r:List PV,r.length=((cs.drop f.offset).take (P.cellsOf f.type)).length∧fS P n f.type r∧oD w ((cs.drop f.offset).take (P.cellsOf f.type)) r)→∃row:List PV,row.length=T-o∧(∀f∈fs,o≤f.offset∧fS P n f.type ((row.drop (f.offset-o)).take (P.cellsOf f.type)))∧oD w (cs.drop o) row
 |[],o,h,_=>by simp only[rU,beq_iff_eq]at h;exact⟨[],by simp;omega,fun f hf=>by simp at hf,fun i v p _ hp=>by simp at hp⟩|f::fs,o,h,hf=>by
  simp only[rU,q73,beq_iff_eq]at h;obtain⟨h1,h2⟩:=h;have hle:=Bd h2;obtain⟨r,hr1,hr2,hr3⟩:=hf f (by simp);obtain⟨row,g1,g2,g3⟩:=rH hT fs _ h2 fun f' hf'=>hf f' (by simp[hf']);have hrl:r.length=P.cellsOf f.type:=by rw[hr1,h1];simp;omega
  refine⟨r++row,by simp[hrl,g1];omega,fun f' hf'=>?_,fun i v p hv hp=>?_⟩
  ·rcases q76.1 hf' with rfl|hf';·refine⟨by omega,?_⟩;rw[h1,q247,List.drop_zero,←hrl,List.take_left'];exact hr2;rfl
   ·obtain⟨k1,k2⟩:=g2 f' hf';refine⟨by omega,?_⟩;rw[show f'.offset-o=r.length+(f'.offset-(o+P.cellsOf f.type)) from by omega,List.drop_append,q163 (by omega),q158,q228];exact k2
  ·by_cases hi:i<r.length;·rw[q85 hi]at hp;refine hr3 i v p ?_ hp;rw[h1,q81,if_pos (by omega)];exact hv
   ·rw[q97 (by omega)]at hp;refine g3 (i-r.length) v p ?_ hp;rw[q89]at hv ⊢;rw[←hv];congr 1;omega
theorem F5:∀(n:Nat) (fuel:Nat) (t:TypeId) (cs:List Value) (x:DataW H×List MemPlace),fK P n t=true→DataW.trod enc P w base spare held fuel t cs=some x→∃row:List PV,row.length=cs.length∧fS P n t row∧oD w cs row:=by intro n;induction n with|zero=>intro fuel t cs x hp;simp[fK]at hp|succ n ih=>
 intro fuel t cs x hp h;have hone:∀(v:Value) (p:PV),cs=[v]→v.oneCell'=true→dt (fun b=>b<w.heap.size) w v p→oD w cs [p]:=by rintro v p rfl h1 h2 i v' p' hv hp;cases i with|zero=>simp at hv hp;subst hv hp;exact⟨h1,h2⟩|succ i=>simp at hp
 unfold fK at hp;split at hp;·rename_i hu;cases fuel with|zero=>simp[DataW.trod]at h|succ fuel=>
  simp only[DataW.trod,hu]at h;split at h;all_goals(try(simp_all;done))
  rename_i b hb;exact⟨[.bool b],rfl,by unfold fS;rw[hu];exact⟨b,rfl⟩,hone _ _ rfl rfl (.bool b)⟩
 ·rename_i k hu;cases fuel with|zero=>simp[DataW.trod]at h|succ fuel=>
   simp only[DataW.trod,hu]at h;split at h;all_goals(try(simp_all;done))
   rename_i _ k3 k2 m hk;simp only[qr,TypeDesc.int.injEq]at hk;subst hk;split at h;·rename_i hw;obtain⟨rfl,hw⟩:=hw;exact⟨[.int k2 m],rfl,by unfold fS;rw[hu];exact⟨m,rfl,hw⟩,hone _ _ rfl rfl (.int k2 m)⟩
   ·cases h
 ·rename_i hu;cases fuel with|zero=>simp[DataW.trod]at h|succ fuel=>
   simp only[DataW.trod,hu]at h;split at h;all_goals(try(simp_all;done))
   rename_i s hcs;split at h;·rename_i hs;refine⟨[.str s.data.toList],rfl,by unfold fS;rw[hu];exact⟨_,rfl,by rw[q83];exact hs⟩,hone _ _ rfl rfl ?_⟩;have:dt (fun b=>b<w.heap.size) w (.string ⟨s.data.toList.toArray⟩) (.str s.data.toList):=.str _;rwa[q135]at this
   ·cases h
 ·rename_i e hu;simp only[q73,decide_eq_true_eq]at hp;obtain⟨hC,hp⟩:=hp;rcases Go.Deep.open_slice hu h with⟨rfl,_⟩|⟨a,len,cap,m,n',D,Pl,rfl,hb,hl,hm,hmm,_,hi⟩;·exact⟨[.ro []],rfl,by unfold fS;rw[hu];exact⟨[],rfl,by simp,fun r hr=>by simp at hr⟩,hone _ _ rfl rfl (.xY none 0)⟩
  ·have hlm:len≤m:=by rw[hmm];split<;>omega
   have hrow:∀i,i<len→∃(cs':List Value) (row:List PV),w.cells? base (a.add (i*P.cellsOf e)) (P.cellsOf e)=some cs'∧row.length=cs'.length∧fS P n e row∧oD w cs' row:=fun i hil=>by obtain⟨cs',hc,ht⟩:=hi i (by omega);obtain⟨row,h1,h2,h3⟩:=ih n' e cs' _ hp ht;exact⟨cs',row,hc,h1,h2,h3⟩
   have hrow':∀i:Nat,∃(cs':List Value) (row:List PV),i<len→w.cells? base (a.add (i*P.cellsOf e)) (P.cellsOf e)=some cs'∧row.length=cs'.length∧fS P n e row∧oD w cs' row:=fun i=>by
    by_cases hil:i<len;·obtain⟨cs',row,h1⟩:=hrow i hil;exact⟨cs',row,fun _=>h1⟩
    ·exact⟨[],[],fun h=>absurd h hil⟩
   let F:Nat→List Value:=fun i=>(hrow' i).choose;let R:Nat→List PV:=fun i=>(hrow' i).choose_spec.choose;have hFR:∀i,i<len→w.cells? base (a.add (i*P.cellsOf e)) (P.cellsOf e)=some (F i)∧(R i).length=(F i).length∧fS P n e (R i)∧oD w (F i) (R i):=fun i hil=>(hrow' i).choose_spec.choose_spec hil;have hRl:∀i,i<len→(R i).length=P.cellsOf e∧∀j,j<P.cellsOf e→w.cell? ((a.add (i*P.cellsOf e)).add j)=(F i)[j]?:=fun i hil=>by obtain⟨h1,h2,_⟩:=hFR i hil;obtain⟨_,h4,h5⟩:=q269 h1;exact⟨by rw[h2,h4],h5⟩
   have hll:((List.range len).map R).length=len:=by simp
   have hget:∀(i:Nat) (r:List PV),((List.range len).map R)[i]?=some r→i<len∧r=R i:=fun i r hr=>by
    rw[q77,q0]at hr;obtain⟨k,hk,rfl⟩:=hr;have hil:i<len:=by have:=(q65.1 hk).1;simpa using this
    rw[List.getElem?_range hil]at hk;injection hk with hk;exact⟨hil,by rw[hk]⟩
   refine⟨[.ro ((List.range len).map R)],rfl,?_,hone _ _ rfl rfl ?_⟩;·unfold fS;rw[hu];refine⟨_,rfl,by rw[hll];omega,fun r hr=>?_⟩;obtain⟨i,hi1,rfl⟩:=q84.1 hr;exact(hFR i (by simpa using hi1)).2.2.1
   ·by_cases hz:len=0;·subst hz;exact .xY _ _
    ·have hS:a.block<w.heap.size:=by
      have h0:=(hRl 0 (by omega)).2 0 hC;obtain⟨h1,h2,h3,_⟩:=hFR 0 (by omega);have hlen:(F 0).length=P.cellsOf e:=(q269 h1).2.1;rw[q64 (by omega)]at h0;rw[fG]at h0;rcases q137 a.block w.heap.size with h'|h';·exact h'
      ·exfalso;have hbk:=bW a (0*P.cellsOf e+0);unfold World.cell? at h0;rw[hbk,Array.getElem?_eq_none h']at h0;simp at h0
     have key:=dt.ro (S:=fun b=>b<w.heap.size) (w:=w) a cap ((List.range len).map R) (P.cellsOf e) (fun i j=>(F i).getD j undef) hS (by rw[hll];exact hl) (fun r hr=>by obtain⟨i,hi1,rfl⟩:=q84.1 hr;exact(hRl i (by simpa using hi1)).1) (fun i j hi1 hj=>by rw[hll]at hi1;have h5:=(hRl i hi1).2 j hj;rw[fG]at h5;rw[h5];obtain⟨h1,h2,h3,_⟩:=hFR i hi1;have hlen:(F i).length=P.cellsOf e:=(q269 h1).2.1;rw[q78,q64 (by omega)];rfl) (fun i j r p hr hp=>by
      obtain⟨hil,rfl⟩:=hget i r hr;obtain⟨h1,h2,h3,h4⟩:=hFR i hil;have hj:j<(F i).length:=by rw[←h2];exact(q65.1 hp).1
      have hv:(F i)[j]?=some (F i)[j]:=q64 hj;rw[q78,hv];exact(h4 j _ p hv hp).1) (fun i j r p hr hp=>by
      obtain⟨hil,rfl⟩:=hget i r hr;obtain⟨h1,h2,h3,h4⟩:=hFR i hil;have hj:j<(F i).length:=by rw[←h2];exact(q65.1 hp).1
      have hv:(F i)[j]?=some (F i)[j]:=q64 hj;rw[q78,hv];exact(h4 j _ p hv hp).2);rw[hll]at key;exact key
 ·rename_i fs hu;simp only[q73,q90]at hp;obtain⟨ht,hall⟩:=hp;obtain⟨ys,n',hn',hy,hlen,hyl,hf⟩:=DataW.trod_struct hu h;obtain⟨row,g1,g2,g3⟩:=rH (w:=w) (P:=P) (n:=n) hlen fs.toList 0 ht fun f hfm=>by
   obtain⟨j,hj⟩:=q101 hfm;have hj':fs[j]?=some f:=by simpa using hj
   have h1:=hf j f hj';have hjl:j<ys.length:=by rw[hyl];exact(q66.1 hj').1
   rw[q64 hjl]at h1;exact ih n' f.type _ _ (hall f hfm) h1
  refine⟨row,by rw[g1];omega,?_,by simpa using g3⟩;unfold fS;rw[hu];exact⟨by rw[g1];omega,fun f hfm=>by simpa using(g2 f hfm).2⟩
 ·cases hp
end
def oR (P:Program) (t:TypeId):Bool:=match P.underlying t with|some (.struct _)=>true|_=>false
def FK (P:Program) (t:TypeId) (row:List PV):AV:=if oR P t=true then .agg (row.map .pv) else match row with|[p]=>.pv p|_=>.aw
def pr (P:Program):List TypeId→List (List PV)→List AV|t::ts,r::rs=>FK P t r::pr P ts rs|_,_=>[]
section
variable{H:Type}{enc:TypeId×Value→H}{P:Program}{w:World}{ds gs:List (DataW H)}
theorem Kq {n base b0:Nat}{spare:Nat→Bool}{held:Bool}{r:Reach}{t:TypeId}{v:Value}{d:DataW H}{ps:List MemPlace} (hp:fK P n t=true) (hv:Value.okWide P w r b0 t v) (h:DataW.Trod enc P w base spare held t v d ps) (β:Nat→Value) (D:Nat→Prop):∃row,fS P n t row∧RV P (fun b=>b<w.heap.size) w β D v (FK P t row):=by
 obtain⟨fuel,h⟩:=h;obtain⟨row,h1,h2,h3⟩:=F5 n fuel t _ _ hp h;refine⟨row,h2,?_⟩;have hone:v.cells=#[v]→oR P t=false→RV P (fun b=>b<w.heap.size) w β D v (FK P t row):=by intro hc hs;rw[hc]at h1 h3;match row,h1 with|[p],_=>simp only[FK,hs];exact .pv _ _ (h3 0 v p rfl rfl).2
 cases n with|zero=>simp[fK]at hp|succ n=>
  unfold fK at hp;split at hp;·rename_i hu;obtain⟨b,rfl⟩:=okWide_bool hu hv;exact hone rfl (by simp[oR,hu])
  ·rename_i k hu;obtain⟨m,rfl⟩:=okWide_int hu hv;exact hone rfl (by simp[oR,hu])
  ·rename_i hu;obtain⟨s,rfl⟩:=okWide_string hu hv;exact hone rfl (by simp[oR,hu])
  ·rename_i e hu;obtain⟨a,len,cap,rfl⟩:=okWide_slice hu hv;exact hone rfl (by simp[oR,hu])
  ·rename_i fs hu;obtain⟨cs,rfl,hsz⟩:=okWide_struct hu hv;have hs:oR P t=true:=by simp[oR,hu]
   simp only[FK,hs,if_true];have hcs:(Value.agg cs).cells.toList=cs.toList:=rfl;rw[hcs]at h1 h3;have:=RV.agg (P:=P) (S:=fun b=>b<w.heap.size) (w:=w) (β:=β) (D:=D) (row.map .pv) cs.toList (by simp[h1]) (fun i c u hc hu=>by rw[q77,q0]at hc;obtain⟨p,hp,rfl⟩:=hc;exact .pv _ _ (h3 i u p hu hp).2);rwa[q135]at this
  ·cases hp
theorem qu {n base b0:Nat}{spare:Nat→Bool}{held:Bool}{r:Reach} (β:Nat→Value) (D:Nat→Prop):∀(ts:List TypeId) (vs:List Value) (ds:List (DataW H)) (ps:List MemPlace),DataW.TrodAll enc P w base spare held ts vs ds ps→(∀t∈ts,fK P n t=true)→(∀(j:Nat) (t:TypeId) (v:Value),ts[j]?=some t→vs[j]?=some v→Value.okWide P w r b0 t v)→∃rows:List (List PV),rows.length=ts.length∧vs.length=ts.length∧ds.length=ts.length∧(∀(j:Nat) (t:TypeId) (r:List PV),ts[j]?=some t→rows[j]?=some r→fS P n t r)∧(pr P ts rows).length=ts.length∧∀(i:Nat) (v:Value) (y:AV),vs[i]?=some v→(pr P ts rows)[i]?=some y→RV P (fun b=>b<w.heap.size) w β D v y
 |[],[],[],ps,h,_,_=>⟨[],rfl,rfl,rfl,fun j t r h=>by simp at h,rfl,fun i v y h=>by simp at h⟩|t::ts,v::vs,d::ds,ps,h,hp,hv=>by
  obtain⟨p,q,h1,h2,rfl⟩:=h;obtain⟨rows,g1,g2,g3,g4,g5,g6⟩:=qu β D ts vs ds q h2 (fun t ht=>hp t (by simp[ht])) (fun j t v h1 h2=>hv (j+1) t v (by simpa using h1) (by simpa using h2));obtain⟨row,k1,k2⟩:=Kq (hp t (by simp)) (hv 0 t v rfl rfl) h1 β D;refine⟨row::rows,by simp[g1],by simp[g2],by simp[g3],fun j t' r ht hr=>?_,by simp[pr,g5],fun i v' y hv' hy=>?_⟩;·cases j with|zero=>simp at ht hr;subst ht hr;exact k1|succ j=>exact g4 j t' r (by simpa using ht) (by simpa using hr)
  ·cases i with|zero=>simp[pr]at hv' hy;subst hv' hy;exact k2|succ i=>exact g6 i v' y (by simpa using hv') (by simpa[pr]using hy)
 |[],[],_::_,_,h,_,_=>h.elim|[],_::_,_,_,h,_,_=>h.elim|_::_,[],_,_,h,_,_=>h.elim|_::_,_::_,[],_,h,_,_=>h.elim
def BR (P:Program) (n:Nat) (f:FuncId) (ts:List TypeId):Prop:=∀rows:List (List PV),rows.length=ts.length→(∀(j:Nat) (t:TypeId) (r:List PV),ts[j]?=some t→rows[j]?=some r→fS P n t r)→sO P f [] (pr P ts rows) [] (.pv (.bool true))
theorem FP {n b0:Nat}{r:Reach}{ts:List TypeId}{vs:List Value}{ps:List MemPlace} (hcon:BR P n f ts) (hA:DataW.TrodAll enc P w 0 (fun _=>true) true ts vs ds ps) (hp:∀t∈ts,fK P n t=true) (hv:∀(j:Nat) (t:TypeId) (v:Value),ts[j]?=some t→vs[j]?=some v→Value.okWide P w r b0 t v):Calls P f vs.toArray w fun e w'=>e=.returned (.bool true)∧Below w.heap.size w w':=by
 obtain⟨rows,g1,g2,g3,g4,g5,g6⟩:=qu (fun _=>.nilIface) (fun _=>False) ts vs ds ps hA hp hv;have hS:∀b,aZ (fun b=>b<w.heap.size) w.heap.size (fun _=>.nilIface) (ab []) w b↔b<w.heap.size:=by
  intro b;constructor;·exact fun h=>h.2.1
  ·exact fun h=>⟨.inl h,h,fun⟨t,o,ho,_⟩=>by cases ho⟩
 have hD:aG (ab [])=fun _=>False:=by
  funext t;apply propext;constructor;·rintro⟨o,ho⟩;cases ho
  ·exact False.elim
 refine(hcon rows g1 g4 w (fun b=>b<w.heap.size) (fun _=>.nilIface) vs (fun b h=>h) (fun t b ⟨o,ho⟩=>by cases ho) ⟨(fun t o ho=>by cases ho),(fun t t' b ⟨o,ho⟩=>by cases ho)⟩ (by rw[g2,g5]) (fun i v y h1 h2=>?_)).mono ?_;·rw[hD];exact(g6 i v y h1 h2).mono (fun b hb=>⟨(hS b).2 hb,rfl⟩) (fun t ht=>ht.elim)
 ·rintro e w' ⟨v,β',rfl,hf,_,_,hr⟩;have hvb:v=.bool true:=by have hr:RV P _ w' β' _ v (.pv (.bool true)):=hr;exact hr.fb
  subst hvb;exact⟨rfl,hf.os,hf.tape,hf.output,hf.size,fun k hk=>hf.block k hk fun⟨t,o,ho,_⟩=>by cases ho⟩
theorem nH (hl:laidOutB P=true) {W W':World} (hb:Below W.heap.size W W'):∀(ts:List TypeId) (vs:List Value) (ds:List (DataW H)) (ps:List MemPlace),DataW.TrodAll enc P W 0 (fun _=>true) true ts vs ds ps→(∀t∈ts,P.readableRec t=true∧t<P.types.size)→(∀x∈ps,x.block<W.heap.size)→∀sp:Nat→Bool,(∀x∈ps,sp x.block=true)→DataW.TrodAll enc P W' 0 sp true ts vs ds ps|[],[],[],ps,h,_,_,_,_=>h|t::ts,v::vs,d::ds,ps,h,hr,hlt,sp,hsp=>by obtain⟨p,q,h1,h2,rfl⟩:=h;obtain⟨hr1,hr2⟩:=hr t (by simp);exact⟨p,q,WideElems.Trod_stays hl hr1 hr2 h1 (fun x hx=>hb.same (hlt x (by simp[hx]))) (fun x hx=>hsp x (by simp[hx])),nH hl hb ts vs ds q h2 (fun t ht=>hr t (by simp[ht])) (fun x hx=>hlt x (by simp[hx])) sp (fun x hx=>hsp x (by simp[hx])),rfl⟩|[],[],_::_,_,h,_,_,_,_=>h.elim|[],_::_,_,_,h,_,_,_,_=>h.elim|_::_,[],_,_,h,_,_,_,_=>h.elim|_::_,_::_,[],_,h,_,_,_,_=>h.elim
theorem vC {f:Func}{s:ChangeSpec}{apart fresh handsOn again:Bool}{W W':World}{args:Array Value}{v:Value}{before pa pv:List MemPlace} (hW:DataW.Whole enc P f.params.toList s.vars apart W args.toList ds gs before) (hres:∀(b:Nat) (sp:Nat→Bool) (hd:Bool),DataW.TrodAll enc P W' b sp hd f.resultTypes.toList (v.resultList f.resultTypes.size) (s.fn H (ds++gs)).results []) (hargs:∀sp:Nat→Bool,(∀p∈before,sp p.block=true)→DataW.TrodAll enc P W' 0 sp true f.params.toList args.toList (s.fn H (ds++gs)).args pa) (hvars:∀sp:Nat→Bool,(∀p∈before,sp p.block=true)→DataW.TrodVars enc P W' sp s.vars (s.fn H (ds++gs)).vars pv) (hps:before=pa++pv) (hb:Below W.heap.size W W') (hok:∀(j:Nat) (t:TypeId) (r:Value),f.resultTypes[j]?=some t→(v.resultList f.resultTypes.size)[j]?=some r→Value.okWide P W' .any 0 t r):s.post enc P f apart fresh handsOn again W args v W':=by
 have hlt:∀p∈before,p.block<W.heap.size:=fun p hp=>hW.lt p hp;have hold:∀p∈before,(fun b=>decide (b<W.heap.size)) p.block=true:=fun p hp=>by simpa using hlt p hp
 refine⟨ds,gs,before,[],pa,pv,hW,hres _ _ _,hargs _ hold,hvars _ hold,World.keptBut_mono (fun p hp=>⟨hp,?_⟩) (hb.frame (·∈before)),fun _=>?_⟩;·rw[hps,q80]at hp;exact Or.inr hp
 ·obtain⟨_,_,_,_,_,hz,hn⟩:=hW;refine⟨hok,_,_,([]++pa)++pv,⟨[]++pa,pv,trodAll_append (hargs _ (fun _ _=>rfl)) (hres _ _ _),hvars _ (fun _ _=>rfl),rfl,?_,?_⟩,?_⟩
  ·intro b off hp;have hin:MemPlace.cell b off∈before:=by rw[hps];simpa using hp
   rw[hb.frozen (hlt _ hin)];exact hz b off hin
  ·intro ha;have:=hn ha;rw[hps]at this;simpa using this
  ·intro p hp _;rw[hps];simpa using hp
theorem Im {fn:Func}{s:ChangeSpec}{apart fresh handsOn again:Bool}{base:Nat}{args:Array Value}{before:List MemPlace}{tb:TypeId} (hl:laidOutB P=true) (hcon:BR P n f fn.params.toList) (hpl:∀t∈fn.params.toList,fK P n t=true∧P.readableRec t=true∧t<P.types.size) (hrt:fn.resultTypes=#[tb]) (htb:P.underlying tb=some .bool) (hsv:s.vars=[]) (hspec:∀ds:List (DataW H),ds.length=fn.params.toList.length→s.fn H (ds++[])={results:=[.lit (.bool true)],args:=ds}) (hval:∀(j:Nat) t v,fn.params[j]?=some t→args[j]?=some v→Value.okWide P W .any base t v) (hW:DataW.Whole enc P fn.params.toList s.vars apart W args.toList ds gs before):Calls P f args W fun e W'=>∃v,e=.returned v∧s.post enc P fn apart fresh handsOn again W args v W':=by
 have hW':=hW;obtain⟨p,q,hA,hV,hpq,hfz,hnd⟩:=hW';rw[hsv]at hV;obtain⟨rfl,rfl⟩:gs=[]∧q=[]:=by cases gs with|nil=>exact⟨rfl,hV⟩|cons g gs=>exact hV.elim
 have hval':∀(j:Nat) (t:TypeId) (v:Value),fn.params.toList[j]?=some t→args.toList[j]?=some v→Value.okWide P W .any base t v:=fun j t v h1 h2=>hval j t v (by simpa using h1) (by simpa using h2);obtain⟨rows,_,_,hdl,_⟩:=qu (fun _=>.nilIface) (fun _=>False) _ _ _ _ hA (fun t ht=>(hpl t ht).1) hval';have hsp:=hspec ds hdl;have hc:=FP hcon hA (fun t ht=>(hpl t ht).1) hval';have hargs:args.toList.toArray=args:=by simp
 rw[hargs]at hc;refine hc.mono ?_;rintro e W' ⟨rfl,hb⟩;refine⟨_,rfl,vC (pa:=p) (pv:=[]) hW ?_ ?_ ?_ hpq hb ?_⟩;·intro b sp hd;rw[hsp,hrt];exact trodAll_mk1 ⟨1,by simp[DataW.trod,Value.cells,htb]⟩
 ·intro sp hs;rw[hsp];exact nH hl hb _ _ _ _ hA (fun t ht=>(hpl t ht).2) (fun x hx=>hW.lt x (by rw[hpq];simpa using hx)) sp (fun x hx=>hs x (by rw[hpq];simpa using hx))
 ·intro sp hs;rw[hsp,hsv];exact rfl
 ·exact ok_one hrt rfl (okWide_bool_mk htb true)
end
end Go.Proofs.YtlicclncicbajaaGreat.Ab
namespace Go.Proofs.YtlicclncicbajaaGreat.Ab
open Go Go.RowKit R
variable {n i:Nat}{f:FuncId}{l:List Vn}{W:World}{row:List PV}
theorem Tryz.own:ownKnob Tryz.prog.godebug=none:=by kernel_rfl
theorem Tryz.laidOut:laidOutB Tryz.prog=true:=by kernel_rfl
theorem sV  (h:fS Tryz.prog (n+1) 9 row):∃l,row=[.str l]:=by unfold fS at h;rw[Tryz.underlying9]at h;obtain⟨l,h,_⟩:=h;exact⟨l,h⟩
theorem bL  (h:fS Tryz.prog (n+1) 22 row):∃m,row=[.int .u64 m]∧cy m:=by
 unfold fS at h;rw[Tryz.underlying22]at h;obtain⟨m,rfl,hw⟩:=h;refine⟨m,rfl,?_⟩;have:IntKind.u64.min≤m∧m≤IntKind.u64.max:=by simpa[Lit.wf]using hw
 simp[IntKind.min,IntKind.max,IntKind.signed,IntKind.bits]at this;unfold cy;omega
theorem R2  (h:fS Tryz.prog (n+1) 5 row):∃m,row=[.int .u8 m]∧0≤m:=by
 unfold fS at h;rw[Tryz.underlying5]at h;obtain⟨m,rfl,hw⟩:=h;refine⟨m,rfl,?_⟩;have:IntKind.u8.min≤m∧m≤IntKind.u8.max:=by simpa[Lit.wf]using hw
 simp[IntKind.min,IntKind.max,IntKind.signed,IntKind.bits]at this;omega
theorem pF  (h:fS Tryz.prog (n+1) 4 row):∃b,row=[.bool b]:=by unfold fS at h;rw[Tryz.underlying4]at h;exact h
theorem KU  (h:fS Tryz.prog (n+2) 106 row):∃z m,row=[.int .u64 z,.int .u64 m]:=by
 unfold fS at h;rw[Tryz.underlying106]at h;have c0:Tryz.prog.cellsOf 106=2:=by kernel_rfl
 have c1:Tryz.prog.cellsOf 22=1:=by kernel_rfl
 simp only[c0,q76,q92,or_false,forall_eq_or_imp,forall_eq,c1]at h;obtain⟨hl,h1,h2⟩:=h;match row,hl with|[a,b],_=>obtain⟨z,hz,_⟩:=bL h1;obtain⟨m,hm,_⟩:=bL h2;simp at hz hm;subst hz hm;exact⟨z,m,rfl⟩
theorem Lf  (h:fS Tryz.prog (n+2) 134 row):∃e,row=rowP e∧ki e:=by
 unfold fS at h;rw[Tryz.underlying134]at h;have c0:Tryz.prog.cellsOf 134=3:=by kernel_rfl
 have c1:Tryz.prog.cellsOf 22=1:=by kernel_rfl
 simp only[c0,q76,q92,or_false,forall_eq_or_imp,forall_eq,c1]at h;obtain⟨hl,h1,h2,h3⟩:=h;match row,hl with|[a,b,c],_=>obtain⟨k,hk,o1⟩:=bL h1;obtain⟨n,hn,o2⟩:=bL h2;obtain⟨t,ht,o3⟩:=bL h3;simp at hk hn ht;subst hk hn ht;exact⟨⟨k,n,t⟩,rfl,o1,o2,o3⟩
theorem wS {n:Nat}:∀{rows:List (List PV)},(∀r∈rows,fS Tryz.prog (n+2) 134 r)→∃l,rows=au l∧∀e∈l,ki e
 |[],_=>⟨[],rfl,fun e he=>by cases he⟩|r::rows,h=>by
  obtain⟨c,rfl,hc⟩:=Lf (h r (by simp));obtain⟨l,rfl,hl⟩:=wS (rows:=rows) fun r hr=>h r (by simp[hr]);refine⟨c::l,rfl,fun e he=>?_⟩;rcases q76.1 he with rfl|he;·exact hc
  ·exact hl e he
theorem Ll  (h:fS Tryz.prog (n+3) 25 row):∃l,row=[.ro (au l)]∧∀e∈l,ki e:=by unfold fS at h;rw[Tryz.underlying25]at h;obtain⟨rows,rfl,_,h⟩:=h;obtain⟨l,rfl,hl⟩:=wS h;exact⟨l,rfl,hl⟩
theorem H6  (h:fS Tryz.prog (n+4) 27 row):∃l,row=[.ro (au l)]∧∀e∈l,ki e:=by
 unfold fS at h;rw[Tryz.underlying27]at h;have c0:Tryz.prog.cellsOf 27=1:=by kernel_rfl
 have c1:Tryz.prog.cellsOf 25=1:=by kernel_rfl
 simp only[c0,q76,q92,or_false,forall_eq,c1]at h;obtain⟨hl,h1⟩:=h;match row,hl with|[a],_=>exact Ll h1
theorem R9  (h:fS Tryz.prog (n+3) 108 row):∃v,row=dj v∧lg v:=by
 unfold fS at h;rw[Tryz.underlying108]at h;have c0:Tryz.prog.cellsOf 108=10:=by kernel_rfl
 have c1:Tryz.prog.cellsOf 22=1:=by kernel_rfl
 have c2:Tryz.prog.cellsOf 9=1:=by kernel_rfl
 have c3:Tryz.prog.cellsOf 4=1:=by kernel_rfl
 have c4:Tryz.prog.cellsOf 106=2:=by kernel_rfl
 simp only[c0,q76,q92,or_false,forall_eq_or_imp,forall_eq,c1,c2,c3,c4]at h;obtain⟨hl,h1,h2,h3,h4,h5,h6,h7,h8,h9⟩:=h;match row,hl with|[a1,a2,a3,a4,a5,a6,a7,a8,a9,a10],_=>obtain⟨x1,e1,o1⟩:=bL h1;obtain⟨x2,e2,o2⟩:=bL h2;obtain⟨x3,e3,o3⟩:=bL h3;obtain⟨x4,e4,o4⟩:=bL h4;obtain⟨x5,e5,o5⟩:=bL h5;obtain⟨x6,x7,e6⟩:=KU h6;obtain⟨x8,e8⟩:=sV h7;obtain⟨x9,e9⟩:=pF h8;obtain⟨x10,e10⟩:=pF h9;simp at e1 e2 e3 e4 e5 e6 e8 e9 e10;obtain⟨e6,e7⟩:=e6;subst e1 e2 e3 e4 e5 e6 e7 e8 e9 e10;exact⟨⟨x1,x2,x3,x4,x5,x6,x7,x8,x9,x10⟩,rfl,o1.1,o1.2,o2.1,o2.2⟩
theorem AT {n:Nat}:∀{rows:List (List PV)},(∀r∈rows,fS Tryz.prog (n+3) 108 r)→∃l,rows=aH l∧∀e∈l,lg e
 |[],_=>⟨[],rfl,fun e he=>by cases he⟩|r::rows,h=>by
  obtain⟨c,rfl,hc⟩:=R9 (h r (by simp));obtain⟨l,rfl,hl⟩:=AT (rows:=rows) fun r hr=>h r (by simp[hr]);refine⟨c::l,rfl,fun e he=>?_⟩;rcases q76.1 he with rfl|he;·exact hc
  ·exact hl e he
theorem Ke  (h:fS Tryz.prog (n+4) 29 row):∃l,row=[.ro (aH l)]∧l.length≤maxLen∧∀e∈l,lg e:=by unfold fS at h;rw[Tryz.underlying29]at h;obtain⟨rows,rfl,hm,h⟩:=h;obtain⟨l,rfl,hl⟩:=AT h;exact⟨l,rfl,by simpa using hm,hl⟩
theorem FN  (h:fS Tryz.prog (n+2) 24 row):∃l:Ls,row=[.int .u64 l.e,.int .u64 l.p,.int .u64 l.i,.int .u64 l.u,.bool l.h]∧cy l.e∧cy l.p∧cy l.i∧cy l.u:=by
 unfold fS at h;rw[Tryz.underlying24]at h;have c0:Tryz.prog.cellsOf 24=5:=by kernel_rfl
 have c1:Tryz.prog.cellsOf 22=1:=by kernel_rfl
 have c2:Tryz.prog.cellsOf 4=1:=by kernel_rfl
 simp only[c0,q76,q92,or_false,forall_eq_or_imp,forall_eq,c1,c2]at h;obtain⟨hl,h1,h2,h3,h4,h5⟩:=h;match row,hl with|[a,b,c,d,e],_=>obtain⟨x1,e1,o1⟩:=bL h1;obtain⟨x2,e2,o2⟩:=bL h2;obtain⟨x3,e3,o3⟩:=bL h3;obtain⟨x4,e4,o4⟩:=bL h4;obtain⟨x5,e5⟩:=pF h5;simp at e1 e2 e3 e4 e5;subst e1 e2 e3 e4 e5;exact⟨⟨x1,x2,x3,x4,x5⟩,rfl,o1,o2,o3,o4⟩
def Zx (d:Dc):List PV:=[.int .u64 d.l.e,.int .u64 d.l.p,.int .u64 d.l.i,.int .u64 d.l.u,.bool d.l.h,.ro (au d.ps),.ro (aH d.vs),.bool d.sl]
def aaP (d:Dc):Prop:=d.vs.length≤maxLen∧(∀v∈d.vs,lg v)∧(∀e∈d.ps,ki e)∧cy d.l.e∧cy d.l.p∧cy d.l.i∧cy d.l.u
theorem Lb  (h:fS Tryz.prog (n+5) 31 row):∃d,row=Zx d∧aaP d:=by
 unfold fS at h;rw[Tryz.underlying31]at h;have c0:Tryz.prog.cellsOf 31=8:=by kernel_rfl
 have c1:Tryz.prog.cellsOf 24=5:=by kernel_rfl
 have c2:Tryz.prog.cellsOf 27=1:=by kernel_rfl
 have c3:Tryz.prog.cellsOf 29=1:=by kernel_rfl
 have c4:Tryz.prog.cellsOf 4=1:=by kernel_rfl
 simp only[c0,q76,q92,or_false,forall_eq_or_imp,forall_eq,c1,c2,c3,c4]at h;obtain⟨hl,h1,h2,h3,h4⟩:=h;match row,hl with|[a1,a2,a3,a4,a5,b,c,d],_=>obtain⟨x1,e1,o1⟩:=FN h1;obtain⟨x2,e2,o2⟩:=H6 h2;obtain⟨x3,e3,o3,o4⟩:=Ke h3;obtain⟨x4,e4⟩:=pF h4;simp at e1 e2 e3 e4;obtain⟨e5,e6,e7,e8,e9⟩:=e1;subst e2 e3 e4 e5 e6 e7 e8 e9;exact⟨⟨x1,x2,x3,x4⟩,rfl,o3,o4,o2,o1⟩
def okRc (r:Rc):Prop:=cy r.p∧cy r.i∧cy r.s∧cy r.e∧cy r.u∧cy r.v∧cy r.c∧cy r.z∧cy r.m
def IY (r:Rc):List PV:=[.int .u8 r.k,.int .u64 r.p,.int .u64 r.i,.int .u64 r.s,.int .u64 r.e,.int .u64 r.u,.int .u64 r.v,.int .u64 r.c,.int .u64 r.z,.int .u64 r.m,.str r.n,.str r.t]
theorem Ly  (h:fS Tryz.prog (n+2) 38 row):∃r,row=IY r∧okRc r∧0≤r.k:=by
 unfold fS at h;rw[Tryz.underlying38]at h;have c0:Tryz.prog.cellsOf 38=12:=by kernel_rfl
 have c1:Tryz.prog.cellsOf 22=1:=by kernel_rfl
 have c2:Tryz.prog.cellsOf 5=1:=by kernel_rfl
 have c3:Tryz.prog.cellsOf 9=1:=by kernel_rfl
 simp only[c0,q76,q92,or_false,forall_eq_or_imp,forall_eq,c1,c2,c3]at h;obtain⟨hl,h0,h1,h2,h3,h4,h5,h6,h7,h8,h9,h10,h11⟩:=h;match row,hl with|[a0,a1,a2,a3,a4,a5,a6,a7,a8,a9,a10,a11],_=>obtain⟨x0,e0,o0⟩:=R2 h0;obtain⟨x1,e1,o1⟩:=bL h1;obtain⟨x2,e2,o2⟩:=bL h2;obtain⟨x3,e3,o3⟩:=bL h3;obtain⟨x4,e4,o4⟩:=bL h4;obtain⟨x5,e5,o5⟩:=bL h5;obtain⟨x6,e6,o6⟩:=bL h6;obtain⟨x7,e7,o7⟩:=bL h7;obtain⟨x8,e8,o8⟩:=bL h8;obtain⟨x9,e9,o9⟩:=bL h9;obtain⟨x10,e10⟩:=sV h10;obtain⟨x11,e11⟩:=sV h11;simp at e0 e1 e2 e3 e4 e5 e6 e7 e8 e9 e10 e11;subst e0 e1 e2 e3 e4 e5 e6 e7 e8 e9 e10 e11;exact⟨⟨x0,x1,x2,x3,x4,x5,x6,x7,x8,x9,x10,x11⟩,rfl,⟨o1,o2,o3,o4,o5,o6,o7,o8,o9⟩,o0⟩
theorem Rb  (h:fS Tryz.prog (n+2) 71 row):∃e,row=ff e:=by
 unfold fS at h;rw[Tryz.underlying71]at h;have c0:Tryz.prog.cellsOf 71=2:=by kernel_rfl
 have c1:Tryz.prog.cellsOf 22=1:=by kernel_rfl
 have c2:Tryz.prog.cellsOf 9=1:=by kernel_rfl
 simp only[c0,q76,q92,or_false,forall_eq_or_imp,forall_eq,c1,c2]at h;obtain⟨hl,h1,h2⟩:=h;match row,hl with|[a,b],_=>obtain⟨k,hk⟩:=sV h1;obtain⟨n,hn,_⟩:=bL h2;simp at hk hn;subst hk hn;exact⟨⟨k,n⟩,rfl⟩
theorem zV {n:Nat}:∀{rows:List (List PV)},(∀r∈rows,fS Tryz.prog (n+2) 71 r)→∃l,rows=aM l|[],_=>⟨[],rfl⟩|r::rows,h=>by obtain⟨c,rfl⟩:=Rb (h r (by simp));obtain⟨l,rfl⟩:=zV (rows:=rows) fun r hr=>h r (by simp[hr]);exact⟨c::l,rfl⟩
theorem Kr  (h:fS Tryz.prog (n+3) 33 row):∃l,row=[.ro (aM l)]∧l.length≤maxLen:=by unfold fS at h;rw[Tryz.underlying33]at h;obtain⟨rows,rfl,hm,h⟩:=h;obtain⟨l,rfl⟩:=zV h;exact⟨l,rfl,by simpa using hm⟩
theorem Kh  (h:fS Tryz.prog (n+2) 84 row):∃e,row=rowP e:=by
 unfold fS at h;rw[Tryz.underlying84]at h;have c0:Tryz.prog.cellsOf 84=3:=by kernel_rfl
 have c1:Tryz.prog.cellsOf 22=1:=by kernel_rfl
 simp only[c0,q76,q92,or_false,forall_eq_or_imp,forall_eq,c1]at h;obtain⟨hl,h1,h2,h3⟩:=h;match row,hl with|[a,b,c],_=>obtain⟨k,hk,_⟩:=bL h1;obtain⟨n,hn,_⟩:=bL h2;obtain⟨t,ht,_⟩:=bL h3;simp at hk hn ht;subst hk hn ht;exact⟨⟨k,n,t⟩,rfl⟩
theorem xK {n:Nat}:∀{rows:List (List PV)},(∀r∈rows,fS Tryz.prog (n+2) 84 r)→∃l,rows=au l|[],_=>⟨[],rfl⟩|r::rows,h=>by obtain⟨c,rfl⟩:=Kh (h r (by simp));obtain⟨l,rfl⟩:=xK (rows:=rows) fun r hr=>h r (by simp[hr]);exact⟨c::l,rfl⟩
theorem Gy  (h:fS Tryz.prog (n+3) 34 row):∃l,row=[.ro (au l)]:=by unfold fS at h;rw[Tryz.underlying34]at h;obtain⟨rows,rfl,_,h⟩:=h;obtain⟨l,rfl⟩:=xK h;exact⟨l,rfl⟩
end Go.Proofs.YtlicclncicbajaaGreat.Ab
