/- The numbers' layer: package varint, and the reference's, over plain lists (for any seat). -/
import Derived.Test.YtifcndkhigakfaaGreatY12
set_option linter.unusedVariables false
set_option linter.unusedSimpArgs false
set_option linter.unnecessarySimpa false
set_option maxHeartbeats 40000000
set_option maxRecDepth 100000
set_option linter.defProp false
namespace Go.Proofs.YtifcndkhigakfaaGreat.Ab
open Go Go.RowKit
def q84:=@List.getElem_mem
def q90:=@List.mem_take_iff_getElem
def q115:=@List.drop_drop
def q135:=@List.length_singleton
def q143:=@Int.fdiv_eq_ediv_of_nonneg
def q145:=@Int.eq_ofNat_of_zero_le
def q155:=@List.take_length
def q161:=@List.map_take
def q165:=@List.filter_append
def q169:=@Int.tmod_eq_emod_of_nonneg
def q171:=@List.filter_eq_self
def q173:=@List.findIdx_eq
def q175:=@Nat.pow_le_pow_right
def q176:=@BitVec.ofInt_natCast
def q181:=@BitVec.toNat_ofNat
def q189:=@List.map_drop
def q210:=@List.findIdx_eq_length
def q211:=@List.findIdx_lt_length
def q219:=@List.map_set
def q229:=@Nat.mul_add
def q242:=@Nat.pow_add
def q245:=@Nat.shiftLeft_eq
def q257:=@List.drop_set_of_lt
def q258:=@List.take_set_of_le
def q270:=@List.getElem_drop
def q285:=@Nat.min_self
def q304:=@Nat.div_lt_iff_lt_mul
end Go.Proofs.YtifcndkhigakfaaGreat.Ab
namespace Go.Proofs.YtifcndkhigakfaaGreat.Ab
open Go Go.RowKit R
variable {n k i:Nat}{rows:List (List PV)}
def bj (n:Nat):List UInt8:=if h:n<128 then[n.toUInt8] else(n%128+128).toUInt8::bj (n/128) termination_by n decreasing_by omega
def bk (n:Int):List UInt8:=bj n.toNat
def cy (h:n<128):bj n=[n.toUInt8]:=by rw[bj,dif_pos h]
def fW (h:¬n<128):bj n=(n%128+128).toUInt8::bj (n/128):=by rw[bj,dif_neg h]
def Q4 (m:Nat):fE .or .u8 ((m:Int)%256) 128=.int .u8 (((m%128+128).toUInt8.toNat:Nat):Int):=by
 have key:∀x:Fin 256,IntKind.u8.wrap ((BitVec.ofInt IntKind.u8.bits (x.val:Int)|||BitVec.ofInt IntKind.u8.bits 128).toNat:Nat)=(((x.val%128+128).toUInt8.toNat:Nat):Int):=by decide+kernel
 have h:=key ⟨m%256,by omega⟩;have e1:(m:Int)%256=((m%256:Nat):Int):=by omega
 have e2:m%256%128=m%128:=by omega
 rw[e1];simp only[e2]at h;unfold fE;exact congrArg _ h
def La:List AV->Option (Prop×AV)|[.pv (.int .u64 n)]=>some (0<=n/\n<=18446744073709551615,.fr 5 (bytesRow (bk n)))|_=>none
@[simp] def Mk (n:Int):La [.pv (.int .u64 n)]=some (0<=n/\n<=18446744073709551615,.fr 5 (bytesRow (bk n))):=rfl
def zL:aL Tryz.prog 65 La:=by
 intro ys φ r h hφ;unfold La at h;split at h
 ·rename_i N;cases h;obtain⟨n,rfl⟩:=q145 hφ.1;have hn:n<=18446744073709551615:=by omega
  refine aq ah (by kernel_rfl) (by conv=>lhs;reduce) (by simp) ?_;simp;refine au (fun x:Nat×List UInt8=>x.2++bj x.1=bj n/\x.1<=18446744073709551615/\(x.2.length<=10/\x.1*128^x.2.length<=n)) (fun x=>⟨[(0,.pv (.int .u64 x.1)),(3,.own 3)],[(3,.arr 5 (bytesRow x.2))]⟩) (fun x=>x.1) [] (n,[]) ?_ ?_ ?_;·simp[hn]
  ·simp
  ·rintro⟨m,acc⟩ ⟨h1,h2,h3,h4⟩;dsimp only at h1 h2 h3 h4;simp[wrap_u8,-Int.emod_emod_of_dvd,aF];rw[Q4];refine⟨fun hm=>⟨by omega,m/128,acc++[(m%128+128).toUInt8],⟨?_,by omega,?_,?_⟩,⟨?_,?_⟩,by omega⟩,fun hm=>⟨by omega,?_⟩⟩;·rw[<-h1,fW (n:=m) (by omega)];simp
   ·simp only[q65,q135];have:¬9<=acc.length:=by intro h9;have h128:128^9<=128^acc.length:=q175 (by decide) h9;have:128*128^acc.length<=m*128^acc.length:=q82 _ (by omega);omega
    omega
   ·simp only[q65,q135,Nat.pow_succ];refine q113 ?_ h4;have:m/128*128<=m:=by omega
    calc m/128*(128^acc.length*128)=(m/128*128)*128^acc.length:=by rw[q168 (128^acc.length) 128,Nat.mul_assoc]
     _<=m*128^acc.length:=q82 _ this
   ·simp[IntKind.bits,q143]
   ·rw[bY];rfl
   ·rw[bk,q66,<-h1,cy (n:=m) (by omega),bY];simp[bytesRow]
 ·cases h
def wR (n:Nat):1<=(bj n).length:=by rw[bj];split<;>simp
def vE:∀(k n:Nat),n<128^(k+1)->(bj n).length<=k+1
 |0,n,h=>by rw[cy (by simpa using h)];simp|k+1,n,h=>by
  by_cases h1:n<128;·rw[cy h1];simp
  ·rw[fW h1];have:n/128<128^(k+1):=by rw[q304 (by decide)];rw[Nat.pow_succ]at h;exact h
   have:=vE k (n/128) this;simp;omega
def fp (h:n<=18446744073709551615):(bj n).length<=10:=vE 9 n (by omega)
@[simp] def FW:List AV->Option (Prop×AV)|[.pv (.int .u64 n)]=>some (0<=n/\n<=18446744073709551615,.pv (.int .i64 (bk n).length))|_=>none
def JF:aL Tryz.prog 116 FW:=by
 intro ys φ r h hφ;unfold FW at h;split at h
 ·rename_i N;cases h;obtain⟨n,rfl⟩:=q145 hφ.1;have hn:n<=18446744073709551615:=by omega
  have hl:=fp hn;refine aq ah (by kernel_rfl) (by conv=>lhs;reduce) (by simp) ?_;simp;refine au (fun x:Nat×Nat=>x.2+(bj x.1).length=(bj n).length+1/\x.1<=18446744073709551615) (fun x=>⟨[(0,.pv (.int .u64 x.1)),(3,.pv (.int .i64 x.2))],[]⟩) (fun x=>x.1) [] (n,1) ?_ ?_ ?_;·simp[hn];omega
  ·simp
  ·rintro⟨m,k⟩ ⟨h1,h2⟩;dsimp only at h1 h2;have hl2:=wR m;simp(disch:=omega) [wrap_i64,wrap_u64];refine⟨fun hm=>⟨m/128,k+1,⟨?_,by omega⟩,⟨by omega,by omega⟩,by omega⟩,fun hm=>?_⟩;·rw[fW (n:=m) (by omega)]at h1;simp at h1;omega
   ·rw[cy (n:=m) (by omega)]at h1;simp at h1;rw[bk,q66];omega
 ·cases h
def Og (m:Nat) (h:m<128):(m.toUInt8.toNat:Int)=m:=by
 have:m.toUInt8.toNat=m:=by simp[Nat.toUInt8];omega
 omega
def JB (m:Nat) (h:m<256):(m.toUInt8.toNat:Int)=m:=by
 have:m.toUInt8.toNat=m:=by simp[Nat.toUInt8];omega
 omega
def KW:aL Tryz.prog 68 La:=by
 intro ys φ r h hφ;unfold La at h;split at h
 ·rename_i N;cases h;obtain⟨n,rfl⟩:=q145 hφ.1;have hn:n<=18446744073709551615:=by omega
  have hl:=fp hn;have hl1:=wR n;refine aq (ag JF ah) (by kernel_rfl) (by conv=>lhs;reduce) (by simp) ?_;simp[bk];refine⟨by omega,?_⟩;refine au (fun x:Nat×List UInt8=>x.2++(if x.2.length<(bj n).length then bj x.1 else[])=bj n/\x.1<=18446744073709551615/\x.2.length<=(bj n).length) (fun x=>⟨[(0,.pv (.int .u64 x.1)),(3,.own 3),(4,.pv (.int .i64 (bj n).length)),(5,.pv (.int .i64 x.2.length))],[(3,.arr 5 (bytesRow x.2))]⟩) (fun x=>(bj n).length-x.2.length) [] (n,[]) ?_ ?_ ?_;·refine⟨?_,hn,by simp⟩;rw[if_pos (by simp only[q91];omega),q153]
  ·simp
  ·rintro⟨m,acc⟩ ⟨h1,h2,h3⟩;dsimp only at h1 h2 h3;have w1:IntKind.i64.wrap ((acc.length:Int)+1)=(acc.length:Int)+1:=wrap_i64 (by omega);have w2:IntKind.u8.wrap ((m:Int)%128)=(m:Int)%128:=by rw[wrap_u8];omega
   have w3:IntKind.u8.wrap ((m:Int)%128+128)=(m:Int)%128+128:=by rw[wrap_u8];omega
   have w4:IntKind.u64.wrap ((m:Int)/128)=(m:Int)/128:=wrap_u64 (by omega);have w5:(m:Int).tmod 128=(m:Int)%128:=q169 (by omega);by_cases hlt:acc.length<(bj n).length
   ·rw[if_pos hlt]at h1;have hlen:acc.length+(bj m).length=(bj n).length:=by rw[<-h1];simp
    by_cases hm:m<128
    ·have hv:=cy hm;rw[hv]at h1 hlen;simp at hlen;simp[w1,w2,w3,w4,w5,hlt,aF];refine⟨fun h=>by omega,fun h=>⟨by omega,m/128,acc++[m.toUInt8],⟨?_,by omega,by simp;omega⟩,⟨⟨by omega,by simp⟩,?_⟩,by simp;omega⟩⟩;·rw[if_neg (by simp;omega),q130];exact h1
     ·rw[bY];simp only[bytesRow,q74,q119];rw[Og m hm];have:(m:Int)%128=m:=by omega
      rw[this]
    ·have hv:=fW hm;have hl2:=wR (m/128);rw[hv]at h1 hlen;simp at hlen;simp[w1,w2,w3,w4,w5,hlt,aF];refine⟨fun h=>⟨by omega,m/128,acc++[(m%128+128).toUInt8],⟨?_,by omega,by simp;omega⟩,⟨⟨by omega,by simp⟩,?_⟩,by simp;omega⟩,fun h=>by omega⟩;·rw[if_pos (by simp;omega)];simpa using h1
     ·rw[bY];simp only[bytesRow,q74,q119];rw[JB (m%128+128) (by omega)];simp
   ·rw[if_neg hlt,q130]at h1;simp[hlt];rw[h1]
 ·cases h
def cH (s:List UInt8):List UInt8:=bj s.length++s
@[simp] def Qj:List AV->Option (Prop×AV)|[.pv (.str s)]=>some (s.length<=1000000,.fr 5 (bytesRow (cH s)))|_=>none
def Fy:aL Tryz.prog 107 Qj:=by
 intro ys φ r h hφ;unfold Qj at h;split at h;·rename_i s;cases h;refine aq (ag zL ah) (by kernel_rfl) (by conv=>lhs;reduce) (by simp) ?_;have hl:=fp (n:=s.length) (by omega);have w1:IntKind.u64.wrap (s.length:Int)=(s.length:Int):=wrap_u64 (by omega);simp[w1,bk,aF,cH,bY];exact⟨by omega,by omega,by omega,bV s⟩
 ·cases h
@[simp] noncomputable def Lx:List AV->Option (Prop×AV)|[.pv (.ro a),.pv (.ro b)]=>(dec dZ a).bind fun la=>(dec dZ b).map fun lb=>(la.length<=1000000000,.pv (.bool (decide (la=lb))))|_=>none
def Na:aL Tryz.prog 14 Lx:=by
 intro ys φ r h hφ;unfold Lx at h;split at h
 ·rename_i ra rb;obtain⟨a,ha,h⟩:=qB.1 h;obtain⟨b,hb,h⟩:=q900.1 h;cases h;cases aK ha;cases aK hb;refine aq ah (by kernel_rfl) (by conv=>lhs;reduce) (by simp) ?_;simp;refine⟨fun hne=>?_,fun hlen=>?_⟩;·intro e;exact hne (by rw[e])
  refine au (fun i:Nat=>i<=a.length/\a.take i=b.take i) (fun i=>⟨[(0,.pv (.ro (bytesRow a))),(1,.pv (.ro (bytesRow b))),(5,.pv (.int .i64 i))],[]⟩) (fun i=>a.length-i) [] 0 (by simp) ?_ ?_;·simp
  ·rintro i ⟨hi,ht⟩;have w2:IntKind.i64.wrap ((i:Int)+1)=(i:Int)+1:=wrap_i64 (by omega);by_cases hlt:i<a.length
   ·have r1:=R.bytesRow_at hlt;have hlb:i<b.length:=by omega
    have r2:=R.bytesRow_at hlb;simp[w2,hlt,hlb,r1,r2];refine⟨fun hne e=>hne (by subst e;rfl),fun heq=>⟨i+1,⟨by omega,?_⟩,by omega,by omega⟩⟩;rw[q64 hlt,q64 hlb,ht];congr 2;exact q192.1 (by omega)
   ·simp[hlt];rw[List.take_of_length_le (by omega),List.take_of_length_le (by omega)]at ht;exact ht
 ·cases h
def bW:List UInt8->Nat->Nat->Nat×Nat×Int|[],_,_=>(0,0,10)|c::l,i,n=>if(i=9/\1<c.toNat)\/(c.toNat=0/\0<i) then(0,0,11) else if c.toNat<128 then(n+c.toNat%128*2^(7*i),i+1,0) else bW l (i+1) (n+c.toNat%128*2^(7*i))
def ai (b:List UInt8) (p:Int):Int×Int×Int:=if p<0\/(b.length:Int)<=p then(0,p,10) else(((bW (b.drop p.toNat) 0 0).1:Int),p+((bW (b.drop p.toNat) 0 0).2.1:Int),(bW (b.drop p.toNat) 0 0).2.2)
def tL:∀(l:List UInt8) (i n:Nat),i<=9->n<2^(7*i)->(bW l i n).1<2^64/\(bW l i n).2.1<=i+l.length/\((bW l i n).2.2=0->i<(bW l i n).2.1)/\((bW l i n).2.2≠0->(bW l i n).1=0/\(bW l i n).2.1=0)/\((bW l i n).2.2=0\/(bW l i n).2.2=10\/(bW l i n).2.2=11)
 |[],i,n,hi,hn=>by simp[bW]|c::l,i,n,hi,hn=>by
  unfold bW;have hc:=c.toNat_lt;have hcm:c.toNat%128<=127:=by omega
  have h1:n+c.toNat%128*2^(7*i)<2^(7*(i+1)):=by have:c.toNat%128*2^(7*i)<=127*2^(7*i):=q82 _ hcm;rw[q229,q242];omega
  split;·simp
  ·rename_i h0;split
   ·refine⟨?_,by simp,by simp,by simp,by simp⟩;dsimp only;by_cases h9:i=9
    ·subst h9;have hc1:c.toNat<=1:=by omega
     have:c.toNat%128*2^(7*9)<=1*2^(7*9):=q82 _ (by omega);omega
    ·have:2^(7*(i+1))<=2^63:=q175 (by decide) (by omega);omega
   ·rename_i hbig;have hi8:i<=8:=by omega
    obtain⟨a1,a2,a3,a4⟩:=tL l (i+1) _ (by omega) h1;refine⟨a1,?_,fun h=>?_,a4⟩;·simp only[q70];omega
    ·have:=a3 h;omega
def Eb (c:UInt8):fE .andNot .u8 (c.toNat:Int) 128=.int .u8 ((c.toNat%128:Nat):Int):=by
 have key:∀x:Fin 256,IntKind.u8.wrap ((BitVec.ofInt IntKind.u8.bits (x.val:Int)&&&~~~BitVec.ofInt IntKind.u8.bits 128).toNat:Nat)=((x.val%128:Nat):Int):=by decide+kernel
 have h:=key ⟨c.toNat,c.toNat_lt⟩;unfold fE;exact congrArg _ h
def RG {n m i:Nat} (hn:n<2^(7*i)) (hm:n+m*2^(7*i)<2^64):fE .or .u64 (n:Int) ((m:Int)*2^(7*i))=.int .u64 ((n+m*2^(7*i):Nat):Int):=by
 have e1:((m:Int)*2^(7*i))=((m*2^(7*i):Nat):Int):=by simp
 have hn64:n<2^64:=by omega
 have hm64:m*2^(7*i)<2^64:=by omega
 have h1:(BitVec.ofInt 64 (n:Int)).toNat=n:=by rw[q176,q181,q109 hn64]
 have h2:(BitVec.ofInt 64 ((m*2^(7*i):Nat):Int)).toNat=m*2^(7*i):=by rw[q176,q181,q109 hm64]
 have h3:n|||m*2^(7*i)=n+m*2^(7*i):=by rw[Nat.or_comm,<-q245,<-Nat.shiftLeft_add_eq_or_of_lt hn,Nat.add_comm]
 rw[e1];unfold fE;have h4:(BitVec.ofInt IntKind.u64.bits (n:Int)|||BitVec.ofInt IntKind.u64.bits ((m*2^(7*i):Nat):Int)).toNat=n+m*2^(7*i):=by show(BitVec.ofInt 64 (n:Int)|||BitVec.ofInt 64 ((m*2^(7*i):Nat):Int)).toNat=_;rw[BitVec.toNat_or,h1,h2,h3]
 simp only[h4];refine congrArg _ ?_;exact wrap_u64 (by omega)
def val:List UInt8->Nat|[]=>0|c::l=>c.toNat%128+128*val l
def qR (l:List UInt8) (c:UInt8):val (l++[c])=val l+c.toNat%128*2^(7*l.length):=by induction l with|nil=>simp[val]|cons x l ih=>
 simp only[q137,val,ih,q70];have:2^(7*(l.length+1))=128*2^(7*l.length):=by rw[q229,q242];omega
 rw[this,q229,Nat.mul_left_comm];omega
def R6 (l:List UInt8):val l<2^(7*l.length):=by induction l with|nil=>simp[val]|cons x l ih=>
 simp only[val,q70];have:2^(7*(l.length+1))=128*2^(7*l.length):=by rw[q229,q242];omega
 omega
def vo:∀(l:List UInt8) (c:UInt8),(∀x∈l,128<=x.toNat)->c.toNat<128->(c.toNat≠0\/l=[])->bj (val (l++[c]))=l++[c]
 |[],c,_,hc,_=>by
  have:val ([]++[c])=c.toNat:=by simp[val];omega
  rw[this,cy hc];simp|x::l,c,hl,hc,h0=>by
  have hx:=hl x (by simp);have hx2:=x.toNat_lt;have h0:c.toNat≠0:=by rcases h0 with h|h;exact h;cases h
  have hv:0<val (l++[c]):=by rw[qR];have:0<c.toNat%128*2^(7*l.length):=Nat.mul_pos (by omega) (Nat.pow_pos (by decide));omega
  have ih:=vo l c (fun y hy=>hl y (by simp[hy])) hc (.inl h0);simp only[q137,val];rw[fW (by omega),show(x.toNat%128+128*val (l++[c]))/128=val (l++[c]) from by omega,ih,show(x.toNat%128+128*val (l++[c]))%128+128=x.toNat from by omega];simp
def uT:∀(k n:Nat),n<2^(7*(k+1))->(bj n).length<=k+1
 |0,n,h=>by rw[cy (by simpa using h)];simp|k+1,n,h=>by
  by_cases hn:n<128;·rw[cy hn];simp
  ·rw[fW hn];have:2^(7*(k+1+1))=128*2^(7*(k+1)):=by rw[q229 7 (k+1),q242];omega
   have:=uT k (n/128) (by omega);simp only[q70];omega
@[simp] noncomputable def C0:List AV->Option (Prop×AV)|[.pv (.ro b),.pv (.int .i64 p)]=>(dec dZ b).map fun l=>(l.length<=1000000000/\-9223372036854775808<=p/\p<=9223372036854775807,.aN [.pv (.int .u64 (ai l p).1),.pv (.int .i64 (ai l p).2.1),.pv (.int .i64 (ai l p).2.2)])|_=>none
def KN {n c i:Nat} (hn:n<2^(7*i)) (hc:c<=127):n+c*2^(7*i)<2^(7*(i+1)):=by have:c*2^(7*i)<=127*2^(7*i):=q82 _ hc;rw[q229,q242];omega
def Iy (l:List UInt8) (i:Nat):cut (bytesRow l) (i:Int) (l.length:Int)=bytesRow (l.drop i):=by have:List.take l.length (bytesRow l)=bytesRow l:=List.take_of_length_le (by simp[bytesRow]);unfold cut;rw[q66,q66,this];simp[bytesRow,q189]
def tv:aL Tryz.prog 79 C0:=by
 intro ys φ r h hφ;unfold C0 at h;split at h
 ·rename_i rb p;obtain⟨b,hb,h⟩:=q900.1 h;cases h;cases aK hb;obtain⟨hl,hp1,hp2⟩:=hφ;refine aq ah (by kernel_rfl) (by conv=>lhs;reduce) (by simp) ?_;by_cases h0:p<0\/(b.length:Int)<=p
  ·have ht:ai b p=(0,p,10):=by unfold ai;rw[if_pos h0]
   by_cases hp0:p<0;·simp[hp0,ht]
   ·have hbp:(b.length:Int)<=p:=by omega
    simp[hp0,hbp,ht]
  ·obtain⟨q,rfl⟩:=q145 (show 0<=p by omega);have ht:ai b q=(((bW (b.drop q) 0 0).1:Int),(q:Int)+((bW (b.drop q) 0 0).2.1:Int),(bW (b.drop q) 0 0).2.2):=by unfold ai;rw[if_neg h0];rfl
   have hq0:¬(q:Int)<0:=by omega
   have hq1:¬(b.length:Int)<=q:=by omega
   have hq2:¬b.length<=q:=by omega
   have hc:=Iy b q;rw[ht];simp[hq0,hq1,hq2,hc];refine⟨⟨by omega,bV b⟩,?_⟩;generalize hD:b.drop q=D;have hDl:D.length+q=b.length:=by rw[<-hD];simp;omega
   have hbD:(b.length:Int)-q=(D.length:Int):=by omega
   refine au (fun x:Nat×Nat=>x.1<=D.length/\x.1<=9/\x.2<2^(7*x.1)/\bW D 0 0=bW (D.drop x.1) x.1 x.2) (fun x=>⟨[(1,.pv (.int .i64 q)),(4,.pv (.int .u64 x.2)),(6,.pv (.int .i64 10)),(21,.pv (.ro (bytesRow D))),(22,.pv (.int .i64 D.length)),(23,.pv (.int .i64 x.1))],[]⟩) (fun x=>D.length-x.1) [] (0,0) ?_ ?_ ?_;·simp
   ·simp;omega
   ·rintro⟨i,n⟩ ⟨hi,hi9,hn,hG⟩;dsimp only at hi hi9 hn hG;have w1:IntKind.i64.wrap ((i:Int)+1)=(i:Int)+1:=wrap_i64 (by omega);have w2:IntKind.i64.wrap (7*(i:Int))=7*(i:Int):=wrap_i64 (by omega);have w3:IntKind.i64.wrap ((q:Int)+(i:Int))=(q:Int)+(i:Int):=wrap_i64 (by omega);have w4:IntKind.i64.wrap ((q:Int)+(i:Int)+1)=(q:Int)+(i:Int)+1:=wrap_i64 (by omega);by_cases hlt:i<D.length
    ·have r1:=R.bytesRow_at hlt;rw[q93 hlt,bW]at hG;have hc:=D[i].toNat_lt;have ha:=Eb D[i];simp[w1,w2,w3,w4,hlt,r1,ha];have hcm:D[i].toNat%128<=127:=by omega
     have hn':=KN hn hcm;have hor:∀hm:n+D[i].toNat%128*2^(7*i)<2^64,fE .or .u64 (n:Int) (IntKind.u64.wrap (IntKind.u64.wrap ((D[i].toNat:Int)%128)*2^min (7*(i:Int)).toNat IntKind.u64.bits))=.int .u64 ((n+D[i].toNat%128*2^(7*i):Nat):Int):=by
      intro hm;have e1:IntKind.u64.wrap ((D[i].toNat:Int)%128)=((D[i].toNat%128:Nat):Int):=by rw[wrap_u64 (by omega)];omega
      have e2:min (7*(i:Int)).toNat IntKind.u64.bits=7*i:=by
       have:(7*(i:Int)).toNat=7*i:=by omega
       rw[this];exact q103 (show 7*i<=64 by omega)
      have e3:IntKind.u64.wrap (((D[i].toNat%128:Nat):Int)*2^(7*i))=((D[i].toNat%128:Nat):Int)*2^(7*i):=by
       have e4:(((D[i].toNat%128:Nat):Int)*2^(7*i))=((D[i].toNat%128*2^(7*i):Nat):Int):=by simp
       rw[e4];exact wrap_u64 (by omega)
      rw[e1,e2,e3];exact RG hn hm
     have h63:i<=8->n+D[i].toNat%128*2^(7*i)<2^64:=fun h8=>by have:2^(7*(i+1))<=2^63:=q175 (by decide) (by omega);omega
     have h64:¬(i=9/\1<D[i].toNat)->n+D[i].toNat%128*2^(7*i)<2^64:=fun h=>by
      by_cases h9:i=9
      ·have hle:D[i].toNat%128*2^(7*i)<=1*2^(7*i):=q82 _ (by omega);have:2^(7*i)=2^63:=by rw[h9]
       omega
      ·exact h63 (by omega)
     have hA:(i=9/\1<D[i].toNat)\/(D[i].toNat=0/\0<i)->bW D 0 0=(0,0,11):=fun h=>by rw[hG,if_pos h]
     have hN:¬((i=9/\1<D[i].toNat)\/(D[i].toNat=0/\0<i))->bW D 0 0=if D[i].toNat<128 then(n+D[i].toNat%128*2^(7*i),i+1,0) else bW (D.drop (i+1)) (i+1) (n+D[i].toNat%128*2^(7*i)):=fun h=>by rw[hG,if_neg h]
     clear hG;generalize n+D[i].toNat%128*2^(7*i)=m at*;generalize D[i].toNat=c at*;refine⟨fun a1 a2=>⟨fun _ _=>?_,fun hx=>?_⟩,fun hx=>⟨fun b1 b2 b3=>?_,fun hy=>⟨by omega,fun h1=>?_,fun h2=>?_⟩⟩⟩;·rw[hA (.inl ⟨by omega,by omega⟩)];simp
     ·exfalso;have:=hx a1;omega
     ·rw[hA (.inr ⟨by omega,by omega⟩)];simp
     ·have hno:¬((i=9/\1<c)\/(c=0/\0<i)):=by
       rintro(⟨x,y⟩|⟨x,y⟩);·have:=hx (by omega);omega
       ·have:=hy h1 x;omega
      rw[hN hno,if_pos (by omega),hor (h64 fun h=>hno (.inl h))];exact⟨rfl,by simp;omega,rfl⟩
     ·have hno:¬((i=9/\1<c)\/(c=0/\0<i)):=by
       rintro(⟨x,y⟩|⟨x,y⟩);·have:=hx (by omega);omega
       ·omega
      have hi8:i<=8:=by
       have:¬i=9:=fun h=>by have:=hx (by omega);omega
       omega
      refine⟨i+1,m,⟨by omega,by omega,hn',?_⟩,⟨hor (h63 hi8),by omega⟩,by omega⟩;rw[hN hno,if_neg (by omega)]
    ·have hd:D.drop i=[]:=by rw[q222];omega
     have he:bW D 0 0=(0,0,10):=by rw[hG,hd];rfl
     simp[w1,w2,hlt,he]
 ·cases h
def cJ (b:List UInt8) (p:Int):((ai b p).2.2=0->0<=p/\p<(ai b p).2.1/\(ai b p).2.1<=b.length)/\0<=(ai b p).1/\(ai b p).1<=18446744073709551615/\((ai b p).2.2≠0->(ai b p).1=0/\(ai b p).2.1=p)/\((ai b p).2.2=0\/(ai b p).2.2=10\/(ai b p).2.2=11):=by
 unfold ai;split;·simp
 ·rename_i h0;obtain⟨h1,h2,h3,h4,h5⟩:=tL (b.drop p.toNat) 0 0 (by omega) (by simp);have hd:(b.drop p.toNat).length=b.length-p.toNat:=by simp
  rw[hd]at h2;dsimp only;refine⟨fun h=>?_,by omega,by omega,fun h=>?_,h5⟩;·have:=h3 h;omega
  ·have:=h4 h;omega
def PC (l:List UInt8) (i j:Int):cut (bytesRow l) i j=bytesRow ((l.take j.toNat).drop i.toNat):=by simp[cut,bytesRow,q189,q161]
def az (b:List UInt8) (p:Int):List UInt8×Int×Int:=if(ai b p).2.2≠0 then([],p,(ai b p).2.2) else if(b.length:Int)-(ai b p).2.1<(ai b p).1 then([],p,10) else((b.drop (ai b p).2.1.toNat).take (ai b p).1.toNat,(ai b p).2.1+(ai b p).1,0)
@[simp] noncomputable def AX:List AV->Option (Prop×AV)|[.pv (.ro b),.pv (.int .i64 p)]=>(dec dZ b).map fun l=>(l.length<=1000000000/\-9223372036854775808<=p/\p<=9223372036854775807,.aN [.pv (.str (az l p).1),.pv (.int .i64 (az l p).2.1),.pv (.int .i64 (az l p).2.2)])|_=>none
def Be:aL Tryz.prog 80 AX:=by
 intro ys φ r h hφ;unfold AX at h;split at h
 ·rename_i rb p;obtain⟨b,hb,h⟩:=q900.1 h;cases h;cases aK hb;obtain⟨hl,hp1,hp2⟩:=hφ;refine aq (ag tv ah) (by kernel_rfl) (by conv=>lhs;reduce) (by simp) ?_;obtain⟨k1,k2,k3,k4,k5⟩:=cJ b p;have hT:az b p=if(ai b p).2.2≠0 then([],p,(ai b p).2.2) else if(b.length:Int)-(ai b p).2.1<(ai b p).1 then([],p,10) else((b.drop (ai b p).2.1.toNat).take (ai b p).1.toNat,(ai b p).2.1+(ai b p).1,0):=rfl;generalize az b p=T at*;obtain⟨n,q,e,hL⟩:∃n q e,ai b p=(n,q,e):=⟨_,_,_,rfl⟩;rw[hL]at k1 k2 k3 k4 k5 hT;dsimp only at k1 k2 k3 k4 k5 hT;by_cases he:e=0
  ·obtain⟨j1,j2,j3⟩:=k1 he;subst he;have w1:IntKind.i64.wrap ((b.length:Int)-q)=(b.length:Int)-q:=wrap_i64 (by omega);have w2:IntKind.u64.wrap ((b.length:Int)-q)=(b.length:Int)-q:=wrap_u64 (by omega);by_cases hgt:(b.length:Int)-q<n;·rw[if_neg (by simp),if_pos hgt]at hT;subst hT;simp[hl,hp1,hp2,hL,w1,w2,hgt]
   ·rw[if_neg (by simp),if_neg hgt]at hT;subst hT;have w3:IntKind.i64.wrap n=n:=wrap_i64 (by omega);have w4:IntKind.i64.wrap (q+n)=q+n:=wrap_i64 (by omega);have hc:cut (bytesRow b) q (q+n)=bytesRow ((b.drop q.toNat).take n.toNat):=by rw[PC,q214,show(q+n).toNat-q.toNat=n.toNat from by omega]
    simp[hl,hp1,hp2,hL,w1,w2,w3,w4,hgt,hc];exact⟨by omega,by omega,by omega,bV b⟩
  ·rw[if_pos he]at hT;subst hT;simp[hl,hp1,hp2,hL,he]
 ·cases h
def lV (b:List UInt8) (at':Nat) (w:List UInt8):Bool:=decide (at'+w.length<=b.length/\(b.drop at').take w.length=w)
@[simp] noncomputable def KX:List AV->Option (Prop×AV)|[.pv (.ro b),.pv (.int .i64 i),.pv (.ro w)]=>(dec dZ b).bind fun lb=>(dec dZ w).map fun lw=>(0<=i/\i<=1000000000/\lb.length<=1000000000/\lw.length<=1000000000,.pv (.bool (lV lb i.toNat lw)))|_=>none
def Mr:aL Tryz.prog 163 KX:=by
 intro ys φ r h hφ;unfold KX at h;split at h
 ·rename_i rb I rw';obtain⟨b,hb,h⟩:=qB.1 h;obtain⟨l,hl,h⟩:=q900.1 h;cases h;cases aK hb;cases aK hl;obtain⟨p,rfl⟩:=q145 hφ.1;obtain⟨h0,h1,h2,h3⟩:=hφ;have w1:IntKind.i64.wrap ((p:Int)+(l.length:Int))=(p:Int)+(l.length:Int):=wrap_i64 (by omega);refine aq ah (by kernel_rfl) (by conv=>lhs;reduce) (by simp) ?_;by_cases hle:p+l.length<=b.length
  ·have hle':¬(b.length:Int)<(p:Int)+(l.length:Int):=by omega
   simp[w1,hle'];refine au (fun i:Nat=>i<=l.length/\(b.drop p).take i=l.take i) (fun i=>⟨[(0,.pv (.ro (bytesRow b))),(1,.pv (.int .i64 p)),(2,.pv (.ro (bytesRow l))),(7,.pv (.int .i64 i))],[]⟩) (fun i=>l.length-i) [] 0 (by simp) ?_ ?_;·simp
   ·rintro i ⟨hi,ht⟩;have w2:IntKind.i64.wrap ((i:Int)+1)=(i:Int)+1:=wrap_i64 (by omega);have w3:IntKind.i64.wrap ((p:Int)+(i:Int))=(p:Int)+(i:Int):=wrap_i64 (by omega);by_cases hlt:i<l.length
    ·have r1:=R.bytesRow_at hlt;have hlb:p+i<b.length:=by omega
     have hlb':(p:Int)+(i:Int)<(b.length:Int):=by omega
     have hp0:0<=(p:Int)+(i:Int):=by omega
     have r2:rowAt (bytesRow b) ((p:Int)+(i:Int))=[.int .u8 (b[p+i].toNat:Int)]:=by have:=R.bytesRow_at hlb;simpa using this
     have hdl:i<(b.drop p).length:=by simp;omega
     simp[w2,w3,hlt,hlb,hlb',hp0,r1,r2];have hg:(b.drop p)[i]=b[p+i]:=by rw[q270]
     refine⟨fun hne=>?_,fun he=>⟨i+1,⟨by omega,?_⟩,by omega,by omega⟩⟩
     ·unfold lV;rw[decide_eq_false_iff_not];rintro⟨_,e⟩;refine hne ?_;have e2:((b.drop p).take l.length)[i]?=l[i]?:=by rw[e]
      rw[q81,if_pos hlt,q62 hdl,q62 hlt,hg]at e2;simp only[qr]at e2;rw[e2]
     ·rw[q64 hlt,q64 hdl,ht,hg];congr 2;exact q192.1 (by omega)
    ·simp[hlt];unfold lV;have hil:i=l.length:=by omega
     rw[hil,q155]at ht;simp[hle,ht]
  ·have hle':(b.length:Int)<(p:Int)+(l.length:Int):=by omega
   have hno:lV b p l=false:=by unfold lV;simp[hle]
   simp[w1,hle',hno]
 ·cases h
def oI:aL Tryz.prog 122 C0:=by
 intro ys φ r h hφ;unfold C0 at h;split at h
 ·rename_i rb p;obtain⟨b,hb,h⟩:=q900.1 h;cases h;cases aK hb;obtain⟨hl,hp1,hp2⟩:=hφ;refine aq (ag KW (ag Mr ah)) (by kernel_rfl) (by conv=>lhs;reduce) (by simp) ?_;by_cases h0:p<0\/(b.length:Int)<=p
  ·have ht:ai b p=(0,p,10):=by unfold ai;rw[if_pos h0]
   by_cases hp0:p<0;·simp[hp0,ht]
   ·have hbp:(b.length:Int)<=p:=by omega
    simp[hp0,hbp,ht]
  ·obtain⟨q,rfl⟩:=q145 (show 0<=p by omega);have ht:ai b q=(((bW (b.drop q) 0 0).1:Int),(q:Int)+((bW (b.drop q) 0 0).2.1:Int),(bW (b.drop q) 0 0).2.2):=by unfold ai;rw[if_neg h0];rfl
   have hq0:¬(q:Int)<0:=by omega
   have hq1:¬(b.length:Int)<=q:=by omega
   have hq2:¬b.length<=q:=by omega
   rw[ht];simp[hq0,hq1,hq2];generalize hD:b.drop q=D;have hDl:D.length+q=b.length:=by rw[<-hD];simp;omega
   refine au (fun i:Nat=>i<=D.length/\i<=9/\(∀x∈D.take i,128<=x.toNat)/\bW D 0 0=bW (D.drop i) i (val (D.take i))) (fun i=>⟨[(0,.pv (.ro (bytesRow b))),(1,.pv (.int .i64 q)),(7,.pv (.int .u64 (val (D.take i)))),(8,.pv (.int .i64 i))],[]⟩) (fun i=>D.length-i) [] 0 ?_ ?_ ?_;·simp[val]
   ·simp[val]
   ·rintro i ⟨hi,hi9,hall,hG⟩;have w1:IntKind.i64.wrap ((i:Int)+1)=(i:Int)+1:=wrap_i64 (by omega);have w2:IntKind.i64.wrap (7*(i:Int))=7*(i:Int):=wrap_i64 (by omega);have w3:IntKind.i64.wrap ((q:Int)+(i:Int))=(q:Int)+(i:Int):=wrap_i64 (by omega);have w4:IntKind.i64.wrap ((q:Int)+(i:Int)+1)=(q:Int)+(i:Int)+1:=wrap_i64 (by omega);have hi10:(i:Int)<10:=by omega
    by_cases hlt:i<D.length
    ·have hlt1:(q:Int)+i<b.length:=by omega
     have hlt2:¬(b.length:Int)<=(q:Int)+i:=by omega
     have hqi:q+i<b.length:=by omega
     have r1:rowAt (bytesRow b) ((q:Int)+(i:Int))=[.int .u8 (D[i].toNat:Int)]:=by
      have h1:=R.bytesRow_at hqi;have h2:D[i]=b[q+i]:=by subst hD;rw[q270]
      rw[h2];simpa using h1
     have hq3:0<=(q:Int)+i:=by omega
     rw[q93 hlt,bW]at hG;have hc:=D[i].toNat_lt;have hn:=R6 (D.take i);have htl:(D.take i).length=i:=by simp;omega
     rw[htl]at hn;have hcm:D[i].toNat%128<=127:=by omega
     have hn':=KN hn hcm;have hv:val (D.take (i+1))=val (D.take i)+D[i].toNat%128*2^(7*i):=by rw[q64 hlt,qR,htl]
     have h63:i<=8->val (D.take i)+D[i].toNat%128*2^(7*i)<2^64:=fun h8=>by have:2^(7*(i+1))<=2^63:=q175 (by decide) (by omega);omega
     have h64:¬(i=9/\1<D[i].toNat)->val (D.take i)+D[i].toNat%128*2^(7*i)<2^64:=fun h=>by
      by_cases h9:i=9
      ·have hle:D[i].toNat%128*2^(7*i)<=1*2^(7*i):=q82 _ (by omega);have:2^(7*i)=2^63:=by rw[h9]
       omega
      ·exact h63 (by omega)
     have c1:IntKind.u64.wrap (D[i].toNat:Int)=(D[i].toNat:Int):=wrap_u64 (by omega);have hpw:2^(7*i)<=2^63:=q175 (by decide) (by omega);have c2:IntKind.u64.wrap (2^min (7*(i:Int)).toNat IntKind.u64.bits)=((2^(7*i):Nat):Int):=by
      have e1:min (7*(i:Int)).toNat IntKind.u64.bits=7*i:=by
       have:(7*(i:Int)).toNat=7*i:=by omega
       rw[this];exact q103 (show 7*i<=64 by omega)
      rw[e1,show((2:Int)^(7*i))=((2^(7*i):Nat):Int) from by simp];exact wrap_u64 (by omega)
     by_cases hA:i=9/\1<D[i].toNat
     ·rw[if_pos (.inl hA)]at hG;obtain⟨h9,h1c⟩:=hA;have h9':((i:Int)=9)=True:=eq_true (by omega);have h1c':(1:Int)<(D[i].toNat:Int):=by omega
      simp[w1,w2,w3,w4,hi10,hlt1,hlt2,hq3,r1,c1,c2,h9',h1c',hG];omega
     ·have hN:=h64 hA;obtain⟨M,hM⟩:∃M,M=D[i].toNat%128*2^(7*i):=⟨_,rfl⟩;have c3:IntKind.u64.wrap ((D[i].toNat:Int).tmod 128*2^(7*i))=(M:Int):=by
       have e0:(D[i].toNat:Int).tmod 128=((D[i].toNat%128:Nat):Int):=by rw[q169 (by omega)];omega
       rw[e0,hM,show((D[i].toNat%128:Nat):Int)*2^(7*i)=((D[i].toNat%128*2^(7*i):Nat):Int) from by simp];exact wrap_u64 (by omega)
      obtain⟨V,hV⟩:∃V,V=val (D.take (i+1)):=⟨_,rfl⟩;have hVM:V=val (D.take i)+M:=by rw[hV,hv,hM]
      have c4:IntKind.u64.wrap ((val (D.take i):Int)+(M:Int))=(V:Int):=by rw[show((val (D.take i):Int)+(M:Int))=((val (D.take i)+M:Nat):Int) from by simp,<-hVM];exact wrap_u64 (by omega)
      have hV64:(V:Int)<=18446744073709551615:=by omega
      have hp:bk (V:Int)=bj V:=by rw[bk,q66]
      have hpl:(bj V).length<=10:=uT 9 V (by omega);have hpl9:(bj V).length<=1000000000:=by omega
      have h7:0<=7*(i:Int):=by omega
      have hq9:(q:Int)<=1000000000:=by omega
      have hA1:(i:Int)=9->¬1<(D[i].toNat:Int):=fun h1 h2=>hA ⟨by omega,by omega⟩;have hA2:((i:Int)=9->(D[i].toNat:Int)<=1)=True:=eq_true fun h1=>by have:=hA1 h1;omega
      by_cases h128:D[i].toNat<128
      ·have h128i:(D[i].toNat:Int)<128:=by omega
       by_cases h00:D[i].toNat=0/\0<i
       ·rw[if_pos (.inr h00)]at hG;have hlt7:(bj V).length<=i:=by
         obtain⟨k,rfl⟩:∃k,i=k+1:=⟨i-1,by omega⟩;refine uT k V ?_;have:M=0:=by rw[hM,h00.1];simp
         omega
        have hne:¬((i:Int)+1=((bj V).length:Int)):=by omega
        by_cases hst:lV b q (bj V)=true;·simp[w1,w2,w3,w4,hi10,hlt1,hlt2,hq3,r1,c1,c2,c3,c4,hV64,hp,hpl9,h7,hq9,hA2,h128i,hst,hne,hG,hl]
        ·have hst':lV b q (bj V)=false:=by simpa using hst
         simp[w1,w2,w3,w4,hi10,hlt1,hlt2,hq3,r1,c1,c2,c3,c4,hV64,hp,hpl9,h7,hq9,hA2,h128i,hst',hne,hG,hl]
       ·rw[if_neg (by rintro(h|h);exact hA h;exact h00 h),if_pos h128]at hG;rw[<-hM,<-hVM]at hG;have hpe:bj V=D.take (i+1):=by
         have:=vo (D.take i) D[i] hall h128 (by
          by_cases hc0:D[i].toNat=0
          ·right;have:i=0:=by omega
           subst this;simp
          ·exact .inl hc0);rw[<-q64 hlt]at this;rw[hV,this]
        have hle1:(bj V).length=i+1:=by rw[hpe];simp;omega
        have heq:((i:Int)+1=((bj V).length:Int))=True:=eq_true (by omega);have hst:lV b q (bj V)=true:=by unfold lV;rw[hD,hle1,hpe];simp;omega
        simp[w1,w2,w3,w4,hi10,hlt1,hlt2,hq3,r1,c1,c2,c3,c4,hV64,hp,hpl9,h7,hq9,hA2,h128i,hst,heq,hG,hl];omega
      ·have h128i:¬(D[i].toNat:Int)<128:=by omega
       rw[if_neg (by rintro(h|h);exact hA h;omega),if_neg h128]at hG;rw[<-hM,<-hVM]at hG;simp[w1,w2,w3,w4,hi10,hlt1,hlt2,hq3,r1,c1,c2,c3,c4,hV64,hp,hpl9,h7,hq9,hA2,h128i];have hi8:i<=8:=by have:¬i=9:=fun h9=>hA ⟨h9,by omega⟩;omega
       have hall':∀x∈D.take (i+1),128<=x.toNat:=by
        intro x hx;rw[q64 hlt,q75]at hx;rcases hx with hx|hx;·exact hall x hx
        ·simp only[q73]at hx;subst hx;omega
       exact⟨fun a1 a2=>absurd a2 (hA1 a1),i+1,⟨by omega,by omega,hall',by rw[hG,hV]⟩,⟨by rw[hV],by omega⟩,by omega⟩
    ·have hd:D.drop i=[]:=by rw[q222];omega
     have he:bW D 0 0=(0,0,10):=by rw[hG,hd];rfl
     have hlt2:(b.length:Int)<=(q:Int)+i:=by omega
     simp[w1,w2,w3,hi10,hlt2,he]
 ·cases h
def yU (oI:aL Tryz.prog 122 C0):aL Tryz.prog 123 AX:=by
 intro ys φ r h hφ;unfold AX at h;split at h
 ·rename_i rb p;obtain⟨b,hb,h⟩:=q900.1 h;cases h;cases aK hb;obtain⟨hl,hp1,hp2⟩:=hφ;refine aq (ag oI ah) (by kernel_rfl) (by conv=>lhs;reduce) (by simp) ?_;obtain⟨k1,k2,k3,k4,k5⟩:=cJ b p;have hT:az b p=if(ai b p).2.2≠0 then([],p,(ai b p).2.2) else if(b.length:Int)-(ai b p).2.1<(ai b p).1 then([],p,10) else((b.drop (ai b p).2.1.toNat).take (ai b p).1.toNat,(ai b p).2.1+(ai b p).1,0):=rfl;generalize az b p=T at*;obtain⟨n,q,e,hL⟩:∃n q e,ai b p=(n,q,e):=⟨_,_,_,rfl⟩;rw[hL]at k1 k2 k3 k4 k5 hT;dsimp only at k1 k2 k3 k4 k5 hT;have w2:IntKind.u64.wrap (b.length:Int)=(b.length:Int):=wrap_u64 (by omega);by_cases he:e=0
  ·obtain⟨j1,j2,j3⟩:=k1 he;subst he;by_cases hgt:(b.length:Int)<n;·rw[if_neg (by simp),if_pos (by omega)]at hT;subst hT;simp[hl,hp1,hp2,hL,w2,hgt]
   ·have w3:IntKind.i64.wrap n=n:=wrap_i64 (by omega);have w4:IntKind.i64.wrap (q+n)=q+n:=wrap_i64 (by omega);by_cases hgt2:(b.length:Int)<q+n;·rw[if_neg (by simp),if_pos (by omega)]at hT;subst hT;simp[hl,hp1,hp2,hL,w2,w3,w4,hgt,hgt2]
    ·rw[if_neg (by simp),if_neg (by omega)]at hT;subst hT;have hc:cut (bytesRow b) q (q+n)=bytesRow ((b.drop q.toNat).take n.toNat):=by rw[PC,q214,show(q+n).toNat-q.toNat=n.toNat from by omega]
     simp[hl,hp1,hp2,hL,w2,w3,w4,hgt,hgt2,hc];exact⟨by omega,by omega,by omega,bV b⟩
  ·rw[if_pos he]at hT;subst hT;simp[hl,hp1,hp2,hL,he]
 ·cases h
structure Pn where
 i:Int
 v:Int
 u:Int deriving DecidableEq
def rowP (e:Pn):List PV:=[.int .u64 e.i,.int .u64 e.v,.int .u64 e.u]
def lk:∀a b,rowP a=rowP b->a=b:=by rintro⟨k,n,t⟩ ⟨k',n',t'⟩ h;simp only[rowP,q112,PV.int.injEq,true_and,and_true]at h;obtain⟨h1,h2,h3⟩:=h;rw[h1,h2,h3]
def ay (l:List Pn):List (List PV):=l.map rowP
@[simp] def Wa:ay []=[]:=rfl
@[simp] def c9 (l:List Pn):(ay l).length=l.length:=by simp[ay]
def gN (l m:List Pn):ay (l++m)=ay l++ay m:=by simp[ay]
def cz (l:List Pn):∀r∈ay l,r.length=3:=by intro r hr;simp only[ay,q83]at hr;obtain⟨c,_,rfl⟩:=hr;rfl
def dq {l:List Pn} (h:i<l.length):rowAt (ay l) (i:Int)=[.int .u64 l[i].i,.int .u64 l[i].v,.int .u64 l[i].u]:=by simp[rowAt,ay,h,rowP]
@[simp] def VU (l:List Pn):dec rowP (ay l)=some l:=jl lk l
def aM {l:List Pn} (h:dec rowP rows=some l):rows=ay l:=jq h
def aV (l:List Pn):bP (ay l):=by intro r hr p hp;simp only[ay,q83]at hr;obtain⟨c,_,rfl⟩:=hr;simp only[rowP,q78,q102,or_false]at hp;rcases hp with rfl|rfl|rfl<;>rfl
def eD (l:List Pn):Bool:=(List.range (l.length-1)).all fun k=>match l[k]?,l[k+1]? with|some a,some b=>decide (a.i<b.i)|_,_=>true
def sH (l:List Pn):eD l=true↔∀(k:Nat) (h:k+1<l.length),l[k].i<l[k+1].i:=by
 unfold eD;rw[q85];constructor;·intro h k hk;have:=h k (by rw[q142];omega);rw[q62 (by omega),q62 hk]at this;simpa using this
 ·intro h k hk;rw[q142]at hk;rw[q62 (by omega),q62 (show k+1<l.length by omega)];simpa using h k (by omega)
def Hs {l:List Pn} (h:k+1<l.length) (hk:l[k+1].i<=l[k].i):eD l=false:=by cases hr:eD l with|false=>rfl|true=>have:=(sH l).1 hr k h;omega
@[simp] noncomputable def GpR:List AV->Option (Prop×AV)|[.agg [.pv (.ro a)]]=>(dec rowP a).map fun l=>(l.length<=1000000000,.pv (.bool (eD l)))|_=>none
@[simp] noncomputable def GrR:List AV->Option (Prop×AV)|[.pv (.ro a)]=>(dec rowP a).map fun l=>(l.length<=1000000000,.pv (.bool (eD l)))|_=>none
def xV:aL Tryz.prog 109 GpR:=by
 intro ys φ r h hφ;unfold GpR at h;split at h
 ·rename_i ra;obtain⟨a,ha,h⟩:=q900.1 h;cases h;cases aM ha;refine aq ah (by kernel_rfl) (by conv=>lhs;reduce) (by simp) ?_;simp;refine au (fun i:Nat=>i<=a.length/\∀(k:Nat) (h:k+1<a.length),k+1<i->a[k].i<a[k+1].i) (fun i=>⟨[(1,.ptr 1 0),(6,.pv (.int .i64 a.length)),(7,.pv (.int .i64 i))],[(1,.box [.pv (.ro (ay a))])]⟩) (fun i=>a.length-i) [] 0 ?_ ?_ ?_;·exact⟨q95 _,fun k h h2=>absurd h2 (by omega)⟩
  ·simp
  ·rintro i ⟨hi,ht⟩;have w2:IntKind.i64.wrap ((i:Int)+1)=(i:Int)+1:=wrap_i64 (by omega);have w3:IntKind.i64.wrap ((i:Int)-1)=(i:Int)-1:=wrap_i64 (by omega);by_cases hlt:i<a.length
   ·have r1:=dq hlt;by_cases h0:i=0;·subst h0;have wm:IntKind.i64.wrap (-1)=-1:=wrap_i64 (by omega);have rm:rowAt (ay a) (-1)=[.int .u64 a[0].i,.int .u64 a[0].v,.int .u64 a[0].u]:=r1;have rz:rowAt (ay a) 0=[.int .u64 a[0].i,.int .u64 a[0].v,.int .u64 a[0].u]:=r1;simp[hlt,rm,rz,wm];exact⟨1,⟨by omega,fun k h h2=>absurd h2 (by omega)⟩,by rw[wrap_i64 (by omega)];rfl,by omega⟩
    ·obtain⟨k,hik⟩:∃k,i=k+1:=⟨i-1,by omega⟩;have hk:k<a.length:=by omega
     have r2:=dq hk;have w3:IntKind.i64.wrap ((i:Int)-1)=(k:Int):=by rw[wrap_i64 (by omega)];omega
     have h0i:0<i:=by omega
     simp[w2,w3,hlt,hk,r1,r2,h0i];subst hik;refine⟨fun h=>Hs (k:=k) hlt h,fun h=>⟨k+2,⟨by omega,fun j hj h2=>?_⟩,by omega,by omega⟩⟩;by_cases hjk:j=k;·subst hjk;exact h
     ·exact ht j hj (by omega)
   ·simp[hlt];rw[sH];exact fun k h=>ht k h (by omega)
 ·cases h
@[simp] noncomputable def GS1:List AV->Option (Prop×AV)|[.agg [.pv (.int .u64 a),.pv (.int .u64 b),.pv (.int .u64 c)],.agg [.pv (.int .u64 d),.pv (.int .u64 e),.pv (.int .u64 f)]]=>some (True,.pv (.bool (decide (a=d)&&(decide (b=e)&&decide (c=f)))))|_=>none
def c_S1:aL Tryz.prog 137 GS1:=by
 intro ys φ r h hφ;unfold GS1 at h;split at h;·cases h;refine aq ah (by kernel_rfl) (by conv=>lhs;reduce) (by simp) ?_;simp
 ·cases h
@[simp] noncomputable def GrS:List AV->Option (Prop×AV)|[.pv (.ro a),.pv (.ro b)]=>(dec rowP a).bind fun la=>(dec rowP b).map fun lb=>(la.length<=1000000000,.pv (.bool (decide (la=lb))))|_=>none
@[simp] noncomputable def GEq:List AV->Option (Prop×AV)|[.pv (.ro a),.pv (.ro b),.bI f []]=>if f=137 then(dec rowP a).bind fun la=>(dec rowP b).map fun lb=>(la.length<=1000000000,.pv (.bool (decide (la=lb)))) else none|_=>none
def Q2:gz Tryz.prog 137=true:=by kernel_rfl
def c_Eq:aL Tryz.prog 136 GEq:=by
 intro ys φ r h hφ;unfold GEq at h;split at h
 ·rename_i ra rb f;split at h
  ·rename_i hf;subst hf;obtain⟨a,ha,h⟩:=qB.1 h;obtain⟨b,hb,h⟩:=q900.1 h;cases h;cases aM ha;cases aM hb;refine aq (ag c_S1 ah) (by kernel_rfl) (by conv=>lhs;reduce) (by simp) ?_;simp;refine⟨fun hne=>?_,fun hlen=>?_⟩;·intro e;exact hne (by rw[e])
   refine au (fun i:Nat=>i<=a.length/\a.take i=b.take i) (fun i=>⟨[(0,.pv (.ro (ay a))),(1,.pv (.ro (ay b))),(2,.bI 137 []),(15,.pv (.ro (ay a))),(16,.pv (.int .i64 a.length)),(17,.pv (.int .i64 i))],[]⟩) (fun i=>a.length-i) [] 0 (by simp) ?_ ?_;·simp
   ·rintro i ⟨hi,ht⟩;have w2:IntKind.i64.wrap ((i:Int)+1)=(i:Int)+1:=wrap_i64 (by omega);by_cases hlt:i<a.length
    ·have r1:=dq hlt;have hlb:i<b.length:=by omega
     have r2:=dq hlb;simp[w2,hlt,hlb,r1,r2,Q2];refine⟨fun hne e=>by subst e;simp at hne,fun h1 h2 h3=>⟨i+1,⟨by omega,?_⟩,by omega,by omega⟩⟩;rw[q64 hlt,q64 hlb,ht];congr 2;exact lk _ _ (by simp only[rowP,h1,h2,h3])
    ·simp[hlt];rw[List.take_of_length_le (by omega),List.take_of_length_le (by omega)]at ht;exact ht
  ·cases h
 ·cases h
@[simp] noncomputable def GpS:List AV->Option (Prop×AV)|[.agg [.pv (.ro a)],.agg [.pv (.ro b)]]=>(dec rowP a).bind fun la=>(dec rowP b).map fun lb=>(la.length<=1000000000,.pv (.bool (decide (la=lb))))|_=>none
def Nv:aL Tryz.prog 96 GpS:=by
 intro ys φ r h hφ;unfold GpS at h;split at h;·rename_i ra rb;obtain⟨a,ha,h⟩:=qB.1 h;obtain⟨b,hb,h⟩:=q900.1 h;cases h;cases aM ha;cases aM hb;refine aq (ag c_Eq ah) (by kernel_rfl) (by conv=>lhs;reduce) (by simp) ?_;simp;exact hφ
 ·cases h
@[simp] noncomputable def Gpref:List AV->Option (Prop×AV)|[.agg [.pv (.ro a)]]=>(dec rowP a).map fun l=>(l.length<=100000000,.fr 205 (ay l))|_=>none
@[simp] noncomputable def GpCl:List AV->Option (Prop×AV)|[.pv (.ro a)]=>(dec rowP a).map fun l=>(l.length<=100000000,.fr 177 (ay l))|_=>none
def rK:aL Tryz.prog 88 GpCl:=by
 intro ys φ r h hφ;unfold GpCl at h;split at h;·rename_i ra;obtain⟨a,ha,h⟩:=q900.1 h;cases h;cases aM ha;refine aq ah (by kernel_rfl) (by conv=>lhs;reduce) (by simp) ?_;cases a with|nil=>simp[kP]|cons x l=>have hx:ay (x::l)=rowP x::ay l:=rfl;simp[hx,aF];simp only[q70]at hφ;exact⟨by omega,by omega,rfl,cz l⟩
 ·cases h
@[simp] noncomputable def GOf1:List AV->Option (Prop×AV)|[.agg [.pv (.int .u64 a),.pv (.int .u64 b),.pv (.int .u64 c)],.rp [.int .u64 n]]=>some (True,.pv (.bool (decide (b=n))))|_=>none
@[simp] noncomputable def aa0:List AV->Option (Prop×AV)|[.agg [.pv (.int .u64 a),.pv (.int .u64 b),.pv (.int .u64 c)],.rp [.int .u64 n]]=>some (True,.pv (.bool (decide (a=n))))|_=>none
def aal:aL Tryz.prog 232 aa0:=by
 intro ys φ r h hφ;unfold aa0 at h;split at h;·cases h;refine aq ah (by kernel_rfl) (by conv=>lhs;reduce) (by simp) ?_;simp
 ·cases h
def WC (f:FuncId) (n:Int) (e:Pn):Bool:=decide (e.i=n)
def qq (p:Pn->Bool) (l:List Pn):Int:=if l.findIdx p<l.length then(l.findIdx p:Nat) else-1
def AA {p:Pn->Bool}{l:List Pn} (hi:i<l.length) (h:p l[i]=true) (ha:∀e∈l.take i,p e=false):qq p l=(i:Int):=by
 have:l.findIdx p=i:=by rw[q173 hi];refine⟨h,fun j hj=>?_⟩;exact ha l[j] (by rw[q90];exact⟨j,by omega,rfl⟩)
 unfold qq;rw[this,if_pos hi]
def kR {p:Pn->Bool}{l:List Pn} (ha:∀e∈l,p e=false):qq p l=-1:=by
 have:l.findIdx p=l.length:=by rw[q210];exact ha
 unfold qq;rw[this,if_neg (by omega)]
def Ki (p:Pn->Bool) (l:List Pn):(0<=qq p l)=(l.any p=true):=by
 apply propext;by_cases h:l.any p=true
 ·obtain⟨e,he,hr⟩:=q133.1 h;have:l.findIdx p<l.length:=by rw[q211];exact⟨e,he,hr⟩
  unfold qq;rw[if_pos this];simp[h]
 ·have h':l.any p=false:=by simpa using h
  rw[q146]at h';rw[kR fun e he=>by simpa using h' e he];simp[h]
@[simp] noncomputable def GIx:List AV->Option (Prop×AV)|[.pv (.ro a),.bI f [.rp [.int .u64 n]]]=>if f=232 then(dec rowP a).map fun l=>(l.length<=1000000000,.pv (.int .i64 (qq (WC f n) l))) else none|_=>none
def MT:gz Tryz.prog 232=true:=by kernel_rfl
def c_Ix:aL Tryz.prog 231 GIx:=by
 intro ys φ r h hφ;unfold GIx at h;split at h
 ·rename_i ra f n;split at h
  ·rename_i hf;obtain⟨a,ha,h⟩:=q900.1 h;cases h;cases aM ha;have hfn:gz Tryz.prog f=true:=by rw[hf];exact MT
   refine aq (ag aal ah) (by kernel_rfl) (by conv=>lhs;reduce) (by simp) ?_;simp;refine au (fun i:Nat=>i<=a.length/\∀e∈a.take i,WC f n e=false) (fun i=>⟨[(0,.pv (.ro (ay a))),(1,.bI f [.rp [.int .u64 n]]),(7,.pv (.int .i64 a.length)),(8,.pv (.int .i64 i))],[]⟩) (fun i=>a.length-i) [] 0 (by simp) ?_ ?_;·simp
   ·rintro i ⟨hi,ht⟩;have w2:IntKind.i64.wrap ((i:Int)+1)=(i:Int)+1:=wrap_i64 (by omega);by_cases hlt:i<a.length
    ·have r1:=dq hlt;have hr:WC f n a[i]=false->∀e∈a.take (i+1),WC f n e=false:=by
      intro h0 e he;rw[q64 hlt,q75]at he;rcases he with he|he;·exact ht e he
      ·rw[q73]at he;rw[he];exact h0
     subst hf;·have hp:WC 232 n a[i]=decide (a[i].i=n):=rfl;simp[w2,hlt,r1,hfn];refine⟨fun h=>(AA hlt (by rw[hp];simpa using h) ht).symm,fun h=>⟨i+1,⟨by omega,hr (by rw[hp];simpa using h)⟩,by omega,by omega⟩⟩
    ·simp[hlt];rw[List.take_of_length_le (by omega)]at ht;exact(kR ht).symm
  ·cases h
 ·cases h
def ez (n:Int):List PV:=[.int .u64 n]
def KU:∀a b,ez a=ez b->a=b:=by intro a b h;simpa[ez]using h
def b6 (l:List Int):List (List PV):=l.map ez
@[simp] def Uz:b6 []=[]:=rfl
@[simp] def NR (l:List Int):(b6 l).length=l.length:=by simp[b6]
def rV (l m:List Int):b6 (l++m)=b6 l++b6 m:=by simp[b6]
def jE {l:List Int} (h:i<l.length):rowAt (b6 l) (i:Int)=[.int .u64 l[i]]:=by simp[rowAt,b6,h,ez]
@[simp] def oy (l:List Int):dec ez (b6 l)=some l:=jl KU l
def eg {l:List Int} (h:dec ez rows=some l):rows=b6 l:=jq h
def iv (l:List UInt8):bP (bytesRow l):=by intro r hr p hp;simp only[bytesRow,q83]at hr;obtain⟨c,_,rfl⟩:=hr;simp only[q73]at hp;subst hp;rfl
def xw (l:List Int):bP (b6 l):=by intro r hr p hp;simp only[b6,q83]at hr;obtain⟨c,_,rfl⟩:=hr;simp only[ez,q73]at hp;subst hp;rfl
def cg (n:Int):Prop:=0<=n/\n<=18446744073709551615
def cW (l:List Int):List UInt8:=l.flatMap bk
def gU {n:Int} (h:cg n):(bk n).length<=10:=by obtain⟨h1,h2⟩:=h;unfold bk;exact uT 9 _ (by omega)
def nz:∀{l:List Int},(∀n∈l,cg n)->(cW l).length<=10*l.length|[],_=>by simp[cW]|n::l,h=>by have h1:=gU (h n (by simp));have h2:=nz (l:=l) fun m hm=>h m (by simp[hm]);unfold cW at h2 |-;simp only[q99,q65,q70];omega
def HX (l:List Int) (n:Int):cW (l++[n])=cW l++bk n:=by simp[cW]
noncomputable def Nb:List AV->Option (Prop×AV)|[.pv (.ro a)]=>(dec ez a).map fun l=>(l.length<=1000000/\(∀n∈l,cg n),.fr 5 (bytesRow (cW l)))|_=>none
@[simp] def M9 (a:List (List PV)):Nb [.pv (.ro a)]=(dec ez a).map fun l=>(l.length<=1000000/\(∀n∈l,cg n),.fr 5 (bytesRow (cW l))):=rfl
def Jo:aL Tryz.prog 33 Nb:=by
 intro ys φ r h hφ;unfold Nb at h;split at h
 ·rename_i ra;obtain⟨a,ha,h⟩:=q900.1 h;cases h;cases eg ha;obtain⟨hl,hn⟩:=hφ;refine aq (ag zL ah) (by kernel_rfl) (by conv=>lhs;reduce) (by simp) ?_;simp;refine au (fun i:Nat=>i<=a.length) (fun i=>⟨[(2,.own 2),(5,.pv (.ro (b6 a))),(6,.pv (.int .i64 a.length)),(7,.pv (.int .i64 i))],[(2,.arr 5 (bytesRow (cW (a.take i))))]⟩) (fun i=>a.length-i) [] 0 (by simp) ?_ ?_;·simp[cW]
  ·rintro i hi;have w2:IntKind.i64.wrap ((i:Int)+1)=(i:Int)+1:=wrap_i64 (by omega);by_cases hlt:i<a.length;·have r1:=jE hlt;have ho:=hn _ (q84 hlt);have h1:=gU ho;have h2:=nz (l:=a.take i) fun n h=>hn n (q96 h);rw[q68]at h2;obtain⟨o1,o2⟩:=ho;simp[w2,hlt,r1,aF,o1,o2];refine⟨⟨by omega,by omega,bV _⟩,i+1,by omega,⟨by omega,?_⟩,by omega⟩;rw[q64 hlt,HX,bY]
   ·simp[hlt];rw[List.take_of_length_le (by omega)]
 ·cases h
def iV (e:Pn):Prop:=cg e.i/\cg e.v/\cg e.u
def uC (e:Pn):List UInt8:=bk e.i++(bk e.v++bk e.u)
def bQ (l:List Pn):List UInt8:=l.flatMap uC
def jb (l:List Pn):List UInt8:=bk l.length++bQ l
def nW (e:Pn):cW [e.i,e.v,e.u]=uC e:=by simp[cW,uC]
def Dt {e:Pn} (h:iV e):(uC e).length<=30:=by have h1:=gU h.1;have h2:=gU h.2.1;have h3:=gU h.2.2;simp[uC];omega
def lA:∀{l:List Pn},(∀n∈l,iV n)->(bQ l).length<=30*l.length|[],_=>by simp[bQ]|n::l,h=>by have h1:=Dt (h n (by simp));have h2:=lA (l:=l) fun m hm=>h m (by simp[hm]);unfold bQ at h2 |-;simp only[q99,q65,q70];omega
def ER (l:List Pn) (n:Pn):bQ (l++[n])=bQ l++uC n:=by simp[bQ]
def Hj (a b c:Int):dec ez [[.int .u64 a],[.int .u64 b],[.int .u64 c]]=some [a,b,c]:=oy [a,b,c]
@[simp] noncomputable def Pb:List AV->Option (Prop×AV)|[.agg [.pv (.ro a)]]=>(dec rowP a).map fun l=>(l.length<=1000000/\(∀n∈l,iV n),.fr 5 (bytesRow (jb l)))|_=>none
def SD:aL Tryz.prog 112 Pb:=by
 intro ys φ r h hφ;unfold Pb at h;split at h
 ·rename_i ra;obtain⟨a,ha,h⟩:=q900.1 h;cases h;cases aM ha;obtain⟨hl,hn⟩:=hφ;refine aq (ag zL (ag Jo ah)) (by kernel_rfl) (by conv=>lhs;reduce) (by simp) ?_;have wl:IntKind.u64.wrap (a.length:Int)=(a.length:Int):=wrap_u64 (by omega);have l0:(0:Int)<=(a.length:Int):=by omega
  have l1:(a.length:Int)<=18446744073709551615:=by omega
  have hv:=gU (n:=(a.length:Int)) ⟨by omega,by omega⟩;simp[wl,l0,l1];refine au (fun i:Nat=>i<=a.length) (fun i=>⟨[(1,.ptr 1 0),(3,.own 10),(12,.pv (.ro (ay a))),(13,.pv (.int .i64 a.length)),(14,.pv (.int .i64 i))],[(1,.box [.pv (.ro (ay a))]),(10,.arr 5 (bytesRow (bk a.length++bQ (a.take i))))]⟩) (fun i=>a.length-i) [] 0 (by simp) ?_ ?_;·simp[bQ]
  ·rintro i hi;have w2:IntKind.i64.wrap ((i:Int)+1)=(i:Int)+1:=wrap_i64 (by omega);by_cases hlt:i<a.length
   ·have r1:=dq hlt;have ho:=hn _ (q84 hlt);have h1:=Dt ho;have h2:=lA (l:=a.take i) fun n h=>hn n (q96 h);rw[q68]at h2;obtain⟨o1,o2,o3⟩:=ho;simp[w2,hlt,r1,aF,o1,o2,o3,Hj,nW];first|refine⟨iv _,⟨by omega,by omega,bV _⟩,i+1,by omega,⟨by omega,?_⟩,by omega⟩|refine⟨⟨by omega,by omega,bV _⟩,i+1,by omega,⟨by omega,?_⟩,by omega⟩
    rw[q64 hlt,ER,<-q77,bY (bk _++_)]
   ·simp[hlt];rw[List.take_of_length_le (by omega)];rfl
 ·cases h
@[simp] noncomputable def GrPut:List AV->Option (Prop×AV)|[.pv (.ro a)]=>(dec rowP a).map fun l=>(l.length<=1000000/\(∀n∈l,iV n),.fr 5 (bytesRow (jb l)))|_=>none
def aH (b:List UInt8):Nat->Int->List Int×Int×Int|0,p=>([],p,0)|k+1,p=>if(ai b p).2.2≠0 then([],0,(ai b p).2.2) else if(aH b k (ai b p).2.1).2.2≠0 then([],0,(aH b k (ai b p).2.1).2.2) else((ai b p).1::(aH b k (ai b p).2.1).1,(aH b k (ai b p).2.1).2.1,0)
def bJ (b:List UInt8) (p:Int) (k:Nat):List Int×Int×Int:=if(aH b k p).2.2≠0 then([],p,(aH b k p).2.2) else aH b k p
def ahead (L:List Int) (q:List Int×Int×Int):List Int×Int×Int:=if q.2.2≠0 then([],0,q.2.2) else(L++q.1,q.2.1,0)
def Cx (b:List UInt8):∀(k:Nat) (p:Int),(aH b k p).2.2≠0->aH b k p=([],0,(aH b k p).2.2)
 |0,p,h=>absurd rfl h|k+1,p,h=>by
  unfold aH at h |-;split;·rfl
  ·split;·rfl
   ·rename_i h1 h2;rw[if_neg h1,if_neg h2]at h;exact absurd rfl h
def im (b:List UInt8):∀(k:Nat) (p:Int),(aH b k p).2.2=0->(aH b k p).1.length=k/\(∀n∈(aH b k p).1,cg n)/\p+k<=(aH b k p).2.1/\(0<k->0<=p/\(aH b k p).2.1<=b.length)
 |0,p,h=>by refine⟨rfl,fun n hn=>?_,by simp[aH],fun h=>absurd h (by omega)⟩;simp[aH]at hn|k+1,p,h=>by
  unfold aH at h |-;split at h;·rename_i h1;exact absurd h h1
  ·rename_i h1;rw[if_neg h1];split at h;·rename_i h2;exact absurd h h2
   ·rename_i h2;rw[if_neg h2];have e1:(ai b p).2.2=0:=by simpa using h1
    have e2:(aH b k (ai b p).2.1).2.2=0:=by simpa using h2
    obtain⟨g1,g2,g3,g4⟩:=im b k _ e2;obtain⟨o1,o2,o3,_⟩:=cJ b p;obtain⟨o1,o4,o5⟩:=o1 e1;refine⟨by simp[g1],fun n hn=>?_,by simp only;omega,fun _=>⟨o1,?_⟩⟩
    ·simp only[q78]at hn;rcases hn with rfl|hn;·exact⟨o2,o3⟩
     ·exact g2 n hn
    ·by_cases hk:0<k;·exact(g4 hk).2
     ·have:k=0:=by omega
      subst this;exact o5
def Is (b:List UInt8) (k:Nat) (p:Int):ahead [] (aH b k p)=aH b k p:=by
 unfold ahead;split;·rename_i h;exact(Cx b k p h).symm
 ·rename_i h;have:(aH b k p).2.2=0:=by simpa using h
  rw[<-this];rfl
def Ef (b:List UInt8) (L:List Int) (k:Nat) (p:Int) (h:(ai b p).2.2=0):ahead L (aH b (k+1) p)=ahead (L++[(ai b p).1]) (aH b k (ai b p).2.1):=by
 rw[aH,if_neg (by simpa using h)];by_cases h2:(aH b k (ai b p).2.1).2.2=0;·rw[if_neg (by simpa using h2)];simp[ahead,h2]
 ·rw[if_pos h2];simp[ahead,h2]
def H5 (b:List UInt8) (L:List Int) (k:Nat) (p:Int) (h:(ai b p).2.2≠0):ahead L (aH b (k+1) p)=([],0,(ai b p).2.2):=by rw[aH,if_pos h];simp[ahead,h]
@[simp] noncomputable def GtA:List AV->Option (Prop×AV)|[.pv (.ro b),.pv (.int .i64 p),.pv (.int .i64 k)]=>(dec dZ b).map fun l=>(l.length<=1000000000/\-9223372036854775808<=p/\p<=9223372036854775807/\0<=k/\k<=1000,.aN [.fr 22 (b6 (bJ l p k.toNat).1),.pv (.int .i64 (bJ l p k.toNat).2.1),.pv (.int .i64 (bJ l p k.toNat).2.2)])|_=>none
def uS:aL Tryz.prog 43 GtA:=by
 intro ys φ r h hφ;unfold GtA at h;split at h
 ·rename_i rb p K;obtain⟨b,hb,h⟩:=q900.1 h;cases h;cases aK hb;obtain⟨hl,hp1,hp2,hk1,hk2⟩:=hφ;obtain⟨k,rfl⟩:=q145 hk1;have hkk:((k:Nat):Int).toNat=k:=by simp
  rw[hkk];have hT:bJ b p k=if(aH b k p).2.2≠0 then([],p,(aH b k p).2.2) else aH b k p:=rfl;generalize bJ b p k=T at*;refine aq (ag tv ah) (by kernel_rfl) (by conv=>lhs;reduce) (by simp) ?_;simp;refine au (fun x:Nat×Int×List Int=>x.1<=k/\x.2.2.length=x.1/\-9223372036854775808<=x.2.1/\x.2.1<=9223372036854775807/\aH b k p=ahead x.2.2 (aH b (k-x.1) x.2.1)) (fun x=>⟨[(0,.pv (.ro (bytesRow b))),(1,.pv (.int .i64 p)),(6,.own 6),(7,.pv (.int .i64 x.2.1)),(13,.pv (.int .i64 k)),(14,.pv (.int .i64 x.1))],[(6,.arr 22 (b6 x.2.2))]⟩) (fun x=>k-x.1) [] (0,p,[]) ?_ ?_ ?_;·exact⟨q95 _,rfl,hp1,hp2,by rw[Is];rfl⟩
  ·simp
  ·rintro⟨i,q,L⟩ ⟨hi,hL,hq1,hq2,hG⟩;dsimp only at hi hL hq1 hq2 hG;have w2:IntKind.i64.wrap ((i:Int)+1)=(i:Int)+1:=wrap_i64 (by omega);by_cases hlt:i<k
   ·have hlti:(i:Int)<(k:Int):=by omega
    obtain⟨m,hm⟩:∃m,k-i=m+1:=⟨k-i-1,by omega⟩;rw[hm]at hG;obtain⟨k1,k2,k3,k4,k5⟩:=cJ b q;by_cases he:(ai b q).2.2=0;·obtain⟨j1,j2,j3⟩:=k1 he;rw[Ef b L m q he]at hG;simp[w2,hlti,hl,hq1,hq2,he,aF];exact⟨⟨by omega,by omega⟩,i+1,(ai b q).2.1,L++[(ai b q).1],⟨by omega,by simp[hL],by omega,by omega,by rw[hG,show k-(i+1)=m from by omega]⟩,⟨⟨rfl,by omega⟩,by rw[rV];rfl⟩,by omega⟩
    ·rw[H5 b L m q he]at hG;have hTe:T=([],p,(ai b q).2.2):=by rw[hT,hG];simp[he]
     simp[w2,hlti,hl,hq1,hq2,he,hTe]
   ·have hltn:¬(i:Int)<(k:Int):=by omega
    have hik:k-i=0:=by omega
    rw[hik]at hG;have hTe:T=(L,q,0):=by rw[hT,hG];simp[ahead,aH]
    simp[hltn,hTe]
 ·cases h
def FE:List Int->Pn|[a,b,c]=>⟨a,b,c⟩|_=>⟨0,0,0⟩
def aX (b:List UInt8):Nat->Int->Int->List Pn×Int×Int|0,_,q=>([],q,0)|f+1,n,q=>if n<=0 then([],q,0) else if(aH b 3 q).2.2≠0 then([],0,(aH b 3 q).2.2) else if(aX b f (n-1) (aH b 3 q).2.1).2.2≠0 then([],0,(aX b f (n-1) (aH b 3 q).2.1).2.2) else(FE (aH b 3 q).1::(aX b f (n-1) (aH b 3 q).2.1).1,(aX b f (n-1) (aH b 3 q).2.1).2.1,0)
def dM (b:List UInt8) (p:Int):List Pn×Int×Int:=if(ai b p).2.2≠0 then([],p,(ai b p).2.2) else if(aX b (b.length+1) (ai b p).1 (ai b p).2.1).2.2≠0 then([],p,(aX b (b.length+1) (ai b p).1 (ai b p).2.1).2.2) else if eD (aX b (b.length+1) (ai b p).1 (ai b p).2.1).1=false then([],p,2) else aX b (b.length+1) (ai b p).1 (ai b p).2.1
def gm (L:List Pn) (q:List Pn×Int×Int):List Pn×Int×Int:=if q.2.2≠0 then([],0,q.2.2) else(L++q.1,q.2.1,0)
def Cn (b:List UInt8):∀(k:Nat) (n p:Int),(aX b k n p).2.2≠0->aX b k n p=([],0,(aX b k n p).2.2)
 |0,n,p,h=>absurd rfl h|k+1,n,p,h=>by
  unfold aX at h |-;split;·rename_i h0;rw[if_pos h0]at h;exact absurd rfl h
  ·rename_i h0;rw[if_neg h0]at h;split;·rfl
   ·split;·rfl
    ·rename_i h1 h2;rw[if_neg h1,if_neg h2]at h;exact absurd rfl h
def wY (b:List UInt8) (k:Nat) (n p:Int):gm [] (aX b k n p)=aX b k n p:=by
 unfold gm;split;·rename_i h;exact(Cn b k n p h).symm
 ·rename_i h;have:(aX b k n p).2.2=0:=by simpa using h
  rw[<-this];rfl
def uo (b:List UInt8) (L:List Pn) (k:Nat) (n p:Int) (hn:0<n) (h:(aH b 3 p).2.2=0):gm L (aX b (k+1) n p)=gm (L++[FE (aH b 3 p).1]) (aX b k (n-1) (aH b 3 p).2.1):=by
 rw[aX,if_neg (by omega),if_neg (by simpa using h)];by_cases h2:(aX b k (n-1) (aH b 3 p).2.1).2.2=0;·rw[if_neg (by simpa using h2)];simp[gm,h2]
 ·rw[if_pos h2];simp[gm,h2]
def u7 (b:List UInt8) (L:List Pn) (k:Nat) (n p:Int) (hn:0<n) (h:(aH b 3 p).2.2≠0):gm L (aX b (k+1) n p)=([],0,(aH b 3 p).2.2):=by rw[aX,if_neg (by omega),if_pos h];simp[gm,h]
def vA (b:List UInt8) (L:List Pn) (k:Nat) (n p:Int) (hn:n<=0):gm L (aX b k n p)=(L,p,0):=by cases k with|zero=>simp[aX,gm]|succ k=>rw[aX,if_pos hn];simp[gm]
def nU {b:List UInt8}{q:Int} (h:(aH b 3 q).2.2=0):∃x y z,(aH b 3 q).1=[x,y,z]/\cg x/\cg y/\cg z:=by obtain⟨h1,h2,_⟩:=im b 3 q h;match hl:(aH b 3 q).1,h1 with|[x,y,z],_=>rw[hl]at h2;exact⟨x,y,z,rfl,h2 x (by simp),h2 y (by simp),h2 z (by simp)⟩
@[simp] noncomputable def GrTk:List AV->Option (Prop×AV)|[.pv (.ro b),.pv (.int .i64 p)]=>(dec dZ b).map fun l=>(l.length<=100000000/\-9223372036854775808<=p/\p<=9223372036854775807,.aN [.fr 205 (ay (dM l p).1),.pv (.int .i64 (dM l p).2.1),.pv (.int .i64 (dM l p).2.2)])|_=>none
def I6 (p:Int) (R:List Pn×Int×Int):List Pn×Int×Int:=if R.2.2≠0 then([],p,R.2.2) else if eD R.1=false then([],p,2) else R
def Iv (b:List UInt8) (p:Int) (h:(ai b p).2.2=0):dM b p=I6 p (aX b (b.length+1) (ai b p).1 (ai b p).2.1):=by unfold dM;rw[if_neg (by simpa using h)];rfl
def I2:List Pn->List (Nat×AO)|[]=>[(4,.box [.pv .nil])]|x::l=>[(4,.box [.own 44]),(44,.arr 177 (ay (x::l)))]
@[simp] noncomputable def Zv:List AV->Option (Prop×AV)|[.pv (.ro b),.pv (.int .i64 p)]=>(dec dZ b).map fun l=>(l.length<=100000000/\-9223372036854775808<=p/\p<=9223372036854775807,.aN [.agg [.fr 177 (ay (dM l p).1)],.pv (.int .i64 (dM l p).2.1),.pv (.int .i64 (dM l p).2.2)])|_=>none
def abf:aL Tryz.prog 82 Zv:=by
 intro ys φ r h hφ;unfold Zv at h;split at h
 ·rename_i rb p;obtain⟨b,hb,h⟩:=q900.1 h;cases h;cases aK hb;obtain⟨hl8,hp1,hp2⟩:=hφ;have hl:b.length<=1000000000:=by omega
  refine aq (ag tv (ag uS (ag xV ah))) (by kernel_rfl) (by conv=>lhs;reduce) (by simp) ?_;obtain⟨k1,k2,k3,k4,k5⟩:=cJ b p;have hT1:=Iv b p;have hT2:(ai b p).2.2≠0->dM b p=([],p,(ai b p).2.2):=fun h=>by unfold dM;rw[if_pos h]
  generalize hP:dM b p=T at*;simp[hl,hp1,hp2];generalize(ai b p).1=n at*;generalize(ai b p).2.1=q0 at*;generalize(ai b p).2.2=e0 at*;have h3:(3:Int).toNat=3:=rfl;have hinf:(Tryz.prog.info? 177).isSome=true:=by kernel_rfl
  refine au (fun x:Nat×Int×List Pn×Int×Int=>0<=x.2.2.2.1/\x.2.2.2.1<=18446744073709551615/\-9223372036854775808<=x.2.1/\x.2.1<=9223372036854775807/\(x.2.2.2.2=0->T=I6 p (gm x.2.2.1 (aX b x.1 x.2.2.2.1 x.2.1))/\0<=x.2.1/\x.2.1<=b.length/\(b.length:Int)<x.1+x.2.1/\(x.2.2.1.length:Int)<=x.2.1)/\(x.2.2.2.2≠0->T=([],p,x.2.2.2.2))) (fun x=>⟨[(0,.pv (.ro (bytesRow b))),(1,.pv (.int .i64 p)),(4,.ptr 4 0),(5,.pv (.int .i64 x.2.1)),(6,.pv (.int .i64 x.2.2.2.2)),(7,.pv (.int .u64 x.2.2.2.1))],I2 x.2.2.1⟩) (fun x=>if x.2.2.2.2=0 then(b.length-x.2.1).toNat+1 else 0) [] (b.length+1,q0,[],n,e0) ?_ ?_ ?_
  ·refine⟨k2,k3,?_,?_,fun h=>⟨?_,?_⟩,hT2⟩
   ·show-9223372036854775808<=q0;by_cases he:e0=0;·have:=k1 he;omega
    ·have:=k4 he;omega
   ·show q0<=9223372036854775807;by_cases he:e0=0;·have:=k1 he;omega
    ·have:=k4 he;omega
   ·rw[wY];exact hT1 h
   ·have:=k1 h;exact⟨by show 0<=q0;omega,by show q0<=b.length;omega,by show(b.length:Int)<(b.length+1:Nat)+q0;omega,by show(0:Int)<=q0;omega⟩
  ·simp[I2]
  ·rintro⟨f,q,acc,m,e⟩ ⟨hm0,hm1,hq1,hq2,hz,hnz⟩;dsimp only at hm0 hm1 hq1 hq2 hz hnz;by_cases he:e=0
   ·subst he;obtain⟨hG,g1,g2,g3,g4⟩:=hz rfl;clear hz hnz;have hacc:acc.length<=1000000000:=by omega
    by_cases hlt:0<m
    ·obtain⟨f,rfl⟩:∃g,f=g+1:=⟨f-1,by omega⟩;have wl:IntKind.u64.wrap (m-1)=m-1:=wrap_u64 (by omega);by_cases h0:(aH b 3 q).2.2=0
     ·obtain⟨x,y,z,hx,o1,o2,o3⟩:=nU h0;obtain⟨_,_,i3,i4⟩:=im b 3 q h0;have i4:=(i4 (by omega)).2;have hA:bJ b q 3=([x,y,z],(aH b 3 q).2.1,0):=by unfold bJ;rw[if_neg (by simpa using h0),<-hx,<-h0]
      rw[uo b acc f m q hlt h0,hx]at hG;have hr:b6 [x,y,z]=[[.int .u64 x],[.int .u64 y],[.int .u64 z]]:=rfl;have r0:rowAt [[PV.int .u64 x],[.int .u64 y],[.int .u64 z]] 0=[.int .u64 x]:=rfl;have r1:rowAt [[PV.int .u64 x],[.int .u64 y],[.int .u64 z]] 1=[.int .u64 y]:=rfl;have r2:rowAt [[PV.int .u64 x],[.int .u64 y],[.int .u64 z]] 2=[.int .u64 z]:=rfl;cases acc with
      |nil=>
       simp[wl,hlt,hl,hq1,hq2,h3,hA,hr,aF,r0,r1,r2,hinf,I2];refine⟨f,(aH b 3 q).2.1,[FE [x,y,z]],m-1,0,⟨by omega,by omega,by omega,by omega,fun _=>⟨hG,by omega,i4,by omega,by simp;omega⟩,fun h=>absurd rfl h⟩,⟨⟨?_,rfl,rfl,rfl⟩,?_⟩,?_⟩;·simp
       ·simp[ay,rowP,FE]
       ·rw[if_pos rfl];omega|cons c acc=>
       simp[wl,hlt,hl,hq1,hq2,h3,hA,hr,aF,r0,r1,r2,hinf,I2];simp only[q70]at hacc g4;refine⟨⟨by omega,by omega⟩,f,(aH b 3 q).2.1,c::(acc++[FE [x,y,z]]),m-1,0,⟨by omega,by omega,by omega,by omega,fun _=>⟨hG,by omega,i4,by omega,by simp;omega⟩,fun h=>absurd rfl h⟩,⟨⟨?_,rfl,rfl,rfl⟩,?_⟩,?_⟩;·simp
       ·simp[ay,rowP,FE]
       ·rw[if_pos rfl];omega
     ·have hA:bJ b q 3=([],q,(aH b 3 q).2.2):=by unfold bJ;rw[if_pos h0]
      rw[u7 b acc f m q hlt h0]at hG;have hTe:T=([],p,(aH b 3 q).2.2):=by rw[hG];simp[I6,h0]
      cases acc with|nil=>
       simp[wl,hlt,hl,hq1,hq2,h3,hA,h0,hinf,I2];refine⟨f,q,[],m,(aH b 3 q).2.2,⟨hm0,hm1,hq1,hq2,fun h=>absurd h h0,fun _=>hTe⟩,⟨⟨?_,rfl,rfl,rfl⟩,?_⟩,?_⟩;·simp
       ·simp
       ·rw[if_neg h0];omega|cons c acc=>
       simp[wl,hlt,hl,hq1,hq2,h3,hA,h0,hinf,I2];refine⟨f,q,c::acc,m,(aH b 3 q).2.2,⟨hm0,hm1,hq1,hq2,fun h=>absurd h h0,fun _=>hTe⟩,⟨⟨?_,rfl,rfl,rfl⟩,?_⟩,?_⟩;·simp
       ·simp
       ·rw[if_neg h0];omega
    ·rw[vA b acc f m q (by omega)]at hG;by_cases hrs:eD acc=false
     ·have hTe:T=([],p,2):=by rw[hG];simp[I6,hrs]
      cases acc with|nil=>cases hrs|cons c acc=>simp[hlt,hacc,hrs,hTe,hinf,I2];simp only[q70]at hacc;omega
     ·have hrs':eD acc=true:=by simpa using hrs
      have hTe:T=(acc,q,0):=by rw[hG];simp[I6,hrs']
      cases acc with|nil=>simp[hlt,hacc,hrs',hTe,hinf,I2]|cons c acc=>simp[hlt,hacc,hrs',hTe,hinf,I2];simp only[q70]at hacc;omega
   ·have hTe:=hnz he;cases acc with|nil=>simp[he,hTe,hinf,I2]|cons c acc=>simp[he,hTe,hinf,I2]
 ·cases h
def tQ (n u s:Int):Bool:=decide (u+s<n)
@[simp] noncomputable def QC:List AV->Option (Prop×AV)|[.pv (.int .u64 n),.pv (.int .u64 u),.pv (.int .u64 s)]=>some (cg n/\cg u/\cg s,.pv (.bool (tQ n u s)))|_=>none
def Sk:aL Tryz.prog 235 QC:=by
 intro ys φ r h hφ;unfold QC at h;split at h
 ·rename_i n u s;cases h;obtain⟨⟨n1,n2⟩,⟨u1,u2⟩,⟨s1,s2⟩⟩:=hφ;refine aq ah (by kernel_rfl) (by conv=>lhs;reduce) (by simp) ?_;unfold tQ;by_cases hc:u+s<18446744073709551616
  ·have e1:(u+s)/18446744073709551616=0:=by omega
   have e2:(u+s)%18446744073709551616=u+s:=by omega
   simp[e1,e2,u1,s1]
  ·have e1:(u+s)/18446744073709551616=1:=by omega
   have e2:¬(u+s<n):=by omega
   simp[e1,e2,u1,s1]
 ·cases h
@[simp] noncomputable def Zj:List AV->Option (Prop×AV)|[.agg [.pv (.int .u64 a),.pv (.int .u64 b),.pv (.int .u64 c)],.rp [.int .u64 n],.rp [.int .u64 s]]=>some (cg n/\cg c/\cg s,.pv (.bool (tQ n c s)))|_=>none
def Ql:aL Tryz.prog 234 Zj:=by
 intro ys φ r h hφ;unfold Zj at h;split at h;·cases h;obtain⟨h1,h2,h3⟩:=hφ;refine aq (ag Sk ah) (by kernel_rfl) (by conv=>lhs;reduce) (by simp) ?_;simp[h1,h2,h3]
 ·cases h
def GS:gz Tryz.prog 234=true:=by kernel_rfl
def jH (n s:Int) (e:Pn):Bool:=tQ n e.u s
@[simp] noncomputable def GIxL:List AV->Option (Prop×AV)|[.pv (.ro a),.bI f [.rp [.int .u64 n],.rp [.int .u64 s]]]=>if f=234 then(dec rowP a).map fun l=>(l.length<=1000000000/\cg n/\cg s/\∀e∈l,cg e.u,.pv (.int .i64 (qq (jH n s) l))) else none|_=>none
def c_IxL:aL Tryz.prog 231 GIxL:=by
 intro ys φ r h hφ;unfold GIxL at h;split at h
 ·rename_i ra f n s;split at h
  ·rename_i hf;subst hf;obtain⟨a,ha,h⟩:=q900.1 h;cases h;cases aM ha;obtain⟨hl,o1,o2,o3⟩:=hφ;have hfn:=GS;refine aq (ag Ql ah) (by kernel_rfl) (by conv=>lhs;reduce) (by simp) ?_;simp;refine au (fun i:Nat=>i<=a.length/\∀e∈a.take i,jH n s e=false) (fun i=>⟨[(0,.pv (.ro (ay a))),(1,.bI 234 [.rp [.int .u64 n],.rp [.int .u64 s]]),(7,.pv (.int .i64 a.length)),(8,.pv (.int .i64 i))],[]⟩) (fun i=>a.length-i) [] 0 (by simp) ?_ ?_;·simp
   ·rintro i ⟨hi,ht⟩;have w2:IntKind.i64.wrap ((i:Int)+1)=(i:Int)+1:=wrap_i64 (by omega);by_cases hlt:i<a.length
    ·have r1:=dq hlt;have o4:cg a[i].u:=o3 _ (q84 hlt);have hr:jH n s a[i]=false->∀e∈a.take (i+1),jH n s e=false:=by
      intro h0 e he;rw[q64 hlt,q75]at he;rcases he with he|he;·exact ht e he
      ·rw[q73]at he;rw[he];exact h0
     by_cases hp:jH n s a[i]=true;·have hp':tQ n a[i].u s=true:=hp;simp[w2,hlt,r1,hfn,o1,o2,o4,hp'];exact(AA hlt hp ht).symm
     ·have hp0:jH n s a[i]=false:=by simpa using hp
      have hp':tQ n a[i].u s=false:=hp0;simp[w2,hlt,r1,hfn,o1,o2,o4,hp'];exact⟨i+1,⟨by omega,hr hp0⟩,by omega,by omega⟩
    ·simp[hlt];rw[List.take_of_length_le (by omega)]at ht;exact(kR ht).symm
  ·cases h
 ·cases h
def De {p:Pn->Bool}{l:List Pn} (h:qq p l=(k:Int)):k<l.length/\(l.take (k+1)).filter (fun e=>!p e)=l.take k:=by
 unfold qq at h;split at h
 ·rename_i hlt;have hk:l.findIdx p=k:=by omega
  rw[hk]at hlt;refine⟨hlt,?_⟩;obtain⟨h1,h2⟩:=(q173 hlt).1 hk;rw[q64 hlt,q165];have hf:(l.take k).filter (fun e=>!p e)=l.take k:=by rw[q171];intro e he;rw[q90]at he;obtain⟨j,hj,rfl⟩:=he;have:=h2 j (by omega);simpa using this
  rw[hf];simp[h1]
 ·omega
def zz (l:List Pn) (i:Nat) (e:Pn):(ay l).set i [.int .u64 e.i,.int .u64 e.v,.int .u64 e.u]=ay (l.set i e):=by unfold ay;rw[q219];rfl
def iN (l:List Pn) (n s:Int):List Pn:=l.filter fun e=>!jH n s e
@[simp] noncomputable def Qa:List AV->Option (Prop×AV)|[.fr e a,.bI f [.rp [.int .u64 n],.rp [.int .u64 s]]]=>if e=177/\f=234 then(dec rowP a).map fun l=>(l.length<=1000000/\cg n/\cg s/\∀e∈l,cg e.u,.fr 177 (ay (iN l n s))) else none|_=>none
def RD:pL Tryz.prog 236 Qa:=by
 intro ys φ r h hφ;unfold Qa at h;split at h
 ·rename_i e ra f n s;split at h
  ·rename_i hef;obtain⟨rfl,rfl⟩:=hef;obtain⟨a,ha,h⟩:=q900.1 h;cases h;cases aM ha;obtain⟨hl6,o1,o2,o3⟩:=hφ;refine oL (ag c_IxL (ag Ql ah)) (by kernel_rfl) (by conv=>lhs;reduce) (by simp) (by simp[dv,nL,j5]) (by simp) ?_;have hl9:a.length<=1000000000:=by omega
   have isfn3:=GS;by_cases hr:a.any (jH n s)=true
   ·have hw:0<=qq (jH n s) a:=by rw[Ki];exact hr
    obtain⟨k,hk⟩:=q145 hw;obtain⟨hkl,hkf⟩:=De hk;have hne:¬((k:Int)=-1):=by omega
    have w1:IntKind.i64.wrap ((k:Int)+1)=(k:Int)+1:=wrap_i64 (by omega);simp[hk,hne,w1,hl9,o1,o2];refine⟨o3,?_⟩;refine au (fun x:Nat×Nat×List Pn=>x.1<x.2.1/\x.2.1<=a.length/\x.2.2.length=a.length/\x.2.2.take x.1=(a.take x.2.1).filter (fun e=>!jH n s e)/\x.2.2.drop x.2.1=a.drop x.2.1) (fun x=>⟨[(0,.own 998),(1,.bI 234 [.rp [.int .u64 n],.rp [.int .u64 s]]),(5,.pv (.int .i64 x.1)),(6,.pv (.int .i64 x.2.1))],[(998,.arr 177 (ay x.2.2))]⟩) (fun x=>a.length-x.2.1) [] (k,k+1,a) ?_ ?_ ?_;·exact⟨by simp,by simp;omega,rfl,by simp[hkf],rfl⟩
    ·simp
    ·rintro⟨i,j,b⟩ ⟨h1,h2,h3,h4,h5⟩;dsimp only at h1 h2 h3 h4 h5;have w2:IntKind.i64.wrap ((j:Int)+1)=(j:Int)+1:=wrap_i64 (by omega);have w3:IntKind.i64.wrap ((i:Int)+1)=(i:Int)+1:=wrap_i64 (by omega);by_cases hlt:j<a.length
     ·have hjb:j<b.length:=by omega
      have hib:i<b.length:=by omega
      have o4:cg a[j].u:=o3 _ (q84 hlt);have hbj:b[j]=a[j]:=by have e1:=q93 hjb;have e2:=q93 hlt;rw[h5,e2]at e1;injection e1 with e1 _;exact e1.symm
      have r1:=dq hjb;rw[hbj]at r1;have r2:=dq hib;have hib':(i:Int)<a.length:=by omega
      have hdrop:∀e,(b.set i e).drop (j+1)=a.drop (j+1):=by
       intro e;rw[q257 (by omega)];have e1:(b.drop j).drop 1=(a.drop j).drop 1:=by rw[h5]
       simpa[q115]using e1
      by_cases hq:jH n s a[j]=true
      ·have hq':tQ n a[j].u s=true:=hq;simp[w2,w3,hlt,hjb,r1,r2,h3,hq',zz,hib',o1,o2,o4,isfn3];refine⟨i,j+1,b,⟨by omega,by omega,h3,?_,?_⟩,⟨⟨rfl,by omega⟩,rfl⟩,by omega⟩;·rw[q64 hlt,q165,<-h4];simp[hq]
       ·have e1:(b.drop j).drop 1=(a.drop j).drop 1:=by rw[h5]
        simpa[q115]using e1
      ·have hq0:jH n s a[j]=false:=by simpa using hq
       have hq':tQ n a[j].u s=false:=hq0;simp[w2,w3,hlt,hjb,r1,r2,h3,hq',zz,hib',o1,o2,o4,isfn3];refine⟨by omega,i+1,j+1,b.set i a[j],⟨by omega,by omega,by simp[h3],?_,hdrop _⟩,⟨⟨by omega,by omega⟩,rfl⟩,by omega⟩;rw[q64 hlt,q165,<-h4,q64 (by simp;omega)];simp[hq0,q258]
     ·simp[hlt,h3];have hja:j=a.length:=by omega
      subst hja;rw[q155]at h4;have h3r:=cz b;refine⟨⟨by omega,h3r⟩,⟨by omega,?_⟩,?_⟩
      ·rintro x (hx|⟨_,rfl⟩|hx);·exact h3r x (q96 hx)
       ·rfl
       ·exact h3r x (q110 hx)
      ·rw[q111 (by simp;omega),q148,q285];unfold iN;rw[<-h4];simp[ay,q161]
   ·have hw:qq (jH n s) a=-1:=by apply kR;have:=hr;simp only[q133,not_exists,not_and]at this;intro e he;simpa using this e he
    have hfil:iN a n s=a:=by unfold iN;rw[q171];intro e he;have:=hr;simp only[q133,not_exists,not_and]at this;simpa using this e he
    simp[hw,hfil,hl9,o1,o2];exact o3
  ·cases h
 ·cases h
end Go.Proofs.YtifcndkhigakfaaGreat.Ab
