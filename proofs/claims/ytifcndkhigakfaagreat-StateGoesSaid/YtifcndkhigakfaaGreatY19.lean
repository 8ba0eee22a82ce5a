/- slices.Sort at uint64: pdqsortOrdered. -/
import Derived.Test.YtifcndkhigakfaaGreatY15
import Derived.Test.YtifcndkhigakfaaGreatY12
import Derived.Test.YtifcndkhigakfaaGreatY14
import Derived.Test.YtifcndkhigakfaaGreatY17
import Derived.Test.YtifcndkhigakfaaGreatY18
import Derived.Sort.LotD3
import Derived.Sort.LotB
import Derived.Sort.LotA
set_option linter.unusedVariables false
set_option linter.unusedSimpArgs false
set_option linter.unnecessarySimpa false
set_option maxHeartbeats 40000000
set_option maxRecDepth 100000
set_option linter.defProp false
namespace Go.Proofs.YtifcndkhigakfaaGreat.Ab
open Go Go.RowKit
def q158:=@List.getElem_append_right
def q224:=@List.ext_getElem
def q233:=@List.mem_of_find?_eq_some
def q287:=@List.getElem_set
def q295:=@List.find?_some
end Go.Proofs.YtifcndkhigakfaaGreat.Ab
namespace Go.Proofs.YtifcndkhigakfaaGreat.Ab
open Go Go.RowKit Go.Sort R
variable {j i:Nat}{l:List Vn}
def AR:SWO ltInt where
 irrefl x:=by unfold ltInt;simp
 trans x y z h1 h2:=by unfold ltInt at*;simp at*;omega
 ntrans x y z h1 h2:=by unfold ltInt at*;simp at*;omega
def Ag (a b:Nat):∀(n i j:Nat) (d:Array Int),j=n->a<i->i<=j+1->j<b->a<(partEqLoop ltInt a i j d).1/\(partEqLoop ltInt a i j d).1<=b/\(partEqLoop ltInt a i j d).2.size=d.size:=by intro n;induction n using Nat.strongRecOn with|_ n ih=>
 intro i j d hn h1 h2 h3;have u1:=scanUp_spec (fun x=>!ltInt d[a]! x) d j _ i rfl;obtain⟨i2,hi2⟩:∃i2,i2=scanUp (fun x=>!ltInt d[a]! x) d j i:=⟨_,rfl⟩;rw[<-hi2]at u1;have u2:=scanDown_spec (fun x=>ltInt d[a]! x) d i2 j;obtain⟨j2,hj2⟩:∃j2,j2=scanDown (fun x=>ltInt d[a]! x) d i2 j:=⟨_,rfl⟩;rw[<-hj2]at u2;have u3:i<=i2/\i2<=j+1:=⟨u1.1,u1.2.1 h2⟩;have u4:j2<=j/\i2<=j2+1:=⟨u2.1,u2.2.1 u3.2⟩;by_cases hgt:i2>j2;·rw[partEq_break ltInt a i j d hi2 hj2 hgt];exact⟨by show a<i2;omega,by show i2<=b;omega,rfl⟩
 ·have lt2:=scans_lt ltInt a i j d (by omega) hi2 hj2 (by omega);rw[partEq_go ltInt a i j d hi2 hj2 hgt];have:=ih (j2-1) (by omega) (i2+1) (j2-1) (swp d i2 j2) rfl (by omega) (by omega) (by omega);rw[size_swp]at this;exact this
def zT {d:Array Int}{a b c:Nat} (h1:a<=c) (h2:c<b) (h3:b<=d.size):a<=(partition ltInt d a b c).1/\(partition ltInt d a b c).1<b/\(partition ltInt d a b c).2.2.size=d.size:=by obtain⟨x1,x2,x3,_⟩:=partition_holds (lt:=ltInt) AR d a b c h1 h2 h3;exact⟨x1,x2,x3.1⟩
def DA {D D1 D2:Array Int}{a b lm lm1 pv:Nat}{wb wp:Bool}{c:Nat×Hint}{hint:Hint}{pi:Array Int×Bool} (h12:¬b-a<=12) (hl:¬lm=0) (e1:D1=if(!wb)=true then breakPatterns D a b else D) (e2:lm1=if(!wb)=true then lm-1 else lm) (e3:c=choosePivot ltInt D1 a b) (e4:D2=if c.2=.decreasing then reverseRange D1 a b else D1) (e5:pv=if c.2=.decreasing then(b-1)-(c.1-a) else c.1) (e6:hint=if c.2=.decreasing then Hint.increasing else c.2) (e7:pi=if(wb&&wp&&decide (hint=.increasing))=true then partialInsertionSort ltInt D2 a b else(D2,false)):pdq ltInt D a b lm wb wp=if pi.2=true then pi.1 else if(decide (a>0)&&!ltInt pi.1[a-1]! pi.1[pv]!)=true then(if a<(partitionEqual ltInt pi.1 a b pv).1/\(partitionEqual ltInt pi.1 a b pv).1<=b then pdq ltInt (partitionEqual ltInt pi.1 a b pv).2 (partitionEqual ltInt pi.1 a b pv).1 b lm1 wb wp else(partitionEqual ltInt pi.1 a b pv).2) else(if a<=(partition ltInt pi.1 a b pv).1/\(partition ltInt pi.1 a b pv).1<b then(if(partition ltInt pi.1 a b pv).1-a<b-(partition ltInt pi.1 a b pv).1 then pdq ltInt (pdq ltInt (partition ltInt pi.1 a b pv).2.2 a (partition ltInt pi.1 a b pv).1 lm1 true true) ((partition ltInt pi.1 a b pv).1+1) b lm1 (decide ((partition ltInt pi.1 a b pv).1-a>=(b-a)/8)) (partition ltInt pi.1 a b pv).2.1 else pdq ltInt (pdq ltInt (partition ltInt pi.1 a b pv).2.2 ((partition ltInt pi.1 a b pv).1+1) b lm1 true true) a (partition ltInt pi.1 a b pv).1 lm1 (decide (b-(partition ltInt pi.1 a b pv).1>=(b-a)/8)) (partition ltInt pi.1 a b pv).2.1) else(partition ltInt pi.1 a b pv).2.2):=by subst e1 e2 e3 e4 e5 e6 e7;rw[pdq];dsimp only;rw[if_neg h12,if_neg hl];rfl
def JL {D:Array Int}{a b c:Nat} (h1:a<=c) (h2:c<b):a<(partitionEqual ltInt D a b c).1/\(partitionEqual ltInt D a b c).1<=b/\(partitionEqual ltInt D a b c).2.size=D.size:=by have:=Ag a b _ (a+1) (b-1) (swp D a c) rfl (by omega) (by omega) (by omega);rw[size_swp]at this;exact this
def Dh:∀(n:Nat) (D:Array Int) (a b lm:Nat) (wb wp:Bool),b-a=n->a<=b->b<=D.size->b-a<50->(pdq ltInt D a b lm wb wp).size=D.size:=by intro n;induction n using Nat.strongRecOn with|_ n ih=>
 intro D a b lm wb wp hn h1 h2 h50;by_cases h12:b-a<=12;·rw[pdq,if_pos h12];exact(insertionSort_holds (lt:=ltInt) AR D a b h1 h2).1.1
 by_cases hl:lm=0;·rw[pdq,if_neg h12,if_pos hl];exact(heapSort_holds (lt:=ltInt) AR D a b h1 h2).1.1
 obtain⟨D1,e1⟩:∃D1,D1=if(!wb)=true then breakPatterns D a b else D:=⟨_,rfl⟩;obtain⟨lm1,e2⟩:∃lm1,lm1=if(!wb)=true then lm-1 else lm:=⟨_,rfl⟩;obtain⟨c,e3⟩:∃c,c=choosePivot ltInt D1 a b:=⟨_,rfl⟩;obtain⟨D2,e4⟩:∃D2,D2=if c.2=.decreasing then reverseRange D1 a b else D1:=⟨_,rfl⟩;obtain⟨pv,e5⟩:∃pv,pv=if c.2=.decreasing then(b-1)-(c.1-a) else c.1:=⟨_,rfl⟩;obtain⟨hint,e6⟩:∃hint,hint=if c.2=.decreasing then Hint.increasing else c.2:=⟨_,rfl⟩;obtain⟨pi,e7⟩:∃pi,pi=if(wb&&wp&&decide (hint=.increasing))=true then partialInsertionSort ltInt D2 a b else(D2,false):=⟨_,rfl⟩;rw[DA h12 hl e1 e2 e3 e4 e5 e6 e7];have t1:D1.size=D.size:=by
  rw[e1];split;·exact(breakPatterns_holds D a b h1 h2).1
  ·rfl
 have t2:=choosePivot_holds ltInt D1 a b (by omega);rw[<-e3]at t2;have t3:D2.size=D.size:=by
  rw[e4];split;·rw[(reverseRange_holds D1 a b h1 (by omega)).1,t1]
  ·exact t1
 have t4:a<=pv/\pv<b:=by rw[e5];split<;>omega
 have t6:pi.1.size=D.size:=by
  rw[e7];split;·rw[Eo h50];exact t3
  ·exact t3
 have p1:=JL (D:=pi.1) t4.1 t4.2;have p2:=zT (d:=pi.1) t4.1 t4.2 (by omega);split;·exact t6
 split;·rw[if_pos ⟨p1.1,p1.2.1⟩,ih _ (by omega) _ _ _ _ _ _ rfl (by omega) (by omega) (by omega)];omega
 ·rw[if_pos ⟨p2.1,p2.2.1⟩];split;·rw[ih _ (by omega) _ _ _ _ _ _ rfl (by omega) (by rw[ih _ (by omega) _ _ _ _ _ _ rfl (by omega) (by omega) (by omega)];omega) (by omega),ih _ (by omega) _ _ _ _ _ _ rfl (by omega) (by omega) (by omega)];omega
  ·rw[ih _ (by omega) _ _ _ _ _ _ rfl (by omega) (by rw[ih _ (by omega) _ _ _ _ _ _ rfl (by omega) (by omega) (by omega)];omega) (by omega),ih _ (by omega) _ _ _ _ _ _ rfl (by omega) (by omega) (by omega)];omega
noncomputable def Gpd (N:Nat):List AV->Option (Prop×AV)|[.aN [.fr e a],.pv (.int .i64 p),.pv (.int .i64 q),.pv (.int .i64 m)]=>if e=22/\N≠0 then(dec ez a).map fun l=>((0<=p/\p<=q)/\q-p<(N:Int)/\(q<=(l.length:Int)/\l.length<50)/\0<=m/\m<=1000,.bI 0 [.aN [],.fr 22 (rA (pdq ltInt l.toArray p.toNat q.toNat m.toNat true true))]) else none|_=>none
@[simp] def Gpd_eq (N:Nat) (e:TypeId) (d:Array Int) (p q m:Int):Gpd N [.aN [.fr e (rA d)],.pv (.int .i64 p),.pv (.int .i64 q),.pv (.int .i64 m)]=if e=22/\N≠0 then some ((0<=p/\p<=q)/\q-p<(N:Int)/\(q<=(d.size:Int)/\d.size<50)/\0<=m/\m<=1000,.bI 0 [.aN [],.fr 22 (rA (pdq ltInt d p.toNat q.toNat m.toNat true true))]) else none:=by show(if e=22/\N≠0 then(dec ez (rA d)).map _ else none)=_;rw[jB];simp
def abc:∀N,eE Tryz.prog 249 (Gpd N)
 |0=>by
  intro ys φ r h hφ;unfold Gpd at h;split at h;·rw[if_neg (by simp)]at h;cases h
  ·cases h|N+1=>by
  have hrec:=abc N;intro ys φ r h hφ;unfold Gpd at h;split at h
  ·rename_i e ra p q m;split at h
   ·rename_i he;obtain⟨rfl,_⟩:=he;obtain⟨l,hl,h⟩:=q900.1 h;cases h;obtain⟨d,rfl,rfl⟩:=nQ hl;obtain⟨⟨h1,h2⟩,h3,⟨h4,h5⟩,h6,h7⟩:=hφ;rw[q87]at h4 h5;obtain⟨a,rfl⟩:∃a:Nat,p=a:=⟨p.toNat,by omega⟩;obtain⟨b,rfl⟩:∃a:Nat,q=a:=⟨q.toNat,by omega⟩;obtain⟨lm,rfl⟩:∃a:Nat,m=a:=⟨m.toNat,by omega⟩;rw[q66,q66,q66,q139];generalize hW:pdq ltInt d a b lm true true=W;refine cC (bq (ks:=[2,0,0,0]) hrec (by kernel_rfl) (bq (ks:=[2,0,0]) Q5 (by kernel_rfl) (bq (ks:=[2,0,0]) T0 (by kernel_rfl) (bq (ks:=[2,0,0]) c_brk (by kernel_rfl) (ag aaB (bq (ks:=[2,0,0]) abm (by kernel_rfl) (bq (ks:=[2,0,0]) c_pis (by kernel_rfl) (ag pV (bq (ks:=[2,0,0,0]) c_peq (by kernel_rfl) (bq (ks:=[2,0,0,0]) c_prt (by kernel_rfl) ah)))))))))) (by kernel_rfl) (by conv=>lhs;reduce) (by simp) rfl (by simp) ?_;apply ae;·simp;exact⟨rfl,rfl⟩
    apply ae;·simp;exact⟨rfl,rfl⟩
    rw[aR];refine au (fun x:((Nat×Nat)×Nat)×(Bool×Bool)×Array Int=>(x.1.1.1<=x.1.1.2/\x.1.1.2<=d.size)/\x.1.1.2-x.1.1.1<N+1/\x.1.2<=1000/\x.2.2.size=d.size/\pdq ltInt x.2.2 x.1.1.1 x.1.1.2 x.1.2 x.2.1.1 x.2.1.2=W) (fun x=>⟨[(0,.own 999),(1,.pv (.int .i64 (x.1.1.1:Int))),(2,.pv (.int .i64 (x.1.1.2:Int))),(3,.pv (.int .i64 (x.1.2:Int))),(8,.pv (.bool x.2.1.1)),(9,.pv (.bool x.2.1.2))],[(999,.arr 22 (rA x.2.2))]⟩) (fun x=>x.1.1.2-x.1.1.1) [] (((a,b),lm),(true,true),d) ⟨⟨by show a<=b;omega,by show b<=d.size;omega⟩,by show b-a<N+1;omega,by show lm<=1000;omega,rfl,hW⟩ ?_ ?_;·simp
    ·rintro⟨⟨⟨a,b⟩,lm⟩,⟨wb,wp⟩,D⟩ ⟨⟨g1,g2⟩,g3,g4,g5,g6⟩;have g1:a<=b:=g1;have g2:b<=d.size:=g2;have g3:b-a<N+1:=g3;have g4:lm<=1000:=g4;have g5:D.size=d.size:=g5;have g6:pdq ltInt D a b lm wb wp=W:=g6;obtain⟨n,hn⟩:∃n,n=b-a:=⟨_,rfl⟩;have w0:IntKind.i64.wrap ((b:Int)-(a:Int))=(n:Int):=by rw[wrap_i64 (by omega)];omega
     have s1:(a:Int)<=(b:Int):=by omega
     have s2:(b:Int)<=(D.size:Int):=by omega
     have s3:D.size<=1000000:=by omega
     have s4:D.size<=200:=by omega
     have s5:D.size<50:=by omega
     rw[ke];dsimp only;rw[aR];apply ae;·simp[w0];exact⟨rfl,rfl⟩
     by_cases h12:b-a<=12
     ·have hx:pdq ltInt D a b lm wb wp=insertionSort ltInt D a b:=by rw[pdq,if_pos h12]
      rw[hx]at g6;have c12:(n:Int)<=12:=by omega
      subst g6;simp[c12,s1,s2,s3]
     have c12:¬(n:Int)<=12:=by omega
     apply ae;·simp[c12];exact⟨rfl,rfl⟩
     by_cases hl0:lm=0
     ·have hx:pdq ltInt D a b lm wb wp=heapSort ltInt D a b:=by rw[pdq,if_neg h12,if_pos hl0]
      rw[hx]at g6;subst g6;subst hl0;simp[s1,s2,s3]
     have cl0:¬(lm:Int)=0:=by omega
     apply ae;·simp[cl0,hl0];exact⟨rfl,rfl⟩
     obtain⟨D1,e1⟩:∃D1,D1=if(!wb)=true then breakPatterns D a b else D:=⟨_,rfl⟩;obtain⟨lm1,e2⟩:∃lm1,lm1=if(!wb)=true then lm-1 else lm:=⟨_,rfl⟩;obtain⟨c,e3⟩:∃c,c=choosePivot ltInt D1 a b:=⟨_,rfl⟩;obtain⟨D2,e4⟩:∃D2,D2=if c.2=.decreasing then reverseRange D1 a b else D1:=⟨_,rfl⟩;obtain⟨pv,e5⟩:∃pv,pv=if c.2=.decreasing then(b-1)-(c.1-a) else c.1:=⟨_,rfl⟩;obtain⟨hint,e6⟩:∃hint,hint=if c.2=.decreasing then Hint.increasing else c.2:=⟨_,rfl⟩;obtain⟨pi,e7⟩:∃pi,pi=if(wb&&wp&&decide (hint=.increasing))=true then partialInsertionSort ltInt D2 a b else(D2,false):=⟨_,rfl⟩;rw[DA h12 hl0 e1 e2 e3 e4 e5 e6 e7]at g6;have t1:D1.size=D.size:=by
      rw[e1];split;·exact(breakPatterns_holds D a b g1 (by omega)).1
      ·rfl
     have t2:=choosePivot_holds ltInt D1 a b (by omega);rw[<-e3]at t2;have t3:D2.size=D.size:=by
      rw[e4];split;·rw[(reverseRange_holds D1 a b g1 (by omega)).1,t1]
      ·exact t1
     have t4:a<=pv/\pv<b:=by rw[e5];split<;>omega
     have t5:lm1<=lm:=by rw[e2];split<;>omega
     have v1:IntKind.i64.wrap ((lm:Int)-1)=((lm-1:Nat):Int):=by rw[wrap_i64 (by omega)];omega
     apply bB (fun st'=>∃x:AV,st'=⟨look [(0,.own 999),(1,.pv (.int .i64 (a:Int))),(2,.pv (.int .i64 (b:Int))),(3,.pv (.int .i64 (lm1:Int))),(8,.pv (.bool wb)),(9,.pv (.bool wp)),(10,.pv (.int .i64 (n:Int))),(11,.ak),(12,.ak),(13,.ak),(14,.ak),(15,.ak),(16,.ak),(17,.ak),(18,.ak),(23,.pv (.bool false)),(29,.pv (.bool false)),(35,x),(50,.ak),(68,.ak),(72,.ak),(87,.ak),(113,.ak)],ab [(999,.arr 22 (rA D1))]⟩);·cases wb with|true=>have e1:D1=D:=e1;have e2:lm1=lm:=e2;rw[e1,e2];simp;exact⟨_,rfl⟩|false=>have e1:D1=breakPatterns D a b:=e1;have e2:lm1=lm-1:=e2;rw[e1,e2];simp[s1,s2,s4,v1];exact⟨_,rfl⟩
     rintro st' ⟨x35,rfl⟩;have s2a:(b:Int)<=(D1.size:Int):=by omega
     have s3a:D1.size<=1000000:=by omega
     apply ae;·simp[s1,s2a,s3a,<-e3];exact⟨rfl,rfl⟩
     apply bB (fun st'=>∃x:AV,st'=⟨look [(0,.own 999),(1,.pv (.int .i64 (a:Int))),(2,.pv (.int .i64 (b:Int))),(3,.pv (.int .i64 (lm1:Int))),(8,.pv (.bool wb)),(9,.pv (.bool wp)),(10,.pv (.int .i64 (n:Int))),(11,.pv (.int .i64 (pv:Int))),(12,.pv (.int .i64 (gC hint))),(13,.ak),(14,.ak),(15,.ak),(16,.ak),(17,.ak),(18,.ak),(23,.pv (.bool false)),(29,.pv (.bool false)),(35,x35),(50,x),(68,.ak),(72,.ak),(87,.ak),(113,.ak)],ab [(999,.arr 22 (rA D2))]⟩)
     ·by_cases hd:c.2=.decreasing
      ·rw[if_pos hd]at e4 e5 e6;have k1:gC c.2=2:=by rw[hd];rfl
       have k2:gC hint=1:=by rw[e6];rfl
       have v2:IntKind.i64.wrap ((b:Int)-1)=(b:Int)-1:=wrap_i64 (by omega);have v3:IntKind.i64.wrap ((c.1:Int)-(a:Int))=(c.1:Int)-(a:Int):=wrap_i64 (by omega);have v4:IntKind.i64.wrap ((b:Int)-1-((c.1:Int)-(a:Int)))=(pv:Int):=by rw[wrap_i64 (by omega)];omega
       rw[k1,k2];simp[s1,s2a,s3a,v2,v3,v4,<-e4];exact⟨_,rfl⟩
      ·rw[if_neg hd]at e4 e5 e6;have k1:¬gC c.2=2:=by revert hd;cases c.2<;>simp[gC]
       rw[e4,e5,e6];simp[k1];exact⟨_,rfl⟩
     rintro st' ⟨x50,rfl⟩;have s2b:(b:Int)<=(D2.size:Int):=by omega
     have s5b:D2.size<50:=by omega
     have s1b:(a:Int)<(b:Int):=by omega
     have t6:pi.1.size=D.size:=by
      rw[e7];split;·rw[Eo (by omega)];exact t3
      ·exact t3
     apply bB (fun st'=>pi.2=false/\∃x y:AV,st'=⟨look [(0,.own 999),(1,.pv (.int .i64 (a:Int))),(2,.pv (.int .i64 (b:Int))),(3,.pv (.int .i64 (lm1:Int))),(8,.pv (.bool wb)),(9,.pv (.bool wp)),(10,.pv (.int .i64 (n:Int))),(11,.pv (.int .i64 (pv:Int))),(12,.pv (.int .i64 (gC hint))),(13,.ak),(14,.ak),(15,.ak),(16,.ak),(17,.ak),(18,.ak),(23,.pv (.bool false)),(29,.pv (.bool false)),(35,x35),(50,x50),(68,x),(72,y),(87,.ak),(113,.ak)],ab [(999,.arr 22 (rA pi.1))]⟩);·cases hb:(wb&&wp&&decide (hint=.increasing)) with
      |true=>
       rw[hb,if_pos rfl]at e7;simp only[q71,decide_eq_true_eq]at hb;obtain⟨⟨rfl,rfl⟩,hh⟩:=hb;have k2:gC hint=1:=by rw[hh];rfl
       rw[k2];apply ae;·simp;exact⟨rfl,rfl⟩
       apply cm rfl;apply ae;·simp[s1b,s2b,s5b,<-e7];exact⟨rfl,rfl⟩
       cases hp:pi.2 with|true=>rw[hp,if_pos rfl]at g6;simp[g6]|false=>simp;exact⟨_,_,rfl⟩
      |false=>rw[hb,if_neg (by simp)]at e7;rw[e7];refine fP (fun _ h=>⟨rfl,h⟩) (fun _ _ h=>h) ?_;cases wb with|false=>simp;exact⟨_,_,rfl⟩|true=>cases wp with|false=>simp;exact⟨_,_,rfl⟩|true=>
        have k1:¬gC hint=1:=by revert hb;cases hint<;>simp[gC]
        simp[k1];exact⟨_,_,rfl⟩
     rintro st' ⟨hp,x68,x72,rfl⟩;rw[hp,if_neg (by simp)]at g6;obtain⟨D3,e8⟩:∃D3,D3=pi.1:=⟨_,rfl⟩;rw[<-e8]at g6 t6 |-;obtain⟨u,hu⟩:∃u,u=a-1:=⟨_,rfl⟩;have q1:pv<D3.size:=by omega
     have q2:u<D3.size:=by omega
     have r1:=bC q1;have r2:=bC q2;have s2c:(b:Int)<=(D3.size:Int):=by omega
     have s3c:D3.size<=1000000:=by omega
     have s6:(a:Int)<=(pv:Int):=by omega
     have s7:(pv:Int)<(b:Int):=by omega
     rw[<-hu]at g6;cases hc:decide (a>0)&&!ltInt D3[u]! D3[pv]! with|true=>
      rw[hc,if_pos rfl]at g6;simp only[q71,decide_eq_true_eq,q125]at hc;obtain⟨ha0,hl1⟩:=hc;have hl2:ltInt (gA D3 u) (gA D3 pv)=false:=hl1;have c1:0<a:=ha0;have v2:IntKind.i64.wrap ((a:Int)-1)=(u:Int):=by rw[wrap_i64 (by omega)];omega
      obtain⟨E,hE⟩:∃E,E=partitionEqual ltInt D3 a b pv:=⟨_,rfl⟩;have hr:=Ag a b _ (a+1) (b-1) (swp D3 a pv) rfl (by omega) (by omega) (by omega);rw[show partEqLoop ltInt a (a+1) (b-1) (swp D3 a pv)=E from hE.symm,size_swp]at hr;rw[<-hE,if_pos ⟨hr.1,hr.2.1⟩]at g6;rw[bh]
      ·apply ae;·simp[c1,v2,q1,q2,r1,r2,hl2];exact⟨rfl,rfl⟩
       apply cm rfl;apply ae;·simp[s6,s7,s1,s2c,s3c,<-hE];exact⟨rfl,rfl⟩
       apply ae;·simp;exact⟨rfl,rfl⟩
       rw[Ld];simp only[qH,if_true];refine⟨(((E.1,b),lm1),(wb,wp),E.2),⟨⟨by show E.1<=b;omega,by show b<=d.size;omega⟩,by show b-E.1<N+1;omega,by show lm1<=1000;omega,by show E.2.size=d.size;omega,g6⟩,?_,by show b-E.1<b-a;omega⟩;simp|false=>
      rw[hc,if_neg (by simp)]at g6;obtain⟨E,hE⟩:∃E,E=partition ltInt D3 a b pv:=⟨_,rfl⟩;have hr:=zT (d:=D3) (a:=a) (b:=b) (c:=pv) (by omega) (by omega) (by omega);rw[<-hE]at hr g6;rw[if_pos ⟨hr.1,hr.2.1⟩]at g6;apply bB (fun st'=>∃x:AV,st'=⟨look [(0,.own 999),(1,.pv (.int .i64 (a:Int))),(2,.pv (.int .i64 (b:Int))),(3,.pv (.int .i64 (lm1:Int))),(8,.pv (.bool wb)),(9,.pv (.bool wp)),(10,.pv (.int .i64 (n:Int))),(11,.pv (.int .i64 (pv:Int))),(12,.pv (.int .i64 (gC hint))),(13,.ak),(14,.ak),(15,.ak),(16,.ak),(17,.ak),(18,.ak),(23,.pv (.bool false)),(29,.pv (.bool false)),(35,x35),(50,x50),(68,x68),(72,x72),(87,x),(113,.ak)],ab [(999,.arr 22 (rA D3))]⟩)
      ·rcases q154 a with ha0|ha0
       ·have c1:¬0<a:=by omega
        have v2:IntKind.i64.wrap ((a:Int)-1)=-1:=by rw[ha0];decide
        have r0:rowAt (rA D3) (-1)=[.int .u64 (gA D3 0)]:=bC (d:=D3) (i:=0) (by omega);simp[c1,v2,q1,r1,r0];exact⟨_,rfl⟩
       ·have hl1:ltInt D3[u]! D3[pv]! =true:=by cases hl:ltInt D3[u]! D3[pv]! with|true=>rfl|false=>rw[hl]at hc;simp at hc;omega
        have hl2:ltInt (gA D3 u) (gA D3 pv)=true:=hl1;have c1:0<a:=ha0;have v2:IntKind.i64.wrap ((a:Int)-1)=(u:Int):=by rw[wrap_i64 (by omega)];omega
        simp[c1,v2,q1,q2,r1,r2,hl2];exact⟨_,rfl⟩
      rintro st' ⟨x87,rfl⟩;obtain⟨m1,hm1⟩:∃m1,m1=E.1-a:=⟨_,rfl⟩;obtain⟨m2,hm2⟩:∃m2,m2=b-E.1:=⟨_,rfl⟩;obtain⟨n8,hn8⟩:∃n8,n8=(b-a)/8:=⟨_,rfl⟩;rw[<-hm1,<-hm2,<-hn8]at g6;have y1:IntKind.i64.wrap ((E.1:Int)-(a:Int))=(m1:Int):=by rw[wrap_i64 (by omega)];omega
      have y2:IntKind.i64.wrap ((b:Int)-(E.1:Int))=(m2:Int):=by rw[wrap_i64 (by omega)];omega
      have y3:(n:Int).tdiv 8=(n8:Int):=by rw[q152 (by omega)];omega
      have y4:IntKind.i64.wrap (n8:Int)=(n8:Int):=wrap_i64 (by omega);have y5:IntKind.i64.wrap ((E.1:Int)+1)=((E.1+1:Nat):Int):=by rw[wrap_i64 (by omega)];omega
      have N0:N≠0:=by omega
      apply ae;·simp[s6,s7,s1,s2c,s3c,<-hE];exact⟨rfl,rfl⟩
      apply ae;·simp;exact⟨rfl,rfl⟩
      apply ae;·simp[y1,y2];exact⟨rfl,rfl⟩
      apply ae;·simp[y3,y4];exact⟨rfl,rfl⟩
      obtain⟨G,hG⟩:∃G,G=E.2.2:=⟨_,rfl⟩;obtain⟨k,hk⟩:∃k,k=E.1:=⟨_,rfl⟩;rw[<-hG,<-hk]at g6 hr;rw[<-hG,<-hk];rw[<-hk]at y5 hm1 hm2;by_cases hlt:m1<m2
      ·rw[if_pos hlt]at g6;apply ae;·simp[hlt];exact⟨rfl,rfl⟩
       apply cm rfl;apply ae;·simp;exact⟨rfl,rfl⟩
       obtain⟨P,hP⟩:∃P,P=pdq ltInt G a k lm1 true true:=⟨_,rfl⟩;have zP:P.size=d.size:=by rw[hP,Dh _ _ _ _ _ _ _ rfl (by omega) (by omega) (by omega)];omega
       rw[<-hP]at g6;have o1:(a:Int)<=(k:Int):=by omega
       have o2:(k:Int)-(a:Int)<(N:Int):=by omega
       have o3:(k:Int)<=(G.size:Int):=by omega
       have o4:G.size<50:=by omega
       have o5:(lm1:Int)<=1000:=by omega
       apply ae;·simp[N0,o1,o2,o3,o4,o5,<-hP];exact⟨rfl,rfl⟩
       apply Au;·simp[y5];exact⟨rfl,rfl⟩
       refine⟨(((k+1,b),lm1),(decide (m1>=n8),E.2.1),P),⟨⟨by show k+1<=b;omega,by show b<=d.size;omega⟩,by show b-(k+1)<N+1;omega,by show lm1<=1000;omega,zP,g6⟩,?_,by show b-(k+1)<b-a;omega⟩;simp
      ·rw[if_neg hlt]at g6;have hge:m2<=m1:=by omega
       apply ae;·simp[hlt];exact⟨rfl,rfl⟩
       apply cr rfl;apply ae;·simp;exact⟨rfl,rfl⟩
       obtain⟨k1,hk1⟩:∃k1,k1=k+1:=⟨_,rfl⟩;rw[<-hk1]at g6 y5;obtain⟨P,hP⟩:∃P,P=pdq ltInt G k1 b lm1 true true:=⟨_,rfl⟩;have zP:P.size=d.size:=by rw[hP,Dh _ _ _ _ _ _ _ rfl (by omega) (by omega) (by omega)];omega
       rw[<-hP]at g6;have o1:(k1:Int)<=(b:Int):=by omega
       have o2:(b:Int)-(k1:Int)<(N:Int):=by omega
       have o3:(b:Int)<=(G.size:Int):=by omega
       have o4:G.size<50:=by omega
       have o5:(lm1:Int)<=1000:=by omega
       apply ae;·simp[N0,o1,o2,o3,o4,o5,y5,<-hP];exact⟨rfl,rfl⟩
       apply Au;·simp;exact⟨rfl,rfl⟩
       refine⟨(((a,k),lm1),(decide (m2>=n8),E.2.1),P),⟨⟨by show a<=k;omega,by show k<=d.size;omega⟩,by show k-a<N+1;omega,by show lm1<=1000;omega,zP,g6⟩,?_,by show k-a<b-a;omega⟩;simp
   ·cases h
  ·cases h
def Mu (l:List Int):(Go.Sort.sort ltInt l.toArray).toList=BI l:=sortInt_holds (sort_holds (pdq_holds insertionSort_holds heapSort_holds partialInsertionSort_holds (partition_holds _) (partitionEqual_holds _) reverseRange_holds)) l
@[simp] noncomputable def GSo:List AV->Option (Prop×AV)|[.aN [.fr e a]]=>if e=22 then(dec ez a).map fun l=>(l.length<50,.bI 0 [.aN [],.fr 22 (b6 (BI l))]) else none|_=>none
def L3:eE Tryz.prog 242 GSo:=by
 intro ys φ r h hφ;unfold GSo at h;split at h
 ·rename_i e ra;split at h
  ·rename_i he;subst he;obtain⟨l,hl,h⟩:=q900.1 h;cases h;cases eg hl;have hφ:l.length<50:=hφ;have hx:b6 (BI l)=rA (pdq ltInt l.toArray 0 l.length (bitsLen l.length) true true):=by rw[<-Mu];unfold Go.Sort.sort rA;simp
   rw[hx,DN];have h8:=(oF l.length (by omega)).2;obtain⟨d,hd⟩:∃d,d=l.toArray:=⟨_,rfl⟩;have hds:d.size=l.length:=by rw[hd];simp
   rw[<-hd,<-hds];rw[<-hds]at h8 hφ;obtain⟨m,hm⟩:∃m,m=bitsLen d.size:=⟨_,rfl⟩;rw[<-hm]at h8 |-;have w1:IntKind.u64.wrap (d.size:Int)=(d.size:Int):=wrap_u64 (by omega);have w2:(d.size:Int)<256:=by omega
   have w3:(m:Int)<=1000:=by omega
   refine cC (ag PI (bq (ks:=[2,0,0,0]) (abc 50) (by kernel_rfl) ah)) (by kernel_rfl) (by conv=>lhs;reduce) (by simp) rfl (by simp) ?_;simp[w1,w2,w3,hφ,<-hm];omega
  ·cases h
 ·cases h
end Go.Proofs.YtifcndkhigakfaaGreat.Ab
namespace Go.Proofs.YtifcndkhigakfaaGreat.Ab
open Go Go.RowKit R
variable {j i:Nat}{l:List Vn}
@[simp] noncomputable def GpV:List AV->Option (Prop×AV)|[.agg [.pv (.ro a)]]=>(dec rowP a).map fun l=>(l.length<50,.fr 22 (b6 (tT (l.map Pn.v))))|_=>none
def c_pV:aL Tryz.prog 217 GpV:=by
 intro ys φ r h hφ;unfold GpV at h;split at h
 ·rename_i ra;obtain⟨a,ha,h⟩:=q900.1 h;cases h;cases aM ha;have hl5:a.length<50:=hφ;refine aq (bq (ks:=[2]) L3 (by kernel_rfl) (ft (p:=0) (k:=998) aax (by kernel_rfl) ah)) (by kernel_rfl) (by conv=>lhs;reduce) (by simp) ?_;simp;refine au (fun i:Nat=>i<=a.length) (fun i=>⟨[(3,.own 3),(7,.pv (.ro (ay a))),(8,.pv (.int .i64 a.length)),(9,.pv (.int .i64 i))],[(3,.arr 22 (b6 ((a.take i).map Pn.v)))]⟩) (fun i=>a.length-i) [] 0 (by simp) ?_ ?_;·simp
  ·intro i hi;have w2:IntKind.i64.wrap ((i:Int)+1)=(i:Int)+1:=wrap_i64 (by omega);by_cases hlt:i<a.length
   ·have r1:=dq hlt;have hll:((a.take i).map Pn.v).length=i:=by simp;omega
    have htk:(a.take (i+1)).map Pn.v=(a.take i).map Pn.v++[a[i].v]:=by rw[q64 hlt,q162];rfl
    simp[w2,hlt,r1,aF];refine⟨⟨by omega,by omega⟩,i+1,by omega,⟨by omega,by have:=congrArg b6 htk;rw[rV,q161,q161]at this;exact this.symm⟩,by omega⟩
   ·have hia:i=a.length:=by omega
    subst hia;have hsl:(BI (a.map Pn.v)).length<=1000000:=by simp[BI];omega
    have hml:(a.map Pn.v).length<50:=by simp;omega
    simp[hsl,hml,hl5];rfl
 ·cases h
def TH:List AV->Option (Prop×AV)|[]=>some (True,.pv (.bool true))|_=>none
@[simp] def VO:TH []=some (True,.pv (.bool true)):=rfl
def JY (l m:List Vn) (i:Nat):Prop:=m.length=l.length/\∀k (h:k<m.length) (h':k<l.length) (h'':l.length-1-k<l.length),(k<i\/l.length-i<=k->m[k]=l[l.length-1-k])/\(i<=k/\k<l.length-i->m[k]=l[k])
def Hv (l:List Vn):JY l l 0:=⟨rfl,fun k h h' h''=>⟨fun h1=>by omega,fun _=>rfl⟩⟩
def Jl {l m:List Vn} (h:JY l m i) (hi:l.length<=2*i+1):m=l.reverse:=by
 obtain⟨hl,hk⟩:=h;apply q224;·simp[hl]
 ·intro k h1 h2;rw[List.getElem_reverse];have h3:=hk k h1 (by omega) (by omega);by_cases hc:k<i\/l.length-i<=k;·exact h3.1 hc
  ·have:=h3.2 (by omega);rw[this];congr 1;omega
def Hp {l m:List Vn} (h:JY l m i) (hi:2*i+1<l.length) (h1:i<m.length) (h2:l.length-1-i<m.length):JY l ((m.set i m[l.length-1-i]).set (l.length-1-i) m[i]) (i+1):=by
 obtain⟨hl,hk⟩:=h;refine⟨by simp[hl],fun k h3 h4 h5=>?_⟩;have ha:=(hk i h1 (by omega) (by omega)).2 (by omega);have hb:=(hk (l.length-1-i) h2 (by omega) (by omega)).2 (by omega);simp only[q287];constructor
 ·intro hc;by_cases e1:l.length-1-i=k;·rw[if_pos e1,ha];congr 1;omega
  ·rw[if_neg e1];by_cases e2:i=k;·subst e2;rw[if_pos rfl,hb]
   ·rw[if_neg e2];exact(hk k (by omega) h4 h5).1 (by omega)
 ·intro hc;rw[if_neg (by omega),if_neg (by omega)];exact(hk k (by omega) h4 h5).2 (by omega)
@[simp] noncomputable def aag:List AV->Option (Prop×AV)|[.aN [.fr e a]]=>if e=132 then(dec dt a).map fun l=>(l.length<=1000000,.bI 0 [.aN [],.fr 132 (aI l.reverse)]) else none|_=>none
def YH:pL Tryz.prog 248 aag:=by
 intro ys φ r h hφ;unfold aag at h;split at h
 ·rename_i e ra;split at h
  ·rename_i hef;subst hef;obtain⟨a,ha,h⟩:=q900.1 h;cases h;cases aJ ha;have w0:IntKind.i64.wrap ((a.length:Int)-1)=(a.length:Int)-1:=wrap_i64 (by omega);refine oL ah (by kernel_rfl) (by conv=>lhs;reduce) (by simp) (by simp[dv,nL,j5]) (by simp) ?_;simp[w0];refine au (fun x:Nat×List Vn=>JY a x.2 x.1/\2*x.1<=a.length+1) (fun x=>⟨[(0,.own 999),(2,.pv (.int .i64 x.1)),(3,.pv (.int .i64 ((a.length:Int)-1-x.1)))],[(999,.arr 132 (aI x.2))]⟩) (fun x=>a.length-x.1) [] (0,a) ⟨Hv a,by simp⟩ ?_ ?_;·simp
   ·rintro⟨i,m⟩ ⟨hm,h2⟩;dsimp only at hm h2;have hml:=hm.1;have w1:IntKind.i64.wrap ((i:Int)+1)=(i:Int)+1:=wrap_i64 (by omega);have w2:IntKind.i64.wrap ((a.length:Int)-1-i-1)=(a.length:Int)-1-i-1:=wrap_i64 (by omega);by_cases hlt:(i:Int)<(a.length:Int)-1-i
    ·have hi:i<m.length:=by omega
     have hj:a.length-1-i<m.length:=by omega
     have hst:=Hp hm (by omega) hi hj;have r1:=b8 hi;have r2:=b8 hj;have hc:((a.length-1-i:Nat):Int)=(a.length:Int)-1-i:=by omega
     rw[hc]at r2;have b1:0<=(a.length:Int)-1-i:=by omega
     have b2:(a.length:Int)-1-i<m.length:=by omega
     have b3:(i:Int)<=(a.length:Int)-1:=by omega
     have r3:rowAt ((aI m).set i [.int .u64 m[a.length-1-i].n,.int .u64 m[a.length-1-i].b,.int .u64 m[a.length-1-i].p,.int .u64 m[a.length-1-i].i,.int .u64 m[a.length-1-i].s,.int .u64 m[a.length-1-i].z,.int .u64 m[a.length-1-i].m,.str m[a.length-1-i].t,.bool m[a.length-1-i].inl,.bool m[a.length-1-i].ej]) ((a.length:Int)-1-i)=[.int .u64 m[a.length-1-i].n,.int .u64 m[a.length-1-i].b,.int .u64 m[a.length-1-i].p,.int .u64 m[a.length-1-i].i,.int .u64 m[a.length-1-i].s,.int .u64 m[a.length-1-i].z,.int .u64 m[a.length-1-i].m,.str m[a.length-1-i].t,.bool m[a.length-1-i].inl,.bool m[a.length-1-i].ej]:=by rw[<-r2];unfold rowAt;rw[show((a.length:Int)-1-i).toNat=a.length-1-i from by omega,q80,q80,List.getElem?_set_ne (by omega)]
     have hrows:((aI m).set i (dt m[a.length-1-i])).set (a.length-1-i) (dt m[i])=aI ((m.set i m[a.length-1-i]).set (a.length-1-i) m[i]):=by simp only[aI,q219]
     simp only[dt]at hrows;simp[w1,w2,hlt,r1,r2,hi,b1,b2,b3,r3];exact⟨i+1,_,⟨hst,by omega⟩,⟨⟨by omega,by omega⟩,hrows⟩,by omega⟩
    ·have he:=Jl hm (by omega);simp[hlt,he]
  ·cases h
 ·cases h
def Gp (l:List Vn) (i:Nat):Vn:=(l[i]?).getD v0
def iy  (h:i<l.length):Gp l i=l[i]:=by unfold Gp;rw[q62 h];rfl
def eb (l:List Vn):Nat->Nat->List Vn|0,i=>[Gp l i]|f+1,i=>if bG (Gp l i)=0 then[Gp l i] else eb l f (uN l (bG (Gp l i))).toNat++[Gp l i]
def fJ (l:List Vn) (n:Int):List Vn×Int:=if aS l=false then([],2) else match iO l n with|none=>([],150)|some v=>(eb l l.length (uN l v.n).toNat,0)
def uX (hr:aS l=true) (h:i<l.length) (hb:bG l[i]≠0):∃j,∃hj:j<i,uN l (bG l[i])=(j:Int)/\l[j].n=bG l[i]:=by
 have hok:=(eY l).1 hr i h;unfold iZ at hok;rw[q62 h]at hok;simp only[q101,q71,q132,decide_eq_true_eq]at hok;have h0:=hok.2.resolve_left hb;rcases oN (l.take i) (bG l[i]) with⟨j,hj,h1,h2,h3⟩|⟨h1,_⟩
 ·rw[q68]at hj;have hji:j<i:=by omega
  have hjl:j<l.length:=by omega
  rw[q271]at h2;refine⟨j,hji,A7 hjl h2 fun v hv=>h3 v ?_,h2⟩;rwa[q148,q103 (by omega)]
 ·omega
def Cc (hr:aS l=true) (hi:i<l.length) (hj:j<l.length) (h:l[i].n=l[j].n):i=j:=by
 rcases q240 i j with hlt|he|hlt
 ·have h1:=lT hr (i:=i) (j-1-i) (by omega);have e1:i+(j-1-i)=j-1:=by omega
  simp only[e1]at h1;have h2:=mh hr (i:=j-1) (by omega);have e2:j-1+1=j:=by omega
  simp only[e2]at h2;omega
 ·exact he
 ·have h1:=lT hr (i:=j) (i-1-j) (by omega);have e1:j+(i-1-j)=i-1:=by omega
  simp only[e1]at h1;have h2:=mh hr (i:=i-1) (by omega);have e2:i-1+1=i:=by omega
  simp only[e2]at h2;omega
def uQ (hr:aS l=true) (h:i<l.length):uN l l[i].n=i:=by
 rcases oN l l[i].n with⟨j,hj,h1,h2,_⟩|⟨_,h2⟩;·rw[h1,Cc hr hj h h2]
 ·exact absurd rfl (h2 l[i] (q84 h))
def get_at {n:Int}{v:Vn} (h:iO l n=some v):∃i,∃h:i<l.length,v=l[i]/\v.n=n:=by unfold iO at h;have h1:=q233 h;have h2:=q295 h;obtain⟨i,hi,rfl⟩:=q128 (q94.1 h1).1;exact⟨i,hi,rfl,by simpa using h2⟩
@[simp] noncomputable def OK (e:TypeId):List AV->Option (Prop×AV)|[.pv (.ro a),.pv (.int .u64 n)]=>(dec dt a).map fun l=>(l.length<=100000/\(∀v∈l,kr v),.aN [.fr e (aI (fJ l n).1),.pv (.int .i64 (fJ l n).2)])|_=>none
def R0:aL Tryz.prog 239 (OK 132):=by
 intro ys φ r h hφ;unfold OK at h;split at h
 ·rename_i ra n;obtain⟨a,ha,h⟩:=q900.1 h;cases h;cases aJ ha;obtain⟨hl5,hov⟩:=hφ;have hl9:a.length<=1000000000:=by omega
  have hl6:a.length<=1000000:=by omega
  have fl:∀l,bP (aI l):=aT;refine aq (ag IC (ag Rk (ag Fa (ag Tt (ft (p:=0) (k:=999) YH (by kernel_rfl) ah))))) (by kernel_rfl) (by conv=>lhs;reduce) (by simp) ?_;cases hr:aS a with
  |false=>
   have hp:fJ a n=([],2):=by simp[fJ,hr]
   simp[hl9,hr,hp]|true=>cases hg:iO a n with
  |none=>
   have hp:fJ a n=([],150):=by simp[fJ,hr,hg]
   simp[hl9,hl6,hr,hp,hg,dy,v0]|some v=>
  obtain⟨i0,hi0,hv,hvn⟩:=get_at hg;have hp:fJ a n=(eb a a.length i0,0):=by simp only[fJ,hr,hg];rw[if_neg (by simp),hv,uQ hr hi0,q66]
  rw[hp];generalize hW:eb a a.length i0=W;apply ae;·simp;exact⟨rfl,rfl⟩
  apply ae;·simp[hl9,hr];exact⟨rfl,rfl⟩
  apply ae;·simp[hl9,hl6,hg,dy];exact⟨rfl,rfl⟩
  apply ae;·simp;exact⟨rfl,rfl⟩
  simp;refine au (fun x:Nat×Nat×List Vn=>x.1<a.length/\x.1<=x.2.1/\x.2.2.length+x.1<=a.length/\W=eb a x.2.1 x.1++x.2.2.reverse) (fun x=>⟨[(0,.pv (.ro (aI a))),(6,.ptr 6 0),(8,.own 8)],[(6,.box (dy (Gp a x.1))),(8,.arr 132 (aI x.2.2))]⟩) (fun x=>x.1) [] (i0,a.length,[]) ?_ ?_ ?_;·exact⟨hi0,by show i0<=a.length;omega,by simp;omega,by simp[hW]⟩
  ·simp[dy,iy hi0,hv]
  ·rintro⟨i,f,o⟩ ⟨hi,hf,hol,hWe⟩;dsimp only at hi hf hol hWe;rw[iy hi];have hbv:(if a[i].inl=true then 0 else a[i].b)=bG a[i]:=rfl;have hol6:o.length<=100000:=by omega
   have hrow:aI o++[[PV.int .u64 a[i].n,.int .u64 a[i].b,.int .u64 a[i].p,.int .u64 a[i].i,.int .u64 a[i].s,.int .u64 a[i].z,.int .u64 a[i].m,.str a[i].t,.bool a[i].inl,.bool a[i].ej]]=aI (o++[a[i]]):=by rw[dC];rfl
   have b1:(o.length+1)*80<=140737488355328:=by omega
   have b2:o.length<=9223372036854775806:=by omega
   by_cases hb:bG a[i]=0
   ·have hWr:W=(o++[a[i]]).reverse:=by
     have hpl:eb a f i=[a[i]]:=by cases f with|zero=>rw[eb,iy hi]|succ f=>rw[eb,iy hi,if_pos hb]
     rw[hWe,hpl];simp
    have hon:o.length+1<=1000000:=by omega
    simp[dy,hbv,hb,aF,hrow,b1,b2,fl,hon];rw[hWr,List.reverse_append];rfl
   ·obtain⟨j,hji,hjx,hjn⟩:=uX hr hi hb;have hjl:j<a.length:=by omega
    obtain⟨f,rfl⟩:∃g,f=g+1:=⟨f-1,by omega⟩;have hpl:eb a (f+1) i=eb a f j++[a[i]]:=by rw[eb,iy hi,if_neg hb,hjx,q66]
    have r1:=b8 hjl;simp[dy,hbv,hb,aF,hrow,b1,b2,hl9,hjx,r1,hjl];refine⟨j,f,o++[a[i]],⟨hjl,by omega,by rw[q65,q135];omega,?_⟩,⟨?_,rfl⟩,hji⟩;·rw[hWe,hpl];simp
    ·rw[iy hjl];exact⟨rfl,rfl,rfl,rfl,rfl,rfl,rfl,rfl,rfl,rfl⟩
 ·cases h
def pX  (hb:bG (Gp l i)=0) (f:Nat):eb l f i=[Gp l i]:=by cases f with|zero=>rfl|succ f=>rw[eb,if_pos hb]
def JJ (hr:aS l=true):∀(i f g:Nat),i<l.length->i<=f->i<=g->eb l f i=eb l g i:=by intro i;induction i using Nat.strongRecOn with|_ i ih=>
 intro f g hi hf hg;by_cases hb:bG (Gp l i)=0;·rw[pX hb,pX hb]
 ·obtain⟨j,hj,hx,_⟩:=uX hr hi (by rw[<-iy hi];exact hb);rw[<-iy hi]at hx;obtain⟨f,rfl⟩:∃q,f=q+1:=⟨f-1,by omega⟩;obtain⟨g,rfl⟩:∃q,g=q+1:=⟨g-1,by omega⟩;rw[eb,eb,if_neg hb,if_neg hb,hx,q66,ih j hj f g (by omega) (by omega) (by omega)]
def DX (hr:aS l=true) (hi:i<l.length) (hb:bG l[i]≠0) (hj:j<i) (hx:uN l (bG l[i])=(j:Int)):eb l l.length i=eb l l.length j++[l[i]]:=by rw[JJ hr i l.length (l.length+1) hi (by omega) (by omega),eb,iy hi,if_neg hb,hx,q66]
def yL {l:List Vn}:∀(f i:Nat),(eb l f i).length<=f+1
 |0,i=>by simp[eb]|f+1,i=>by
  rw[eb];split;·simp
  ·have:=yL (l:=l) f (uN l (bG (Gp l i))).toNat;simp only[q65,q135];omega
@[simp] noncomputable def Grp (k:Nat):List AV->Option (Prop×AV)|[.pv (.ro a),.agg [.pv (.int .u64 n),.pv (.int .u64 b),.pv (.int .u64 p),.pv (.int .u64 i),.pv (.int .u64 s),.pv (.int .u64 z),.pv (.int .u64 m),.pv (.str t),.pv (.bool inl),.pv (.bool ej)]]=>(dec dt a).map fun l=>(l.length<=100000/\aS l=true/\(∀v∈l,kr v)/\∃q,q<k/\q<l.length/\Gp l q=⟨n,b,p,i,s,z,m,t,inl,ej⟩,.fr 156 (aI (eb l l.length (uN l n).toNat)))|_=>none
def yw (n:Int):List PV:=[.int .u64 n]
def JR:∀a b,yw a=yw b->a=b:=by intro a b h;simpa[yw]using h
def nN (l:List Int):List (List PV):=l.map yw
@[simp] def XE:nN []=[]:=rfl
@[simp] def Nf (l:List Int):(nN l).length=l.length:=by simp[nN]
def Jb {l:List Int} (h:i<l.length):rowAt (nN l) (i:Int)=[.int .u64 l[i]]:=by simp[rowAt,nN,h,yw]
@[simp] def Vh (l:List Int):dec yw (nN l)=some l:=jl JR l
def ky {rows:List (List PV)}{l:List Int} (h:dec yw rows=some l):rows=nN l:=jq h
def LO (l:List Int) (n:Int):Bool:=decide (n∈l)
def TG {l:List Int}{n:Int} (h:i<l.length) (hq:l[i]=n):LO l n=true:=by unfold LO;rw[decide_eq_true_eq,<-hq];exact q84 h
def K8 {l:List Int}{n:Int} (h:∀x∈l,¬x=n):LO l n=false:=by unfold LO;rw[decide_eq_false_iff_not];exact fun hn=>h n hn rfl
def Sl (l:List Int) (n:Int):Int:=if LO l n=true then(l.findIdx (fun x=>decide (x=n)):Int) else-1
def QP {l:List Int}{n:Int} (h:i<l.length) (hq:l[i]=n) (ht:∀x∈l.take i,¬x=n):Sl l n=i:=by
 have hf:l.findIdx (fun x=>decide (x=n))=i:=by
  rw[q173 h];refine⟨by simpa using hq,fun j hj=>?_⟩;have:l[j]∈l.take i:=by rw[q90];exact⟨j,by omega,rfl⟩
  simpa using ht _ this
 unfold Sl;rw[TG h hq,if_pos rfl,hf]
def K0 {l:List Int}{n:Int} (h:∀x∈l,¬x=n):Sl l n=-1:=by unfold Sl;rw[K8 h,if_neg (by simp)]
def TN (l:List Int) (n:Int):decide (0<=Sl l n)=LO l n:=by unfold Sl;cases LO l n<;>simp
@[simp] noncomputable def GixU:List AV->Option (Prop×AV)|[.pv (.ro a),.pv (.int .u64 n)]=>(dec yw a).map fun l=>(l.length<=1000000000,.pv (.int .i64 (Sl l n)))|_=>none
def c_ixU:aL Tryz.prog 247 GixU:=by
 intro ys φ r h hφ;unfold GixU at h;split at h
 ·rename_i ra n;obtain⟨a,ha,h⟩:=q900.1 h;cases h;cases ky ha;refine aq ah (by kernel_rfl) (by conv=>lhs;reduce) (by simp) ?_;simp;refine au (fun i:Nat=>i<=a.length/\∀x∈a.take i,¬x=n) (fun i=>⟨[(0,.pv (.ro (nN a))),(1,.pv (.int .u64 n)),(7,.pv (.int .i64 a.length)),(8,.pv (.int .i64 i))],[]⟩) (fun i=>a.length-i) [] 0 (by simp) ?_ ?_;·simp
  ·rintro i ⟨hi,ht⟩;have w2:IntKind.i64.wrap ((i:Int)+1)=(i:Int)+1:=wrap_i64 (by omega);by_cases hlt:i<a.length
   ·have r1:=Jb hlt;by_cases hq:a[i]=n;·have hx:=QP hlt hq ht;simp[w2,hlt,r1,hq,hx]
    ·have hq':¬n=a[i]:=fun e=>hq e.symm;simp[w2,hlt,r1,hq'];refine⟨i+1,⟨by omega,fun x hx=>?_⟩,by omega,by omega⟩;rw[q64 hlt,q75]at hx;rcases hx with hx|hx;·exact ht x hx
     ·rw[q73]at hx;rw[hx];exact hq
   ·rw[List.take_of_length_le (by omega)]at ht;have hx:=K0 ht;simp[hlt,hx]
 ·cases h
@[simp] noncomputable def GinU:List AV->Option (Prop×AV)|[.pv (.ro a),.pv (.int .u64 n)]=>(dec yw a).map fun l=>(l.length<=1000000000,.pv (.bool (LO l n)))|_=>none
def ZJ:aL Tryz.prog 238 GinU:=by
 intro ys φ r h hφ;unfold GinU at h;split at h;·rename_i ra n;obtain⟨a,ha,h⟩:=q900.1 h;cases h;cases ky ha;have hq:=TN a n;refine aq (ag c_ixU ah) (by kernel_rfl) (by conv=>lhs;reduce) (by simp) ?_;simp[hφ,hq]
 ·cases h
def G5 (ks:List PV) (n:Int):Bool:=ks.any (oH (.int .u64 n))
@[simp] def Zz:List AV->Option (Prop×AV)|[.agg [.pv (.int .u64 n),.pv (.int .u64 _),.pv (.int .u64 _),.pv (.int .u64 _),.pv (.int .u64 _),.pv (.int .u64 _),.pv (.int .u64 _),.pv (.str _),.pv (.bool _),.pv (.bool _)],.rp [.mp ks]]=>some ((∀x∈ks,dP x=9),.pv (.bool (!G5 ks n)))|_=>none
def Oo:aL Tryz.prog 241 Zz:=by
 intro ys φ r h hφ;unfold Zz at h;split at h;·cases h;refine aq ah (by kernel_rfl) (by conv=>lhs;reduce) (by simp) ?_;simp[cd];exact⟨hφ,rfl⟩
 ·cases h
def FR:gz Tryz.prog 241=true:=by kernel_rfl
def KV (p:Vn->Bool) (l:List Vn):Int:=if l.findIdx p<l.length then(l.findIdx p:Int) else-1
def RX {p:Vn->Bool} (h:i<l.length) (hq:p l[i]=true) (ht:∀v∈l.take i,p v=false):KV p l=i:=by
 have hf:l.findIdx p=i:=by
  rw[q173 h];refine⟨hq,fun j hj=>?_⟩;have:l[j]∈l.take i:=by rw[q90];exact⟨j,by omega,rfl⟩
  exact ht _ this
 unfold KV;rw[hf,if_pos h]
def Ck {p:Vn->Bool} (ht:∀v∈l,p v=false):KV p l=-1:=by
 have hf:l.findIdx p=l.length:=by rw[q210];exact ht
 unfold KV;rw[hf,if_neg (by omega)]
def Mj (p:Vn->Bool) (l:List Vn):0<=KV p l↔l.any p=true:=by
 unfold KV;split;·rename_i h;have:=q211.1 h;simp only[q133];exact⟨fun _=>this,fun _=>by omega⟩
 ·rename_i h;rw[q211]at h;simp only[q133];exact⟨fun h'=>by omega,fun h'=>absurd h' h⟩
def Ea {p:Vn->Bool}{k:Nat} (h:KV p l=(k:Int)):k<l.length/\(l.take (k+1)).filter (fun e=>!p e)=l.take k:=by
 unfold KV at h;split at h
 ·rename_i hlt;have hk:l.findIdx p=k:=by omega
  rw[hk]at hlt;refine⟨hlt,?_⟩;obtain⟨h1,h2⟩:=(q173 hlt).1 hk;rw[q64 hlt,q165];have hf:(l.take k).filter (fun e=>!p e)=l.take k:=by rw[q171];intro e he;rw[q90]at he;obtain⟨j,hj,rfl⟩:=he;have:=h2 j (by omega);simpa using this
  rw[hf];simp[h1]
 ·omega
def oT (ks:List PV) (v:Vn):Bool:=!G5 ks v.n
@[simp] noncomputable def aaP:List AV->Option (Prop×AV)|[.pv (.ro a),.bI f [.rp [.mp ks]]]=>if f=241 then(dec dt a).map fun l=>(l.length<=1000000000/\∀x∈ks,dP x=9,.pv (.int .i64 (KV (oT ks) l))) else none|_=>none
def c_ixK:aL Tryz.prog 197 aaP:=by
 intro ys φ r h hφ;unfold aaP at h;split at h
 ·rename_i ra f ks;split at h
  ·rename_i hf;subst hf;obtain⟨a,ha,h⟩:=q900.1 h;cases h;cases aJ ha;obtain⟨hφ,hks⟩:=hφ;refine aq (ag Oo ah) (by kernel_rfl) (by conv=>lhs;reduce) (by simp) ?_;simp;refine au (fun i:Nat=>i<=a.length/\∀v∈a.take i,oT ks v=false) (fun i=>⟨[(0,.pv (.ro (aI a))),(1,.bI 241 [.rp [.mp ks]]),(7,.pv (.int .i64 a.length)),(8,.pv (.int .i64 i))],[]⟩) (fun i=>a.length-i) [] 0 (by simp) ?_ ?_;·simp
   ·rintro i ⟨hi,ht⟩;have w2:IntKind.i64.wrap ((i:Int)+1)=(i:Int)+1:=wrap_i64 (by omega);by_cases hlt:i<a.length
    ·have r1:=b8 hlt;have hr:oT ks a[i]=false->∀v∈a.take (i+1),oT ks v=false:=by
      intro h0 e he;rw[q64 hlt,q75]at he;rcases he with he|he;·exact ht e he
      ·rw[q73]at he;rw[he];exact h0
     simp[w2,hlt,r1,FR];refine⟨hks,fun h=>(RX hlt (by simp[oT,h]) ht).symm,fun h=>⟨i+1,⟨by omega,hr (by simp[oT,h])⟩,by omega,by omega⟩⟩
    ·simp[hlt];rw[List.take_of_length_le (by omega)]at ht;exact(Ck ht).symm
  ·cases h
 ·cases h
def th (l:List Vn) (i:Nat) (e:Vn):(aI l).set i [.int .u64 e.n,.int .u64 e.b,.int .u64 e.p,.int .u64 e.i,.int .u64 e.s,.int .u64 e.z,.int .u64 e.m,.str e.t,.bool e.inl,.bool e.ej]=aI (l.set i e):=by unfold aI;rw[q219];rfl
def Vm (ks:List PV) (l:List Vn):List Vn:=l.filter fun v=>!oT ks v
@[simp] noncomputable def Qb:List AV->Option (Prop×AV)|[.fr e a,.bI f [.rp [.mp ks]]]=>if e=132/\f=241 then(dec dt a).map fun l=>(l.length<=1000000/\∀x∈ks,dP x=9,.fr 132 (aI (Vm ks l))) else none|_=>none
def Si:pL Tryz.prog 240 Qb:=by
 intro ys φ r h hφ;unfold Qb at h;split at h
 ·rename_i e ra f ks;split at h
  ·rename_i hef;obtain⟨rfl,rfl⟩:=hef;obtain⟨a,ha,h⟩:=q900.1 h;cases h;cases aJ ha;obtain⟨hl6,hks⟩:=hφ;refine oL (ag c_ixK (ag Oo ah)) (by kernel_rfl) (by conv=>lhs;reduce) (by simp) (by simp[dv,nL,j5]) (by simp) ?_;have hl9:a.length<=1000000000:=by omega
   have isfn3:=FR;by_cases hr:a.any (oT ks)=true
   ·have hw:0<=KV (oT ks) a:=(Mj _ _).2 hr;obtain⟨k,hk⟩:=q145 hw;obtain⟨hkl,hkf⟩:=Ea hk;have hne:¬((k:Int)=-1):=by omega
    have w1:IntKind.i64.wrap ((k:Int)+1)=(k:Int)+1:=wrap_i64 (by omega);simp[hk,hne,w1,hl9];refine⟨hks,?_⟩;refine au (fun x:Nat×Nat×List Vn=>x.1<x.2.1/\x.2.1<=a.length/\x.2.2.length=a.length/\x.2.2.take x.1=(a.take x.2.1).filter (fun e=>!oT ks e)/\x.2.2.drop x.2.1=a.drop x.2.1) (fun x=>⟨[(0,.own 998),(1,.bI 241 [.rp [.mp ks]]),(5,.pv (.int .i64 x.1)),(6,.pv (.int .i64 x.2.1))],[(998,.arr 132 (aI x.2.2))]⟩) (fun x=>a.length-x.2.1) [] (k,k+1,a) ?_ ?_ ?_;·exact⟨by simp,by simp;omega,rfl,by simp[hkf],rfl⟩
    ·simp
    ·rintro⟨i,j,b⟩ ⟨h1,h2,h3,h4,h5⟩;dsimp only at h1 h2 h3 h4 h5;have w2:IntKind.i64.wrap ((j:Int)+1)=(j:Int)+1:=wrap_i64 (by omega);have w3:IntKind.i64.wrap ((i:Int)+1)=(i:Int)+1:=wrap_i64 (by omega);by_cases hlt:j<a.length
     ·have hjb:j<b.length:=by omega
      have hib:i<b.length:=by omega
      have hbj:b[j]=a[j]:=by have e1:=q93 hjb;have e2:=q93 hlt;rw[h5,e2]at e1;injection e1 with e1 _;exact e1.symm
      have r1:=b8 hjb;rw[hbj]at r1;have r2:=b8 hib;have hib':(i:Int)<a.length:=by omega
      have hdrop:∀e,(b.set i e).drop (j+1)=a.drop (j+1):=by
       intro e;rw[q257 (by omega)];have e1:(b.drop j).drop 1=(a.drop j).drop 1:=by rw[h5]
       simpa[q115]using e1
      by_cases hq:oT ks a[j]=true
      ·have hq':G5 ks a[j].n=false:=by simpa[oT]using hq
       simp[w2,w3,hlt,hjb,r1,r2,h3,hq',th,hib',isfn3];refine⟨hks,i,j+1,b,⟨by omega,by omega,h3,?_,?_⟩,⟨⟨rfl,by omega⟩,rfl⟩,by omega⟩;·rw[q64 hlt,q165,<-h4];simp[hq]
       ·have e1:(b.drop j).drop 1=(a.drop j).drop 1:=by rw[h5]
        simpa[q115]using e1
      ·have hq0:oT ks a[j]=false:=by simpa using hq
       have hq':G5 ks a[j].n=true:=by simpa[oT]using hq
       simp[w2,w3,hlt,hjb,r1,r2,h3,hq',th,hib',isfn3];refine⟨hks,by omega,i+1,j+1,b.set i a[j],⟨by omega,by omega,by simp[h3],?_,hdrop _⟩,⟨⟨by omega,by omega⟩,rfl⟩,by omega⟩;rw[q64 hlt,q165,<-h4,q64 (by simp;omega)];simp[hq0,q258]
     ·simp[hlt,h3];have hja:j=a.length:=by omega
      subst hja;rw[q155]at h4;have h3r:=sj b;refine⟨⟨by omega,h3r⟩,⟨by omega,?_⟩,?_⟩
      ·rintro x (hx|⟨_,rfl⟩|hx);·exact h3r x (q96 hx)
       ·rfl
       ·exact h3r x (q110 hx)
      ·rw[q111 (by simp;omega),q148,q285];unfold Vm;rw[<-h4];simp[aI,q161]
   ·have hw:KV (oT ks) a=-1:=by apply Ck;have:=hr;simp only[q133,not_exists,not_and]at this;intro e he;simpa using this e he
    have hfil:Vm ks a=a:=by unfold Vm;rw[q171];intro e he;have:=hr;simp only[q133,not_exists,not_and]at this;simpa using this e he
    simp[hw,hfil,hl9];exact hks
  ·cases h
 ·cases h
def pP (c:Int) (bU:List Int) (v:Vn):Vn:={v with ej:=v.ej||(!decide (v.n=c)&&!LO bU v.n)}
def nC (l:List Vn):Int:=((A4 l).getD v0).n
def pn (l:List Vn) (bU:List Int):List Vn:=l.map (pP (nC l) bU)
def uy (o:List Vn) (n:Int):Bool:=(List.range o.length).any fun k=>!(Gp o k).ej&&(eb o o.length k).any fun w=>decide (w.n=n)
def dR (l:List Vn) (bU:List Int):List Vn:=if aS l=false then[] else(pn l bU).filter fun v=>uy (pn l bU) v.n
def Uf (c:Int) (bU:List Int) (v:Vn):(pP c bU v).n=v.n:=rfl
def Ny {f:Vn->Vn} (hf:∀v,(f v).n=v.n) (l:List Vn) (n:Int):uN (l.map f) n=uN l n:=by
 unfold uN;rw[List.findIdx_map];have:((fun v:Vn=>decide (v.n=n))∘f)=fun v:Vn=>decide (v.n=n):=by funext v;simp[hf]
 rw[this,List.length_map]
def Il {f:Vn->Vn} (hf:∀v,(f v).n=v.n) (hb:∀v,bG (f v)=bG v) (l:List Vn):aS (l.map f)=aS l:=by
 have key:∀i,i<l.length->iZ (l.map f) i=iZ l i:=by
  intro i hi;have h1:(l.map f)[i]?=some (f l[i]):=by simp[hi]
  have h2:l[i]?=some l[i]:=q62 hi;have h3:fK (l.map f) i=fK l i:=by unfold fK;cases i with|zero=>rfl|succ i=>
   have hi':i<l.length:=by omega
   simp[hi',hf]
  unfold iZ;rw[h1,h2,h3];simp only[q101,hf,hb];rw[<-q161,Ny hf]
 unfold aS;rw[List.length_map];have:∀l':List Nat,(∀i∈l',i<l.length)->l'.all (iZ (l.map f))=l'.all (iZ l):=by intro l';induction l' with|nil=>intro _;rfl|cons x l' ih=>intro h;simp only[List.all_cons];rw[key x (h x (by simp)),ih fun i hi=>h i (by simp[hi])]
 exact this _ fun i hi=>q142.1 hi
def zA (l:List Vn) (bU:List Int):aS (pn l bU)=aS l:=Il (f:=pP (nC l) bU) (fun _=>rfl) (fun _=>rfl) l
def F6 (h:∀v∈l,kr v) (bU:List Int):∀v∈pn l bU,kr v:=by intro v hv;obtain⟨w,hw,rfl⟩:=q83.1 hv;exact h w hw
def Cj (l:List Vn) (bU:List Int):(pn l bU).length=l.length:=by simp[pn]
def vX (ns:List Int):List (PV×AV):=ns.map fun n=>(.int .u64 n,.agg [])
def E1 (n:Int) (ns:List Int):List Int:=if n∈ns then ns else ns++[n]
def Dz (n:Int):∀ns:List Int,j7 (.int .u64 n) (.agg []) (vX ns)=vX (E1 n ns)
 |[]=>by simp[vX,E1,j7]|m::ns=>by
  have ih:=Dz n ns;unfold vX at ih |-;simp only[q74,j7,oH];by_cases h:n=m;·subst h;simp[E1]
  ·have h':decide (n=m)=false:=by simpa using h
   simp only[h',q140,if_false,ih];unfold E1;by_cases hn:n∈ns;·simp[hn]
   ·simp[hn,h]
def HY (ns:List Int):gW 9 (vX ns):=by intro e he;obtain⟨n,_,rfl⟩:=q83.1 he;rfl
def Hi (ns:List Int):(vX ns).all (fun e=>Gv e.2)=true:=by rw[q85];intro e he;obtain⟨n,_,rfl⟩:=q83.1 he;rfl
def ze (ns:List Int):List PV:=ns.map (.int .u64)
def Lr (ns:List Int):(vX ns).map (·.1)=ze ns:=by simp[vX,ze]
def Iw (ns:List Int):∀x∈ze ns,dP x=9:=by intro x hx;obtain⟨n,_,rfl⟩:=q83.1 hx;rfl
def Hy (ns:List Int) (n:Int):G5 (ze ns) n=decide (n∈ns):=by unfold G5 ze;induction ns with|nil=>simp|cons m ns ih=>simp only[q74,q243,ih,oH,q78];by_cases h:n=m<;>simp[h]
def Jt (m n:Int) (ns:List Int):m∈E1 n ns↔m=n\/m∈ns:=by
 unfold E1;split;·rename_i h;exact⟨.inr,fun h'=>h'.elim (fun e=>e▸h) id⟩
 ·simp only[q75,q73];exact⟨fun h=>h.elim .inr .inl,fun h=>h.elim .inr .inl⟩
def rO (o:List Vn) (v:Vn):List Int:=(fJ o v.n).1.map (·.n)
def Df {o:List Vn} (hr:aS o=true) (n:Int):uy o n=true↔∃v∈aQ o,n∈rO o v:=by
 unfold uy;simp only[q133,q142,q71,q125,decide_eq_true_eq];constructor
 ·rintro⟨k,hk,hh,w,hw,hn⟩;rw[iy hk]at hh;have hs:o[k]∈aQ o:=by unfold aQ;simp[hh]
  refine⟨o[k],hs,?_⟩;have hg:∃v,iO o o[k].n=some v:=by unfold iO;cases hf:(aQ o).find? fun v=>decide (v.n=o[k].n) with|some v=>exact⟨v,rfl⟩|none=>rw[q183]at hf;exact absurd (decide_eq_true rfl) (hf _ hs)
  obtain⟨v,hg⟩:=hg;obtain⟨i,hi,hv,hvn⟩:=get_at hg;have hp:fJ o o[k].n=(eb o o.length k,0):=by simp only[fJ,hr,hg];rw[if_neg (by simp),hvn,uQ hr hk,q66]
  unfold rO;rw[hp];exact q83.2 ⟨w,hw,hn⟩
 ·rintro⟨v,hv,hn⟩;have hv':v∈o/\v.ej=false:=by unfold aQ at hv;simpa using hv
  obtain⟨k,hk,rfl⟩:=q128 hv'.1;have hg:∃v,iO o o[k].n=some v:=by unfold iO;cases hf:(aQ o).find? fun v=>decide (v.n=o[k].n) with|some v=>exact⟨v,rfl⟩|none=>rw[q183]at hf;exact absurd (decide_eq_true rfl) (hf _ hv)
  obtain⟨v,hg⟩:=hg;obtain⟨i,hi,hv1,hvn⟩:=get_at hg;have hp:fJ o o[k].n=(eb o o.length k,0):=by simp only[fJ,hr,hg];rw[if_neg (by simp),hvn,uQ hr hk,q66]
  unfold rO at hn;rw[hp]at hn;obtain⟨w,hw,hwn⟩:=q83.1 hn;exact⟨k,hk,by rw[iy hk];exact hv'.2,w,hw,hwn⟩
def G3 {o:List Vn} (n:Int):(fJ o n).1.length<=o.length+1:=by
 unfold fJ;split;·simp
 ·split;·simp
  ·exact yL _ _
def qj (f:Vn->Vn) (a:List Vn) (i:Nat):List Vn:=(a.take i).map f++a.drop i
def C1 (f:Vn->Vn) (a:List Vn) (i:Nat):(qj f a i).length=a.length:=by simp[qj];omega
def Jj (f:Vn->Vn) {a:List Vn} (h:i<a.length):(qj f a i).set i (f a[i])=qj f a (i+1):=by unfold qj;rw[List.set_append,if_neg (by simp;omega)];simp only[List.length_map,q68];rw[q103 (show i<=a.length by omega),q235,q93 h,List.set_cons_zero,q64 h,q162];simp only[q74,q119,q77,q137,q153]
def Nh (f:Vn->Vn) {a:List Vn} (h:i<a.length):(qj f a i)[i]'(by rw[C1];exact h)=a[i]:=by unfold qj;rw[q158 (by simp;omega)];simp only[List.length_map,q68,q103 (show i<=a.length by omega),q235];simp
@[simp] noncomputable def GC (e:TypeId):List AV->Option (Prop×AV)|[.pv (.ro a),.pv (.ro k)]=>(dec dt a).bind fun l=>(dec yw k).map fun ks=>(l.length<=100000/\ks.length<=1000000/\(∀v∈l,kr v),.fr e (aI (dR l ks)))|_=>none
def KR:aL Tryz.prog 216 (GC 132):=by
 intro ys φ r h hφ;unfold GC at h;split at h
 ·rename_i ra rk;obtain⟨a,ha,h⟩:=qB.1 h;obtain⟨ks,hk,h⟩:=q900.1 h;cases h;cases aJ ha;cases ky hk;obtain⟨hl5,hk6,hov⟩:=hφ;have hl9:a.length<=1000000000:=by omega
  have hl6:a.length<=1000000:=by omega
  have hk9:ks.length<=1000000000:=by omega
  have fl:∀l,bP (aI l):=aT;refine aq (ag IC (ag FQ (ag c_Cv (ag ZJ (ag vZ (ag R0 (ft (p:=0) (k:=998) Si (by kernel_rfl) ah))))))) (by kernel_rfl) (by conv=>lhs;reduce) (by simp) ?_;cases hr:aS a with
  |false=>
   have hp:dR a ks=[]:=by simp[dR,hr]
   simp[hl9,hr,hp]|true=>
  have hp:dR a ks=(pn a ks).filter fun v=>uy (pn a ks) v.n:=by simp[dR,hr]
  rw[hp];have hrO:=(zA a ks).trans hr;have hovO:=F6 hov ks;have hlO:=Cj a ks;have hO:pn a ks=a.map (pP (nC a) ks):=rfl;have hcur:((A4 a).getD v0).n=nC a:=rfl;generalize pn a ks=O at hrO hovO hlO hO;generalize hcc:(A4 a).getD v0=cc at hcur;simp[hl9,hl6,hr,hcc,dy];refine au (fun i:Nat=>i<=a.length) (fun i=>⟨[(1,.pv (.ro (nN ks))),(5,.own 21),(6,.ptr 6 0),(27,.own 21),(28,.pv (.int .i64 a.length)),(29,.pv (.int .i64 i))],[(21,.arr 132 (aI (qj (pP (nC a) ks) a i))),(6,.box (dy cc))]⟩) (fun i=>a.length-i) [] 0 (by simp) ?_ ?_;·simp[qj,dy]
  ·rintro i hi;have w2:IntKind.i64.wrap ((i:Int)+1)=(i:Int)+1:=wrap_i64 (by omega);have hml:=C1 (pP (nC a) ks) a i;by_cases hlt:i<a.length
   ·have r1:=b8 (l:=qj (pP (nC a) ks) a i) (i:=i) (by omega);rw[Nh _ hlt]at r1;have hst:=Jj (pP (nC a) ks) hlt;have hrs:=fun e=>th (qj (pP (nC a) ks) a i) i e;have hfin:∀b,b=(pP (nC a) ks a[i]).ej->(aI (qj (pP (nC a) ks) a i)).set i [.int .u64 a[i].n,.int .u64 a[i].b,.int .u64 a[i].p,.int .u64 a[i].i,.int .u64 a[i].s,.int .u64 a[i].z,.int .u64 a[i].m,.str a[i].t,.bool a[i].inl,.bool b]=aI (qj (pP (nC a) ks) a (i+1)):=by intro b hb;rw[<-hst,<-hrs];subst hb;rfl
    have hhid:(pP (nC a) ks a[i]).ej=(a[i].ej||(!decide (a[i].n=nC a)&&!LO ks a[i].n)):=rfl;cases hh:a[i].ej with|true=>rw[hh]at r1 hhid;simp[w2,hlt,hml,r1,dy];exact⟨i+1,by omega,⟨by omega,hfin _ (by rw[hhid];rfl)⟩,by omega⟩|false=>
     rw[hh]at r1 hhid;by_cases hn:a[i].n=nC a;·simp[w2,hlt,hml,r1,dy,hcur,hn];refine⟨i+1,by omega,⟨by omega,?_⟩,by omega⟩;rw[<-hfin false (by rw[hhid];simp[hn]),hn]
     ·simp[w2,hlt,hml,r1,dy,hcur,hn];exact⟨hk9,i+1,by omega,⟨by omega,hfin _ (by rw[hhid];simp[hn])⟩,by omega⟩
   ·have hie:i=a.length:=by omega
    subst hie;have hmx:qj (pP (nC a) ks) a a.length=O:=by rw[hO];unfold qj;simp
    rw[hmx];have hm1:(Value.map none).oneCell'=true:=rfl;have hm2:cv (Value.map none)=.pv (.val (.map none)):=rfl;have hlO6:O.length<=1000000:=by omega
    simp[dy,hm1,hm2,hlO6,fl];have hs6:(aQ O).length<=1000000:=q113 (q182 _ _) hlO6;have hO5:O.length<=100000:=by omega
    refine au (fun x:Nat×List Int=>x.1<=(aQ O).length/\∀n,n∈x.2↔∃v∈(aQ O).take x.1,n∈rO O v) (fun x=>⟨[(5,.own 21),(10,.ptr 10 0),(57,.own 57),(58,.pv (.int .i64 (aQ O).length)),(59,.pv (.int .i64 x.1))],[(57,.arr 132 (aI (aQ O))),(10,.box [.own 55]),(55,.map (vX x.2)),(21,.arr 132 (aI O))]⟩) (fun x=>(aQ O).length-x.1) [] (0,[]) ?_ ?_ ?_;·exact⟨by simp,by simp⟩
    ·simp[vX]
    ·rintro⟨j,ns⟩ ⟨hj,hns⟩;dsimp only at hj hns;have w4:IntKind.i64.wrap ((j:Int)+1)=(j:Int)+1:=wrap_i64 (by omega);by_cases hjl:j<(aQ O).length
     ·have r2:=b8 hjl;have hpl:=G3 (o:=O) (aQ O)[j].n;have hpN:rO O (aQ O)[j]=(fJ O (aQ O)[j].n).1.map (fun v:Vn=>v.n):=rfl;have hnext:∀ns':List Int,(∀n:Int,n∈ns'↔n∈ns\/n∈rO O (aQ O)[j])->∀n:Int,n∈ns'↔∃v∈(aQ O).take (j+1),n∈rO O v:=by
       intro ns' hn' n;rw[hn',hns,q64 hjl];constructor
       ·rintro(⟨v,hv,hm⟩|hm);·exact⟨v,q75.2 (.inl hv),hm⟩
        ·exact⟨_,q75.2 (.inr (q73.2 rfl)),hm⟩
       ·rintro⟨v,hv,hm⟩;rw[q75,q73]at hv;rcases hv with hv|rfl;·exact .inl ⟨v,hv,hm⟩
        ·exact .inr hm
      simp[w4,hjl,r2,fl,hO5,hovO];generalize hW:(fJ O (aQ O)[j].n).1=W at hpl hpN;refine⟨hovO,?_⟩;refine au (fun x:Nat×List Int=>x.1<=W.length/\∀n,n∈x.2↔n∈ns\/n∈(W.take x.1).map (fun v:Vn=>v.n)) (fun x=>⟨[(5,.own 21),(10,.ptr 10 0),(57,.own 57),(58,.pv (.int .i64 (aQ O).length)),(59,.pv (.int .i64 j)),(70,.own 67),(71,.pv (.int .i64 W.length)),(72,.pv (.int .i64 x.1))],[(67,.arr 132 (aI W)),(57,.arr 132 (aI (aQ O))),(10,.box [.own 55]),(55,.map (vX x.2)),(21,.arr 132 (aI O))]⟩) (fun x=>W.length-x.1) [] (0,ns) ?_ ?_ ?_;·exact⟨by simp,by simp⟩
      ·simp
      ·rintro⟨k,ms⟩ ⟨hk',hms⟩;dsimp only at hk' hms;have w5:IntKind.i64.wrap ((k:Int)+1)=(k:Int)+1:=wrap_i64 (by omega);have hks9:=HY ms;by_cases hkl:k<W.length
       ·have r3:=b8 hkl;have hput:=Dz W[k].n ms;simp[w5,hkl,r3,hks9,hput];refine⟨k+1,E1 W[k].n ms,⟨by omega,fun n=>?_⟩,⟨by omega,rfl⟩,by omega⟩;rw[Jt,hms,<-q161,q64 hkl];simp only[q162,q74,q119,q75,q73];constructor
        ·rintro(h|h|h);·exact .inr (.inr h)
         ·exact .inl h
         ·exact .inr (.inl h)
        ·rintro(h|h|h);·exact .inr (.inl h)
         ·exact .inr (.inr h)
         ·exact .inl h
       ·have hke:k=W.length:=by omega
        subst hke;simp[w4,hjl];exact⟨j+1,ms,⟨by omega,hnext ms fun n=>by rw[hms,q155,hpN]⟩,⟨by omega,rfl⟩,by omega⟩
     ·have hje:j=(aQ O).length:=by omega
      subst hje;rw[q155]at hns;have hun:=Hi ns;have hfs:=Lr ns;have hkk:=Iw ns;have hin:Vm (ze ns) O=O.filter fun v=>uy O v.n:=by unfold Vm;congr 1;funext v;simp only[oT,Hy,Bool.not_not];rw[q232,decide_eq_true_eq,hns,Df hrO]
      have hkm:∀t es,eM t (.map es)=.map es:=fun _ _=>rfl;simp[hun,hfs,hin,hlO6,fl,hkm];exact hkk
 ·cases h
def qh (a:Ap):Ap×Bool:=(⟨a.l,(yG a.ps a.r.v).1,a.vs,a.sl,a.r,a.n,a.s⟩,decide ((yG a.ps a.r.v).2=0))
def DI (a:Ap):Ap×Bool:=(⟨a.l,(yD a.ps ⟨a.n,a.r.v,a.r.u⟩).1,a.vs,a.sl,a.r,a.n,a.s⟩,(iO a.vs a.r.v).isSome&&decide ((yD a.ps ⟨a.n,a.r.v,a.r.u⟩).2=0))
def m0 (a:Ap):Vn:=⟨a.n,a.r.v,a.r.p,a.r.i,a.r.s,a.r.z,a.r.m,[],false,false⟩
def kg (a:Ap):Ap×Bool:=(⟨a.l,a.ps,(gh a.vs (m0 a)).1,a.sl,a.r,a.n,a.s⟩,!a.sl&&qV a.l a.r.p a.r.i a.r.e&&decide ((gh a.vs (m0 a)).2=0))
noncomputable def ld (a:Ap):Ap×Bool:=(⟨a.l,iN a.ps a.r.c a.s,dR a.vs (tT ((iN a.ps a.r.c a.s).map Pn.v)),a.sl,a.r,a.n,a.s⟩,true)
def JS:eE Tryz.prog 178 (DW (fun a=>a.ps.length<=100000) qh):=by
 intro ys φ r h hφ;unfold DW at h;split at h;·obtain⟨a,ha,h⟩:=q900.1 h;cases h;cases eK ha;obtain⟨⟨e,p,i,u,h'⟩,ps,vs,sl,⟨k,rp,ri,rs,re,ru,rv,rc,rz,rm,rn,rt⟩,n,s⟩:=a;refine cC (ag Q9 ah) (by kernel_rfl) (by conv=>lhs;reduce) (by simp) rfl (by simp[qn]) ?_;have h1:ps.length<=100000:=hφ;simp[qn,qh,h1,aV]
 ·cases h
def Uo:eE Tryz.prog 177 (DW (fun a=>a.ps.length<=1000000/\a.vs.length<=1000000) DI):=by
 intro ys φ r h hφ;unfold DW at h;split at h;·obtain⟨a,ha,h⟩:=q900.1 h;cases h;cases eK ha;obtain⟨⟨e,p,i,u,h'⟩,ps,vs,sl,⟨k,rp,ri,rs,re,ru,rv,rc,rz,rm,rn,rt⟩,n,s⟩:=a;refine cC (ag Th (ag Rk ah)) (by kernel_rfl) (by conv=>lhs;reduce) (by simp) rfl (by simp[qn]) ?_;obtain⟨h1,h2⟩:=hφ;have h1:ps.length<=1000000:=h1;have h2:vs.length<=1000000:=h2;simp[qn,DI,h1,h2,aV,dy]
 ·cases h
def HK:eE Tryz.prog 176 (DW (fun a=>a.vs.length<=100000/\(∀v∈a.vs,kr v)/\kr (m0 a)) kg):=by
 intro ys φ r h hφ;unfold DW at h;split at h
 ·obtain⟨a,ha,h⟩:=q900.1 h;cases h;cases eK ha;obtain⟨⟨e,p,i,u,h'⟩,ps,vs,sl,⟨k,rp,ri,rs,re,ru,rv,rc,rz,rm,rn,rt⟩,n,s⟩:=a;refine cC (ag Tu (ag QV ah)) (by kernel_rfl) (by conv=>lhs;reduce) (by simp) rfl (by simp[qn]) ?_;obtain⟨h1,h2,h3⟩:=hφ;have h1:vs.length<=100000:=h1;have h2:∀v∈vs,kr v:=h2;have h3:kr ⟨n,rv,rp,ri,rs,rz,rm,[],false,false⟩:=h3;cases sl<;>simp[qn,kg,m0,h1,h3,aT];·exact⟨⟨h2,h3⟩,rfl⟩
  ·exact⟨h2,h3⟩
 ·cases h
def ED:eE Tryz.prog 180 (DW (fun a=>a.ps.length<50/\(∀e∈a.ps,iV e)/\cg a.r.c/\cg a.s/\a.vs.length<=100000/\∀v∈a.vs,kr v) ld):=by
 intro ys φ r h hφ;unfold DW at h;split at h
 ·obtain⟨a,ha,h⟩:=q900.1 h;cases h;cases eK ha;obtain⟨⟨e,p,i,u,h'⟩,ps,vs,sl,⟨k,rp,ri,rs,re,ru,rv,rc,rz,rm,rn,rt⟩,n,s⟩:=a;refine cC (ag Tj (ag c_pV (ag KR ah))) (by kernel_rfl) (by conv=>lhs;reduce) (by simp) rfl (by simp[qn]) ?_;obtain⟨h1,h2,h3,h4,h5,h6⟩:=hφ;have h1:ps.length<50:=h1;have h3:cg rc:=h3;have h4:cg s:=h4;have h5:vs.length<=100000:=h5;have h7:ps.length<=1000000:=by omega
  have h8:(iN ps rc s).length<50:=by have:=q182 (fun e=>!jH rc s e) ps;unfold iN;omega
  have h9:(tT ((iN ps rc s).map Pn.v)).length<=1000000:=by have:=Iu ((iN ps rc s).map Pn.v);rw[List.length_map]at this;omega
  have hU:∀l:List Int,b6 l=nN l:=fun _=>rfl;have fU:∀l:List Int,bP (nN l):=xw;have h10:∀e∈ps,cg e.u:=fun e he=>(h2 e he).2.2;have h11:(∀e∈ps,cg e.u)=True:=eq_true h10;simp[qn,ld,h1,h3,h4,h5,h7,h8,h9,hU,fU,aV,aT];exact⟨h10,h6⟩
 ·cases h
noncomputable def Wc (a:Ap):Option (Ap×Bool):=if a.r.k=1 then some (kN a) else if a.r.k=2 then some (s0 a) else if a.r.k=3 then some (lH a) else if a.r.k=4 then some (kg a) else if a.r.k=5 then some (DI a) else if a.r.k=6 then some (qh a) else if a.r.k=7 then some (yR a) else if a.r.k=8 then some (ld a) else none
def ck (a:Ap):List AV:=[.pv (.int .u64 a.l.e),.pv (.int .u64 a.l.p),.pv (.int .u64 a.l.i),.pv (.int .u64 a.l.u),.pv (.bool a.l.h),.fr 177 (ay a.ps),.fr 132 (aI a.vs),.pv (.bool a.sl)]
noncomputable def cL (a:Ap):Ap×Int:=match Wc a with|none=>(a,220)|some x=>if cF a.r=true/\x.2=true then(x.1,0) else(a,220)
def XZ (a:Ap):Prop:=cg a.l.e/\a.ps.length<50/\a.vs.length<=100000/\(∀e∈a.ps,iV e)/\(∀v∈a.vs,kr v)/\cg a.r.c/\cg a.s/\kr (m0 a)
noncomputable def TP:List AV->Option (Prop×AV)|[.agg [.pv (.int .u64 e),.pv (.int .u64 p),.pv (.int .u64 i),.pv (.int .u64 u),.pv (.bool h),.pv (.ro a),.pv (.ro b),.pv (.bool sl)],.agg [.pv (.int .u8 k),.pv (.int .u64 rp),.pv (.int .u64 ri),.pv (.int .u64 rs),.pv (.int .u64 re),.pv (.int .u64 ru),.pv (.int .u64 rv),.pv (.int .u64 rc),.pv (.int .u64 rz),.pv (.int .u64 rm),.pv (.str rn),.pv (.str rt)],.pv (.int .u64 n),.pv (.int .u64 s)]=>(dec rowP a).bind fun ps=>(dec dt b).map fun vs=>(XZ ⟨⟨e,p,i,u,h⟩,ps,vs,sl,⟨k,rp,ri,rs,re,ru,rv,rc,rz,rm,rn,rt⟩,n,s⟩,.aN [.agg (ck (cL ⟨⟨e,p,i,u,h⟩,ps,vs,sl,⟨k,rp,ri,rs,re,ru,rv,rc,rz,rm,rn,rt⟩,n,s⟩).1),.pv (.int .i64 (cL ⟨⟨e,p,i,u,h⟩,ps,vs,sl,⟨k,rp,ri,rs,re,ru,rv,rc,rz,rm,rn,rt⟩,n,s⟩).2)])|_=>none
def c_App:aL Tryz.prog 95 TP:=by
 intro ys φ r h hφ;unfold TP at h;split at h
 ·rename_i e p i u h' ra rb sl k rp ri rs re ru rv rc rz rm rn rt n s;obtain⟨ps,hp,h⟩:=qB.1 h;obtain⟨vs,hv,h⟩:=q900.1 h;cases h;cases aM hp;cases aJ hv;obtain⟨h1,h2,h3,h4,h5,h6,h7,h8⟩:=hφ;have h2:ps.length<50:=h2;have h3:vs.length<=100000:=h3;have h9:ps.length<=100000:=by omega
  refine aq (ag P4 (ag Rz (ag F8 (bq (ks:=[2]) KP (by kernel_rfl) (bq (ks:=[2]) Lo (by kernel_rfl) (bq (ks:=[2]) Fp (by kernel_rfl) (bq (ks:=[2]) HK (by kernel_rfl) (bq (ks:=[2]) Uo (by kernel_rfl) (bq (ks:=[2]) JS (by kernel_rfl) (bq (ks:=[2]) NB (by kernel_rfl) (bq (ks:=[2]) ED (by kernel_rfl) ah))))))))))) (by kernel_rfl) (by conv=>lhs;reduce) (by simp) ?_;apply ae;·simp;exact⟨rfl,rfl⟩
  apply ae;·simp[h9,h3];exact⟨rfl,rfl⟩
  have hE:cg e:=h1;have hP:(∀e∈ps,iV e)=True:=eq_true h4;have hV:(∀v∈vs,kr v)=True:=eq_true h5;have hC:cg rc:=h6;have hS:cg s:=h7;have hP6:ps.length<=1000000:=by omega
  have hV6:vs.length<=1000000:=by omega
  clear hp hv;have hk:k=1\/k=2\/k=3\/k=4\/k=5\/k=6\/k=7\/k=8\/((k≠1/\k≠2/\k≠3/\k≠4)/\k≠5/\k≠6/\k≠7/\k≠8):=by omega
  rcases hk with rfl|rfl|rfl|rfl|rfl|rfl|rfl|rfl|⟨⟨k1,k2,k3,k4⟩,k5,k6,k7,k8⟩
  ·have hA:cL ⟨⟨e,p,i,u,h'⟩,ps,vs,sl,⟨1,rp,ri,rs,re,ru,rv,rc,rz,rm,rn,rt⟩,n,s⟩=if cF ⟨1,rp,ri,rs,re,ru,rv,rc,rz,rm,rn,rt⟩=true/\(kN ⟨⟨e,p,i,u,h'⟩,ps,vs,sl,⟨1,rp,ri,rs,re,ru,rv,rc,rz,rm,rn,rt⟩,n,s⟩).2=true then((kN ⟨⟨e,p,i,u,h'⟩,ps,vs,sl,⟨1,rp,ri,rs,re,ru,rv,rc,rz,rm,rn,rt⟩,n,s⟩).1,0) else(⟨⟨e,p,i,u,h'⟩,ps,vs,sl,⟨1,rp,ri,rs,re,ru,rv,rc,rz,rm,rn,rt⟩,n,s⟩,220):=rfl;rw[hA];apply ae;·simp[mH,BK];exact⟨rfl,rfl,rfl⟩
   generalize hx:kN ⟨⟨e,p,i,u,h'⟩,ps,vs,sl,⟨1,rp,ri,rs,re,ru,rv,rc,rz,rm,rn,rt⟩,n,s⟩=x;obtain⟨⟨⟨e',p',i',u',h''⟩,ps',vs',sl',⟨k',rp',ri',rs',re',ru',rv',rc',rz',rm',rn',rt'⟩,n',s'⟩,b⟩:=x;rw[bh];cases hR:cF ⟨1,rp,ri,rs,re,ru,rv,rc,rz,rm,rn,rt⟩ with
   |false=>
    apply ae;·simp[hR];exact⟨rfl,rfl⟩
    simp[hR,h9,h3,ck]|true=>
    apply ae;·simp[hR,hx,qn,hE];exact⟨by kernel_rfl,rfl,rfl⟩
    cases b with|false=>simp[hR,h9,h3,ck]|true=>simp[hR,ck]
  ·have hA:cL ⟨⟨e,p,i,u,h'⟩,ps,vs,sl,⟨2,rp,ri,rs,re,ru,rv,rc,rz,rm,rn,rt⟩,n,s⟩=if cF ⟨2,rp,ri,rs,re,ru,rv,rc,rz,rm,rn,rt⟩=true/\(s0 ⟨⟨e,p,i,u,h'⟩,ps,vs,sl,⟨2,rp,ri,rs,re,ru,rv,rc,rz,rm,rn,rt⟩,n,s⟩).2=true then((s0 ⟨⟨e,p,i,u,h'⟩,ps,vs,sl,⟨2,rp,ri,rs,re,ru,rv,rc,rz,rm,rn,rt⟩,n,s⟩).1,0) else(⟨⟨e,p,i,u,h'⟩,ps,vs,sl,⟨2,rp,ri,rs,re,ru,rv,rc,rz,rm,rn,rt⟩,n,s⟩,220):=rfl;rw[hA];apply ae;·simp[mH,BK];exact⟨rfl,rfl,rfl⟩
   generalize hx:s0 ⟨⟨e,p,i,u,h'⟩,ps,vs,sl,⟨2,rp,ri,rs,re,ru,rv,rc,rz,rm,rn,rt⟩,n,s⟩=x;obtain⟨⟨⟨e',p',i',u',h''⟩,ps',vs',sl',⟨k',rp',ri',rs',re',ru',rv',rc',rz',rm',rn',rt'⟩,n',s'⟩,b⟩:=x;rw[bh];cases hR:cF ⟨2,rp,ri,rs,re,ru,rv,rc,rz,rm,rn,rt⟩ with
   |false=>
    apply ae;·simp[hR];exact⟨rfl,rfl⟩
    simp[hR,h9,h3,ck]|true=>
    apply ae;·simp[hR,hx,qn];exact⟨by kernel_rfl,rfl,rfl⟩
    cases b with|false=>simp[hR,h9,h3,ck]|true=>simp[hR,ck]
  ·have hA:cL ⟨⟨e,p,i,u,h'⟩,ps,vs,sl,⟨3,rp,ri,rs,re,ru,rv,rc,rz,rm,rn,rt⟩,n,s⟩=if cF ⟨3,rp,ri,rs,re,ru,rv,rc,rz,rm,rn,rt⟩=true/\(lH ⟨⟨e,p,i,u,h'⟩,ps,vs,sl,⟨3,rp,ri,rs,re,ru,rv,rc,rz,rm,rn,rt⟩,n,s⟩).2=true then((lH ⟨⟨e,p,i,u,h'⟩,ps,vs,sl,⟨3,rp,ri,rs,re,ru,rv,rc,rz,rm,rn,rt⟩,n,s⟩).1,0) else(⟨⟨e,p,i,u,h'⟩,ps,vs,sl,⟨3,rp,ri,rs,re,ru,rv,rc,rz,rm,rn,rt⟩,n,s⟩,220):=rfl;rw[hA];apply ae;·simp[mH,BK];exact⟨rfl,rfl,rfl⟩
   generalize hx:lH ⟨⟨e,p,i,u,h'⟩,ps,vs,sl,⟨3,rp,ri,rs,re,ru,rv,rc,rz,rm,rn,rt⟩,n,s⟩=x;obtain⟨⟨⟨e',p',i',u',h''⟩,ps',vs',sl',⟨k',rp',ri',rs',re',ru',rv',rc',rz',rm',rn',rt'⟩,n',s'⟩,b⟩:=x;rw[bh];cases hR:cF ⟨3,rp,ri,rs,re,ru,rv,rc,rz,rm,rn,rt⟩ with
   |false=>
    apply ae;·simp[hR];exact⟨rfl,rfl⟩
    simp[hR,h9,h3,ck]|true=>
    apply ae;·simp[hR,hx,qn];exact⟨by kernel_rfl,rfl,rfl⟩
    cases b with|false=>simp[hR,h9,h3,ck]|true=>simp[hR,ck]
  ·have hA:cL ⟨⟨e,p,i,u,h'⟩,ps,vs,sl,⟨4,rp,ri,rs,re,ru,rv,rc,rz,rm,rn,rt⟩,n,s⟩=if cF ⟨4,rp,ri,rs,re,ru,rv,rc,rz,rm,rn,rt⟩=true/\(kg ⟨⟨e,p,i,u,h'⟩,ps,vs,sl,⟨4,rp,ri,rs,re,ru,rv,rc,rz,rm,rn,rt⟩,n,s⟩).2=true then((kg ⟨⟨e,p,i,u,h'⟩,ps,vs,sl,⟨4,rp,ri,rs,re,ru,rv,rc,rz,rm,rn,rt⟩,n,s⟩).1,0) else(⟨⟨e,p,i,u,h'⟩,ps,vs,sl,⟨4,rp,ri,rs,re,ru,rv,rc,rz,rm,rn,rt⟩,n,s⟩,220):=rfl;rw[hA];have hN:kr (m0 ⟨⟨e,p,i,u,h'⟩,ps,vs,sl,⟨4,rp,ri,rs,re,ru,rv,rc,rz,rm,rn,rt⟩,n,s⟩):=h8;apply ae;·simp[mH,BK];exact⟨rfl,rfl,rfl⟩
   generalize hx:kg ⟨⟨e,p,i,u,h'⟩,ps,vs,sl,⟨4,rp,ri,rs,re,ru,rv,rc,rz,rm,rn,rt⟩,n,s⟩=x;obtain⟨⟨⟨e',p',i',u',h''⟩,ps',vs',sl',⟨k',rp',ri',rs',re',ru',rv',rc',rz',rm',rn',rt'⟩,n',s'⟩,b⟩:=x;rw[bh];cases hR:cF ⟨4,rp,ri,rs,re,ru,rv,rc,rz,rm,rn,rt⟩ with
   |false=>
    apply ae;·simp[hR];exact⟨rfl,rfl⟩
    simp[hR,h9,h3,ck]|true=>
    apply ae;·simp[hR,hx,qn,h3,hV,hN];exact⟨by kernel_rfl,rfl,rfl⟩
    cases b with|false=>simp[hR,h9,h3,ck]|true=>simp[hR,ck]
  ·have hA:cL ⟨⟨e,p,i,u,h'⟩,ps,vs,sl,⟨5,rp,ri,rs,re,ru,rv,rc,rz,rm,rn,rt⟩,n,s⟩=if cF ⟨5,rp,ri,rs,re,ru,rv,rc,rz,rm,rn,rt⟩=true/\(DI ⟨⟨e,p,i,u,h'⟩,ps,vs,sl,⟨5,rp,ri,rs,re,ru,rv,rc,rz,rm,rn,rt⟩,n,s⟩).2=true then((DI ⟨⟨e,p,i,u,h'⟩,ps,vs,sl,⟨5,rp,ri,rs,re,ru,rv,rc,rz,rm,rn,rt⟩,n,s⟩).1,0) else(⟨⟨e,p,i,u,h'⟩,ps,vs,sl,⟨5,rp,ri,rs,re,ru,rv,rc,rz,rm,rn,rt⟩,n,s⟩,220):=rfl;rw[hA];apply ae;·simp[mH,BK];exact⟨rfl,rfl,rfl⟩
   generalize hx:DI ⟨⟨e,p,i,u,h'⟩,ps,vs,sl,⟨5,rp,ri,rs,re,ru,rv,rc,rz,rm,rn,rt⟩,n,s⟩=x;obtain⟨⟨⟨e',p',i',u',h''⟩,ps',vs',sl',⟨k',rp',ri',rs',re',ru',rv',rc',rz',rm',rn',rt'⟩,n',s'⟩,b⟩:=x;rw[bh];cases hR:cF ⟨5,rp,ri,rs,re,ru,rv,rc,rz,rm,rn,rt⟩ with
   |false=>
    apply ae;·simp[hR];exact⟨rfl,rfl⟩
    simp[hR,h9,h3,ck]|true=>
    apply ae;·simp[hR,hx,qn,hP6,hV6];exact⟨by kernel_rfl,rfl,rfl⟩
    cases b with|false=>simp[hR,h9,h3,ck]|true=>simp[hR,ck]
  ·have hA:cL ⟨⟨e,p,i,u,h'⟩,ps,vs,sl,⟨6,rp,ri,rs,re,ru,rv,rc,rz,rm,rn,rt⟩,n,s⟩=if cF ⟨6,rp,ri,rs,re,ru,rv,rc,rz,rm,rn,rt⟩=true/\(qh ⟨⟨e,p,i,u,h'⟩,ps,vs,sl,⟨6,rp,ri,rs,re,ru,rv,rc,rz,rm,rn,rt⟩,n,s⟩).2=true then((qh ⟨⟨e,p,i,u,h'⟩,ps,vs,sl,⟨6,rp,ri,rs,re,ru,rv,rc,rz,rm,rn,rt⟩,n,s⟩).1,0) else(⟨⟨e,p,i,u,h'⟩,ps,vs,sl,⟨6,rp,ri,rs,re,ru,rv,rc,rz,rm,rn,rt⟩,n,s⟩,220):=rfl;rw[hA];apply ae;·simp[mH,BK];exact⟨rfl,rfl,rfl⟩
   generalize hx:qh ⟨⟨e,p,i,u,h'⟩,ps,vs,sl,⟨6,rp,ri,rs,re,ru,rv,rc,rz,rm,rn,rt⟩,n,s⟩=x;obtain⟨⟨⟨e',p',i',u',h''⟩,ps',vs',sl',⟨k',rp',ri',rs',re',ru',rv',rc',rz',rm',rn',rt'⟩,n',s'⟩,b⟩:=x;rw[bh];cases hR:cF ⟨6,rp,ri,rs,re,ru,rv,rc,rz,rm,rn,rt⟩ with
   |false=>
    apply ae;·simp[hR];exact⟨rfl,rfl⟩
    simp[hR,h9,h3,ck]|true=>
    apply ae;·simp[hR,hx,qn,h9];exact⟨by kernel_rfl,rfl,rfl⟩
    cases b with|false=>simp[hR,h9,h3,ck]|true=>simp[hR,ck]
  ·have hA:cL ⟨⟨e,p,i,u,h'⟩,ps,vs,sl,⟨7,rp,ri,rs,re,ru,rv,rc,rz,rm,rn,rt⟩,n,s⟩=if cF ⟨7,rp,ri,rs,re,ru,rv,rc,rz,rm,rn,rt⟩=true/\(yR ⟨⟨e,p,i,u,h'⟩,ps,vs,sl,⟨7,rp,ri,rs,re,ru,rv,rc,rz,rm,rn,rt⟩,n,s⟩).2=true then((yR ⟨⟨e,p,i,u,h'⟩,ps,vs,sl,⟨7,rp,ri,rs,re,ru,rv,rc,rz,rm,rn,rt⟩,n,s⟩).1,0) else(⟨⟨e,p,i,u,h'⟩,ps,vs,sl,⟨7,rp,ri,rs,re,ru,rv,rc,rz,rm,rn,rt⟩,n,s⟩,220):=rfl;rw[hA];apply ae;·simp[mH,BK];exact⟨rfl,rfl,rfl⟩
   generalize hx:yR ⟨⟨e,p,i,u,h'⟩,ps,vs,sl,⟨7,rp,ri,rs,re,ru,rv,rc,rz,rm,rn,rt⟩,n,s⟩=x;obtain⟨⟨⟨e',p',i',u',h''⟩,ps',vs',sl',⟨k',rp',ri',rs',re',ru',rv',rc',rz',rm',rn',rt'⟩,n',s'⟩,b⟩:=x;rw[bh];cases hR:cF ⟨7,rp,ri,rs,re,ru,rv,rc,rz,rm,rn,rt⟩ with
   |false=>
    apply ae;·simp[hR];exact⟨rfl,rfl⟩
    simp[hR,h9,h3,ck]|true=>
    apply ae;·simp[hR,hx,qn];exact⟨by kernel_rfl,rfl,rfl⟩
    cases b with|false=>simp[hR,h9,h3,ck]|true=>simp[hR,ck]
  ·have hA:cL ⟨⟨e,p,i,u,h'⟩,ps,vs,sl,⟨8,rp,ri,rs,re,ru,rv,rc,rz,rm,rn,rt⟩,n,s⟩=if cF ⟨8,rp,ri,rs,re,ru,rv,rc,rz,rm,rn,rt⟩=true/\(ld ⟨⟨e,p,i,u,h'⟩,ps,vs,sl,⟨8,rp,ri,rs,re,ru,rv,rc,rz,rm,rn,rt⟩,n,s⟩).2=true then((ld ⟨⟨e,p,i,u,h'⟩,ps,vs,sl,⟨8,rp,ri,rs,re,ru,rv,rc,rz,rm,rn,rt⟩,n,s⟩).1,0) else(⟨⟨e,p,i,u,h'⟩,ps,vs,sl,⟨8,rp,ri,rs,re,ru,rv,rc,rz,rm,rn,rt⟩,n,s⟩,220):=rfl;rw[hA];apply ae;·simp[mH,BK];exact⟨rfl,rfl,rfl⟩
   generalize hx:ld ⟨⟨e,p,i,u,h'⟩,ps,vs,sl,⟨8,rp,ri,rs,re,ru,rv,rc,rz,rm,rn,rt⟩,n,s⟩=x;obtain⟨⟨⟨e',p',i',u',h''⟩,ps',vs',sl',⟨k',rp',ri',rs',re',ru',rv',rc',rz',rm',rn',rt'⟩,n',s'⟩,b⟩:=x;rw[bh];cases hR:cF ⟨8,rp,ri,rs,re,ru,rv,rc,rz,rm,rn,rt⟩ with
   |false=>
    apply ae;·simp[hR];exact⟨rfl,rfl⟩
    simp[hR,h9,h3,ck]|true=>
    apply ae;·simp[hR,hx,qn,h2,hP,hC,hS,h3,hV];exact⟨by kernel_rfl,rfl,rfl⟩
    cases b with|false=>simp[hR,h9,h3,ck]|true=>simp[hR,ck]
  ·have hA:cL ⟨⟨e,p,i,u,h'⟩,ps,vs,sl,⟨k,rp,ri,rs,re,ru,rv,rc,rz,rm,rn,rt⟩,n,s⟩=(⟨⟨e,p,i,u,h'⟩,ps,vs,sl,⟨k,rp,ri,rs,re,ru,rv,rc,rz,rm,rn,rt⟩,n,s⟩,220):=by simp only[cL,Wc,k1,k2,k3,k4,k5,k6,k7,k8,if_false]
   rw[hA];apply ae;·simp[mH,BK,k1,k2,k3,k4,k5,k6,k7,k8];exact⟨rfl,rfl,rfl⟩
   have hnf:si Value.nilFunc=PV.val Value.nilFunc:=rfl;simp[h9,h3,ck,hnf]
 ·cases h
def dcA (a:Ap):Dc:=⟨a.l,a.ps,a.vs,a.sl⟩
end Go.Proofs.YtifcndkhigakfaaGreat.Ab
