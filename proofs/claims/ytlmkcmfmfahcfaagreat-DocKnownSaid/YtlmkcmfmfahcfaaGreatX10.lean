/- Chapter 14: pins read, as the program does it. -/
import Derived.Test.YtlmkcmfmfahcfaaGreatX9
import Derived.WalkKit
set_option linter.unusedVariables false
set_option linter.unusedSimpArgs false
set_option linter.unnecessarySimpa false
set_option maxHeartbeats 40000000
set_option maxRecDepth 100000
namespace Go.Proofs.YtlmkcmfmfahcfaaGreat.Ab
open Go Go.RowKit R
def E5 (p:Int) (R:List Pn×Int×Int):List Pn×Int×Int:=if R.2.2≠0 then([],p,R.2.2) else if eH R.1=false then([],p,2) else R
theorem ED (b:List UInt8) (p:Int) (h:(al b p).2.2=0):cG b p=E5 p (bC b (b.length+1) (al b p).1 (al b p).2.1):=by unfold cG;rw[if_neg (by simpa using h)];rfl
def Gp:List Pn→List (Nat×AO)|[]=>[(4,.box [.pv .nil])]|x::l=>[(4,.box [.own 44]),(44,.arr 94 (aF (x::l)))]
@[simp] noncomputable def UA:List AV→Option (Prop×AV)|[.pv (.ro b),.pv (.int .i64 p)]=>(dec eU b).map fun l=>(l.length≤100000000∧-9223372036854775808≤p∧p≤9223372036854775807,.aQ [.agg [.fr 94 (aF (cG l p).1)],.pv (.int .i64 (cG l p).2.1),.pv (.int .i64 (cG l p).2.2)])|_=>none
theorem UJ:aO Tryz.prog 50 UA:=by
 intro ys φ r h hφ;unfold UA at h;split at h
 ·rename_i rb p;obtain⟨b,hb,h⟩:=Option.map_eq_some_iff.1 h;cases h;cases aU hb;obtain⟨hl8,hp1,hp2⟩:=hφ;have hl:b.length≤1000000000:=by omega
  refine aw (ag wV (ag Cs (ag rQ ah))) (by kernel_rfl) (by conv=>lhs;reduce) (by simp) ?_;obtain⟨k1,k2,k3,k4,k5⟩:=dr b p;have hT1:=ED b p;have hT2:(al b p).2.2≠0→cG b p=([],p,(al b p).2.2):=fun h=>by unfold cG;rw[if_pos h]
  generalize hP:cG b p=T at*;simp(config := { maxSteps := 3000000 }) [hl,hp1,hp2];generalize(al b p).1=n at*;generalize(al b p).2.1=q0 at*;generalize(al b p).2.2=e0 at*;have h3:(3:Int).toNat=3:=rfl;have hinf:(Tryz.prog.info? 94).isSome=true:=by kernel_rfl
  refine aq (fun x:Nat×Int×List Pn×Int×Int=>0≤x.2.2.2.1∧x.2.2.2.1≤18446744073709551615∧-9223372036854775808≤x.2.1∧x.2.1≤9223372036854775807∧(x.2.2.2.2=0→T=E5 p (fW x.2.2.1 (bC b x.1 x.2.2.2.1 x.2.1))∧0≤x.2.1∧x.2.1≤b.length∧(b.length:Int)<x.1+x.2.1∧(x.2.2.1.length:Int)≤x.2.1)∧(x.2.2.2.2≠0→T=([],p,x.2.2.2.2))) (fun x=>⟨[(0,.pv (.ro (bytesRow b))),(1,.pv (.int .i64 p)),(4,.ptr 4 0),(5,.pv (.int .i64 x.2.1)),(6,.pv (.int .i64 x.2.2.2.2)),(7,.pv (.int .u64 x.2.2.2.1))],Gp x.2.2.1⟩) (fun x=>if x.2.2.2.2=0 then(b.length-x.2.1).toNat+1 else 0) [] (b.length+1,q0,[],n,e0) ?_ ?_ ?_
  ·refine⟨k2,k3,?_,?_,fun h=>⟨?_,?_⟩,hT2⟩
   ·show-9223372036854775808≤q0;by_cases he:e0=0;·have:=k1 he;omega
    ·have:=k4 he;omega
   ·show q0≤9223372036854775807;by_cases he:e0=0;·have:=k1 he;omega
    ·have:=k4 he;omega
   ·rw[tQ];exact hT1 h
   ·have:=k1 h;exact⟨by show 0≤q0;omega,by show q0≤b.length;omega,by show(b.length:Int)<(b.length+1:Nat)+q0;omega,by show(0:Int)≤q0;omega⟩
  ·simp[Gp]
  ·rintro⟨f,q,acc,m,e⟩ ⟨hm0,hm1,hq1,hq2,hz,hnz⟩;dsimp only at hm0 hm1 hq1 hq2 hz hnz;by_cases he:e=0
   ·subst he;obtain⟨hG,g1,g2,g3,g4⟩:=hz rfl;clear hz hnz;have hacc:acc.length≤1000000000:=by omega
    by_cases hlt:0<m
    ·obtain⟨f,rfl⟩:∃g,f=g+1:=⟨f-1,by omega⟩;have wl:IntKind.u64.wrap (m-1)=m-1:=wrap_u64 (by omega);by_cases h0:(aH b 3 q).2.2=0
     ·obtain⟨x,y,z,hx,o1,o2,o3⟩:=qH h0;obtain⟨_,_,i3,i4⟩:=iv b 3 q h0;have i4:=(i4 (by omega)).2;have hA:cg b q 3=([x,y,z],(aH b 3 q).2.1,0):=by unfold cg;rw[if_neg (by simpa using h0),←hx,←h0]
      rw[qO b acc f m q hlt h0,hx]at hG;have hr:bA [x,y,z]=[[.int .u64 x],[.int .u64 y],[.int .u64 z]]:=rfl;have r0:rowAt [[PV.int .u64 x],[.int .u64 y],[.int .u64 z]] 0=[.int .u64 x]:=rfl;have r1:rowAt [[PV.int .u64 x],[.int .u64 y],[.int .u64 z]] 1=[.int .u64 y]:=rfl;have r2:rowAt [[PV.int .u64 x],[.int .u64 y],[.int .u64 z]] 2=[.int .u64 z]:=rfl;cases acc with
      |nil=>
       simp(config := { maxSteps := 3000000 }) [wl,hlt,hl,hq1,hq2,h3,hA,hr,aB,r0,r1,r2,hinf,Gp];refine⟨f,(aH b 3 q).2.1,[uQ [x,y,z]],m-1,0,⟨by omega,by omega,by omega,by omega,fun _=>⟨hG,by omega,i4,by omega,by simp;omega⟩,fun h=>absurd rfl h⟩,⟨⟨?_,rfl,rfl,rfl⟩,?_⟩,?_⟩;·simp
       ·simp[aF,rowP,uQ]
       ·rw[if_pos rfl];omega|cons c acc=>
       simp(config := { maxSteps := 3000000 }) [wl,hlt,hl,hq1,hq2,h3,hA,hr,aB,r0,r1,r2,hinf,Gp];simp only[List.length_cons]at hacc g4;refine⟨⟨by omega,by omega⟩,f,(aH b 3 q).2.1,c::(acc++[uQ [x,y,z]]),m-1,0,⟨by omega,by omega,by omega,by omega,fun _=>⟨hG,by omega,i4,by omega,by simp;omega⟩,fun h=>absurd rfl h⟩,⟨⟨?_,rfl,rfl,rfl⟩,?_⟩,?_⟩;·simp
       ·simp[aF,rowP,uQ]
       ·rw[if_pos rfl];omega
     ·have hA:cg b q 3=([],q,(aH b 3 q).2.2):=by unfold cg;rw[if_pos h0]
      rw[s0 b acc f m q hlt h0]at hG;have hTe:T=([],p,(aH b 3 q).2.2):=by rw[hG];simp[E5,h0]
      cases acc with|nil=>
       simp(config := { maxSteps := 3000000 }) [wl,hlt,hl,hq1,hq2,h3,hA,h0,hinf,Gp];refine⟨f,q,[],m,(aH b 3 q).2.2,⟨hm0,hm1,hq1,hq2,fun h=>absurd h h0,fun _=>hTe⟩,⟨⟨?_,rfl,rfl,rfl⟩,?_⟩,?_⟩;·simp
       ·simp
       ·rw[if_neg h0];omega|cons c acc=>
       simp(config := { maxSteps := 3000000 }) [wl,hlt,hl,hq1,hq2,h3,hA,h0,hinf,Gp];refine⟨f,q,c::acc,m,(aH b 3 q).2.2,⟨hm0,hm1,hq1,hq2,fun h=>absurd h h0,fun _=>hTe⟩,⟨⟨?_,rfl,rfl,rfl⟩,?_⟩,?_⟩;·simp
       ·simp
       ·rw[if_neg h0];omega
    ·rw[tK b acc f m q (by omega)]at hG;by_cases hrs:eH acc=false
     ·have hTe:T=([],p,2):=by rw[hG];simp[E5,hrs]
      cases acc with|nil=>cases hrs|cons c acc=>simp(config := { maxSteps := 3000000 }) [hlt,hacc,hrs,hTe,hinf,Gp];simp only[List.length_cons]at hacc;omega
     ·have hrs':eH acc=true:=by simpa using hrs
      have hTe:T=(acc,q,0):=by rw[hG];simp[E5,hrs']
      cases acc with|nil=>simp(config := { maxSteps := 3000000 }) [hlt,hacc,hrs',hTe,hinf,Gp]|cons c acc=>simp(config := { maxSteps := 3000000 }) [hlt,hacc,hrs',hTe,hinf,Gp];simp only[List.length_cons]at hacc;omega
   ·have hTe:=hnz he;cases acc with|nil=>simp(config := { maxSteps := 3000000 }) [he,hTe,hinf,Gp]|cons c acc=>simp(config := { maxSteps := 3000000 }) [he,hTe,hinf,Gp]
 ·cases h
def lU (n u s:Int):Bool:=decide (u+s<n)
@[simp] noncomputable def Ck:List AV→Option (Prop×AV)|[.pv (.int .u64 n),.pv (.int .u64 u),.pv (.int .u64 s)]=>some (bQ n∧bQ u∧bQ s,.pv (.bool (lU n u s)))|_=>none
theorem Mb:aO Tryz.prog 133 Ck:=by
 intro ys φ r h hφ;unfold Ck at h;split at h
 ·rename_i n u s;cases h;obtain⟨⟨n1,n2⟩,⟨u1,u2⟩,⟨s1,s2⟩⟩:=hφ;refine aw ah (by kernel_rfl) (by conv=>lhs;reduce) (by simp) ?_;unfold lU;by_cases hc:u+s<18446744073709551616
  ·have e1:(u+s)/18446744073709551616=0:=by omega
   have e2:(u+s)%18446744073709551616=u+s:=by omega
   simp(config := { maxSteps := 3000000 }) [e1,e2,u1,s1]
  ·have e1:(u+s)/18446744073709551616=1:=by omega
   have e2:¬(u+s<n):=by omega
   simp(config := { maxSteps := 3000000 }) [e1,e2,u1,s1]
 ·cases h
theorem H6:aO Tryz.prog 106 Ck:=by
 intro ys φ r h hφ;unfold Ck at h;split at h
 ·rename_i n u s;cases h;obtain⟨⟨n1,n2⟩,⟨u1,u2⟩,⟨s1,s2⟩⟩:=hφ;refine aw ah (by kernel_rfl) (by conv=>lhs;reduce) (by simp) ?_;unfold lU;have w1:IntKind.u64.wrap (18446744073709551615-u)=18446744073709551615-u:=wrap_u64 (by omega);by_cases hc:s≤18446744073709551615-u;·have w2:IntKind.u64.wrap (u+s)=u+s:=wrap_u64 (by omega);simp(config := { maxSteps := 3000000 }) [w1,w2,hc]
  ·have e2:¬(u+s<n):=by omega
   simp(config := { maxSteps := 3000000 }) [w1,hc,e2]
 ·cases h
@[simp] noncomputable def Xd:List AV→Option (Prop×AV)|[.agg [.pv (.int .u64 a),.pv (.int .u64 b),.pv (.int .u64 c)],.rp [.int .u64 n],.rp [.int .u64 s]]=>some (bQ n∧bQ c∧bQ s,.pv (.bool (lU n c s)))|_=>none
theorem Kf:aO Tryz.prog 132 Xd:=by
 intro ys φ r h hφ;unfold Xd at h;split at h;·cases h;obtain⟨h1,h2,h3⟩:=hφ;refine aw (ag Mb ah) (by kernel_rfl) (by conv=>lhs;reduce) (by simp) ?_;simp(config := { maxSteps := 3000000 }) [h1,h2,h3]
 ·cases h
theorem Ce:gM Tryz.prog 132=true:=by kernel_rfl
def eJ (n s:Int) (e:Pn):Bool:=lU n e.u s
@[simp] noncomputable def VG:List AV→Option (Prop×AV)|[.pv (.ro a),.bJ f [.rp [.int .u64 n],.rp [.int .u64 s]]]=>if f=132 then(dec rowP a).map fun l=>(l.length≤1000000000∧bQ n∧bQ s∧∀e∈l,bQ e.u,.pv (.int .i64 (nz (eJ n s) l))) else none|_=>none
theorem Va:aO Tryz.prog 129 VG:=by
 intro ys φ r h hφ;unfold VG at h;split at h
 ·rename_i ra f n s;split at h
  ·rename_i hf;subst hf;obtain⟨a,ha,h⟩:=Option.map_eq_some_iff.1 h;cases h;cases aG ha;obtain⟨hl,o1,o2,o3⟩:=hφ;have hfn:=Ce;refine aw (ag Kf ah) (by kernel_rfl) (by conv=>lhs;reduce) (by simp) ?_;simp(config := { maxSteps := 3000000 });refine aq (fun i:Nat=>i≤a.length∧∀e∈a.take i,eJ n s e=false) (fun i=>⟨[(0,.pv (.ro (aF a))),(1,.bJ 132 [.rp [.int .u64 n],.rp [.int .u64 s]]),(7,.pv (.int .i64 a.length)),(8,.pv (.int .i64 i))],[]⟩) (fun i=>a.length-i) [] 0 (by simp) ?_ ?_;·simp
   ·rintro i ⟨hi,ht⟩;have w2:IntKind.i64.wrap ((i:Int)+1)=(i:Int)+1:=wrap_i64 (by omega);by_cases hlt:i<a.length
    ·have r1:=cr hlt;have o4:bQ a[i].u:=o3 _ (List.getElem_mem hlt);have hr:eJ n s a[i]=false→∀e∈a.take (i+1),eJ n s e=false:=by
      intro h0 e he;rw[List.take_succ_eq_append_getElem hlt,List.mem_append]at he;rcases he with he|he;·exact ht e he
      ·rw[List.mem_singleton]at he;rw[he];exact h0
     by_cases hp:eJ n s a[i]=true;·have hp':lU n a[i].u s=true:=hp;simp(config := { maxSteps := 3000000 }) [w2,hlt,r1,hfn,o1,o2,o4,hp'];exact(yl hlt hp ht).symm
     ·have hp0:eJ n s a[i]=false:=by simpa using hp
      have hp':lU n a[i].u s=false:=hp0;simp(config := { maxSteps := 3000000 }) [w2,hlt,r1,hfn,o1,o2,o4,hp'];exact⟨i+1,⟨by omega,hr hp0⟩,by omega,by omega⟩
    ·simp(config := { maxSteps := 3000000 }) [hlt];rw[List.take_of_length_le (by omega)]at ht;exact(jJ ht).symm
  ·cases h
 ·cases h
theorem zw {p:Pn→Bool}{l:List Pn}{k:Nat} (h:nz p l=(k:Int)):k<l.length∧(l.take (k+1)).filter (fun e=>!p e)=l.take k:=by
 unfold nz at h;split at h
 ·rename_i hlt;have hk:l.findIdx p=k:=by omega
  rw[hk]at hlt;refine⟨hlt,?_⟩;obtain⟨h1,h2⟩:=(List.findIdx_eq hlt).1 hk;rw[List.take_succ_eq_append_getElem hlt,List.filter_append];have hf:(l.take k).filter (fun e=>!p e)=l.take k:=by rw[List.filter_eq_self];intro e he;rw[List.mem_take_iff_getElem]at he;obtain⟨j,hj,rfl⟩:=he;have:=h2 j (by omega);simpa using this
  rw[hf];simp[h1]
 ·omega
theorem vX (l:List Pn) (i:Nat) (e:Pn):(aF l).set i [.int .u64 e.i,.int .u64 e.v,.int .u64 e.u]=aF (l.set i e):=by unfold aF;rw[List.map_set];rfl
def cY (l:List Pn) (n s:Int):List Pn:=l.filter fun e=>!eJ n s e
@[simp] noncomputable def Lf:List AV→Option (Prop×AV)|[.fr e a,.bJ f [.rp [.int .u64 n],.rp [.int .u64 s]]]=>if e=94∧f=132 then(dec rowP a).map fun l=>(l.length≤1000000∧bQ n∧bQ s∧∀e∈l,bQ e.u,.fr 94 (aF (cY l n s))) else none|_=>none
theorem MU:rW Tryz.prog 134 Lf:=by
 intro ys φ r h hφ;unfold Lf at h;split at h
 ·rename_i e ra f n s;split at h
  ·rename_i hef;obtain⟨rfl,rfl⟩:=hef;obtain⟨a,ha,h⟩:=Option.map_eq_some_iff.1 h;cases h;cases aG ha;obtain⟨hl6,o1,o2,o3⟩:=hφ;refine mu (ag Va (ag Kf ah)) (by kernel_rfl) (by conv=>lhs;reduce) (by simp) (by simp[cU,ll,jh]) (by simp) ?_;have hl9:a.length≤1000000000:=by omega
   have isfn3:=Ce;by_cases hr:a.any (eJ n s)=true
   ·have hw:0≤nz (eJ n s) a:=by rw[Fm];exact hr
    obtain⟨k,hk⟩:=Int.eq_ofNat_of_zero_le hw;obtain⟨hkl,hkf⟩:=zw hk;have hne:¬((k:Int)=-1):=by omega
    have w1:IntKind.i64.wrap ((k:Int)+1)=(k:Int)+1:=wrap_i64 (by omega);simp(config := { maxSteps := 3000000 }) [hk,hne,w1,hl9,o1,o2];refine⟨o3,?_⟩;refine aq (fun x:Nat×Nat×List Pn=>x.1<x.2.1∧x.2.1≤a.length∧x.2.2.length=a.length∧x.2.2.take x.1=(a.take x.2.1).filter (fun e=>!eJ n s e)∧x.2.2.drop x.2.1=a.drop x.2.1) (fun x=>⟨[(0,.own 998),(1,.bJ 132 [.rp [.int .u64 n],.rp [.int .u64 s]]),(5,.pv (.int .i64 x.1)),(6,.pv (.int .i64 x.2.1))],[(998,.arr 94 (aF x.2.2))]⟩) (fun x=>a.length-x.2.1) [] (k,k+1,a) ?_ ?_ ?_;·exact⟨by simp,by simp;omega,rfl,by simp[hkf],rfl⟩
    ·simp
    ·rintro⟨i,j,b⟩ ⟨h1,h2,h3,h4,h5⟩;dsimp only at h1 h2 h3 h4 h5;have w2:IntKind.i64.wrap ((j:Int)+1)=(j:Int)+1:=wrap_i64 (by omega);have w3:IntKind.i64.wrap ((i:Int)+1)=(i:Int)+1:=wrap_i64 (by omega);by_cases hlt:j<a.length
     ·have hjb:j<b.length:=by omega
      have hib:i<b.length:=by omega
      have o4:bQ a[j].u:=o3 _ (List.getElem_mem hlt);have hbj:b[j]=a[j]:=by have e1:=List.drop_eq_getElem_cons hjb;have e2:=List.drop_eq_getElem_cons hlt;rw[h5,e2]at e1;injection e1 with e1 _;exact e1.symm
      have r1:=cr hjb;rw[hbj]at r1;have r2:=cr hib;have hib':(i:Int)<a.length:=by omega
      have hdrop:∀e,(b.set i e).drop (j+1)=a.drop (j+1):=by
       intro e;rw[List.drop_set_of_lt (by omega)];have e1:(b.drop j).drop 1=(a.drop j).drop 1:=by rw[h5]
       simpa[List.drop_drop]using e1
      by_cases hq:eJ n s a[j]=true
      ·have hq':lU n a[j].u s=true:=hq;simp(config := { maxSteps := 3000000 }) [w2,w3,hlt,hjb,r1,r2,h3,hq',vX,hib',o1,o2,o4,isfn3];refine⟨i,j+1,b,⟨by omega,by omega,h3,?_,?_⟩,⟨⟨rfl,by omega⟩,rfl⟩,by omega⟩;·rw[List.take_succ_eq_append_getElem hlt,List.filter_append,←h4];simp[hq]
       ·have e1:(b.drop j).drop 1=(a.drop j).drop 1:=by rw[h5]
        simpa[List.drop_drop]using e1
      ·have hq0:eJ n s a[j]=false:=by simpa using hq
       have hq':lU n a[j].u s=false:=hq0;simp(config := { maxSteps := 3000000 }) [w2,w3,hlt,hjb,r1,r2,h3,hq',vX,hib',o1,o2,o4,isfn3];refine⟨by omega,i+1,j+1,b.set i a[j],⟨by omega,by omega,by simp[h3],?_,hdrop _⟩,⟨⟨by omega,by omega⟩,rfl⟩,by omega⟩;rw[List.take_succ_eq_append_getElem hlt,List.filter_append,←h4,List.take_succ_eq_append_getElem (by simp;omega)];simp[hq0,List.take_set_of_le]
     ·simp(config := { maxSteps := 3000000 }) [hlt,h3];have hja:j=a.length:=by omega
      subst hja;rw[List.take_length]at h4;have h3r:=dH b;refine⟨⟨by omega,h3r⟩,⟨by omega,?_⟩,?_⟩
      ·rintro x (hx|⟨_,rfl⟩|hx);·exact h3r x (List.mem_of_mem_take hx)
       ·rfl
       ·exact h3r x (List.mem_of_mem_drop hx)
      ·rw[List.take_append_of_le_length (by simp;omega),List.take_take,Nat.min_self];unfold cY;rw[←h4];simp[aF,List.map_take]
   ·have hw:nz (eJ n s) a=-1:=by apply jJ;have:=hr;simp only[List.any_eq_true,not_exists,not_and]at this;intro e he;simpa using this e he
    have hfil:cY a n s=a:=by unfold cY;rw[List.filter_eq_self];intro e he;have:=hr;simp only[List.any_eq_true,not_exists,not_and]at this;simpa using this e he
    simp(config := { maxSteps := 3000000 }) [hw,hfil,hl9,o1,o2];exact o3
  ·cases h
 ·cases h
@[simp] noncomputable def E2:List AV→Option (Prop×AV)|[.agg [.pv (.ro a)],.pv (.int .u64 n),.pv (.int .u64 s)]=>(dec rowP a).map fun l=>(l.length≤1000000∧bQ n∧bQ s∧∀e∈l,bQ e.u,.agg [.fr 94 (aF (cY l n s))])|_=>none
theorem Mw:aO Tryz.prog 119 E2:=by
 intro ys φ r h hφ;unfold E2 at h;split at h
 ·rename_i ra n s;obtain⟨a,ha,h⟩:=Option.map_eq_some_iff.1 h;cases h;cases aG ha;obtain⟨hl6,o1,o2,o3⟩:=hφ;have hl8:a.length≤100000000:=by omega
  refine aw (ag s8 (il (p:=0) (k:=998) MU (by kernel_rfl) ah)) (by kernel_rfl) (by conv=>lhs;reduce) (by simp) ?_;simp(config := { maxSteps := 3000000 }) [hl6,hl8,o1,o2];exact⟨o3,aA _⟩
 ·cases h
@[simp] noncomputable def GH:List AV→Option (Prop×AV)|[.pv (.ro a),.pv (.int .u64 n),.pv (.int .u64 s)]=>(dec rowP a).map fun l=>(l.length≤1000000∧bQ n∧bQ s∧∀e∈l,bQ e.u,.fr 123 (aF (cY l n s)))|_=>none
theorem Jz:aO Tryz.prog 75 GH:=by
 intro ys φ r h hφ;unfold GH at h;split at h
 ·rename_i ra n s;obtain⟨a,ha,h⟩:=Option.map_eq_some_iff.1 h;cases h;cases aG ha;obtain⟨hl6,o1,o2,o3⟩:=hφ;refine aw (ag H6 ah) (by kernel_rfl) (by conv=>lhs;reduce) (by simp) ?_;simp(config := { maxSteps := 3000000 });refine aq (fun i:Nat=>i≤a.length) (fun i=>⟨[(0,.pv (.ro (aF a))),(1,.pv (.int .u64 n)),(2,.pv (.int .u64 s)),(7,.own 7),(8,.pv (.int .i64 i))],[(7,.arr 123 (aF (cY (a.take i) n s)))]⟩) (fun i=>a.length-i) [] 0 (by simp) ?_ ?_;·simp[cY]
  ·intro i hi;have w2:IntKind.i64.wrap ((i:Int)+1)=(i:Int)+1:=wrap_i64 (by omega);by_cases hlt:i<a.length
   ·have r1:=cr hlt;have o4:bQ a[i].u:=o3 _ (List.getElem_mem hlt);have hln:(cY (a.take i) n s).length≤i:=by unfold cY;have:=List.length_filter_le (fun e=>!eJ n s e) (a.take i);simp at this;omega
    have hst:cY (a.take (i+1)) n s=cY (a.take i) n s++(if eJ n s a[i]=true then[] else[a[i]]):=by unfold cY;rw[List.take_succ_eq_append_getElem hlt,List.filter_append];cases hp:eJ n s a[i]<;>simp[hp]
    by_cases hq:eJ n s a[i]=true;·have hq':lU n a[i].u s=true:=hq;rw[if_pos hq,List.append_nil]at hst;simp(config := { maxSteps := 3000000 }) [w2,hlt,r1,hq',o1,o2,o4];refine⟨i+1,by omega,⟨by omega,by rw[hst]⟩,by omega⟩
    ·have hq0:eJ n s a[i]=false:=by simpa using hq
     have hq':lU n a[i].u s=false:=hq0;rw[if_neg hq]at hst;simp(config := { maxSteps := 3000000 }) [w2,hlt,r1,hq',o1,o2,o4,aB];refine⟨⟨by omega,by omega⟩,i+1,by omega,⟨by omega,by rw[hst,cK];rfl⟩,by omega⟩
   ·have hia:i=a.length:=by omega
    subst hia;simp(config := { maxSteps := 3000000 })
 ·cases h
def mS (l:List Pn) (e:Pn):List Pn×Int:=if eH (l++[e])=true then(l++[e],0) else([],2)
@[simp] noncomputable def Kq:List AV→Option (Prop×AV)|[.agg [.pv (.ro a)],.agg [.pv (.int .u64 x),.pv (.int .u64 y),.pv (.int .u64 z)]]=>(dec rowP a).map fun l=>(l.length≤1000000,.aQ [.agg [.fr 94 (aF (mS l ⟨x,y,z⟩).1)],.pv (.int .i64 (mS l ⟨x,y,z⟩).2)])|_=>none
theorem L8:aO Tryz.prog 117 Kq:=by
 intro ys φ r h hφ;unfold Kq at h;split at h
 ·rename_i ra x y z;obtain⟨a,ha,h⟩:=Option.map_eq_some_iff.1 h;cases h;cases aG ha;have hl8:a.length≤100000000:=by omega
  have hinf:(Tryz.prog.info? 94).isSome=true:=by kernel_rfl
  have hap:aF a++[[PV.int .u64 x,.int .u64 y,.int .u64 z]]=aF (a++[⟨x,y,z⟩]):=by rw[cK];rfl
  refine aw (ag s8 (ag rQ ah)) (by kernel_rfl) (by conv=>lhs;reduce) (by simp) ?_;unfold mS;by_cases hr:eH (a++[⟨x,y,z⟩])=true;·simp(config := { maxSteps := 3000000 }) [hl8,hr,hap,hinf,aB];exact⟨⟨by omega,by omega⟩,by omega⟩
  ·simp(config := { maxSteps := 3000000 }) [hl8,hr,hap,hinf,aB];exact⟨⟨by omega,by omega⟩,by omega⟩
 ·cases h
@[simp] noncomputable def JW:List AV→Option (Prop×AV)|[.pv (.ro a),.agg [.pv (.int .u64 x),.pv (.int .u64 y),.pv (.int .u64 z)]]=>(dec rowP a).map fun l=>(l.length≤1000000,.aQ [.fr 123 (aF (mS l ⟨x,y,z⟩).1),.pv (.int .i64 (mS l ⟨x,y,z⟩).2)])|_=>none
theorem LV:aO Tryz.prog 73 JW:=by
 intro ys φ r h hφ;unfold JW at h;split at h
 ·rename_i ra x y z;obtain⟨a,ha,h⟩:=Option.map_eq_some_iff.1 h;cases h;cases aG ha;have hl8:a.length≤100000000:=by omega
  have h3:=dH a;have hap:aF a++[[PV.int .u64 x,.int .u64 y,.int .u64 z]]=aF (a++[⟨x,y,z⟩]):=by rw[cK];rfl
  refine aw (ag tC ah) (by kernel_rfl) (by conv=>lhs;reduce) (by simp) ?_;unfold mS;by_cases hr:eH (a++[⟨x,y,z⟩])=true;·simp(config := { maxSteps := 3000000 }) [hl8,hr,hap,aB];exact⟨⟨by omega,by omega,h3⟩,⟨by omega,by omega⟩,by omega⟩
  ·simp(config := { maxSteps := 3000000 }) [hl8,hr,hap,aB];exact⟨⟨by omega,by omega,h3⟩,⟨by omega,by omega⟩,by omega⟩
 ·cases h
def iE (n:Int):List Pn→List Pn|[]=>[]|e::l=>if e.i=n then l else e::iE n l
def ia (l:List Pn) (n:Int):Bool:=l.any fun e=>decide (e.i=n)
def mO (l:List Pn) (n:Int):List Pn×Int:=if ia l n=true then(iE n l,0) else([],80)
theorem tl (n:Int):∀l:List Pn,(iE n l).length≤l.length
 |[]=>by simp[iE]|e::l=>by
  have:=tl n l;unfold iE;split;·simp
  ·simp;exact this
theorem vL (n:Int) (e:Pn):∀l:List Pn,iE n (l++[e])=if ia l n=true then iE n l++[e] else if e.i=n then l else l++[e]
 |[]=>by simp[iE,ia]|x::l=>by
  have ih:=vL n e l;by_cases hx:x.i=n;·simp[iE,ia,hx]
  ·have:ia (x::l) n=ia l n:=by simp[ia,hx]
   simp only[List.cons_append,iE,if_neg hx,ih,this];split;·rfl
   ·split<;>rfl
theorem vc {n:Int}:∀{l:List Pn},ia l n=false→iE n l=l|[],_=>rfl|x::l,h=>by simp only[ia,List.any_cons,Bool.or_eq_false_iff,decide_eq_false_iff_not]at h;simp only[iE,if_neg h.1,vc (n:=n) (l:=l) h.2]
theorem Ep (l:List Pn) (e:Pn) (n:Int):ia (l++[e]) n=(ia l n||decide (e.i=n)):=by simp[ia]
theorem Ag (n:Int):∀l:List Pn,ia l n=true→∃k:Nat,nz (fun e=>decide (e.i=n)) l=(k:Int)∧k<l.length∧iE n l=l.take k++l.drop (k+1)
 |[],h=>by simp[ia]at h|x::l,h=>by
  by_cases hx:x.i=n;·refine⟨0,?_,by simp,by simp[iE,hx]⟩;exact yl (i:=0) (by simp) (by simpa using hx) (by simp)
  ·have h':ia l n=true:=by simpa[ia,hx]using h
   obtain⟨k,h1,h2,h3⟩:=Ag n l h';refine⟨k+1,?_,by simp;omega,by simp[iE,hx,h3]⟩;unfold nz at h1 ⊢;split at h1
   ·rename_i hlt;have hf:(x::l).findIdx (fun e=>decide (e.i=n))=l.findIdx (fun e=>decide (e.i=n))+1:=by rw[List.findIdx_cons];simp[hx]
    rw[hf,if_pos (by rw[List.length_cons];omega)];omega
   ·omega
@[simp] noncomputable def Kk:List AV→Option (Prop×AV)|[.pv .nil,.pv (.int .i64 n)]=>some (0≤n∧n≤1000000,.fr 94 [])|_=>none
theorem MZ:rW Tryz.prog 143 Kk:=by
 intro ys φ r h hφ;unfold Kk at h;split at h
 ·rename_i n;cases h;obtain⟨h1,h2⟩:=hφ;have hinf:(Tryz.prog.info? 94).isSome=true:=by kernel_rfl
  have w0:IntKind.i64.wrap 0=0:=wrap_i64 (by omega);have w1:IntKind.i64.wrap n=n:=wrap_i64 (by omega);refine mu ah (by kernel_rfl) (by conv=>lhs;reduce) (by simp) (by simp[cU,ll,jh]) (by simp) ?_;have hn0:¬n<0:=by omega
  by_cases h0:0<n;·simp(config := { maxSteps := 3000000 }) [hn0,h0,w0,w1,hinf];exact⟨h1,by omega,by omega⟩
  ·simp(config := { maxSteps := 3000000 }) [hn0,h0,w0,w1,hinf]
 ·cases h
@[simp] noncomputable def V9:List AV→Option (Prop×AV)|[.pv (.ro [[.ro a],[.ro b]])]=>(dec rowP a).bind fun la=>(dec rowP b).map fun lb=>(la.length≤100000∧lb.length≤100000,.fr 94 (aF (la++lb)))|_=>none
theorem SL:aO Tryz.prog 131 V9:=by
 intro ys φ r h hφ;unfold V9 at h;split at h
 ·rename_i ra rb;obtain⟨a,ha,h⟩:=Option.bind_eq_some_iff.1 h;obtain⟨b,hb,h⟩:=Option.map_eq_some_iff.1 h;cases h;cases aG ha;cases aG hb;obtain⟨hla,hlb⟩:=hφ;have h3a:=dH a;have h3b:=dH b;have w1:IntKind.i64.wrap 1=1:=wrap_i64 (by omega);have w2:IntKind.i64.wrap 2=2:=wrap_i64 (by omega);have wa:IntKind.i64.wrap (a.length:Int)=a.length:=wrap_i64 (by omega);have wab:IntKind.i64.wrap ((a.length:Int)+(b.length:Int))=(a.length:Int)+(b.length:Int):=wrap_i64 (by omega);have r0:rowAt [[PV.ro (aF a)],[PV.ro (aF b)]] 0=[.ro (aF a)]:=rfl;have r1:rowAt [[PV.ro (aF a)],[PV.ro (aF b)]] 1=[.ro (aF b)]:=rfl;have ga:¬((a.length:Int)<0):=by omega
  have gab:¬((a.length:Int)+(b.length:Int)<0):=by omega
  have gc:(a.length:Int)+(b.length:Int)≤1000000:=by omega
  have gd:(0:Int)≤(a.length:Int)+(b.length:Int):=by omega
  refine aw (il (p:=0) (k:=997) MZ (by kernel_rfl) ah) (by kernel_rfl) (by conv=>lhs;reduce) (by simp) ?_;simp(config := { maxSteps := 3000000 });refine aq (fun i:Nat=>i=0∨i=1∨i=2) (fun i=>⟨[(0,.pv (.ro [[.ro (aF a)],[.ro (aF b)]])),(2,.own 2),(3,.pv (.int .i64 (if i=0 then 0 else if i=1 then(a.length:Int) else(a.length:Int)+(b.length:Int)))),(9,.pv (.ro [[.ro (aF a)],[.ro (aF b)]])),(10,.pv (.int .i64 2)),(11,.pv (.int .i64 i))],[(2,.arr 94 [])]⟩) (fun i=>2-i) [] 0 (by simp) ?_ ?_;·simp
  ·rintro i (rfl|rfl|rfl);·simp(config := { maxSteps := 3000000 }) [r0,wa,ga,w1]
   ·simp(config := { maxSteps := 3000000 }) [r1,wab,gab,w2]
   ·simp(config := { maxSteps := 3000000 }) [gc,gd];refine aq (fun i:Nat=>i=0∨i=1∨i=2) (fun i=>⟨[(0,.pv (.ro [[.ro (aF a)],[.ro (aF b)]])),(2,.own 2),(6,.own 24),(25,.pv (.ro [[.ro (aF a)],[.ro (aF b)]])),(26,.pv (.int .i64 2)),(27,.pv (.int .i64 i))],[(2,.arr 94 []),(24,.arr 94 (if i=0 then[] else if i=1 then aF a else aF (a++b)))]⟩) (fun i=>2-i) [] 0 (by simp) ?_ ?_;·simp
    ·rintro i (rfl|rfl|rfl);·simp(config := { maxSteps := 3000000 }) [r0,w1,aB];exact⟨by omega,by omega,h3a⟩
     ·simp(config := { maxSteps := 3000000 }) [r1,w2,aB];exact⟨⟨by omega,by omega,h3b⟩,(cK a b).symm⟩
     ·simp(config := { maxSteps := 3000000 })
 ·cases h
@[simp] noncomputable def JU:List AV→Option (Prop×AV)|[.agg [.pv (.ro a)],.pv (.int .u64 n)]=>(dec rowP a).map fun l=>(l.length≤100000,.aQ [.agg [.fr 94 (aF (mO l n).1)],.pv (.int .i64 (mO l n).2)])|_=>none
theorem mA (l:List Pn) (i j:Int):cut (aF l) i j=aF ((l.take j.toNat).drop i.toNat):=by unfold cut aF;rw[List.map_drop,List.map_take]
theorem Of:aO Tryz.prog 118 JU:=by
 intro ys φ r h hφ;unfold JU at h;split at h
 ·rename_i ra n;obtain⟨a,ha,h⟩:=Option.map_eq_some_iff.1 h;cases h;cases aG ha;have hl9:a.length≤1000000000:=by omega
  have hinf:(Tryz.prog.info? 94).isSome=true:=by kernel_rfl
  have h3:=dH a;have his:QZ 130 n=fun e=>decide (e.i=n):=by rfl
  refine aw (ag c_Ix (ag SL ah)) (by kernel_rfl) (by conv=>lhs;reduce) (by simp) ?_;unfold mO;by_cases hh:ia a n=true
  ·obtain⟨k,hk,hkl,hke⟩:=Ag n a hh;have hn0:¬((k:Int)<0):=by omega
   have w1:IntKind.i64.wrap ((k:Int)+1)=(k:Int)+1:=wrap_i64 (by omega);have c1:cut (aF a) 0 (k:Int)=aF (a.take k):=by rw[mA];simp
   have c2:cut (aF a) ((k:Int)+1) (a.length:Int)=aF (a.drop (k+1)):=by rw[mA,show((k:Int)+1).toNat=k+1 from by omega];simp
   have hl1:(a.take k).length≤100000:=by rw[List.length_take];omega
   have hl2:(a.drop (k+1)).length≤100000:=by rw[List.length_drop];omega
   have hf:∀l,bE (aF l):=aA;simp(config := { maxSteps := 3000000 }) [hh,hl9,his,hk,hn0,w1,c1,c2,hl1,hl2,hke,hf,hinf];exact⟨⟨by omega,h3⟩,⟨by omega,by omega,h3⟩,by omega,by omega⟩
  ·have hh':ia a n=false:=by simpa using hh
   have hk:nz (fun e=>decide (e.i=n)) a=-1:=by apply jJ;intro e he;unfold ia at hh';rw[List.any_eq_false]at hh';simpa using hh' e he
   simp(config := { maxSteps := 3000000 }) [hh,hl9,his,hk,hinf]
 ·cases h
@[simp] noncomputable def KB:List AV→Option (Prop×AV)|[.pv (.ro a),.pv (.int .u64 n)]=>(dec rowP a).map fun l=>(l.length≤100000,.aQ [.fr 123 (aF (mO l n).1),.pv (.int .i64 (mO l n).2)])|_=>none
theorem Oc:aO Tryz.prog 74 KB:=by
 intro ys φ r h hφ;unfold KB at h;split at h
 ·rename_i ra n;obtain⟨a,ha,h⟩:=Option.map_eq_some_iff.1 h;cases h;cases aG ha;refine aw ah (by kernel_rfl) (by conv=>lhs;reduce) (by simp) ?_;simp(config := { maxSteps := 3000000 });refine aq (fun i:Nat=>i≤a.length) (fun i=>⟨[(0,.pv (.ro (aF a))),(1,.pv (.int .u64 n)),(4,.own 4),(6,.own 6),(7,.pv (.bool (ia (a.take i) n))),(8,.pv (.int .i64 i))],[(4,.arr 123 []),(6,.arr 123 (aF (iE n (a.take i))))]⟩) (fun i=>a.length-i) [] 0 (by simp) ?_ ?_;·simp[iE,ia]
  ·intro i hi;have w2:IntKind.i64.wrap ((i:Int)+1)=(i:Int)+1:=wrap_i64 (by omega);by_cases hlt:i<a.length
   ·have r1:=cr hlt;have hs:=vL n a[i] (a.take i);have ht:=Ep (a.take i) a[i] n;rw[←List.take_succ_eq_append_getElem hlt]at hs ht;have hll:=tl n (a.take i);rw[List.length_take]at hll;have hap:∀m:List Pn,aF m++[[PV.int .u64 a[i].i,.int .u64 a[i].v,.int .u64 a[i].u]]=aF (m++[a[i]]):=fun m=>by rw[cK];rfl
    cases hg:ia (a.take i) n with|true=>
     rw[hg]at hs ht;rw[if_pos rfl]at hs;by_cases he:a[i].i=n;·simp(config := { maxSteps := 3000000 }) [w2,hlt,r1,he,aB];exact⟨⟨by omega,by omega⟩,i+1,by omega,⟨⟨by simp[ht],by omega⟩,by rw[hs,cK];simp[aF,rowP,he]⟩,by omega⟩
     ·simp(config := { maxSteps := 3000000 }) [w2,hlt,r1,he,aB];exact⟨⟨by omega,by omega⟩,i+1,by omega,⟨⟨by simp[ht],by omega⟩,by rw[hs,cK];rfl⟩,by omega⟩|false=>
     rw[hg]at hs ht;rw[if_neg (by simp)]at hs;have hrn:=vc hg;by_cases he:a[i].i=n;·rw[if_pos he]at hs;simp(config := { maxSteps := 3000000 }) [w2,hlt,r1,he];exact⟨i+1,by omega,⟨⟨by simp[ht,he],by omega⟩,by rw[hs,hrn]⟩,by omega⟩
     ·rw[if_neg he]at hs;simp(config := { maxSteps := 3000000 }) [w2,hlt,r1,he,aB];exact⟨⟨by omega,by omega⟩,i+1,by omega,⟨⟨by simp[ht,he],by omega⟩,by rw[hs,hrn,List.take_succ_eq_append_getElem hlt,cK];rfl⟩,by omega⟩
   ·have hia:i=a.length:=by omega
    subst hia;have hinf:(Tryz.prog.info? 123).isSome=true:=by kernel_rfl
    unfold mO;by_cases hh:ia a n=true;·simp(config := { maxSteps := 3000000 }) [hh]
    ·have hh':ia a n=false:=by simpa using hh
     simp(config := { maxSteps := 3000000 }) [hh',hinf]
 ·cases h
def FV (l:List Pn) (n:Int):Bool:=l.any fun e=>decide (e.v=n)
@[simp] noncomputable def GpOf:List AV→Option (Prop×AV)|[.agg [.pv (.ro a)],.pv (.int .u64 n)]=>(dec rowP a).map fun l=>(l.length≤1000000000,.pv (.bool (FV l n)))|_=>none
@[simp] noncomputable def U0:List AV→Option (Prop×AV)|[.pv (.ro a),.pv (.int .u64 n)]=>(dec rowP a).map fun l=>(l.length≤1000000000,.pv (.bool (FV l n)))|_=>none
theorem UO:aO Tryz.prog 111 U0:=by
 intro ys φ r h hφ;unfold U0 at h;split at h
 ·rename_i ra n;obtain⟨a,ha,h⟩:=Option.map_eq_some_iff.1 h;cases h;cases aG ha;refine aw ah (by kernel_rfl) (by conv=>lhs;reduce) (by simp) ?_;simp(config := { maxSteps := 3000000 });refine aq (fun i:Nat=>i≤a.length∧FV (a.take i) n=false) (fun i=>⟨[(0,.pv (.ro (aF a))),(1,.pv (.int .u64 n)),(4,.pv (.bool false)),(5,.pv (.int .i64 i))],[]⟩) (fun i=>a.length-i) [] 0 (by simp[FV]) ?_ ?_;·simp
  ·rintro i ⟨hi,ht⟩;have w2:IntKind.i64.wrap ((i:Int)+1)=(i:Int)+1:=wrap_i64 (by omega);by_cases hlt:i<a.length
   ·have r1:=cr hlt;by_cases he:a[i].v=n
    ·have hv:FV a n=true:=by unfold FV;rw[List.any_eq_true];exact⟨a[i],List.getElem_mem hlt,by simpa using he⟩
     simp(config := { maxSteps := 3000000 }) [w2,hlt,r1,he,hv]
    ·simp(config := { maxSteps := 3000000 }) [w2,hlt,r1,he];refine⟨i+1,⟨by omega,?_⟩,by omega,by omega⟩;rw[List.take_succ_eq_append_getElem hlt];unfold FV at ht ⊢;rw[List.any_append,ht];simp[he]
   ·rw[List.take_of_length_le (by omega)]at ht;simp(config := { maxSteps := 3000000 }) [hlt,ht]
 ·cases h
end Go.Proofs.YtlmkcmfmfahcfaaGreat.Ab
namespace Go.Proofs.YtlmkcmfmfahcfaaGreat.Ab
open Go Go.RowKit
section
variable{P:Program}{Γ:bW}
theorem az {α:Type}{o:Option α}{K K':α→Prop} (h:∀x,K x→K' x) (hs:aj o K):aj o K':=by cases o with|none=>exact hs|some x=>exact h x hs
theorem ow {d:Option Nat}{f:FuncId}{xs:List AV}{aa:Nat→Option AO}{C C':bI→Prop} (h:∀e,C e→C' e) (hs:cD P Γ d f xs aa C):cD P Γ d f xs aa C':=by unfold cD at hs ⊢;refine az (fun d hs=>⟨hs.1,az (fun ys hs=>az (fun x hs=>?_) hs) hs.2⟩) hs;exact⟨hs.1,hs.2.1,hs.2.2.1,hs.2.2.2.1,h _ hs.2.2.2.2⟩
theorem mb {i:AI}{K K':St→Prop} (h:∀st,K st→K' st) {st:St} (hs:cT P Γ i K st):cT P Γ i K' st:=by obtain⟨e,he,hk⟩:=cy.1 hs;exact cy.2 ⟨e,he,h _ hk⟩
theorem rP {i:AI}{f:FuncId}{K K':St→Prop} (h:∀st,K st→K' st) {st:St} (hs:lF P Γ i f K st):lF P Γ i f K' st:=by
 unfold lF at hs ⊢;refine az (fun ys hs=>az (fun x hs=>?_) hs) hs;split at hs;·rename_i hc;rw[if_pos hc];exact ow (fun e he=>h _ he) hs
 ·rename_i hc;rw[if_neg hc];exact mb h hs
theorem nv {b f:Bool}{A B A' B':Prop} (hA:A→A') (hB:B→B') (h:gS b f A B):gS b f A' B':=by cases b with|false=>exact hA h|true=>cases f with|false=>exact hA h|true=>exact hB h
theorem tY {i:AI}{K K':St→Prop} (h:∀st,K st→K' st) {st:St} (hs:ck P Γ i K st):ck P Γ i K' st:=by
 unfold ck at hs ⊢;split at hs;·exact mb h hs
 ·exact nv (mb h) (h _) hs
theorem qI {i:AI}{K K':St→Prop} (h:∀st,K st→K' st) {st:St} (hs:jB P Γ i K st):jB P Γ i K' st:=by
 have hE:∀{st:St}{d:Option Nat}{x:XK}{xs:List AV},aW d x xs K st→aW d x xs K' st:=by
  intro st d x xs hs;unfold aW at hs ⊢;split at hs;·exact az (fun d hs=>⟨hs.1,h _ hs.2⟩) hs
  ·exact⟨hs.1,az (fun es hs=>⟨hs.1,hs.2.1,hs.2.2.1,h _ hs.2.2.2⟩) hs.2⟩
  ·exact⟨hs.1,az (fun es hs=>⟨hs.1,hs.2.1,h _ hs.2.2⟩) hs.2⟩
  ·unfold qK at hs ⊢;split at hs;·exact⟨hs.1,hs.2.1,h _ hs.2.2⟩
   ·exact hs
  ·exact⟨hs.1,az (fun rows hs b hb=>h _ (hs b hb)) hs.2⟩
  ·exact⟨hs.1,h _ hs.2⟩
  ·unfold lV at hs ⊢;split at hs;·exact az (fun d hs=>⟨hs.1,hs.2.1,hs.2.2.1,h _ hs.2.2.2⟩) hs
   ·exact hs
  ·exact az (fun d hs=>⟨hs.1,hs.2.1,hs.2.2.1,h _ hs.2.2.2⟩) hs
  ·unfold Az at hs ⊢;split at hs;·exact az (fun d hs=>⟨hs.1,hs.2.1,hs.2.2.1,h _ hs.2.2.2⟩) hs
   ·exact hs
  ·exact⟨hs.1,hs.2.1,hs.2.2.1,hs.2.2.2.1,h _ hs.2.2.2.2⟩
  ·exact⟨hs.1,az (fun r hs=>⟨hs.1,h _ hs.2⟩) hs.2⟩
  ·unfold sU at hs ⊢;split at hs
   ·unfold vF at hs ⊢;split at hs;·exact⟨hs.1,az (fun r hs=>⟨hs.1,hs.2.1,h _ hs.2.2⟩) hs.2⟩
    ·exact hs
   ·unfold sN at hs ⊢;split at hs;·exact⟨hs.1,az (fun r hs=>az (fun j hs=>az (fun s hs=>az (fun ps hs=>h _ hs) hs) hs) hs) hs.2⟩
    ·exact hs
   ·exact az (fun d hs=>⟨hs.1,h _ hs.2⟩) hs
   ·unfold qy at hs ⊢;split at hs;·exact⟨hs.1,az (fun r hs=>⟨hs.1,hs.2.1,h _ hs.2.2⟩) hs.2⟩
    ·exact hs
   ·unfold vT at hs ⊢;split at hs;·exact⟨hs.1,az (fun r hs=>⟨hs.1,hs.2.1,hs.2.2.1,h _ hs.2.2.2⟩) hs.2⟩
    ·exact hs
   ·unfold vr at hs ⊢;split at hs;·exact⟨hs.1,az (fun r hs=>⟨hs.1,hs.2.1,h _ hs.2.2⟩) hs.2⟩
    ·exact hs
   ·exact⟨hs.1,az (fun r hs=>h _ hs) hs.2⟩
   ·unfold wC at hs ⊢;split at hs;·exact az (fun d hs=>⟨hs.1,hs.2.1,h _ hs.2.2⟩) hs
    ·exact hs
   ·unfold vf at hs ⊢;split at hs;·exact⟨hs.1,az (fun r hs=>⟨fun e=>h _ (hs.1 e),fun e l m q=>h _ (hs.2 e l m q)⟩) hs.2⟩
    ·exact hs
   ·unfold wx at hs ⊢;split at hs;·exact⟨hs.1,az (fun r hs=>az (fun e hs=>h _ hs) hs) hs.2⟩
    ·exact hs
   ·unfold pA at hs ⊢;exact az (fun d hs=>⟨hs.1,az (fun r hs=>⟨hs.1,hs.2.1,h _ hs.2.2⟩) hs.2⟩) hs
   ·exact hs
 unfold jB at hs ⊢;split at hs;·exact hE hs
 ·unfold AP at hs ⊢;refine az (fun c hs=>?_) hs;split at hs;·rename_i h1;rw[if_pos h1];exact hE hs
  ·rename_i h1;rw[if_neg h1];exact h _ hs
 ·exact tY h hs
 ·rename_i e sz zs e1 e2;unfold nU at hs ⊢;exact⟨hs.1,az (fun X hs=>az (fun r hs=>h _ hs) hs) hs.2⟩
 ·unfold Cu lO at hs ⊢;split at hs
  ·split at hs
   ·rename_i h0;rw[if_pos h0];refine az (fun c hs=>?_) hs;split at hs;·rename_i h2;rw[if_pos h2];exact fT h hs
    ·rename_i h2;rw[if_neg h2];exact h _ hs
   ·exact hs.elim
  refine nv (fun hs=>?_) (h _) hs;refine az (fun c hs=>az (fun ys hs=>az (fun x hs=>?_) hs) hs) hs;split at hs
  ·rename_i h1;rw[if_pos h1];split at hs;·rename_i h2;rw[if_pos h2];exact rP h hs
   ·rename_i h2;rw[if_neg h2];exact h _ hs
  ·rename_i h1;rw[if_neg h1];exact mb h hs
 ·unfold fJ at hs ⊢;split at hs
  ·refine⟨hs.1,az (fun x hs=>⟨hs.1,?_⟩) hs.2⟩;have hs:=hs.2;unfold eK at hs ⊢;split at hs
   ·split at hs;·rename_i h1;rw[if_pos h1];exact fT h hs
    ·exact hs.elim
   ·exact ow (fun e he=>h _ he) hs
  ·refine nv (fun hs=>?_) (h _) hs;unfold pL at hs ⊢;refine az (fun c hs=>az (fun x hs=>⟨hs.1,?_⟩) hs) hs;have hs:=hs.2;unfold gW at hs ⊢;split at hs
   ·split at hs
    ·rename_i h1;rw[if_pos h1];split at hs;·rename_i h2;rw[if_pos h2];exact⟨hs.1,fT h hs.2⟩
     ·rename_i h2;rw[if_neg h2];exact h _ hs
    ·exact hs.elim
   unfold zJ at hs ⊢;exact az (fun ys hs=>az (fun x hs=>⟨hs.1,hs.2.1,hs.2.2.1,hs.2.2.2.1,hs.2.2.2.2.1,h _ hs.2.2.2.2.2⟩) hs) hs
 ·unfold gO at hs ⊢;split at hs
  ·split at hs;·rename_i h1;rw[if_pos h1];unfold zZ at hs ⊢;exact az (fun d hs=>⟨hs.1,az (fun ys hs=>az (fun x hs=>⟨hs.1,hs.2.1,hs.2.2.1,hs.2.2.2.1,h _ hs.2.2.2.2⟩) hs) hs.2⟩) hs
   ·rename_i h1;rw[if_neg h1];split at hs;·rename_i h2;rw[if_pos h2];exact fT h hs
    rename_i h2;rw[if_neg h2];unfold kL at hs ⊢;refine az (fun d hs=>⟨hs.1,az (fun X hs=>az (fun T hs=>⟨hs.1,az (fun ys hs=>az (fun x hs=>?_) hs) hs.2⟩) hs) hs.2⟩) hs;exact⟨hs.1,hs.2.1,hs.2.2.1,hs.2.2.2.1,h _ hs.2.2.2.2⟩
  ·exact rP h hs
 ·exact mb h hs
 ·exact tY h hs
theorem tL {i:AI}{K K':St→Prop} (h:∀st,K st→K' st) {st:St} (hs:b7 P Γ i K st):b7 P Γ i K' st:=by
 unfold b7 at hs ⊢;split at hs
 ·split at hs;·rename_i h1;rw[if_pos h1];exact⟨hs.1,az (fun r hs=>⟨hs.1,hs.2.1,h _ hs.2.2⟩) hs.2⟩
  ·rename_i h1;rw[if_neg h1];exact qI h hs
 ·exact qI h hs
theorem mc {K K':St→Prop} (h:∀st,K st→K' st):∀{is:List AI}{st:St},cR P Γ is K st→cR P Γ is K' st|[],st,hs=>h st hs|i::is,st,hs=>tL (fun st hs=>mc h hs) hs
theorem zu {K K':St→Prop} (h:∀st,K st→K' st):∀{is:List AI}{st:St},steps P Γ is K st→steps P Γ is K' st|[],st,hs=>h st hs|i::is,st,hs=>iS (fun st hs=>zu h hs) hs
theorem eW:∀{a:AC}{K K':St→Prop}{J J':Exit→St→Prop}{st:St},(∀st,K st→K' st)→(∀e st,J e st→J' e st)→hZ P Γ a K J st→hZ P Γ a K' J' st
 |.skip,_,_,_,_,st,h,_,hs=>h st hs|.G6 is d bB,_,_,_,_,st,h,_,hs=>by
  unfold hZ at hs ⊢;split at hs;·rename_i hd;rw[if_pos hd];exact zu (fun st hs=>h _ hs) hs
  ·rename_i hd;rw[if_neg hd];exact mc (fun st hs=>h _ hs) hs|.seq a b,_,_,_,_,st,h,hj,hs=>eW (a:=a) (fun st hs=>eW (a:=b) h hj hs) hj hs|.cond x a b,_,_,_,_,st,h,hj,hs=>az (fun c hs=>⟨fun e=>eW (a:=a) h hj (hs.1 e),fun e=>eW (a:=b) h hj (hs.2 e)⟩) (show aj _ _ from hs)|.block id a,K,K',J,J',st,h,hj,hs=>eW (a:=a) h (fun e st hs=>by cases e with
   |exit id'=>
    simp only[oq]at hs ⊢;split at hs;·rename_i h1;rw[if_pos h1];exact h _ hs
    ·rename_i h1;rw[if_neg h1];exact hj _ _ hs|_=>exact hj _ _ hs) (show hZ P Γ a K (oq id K J) st from hs)|.loop a,_,_,_,_,st,h,hj,hs=>by obtain⟨ι,F,μ,ad,shs,i0,hw,hr⟩:=hs;exact⟨ι,F,μ,ad,shs,i0,hw,fun i=>eW (a:=a) (fun st hs=>hs) hj (hr i)⟩|.exit id,_,_,_,_,st,_,hj,hs=>hj _ _ hs|.ret,_,_,_,_,st,_,hj,hs=>hj _ _ hs
theorem af {a b:AC}{K:St→Prop}{J:Exit→St→Prop}{st:St} (vs:List (Nat×AV)) (os:List (Nat×AO)) (h1:hZ P Γ a (fun st'=>st'=⟨look vs,ab os⟩) J st) (h2:hZ P Γ b K J ⟨look vs,ab os⟩):hZ P Γ (.seq a b) K J st:=eW (a:=a) (fun st' (hs:st'=_)=>by rw[hs];exact h2) (fun _ _ h=>h) h1
theorem gN {x:Operand}{a b:AC}{K:St→Prop}{J:Exit→St→Prop}{vs:List (Nat×AV)}{os:List (Nat×AO)} (h:jd (ev (look vs) x)=some true) (h1:hZ P Γ a K J ⟨look vs,ab os⟩):hZ P Γ (.cond x a b) K J ⟨look vs,ab os⟩:=by rw[R.yu,h];exact⟨fun _=>h1,fun e=>Bool.noConfusion e⟩
theorem jv {x:Operand}{a b:AC}{K:St→Prop}{J:Exit→St→Prop}{vs:List (Nat×AV)}{os:List (Nat×AO)} (h:jd (ev (look vs) x)=some false) (h1:hZ P Γ b K J ⟨look vs,ab os⟩):hZ P Γ (.cond x a b) K J ⟨look vs,ab os⟩:=by rw[R.yu,h];exact⟨fun e=>Bool.noConfusion e,fun _=>h1⟩
theorem ue {a:AC}{K:St→Prop}{J:Exit→St→Prop}{st:St} (vs:List (Nat×AV)) (os:List (Nat×AO)) (h1:hZ P Γ a (fun st'=>st'=⟨look vs,ab os⟩) J st) (h2:K ⟨look vs,ab os⟩):hZ P Γ a K J st:=eW (a:=a) (fun st' (hs:st'=_)=>by rw[hs];exact h2) (fun _ _ h=>h) h1
theorem gD {a b:AC}{K:St→Prop}{J:Exit→St→Prop}{st:St} (Q:St→Prop) (h1:hZ P Γ a Q J st) (h2:∀st',Q st'→hZ P Γ b K J st'):hZ P Γ (.seq a b) K J st:=eW (a:=a) (fun st' hs=>h2 st' hs) (fun _ _ h=>h) h1
theorem Bt {is js:List AI}{K:St→Prop}{st:St} (vs:List (Nat×AV)) (os:List (Nat×AO)) (h1:cR P Γ is (fun st'=>st'=⟨look vs,ab os⟩) st) (h2:cR P Γ js K ⟨look vs,ab os⟩):cR P Γ (is++js) K st:=by
 have key:∀(is:List AI) (st:St),cR P Γ is (fun st'=>cR P Γ js K st') st→cR P Γ (is++js) K st:=by intro is;induction is with|nil=>exact fun st h=>h|cons i is ih=>exact fun st h=>tL (fun st hs=>ih st hs) h
 exact key is st (mc (fun st' (hs:st'=_)=>by rw[hs];exact h2) h1)
theorem Ef (k:Nat) {is:List AI}{K:St→Prop}{st:St} (vs:List (Nat×AV)) (os:List (Nat×AO)) (h1:cR P Γ (is.take k) (fun st'=>st'=⟨look vs,ab os⟩) st) (h2:cR P Γ (is.drop k) K ⟨look vs,ab os⟩):cR P Γ is K st:=by have:=Bt vs os h1 h2;rwa[List.take_append_drop]at this
theorem fP (k:Nat) {is l1 l2:List AI}{K:St→Prop}{st:St}{vs:List (Nat×AV)}{os:List (Nat×AO)} (e1:is.take k=l1) (e2:is.drop k=l2) (h1:cR P Γ l1 (fun st'=>st'=⟨look vs,ab os⟩) st) (h2:cR P Γ l2 K ⟨look vs,ab os⟩):cR P Γ is K st:=by subst e1 e2;exact Ef k vs os h1 h2
theorem Js {f:FuncId}{args:List AV}{e:TypeId}{rows:List (List PV)} (h:za P f [] args [] (.fr e rows)):za P f [] args [] (.pv (.ro rows)):=by
 intro w S0 β vals h1 h2 h3 h4 h5;have hno:∀t,b8 (ab []) (fun t=>dN (cellAt (.pv (.ro rows)) t)) t=none:=by
  intro t;show dN (cellAt (.pv (.ro rows)) t)=none;simp only[cellAt,b6];split;·split<;>rfl
  ·rfl
 refine(h w S0 β vals h1 h2 h3 h4 h5).mono ?_;rintro ex w' ⟨v,β',rfl,hF,hH,ho,hv⟩;have hob:(b8 (ab []) fun t=>dN (cellAt (.fr e rows) t)) 0=some (.arr e rows):=rfl;have hv0:RV P (aS S0 w.heap.size β' (b8 (ab []) fun t=>dN (cellAt (.fr e rows) t)) w') w' β' (aE (b8 (ab []) fun t=>dN (cellAt (.fr e rows) t))) v (.own 0):=hv;have hve:=hv0.aZ.1;have hh:=hH.holds 0 _ hob;obtain⟨hr,_⟩:=pr (S':=aS S0 w.heap.size β' (b8 (ab []) fun t=>dN (cellAt (.pv (.ro rows)) t)) w') hh (fun b hb=>⟨hb.1,hb.2.1,fun⟨t,o,hto,_⟩=>by rw[hno]at hto;cases hto⟩) (fun b hb=>⟨.inr ((ho 0 b ⟨_,hob⟩ hb).resolve_right fun⟨t,o,hto,_⟩=>by cases hto),hh.lt b hb,fun⟨t,o,hto,_⟩=>by rw[hno]at hto;cases hto⟩);exact⟨v,β',rfl,hF,⟨(fun t o hto=>by rw[hno]at hto;cases hto),(fun t t' b ⟨o,hto⟩=>by rw[hno]at hto;cases hto)⟩,(fun t b ⟨o,hto⟩=>by rw[hno]at hto;cases hto),.pv _ _ (hve▸hr)⟩
@[simp] def pubA:AV→AV|.fr _ rows=>.pv (.ro rows)|v=>v
@[simp] def Yh (G:List AV→Option (Prop×AV)) (ys:List AV):Option (Prop×AV):=(G ys).map fun x=>(x.1,pubA x.2)
theorem sa {f:FuncId}{G:List AV→Option (Prop×AV)} (h:R.aO P f G):R.aO P f (Yh G):=by intro ys φ r hg hφ;unfold Yh at hg;obtain⟨⟨φ',r'⟩,hx,he⟩:=Option.map_eq_some_iff.1 hg;cases he;have:=h ys φ' r' hx hφ;cases r'<;>first|exact Js this|exact this
end
end Go.Proofs.YtlmkcmfmfahcfaaGreat.Ab
namespace Go.Proofs.YtlmkcmfmfahcfaaGreat.Ab
open Go Go.RowKit R
structure Vn where
 n:Int
 b:Int
 p:Int
 i:Int
 s:Int
 z:Int
 m:Int
 t:List UInt8
 inl:Bool
 dm:Bool deriving DecidableEq
def v0:Vn:=⟨0,0,0,0,0,0,0,[],false,false⟩
def cM (v:Vn):List PV:=[.int .u64 v.n,.int .u64 v.b,.int .u64 v.p,.int .u64 v.i,.int .u64 v.s,.int .u64 v.z,.int .u64 v.m,.str v.t,.bool v.inl,.bool v.dm]
def bG (v:Vn):List AV:=[.pv (.int .u64 v.n),.pv (.int .u64 v.b),.pv (.int .u64 v.p),.pv (.int .u64 v.i),.pv (.int .u64 v.s),.pv (.int .u64 v.z),.pv (.int .u64 v.m),.pv (.str v.t),.pv (.bool v.inl),.pv (.bool v.dm)]
theorem si:∀a b,cM a=cM b→a=b:=by intro a b h;cases a;cases b;simpa[cM]using h
def aC (l:List Vn):List (List PV):=l.map cM
@[simp] theorem Rk:aC []=[]:=rfl
@[simp] theorem Jt (l:List Vn):(aC l).length=l.length:=by simp[aC]
theorem bO (l m:List Vn):aC (l++m)=aC l++aC m:=by simp[aC]
theorem fS (l:List Vn):∀r∈aC l,r.length=10:=by intro r hr;simp only[aC,List.mem_map]at hr;obtain⟨c,_,rfl⟩:=hr;rfl
theorem aV {l:List Vn}{i:Nat} (h:i<l.length):rowAt (aC l) (i:Int)=[.int .u64 l[i].n,.int .u64 l[i].b,.int .u64 l[i].p,.int .u64 l[i].i,.int .u64 l[i].s,.int .u64 l[i].z,.int .u64 l[i].m,.str l[i].t,.bool l[i].inl,.bool l[i].dm]:=by simp[rowAt,aC,h,cM]
theorem Es (l:List Vn) (i:Nat):cut (aC l) 0 (i:Int)=aC (l.take i):=by simp[cut,aC]
@[simp] theorem pg (l:List Vn):dec cM (aC l)=some l:=kg si l
theorem aD {rows:List (List PV)}{l:List Vn} (h:dec cM rows=some l):rows=aC l:=ke h
theorem ax (l:List Vn):bE (aC l):=by intro r hr p hp;simp only[aC,List.mem_map]at hr;obtain⟨c,_,rfl⟩:=hr;simp only[cM,List.mem_cons,List.not_mem_nil,or_false]at hp;rcases hp with rfl|rfl|rfl|rfl|rfl|rfl|rfl|rfl|rfl|rfl<;>rfl
def bh (v:Vn):Int:=if v.inl=true then 0 else v.b
@[simp] def Dd:List AV→Option (Prop×AV)|[.agg [.pv (.int .u64 _),.pv (.int .u64 b),.pv (.int .u64 _),.pv (.int .u64 _),.pv (.int .u64 _),.pv (.int .u64 _),.pv (.int .u64 _),.pv (.str _),.pv (.bool inl),.pv (.bool _)]]=>some (True,.pv (.int .u64 (if inl=true then 0 else b)))|_=>none
theorem BL:aO Tryz.prog 122 Dd:=by
 intro ys φ r h hφ;unfold Dd at h;split at h;·rename_i n b p i s z m t inl dm;cases h;refine aw ah (by kernel_rfl) (by conv=>lhs;reduce) (by simp) ?_;cases inl<;>simp(config := { maxSteps := 3000000 })
 ·cases h
def oR (l:List Vn) (n:Int):Int:=if l.findIdx (fun v=>decide (v.n=n))<l.length then(l.findIdx (fun v=>decide (v.n=n)):Int) else-1
theorem xo {l:List Vn}{n:Int}{i:Nat} (h:i<l.length) (hq:l[i].n=n) (ht:∀v∈l.take i,¬v.n=n):oR l n=i:=by
 have hf:l.findIdx (fun v=>decide (v.n=n))=i:=by
  rw[List.findIdx_eq h];refine⟨by simpa using hq,fun j hj=>?_⟩;have:l[j]∈l.take i:=by rw[List.mem_take_iff_getElem];exact⟨j,by omega,rfl⟩
  simpa using ht _ this
 unfold oR;rw[hf,if_pos h]
theorem sR {l:List Vn}{n:Int} (ht:∀v∈l,¬v.n=n):oR l n=-1:=by
 have hf:l.findIdx (fun v=>decide (v.n=n))=l.length:=by rw[List.findIdx_eq_length];intro v hv;simpa using ht v hv
 unfold oR;rw[hf,if_neg (by omega)]
theorem jV (l:List Vn) (n:Int):(∃i,∃h:i<l.length,oR l n=i∧l[i].n=n∧∀v∈l.take i,¬v.n=n)∨(oR l n=-1∧∀v∈l,¬v.n=n):=by
 by_cases h:∃v∈l,v.n=n
 ·left;have hlt:l.findIdx (fun v=>decide (v.n=n))<l.length:=by rw[List.findIdx_lt_length];obtain⟨v,hv,hn⟩:=h;exact⟨v,hv,by simpa using hn⟩
  have h1:l[l.findIdx (fun v=>decide (v.n=n))].n=n:=by have:=List.findIdx_getElem (w:=hlt);simpa using this
  have h2:∀v∈l.take (l.findIdx (fun v=>decide (v.n=n))),¬v.n=n:=by intro v hv;rw[List.mem_take_iff_getElem]at hv;obtain⟨j,hj,rfl⟩:=hv;have:=List.not_of_lt_findIdx (show j<l.findIdx (fun v=>decide (v.n=n)) by omega);simpa using this
  exact⟨_,hlt,xo hlt h1 h2,h1,h2⟩
 ·right;have h':∀v∈l,¬v.n=n:=fun v hv hn=>h ⟨v,hv,hn⟩;exact⟨sR h',h'⟩
@[simp] def W6:List AV→Option (Prop×AV)|[.agg [.pv (.int .u64 a),.pv (.int .u64 _),.pv (.int .u64 _),.pv (.int .u64 _),.pv (.int .u64 _),.pv (.int .u64 _),.pv (.int .u64 _),.pv (.str _),.pv (.bool _),.pv (.bool _)],.rp [.int .u64 n]]=>some (True,.pv (.bool (decide (a=n))))|_=>none
theorem UQ:aO Tryz.prog 142 W6:=by
 intro ys φ r h hφ;unfold W6 at h;split at h;·cases h;refine aw ah (by kernel_rfl) (by conv=>lhs;reduce) (by simp) ?_;simp(config := { maxSteps := 3000000 })
 ·cases h
theorem HK:gM Tryz.prog 142=true:=by kernel_rfl
@[simp] noncomputable def T2:List AV→Option (Prop×AV)|[.pv (.ro a),.bJ f [.rp [.int .u64 n]]]=>if f=142 then(dec cM a).map fun l=>(l.length≤1000000000,.pv (.int .i64 (oR l n))) else none|_=>none
theorem Vd:aO Tryz.prog 124 T2:=by
 intro ys φ r h hφ;unfold T2 at h;split at h
 ·rename_i ra f n;split at h
  ·rename_i hf;subst hf;obtain⟨a,ha,h⟩:=Option.map_eq_some_iff.1 h;cases h;cases aD ha;refine aw (ag UQ ah) (by kernel_rfl) (by conv=>lhs;reduce) (by simp) ?_;simp(config := { maxSteps := 3000000 });refine aq (fun i:Nat=>i≤a.length∧∀v∈a.take i,¬v.n=n) (fun i=>⟨[(0,.pv (.ro (aC a))),(1,.bJ 142 [.rp [.int .u64 n]]),(7,.pv (.int .i64 a.length)),(8,.pv (.int .i64 i))],[]⟩) (fun i=>a.length-i) [] 0 (by simp) ?_ ?_;·simp
   ·rintro i ⟨hi,ht⟩;have w2:IntKind.i64.wrap ((i:Int)+1)=(i:Int)+1:=wrap_i64 (by omega);by_cases hlt:i<a.length
    ·have r1:=aV hlt;have hr:¬a[i].n=n→∀v∈a.take (i+1),¬v.n=n:=by
      intro h0 e he;rw[List.take_succ_eq_append_getElem hlt,List.mem_append]at he;rcases he with he|he;·exact ht e he
      ·rw[List.mem_singleton]at he;rw[he];exact h0
     simp(config := { maxSteps := 3000000 }) [w2,hlt,r1,HK];refine⟨fun h=>(xo hlt h ht).symm,fun h=>⟨i+1,⟨by omega,hr h⟩,by omega,by omega⟩⟩
    ·simp(config := { maxSteps := 3000000 }) [hlt];rw[List.take_of_length_le (by omega)]at ht;exact(sR ht).symm
  ·cases h
 ·cases h
@[simp] noncomputable def Gof:List AV→Option (Prop×AV)|[.pv (.ro a),.pv (.int .u64 n)]=>(dec cM a).map fun l=>(l.length≤1000000000,.pv (.int .i64 (oR l n)))|_=>none
theorem Nn:aO Tryz.prog 123 Gof:=by
 intro ys φ r h hφ;unfold Gof at h;split at h;·rename_i ra n;obtain⟨a,ha,h⟩:=Option.map_eq_some_iff.1 h;cases h;cases aD ha;refine aw (ag Vd ah) (by kernel_rfl) (by conv=>lhs;reduce) (by simp) ?_;simp(config := { maxSteps := 3000000 }) [hφ]
 ·cases h
def eS (l:List Vn) (i:Nat):Int:=match i with|0=>0|i+1=>((l[i]?).getD v0).n
def gI (l:List Vn) (i:Nat):Bool:=decide (eS l i<((l[i]?).getD v0).n)&&(decide (bh ((l[i]?).getD v0)=0)||decide (0≤oR (l.take i) (bh ((l[i]?).getD v0))))
def aK (l:List Vn):Bool:=(List.range l.length).all (gI l)
theorem ez (l:List Vn):aK l=true↔∀i,i<l.length→gI l i=true:=by unfold aK;rw[List.all_eq_true];exact⟨fun h i hi=>h i (List.mem_range.2 hi),fun h i hi=>h i (List.mem_range.1 hi)⟩
theorem rV {l:List Vn}{i:Nat} (hi:i<l.length) (h:gI l i=false):aK l=false:=by cases hr:aK l with|false=>rfl|true=>rw[(ez l).1 hr i hi]at h;cases h
@[simp] noncomputable def GRv:List AV→Option (Prop×AV)|[.pv (.ro a)]=>(dec cM a).map fun l=>(l.length≤1000000000,.pv (.bool (aK l)))|_=>none
theorem Dq:aO Tryz.prog 92 GRv:=by
 intro ys φ r h hφ;unfold GRv at h;split at h
 ·rename_i ra;obtain⟨a,ha,h⟩:=Option.map_eq_some_iff.1 h;cases h;cases aD ha;refine aw (ag BL (ag Nn ah)) (by kernel_rfl) (by conv=>lhs;reduce) (by simp) ?_;simp(config := { maxSteps := 3000000 });refine aq (fun i:Nat=>i≤a.length∧∀j,j<i→gI a j=true) (fun i=>⟨[(0,.pv (.ro (aC a))),(2,.pv (.bool false)),(3,.pv (.int .u64 (eS a i))),(6,.pv (.ro (aC a))),(7,.pv (.int .i64 a.length)),(8,.pv (.int .i64 i))],[]⟩) (fun i=>a.length-i) [] 0 (by simp) ?_ ?_;·simp[eS]
  ·rintro i ⟨hi,ht⟩;have w2:IntKind.i64.wrap ((i:Int)+1)=(i:Int)+1:=wrap_i64 (by omega);by_cases hlt:i<a.length
   ·have r1:=aV hlt;have hg:(a[i]?).getD v0=a[i]:=by rw[List.getElem?_eq_getElem hlt];rfl
    have hpn:eS a (i+1)=a[i].n:=by simp only[eS];rw[hg]
    have hok:gI a i=(decide (eS a i<a[i].n)&&(decide (bh a[i]=0)||decide (0≤oR (a.take i) (bh a[i])))):=by unfold gI;rw[hg]
    have hnext:gI a i=true→∀j,j<i+1→gI a j=true:=by
     intro h j hj;by_cases hji:j=i;·rw[hji];exact h
     ·exact ht j (by omega)
    have hbad:gI a i=false→aK a=false:=rV hlt;have hcut:=Es a i;have htl:(a.take i).length≤1000000000:=by rw[List.length_take];omega
    have hbv:(if a[i].inl=true then 0 else a[i].b)=bh a[i]:=rfl;have hmin:min i a.length≤1000000000:=by omega
    by_cases h1:a[i].n≤eS a i;·have hb:=hbad (by rw[hok,Bool.and_eq_false_iff];left;simp;omega);simp(config := { maxSteps := 3000000 }) [w2,hlt,r1,h1,hb,hbv,hcut,hmin]
    ·have h1':eS a i<a[i].n:=by omega
     by_cases h2:bh a[i]=0;·simp(config := { maxSteps := 3000000 }) [w2,hlt,r1,h1,h2,hbv,hcut,hmin];exact⟨i+1,⟨by omega,hnext (by rw[hok];simp[h1',h2])⟩,⟨hpn.symm,by omega⟩,by omega⟩
     ·simp(config := { maxSteps := 3000000 }) [w2,hlt,r1,h1,h2,hbv,hcut,hmin];refine⟨⟨hi,fS a⟩,fun h=>hbad (by rw[hok];simp[h1',h2];omega),fun h=>⟨i+1,⟨by omega,hnext (by rw[hok];simp[h1',h2,h])⟩,⟨hpn.symm,by omega⟩,by omega⟩⟩
   ·have:i=a.length:=by omega
    subst this;have hr:aK a=true:=(ez a).2 ht;simp(config := { maxSteps := 3000000 }) [hr]
 ·cases h
def aN (l:List Vn):List Vn:=l.filter fun v=>!v.dm
theorem dW (l:List Vn):(aN l).length≤l.length:=List.length_filter_le _ _
theorem su {l:List Vn}{i:Nat} (h:i<l.length):aN (l.take (i+1))=if l[i].dm=true then aN (l.take i) else aN (l.take i)++[l[i]]:=by rw[List.take_succ_eq_append_getElem h];unfold aN;rw[List.filter_append];cases hh:l[i].dm<;>simp[hh]
@[simp] noncomputable def Db (e:TypeId):List AV→Option (Prop×AV)|[.pv (.ro a)]=>(dec cM a).map fun l=>(l.length≤1000000,.fr e (aC (aN l)))|_=>none
theorem nj:aO Tryz.prog 23 (Db 73):=by
 intro ys φ r h hφ;unfold Db at h;split at h
 ·rename_i ra;obtain⟨a,ha,h⟩:=Option.map_eq_some_iff.1 h;cases h;cases aD ha;refine aw ah (by kernel_rfl) (by conv=>lhs;reduce) (by simp) ?_;simp(config := { maxSteps := 3000000 });refine aq (fun i:Nat=>i≤a.length) (fun i=>⟨[(0,.pv (.ro (aC a))),(2,.own 2),(5,.pv (.ro (aC a))),(6,.pv (.int .i64 a.length)),(7,.pv (.int .i64 i))],[(2,.arr 73 (aC (aN (a.take i))))]⟩) (fun i=>a.length-i) [] 0 (by simp) ?_ ?_;·simp[aN]
  ·intro i hi;have w2:IntKind.i64.wrap ((i:Int)+1)=(i:Int)+1:=wrap_i64 (by omega);by_cases hlt:i<a.length
   ·have r1:=aV hlt;have hs:=su hlt;have hl:=dW (a.take i);have hl1:(a.take i).length≤1000000:=by rw[List.length_take];omega
    cases hh:a[i].dm with|true=>rw[hh,if_pos rfl]at hs;simp(config := { maxSteps := 3000000 }) [w2,hlt,r1,hh];exact⟨i+1,by omega,⟨by omega,by rw[hs]⟩,by omega⟩|false=>rw[hh,if_neg (by simp)]at hs;simp(config := { maxSteps := 3000000 }) [w2,hlt,r1,hh,aB];refine⟨⟨by omega,by omega⟩,i+1,by omega,⟨by omega,?_⟩,by omega⟩;rw[hs,bO];simp[aC,cM,hh]
   ·simp(config := { maxSteps := 3000000 }) [hlt];rw[List.take_of_length_le (by omega)]
 ·cases h
def dE (l:List Vn) (n:Int):Option Vn:=(aN l).find? fun v=>decide (v.n=n)
theorem IF {l:List Vn}{n:Int}{i:Nat} (h:i<(aN l).length) (hq:(aN l)[i].n=n) (ht:∀v∈(aN l).take i,¬v.n=n):dE l n=some (aN l)[i]:=by
 unfold dE;rw[List.find?_eq_some_iff_getElem];refine⟨by simpa using hq,i,h,rfl,fun j hj=>?_⟩;have:(aN l)[j]∈(aN l).take i:=by rw[List.mem_take_iff_getElem];exact⟨j,by omega,rfl⟩
 simpa using ht _ this
theorem wA {l:List Vn}{n:Int} (ht:∀v∈aN l,¬v.n=n):dE l n=none:=by unfold dE;rw[List.find?_eq_none];intro v hv;simpa using ht v hv
@[simp] noncomputable def Z7:List AV→Option (Prop×AV)|[.pv (.ro a),.pv (.int .u64 n)]=>(dec cM a).map fun l=>(l.length≤1000000,.aQ [.agg (bG ((dE l n).getD v0)),.pv (.bool (dE l n).isSome)])|_=>none
theorem HM:aO Tryz.prog 102 Z7:=by
 intro ys φ r h hφ;unfold Z7 at h;split at h
 ·rename_i ra n;obtain⟨a,ha,h⟩:=Option.map_eq_some_iff.1 h;cases h;cases aD ha;have hs9:(aN a).length≤1000000000:=by have:=dW a;omega
  have fl:∀l,bE (aC l):=ax;refine aw (ag nj (ag Nn ah)) (by kernel_rfl) (by conv=>lhs;reduce) (by simp) ?_;rcases jV (aN a) n with⟨i,hi,h1,h2,h3⟩|⟨h1,h2⟩;·have r1:=aV hi;have hg:=IF hi h2 h3;simp(config := { maxSteps := 3000000 }) [hφ,hs9,fl,h1,r1,hi,hg,bG]
  ·have hg:=wA h2;simp(config := { maxSteps := 3000000 }) [hφ,hs9,fl,h1,hg,bG,v0]
 ·cases h
def nE (l:List Vn):Option Vn:=(aN l).getLast?
@[simp] noncomputable def Zb:List AV→Option (Prop×AV)|[.pv (.ro a)]=>(dec cM a).map fun l=>(l.length≤1000000,.aQ [.agg (bG ((nE l).getD v0)),.pv (.bool (nE l).isSome)])|_=>none
theorem c_Cv:aO Tryz.prog 135 Zb:=by
 intro ys φ r h hφ;unfold Zb at h;split at h
 ·rename_i ra;obtain⟨a,ha,h⟩:=Option.map_eq_some_iff.1 h;cases h;cases aD ha;have hsl:=dW a;have fl:∀l,bE (aC l):=ax;refine aw (ag nj ah) (by kernel_rfl) (by conv=>lhs;reduce) (by simp) ?_;by_cases hn:aN a=[]
  ·have hc:nE a=none:=by unfold nE;rw[hn];rfl
   simp(config := { maxSteps := 3000000 }) [hφ,fl,hn,hc,bG,v0]
  ·have hl:0<(aN a).length:=List.length_pos_iff.2 hn;have hlt:(aN a).length-1<(aN a).length:=by omega
   have r1:=aV hlt;have hcast:(((aN a).length-1:Nat):Int)=((aN a).length:Int)-1:=by omega
   rw[hcast]at r1;have hc:nE a=some (aN a)[(aN a).length-1]:=by unfold nE;rw[List.getLast?_eq_getElem?,List.getElem?_eq_getElem hlt]
   have w1:IntKind.i64.wrap (((aN a).length:Int)-1)=((aN a).length:Int)-1:=wrap_i64 (by omega);have hne:¬((aN a).length:Int)=0:=by omega
   have b1:(0:Int)≤((aN a).length:Int)-1:=by omega
   have b2:((aN a).length:Int)-1<(aN a).length:=by omega
   simp(config := { maxSteps := 3000000 }) [hφ,fl,hn,hc,w1,hne,b1,b2,r1,bG];omega
 ·cases h
theorem B7:aO Tryz.prog 105 Dd:=by
 intro ys φ r h hφ;unfold Dd at h;split at h;·rename_i n b p i s z m t inl dm;cases h;refine aw ah (by kernel_rfl) (by conv=>lhs;reduce) (by simp) ?_;cases inl<;>simp(config := { maxSteps := 3000000 })
 ·cases h
@[simp] noncomputable def KL:List AV→Option (Prop×AV)|[.pv (.ro a),.pv (.int .i64 k),.pv (.int .u64 n)]=>(dec cM a).map fun l=>(l.length≤1000000000∧0≤k∧k≤l.length,.pv (.int .i64 (oR (l.take k.toNat) n)))|_=>none
theorem BJ:aO Tryz.prog 109 KL:=by
 intro ys φ r h hφ;unfold KL at h;split at h
 ·rename_i ra k n;obtain⟨a,ha,h⟩:=Option.map_eq_some_iff.1 h;cases h;cases aD ha;obtain⟨hl,h0,hk⟩:=hφ;obtain⟨k,rfl⟩:∃q:Nat,k=(q:Int):=⟨k.toNat,by omega⟩;simp only[Int.toNat_natCast];have hk':k≤a.length:=by omega
  refine aw ah (by kernel_rfl) (by conv=>lhs;reduce) (by simp) ?_;simp(config := { maxSteps := 3000000 });refine aq (fun i:Nat=>i≤k∧∀v∈a.take i,¬v.n=n) (fun i=>⟨[(0,.pv (.ro (aC a))),(1,.pv (.int .i64 k)),(2,.pv (.int .u64 n)),(7,.pv (.int .i64 i))],[]⟩) (fun i=>k-i) [] 0 (by simp) ?_ ?_;·simp
  ·rintro i ⟨hi,ht⟩;have w2:IntKind.i64.wrap ((i:Int)+1)=(i:Int)+1:=wrap_i64 (by omega);by_cases hik:(i:Int)<k
   ·have hlt:i<a.length:=by omega
    have r1:=aV hlt;by_cases hn:a[i].n=n
    ·have hx:oR (a.take k) n=i:=by refine xo (by rw[List.length_take];omega) (by rw[List.getElem_take];exact hn) ?_;rw[List.take_take,Nat.min_eq_left (by omega)];exact ht
     simp(config := { maxSteps := 3000000 }) [w2,hik,hlt,r1,hn,hx]
    ·simp(config := { maxSteps := 3000000 }) [w2,hik,hlt,r1,hn];refine⟨i+1,⟨by omega,fun v hv=>?_⟩,by omega,by omega⟩;rw[List.take_succ_eq_append_getElem hlt,List.mem_append]at hv;rcases hv with hv|hv;·exact ht v hv
     ·rw[List.mem_singleton]at hv;rw[hv];exact hn
   ·have:i=k:=by omega
    subst this;have hx:oR (a.take i) n=-1:=sR ht;simp(config := { maxSteps := 3000000 }) [hx]
 ·cases h
def eL (v:Vn):Prop:=0≤v.n∧v.n≤18446744073709551615∧0≤v.b∧v.b≤18446744073709551615
theorem oU {v:Vn} (h:eL v):0≤bh v:=by
 unfold bh;split;·omega
 ·exact h.2.2.1
@[simp] noncomputable def SN:List AV→Option (Prop×AV)|[.pv (.ro a)]=>(dec cM a).map fun l=>(l.length≤1000000000∧∀v∈l,eL v,.pv (.bool (aK l)))|_=>none
theorem yF:aO Tryz.prog 96 SN:=by
 intro ys φ r h hφ
 unfold SN at h
 split at h
 ·rename_i ra
  obtain⟨a,ha,h⟩:=Option.map_eq_some_iff.1 h
  cases h
  cases aD ha
  obtain⟨hl9,hov⟩:=hφ
  refine aw (ag B7 (ag BJ ah)) (by kernel_rfl) (by conv=>lhs;reduce) (by simp) ?_
  simp (config := { maxSteps := 3000000 })
  refine aq (fun i:Nat=>i≤a.length∧∀j,j < i→gI a j=true) (fun i=>⟨[(0,.pv (.ro (aC a))),(2,.pv (.bool false)),(3,.pv (.int .i64 i))],[]⟩) (fun i=>a.length - i) [] 0 (by simp) ?_ ?_
  ·simp
  ·rintro i ⟨hi,ht⟩
   have w2:IntKind.i64.wrap ((i:Int)+1)=(i:Int)+1:=wrap_i64 (by omega)
   by_cases hlt:i < a.length
   ·have r1:=aV hlt
    have hg:(a[i]?).getD v0=a[i]:=by rw [List.getElem?_eq_getElem hlt];rfl
    have ho:=hov a[i] (List.getElem_mem hlt)
    have hb0:=oU ho
    have hok:gI a i=(decide (eS a i < a[i].n) && (decide (bh a[i]=0) || decide (0≤oR (a.take i) (bh a[i])))):=by unfold gI;rw [hg]
    have hnext:gI a i=true→∀j,j < i+1→gI a j=true:=by
     intro h j hj
     by_cases hji:j=i
     ·rw [hji];exact h
     ·exact ht j (by omega)
    have hbad:gI a i=false→aK a=false:=rV hlt
    have hbv:(if a[i].inl=true then 0 else a[i].b)=bh a[i]:=rfl
    have hn0:=ho.1
    have him:i - 1 < a.length:=by omega
    have rm:rowAt (aC a) ((i:Int) - 1)=[.int .u64 a[i - 1].n,.int .u64 a[i - 1].b,.int .u64 a[i - 1].p,.int .u64 a[i - 1].i,.int .u64 a[i - 1].s,.int .u64 a[i - 1].z,.int .u64 a[i - 1].m,.str a[i - 1].t,.bool a[i - 1].inl,.bool a[i - 1].dm]:=by
     rw [←aV him]
     unfold rowAt
     congr 1
     omega
    have w1:IntKind.i64.wrap ((i:Int) - 1)=(i:Int) - 1:=wrap_i64 (by omega)
    have hop:=(hov a[i - 1] (List.getElem_mem him)).1
    have hpi : 0 < i→eS a i=a[i - 1].n:=by
     intro h0
     obtain⟨q,rfl⟩:∃q,i=q+1:=⟨i - 1,by omega⟩
     have hq:q < a.length:=by omega
     simp only [eS,Nat.add_sub_cancel]
     rw [List.getElem?_eq_getElem hq];rfl
    have hp0:¬ 0 < i→eS a i=0:=by
     intro h0
     have:i=0:=by omega
     subst this;rfl
    have hmin:min i a.length=i:=by omega
    by_cases h1:a[i].n=0
    ·have hb:=hbad (by
      rw [hok,Bool.and_eq_false_iff];left
      simp only [decide_eq_false_iff_not]
      by_cases h0 : 0 < i
      ·rw [hpi h0];omega
      ·rw [hp0 h0];omega)
     simp (config := { maxSteps := 3000000 }) [w1,w2,hlt,r1,rm,h1,hb,hbv]
    ·by_cases h0 : 0 < i
     ·have hpi':=hpi h0
      have hb1 : 1≤(i:Int):=by omega
      have hb2:(i:Int) - 1 < a.length:=by omega
      have hne:¬ i=0:=by omega
      by_cases h3:a[i].n≤a[i - 1].n
      ·have h3':¬ a[i - 1].n < a[i].n:=by omega
       have hb:=hbad (by rw [hok,Bool.and_eq_false_iff];left;simp;omega)
       simp (config := { maxSteps := 3000000 }) [w1,w2,hlt,r1,rm,h1,h0,hb1,hb2,hne,h3,h3',hb,hbv]
      ·have hlp:eS a i < a[i].n:=by omega
       have h3':a[i - 1].n < a[i].n:=by omega
       by_cases h2:bh a[i]=0
       ·simp (config := { maxSteps := 3000000 }) [w1,w2,hlt,r1,rm,h1,h0,hb1,hb2,hne,h3,h3',h2,hbv]
        exact⟨i+1,⟨by omega,hnext (by rw [hok];simp [hlp,h2])⟩,by omega,by omega⟩
       ·have h2' : 0 < bh a[i]:=by omega
        simp (config := { maxSteps := 3000000 }) [w1,w2,hlt,r1,rm,h1,h0,hb1,hb2,hne,h3,h3',h2,h2',hbv]
        exact⟨⟨hl9,hi⟩,fun h=>hbad (by rw [hok];simp [hlp,h2];omega),fun h=>⟨i+1,⟨by omega,hnext (by rw [hok];simp [hlp,h])⟩,by omega,by omega⟩⟩
     ·have hlp:eS a i < a[i].n:=by rw [hp0 h0];omega
      have hz:(i=0)=True:=by simp;omega
      have h0f:(0 < i)=False:=by simp;omega
      by_cases h2:bh a[i]=0
      ·simp (config := { maxSteps := 3000000 }) [w1,w2,hlt,r1,rm,h1,h0f,hz,h2,hbv]
       exact⟨i+1,⟨by omega,hnext (by rw [hok];simp [hlp,h2])⟩,by omega,by omega⟩
      ·have h2' : 0 < bh a[i]:=by omega
       simp (config := { maxSteps := 3000000 }) [w1,w2,hlt,r1,rm,h1,h0f,hz,h2,h2',hbv]
       exact⟨⟨hl9,hi⟩,fun h=>hbad (by rw [hok];simp [hlp,h2];omega),fun h=>⟨i+1,⟨by omega,hnext (by rw [hok];simp [hlp,h])⟩,by omega,by omega⟩⟩
   ·have:i=a.length:=by omega
    subst this
    have hr:aK a=true:=(ez a).2 ht
    simp (config := { maxSteps := 3000000 }) [hr]
 ·cases h
theorem Jf:aO Tryz.prog 127 (Db 92):=by
 intro ys φ r h hφ;unfold Db at h;split at h
 ·rename_i ra;obtain⟨a,ha,h⟩:=Option.map_eq_some_iff.1 h;cases h;cases aD ha;refine aw ah (by kernel_rfl) (by conv=>lhs;reduce) (by simp) ?_;simp(config := { maxSteps := 3000000 });refine aq (fun i:Nat=>i≤a.length) (fun i=>⟨[(0,.pv (.ro (aC a))),(3,.own 3),(4,.pv (.int .i64 i))],[(3,.arr 92 (aC (aN (a.take i))))]⟩) (fun i=>a.length-i) [] 0 (by simp) ?_ ?_;·simp[aN]
  ·intro i hi;have w2:IntKind.i64.wrap ((i:Int)+1)=(i:Int)+1:=wrap_i64 (by omega);by_cases hlt:i<a.length
   ·have r1:=aV hlt;have hs:=su hlt;have hl:=dW (a.take i);have hl1:(a.take i).length≤1000000:=by rw[List.length_take];omega
    cases hh:a[i].dm with|true=>rw[hh,if_pos rfl]at hs;simp(config := { maxSteps := 3000000 }) [w2,hlt,r1,hh];exact⟨i+1,by omega,⟨by omega,by rw[hs]⟩,by omega⟩|false=>rw[hh,if_neg (by simp)]at hs;simp(config := { maxSteps := 3000000 }) [w2,hlt,r1,hh,aB];refine⟨⟨by omega,by omega⟩,i+1,by omega,⟨by omega,?_⟩,by omega⟩;rw[hs,bO];simp[aC,cM,hh]
   ·simp(config := { maxSteps := 3000000 }) [hlt];rw[List.take_of_length_le (by omega)]
 ·cases h
theorem Ba {l:List Vn}{n:Int}{i:Nat} (h:i<l.length) (hq:l[i].n=n) (hh:l[i].dm=false) (ht:∀v∈l.take i,v.dm=true∨¬v.n=n):dE l n=some l[i]:=by
 unfold dE aN;rw[List.find?_filter,List.find?_eq_some_iff_getElem];refine⟨by simp[hh,hq],i,h,rfl,fun j hj=>?_⟩;have:l[j]∈l.take i:=by rw[List.mem_take_iff_getElem];exact⟨j,by omega,rfl⟩
 rcases ht _ this with h1|h1<;>simp[h1]
theorem xl {l:List Vn}{n:Int} (ht:∀v∈l,v.dm=true∨¬v.n=n):dE l n=none:=by
 refine wA fun v hv hn=>?_;obtain⟨h1,h2⟩:=List.mem_filter.1 hv;rcases ht v h1 with h|h;·simp[h]at h2
 ·exact h hn
theorem KJ:aO Tryz.prog 72 Z7:=by
 intro ys φ r h hφ;unfold Z7 at h;split at h
 ·rename_i ra n;obtain⟨a,ha,h⟩:=Option.map_eq_some_iff.1 h;cases h;cases aD ha;refine aw ah (by kernel_rfl) (by conv=>lhs;reduce) (by simp) ?_;simp(config := { maxSteps := 3000000 });refine aq (fun i:Nat=>i≤a.length∧∀v∈a.take i,v.dm=true∨¬v.n=n) (fun i=>⟨[(0,.pv (.ro (aC a))),(1,.pv (.int .u64 n)),(4,.ptr 4 0),(5,.pv (.bool false)),(6,.pv (.int .i64 i))],[(4,.box [.pv (.int .u64 0),.pv (.int .u64 0),.pv (.int .u64 0),.pv (.int .u64 0),.pv (.int .u64 0),.pv (.int .u64 0),.pv (.int .u64 0),.pv (.str []),.pv (.bool false),.pv (.bool false)])]⟩) (fun i=>a.length-i) [] 0 (by simp) ?_ ?_;·simp
  ·rintro i ⟨hi,ht⟩;have w2:IntKind.i64.wrap ((i:Int)+1)=(i:Int)+1:=wrap_i64 (by omega);by_cases hlt:i<a.length
   ·have r1:=aV hlt;have hnext:(a[i].dm=true∨¬a[i].n=n)→∀v∈a.take (i+1),v.dm=true∨¬v.n=n:=by
     intro h v hv;rw[List.take_succ_eq_append_getElem hlt,List.mem_append]at hv;rcases hv with hv|hv;·exact ht v hv
     ·rw[List.mem_singleton]at hv;rw[hv];exact h
    by_cases hn:a[i].n=n;·cases hh:a[i].dm with|true=>simp(config := { maxSteps := 3000000 }) [w2,hlt,r1,hn,hh];exact⟨i+1,⟨by omega,hnext (.inl hh)⟩,by omega,by omega⟩|false=>have hg:=Ba hlt hn hh ht;simp(config := { maxSteps := 3000000 }) [w2,hlt,r1,hn,hh,hg,bG]
    ·simp(config := { maxSteps := 3000000 }) [w2,hlt,r1,hn];exact⟨i+1,⟨by omega,hnext (.inr hn)⟩,by omega,by omega⟩
   ·rw[List.take_of_length_le (by omega)]at ht;have hg:=xl ht;simp(config := { maxSteps := 3000000 }) [hlt,hg,bG,v0]
 ·cases h
theorem Eb {l:List Vn}{k:Nat} (h:k<l.length) (hh:l[k].dm=false) (ht:∀v∈l.drop (k+1),v.dm=true):nE l=some l[k]:=by
 unfold nE aN;have hl:l=l.take k++l[k]::l.drop (k+1):=by rw[←List.drop_eq_getElem_cons h,List.take_append_drop]
 have hd:(l.drop (k+1)).filter (fun v=>!v.dm)=[]:=by rw[List.filter_eq_nil_iff];intro v hv;simp[ht v hv]
 conv=>lhs;rw[hl]
 rw[List.filter_append,List.filter_cons,if_pos (by simp[hh]),hd,List.getLast?_append];rfl
theorem wT {l:List Vn} (ht:∀v∈l,v.dm=true):nE l=none:=by
 unfold nE aN;have hd:l.filter (fun v=>!v.dm)=[]:=by rw[List.filter_eq_nil_iff];intro v hv;simp[ht v hv]
 rw[hd];rfl
theorem Vm:aO Tryz.prog 107 Zb:=by
 intro ys φ r h hφ;unfold Zb at h;split at h
 ·rename_i ra;obtain⟨a,ha,h⟩:=Option.map_eq_some_iff.1 h;cases h;cases aD ha;refine aw ah (by kernel_rfl) (by conv=>lhs;reduce) (by simp) ?_;have w0:IntKind.i64.wrap ((a.length:Int)-1)=(a.length:Int)-1:=wrap_i64 (by omega);simp(config := { maxSteps := 3000000 }) [w0];refine aq (fun k:Nat=>k≤a.length∧∀v∈a.drop k,v.dm=true) (fun k=>⟨[(0,.pv (.ro (aC a))),(2,.ptr 2 0),(3,.pv (.bool false)),(4,.pv (.int .i64 ((k:Int)-1)))],[(2,.box [.pv (.int .u64 0),.pv (.int .u64 0),.pv (.int .u64 0),.pv (.int .u64 0),.pv (.int .u64 0),.pv (.int .u64 0),.pv (.int .u64 0),.pv (.str []),.pv (.bool false),.pv (.bool false)])]⟩) (fun k=>k) [] a.length (by simp) ?_ ?_;·simp
  ·rintro k ⟨hk,ht⟩;by_cases h0:0<k
   ·obtain⟨q,rfl⟩:∃q,k=q+1:=⟨k-1,by omega⟩;have hlt:q<a.length:=by omega
    have hc:(((q+1:Nat):Int)-1)=(q:Int):=by omega
    have r1:=aV hlt;have w2:IntKind.i64.wrap ((q:Int)-1)=(q:Int)-1:=wrap_i64 (by omega);rw[hc];cases hh:a[q].dm with
    |true=>
     simp(config := { maxSteps := 3000000 }) [w2,hlt,r1,hh];refine⟨q,⟨by omega,fun v hv=>?_⟩,rfl,by omega⟩;rw[List.drop_eq_getElem_cons hlt]at hv;rcases List.mem_cons.1 hv with rfl|hv;·exact hh
     ·exact ht v hv|false=>have hg:=Eb hlt hh ht;simp(config := { maxSteps := 3000000 }) [w2,hlt,r1,hh,hg,bG]
   ·have:k=0:=by omega
    subst this;have hg:=wT (l:=a) (by simpa using ht);simp(config := { maxSteps := 3000000 }) [hg,bG,v0]
 ·cases h
@[simp] def Gone:List AV→Option (Prop×AV)|[.agg [.pv (.int .u64 n),.pv (.int .u64 b),.pv (.int .u64 p),.pv (.int .u64 i),.pv (.int .u64 s),.pv (.int .u64 z),.pv (.int .u64 m),.pv (.str t),.pv (.bool inl),.pv (.bool dm)]]=>some (True,.agg [.pv (.int .u64 n),.pv (.int .u64 b),.pv (.int .u64 p),.pv (.int .u64 i),.pv (.int .u64 s),.pv (.int .u64 z),.pv (.int .u64 m),.pv (.str t),.pv (.bool inl),.pv (.bool dm)])|_=>none
@[simp] noncomputable def GRefV:List AV→Option (Prop×AV)|[.pv (.ro a)]=>(dec cM a).map fun l=>(l.length≤1000000,.fr 92 (aC l))|_=>none
theorem Km {x y:Vn}:(x.n=y.n∧x.b=y.b∧x.p=y.p∧x.i=y.i∧x.s=y.s∧x.z=y.z∧x.m=y.m∧x.t=y.t∧x.inl=y.inl∧x.dm=y.dm)↔x=y:=by cases x;cases y;simp
theorem FQ (x y:Vn):jf [.int .u64 x.n,.int .u64 x.b,.int .u64 x.p,.int .u64 x.i,.int .u64 x.s,.int .u64 x.z,.int .u64 x.m,.str x.t,.bool x.inl,.bool x.dm] [.int .u64 y.n,.int .u64 y.b,.int .u64 y.p,.int .u64 y.i,.int .u64 y.s,.int .u64 y.z,.int .u64 y.m,.str y.t,.bool y.inl,.bool y.dm]=decide (x=y):=by rw[Bool.eq_iff_iff];simp only[jf,mU,Bool.and_eq_true,decide_eq_true_eq,Bool.and_true];rw[←Km]
@[simp] noncomputable def GSmV:List AV→Option (Prop×AV)|[.pv (.ro a),.pv (.ro b)]=>(dec cM a).bind fun la=>(dec cM b).map fun lb=>(la.length≤1000000,.pv (.bool (decide (la=lb))))|_=>none
def fewV (l:List Vn):Bool:=decide (l.length≤12)&&l.all fun v=>decide (v.t.length≤100)
@[simp] noncomputable def GFewV:List AV→Option (Prop×AV)|[.pv (.ro a)]=>(dec cM a).map fun l=>(True,.pv (.bool (fewV l)))|_=>none
def Mr (n:Int):List PV:=[.int .i64 n]
def Lw (l:List Int):List (List PV):=l.map Mr
@[simp] theorem RO:Lw []=[]:=rfl
def VT (l:List Vn):List Int:=l.map fun v=>IntKind.i64.wrap v.n
@[simp] noncomputable def GnumsV:List AV→Option (Prop×AV)|[.pv (.ro a)]=>(dec cM a).map fun l=>(l.length≤1000000,.fr 3 (Lw (VT l)))|_=>none
@[simp] noncomputable def GSmI:List AV→Option (Prop×AV)|[.pv (.ro a),.pv (.ro b)]=>(dec Mr a).bind fun la=>(dec Mr b).map fun lb=>(la.length≤1000000000,.pv (.bool (decide (la=lb))))|_=>none
structure Ls where
 e:Int
 p:Int
 i:Int
 u:Int
 h:Bool deriving DecidableEq
def dx (l:Ls):List AV:=[.pv (.int .u64 l.e),.pv (.int .u64 l.p),.pv (.int .u64 l.i),.pv (.int .u64 l.u),.pv (.bool l.h)]
def kD:Int:=18446744073709551615
def dQ (l:Ls) (p i e:Int):Bool:=l.h&&decide (l.p=p)&&decide (l.i=i)&&decide (l.e=e)
def wQ (l:Ls):Int×Int:=if l.e=kD then(0,131) else(l.e+1,0)
def cX (l:Ls) (p i u:Int):Ls×Int:=if l.e=kD then(l,131) else(⟨l.e+1,p,i,u,true⟩,0)
def nu (l:Ls) (u:Int):Ls:=⟨l.e,l.p,l.i,max l.u u,l.h⟩
def jD (l:Ls):Ls:=⟨l.e,l.p,l.i,l.u,false⟩
@[simp] def CJ:List AV→Option (Prop×AV)|[.agg [.pv (.int .u64 e),.pv (.int .u64 p),.pv (.int .u64 i),.pv (.int .u64 u),.pv (.bool h)],.pv (.int .u64 q),.pv (.int .u64 j),.pv (.int .u64 f)]=>some (True,.pv (.bool (dQ ⟨e,p,i,u,h⟩ q j f)))|_=>none
theorem A5:aO Tryz.prog 26 CJ:=by
 intro ys φ r h hφ;unfold CJ at h;split at h;·rename_i e p i u h' q j f;cases h;refine aw ah (by kernel_rfl) (by conv=>lhs;reduce) (by simp) ?_;cases h' with|false=>simp(config := { maxSteps := 3000000 }) [dQ]|true=>
  by_cases h1:p=q
  ·by_cases h2:i=j;·by_cases h3:e=f<;>simp(config := { maxSteps := 3000000 }) [dQ,h1,h2,h3]
   ·simp(config := { maxSteps := 3000000 }) [dQ,h1,h2]
  ·simp(config := { maxSteps := 3000000 }) [dQ,h1]
 ·cases h
@[simp] def J9:List AV→Option (Prop×AV)|[.agg [.pv (.int .u64 e),.pv (.int .u64 p),.pv (.int .u64 i),.pv (.int .u64 u),.pv (.bool h)]]=>some (bQ e,.aQ [.pv (.int .u64 (wQ ⟨e,p,i,u,h⟩).1),.pv (.int .i64 (wQ ⟨e,p,i,u,h⟩).2)])|_=>none
theorem LI:aO Tryz.prog 128 J9:=by
 intro ys φ r h hφ;unfold J9 at h;split at h
 ·rename_i e p i u h';cases h;obtain⟨o1,o2⟩:=hφ;refine aw ah (by kernel_rfl) (by conv=>lhs;reduce) (by simp) ?_;by_cases h1:e=18446744073709551615;·simp(config := { maxSteps := 3000000 }) [wQ,kD,h1]
  ·have w1:IntKind.u64.wrap (e+1)=e+1:=wrap_u64 (by omega);simp(config := { maxSteps := 3000000 }) [wQ,kD,h1,w1]
 ·cases h
@[simp] def wX:List AV→Option (Prop×AV)|[.agg [.pv (.int .u64 e),.pv (.int .u64 p),.pv (.int .u64 i),.pv (.int .u64 u),.pv (.bool h)],.pv (.int .u64 q),.pv (.int .u64 j),.pv (.int .u64 v)]=>some (bQ e,.aQ [.agg (dx (cX ⟨e,p,i,u,h⟩ q j v).1),.pv (.int .i64 (cX ⟨e,p,i,u,h⟩ q j v).2)])|_=>none
theorem I4:aO Tryz.prog 112 wX:=by
 intro ys φ r h hφ;unfold wX at h;split at h
 ·rename_i e p i u h' q j v;cases h;refine aw (ag LI ah) (by kernel_rfl) (by conv=>lhs;reduce) (by simp) ?_;by_cases h1:e=18446744073709551615;·simp(config := { maxSteps := 3000000 }) [wQ,cX,kD,dx,h1];exact h1▸hφ
  ·simp(config := { maxSteps := 3000000 }) [wQ,cX,kD,dx,h1];exact hφ
 ·cases h
@[simp] def xL:List AV→Option (Prop×AV)|[.agg [.pv (.int .u64 e),.pv (.int .u64 p),.pv (.int .u64 i),.pv (.int .u64 u),.pv (.bool h)],.pv (.int .u64 v)]=>some (True,.agg (dx (nu ⟨e,p,i,u,h⟩ v)))|_=>none
theorem Jy:aO Tryz.prog 114 xL:=by
 intro ys φ r h hφ;unfold xL at h;split at h;·cases h;refine aw ah (by kernel_rfl) (by conv=>lhs;reduce) (by simp) ?_;simp(config := { maxSteps := 3000000 }) [nu,dx]
 ·cases h
@[simp] def JD:List AV→Option (Prop×AV)|[.agg [.pv (.int .u64 e),.pv (.int .u64 p),.pv (.int .u64 i),.pv (.int .u64 u),.pv (.bool h)]]=>some (True,.agg (dx (jD ⟨e,p,i,u,h⟩)))|_=>none
theorem V7:aO Tryz.prog 115 JD:=by
 intro ys φ r h hφ;unfold JD at h;split at h;·cases h;refine aw ah (by kernel_rfl) (by conv=>lhs;reduce) (by simp) ?_;simp(config := { maxSteps := 3000000 }) [jD,dx]
 ·cases h
noncomputable def Ak {α:Type} (f:α→AV) (y:AV):Option α:=open Classical in if h:∃p,f p=y then some h.choose else none
theorem fw {α:Type}{f:α→AV}{y:AV}{p:α} (h:Ak f y=some p):y=f p:=by
 unfold Ak at h;split at h;·rename_i h';cases h;exact h'.choose_spec.symm
 ·cases h
theorem Cn {α:Type}{f:α→AV} (inj:∀p q,f p=f q→p=q) (p:α):Ak f (f p)=some p:=by unfold Ak;have h:∃q,f q=f p:=⟨p,rfl⟩;rw[dif_pos h];exact congrArg some (inj _ _ h.choose_spec)
structure Rc where
 k:Int
 p:Int
 i:Int
 s:Int
 e:Int
 u:Int
 v:Int
 c:Int
 z:Int
 m:Int
 n:List UInt8
 t:List UInt8 deriving DecidableEq
structure Ap where
 l:Ls
 ps:List Pn
 vs:List Vn
 sl:Bool
 r:Rc
 n:Int
 s:Int
def nd (a:Ap):AV:=.bx [.pv (.int .u64 a.l.e),.pv (.int .u64 a.l.p),.pv (.int .u64 a.l.i),.pv (.int .u64 a.l.u),.pv (.bool a.l.h),.fr 94 (aF a.ps),.fr 73 (aC a.vs),.pv (.bool a.sl),.pv (.int .u8 a.r.k),.pv (.int .u64 a.r.p),.pv (.int .u64 a.r.i),.pv (.int .u64 a.r.s),.pv (.int .u64 a.r.e),.pv (.int .u64 a.r.u),.pv (.int .u64 a.r.v),.pv (.int .u64 a.r.c),.pv (.int .u64 a.r.z),.pv (.int .u64 a.r.m),.pv (.str a.r.n),.pv (.str a.r.t),.pv (.int .u64 a.n),.pv (.int .u64 a.s)]
def QK (a:Ap):AV:=.rp [.int .u64 a.l.e,.int .u64 a.l.p,.int .u64 a.l.i,.int .u64 a.l.u,.bool a.l.h,.ro (aF a.ps),.ro (aC a.vs),.bool a.sl,.int .u8 a.r.k,.int .u64 a.r.p,.int .u64 a.r.i,.int .u64 a.r.s,.int .u64 a.r.e,.int .u64 a.r.u,.int .u64 a.r.v,.int .u64 a.r.c,.int .u64 a.r.z,.int .u64 a.r.m,.str a.r.n,.str a.r.t,.int .u64 a.n,.int .u64 a.s]
theorem lu {α β:Type}{f:α→β} (hf:∀a b,f a=f b→a=b):∀{l m:List α},l.map f=m.map f→l=m|[],[],_=>rfl|[],_::_,h=>by cases h|_::_,[],h=>by cases h|a::l,b::m,h=>by simp only[List.map_cons,List.cons.injEq]at h;rw[hf _ _ h.1,lu hf h.2]
theorem Jn:∀p q,nd p=nd q→p=q:=by rintro⟨⟨e,p,i,u,h⟩,ps,vs,sl,⟨k,rp,ri,rs,re,ru,rv,rc,rz,rm,rn,rt⟩,n,s⟩ ⟨⟨e',p',i',u',h'⟩,ps',vs',sl',⟨k',rp',ri',rs',re',ru',rv',rc',rz',rm',rn',rt'⟩,n',s'⟩ hh;simp only[nd,AV.bx.injEq,List.cons.injEq,AV.pv.injEq,PV.int.injEq,PV.bool.injEq,PV.str.injEq,AV.fr.injEq,true_and,and_true]at hh;obtain⟨rfl,rfl,rfl,rfl,rfl,h1,h2,rfl,rfl,rfl,rfl,rfl,rfl,rfl,rfl,rfl,rfl,rfl,rfl,rfl,rfl,rfl⟩:=hh;rw[lu me h1,lu si h2]
theorem HG:∀p q,QK p=QK q→p=q:=by rintro⟨⟨e,p,i,u,h⟩,ps,vs,sl,⟨k,rp,ri,rs,re,ru,rv,rc,rz,rm,rn,rt⟩,n,s⟩ ⟨⟨e',p',i',u',h'⟩,ps',vs',sl',⟨k',rp',ri',rs',re',ru',rv',rc',rz',rm',rn',rt'⟩,n',s'⟩ hh;simp only[QK,AV.rp.injEq,List.cons.injEq,PV.int.injEq,PV.bool.injEq,PV.str.injEq,PV.ro.injEq,true_and,and_true]at hh;obtain⟨rfl,rfl,rfl,rfl,rfl,h1,h2,rfl,rfl,rfl,rfl,rfl,rfl,rfl,rfl,rfl,rfl,rfl,rfl,rfl,rfl,rfl⟩:=hh;rw[lu me h1,lu si h2]
@[simp] theorem YP (e p i u:Int) (h:Bool) (ps:List Pn) (vs:List Vn) (sl:Bool) (k rp ri rs re ru rv rc rz rm:Int) (rn rt:List UInt8) (n s:Int):Ak nd (.bx [.pv (.int .u64 e),.pv (.int .u64 p),.pv (.int .u64 i),.pv (.int .u64 u),.pv (.bool h),.fr 94 (aF ps),.fr 73 (aC vs),.pv (.bool sl),.pv (.int .u8 k),.pv (.int .u64 rp),.pv (.int .u64 ri),.pv (.int .u64 rs),.pv (.int .u64 re),.pv (.int .u64 ru),.pv (.int .u64 rv),.pv (.int .u64 rc),.pv (.int .u64 rz),.pv (.int .u64 rm),.pv (.str rn),.pv (.str rt),.pv (.int .u64 n),.pv (.int .u64 s)])=some ⟨⟨e,p,i,u,h⟩,ps,vs,sl,⟨k,rp,ri,rs,re,ru,rv,rc,rz,rm,rn,rt⟩,n,s⟩:=Cn Jn ⟨⟨e,p,i,u,h⟩,ps,vs,sl,⟨k,rp,ri,rs,re,ru,rv,rc,rz,rm,rn,rt⟩,n,s⟩
@[simp] theorem Vx (e p i u:Int) (h:Bool) (ps:List Pn) (vs:List Vn) (sl:Bool) (k rp ri rs re ru rv rc rz rm:Int) (rn rt:List UInt8) (n s:Int):Ak QK (.rp [.int .u64 e,.int .u64 p,.int .u64 i,.int .u64 u,.bool h,.ro (aF ps),.ro (aC vs),.bool sl,.int .u8 k,.int .u64 rp,.int .u64 ri,.int .u64 rs,.int .u64 re,.int .u64 ru,.int .u64 rv,.int .u64 rc,.int .u64 rz,.int .u64 rm,.str rn,.str rt,.int .u64 n,.int .u64 s])=some ⟨⟨e,p,i,u,h⟩,ps,vs,sl,⟨k,rp,ri,rs,re,ru,rv,rc,rz,rm,rn,rt⟩,n,s⟩:=Cn HG ⟨⟨e,p,i,u,h⟩,ps,vs,sl,⟨k,rp,ri,rs,re,ru,rv,rc,rz,rm,rn,rt⟩,n,s⟩
@[simp] noncomputable def GOw:List AV→Option (Prop×AV)|[y]=>(Ak QK y).map fun a=>(True,.pv (.bool (dQ a.l a.r.p a.r.i a.r.e)))|_=>none
theorem OX:aO Tryz.prog 113 GOw:=by
 intro ys φ r h hφ;unfold GOw at h;split at h;·obtain⟨a,ha,h⟩:=Option.map_eq_some_iff.1 h;cases h;cases fw ha;refine aw (ag A5 ah) (by kernel_rfl) (by conv=>lhs;reduce) (by simp) ?_;simp(config := { maxSteps := 3000000 }) [QK]
 ·cases h
def qV (a:Ap):Ap×Bool:=(⟨a.l,a.ps,a.vs,true,a.r,a.n,a.s⟩,!a.sl&&a.l.h&&decide (a.l.p=a.r.p)&&decide (a.l.i=a.r.i))
def lK (a:Ap):Ap×Bool:=(⟨nu a.l a.r.u,a.ps,a.vs,a.sl,a.r,a.n,a.s⟩,!a.sl&&dQ a.l a.r.p a.r.i a.r.e)
def gB (a:Ap):Ap×Bool:=(⟨jD a.l,a.ps,a.vs,a.sl,a.r,a.n,a.s⟩,!a.sl&&dQ a.l a.r.p a.r.i a.r.e)
def iV (a:Ap):Ap×Bool:=(⟨(cX a.l a.r.p a.r.i a.r.u).1,a.ps,a.vs,a.sl,a.r,a.n,a.s⟩,!a.sl&&decide ((cX a.l a.r.p a.r.i a.r.u).2=0)&&decide ((cX a.l a.r.p a.r.i a.r.u).1.e=a.r.e))
@[simp] noncomputable def AG (C:Ap→Prop) (F:Ap→Ap×Bool):List AV→Option (Prop×AV)|[.aQ [y]]=>(Ak nd y).map fun a=>(C a,.bJ 0 [.pv (.bool (F a).2),nd (F a).1])|_=>none
theorem Ft:dR Tryz.prog 81 (AG (fun _=>True) lK):=by
 intro ys φ r h hφ;unfold AG at h;split at h;·obtain⟨a,ha,h⟩:=Option.map_eq_some_iff.1 h;cases h;cases fw ha;obtain⟨⟨e,p,i,u,h'⟩,ps,vs,sl,⟨k,rp,ri,rs,re,ru,rv,rc,rz,rm,rn,rt⟩,n,s⟩:=a;refine cu (ag OX (ag Jy ah)) (by kernel_rfl) (by conv=>lhs;reduce) (by simp) rfl (by simp[nd]) ?_;cases sl<;>simp(config := { maxSteps := 3000000 }) [nd,lK,dx,nu]
 ·cases h
theorem Br:dR Tryz.prog 82 (AG (fun _=>True) gB):=by
 intro ys φ r h hφ;unfold AG at h;split at h;·obtain⟨a,ha,h⟩:=Option.map_eq_some_iff.1 h;cases h;cases fw ha;obtain⟨⟨e,p,i,u,h'⟩,ps,vs,sl,⟨k,rp,ri,rs,re,ru,rv,rc,rz,rm,rn,rt⟩,n,s⟩:=a;refine cu (ag OX (ag V7 ah)) (by kernel_rfl) (by conv=>lhs;reduce) (by simp) rfl (by simp[nd]) ?_;cases sl<;>simp(config := { maxSteps := 3000000 }) [nd,gB,dx,jD]
 ·cases h
theorem HX:dR Tryz.prog 86 (AG (fun _=>True) qV):=by
 intro ys φ r h hφ;unfold AG at h;split at h;·obtain⟨a,ha,h⟩:=Option.map_eq_some_iff.1 h;cases h;cases fw ha;obtain⟨⟨e,p,i,u,h'⟩,ps,vs,sl,⟨k,rp,ri,rs,re,ru,rv,rc,rz,rm,rn,rt⟩,n,s⟩:=a;refine cu ah (by kernel_rfl) (by conv=>lhs;reduce) (by simp) rfl (by simp[nd]) ?_;cases sl<;>cases h'<;>simp(config := { maxSteps := 3000000 }) [nd,qV,dx]
 ·cases h
theorem Fk:dR Tryz.prog 80 (AG (fun a=>bQ a.l.e) iV):=by
 intro ys φ r h hφ;unfold AG at h;split at h
 ·obtain⟨a,ha,h⟩:=Option.map_eq_some_iff.1 h;cases h;cases fw ha;obtain⟨⟨e,p,i,u,h'⟩,ps,vs,sl,⟨k,rp,ri,rs,re,ru,rv,rc,rz,rm,rn,rt⟩,n,s⟩:=a;have oe:bQ e:=hφ;refine cu (ag I4 ah) (by kernel_rfl) (by conv=>lhs;reduce) (by simp) rfl (by simp[nd]) ?_;by_cases h1:e=kD;·cases sl<;>simp(config := { maxSteps := 3000000 }) [nd,iV,dx,cX,h1,oe];all_goals exact h1▸oe
  ·cases sl<;>simp(config := { maxSteps := 3000000 }) [nd,iV,dx,cX,h1,oe]
 ·cases h
structure Wr (w w':World) (b:Nat) (us:Array Value) (ty:TypeId):Prop where
 os:w'.os=w.os
 tape:w'.tape=w.tape
 output:w'.output=w.output
 size:w'.heap.size=w.heap.size
 here:w'.heap[b]?=some (.cells us ty (0,0))
 block:∀k,k≠b→w'.heap[k]?=w.heap[k]?
theorem ta {w:World}{b:Nat}{us:Array Value}{ty:TypeId} (h:w.heap[b]?=some (.cells us ty (0,0))) (o:Nat) (v:Value):Wr w (w.setCell ⟨b,o,none⟩ v) b (us.setIfInBounds o v) ty:=by
 refine⟨rfl,rfl,rfl,by simp[World.setCell],?_,fun k hk=>?_⟩;·simp[World.setCell,Array.getElem?_modify,h]
 ·simp[World.setCell,Array.getElem?_modify,Ne.symm hk]
theorem fE (a:Value) (b o:Nat) (x:Int) (us:Array Value) (ty:TypeId) (w:World) (h:w.heap[b]?=some (.cells us ty (0,0))) (hx:us[o]?=some (.int .u64 x)):Calls Tryz.prog 184 #[a,.pointer (some ⟨b,o,none⟩)] w fun e w'=>e=.returned (.tuple #[])∧Wr w w' b (us.setIfInBounds o (.int .u64 0)) ty:=by
 have hc:w.cell? ⟨b,o,none⟩=some (.int .u64 x):=by rw[Lib.cell_of_heap h];exact hx
 have hf:w.frozen? ⟨b,o,none⟩=false:=by simp[World.frozen?,h]
 go_enter Tryz.func184,Tryz.ntmps184;go_wp2;exact⟨rfl,_,by kernel_rfl,rfl,ta h o _⟩
theorem yA (b o bt:Nat) (n:List UInt8) (bad:Bool) (us:Array Value) (ty tt:TypeId) (w:World) (hne:b≠bt) (h:w.heap[b]?=some (.cells us ty (0,0))) (hx:us[o]?=some (.string ⟨n.toArray⟩)) (ht:w.heap[bt]?=some (.cells #[.bool bad] tt (0,0))):Calls Tryz.prog 185 #[.pointer (some ⟨bt,0,none⟩),.pointer (some ⟨b,o,none⟩)] w fun e w'=>e=.returned (.tuple #[])∧∃w1,Wr w w1 bt #[.bool (bad||decide (n=[])||decide (64<n.length))] tt∧Wr w1 w' b (us.setIfInBounds o (.string ⟨#[]⟩)) ty:=by
 have hc:w.cell? ⟨b,o,none⟩=some (.string ⟨n.toArray⟩):=by rw[Lib.cell_of_heap h];exact hx
 have hb:w.cell? ⟨bt,0,none⟩=some (.bool bad):=by rw[Lib.cell_of_heap ht];rfl
 have hf:w.frozen? ⟨b,o,none⟩=false:=by simp[World.frozen?,h]
 have hg:w.frozen? ⟨bt,0,none⟩=false:=by simp[World.frozen?,ht]
 have hd:∀v,(w.setCell ⟨bt,0,none⟩ v).cell? ⟨b,o,none⟩=some (.string ⟨n.toArray⟩):=fun v=>by rw[Lib.cell_of_heap (((ta ht 0 v).block b hne).trans h)];exact hx
 have fin:∀v,v=(bad||decide (n=[])||decide (64<n.length))→∃w1,Wr w w1 bt #[.bool (bad||decide (n=[])||decide (64<n.length))] tt∧Wr w1 ((w.setCell ⟨bt,0,none⟩ (.bool v)).setCell ⟨b,o,none⟩ (.string ⟨#[]⟩)) b (us.setIfInBounds o (.string ⟨#[]⟩)) ty:=by rintro v rfl;exact⟨_,ta ht 0 _,ta (((ta ht 0 _).block b hne).trans h) o _⟩
 go_enter Tryz.func185,Tryz.ntmps185;have hd1:=hd (.bool true);have hd2:=hd (.bool false);clear hd;cases bad with|true=>go_wp2;exact⟨rfl,_,by kernel_rfl,rfl,fin _ rfl⟩|false=>
  by_cases h1:n=[];·subst h1;go_wp2;exact⟨rfl,_,by kernel_rfl,rfl,fin _ rfl⟩
  ·go_wp2;refine⟨rfl,_,by kernel_rfl,rfl,fin _ ?_⟩;have:(n.isEmpty||decide (64<(n.length:Int)))=(decide (n=[])||decide (64<n.length)):=by cases n with|nil=>rfl|cons x l=>simp only[List.isEmpty_cons,Bool.false_or,reduceCtorEq,decide_false];exact decide_eq_decide.2 (by omega)
   rw[this,Bool.false_or]
def recC (r:Rc):Array Value:=#[.int .u8 r.k,.int .u64 r.p,.int .u64 r.i,.int .u64 r.s,.int .u64 r.e,.int .u64 r.u,.int .u64 r.v,.int .u64 r.c,.int .u64 r.z,.int .u64 r.m,.string ⟨r.n.toArray⟩,.string ⟨r.t.toArray⟩]
def uO:Nat→Rc→Rc|0,r=>{r with e:=0}|1,r=>{r with u:=0}|2,r=>{r with v:=0}|3,r=>{r with c:=0}|4,r=>{r with z:=0}|5,r=>{r with m:=0}|6,r=>{r with n:=[]}|7,r=>{r with t:=[]}|_,r=>r
def VO:Nat→Rc→Bool→Bool|6,r,b=>b||decide (r.n=[])||decide (64<r.n.length)|7,r,b=>b||decide (r.t=[])||decide (64<r.t.length)|_,_,b=>b
def rG:List Nat→Rc×Bool→Rc×Bool|[],x=>x|q::l,x=>rG l (uO q x.1,VO q x.1 x.2)
theorem Ux (a b c:Value) (w:World):(Instr.index 191 (.agg #[a,b,c]) (.int .i64 0)).run Tryz.prog w=.ok a w:=by kernel_rfl
theorem Yb (a b c:Value) (w:World):(Instr.index 191 (.agg #[a,b,c]) (.int .i64 1)).run Tryz.prog w=.ok b w:=by kernel_rfl
theorem Xj (a b c:Value) (w:World):(Instr.index 191 (.agg #[a,b,c]) (.int .i64 2)).run Tryz.prog w=.ok c w:=by kernel_rfl
theorem JV (n:Nat) (a:Addr) (w:World):(method (n+1) 149 (.pointer (some a)) "chartroom/record.number").run Tryz.prog w=.ok (184,.pointer (some a)) w:=by kernel_rfl
theorem UY (n:Nat) (a:Addr) (w:World):(method (n+1) 149 (.pointer (some a)) "chartroom/record.text").run Tryz.prog w=.ok (185,.pointer (some a)) w:=by kernel_rfl
theorem X5 (n:Nat) (a:Addr) (w:World):(nilAhead (n+1) 149 (.pointer (some a)) "chartroom/record.number").run Tryz.prog w=.ok (some false) w:=by kernel_rfl
theorem Uw (n:Nat) (a:Addr) (w:World):(nilAhead (n+1) 149 (.pointer (some a)) "chartroom/record.text").run Tryz.prog w=.ok (some false) w:=by kernel_rfl
def iOf:Value→Nat|.int _ n=>n.toNat|_=>0
structure Vs (w0 w:World) (br bt:Nat) (r:Rc) (bad:Bool):Prop where
 os:w.os=w0.os
 tape:w.tape=w0.tape
 output:w.output=w0.output
 size:w0.heap.size<w.heap.size
 hr:w.heap[br]?=some (.cells (recC r) 33 (0,0))
 ht:w.heap[bt]?=some (.cells #[.bool bad] 151 (0,0))
 ha:w.heap[w0.heap.size]?=some (.cells #[.pointer (some ⟨br,4,none⟩),.pointer (some ⟨br,5,none⟩),.pointer (some ⟨br,6,none⟩),.pointer (some ⟨br,7,none⟩),.pointer (some ⟨br,8,none⟩),.pointer (some ⟨br,9,none⟩)] 190 (0,0))
 block:∀k,k<w0.heap.size→k≠br→k≠bt→w.heap[k]?=w0.heap[k]?
theorem Vs.drew {w0 w:World}{br bt:Nat}{r:Rc}{bad:Bool} (h:Vs w0 w br bt r bad):Vs w0 w.drew br bt r bad:=⟨h.os,h.tape,h.output,h.size,h.hr,h.ht,h.ha,h.block⟩
theorem Vs.num {w0 w w':World}{br bt:Nat}{r r':Rc}{bad:Bool} (h:Vs w0 w br bt r bad) (hlr:br<w0.heap.size) (hlt:bt<w0.heap.size) (hne:br≠bt) {us:Array Value} (hw:Wr w w' br us 33) (hu:us=recC r'):Vs w0 w' br bt r' bad:=⟨hw.os.trans h.os,hw.tape.trans h.tape,hw.output.trans h.output,by rw[hw.size];exact h.size,by rw[hw.here,hu],(hw.block bt (Ne.symm hne)).trans h.ht,(hw.block _ (by omega)).trans h.ha,fun k h1 h2 h3=>(hw.block k h2).trans (h.block k h1 h2 h3)⟩
theorem Vs.tak {w0 w w':World}{br bt:Nat}{r:Rc}{bad bad':Bool} (h:Vs w0 w br bt r bad) (hlr:br<w0.heap.size) (hlt:bt<w0.heap.size) (hne:br≠bt) (hw:Wr w w' bt #[.bool bad'] 151):Vs w0 w' br bt r bad':=⟨hw.os.trans h.os,hw.tape.trans h.tape,hw.output.trans h.output,by rw[hw.size];exact h.size,(hw.block br hne).trans h.hr,hw.here,(hw.block _ (by omega)).trans h.ha,fun k h1 h2 h3=>(hw.block k h3).trans (h.block k h1 h2 h3)⟩
theorem Mi (r:Rc) (bad:Bool) (ps:List Nat) (hps:∀q∈ps,q<8) (hlen:ps.length≤8) (w:World) (br bt:Nat) (hne:br≠bt) (hlr:br<w.heap.size) (hlt:bt<w.heap.size) (A:Option Addr) (c:Nat) (hc:ps.length≤c) (hA:0<ps.length→∃b o,A=some ⟨b,o,none⟩∧b≠br∧b≠bt∧b<w.heap.size∧∀i (h:i<ps.length),w.cell? ⟨b,o+i,none⟩=some (.int .u8 ps[i])) (h1:w.heap[br]?=some (.cells (recC r) 33 (0,0))) (h2:w.heap[bt]?=some (.cells #[.bool bad] 151 (0,0))):Calls Tryz.prog 89 #[.pointer (some ⟨br,0,none⟩),.iface 149 (.pointer (some ⟨bt,0,none⟩)),.slice A ps.length c] w fun e w'=>e=.returned (.tuple #[])∧Vs w w' br bt (rG ps ({r with p:=0,i:=0,s:=0},bad)).1 (rG ps ({r with p:=0,i:=0,s:=0},bad)).2:=by
 go_enter Tryz.func89,Tryz.ntmps89;go_wp2;go_region;have hv0:Vs w ((w.alloc (Obj.cells #[.pointer (some ⟨br,4,none⟩),.pointer (some ⟨br,5,none⟩),.pointer (some ⟨br,6,none⟩),.pointer (some ⟨br,7,none⟩),.pointer (some ⟨br,8,none⟩),.pointer (some ⟨br,9,none⟩)] 190)).drew) br bt r bad:=by
  have g:∀k,k<w.heap.size→((w.alloc (Obj.cells #[.pointer (some ⟨br,4,none⟩),.pointer (some ⟨br,5,none⟩),.pointer (some ⟨br,6,none⟩),.pointer (some ⟨br,7,none⟩),.pointer (some ⟨br,8,none⟩),.pointer (some ⟨br,9,none⟩)] 190)).drew).heap[k]?=w.heap[k]?:=fun k hk=>by show(w.heap.push _)[k]?=_;rw[Array.getElem?_push,if_neg (by omega)]
  refine⟨rfl,rfl,rfl,?_,(g br hlr).trans h1,(g bt hlt).trans h2,?_,fun k hk _ _=>g k hk⟩;·show w.heap.size<(w.heap.push _).size;simp
  ·show(w.heap.push _)[w.heap.size]?=_;simp
 generalize((w.alloc (Obj.cells #[.pointer (some ⟨br,4,none⟩),.pointer (some ⟨br,5,none⟩),.pointer (some ⟨br,6,none⟩),.pointer (some ⟨br,7,none⟩),.pointer (some ⟨br,8,none⟩),.pointer (some ⟨br,9,none⟩)] 190)).drew)=W0 at hv0 ⊢;go_wp2;go_region;replace hv0:=hv0.drew;generalize W0.drew=W1 at hv0 ⊢;go_wp2;have j0:=Ux;have j1:=Yb;have j2:=Xj;have j3:=JV;refine wp_loop_rounds 4 ?_;rw[rounds_succ];go_wp2_with(go_at_call 184;refine(fE _ br 1 r.p (recC r) _ _ hv0.hr rfl).mono ?_);rintro e W2 ⟨rfl,hw⟩;replace hv0:=hv0.num hlr hlt hne hw (r':={r with p:=0}) rfl;clear hw;go_wp2;rw[rounds_succ];go_wp2_with(go_at_call 184;refine(fE _ br 2 r.i _ _ _ hv0.hr rfl).mono ?_);rintro e W3 ⟨rfl,hw⟩;replace hv0:=hv0.num hlr hlt hne hw (r':={r with p:=0,i:=0}) rfl;clear hw;go_wp2;rw[rounds_succ];go_wp2_with(go_at_call 184;refine(fE _ br 3 r.s _ _ _ hv0.hr rfl).mono ?_);rintro e W4 ⟨rfl,hw⟩;replace hv0:=hv0.num hlr hlt hne hw (r':={r with p:=0,i:=0,s:=0}) rfl;clear hw;go_wp2;rw[rounds_succ];go_wp2;clear j0 j1 j2;go_loopw[49] (fun vi wr=>∃(i:Nat) (x:Rc×Bool),i≤ps.length∧vi=.int .i64 i∧Vs w wr br bt x.1 x.2∧rG (ps.drop i) x=rG ps ({r with p:=0,i:=0,s:=0},bad)) (fun vi _=>ps.length-iOf vi);case atStart=>exact⟨0,({r with p:=0,i:=0,s:=0},bad),by omega,rfl,hv0,rfl⟩
 case round=>
  obtain⟨i,⟨x,bx⟩,hi,rfl,hv,hvis⟩:=hrel;by_cases hlt':i<ps.length
  ·have hli:(i:Int)<(ps.length:Int):=by omega
   obtain⟨b,o,rfl,hb1,hb2,hb3,hcell⟩:=hA (by omega);have hq:=hps _ (List.getElem_mem hlt');have hcc:=hcell i hlt';have hcw:wr.cell? ⟨b,o+i,none⟩=some (.int .u8 ps[i]):=by rw[←hcc];unfold World.cell?;rw[hv.block b hb3 hb1 hb2]
   rw[List.drop_eq_getElem_cons hlt']at hvis;clear hcc hcell hv0 hps;revert hvis hcw hq;generalize ps[i]=q;intro hvis hcw hq;have hq8:q=0∨q=1∨q=2∨q=3∨q=4∨q=5∨q=6∨q=7:=by omega
   have hme:ps.length-iOf (.int .i64 ((i+1:Nat):Int))<ps.length-iOf (.int .i64 (i:Int)):=by show ps.length-(((i+1:Nat):Int)).toNat<ps.length-((i:Int)).toNat;omega
   have k1:=JV;have k2:=X5;have k3:=UY;have k4:=Uw;rcases hq8 with rfl|rfl|rfl|rfl|rfl|rfl|rfl|rfl
   ·have hp:wr.cell? ⟨w.heap.size,0,none⟩=some (.pointer (some ⟨br,4,none⟩)):=by rw[Lib.cell_of_heap hv.ha];rfl
    go_wp2;go_region_with(go_at_call 184;refine(fE _ br 4 x.e _ _ _ hv.drew.hr rfl).mono ?_;rintro e W2 ⟨rfl,hw⟩);all_goals replace hv:=hv.drew.num hlr hlt hne hw (r':=uO 0 x) rfl;go_wp2;refine⟨⟨i+1,(_,_),hlt',congrArg (Value.int .i64) (by omega),hv,hvis⟩,hme⟩
   ·have hp:wr.cell? ⟨w.heap.size,1,none⟩=some (.pointer (some ⟨br,5,none⟩)):=by rw[Lib.cell_of_heap hv.ha];rfl
    go_wp2;go_region_with(go_at_call 184;refine(fE _ br 5 x.u _ _ _ hv.drew.hr rfl).mono ?_;rintro e W2 ⟨rfl,hw⟩);all_goals replace hv:=hv.drew.num hlr hlt hne hw (r':=uO 1 x) rfl;go_wp2;refine⟨⟨i+1,(_,_),hlt',congrArg (Value.int .i64) (by omega),hv,hvis⟩,hme⟩
   ·have hp:wr.cell? ⟨w.heap.size,2,none⟩=some (.pointer (some ⟨br,6,none⟩)):=by rw[Lib.cell_of_heap hv.ha];rfl
    go_wp2;go_region_with(go_at_call 184;refine(fE _ br 6 x.v _ _ _ hv.drew.hr rfl).mono ?_;rintro e W2 ⟨rfl,hw⟩);all_goals replace hv:=hv.drew.num hlr hlt hne hw (r':=uO 2 x) rfl;go_wp2;refine⟨⟨i+1,(_,_),hlt',congrArg (Value.int .i64) (by omega),hv,hvis⟩,hme⟩
   ·have hp:wr.cell? ⟨w.heap.size,3,none⟩=some (.pointer (some ⟨br,7,none⟩)):=by rw[Lib.cell_of_heap hv.ha];rfl
    go_wp2;go_region_with(go_at_call 184;refine(fE _ br 7 x.c _ _ _ hv.drew.hr rfl).mono ?_;rintro e W2 ⟨rfl,hw⟩);all_goals replace hv:=hv.drew.num hlr hlt hne hw (r':=uO 3 x) rfl;go_wp2;refine⟨⟨i+1,(_,_),hlt',congrArg (Value.int .i64) (by omega),hv,hvis⟩,hme⟩
   ·have hp:wr.cell? ⟨w.heap.size,4,none⟩=some (.pointer (some ⟨br,8,none⟩)):=by rw[Lib.cell_of_heap hv.ha];rfl
    go_wp2;go_region_with(go_at_call 184;refine(fE _ br 8 x.z _ _ _ hv.drew.hr rfl).mono ?_;rintro e W2 ⟨rfl,hw⟩);all_goals replace hv:=hv.drew.num hlr hlt hne hw (r':=uO 4 x) rfl;go_wp2;refine⟨⟨i+1,(_,_),hlt',congrArg (Value.int .i64) (by omega),hv,hvis⟩,hme⟩
   ·have hp:wr.cell? ⟨w.heap.size,5,none⟩=some (.pointer (some ⟨br,9,none⟩)):=by rw[Lib.cell_of_heap hv.ha];rfl
    go_wp2;go_region_with(go_at_call 184;refine(fE _ br 9 x.m _ _ _ hv.drew.hr rfl).mono ?_;rintro e W2 ⟨rfl,hw⟩);all_goals replace hv:=hv.drew.num hlr hlt hne hw (r':=uO 5 x) rfl;go_wp2;refine⟨⟨i+1,(_,_),hlt',congrArg (Value.int .i64) (by omega),hv,hvis⟩,hme⟩
   ·go_wp2;go_region_with(go_at_call 185;refine(yA br 10 bt x.n bx _ _ _ _ hne hv.drew.hr rfl hv.drew.ht).mono ?_;rintro e W2 ⟨rfl,W3,hw,hw2⟩);all_goals replace hv:=(hv.drew.tak hlr hlt hne hw).num hlr hlt hne hw2 (r':=uO 6 x) rfl;go_wp2;refine⟨⟨i+1,(_,_),hlt',congrArg (Value.int .i64) (by omega),hv,hvis⟩,hme⟩
   ·go_wp2;go_region_with(go_at_call 185;refine(yA br 11 bt x.t bx _ _ _ _ hne hv.drew.hr rfl hv.drew.ht).mono ?_;rintro e W2 ⟨rfl,W3,hw,hw2⟩);all_goals replace hv:=(hv.drew.tak hlr hlt hne hw).num hlr hlt hne hw2 (r':=uO 7 x) rfl;go_wp2;refine⟨⟨i+1,(_,_),hlt',congrArg (Value.int .i64) (by omega),hv,hvis⟩,hme⟩
  ·have hia:i=ps.length:=by omega
   subst hia;rw[List.drop_eq_nil_of_le (Nat.le_refl ps.length)]at hvis;go_wp2;refine⟨rfl,_,by kernel_rfl,rfl,?_⟩;rw[←hvis];exact hv
def gr (l:List Int):PV:=.ro (l.map fun n=>[.int .u8 n])
def jZ:List (PV×PV):=[(.int .u8 1,gr [0,1]),(.int .u8 2,gr [0,1]),(.int .u8 3,gr [0]),(.int .u8 4,gr [0,2,4,5]),(.int .u8 5,gr [2,1]),(.int .u8 6,gr [2]),(.int .u8 7,gr []),(.int .u8 8,gr [3]),(.int .u8 9,gr [6]),(.int .u8 10,gr [6]),(.int .u8 11,gr [6,7])]
def Bd:List AV→Option (Prop×AV)|[]=>some (True,.pv (.mv jZ))|_=>none
@[simp] theorem RL:Bd []=some (True,.pv (.mv jZ)):=rfl
theorem IQ:aO Tryz.prog 88 Bd:=by
 intro ys φ r h hφ;unfold Bd at h;split at h;·cases h;refine aw ah (by kernel_rfl) (by conv=>lhs;reduce) (by simp) ?_;simp(config := { maxSteps := 3000000 }) [jZ,gr]
 ·cases h
end Go.Proofs.YtlmkcmfmfahcfaaGreat.Ab
