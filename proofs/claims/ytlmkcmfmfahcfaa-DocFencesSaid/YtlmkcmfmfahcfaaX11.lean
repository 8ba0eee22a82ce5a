/- Chapter 14: several numbers read, as the program and the reference do it. -/
import Derived.Test.YtlmkcmfmfahcfaaX10
import Derived.Sort.Defs
set_option linter.unusedVariables false
set_option linter.unusedSimpArgs false
set_option linter.unnecessarySimpa false
set_option maxHeartbeats 40000000
set_option maxRecDepth 100000
namespace Go.Proofs.Ytlmkcmfmfahcfaa.Ab
open Go Go.RowKit R
def ec (b:List UInt8):Nat→Int→List Int×Int×Int|0,p=>([],p,0)|k+1,p=>if(cL b p).2.2≠0 then([],0,(cL b p).2.2) else if(ec b k (cL b p).2.1).2.2≠0 then([],0,(ec b k (cL b p).2.1).2.2) else((cL b p).1::(ec b k (cL b p).2.1).1,(ec b k (cL b p).2.1).2.1,0)
def BG (b:List UInt8) (p:Int) (k:Nat):List Int×Int×Int:=if(ec b k p).2.2≠0 then([],p,(ec b k p).2.2) else ec b k p
def ahead (L:List Int) (q:List Int×Int×Int):List Int×Int×Int:=if q.2.2≠0 then([],0,q.2.2) else(L++q.1,q.2.1,0)
@[simp] noncomputable def Xu:List AV→Option (Prop×AV)|[.pv (.ro b),.pv (.int .i64 p),.pv (.int .i64 k)]=>(dec lQ b).map fun l=>(l.length≤1000000000∧-9223372036854775808≤p∧p≤9223372036854775807∧0≤k∧k≤1000,.aC [.fr 23 (cj (BG l p k.toNat).1),.pv (.int .i64 (BG l p k.toNat).2.1),.pv (.int .i64 (BG l p k.toNat).2.2)])|_=>none
def VQ:List Int→Pn|[a,b,c]=>⟨a,b,c⟩|_=>⟨0,0,0⟩
def jZ (b:List UInt8):Nat→Int→Int→List Pn×Int×Int|0,_,q=>([],q,0)|f+1,n,q=>if n≤0 then([],q,0) else if(ec b 3 q).2.2≠0 then([],0,(ec b 3 q).2.2) else if(jZ b f (n-1) (ec b 3 q).2.1).2.2≠0 then([],0,(jZ b f (n-1) (ec b 3 q).2.1).2.2) else(VQ (ec b 3 q).1::(jZ b f (n-1) (ec b 3 q).2.1).1,(jZ b f (n-1) (ec b 3 q).2.1).2.1,0)
def su (b:List UInt8) (p:Int):List Pn×Int×Int:=if(cL b p).2.2≠0 then([],p,(cL b p).2.2) else if(jZ b (b.length+1) (cL b p).1 (cL b p).2.1).2.2≠0 then([],p,(jZ b (b.length+1) (cL b p).1 (cL b p).2.1).2.2) else if ml (jZ b (b.length+1) (cL b p).1 (cL b p).2.1).1=false then([],p,2) else jZ b (b.length+1) (cL b p).1 (cL b p).2.1
@[simp] noncomputable def Xd:List AV→Option (Prop×AV)|[.pv (.ro b),.pv (.int .i64 p)]=>(dec lQ b).map fun l=>(l.length≤100000000∧-9223372036854775808≤p∧p≤9223372036854775807,.aC [.fr 100 (aG (su l p).1),.pv (.int .i64 (su l p).2.1),.pv (.int .i64 (su l p).2.2)])|_=>none
@[simp] noncomputable def Xp:List AV→Option (Prop×AV)|[.pv (.ro b),.pv (.int .i64 p)]=>(dec lQ b).map fun l=>(l.length≤100000000∧-9223372036854775808≤p∧p≤9223372036854775807,.aC [.agg [.fr 86 (aG (su l p).1)],.pv (.int .i64 (su l p).2.1),.pv (.int .i64 (su l p).2.2)])|_=>none
def nz (n u s:Int):Bool:=decide (u+s<n)
@[simp] noncomputable def FW:List AV→Option (Prop×AV)|[.pv (.int .u64 n),.pv (.int .u64 u),.pv (.int .u64 s)]=>some (dA n∧dA u∧dA s,.pv (.bool (nz n u s)))|_=>none
theorem Ga:cf Try.prog 69 FW:=by
 intro ys φ r h hφ;unfold FW at h;split at h
 ·rename_i n u s;cases h;obtain⟨⟨n1,n2⟩,⟨u1,u2⟩,⟨s1,s2⟩⟩:=hφ;refine aP aq (by kernel_rfl) fn69 (by simp) ?_;unfold body69;unfold nz;by_cases hc:u+s<18446744073709551616
  ·have e1:(u+s)/18446744073709551616=0:=by omega
   have e2:(u+s)%18446744073709551616=u+s:=by omega
   simp(config := { maxSteps := 3000000 }) [e1,e2,u1,s1]
  ·have e1:(u+s)/18446744073709551616=1:=by omega
   have e2:¬(u+s<n):=by omega
   simp(config := { maxSteps := 3000000 }) [e1,e2,u1,s1]
 ·cases h
@[simp] noncomputable def Nv:List AV→Option (Prop×AV)|[.agg [.pv (.int .u64 a),.pv (.int .u64 b),.pv (.int .u64 c)],.rp [.int .u64 n],.rp [.int .u64 s]]=>some (dA n∧dA c∧dA s,.pv (.bool (nz n c s)))|_=>none
theorem FY:cf Try.prog 68 Nv:=by
 intro ys φ r h hφ;unfold Nv at h;split at h;·cases h;obtain⟨h1,h2,h3⟩:=hφ;refine aP (ak Ga aq) (by kernel_rfl) fn68 (by simp) ?_;unfold body68;simp(config := { maxSteps := 3000000 }) [h1,h2,h3]
 ·cases h
theorem yR:fy Try.prog 68=true:=by kernel_rfl
def gv (n s:Int) (e:Pn):Bool:=nz n e.u s
@[simp] noncomputable def Pt:List AV→Option (Prop×AV)|[.pv (.ro a),.bk f [.rp [.int .u64 n],.rp [.int .u64 s]]]=>if f=68 then(dec rowP a).map fun l=>(l.length≤1000000000∧dA n∧dA s∧∀e∈l,dA e.u,.pv (.int .i64 (lk (gv n s) l))) else none|_=>none
theorem Of:cf Try.prog 65 Pt:=by
 intro ys φ r h hφ;unfold Pt at h;split at h
 ·rename_i ra f n s;split at h
  ·rename_i hf;subst hf;obtain⟨a,ha,h⟩:=Option.map_eq_some_iff.1 h;cases h;cases aS ha;obtain⟨hl,o1,o2,o3⟩:=hφ;have hfn:=yR;refine aP (ak FY aq) (by kernel_rfl) fn65 (by simp) ?_;unfold body65;simp(config := { maxSteps := 3000000 });refine aD (fun i:Nat=>i≤a.length∧∀e∈a.take i,gv n s e=false) (fun i=>⟨[(0,.pv (.ro (aG a))),(1,.bk 68 [.rp [.int .u64 n],.rp [.int .u64 s]]),(7,.pv (.int .i64 a.length)),(8,.pv (.int .i64 i))],[]⟩) (fun i=>a.length-i) [] 0 (by simp) ?_ ?_;·simp
   ·rintro i ⟨hi,ht⟩;have w2:IntKind.i64.wrap ((i:Int)+1)=(i:Int)+1:=wrap_i64 (by omega);by_cases hlt:i<a.length
    ·have r1:=dX hlt;have o4:dA a[i].u:=o3 _ (List.getElem_mem hlt);have hr:gv n s a[i]=false→∀e∈a.take (i+1),gv n s e=false:=by
      intro h0 e he;rw[List.take_succ_eq_append_getElem hlt,List.mem_append]at he;rcases he with he|he;·exact ht e he
      ·rw[List.mem_singleton]at he;rw[he];exact h0
     by_cases hp:gv n s a[i]=true;·have hp':nz n a[i].u s=true:=hp;simp(config := { maxSteps := 3000000 }) [w2,hlt,r1,hfn,o1,o2,o4,hp'];exact(tA hlt hp ht).symm
     ·have hp0:gv n s a[i]=false:=by simpa using hp
      have hp':nz n a[i].u s=false:=hp0;simp(config := { maxSteps := 3000000 }) [w2,hlt,r1,hfn,o1,o2,o4,hp'];exact⟨i+1,⟨by omega,hr hp0⟩,by omega,by omega⟩
    ·simp(config := { maxSteps := 3000000 }) [hlt];rw[List.take_of_length_le (by omega)]at ht;exact(iy ht).symm
  ·cases h
 ·cases h
theorem vc {p:Pn→Bool}{l:List Pn}{k:Nat} (h:lk p l=(k:Int)):k<l.length∧(l.take (k+1)).filter (fun e=>!p e)=l.take k:=by
 unfold lk at h;split at h
 ·rename_i hlt;have hk:l.findIdx p=k:=by omega
  rw[hk]at hlt;refine⟨hlt,?_⟩;obtain⟨h1,h2⟩:=(List.findIdx_eq hlt).1 hk;rw[List.take_succ_eq_append_getElem hlt,List.filter_append];have hf:(l.take k).filter (fun e=>!p e)=l.take k:=by rw[List.filter_eq_self];intro e he;rw[List.mem_take_iff_getElem]at he;obtain⟨j,hj,rfl⟩:=he;have:=h2 j (by omega);simpa using this
  rw[hf];simp[h1]
 ·omega
theorem sT (l:List Pn) (i:Nat) (e:Pn):(aG l).set i [.int .u64 e.i,.int .u64 e.v,.int .u64 e.u]=aG (l.set i e):=by unfold aG;rw[List.map_set];rfl
def fp (l:List Pn) (n s:Int):List Pn:=l.filter fun e=>!gv n s e
@[simp] noncomputable def Fa:List AV→Option (Prop×AV)|[.fr e a,.bk f [.rp [.int .u64 n],.rp [.int .u64 s]]]=>if e=86∧f=68 then(dec rowP a).map fun l=>(l.length≤1000000∧dA n∧dA s∧∀e∈l,dA e.u,.fr 86 (aG (fp l n s))) else none|_=>none
theorem GP:sU Try.prog 70 Fa:=by
 intro ys φ r h hφ;unfold Fa at h;split at h
 ·rename_i e ra f n s;split at h
  ·rename_i hef;obtain⟨rfl,rfl⟩:=hef;obtain⟨a,ha,h⟩:=Option.map_eq_some_iff.1 h;cases h;cases aS ha;obtain⟨hl6,o1,o2,o3⟩:=hφ;refine mz (ak Of (ak FY aq)) (by kernel_rfl) fn70 (by simp) (by simp[cr,ku,gW]) (by simp) ?_;unfold body70;have hl9:a.length≤1000000000:=by omega
   have isfn3:=yR;by_cases hr:a.any (gv n s)=true
   ·have hw:0≤lk (gv n s) a:=by rw[Cu];exact hr
    obtain⟨k,hk⟩:=Int.eq_ofNat_of_zero_le hw;obtain⟨hkl,hkf⟩:=vc hk;have hne:¬((k:Int)=-1):=by omega
    have w1:IntKind.i64.wrap ((k:Int)+1)=(k:Int)+1:=wrap_i64 (by omega);simp(config := { maxSteps := 3000000 }) [hk,hne,w1,hl9,o1,o2];refine⟨o3,?_⟩;refine aD (fun x:Nat×Nat×List Pn=>x.1<x.2.1∧x.2.1≤a.length∧x.2.2.length=a.length∧x.2.2.take x.1=(a.take x.2.1).filter (fun e=>!gv n s e)∧x.2.2.drop x.2.1=a.drop x.2.1) (fun x=>⟨[(0,.own 998),(1,.bk 68 [.rp [.int .u64 n],.rp [.int .u64 s]]),(5,.pv (.int .i64 x.1)),(6,.pv (.int .i64 x.2.1))],[(998,.arr 86 (aG x.2.2))]⟩) (fun x=>a.length-x.2.1) [] (k,k+1,a) ?_ ?_ ?_;·exact⟨by simp,by simp;omega,rfl,by simp[hkf],rfl⟩
    ·simp
    ·rintro⟨i,j,b⟩ ⟨h1,h2,h3,h4,h5⟩;dsimp only at h1 h2 h3 h4 h5;have w2:IntKind.i64.wrap ((j:Int)+1)=(j:Int)+1:=wrap_i64 (by omega);have w3:IntKind.i64.wrap ((i:Int)+1)=(i:Int)+1:=wrap_i64 (by omega);by_cases hlt:j<a.length
     ·have hjb:j<b.length:=by omega
      have hib:i<b.length:=by omega
      have o4:dA a[j].u:=o3 _ (List.getElem_mem hlt);have hbj:b[j]=a[j]:=by have e1:=List.drop_eq_getElem_cons hjb;have e2:=List.drop_eq_getElem_cons hlt;rw[h5,e2]at e1;injection e1 with e1 _;exact e1.symm
      have r1:=dX hjb;rw[hbj]at r1;have r2:=dX hib;have hib':(i:Int)<a.length:=by omega
      have hdrop:∀e,(b.set i e).drop (j+1)=a.drop (j+1):=by
       intro e;rw[List.drop_set_of_lt (by omega)];have e1:(b.drop j).drop 1=(a.drop j).drop 1:=by rw[h5]
       simpa[List.drop_drop]using e1
      by_cases hq:gv n s a[j]=true
      ·have hq':nz n a[j].u s=true:=hq;simp(config := { maxSteps := 3000000 }) [w2,w3,hlt,hjb,r1,r2,h3,hq',sT,hib',o1,o2,o4,isfn3];refine⟨i,j+1,b,⟨by omega,by omega,h3,?_,?_⟩,⟨⟨rfl,by omega⟩,rfl⟩,by omega⟩;·rw[List.take_succ_eq_append_getElem hlt,List.filter_append,←h4];simp[hq]
       ·have e1:(b.drop j).drop 1=(a.drop j).drop 1:=by rw[h5]
        simpa[List.drop_drop]using e1
      ·have hq0:gv n s a[j]=false:=by simpa using hq
       have hq':nz n a[j].u s=false:=hq0;simp(config := { maxSteps := 3000000 }) [w2,w3,hlt,hjb,r1,r2,h3,hq',sT,hib',o1,o2,o4,isfn3];refine⟨by omega,i+1,j+1,b.set i a[j],⟨by omega,by omega,by simp[h3],?_,hdrop _⟩,⟨⟨by omega,by omega⟩,rfl⟩,by omega⟩;rw[List.take_succ_eq_append_getElem hlt,List.filter_append,←h4,List.take_succ_eq_append_getElem (by simp;omega)];simp[hq0,List.take_set_of_le]
     ·simp(config := { maxSteps := 3000000 }) [hlt,h3];have hja:j=a.length:=by omega
      subst hja;rw[List.take_length]at h4;have h3r:=fb b;refine⟨⟨by omega,h3r⟩,⟨by omega,?_⟩,?_⟩
      ·rintro x (hx|⟨_,rfl⟩|hx);·exact h3r x (List.mem_of_mem_take hx)
       ·rfl
       ·exact h3r x (List.mem_of_mem_drop hx)
      ·rw[List.take_append_of_le_length (by simp;omega),List.take_take,Nat.min_self];unfold fp;rw[←h4];simp[aG,List.map_take]
   ·have hw:lk (gv n s) a=-1:=by apply iy;have:=hr;simp only[List.any_eq_true,not_exists,not_and]at this;intro e he;simpa using this e he
    have hfil:fp a n s=a:=by unfold fp;rw[List.filter_eq_self];intro e he;have:=hr;simp only[List.any_eq_true,not_exists,not_and]at this;simpa using this e he
    simp(config := { maxSteps := 3000000 }) [hw,hfil,hl9,o1,o2];exact o3
  ·cases h
 ·cases h
@[simp] noncomputable def Cm:List AV→Option (Prop×AV)|[.agg [.pv (.ro a)],.pv (.int .u64 n),.pv (.int .u64 s)]=>(dec rowP a).map fun l=>(l.length≤1000000∧dA n∧dA s∧∀e∈l,dA e.u,.agg [.fr 86 (aG (fp l n s))])|_=>none
theorem Ip:cf Try.prog 55 Cm:=by
 intro ys φ r h hφ;unfold Cm at h;split at h
 ·rename_i ra n s;obtain⟨a,ha,h⟩:=Option.map_eq_some_iff.1 h;cases h;cases aS ha;obtain⟨hl6,o1,o2,o3⟩:=hφ;have hl8:a.length≤100000000:=by omega
  refine aP (ak oW (ij (p:=0) (k:=998) GP (by kernel_rfl) aq)) (by kernel_rfl) fn55 (by simp) ?_;unfold body55;simp(config := { maxSteps := 3000000 }) [hl6,hl8,o1,o2];exact⟨o3,bQ _⟩
 ·cases h
@[simp] noncomputable def Vv:List AV→Option (Prop×AV)|[.pv (.ro a),.pv (.int .u64 n),.pv (.int .u64 s)]=>(dec rowP a).map fun l=>(l.length≤1000000∧dA n∧dA s∧∀e∈l,dA e.u,.fr 100 (aG (fp l n s)))|_=>none
def rI (l:List Pn) (e:Pn):List Pn×Int:=if ml (l++[e])=true then(l++[e],0) else([],2)
@[simp] noncomputable def F6:List AV→Option (Prop×AV)|[.agg [.pv (.ro a)],.agg [.pv (.int .u64 x),.pv (.int .u64 y),.pv (.int .u64 z)]]=>(dec rowP a).map fun l=>(l.length≤1000000,.aC [.agg [.fr 86 (aG (rI l ⟨x,y,z⟩).1)],.pv (.int .i64 (rI l ⟨x,y,z⟩).2)])|_=>none
theorem IQ:cf Try.prog 53 F6:=by
 intro ys φ r h hφ;unfold F6 at h;split at h
 ·rename_i ra x y z;obtain⟨a,ha,h⟩:=Option.map_eq_some_iff.1 h;cases h;cases aS ha;have hl8:a.length≤100000000:=by omega
  have hinf:(Try.prog.info? 86).isSome=true:=by kernel_rfl
  have hap:aG a++[[PV.int .u64 x,.int .u64 y,.int .u64 z]]=aG (a++[⟨x,y,z⟩]):=by rw[mi];rfl
  refine aP (ak oW (ak Bf aq)) (by kernel_rfl) fn53 (by simp) ?_;unfold body53;unfold rI;by_cases hr:ml (a++[⟨x,y,z⟩])=true;·simp(config := { maxSteps := 3000000 }) [hl8,hr,hap,hinf,cz];exact⟨⟨by omega,by omega⟩,by omega⟩
  ·simp(config := { maxSteps := 3000000 }) [hl8,hr,hap,hinf,cz];exact⟨⟨by omega,by omega⟩,by omega⟩
 ·cases h
@[simp] noncomputable def Wm:List AV→Option (Prop×AV)|[.pv (.ro a),.agg [.pv (.int .u64 x),.pv (.int .u64 y),.pv (.int .u64 z)]]=>(dec rowP a).map fun l=>(l.length≤1000000,.aC [.fr 100 (aG (rI l ⟨x,y,z⟩).1),.pv (.int .i64 (rI l ⟨x,y,z⟩).2)])|_=>none
def qY (n:Int):List Pn→List Pn|[]=>[]|e::l=>if e.i=n then l else e::qY n l
def uO (l:List Pn) (n:Int):Bool:=l.any fun e=>decide (e.i=n)
def rf (l:List Pn) (n:Int):List Pn×Int:=if uO l n=true then(qY n l,0) else([],80)
theorem vk (n:Int):∀l:List Pn,uO l n=true→∃k:Nat,lk (fun e=>decide (e.i=n)) l=(k:Int)∧k<l.length∧qY n l=l.take k++l.drop (k+1)
 |[],h=>by simp[uO]at h|x::l,h=>by
  by_cases hx:x.i=n;·refine⟨0,?_,by simp,by simp[qY,hx]⟩;exact tA (i:=0) (by simp) (by simpa using hx) (by simp)
  ·have h':uO l n=true:=by simpa[uO,hx]using h
   obtain⟨k,h1,h2,h3⟩:=vk n l h';refine⟨k+1,?_,by simp;omega,by simp[qY,hx,h3]⟩;unfold lk at h1 ⊢;split at h1
   ·rename_i hlt;have hf:(x::l).findIdx (fun e=>decide (e.i=n))=l.findIdx (fun e=>decide (e.i=n))+1:=by rw[List.findIdx_cons];simp[hx]
    rw[hf,if_pos (by rw[List.length_cons];omega)];omega
   ·omega
@[simp] noncomputable def EZ:List AV→Option (Prop×AV)|[.pv .nil,.pv (.int .i64 n)]=>some (0≤n∧n≤1000000,.fr 86 [])|_=>none
theorem IS:sU Try.prog 78 EZ:=by
 intro ys φ r h hφ;unfold EZ at h;split at h
 ·rename_i n;cases h;obtain⟨h1,h2⟩:=hφ;have hinf:(Try.prog.info? 86).isSome=true:=by kernel_rfl
  have w0:IntKind.i64.wrap 0=0:=wrap_i64 (by omega);have w1:IntKind.i64.wrap n=n:=wrap_i64 (by omega);refine mz aq (by kernel_rfl) fn78 (by simp) (by simp[cr,ku,gW]) (by simp) ?_;unfold body78;have hn0:¬n<0:=by omega
  by_cases h0:0<n;·simp(config := { maxSteps := 3000000 }) [hn0,h0,w0,w1,hinf];exact⟨h1,by omega,by omega⟩
  ·simp(config := { maxSteps := 3000000 }) [hn0,h0,w0,w1,hinf]
 ·cases h
@[simp] noncomputable def RE:List AV→Option (Prop×AV)|[.pv (.ro [[.ro a],[.ro b]])]=>(dec rowP a).bind fun la=>(dec rowP b).map fun lb=>(la.length≤100000∧lb.length≤100000,.fr 86 (aG (la++lb)))|_=>none
theorem PN:cf Try.prog 67 RE:=by
 intro ys φ r h hφ;unfold RE at h;split at h
 ·rename_i ra rb;obtain⟨a,ha,h⟩:=Option.bind_eq_some_iff.1 h;obtain⟨b,hb,h⟩:=Option.map_eq_some_iff.1 h;cases h;cases aS ha;cases aS hb;obtain⟨hla,hlb⟩:=hφ;have h3a:=fb a;have h3b:=fb b;have w1:IntKind.i64.wrap 1=1:=wrap_i64 (by omega);have w2:IntKind.i64.wrap 2=2:=wrap_i64 (by omega);have wa:IntKind.i64.wrap (a.length:Int)=a.length:=wrap_i64 (by omega);have wab:IntKind.i64.wrap ((a.length:Int)+(b.length:Int))=(a.length:Int)+(b.length:Int):=wrap_i64 (by omega);have r0:rowAt [[PV.ro (aG a)],[PV.ro (aG b)]] 0=[.ro (aG a)]:=rfl;have r1:rowAt [[PV.ro (aG a)],[PV.ro (aG b)]] 1=[.ro (aG b)]:=rfl;have ga:¬((a.length:Int)<0):=by omega
  have gab:¬((a.length:Int)+(b.length:Int)<0):=by omega
  have gc:(a.length:Int)+(b.length:Int)≤1000000:=by omega
  have gd:(0:Int)≤(a.length:Int)+(b.length:Int):=by omega
  refine aP (ij (p:=0) (k:=997) IS (by kernel_rfl) aq) (by kernel_rfl) fn67 (by simp) ?_;unfold body67;simp(config := { maxSteps := 3000000 });refine aD (fun i:Nat=>i=0∨i=1∨i=2) (fun i=>⟨[(0,.pv (.ro [[.ro (aG a)],[.ro (aG b)]])),(2,.own 2),(3,.pv (.int .i64 (if i=0 then 0 else if i=1 then(a.length:Int) else(a.length:Int)+(b.length:Int)))),(9,.pv (.ro [[.ro (aG a)],[.ro (aG b)]])),(10,.pv (.int .i64 2)),(11,.pv (.int .i64 i))],[(2,.arr 86 [])]⟩) (fun i=>2-i) [] 0 (by simp) ?_ ?_;·simp
  ·rintro i (rfl|rfl|rfl);·simp(config := { maxSteps := 3000000 }) [r0,wa,ga,w1]
   ·simp(config := { maxSteps := 3000000 }) [r1,wab,gab,w2]
   ·simp(config := { maxSteps := 3000000 }) [gc,gd];refine aD (fun i:Nat=>i=0∨i=1∨i=2) (fun i=>⟨[(0,.pv (.ro [[.ro (aG a)],[.ro (aG b)]])),(2,.own 2),(6,.own 24),(25,.pv (.ro [[.ro (aG a)],[.ro (aG b)]])),(26,.pv (.int .i64 2)),(27,.pv (.int .i64 i))],[(2,.arr 86 []),(24,.arr 86 (if i=0 then[] else if i=1 then aG a else aG (a++b)))]⟩) (fun i=>2-i) [] 0 (by simp) ?_ ?_;·simp
    ·rintro i (rfl|rfl|rfl);·simp(config := { maxSteps := 3000000 }) [r0,w1,cz];exact⟨by omega,by omega,h3a⟩
     ·simp(config := { maxSteps := 3000000 }) [r1,w2,cz];exact⟨⟨by omega,by omega,h3b⟩,(mi a b).symm⟩
     ·simp(config := { maxSteps := 3000000 })
 ·cases h
@[simp] noncomputable def EK:List AV→Option (Prop×AV)|[.agg [.pv (.ro a)],.pv (.int .u64 n)]=>(dec rowP a).map fun l=>(l.length≤100000,.aC [.agg [.fr 86 (aG (rf l n).1)],.pv (.int .i64 (rf l n).2)])|_=>none
theorem rY (l:List Pn) (i j:Int):cut (aG l) i j=aG ((l.take j.toNat).drop i.toNat):=by unfold cut aG;rw[List.map_drop,List.map_take]
theorem Iz:cf Try.prog 54 EK:=by
 intro ys φ r h hφ;unfold EK at h;split at h
 ·rename_i ra n;obtain⟨a,ha,h⟩:=Option.map_eq_some_iff.1 h;cases h;cases aS ha;have hl9:a.length≤1000000000:=by omega
  have hinf:(Try.prog.info? 86).isSome=true:=by kernel_rfl
  have h3:=fb a;have his:Kr 66 n=fun e=>decide (e.i=n):=by rfl
  refine aP (ak U7 (ak PN aq)) (by kernel_rfl) fn54 (by simp) ?_;unfold body54;unfold rf;by_cases hh:uO a n=true
  ·obtain⟨k,hk,hkl,hke⟩:=vk n a hh;have hn0:¬((k:Int)<0):=by omega
   have w1:IntKind.i64.wrap ((k:Int)+1)=(k:Int)+1:=wrap_i64 (by omega);have c1:cut (aG a) 0 (k:Int)=aG (a.take k):=by rw[rY];simp
   have c2:cut (aG a) ((k:Int)+1) (a.length:Int)=aG (a.drop (k+1)):=by rw[rY,show((k:Int)+1).toNat=k+1 from by omega];simp
   have hl1:(a.take k).length≤100000:=by rw[List.length_take];omega
   have hl2:(a.drop (k+1)).length≤100000:=by rw[List.length_drop];omega
   have hf:∀l,bE (aG l):=bQ;simp(config := { maxSteps := 3000000 }) [hh,hl9,his,hk,hn0,w1,c1,c2,hl1,hl2,hke,hf,hinf];exact⟨⟨by omega,h3⟩,⟨by omega,by omega,h3⟩,by omega,by omega⟩
  ·have hh':uO a n=false:=by simpa using hh
   have hk:lk (fun e=>decide (e.i=n)) a=-1:=by apply iy;intro e he;unfold uO at hh';rw[List.any_eq_false]at hh';simpa using hh' e he
   simp(config := { maxSteps := 3000000 }) [hh,hl9,his,hk,hinf]
 ·cases h
@[simp] noncomputable def WC:List AV→Option (Prop×AV)|[.pv (.ro a),.pv (.int .u64 n)]=>(dec rowP a).map fun l=>(l.length≤100000,.aC [.fr 100 (aG (rf l n).1),.pv (.int .i64 (rf l n).2)])|_=>none
def WG (l:List Pn) (n:Int):Bool:=l.any fun e=>decide (e.v=n)
@[simp] noncomputable def Xb:List AV→Option (Prop×AV)|[.agg [.pv (.ro a)],.pv (.int .u64 n)]=>(dec rowP a).map fun l=>(l.length≤1000000000,.pv (.bool (WG l n)))|_=>none
@[simp] noncomputable def Xa:List AV→Option (Prop×AV)|[.pv (.ro a),.pv (.int .u64 n)]=>(dec rowP a).map fun l=>(l.length≤1000000000,.pv (.bool (WG l n)))|_=>none
end Go.Proofs.Ytlmkcmfmfahcfaa.Ab
namespace Go.Proofs.Ytlmkcmfmfahcfaa.Ab
open Go Go.RowKit
section
variable{P:Program}{Γ:bp}
theorem au {α:Type}{o:Option α}{K K':α→Prop} (h:∀x,K x→K' x) (hs:ag o K):ag o K':=by cases o with|none=>exact hs|some x=>exact h x hs
theorem mA {d:Option Nat}{f:FuncId}{xs:List AV}{aa:Nat→Option AO}{C C':bh→Prop} (h:∀e,C e→C' e) (hs:bX P Γ d f xs aa C):bX P Γ d f xs aa C':=by unfold bX at hs ⊢;refine au (fun d hs=>⟨hs.1,au (fun ys hs=>au (fun x hs=>?_) hs) hs.2⟩) hs;exact⟨hs.1,hs.2.1,hs.2.2.1,hs.2.2.2.1,h _ hs.2.2.2.2⟩
theorem jV {i:AI}{K K':St→Prop} (h:∀st,K st→K' st) {st:St} (hs:ck P Γ i K st):ck P Γ i K' st:=by obtain⟨e,he,hk⟩:=bS.1 hs;exact bS.2 ⟨e,he,h _ hk⟩
theorem pM {i:AI}{f:FuncId}{K K':St→Prop} (h:∀st,K st→K' st) {st:St} (hs:jD P Γ i f K st):jD P Γ i f K' st:=by
 unfold jD at hs ⊢;refine au (fun ys hs=>au (fun x hs=>?_) hs) hs;split at hs;·rename_i hc;rw[if_pos hc];exact mA (fun e he=>h _ he) hs
 ·rename_i hc;rw[if_neg hc];exact jV h hs
theorem ln {b f:Bool}{A B A' B':Prop} (hA:A→A') (hB:B→B') (h:fo b f A B):fo b f A' B':=by cases b with|false=>exact hA h|true=>cases f with|false=>exact hA h|true=>exact hB h
theorem oR {i:AI}{K K':St→Prop} (h:∀st,K st→K' st) {st:St} (hs:bK P Γ i K st):bK P Γ i K' st:=by
 unfold bK at hs ⊢;split at hs;·exact jV h hs
 ·exact ln (jV h) (h _) hs
theorem nt {i:AI}{K K':St→Prop} (h:∀st,K st→K' st) {st:St} (hs:gR P Γ i K st):gR P Γ i K' st:=by
 have hE:∀{st:St}{d:Option Nat}{x:XK}{xs:List AV},aM d x xs K st→aM d x xs K' st:=by
  intro st d x xs hs;unfold aM at hs ⊢;split at hs;·exact au (fun d hs=>⟨hs.1,h _ hs.2⟩) hs
  ·exact⟨hs.1,au (fun es hs=>⟨hs.1,hs.2.1,hs.2.2.1,h _ hs.2.2.2⟩) hs.2⟩
  ·exact⟨hs.1,au (fun es hs=>⟨hs.1,hs.2.1,h _ hs.2.2⟩) hs.2⟩
  ·unfold nR at hs ⊢;split at hs;·exact⟨hs.1,hs.2.1,h _ hs.2.2⟩
   ·exact hs
  ·exact⟨hs.1,au (fun rows hs b hb=>h _ (hs b hb)) hs.2⟩
  ·exact⟨hs.1,h _ hs.2⟩
  ·unfold jG at hs ⊢;split at hs;·exact au (fun d hs=>⟨hs.1,hs.2.1,hs.2.2.1,h _ hs.2.2.2⟩) hs
   ·exact hs
  ·exact au (fun d hs=>⟨hs.1,hs.2.1,hs.2.2.1,h _ hs.2.2.2⟩) hs
  ·unfold vX at hs ⊢;split at hs;·exact au (fun d hs=>⟨hs.1,hs.2.1,hs.2.2.1,h _ hs.2.2.2⟩) hs
   ·exact hs
  ·exact⟨hs.1,hs.2.1,hs.2.2.1,hs.2.2.2.1,h _ hs.2.2.2.2⟩
  ·exact⟨hs.1,au (fun r hs=>⟨hs.1,h _ hs.2⟩) hs.2⟩
  ·unfold pj at hs ⊢;split at hs
   ·unfold rK at hs ⊢;split at hs;·exact⟨hs.1,au (fun r hs=>⟨hs.1,hs.2.1,h _ hs.2.2⟩) hs.2⟩
    ·exact hs
   ·unfold qW at hs ⊢;split at hs;·exact⟨hs.1,au (fun r hs=>au (fun j hs=>au (fun s hs=>au (fun ps hs=>h _ hs) hs) hs) hs) hs.2⟩
    ·exact hs
   ·exact au (fun d hs=>⟨hs.1,h _ hs.2⟩) hs
   ·unfold nY at hs ⊢;split at hs;·exact⟨hs.1,au (fun r hs=>⟨hs.1,hs.2.1,h _ hs.2.2⟩) hs.2⟩
    ·exact hs
   ·unfold sA at hs ⊢;split at hs;·exact⟨hs.1,au (fun r hs=>⟨hs.1,hs.2.1,hs.2.2.1,h _ hs.2.2.2⟩) hs.2⟩
    ·exact hs
   ·unfold s8 at hs ⊢;split at hs;·exact⟨hs.1,au (fun r hs=>⟨hs.1,hs.2.1,h _ hs.2.2⟩) hs.2⟩
    ·exact hs
   ·exact⟨hs.1,au (fun r hs=>h _ hs) hs.2⟩
   ·unfold rP at hs ⊢;split at hs;·exact au (fun d hs=>⟨hs.1,hs.2.1,h _ hs.2.2⟩) hs
    ·exact hs
   ·unfold ss at hs ⊢;split at hs;·exact⟨hs.1,au (fun r hs=>⟨fun e=>h _ (hs.1 e),fun e l m q=>h _ (hs.2 e l m q)⟩) hs.2⟩
    ·exact hs
   ·unfold sy at hs ⊢;split at hs;·exact⟨hs.1,au (fun r hs=>au (fun e hs=>h _ hs) hs) hs.2⟩
    ·exact hs
   ·exact hs
 unfold gR at hs ⊢;split at hs;·exact hE hs
 ·unfold xj at hs ⊢;refine au (fun c hs=>?_) hs;split at hs;·rename_i h1;rw[if_pos h1];exact hE hs
  ·rename_i h1;rw[if_neg h1];exact h _ hs
 ·exact oR h hs
 ·rename_i e sz zs e1 e2;unfold mr at hs ⊢;exact⟨hs.1,au (fun X hs=>au (fun r hs=>h _ hs) hs) hs.2⟩
 ·unfold yK j5 at hs ⊢;split at hs
  ·split at hs
   ·rename_i h0;rw[if_pos h0];refine au (fun c hs=>?_) hs;split at hs;·rename_i h2;rw[if_pos h2];exact eD h hs
    ·rename_i h2;rw[if_neg h2];exact h _ hs
   ·exact hs.elim
  refine ln (fun hs=>?_) (h _) hs;refine au (fun c hs=>au (fun ys hs=>au (fun x hs=>?_) hs) hs) hs;split at hs
  ·rename_i h1;rw[if_pos h1];split at hs;·rename_i h2;rw[if_pos h2];exact pM h hs
   ·rename_i h2;rw[if_neg h2];exact h _ hs
  ·rename_i h1;rw[if_neg h1];exact jV h hs
 ·unfold ey at hs ⊢;split at hs
  ·refine⟨hs.1,au (fun x hs=>⟨hs.1,?_⟩) hs.2⟩;have hs:=hs.2;unfold dE at hs ⊢;split at hs
   ·split at hs;·rename_i h1;rw[if_pos h1];exact eD h hs
    ·exact hs.elim
   ·exact mA (fun e he=>h _ he) hs
  ·refine ln (fun hs=>?_) (h _) hs;unfold mW at hs ⊢;refine au (fun c hs=>au (fun x hs=>⟨hs.1,?_⟩) hs) hs;have hs:=hs.2;unfold fA at hs ⊢;split at hs
   ·split at hs
    ·rename_i h1;rw[if_pos h1];split at hs;·rename_i h2;rw[if_pos h2];exact⟨hs.1,eD h hs.2⟩
     ·rename_i h2;rw[if_neg h2];exact h _ hs
    ·exact hs.elim
   unfold u7 at hs ⊢;exact au (fun ys hs=>au (fun x hs=>⟨hs.1,hs.2.1,hs.2.2.1,hs.2.2.2.1,hs.2.2.2.2.1,h _ hs.2.2.2.2.2⟩) hs) hs
 ·unfold fh at hs ⊢;split at hs
  ·split at hs;·rename_i h1;rw[if_pos h1];unfold vE at hs ⊢;exact au (fun d hs=>⟨hs.1,au (fun ys hs=>au (fun x hs=>⟨hs.1,hs.2.1,hs.2.2.1,hs.2.2.2.1,h _ hs.2.2.2.2⟩) hs) hs.2⟩) hs
   ·rename_i h1;rw[if_neg h1];split at hs;·rename_i h2;rw[if_pos h2];exact eD h hs
    rename_i h2;rw[if_neg h2];unfold ja at hs ⊢;refine au (fun d hs=>⟨hs.1,au (fun X hs=>au (fun T hs=>⟨hs.1,au (fun ys hs=>au (fun x hs=>?_) hs) hs.2⟩) hs) hs.2⟩) hs;exact⟨hs.1,hs.2.1,hs.2.2.1,hs.2.2.2.1,h _ hs.2.2.2.2⟩
  ·exact pM h hs
 ·exact jV h hs
 ·exact oR h hs
theorem pR {i:AI}{K K':St→Prop} (h:∀st,K st→K' st) {st:St} (hs:bC P Γ i K st):bC P Γ i K' st:=by
 unfold bC at hs ⊢;split at hs
 ·split at hs;·rename_i h1;rw[if_pos h1];exact⟨hs.1,au (fun r hs=>⟨hs.1,hs.2.1,h _ hs.2.2⟩) hs.2⟩
  ·rename_i h1;rw[if_neg h1];exact nt h hs
 ·exact nt h hs
theorem jB {K K':St→Prop} (h:∀st,K st→K' st):∀{is:List AI}{st:St},ch P Γ is K st→ch P Γ is K' st|[],st,hs=>h st hs|i::is,st,hs=>pR (fun st hs=>jB h hs) hs
theorem vv {K K':St→Prop} (h:∀st,K st→K' st):∀{is:List AI}{st:St},steps P Γ is K st→steps P Γ is K' st|[],st,hs=>h st hs|i::is,st,hs=>fP (fun st hs=>vv h hs) hs
theorem dH:∀{a:AC}{K K':St→Prop}{J J':Exit→St→Prop}{st:St},(∀st,K st→K' st)→(∀e st,J e st→J' e st)→fF P Γ a K J st→fF P Γ a K' J' st
 |.skip,_,_,_,_,st,h,_,hs=>h st hs|.ah is d aU,_,_,_,_,st,h,_,hs=>by
  unfold fF at hs ⊢;split at hs;·rename_i hd;rw[if_pos hd];exact vv (fun st hs=>h _ hs) hs
  ·rename_i hd;rw[if_neg hd];exact jB (fun st hs=>h _ hs) hs|.seq a b,_,_,_,_,st,h,hj,hs=>dH (a:=a) (fun st hs=>dH (a:=b) h hj hs) hj hs|.cond x a b,_,_,_,_,st,h,hj,hs=>au (fun c hs=>⟨fun e=>dH (a:=a) h hj (hs.1 e),fun e=>dH (a:=b) h hj (hs.2 e)⟩) (show ag _ _ from hs)|.block id a,K,K',J,J',st,h,hj,hs=>dH (a:=a) h (fun e st hs=>by cases e with
   |exit id'=>
    simp only[lM]at hs ⊢;split at hs;·rename_i h1;rw[if_pos h1];exact h _ hs
    ·rename_i h1;rw[if_neg h1];exact hj _ _ hs|_=>exact hj _ _ hs) (show fF P Γ a K (lM id K J) st from hs)|.loop a,_,_,_,_,st,h,hj,hs=>by obtain⟨ι,F,μ,ad,shs,i0,hw,hr⟩:=hs;exact⟨ι,F,μ,ad,shs,i0,hw,fun i=>dH (a:=a) (fun st hs=>hs) hj (hr i)⟩|.exit id,_,_,_,_,st,_,hj,hs=>hj _ _ hs|.ret,_,_,_,_,st,_,hj,hs=>hj _ _ hs
theorem af {a b:AC}{K:St→Prop}{J:Exit→St→Prop}{st:St} (vs:List (Nat×AV)) (os:List (Nat×AO)) (h1:fF P Γ a (fun st'=>st'=⟨look vs,ab os⟩) J st) (h2:fF P Γ b K J ⟨look vs,ab os⟩):fF P Γ (.seq a b) K J st:=dH (a:=a) (fun st' (hs:st'=_)=>by rw[hs];exact h2) (fun _ _ h=>h) h1
theorem gV {x:Operand}{a b:AC}{K:St→Prop}{J:Exit→St→Prop}{vs:List (Nat×AV)}{os:List (Nat×AO)} (h:gu (ev (look vs) x)=some true) (h1:fF P Γ a K J ⟨look vs,ab os⟩):fF P Γ (.cond x a b) K J ⟨look vs,ab os⟩:=by rw[R.vI,h];exact⟨fun _=>h1,fun e=>Bool.noConfusion e⟩
theorem lB {x:Operand}{a b:AC}{K:St→Prop}{J:Exit→St→Prop}{vs:List (Nat×AV)}{os:List (Nat×AO)} (h:gu (ev (look vs) x)=some false) (h1:fF P Γ b K J ⟨look vs,ab os⟩):fF P Γ (.cond x a b) K J ⟨look vs,ab os⟩:=by rw[R.vI,h];exact⟨fun e=>Bool.noConfusion e,fun _=>h1⟩
theorem BY {a:AC}{K:St→Prop}{J:Exit→St→Prop}{st:St} (vs:List (Nat×AV)) (os:List (Nat×AO)) (h1:fF P Γ a (fun st'=>st'=⟨look vs,ab os⟩) J st) (h2:K ⟨look vs,ab os⟩):fF P Γ a K J st:=dH (a:=a) (fun st' (hs:st'=_)=>by rw[hs];exact h2) (fun _ _ h=>h) h1
theorem mc {a b:AC}{K:St→Prop}{J:Exit→St→Prop}{st:St} (Q:St→Prop) (h1:fF P Γ a Q J st) (h2:∀st',Q st'→fF P Γ b K J st'):fF P Γ (.seq a b) K J st:=dH (a:=a) (fun st' hs=>h2 st' hs) (fun _ _ h=>h) h1
theorem wL {is js:List AI}{K:St→Prop}{st:St} (vs:List (Nat×AV)) (os:List (Nat×AO)) (h1:ch P Γ is (fun st'=>st'=⟨look vs,ab os⟩) st) (h2:ch P Γ js K ⟨look vs,ab os⟩):ch P Γ (is++js) K st:=by
 have key:∀(is:List AI) (st:St),ch P Γ is (fun st'=>ch P Γ js K st') st→ch P Γ (is++js) K st:=by intro is;induction is with|nil=>exact fun st h=>h|cons i is ih=>exact fun st h=>pR (fun st hs=>ih st hs) h
 exact key is st (jB (fun st' (hs:st'=_)=>by rw[hs];exact h2) h1)
theorem zu (k:Nat) {is:List AI}{K:St→Prop}{st:St} (vs:List (Nat×AV)) (os:List (Nat×AO)) (h1:ch P Γ (is.take k) (fun st'=>st'=⟨look vs,ab os⟩) st) (h2:ch P Γ (is.drop k) K ⟨look vs,ab os⟩):ch P Γ is K st:=by have:=wL vs os h1 h2;rwa[List.take_append_drop]at this
theorem eJ (k:Nat) {is l1 l2:List AI}{K:St→Prop}{st:St}{vs:List (Nat×AV)}{os:List (Nat×AO)} (e1:is.take k=l1) (e2:is.drop k=l2) (h1:ch P Γ l1 (fun st'=>st'=⟨look vs,ab os⟩) st) (h2:ch P Γ l2 K ⟨look vs,ab os⟩):ch P Γ is K st:=by subst e1 e2;exact zu k vs os h1 h2
end
end Go.Proofs.Ytlmkcmfmfahcfaa.Ab
namespace Go.Proofs.Ytlmkcmfmfahcfaa.Ab
open Go Go.RowKit R
structure Vn where
 n:Int
 b:Int
 p:Int
 i:Int
 s:Int
 z:Int
 m:Int
 t:List UInt8
 inl:Bool
 fO:Bool deriving DecidableEq
def v0:Vn:=⟨0,0,0,0,0,0,0,[],false,false⟩
def cK (v:Vn):List PV:=[.int .u64 v.n,.int .u64 v.b,.int .u64 v.p,.int .u64 v.i,.int .u64 v.s,.int .u64 v.z,.int .u64 v.m,.str v.t,.bool v.inl,.bool v.fO]
def bR (v:Vn):List AV:=[.pv (.int .u64 v.n),.pv (.int .u64 v.b),.pv (.int .u64 v.p),.pv (.int .u64 v.i),.pv (.int .u64 v.s),.pv (.int .u64 v.z),.pv (.int .u64 v.m),.pv (.str v.t),.pv (.bool v.inl),.pv (.bool v.fO)]
theorem qj:∀a b,cK a=cK b→a=b:=by intro a b h;cases a;cases b;simpa[cK]using h
def aF (l:List Vn):List (List PV):=l.map cK
@[simp] theorem Mf:aF []=[]:=rfl
@[simp] theorem Db (l:List Vn):(aF l).length=l.length:=by simp[aF]
theorem fC (l m:List Vn):aF (l++m)=aF l++aF m:=by simp[aF]
theorem ng (l:List Vn):∀r∈aF l,r.length=10:=by intro r hr;simp only[aF,List.mem_map]at hr;obtain⟨c,_,rfl⟩:=hr;rfl
theorem b6 {l:List Vn}{i:Nat} (h:i<l.length):rowAt (aF l) (i:Int)=[.int .u64 l[i].n,.int .u64 l[i].b,.int .u64 l[i].p,.int .u64 l[i].i,.int .u64 l[i].s,.int .u64 l[i].z,.int .u64 l[i].m,.str l[i].t,.bool l[i].inl,.bool l[i].fO]:=by simp[rowAt,aF,h,cK]
theorem AJ (l:List Vn) (i:Nat):cut (aF l) 0 (i:Int)=aF (l.take i):=by simp[cut,aF]
@[simp] theorem Ar (l:List Vn):dec cK (aF l)=some l:=oI qj l
theorem aR {rows:List (List PV)}{l:List Vn} (h:dec cK rows=some l):rows=aF l:=oJ h
theorem aV (l:List Vn):bE (aF l):=by intro r hr p hp;simp only[aF,List.mem_map]at hr;obtain⟨c,_,rfl⟩:=hr;simp only[cK,List.mem_cons,List.not_mem_nil,or_false]at hp;rcases hp with rfl|rfl|rfl|rfl|rfl|rfl|rfl|rfl|rfl|rfl<;>rfl
def bz (v:Vn):Int:=if v.inl=true then 0 else v.b
@[simp] def Fq:List AV→Option (Prop×AV)|[.agg [.pv (.int .u64 _),.pv (.int .u64 b),.pv (.int .u64 _),.pv (.int .u64 _),.pv (.int .u64 _),.pv (.int .u64 _),.pv (.int .u64 _),.pv (.str _),.pv (.bool inl),.pv (.bool _)]]=>some (True,.pv (.int .u64 (if inl=true then 0 else b)))|_=>none
theorem xr:cf Try.prog 62 Fq:=by
 intro ys φ r h hφ;unfold Fq at h;split at h;·rename_i n b p i s z m t inl fO;cases h;refine aP aq (by kernel_rfl) fn62 (by simp) ?_;unfold body62;cases inl<;>simp(config := { maxSteps := 3000000 })
 ·cases h
def rC (l:List Vn) (n:Int):Int:=if l.findIdx (fun v=>decide (v.n=n))<l.length then(l.findIdx (fun v=>decide (v.n=n)):Int) else-1
theorem xx {l:List Vn}{n:Int}{i:Nat} (h:i<l.length) (hq:l[i].n=n) (ht:∀v∈l.take i,¬v.n=n):rC l n=i:=by
 have hf:l.findIdx (fun v=>decide (v.n=n))=i:=by
  rw[List.findIdx_eq h];refine⟨by simpa using hq,fun j hj=>?_⟩;have:l[j]∈l.take i:=by rw[List.mem_take_iff_getElem];exact⟨j,by omega,rfl⟩
  simpa using ht _ this
 unfold rC;rw[hf,if_pos h]
theorem uG {l:List Vn}{n:Int} (ht:∀v∈l,¬v.n=n):rC l n=-1:=by
 have hf:l.findIdx (fun v=>decide (v.n=n))=l.length:=by rw[List.findIdx_eq_length];intro v hv;simpa using ht v hv
 unfold rC;rw[hf,if_neg (by omega)]
theorem ki (l:List Vn) (n:Int):(∃i,∃h:i<l.length,rC l n=i∧l[i].n=n∧∀v∈l.take i,¬v.n=n)∨(rC l n=-1∧∀v∈l,¬v.n=n):=by
 by_cases h:∃v∈l,v.n=n
 ·left;have hlt:l.findIdx (fun v=>decide (v.n=n))<l.length:=by rw[List.findIdx_lt_length];obtain⟨v,hv,hn⟩:=h;exact⟨v,hv,by simpa using hn⟩
  have h1:l[l.findIdx (fun v=>decide (v.n=n))].n=n:=by have:=List.findIdx_getElem (w:=hlt);simpa using this
  have h2:∀v∈l.take (l.findIdx (fun v=>decide (v.n=n))),¬v.n=n:=by intro v hv;rw[List.mem_take_iff_getElem]at hv;obtain⟨j,hj,rfl⟩:=hv;have:=List.not_of_lt_findIdx (show j<l.findIdx (fun v=>decide (v.n=n)) by omega);simpa using this
  exact⟨_,hlt,xx hlt h1 h2,h1,h2⟩
 ·right;have h':∀v∈l,¬v.n=n:=fun v hv hn=>h ⟨v,hv,hn⟩;exact⟨uG h',h'⟩
@[simp] def QJ:List AV→Option (Prop×AV)|[.agg [.pv (.int .u64 a),.pv (.int .u64 _),.pv (.int .u64 _),.pv (.int .u64 _),.pv (.int .u64 _),.pv (.int .u64 _),.pv (.int .u64 _),.pv (.str _),.pv (.bool _),.pv (.bool _)],.rp [.int .u64 n]]=>some (True,.pv (.bool (decide (a=n))))|_=>none
theorem O9:cf Try.prog 59 QJ:=by
 intro ys φ r h hφ;unfold QJ at h;split at h;·cases h;refine aP aq (by kernel_rfl) fn59 (by simp) ?_;unfold body59;simp(config := { maxSteps := 3000000 })
 ·cases h
theorem Dh:fy Try.prog 59=true:=by kernel_rfl
@[simp] noncomputable def Qj:List AV→Option (Prop×AV)|[.pv (.ro a),.bk f [.rp [.int .u64 n]]]=>if f=59 then(dec cK a).map fun l=>(l.length≤1000000000,.pv (.int .i64 (rC l n))) else none|_=>none
theorem P3:cf Try.prog 58 Qj:=by
 intro ys φ r h hφ;unfold Qj at h;split at h
 ·rename_i ra f n;split at h
  ·rename_i hf;subst hf;obtain⟨a,ha,h⟩:=Option.map_eq_some_iff.1 h;cases h;cases aR ha;refine aP (ak O9 aq) (by kernel_rfl) fn58 (by simp) ?_;unfold body58;simp(config := { maxSteps := 3000000 });refine aD (fun i:Nat=>i≤a.length∧∀v∈a.take i,¬v.n=n) (fun i=>⟨[(0,.pv (.ro (aF a))),(1,.bk 59 [.rp [.int .u64 n]]),(7,.pv (.int .i64 a.length)),(8,.pv (.int .i64 i))],[]⟩) (fun i=>a.length-i) [] 0 (by simp) ?_ ?_;·simp
   ·rintro i ⟨hi,ht⟩;have w2:IntKind.i64.wrap ((i:Int)+1)=(i:Int)+1:=wrap_i64 (by omega);by_cases hlt:i<a.length
    ·have r1:=b6 hlt;have hr:¬a[i].n=n→∀v∈a.take (i+1),¬v.n=n:=by
      intro h0 e he;rw[List.take_succ_eq_append_getElem hlt,List.mem_append]at he;rcases he with he|he;·exact ht e he
      ·rw[List.mem_singleton]at he;rw[he];exact h0
     simp(config := { maxSteps := 3000000 }) [w2,hlt,r1,Dh];refine⟨fun h=>(xx hlt h ht).symm,fun h=>⟨i+1,⟨by omega,hr h⟩,by omega,by omega⟩⟩
    ·simp(config := { maxSteps := 3000000 }) [hlt];rw[List.take_of_length_le (by omega)]at ht;exact(uG ht).symm
  ·cases h
 ·cases h
@[simp] noncomputable def WH:List AV→Option (Prop×AV)|[.pv (.ro a),.pv (.int .u64 n)]=>(dec cK a).map fun l=>(l.length≤1000000000,.pv (.int .i64 (rC l n)))|_=>none
theorem HV:cf Try.prog 43 WH:=by
 intro ys φ r h hφ;unfold WH at h;split at h;·rename_i ra n;obtain⟨a,ha,h⟩:=Option.map_eq_some_iff.1 h;cases h;cases aR ha;refine aP (ak P3 aq) (by kernel_rfl) fn43 (by simp) ?_;unfold body43;simp(config := { maxSteps := 3000000 }) [hφ]
 ·cases h
def fZ (l:List Vn) (i:Nat):Int:=match i with|0=>0|i+1=>((l[i]?).getD v0).n
def iL (l:List Vn) (i:Nat):Bool:=decide (fZ l i<((l[i]?).getD v0).n)&&(decide (bz ((l[i]?).getD v0)=0)||decide (0≤rC (l.take i) (bz ((l[i]?).getD v0))))
def aJ (l:List Vn):Bool:=(List.range l.length).all (iL l)
theorem dM (l:List Vn):aJ l=true↔∀i,i<l.length→iL l i=true:=by unfold aJ;rw[List.all_eq_true];exact⟨fun h i hi=>h i (List.mem_range.2 hi),fun h i hi=>h i (List.mem_range.1 hi)⟩
theorem xE {l:List Vn}{i:Nat} (hi:i<l.length) (h:iL l i=false):aJ l=false:=by cases hr:aJ l with|false=>rfl|true=>rw[(dM l).1 hr i hi]at h;cases h
@[simp] noncomputable def WJ:List AV→Option (Prop×AV)|[.pv (.ro a)]=>(dec cK a).map fun l=>(l.length≤1000000000,.pv (.bool (aJ l)))|_=>none
theorem H9:cf Try.prog 46 WJ:=by
 intro ys φ r h hφ;unfold WJ at h;split at h
 ·rename_i ra;obtain⟨a,ha,h⟩:=Option.map_eq_some_iff.1 h;cases h;cases aR ha;refine aP (ak xr (ak HV aq)) (by kernel_rfl) fn46 (by simp) ?_;unfold body46;simp(config := { maxSteps := 3000000 });refine aD (fun i:Nat=>i≤a.length∧∀j,j<i→iL a j=true) (fun i=>⟨[(0,.pv (.ro (aF a))),(2,.pv (.bool false)),(3,.pv (.int .u64 (fZ a i))),(6,.pv (.ro (aF a))),(7,.pv (.int .i64 a.length)),(8,.pv (.int .i64 i))],[]⟩) (fun i=>a.length-i) [] 0 (by simp) ?_ ?_;·simp[fZ]
  ·rintro i ⟨hi,ht⟩;have w2:IntKind.i64.wrap ((i:Int)+1)=(i:Int)+1:=wrap_i64 (by omega);by_cases hlt:i<a.length
   ·have r1:=b6 hlt;have hg:(a[i]?).getD v0=a[i]:=by rw[List.getElem?_eq_getElem hlt];rfl
    have hpn:fZ a (i+1)=a[i].n:=by simp only[fZ];rw[hg]
    have hok:iL a i=(decide (fZ a i<a[i].n)&&(decide (bz a[i]=0)||decide (0≤rC (a.take i) (bz a[i])))):=by unfold iL;rw[hg]
    have hnext:iL a i=true→∀j,j<i+1→iL a j=true:=by
     intro h j hj;by_cases hji:j=i;·rw[hji];exact h
     ·exact ht j (by omega)
    have hbad:iL a i=false→aJ a=false:=xE hlt;have hcut:=AJ a i;have htl:(a.take i).length≤1000000000:=by rw[List.length_take];omega
    have hbv:(if a[i].inl=true then 0 else a[i].b)=bz a[i]:=rfl;have hmin:min i a.length≤1000000000:=by omega
    by_cases h1:a[i].n≤fZ a i;·have hb:=hbad (by rw[hok,Bool.and_eq_false_iff];left;simp;omega);simp(config := { maxSteps := 3000000 }) [w2,hlt,r1,h1,hb,hbv,hcut,hmin]
    ·have h1':fZ a i<a[i].n:=by omega
     by_cases h2:bz a[i]=0;·simp(config := { maxSteps := 3000000 }) [w2,hlt,r1,h1,h2,hbv,hcut,hmin];exact⟨i+1,⟨by omega,hnext (by rw[hok];simp[h1',h2])⟩,⟨hpn.symm,by omega⟩,by omega⟩
     ·simp(config := { maxSteps := 3000000 }) [w2,hlt,r1,h1,h2,hbv,hcut,hmin];refine⟨⟨hi,ng a⟩,fun h=>hbad (by rw[hok];simp[h1',h2];omega),fun h=>⟨i+1,⟨by omega,hnext (by rw[hok];simp[h1',h2,h])⟩,⟨hpn.symm,by omega⟩,by omega⟩⟩
   ·have:i=a.length:=by omega
    subst this;have hr:aJ a=true:=(dM a).2 ht;simp(config := { maxSteps := 3000000 }) [hr]
 ·cases h
def aO (l:List Vn):List Vn:=l.filter fun v=>!v.fO
theorem km (l:List Vn):(aO l).length≤l.length:=List.length_filter_le _ _
theorem wS {l:List Vn}{i:Nat} (h:i<l.length):aO (l.take (i+1))=if l[i].fO=true then aO (l.take i) else aO (l.take i)++[l[i]]:=by rw[List.take_succ_eq_append_getElem h];unfold aO;rw[List.filter_append];cases hh:l[i].fO<;>simp[hh]
@[simp] noncomputable def EA (e:TypeId):List AV→Option (Prop×AV)|[.pv (.ro a)]=>(dec cK a).map fun l=>(l.length≤1000000,.fr e (aF (aO l)))|_=>none
theorem ph:cf Try.prog 17 (EA 61):=by
 intro ys φ r h hφ;unfold EA at h;split at h
 ·rename_i ra;obtain⟨a,ha,h⟩:=Option.map_eq_some_iff.1 h;cases h;cases aR ha;refine aP aq (by kernel_rfl) fn17 (by simp) ?_;unfold body17;simp(config := { maxSteps := 3000000 });refine aD (fun i:Nat=>i≤a.length) (fun i=>⟨[(0,.pv (.ro (aF a))),(2,.own 2),(5,.pv (.ro (aF a))),(6,.pv (.int .i64 a.length)),(7,.pv (.int .i64 i))],[(2,.arr 61 (aF (aO (a.take i))))]⟩) (fun i=>a.length-i) [] 0 (by simp) ?_ ?_;·simp[aO]
  ·intro i hi;have w2:IntKind.i64.wrap ((i:Int)+1)=(i:Int)+1:=wrap_i64 (by omega);by_cases hlt:i<a.length
   ·have r1:=b6 hlt;have hs:=wS hlt;have hl:=km (a.take i);have hl1:(a.take i).length≤1000000:=by rw[List.length_take];omega
    cases hh:a[i].fO with|true=>rw[hh,if_pos rfl]at hs;simp(config := { maxSteps := 3000000 }) [w2,hlt,r1,hh];exact⟨i+1,by omega,⟨by omega,by rw[hs]⟩,by omega⟩|false=>rw[hh,if_neg (by simp)]at hs;simp(config := { maxSteps := 3000000 }) [w2,hlt,r1,hh,cz];refine⟨⟨by omega,by omega⟩,i+1,by omega,⟨by omega,?_⟩,by omega⟩;rw[hs,fC];simp[aF,cK,hh]
   ·simp(config := { maxSteps := 3000000 }) [hlt];rw[List.take_of_length_le (by omega)]
 ·cases h
def dw (l:List Vn) (n:Int):Option Vn:=(aO l).find? fun v=>decide (v.n=n)
theorem Ej {l:List Vn}{n:Int}{i:Nat} (h:i<(aO l).length) (hq:(aO l)[i].n=n) (ht:∀v∈(aO l).take i,¬v.n=n):dw l n=some (aO l)[i]:=by
 unfold dw;rw[List.find?_eq_some_iff_getElem];refine⟨by simpa using hq,i,h,rfl,fun j hj=>?_⟩;have:(aO l)[j]∈(aO l).take i:=by rw[List.mem_take_iff_getElem];exact⟨j,by omega,rfl⟩
 simpa using ht _ this
theorem zK {l:List Vn}{n:Int} (ht:∀v∈aO l,¬v.n=n):dw l n=none:=by unfold dw;rw[List.find?_eq_none];intro v hv;simpa using ht v hv
@[simp] noncomputable def WM:List AV→Option (Prop×AV)|[.pv (.ro a),.pv (.int .u64 n)]=>(dec cK a).map fun l=>(l.length≤1000000,.aC [.agg (bR ((dw l n).getD v0)),.pv (.bool (dw l n).isSome)])|_=>none
theorem Dr:cf Try.prog 23 WM:=by
 intro ys φ r h hφ;unfold WM at h;split at h
 ·rename_i ra n;obtain⟨a,ha,h⟩:=Option.map_eq_some_iff.1 h;cases h;cases aR ha;have hs9:(aO a).length≤1000000000:=by have:=km a;omega
  have fl:∀l,bE (aF l):=aV;refine aP (ak ph (ak HV aq)) (by kernel_rfl) fn23 (by simp) ?_;unfold body23;rcases ki (aO a) n with⟨i,hi,h1,h2,h3⟩|⟨h1,h2⟩;·have r1:=b6 hi;have hg:=Ej hi h2 h3;simp(config := { maxSteps := 3000000 }) [hφ,hs9,fl,h1,r1,hi,hg,bR]
  ·have hg:=zK h2;simp(config := { maxSteps := 3000000 }) [hφ,hs9,fl,h1,hg,bR,v0]
 ·cases h
def tY (l:List Vn):Option Vn:=(aO l).getLast?
@[simp] noncomputable def WX:List AV→Option (Prop×AV)|[.pv (.ro a)]=>(dec cK a).map fun l=>(l.length≤1000000,.aC [.agg (bR ((tY l).getD v0)),.pv (.bool (tY l).isSome)])|_=>none
theorem Vi:cf Try.prog 71 WX:=by
 intro ys φ r h hφ;unfold WX at h;split at h
 ·rename_i ra;obtain⟨a,ha,h⟩:=Option.map_eq_some_iff.1 h;cases h;cases aR ha;have hsl:=km a;have fl:∀l,bE (aF l):=aV;refine aP (ak ph aq) (by kernel_rfl) fn71 (by simp) ?_;unfold body71;by_cases hn:aO a=[]
  ·have hc:tY a=none:=by unfold tY;rw[hn];rfl
   simp(config := { maxSteps := 3000000 }) [hφ,fl,hn,hc,bR,v0]
  ·have hl:0<(aO a).length:=List.length_pos_iff.2 hn;have hlt:(aO a).length-1<(aO a).length:=by omega
   have r1:=b6 hlt;have hcast:(((aO a).length-1:Nat):Int)=((aO a).length:Int)-1:=by omega
   rw[hcast]at r1;have hc:tY a=some (aO a)[(aO a).length-1]:=by unfold tY;rw[List.getLast?_eq_getElem?,List.getElem?_eq_getElem hlt]
   have w1:IntKind.i64.wrap (((aO a).length:Int)-1)=((aO a).length:Int)-1:=wrap_i64 (by omega);have hne:¬((aO a).length:Int)=0:=by omega
   have b1:(0:Int)≤((aO a).length:Int)-1:=by omega
   have b2:((aO a).length:Int)-1<(aO a).length:=by omega
   simp(config := { maxSteps := 3000000 }) [hφ,fl,hn,hc,w1,hne,b1,b2,r1,bR];omega
 ·cases h
@[simp] noncomputable def WB:List AV→Option (Prop×AV)|[.pv (.ro a),.pv (.int .i64 k),.pv (.int .u64 n)]=>(dec cK a).map fun l=>(l.length≤1000000000∧0≤k∧k≤l.length,.pv (.int .i64 (rC (l.take k.toNat) n)))|_=>none
def lg (v:Vn):Prop:=0≤v.n∧v.n≤18446744073709551615∧0≤v.b∧v.b≤18446744073709551615
@[simp] noncomputable def Xc:List AV→Option (Prop×AV)|[.pv (.ro a)]=>(dec cK a).map fun l=>(l.length≤1000000000∧∀v∈l,lg v,.pv (.bool (aJ l)))|_=>none
@[simp] def Xn:List AV→Option (Prop×AV)|[.agg [.pv (.int .u64 n),.pv (.int .u64 b),.pv (.int .u64 p),.pv (.int .u64 i),.pv (.int .u64 s),.pv (.int .u64 z),.pv (.int .u64 m),.pv (.str t),.pv (.bool inl),.pv (.bool fO)]]=>some (True,.agg [.pv (.int .u64 n),.pv (.int .u64 b),.pv (.int .u64 p),.pv (.int .u64 i),.pv (.int .u64 s),.pv (.int .u64 z),.pv (.int .u64 m),.pv (.str t),.pv (.bool inl),.pv (.bool fO)])|_=>none
@[simp] noncomputable def Wl:List AV→Option (Prop×AV)|[.pv (.ro a)]=>(dec cK a).map fun l=>(l.length≤1000000,.fr 84 (aF l))|_=>none
@[simp] noncomputable def Xk:List AV→Option (Prop×AV)|[.pv (.ro a),.pv (.ro b)]=>(dec cK a).bind fun la=>(dec cK b).map fun lb=>(la.length≤1000000,.pv (.bool (decide (la=lb))))|_=>none
def Wk (l:List Vn):Bool:=decide (l.length≤12)&&l.all fun v=>decide (v.t.length≤100)
@[simp] noncomputable def WI:List AV→Option (Prop×AV)|[.pv (.ro a)]=>(dec cK a).map fun l=>(True,.pv (.bool (Wk l)))|_=>none
def IB (n:Int):List PV:=[.int .i64 n]
def F8 (l:List Int):List (List PV):=l.map IB
@[simp] theorem Kc:F8 []=[]:=rfl
def NR (l:List Vn):List Int:=l.map fun v=>IntKind.i64.wrap v.n
@[simp] noncomputable def Vh:List AV→Option (Prop×AV)|[.pv (.ro a)]=>(dec cK a).map fun l=>(l.length≤1000000,.fr 3 (F8 (NR l)))|_=>none
@[simp] noncomputable def Xm:List AV→Option (Prop×AV)|[.pv (.ro a),.pv (.ro b)]=>(dec IB a).bind fun la=>(dec IB b).map fun lb=>(la.length≤1000000000,.pv (.bool (decide (la=lb))))|_=>none
structure Ls where
 e:Int
 p:Int
 i:Int
 u:Int
 h:Bool deriving DecidableEq
def fc (l:Ls):List AV:=[.pv (.int .u64 l.e),.pv (.int .u64 l.p),.pv (.int .u64 l.i),.pv (.int .u64 l.u),.pv (.bool l.h)]
def kH:Int:=18446744073709551615
def fu (l:Ls) (p i e:Int):Bool:=l.h&&decide (l.p=p)&&decide (l.i=i)&&decide (l.e=e)
def sq (l:Ls):Int×Int:=if l.e=kH then(0,131) else(l.e+1,0)
def eE (l:Ls) (p i u:Int):Ls×Int:=if l.e=kH then(l,131) else(⟨l.e+1,p,i,u,true⟩,0)
def tJ (l:Ls) (u:Int):Ls:=⟨l.e,l.p,l.i,max l.u u,l.h⟩
def mu (l:Ls):Ls:=⟨l.e,l.p,l.i,l.u,false⟩
@[simp] def EG:List AV→Option (Prop×AV)|[.agg [.pv (.int .u64 e),.pv (.int .u64 p),.pv (.int .u64 i),.pv (.int .u64 u),.pv (.bool h)],.pv (.int .u64 q),.pv (.int .u64 j),.pv (.int .u64 f)]=>some (True,.pv (.bool (fu ⟨e,p,i,u,h⟩ q j f)))|_=>none
theorem wv:cf Try.prog 9 EG:=by
 intro ys φ r h hφ;unfold EG at h;split at h;·rename_i e p i u h' q j f;cases h;refine aP aq (by kernel_rfl) fn9 (by simp) ?_;unfold body9;cases h' with|false=>simp(config := { maxSteps := 3000000 }) [fu]|true=>
  by_cases h1:p=q
  ·by_cases h2:i=j;·by_cases h3:e=f<;>simp(config := { maxSteps := 3000000 }) [fu,h1,h2,h3]
   ·simp(config := { maxSteps := 3000000 }) [fu,h1,h2]
  ·simp(config := { maxSteps := 3000000 }) [fu,h1]
 ·cases h
@[simp] def Fo:List AV→Option (Prop×AV)|[.agg [.pv (.int .u64 e),.pv (.int .u64 p),.pv (.int .u64 i),.pv (.int .u64 u),.pv (.bool h)]]=>some (dA e,.aC [.pv (.int .u64 (sq ⟨e,p,i,u,h⟩).1),.pv (.int .i64 (sq ⟨e,p,i,u,h⟩).2)])|_=>none
theorem I7:cf Try.prog 63 Fo:=by
 intro ys φ r h hφ;unfold Fo at h;split at h
 ·rename_i e p i u h';cases h;obtain⟨o1,o2⟩:=hφ;refine aP aq (by kernel_rfl) fn63 (by simp) ?_;unfold body63;by_cases h1:e=18446744073709551615;·simp(config := { maxSteps := 3000000 }) [sq,kH,h1]
  ·have w1:IntKind.u64.wrap (e+1)=e+1:=wrap_u64 (by omega);simp(config := { maxSteps := 3000000 }) [sq,kH,h1,w1]
 ·cases h
@[simp] def Bn:List AV→Option (Prop×AV)|[.agg [.pv (.int .u64 e),.pv (.int .u64 p),.pv (.int .u64 i),.pv (.int .u64 u),.pv (.bool h)],.pv (.int .u64 q),.pv (.int .u64 j),.pv (.int .u64 v)]=>some (dA e,.aC [.agg (fc (eE ⟨e,p,i,u,h⟩ q j v).1),.pv (.int .i64 (eE ⟨e,p,i,u,h⟩ q j v).2)])|_=>none
theorem CV:cf Try.prog 48 Bn:=by
 intro ys φ r h hφ;unfold Bn at h;split at h
 ·rename_i e p i u h' q j v;cases h;refine aP (ak I7 aq) (by kernel_rfl) fn48 (by simp) ?_;unfold body48;by_cases h1:e=18446744073709551615;·simp(config := { maxSteps := 3000000 }) [sq,eE,kH,fc,h1];exact h1▸hφ
  ·simp(config := { maxSteps := 3000000 }) [sq,eE,kH,fc,h1];exact hφ
 ·cases h
@[simp] def Bq:List AV→Option (Prop×AV)|[.agg [.pv (.int .u64 e),.pv (.int .u64 p),.pv (.int .u64 i),.pv (.int .u64 u),.pv (.bool h)],.pv (.int .u64 v)]=>some (True,.agg (fc (tJ ⟨e,p,i,u,h⟩ v)))|_=>none
theorem Eh:cf Try.prog 50 Bq:=by
 intro ys φ r h hφ;unfold Bq at h;split at h;·cases h;refine aP aq (by kernel_rfl) fn50 (by simp) ?_;unfold body50;simp(config := { maxSteps := 3000000 }) [tJ,fc]
 ·cases h
@[simp] def Nn:List AV→Option (Prop×AV)|[.agg [.pv (.int .u64 e),.pv (.int .u64 p),.pv (.int .u64 i),.pv (.int .u64 u),.pv (.bool h)]]=>some (True,.agg (fc (mu ⟨e,p,i,u,h⟩)))|_=>none
theorem Mq:cf Try.prog 51 Nn:=by
 intro ys φ r h hφ;unfold Nn at h;split at h;·cases h;refine aP aq (by kernel_rfl) fn51 (by simp) ?_;unfold body51;simp(config := { maxSteps := 3000000 }) [mu,fc]
 ·cases h
noncomputable def uH {α:Type} (f:α→AV) (y:AV):Option α:=open Classical in if h:∃p,f p=y then some h.choose else none
theorem ej {α:Type}{f:α→AV}{y:AV}{p:α} (h:uH f y=some p):y=f p:=by
 unfold uH at h;split at h;·rename_i h';cases h;exact h'.choose_spec.symm
 ·cases h
theorem yz {α:Type}{f:α→AV} (inj:∀p q,f p=f q→p=q) (p:α):uH f (f p)=some p:=by unfold uH;have h:∃q,f q=f p:=⟨p,rfl⟩;rw[dif_pos h];exact congrArg some (inj _ _ h.choose_spec)
structure Rc where
 k:Int
 p:Int
 i:Int
 s:Int
 e:Int
 u:Int
 v:Int
 c:Int
 z:Int
 m:Int
 n:List UInt8
 t:List UInt8 deriving DecidableEq
structure Ap where
 l:Ls
 ps:List Pn
 vs:List Vn
 sl:Bool
 r:Rc
 n:Int
 s:Int
def lD (a:Ap):AV:=.bx [.pv (.int .u64 a.l.e),.pv (.int .u64 a.l.p),.pv (.int .u64 a.l.i),.pv (.int .u64 a.l.u),.pv (.bool a.l.h),.fr 86 (aG a.ps),.fr 61 (aF a.vs),.pv (.bool a.sl),.pv (.int .u8 a.r.k),.pv (.int .u64 a.r.p),.pv (.int .u64 a.r.i),.pv (.int .u64 a.r.s),.pv (.int .u64 a.r.e),.pv (.int .u64 a.r.u),.pv (.int .u64 a.r.v),.pv (.int .u64 a.r.c),.pv (.int .u64 a.r.z),.pv (.int .u64 a.r.m),.pv (.str a.r.n),.pv (.str a.r.t),.pv (.int .u64 a.n),.pv (.int .u64 a.s)]
def JS (a:Ap):AV:=.rp [.int .u64 a.l.e,.int .u64 a.l.p,.int .u64 a.l.i,.int .u64 a.l.u,.bool a.l.h,.ro (aG a.ps),.ro (aF a.vs),.bool a.sl,.int .u8 a.r.k,.int .u64 a.r.p,.int .u64 a.r.i,.int .u64 a.r.s,.int .u64 a.r.e,.int .u64 a.r.u,.int .u64 a.r.v,.int .u64 a.r.c,.int .u64 a.r.z,.int .u64 a.r.m,.str a.r.n,.str a.r.t,.int .u64 a.n,.int .u64 a.s]
theorem jT {α β:Type}{f:α→β} (hf:∀a b,f a=f b→a=b):∀{l m:List α},l.map f=m.map f→l=m|[],[],_=>rfl|[],_::_,h=>by cases h|_::_,[],h=>by cases h|a::l,b::m,h=>by simp only[List.map_cons,List.cons.injEq]at h;rw[hf _ _ h.1,jT hf h.2]
theorem CK:∀p q,lD p=lD q→p=q:=by rintro⟨⟨e,p,i,u,h⟩,ps,vs,sl,⟨k,rp,ri,rs,re,ru,rv,rc,rz,rm,rn,rt⟩,n,s⟩ ⟨⟨e',p',i',u',h'⟩,ps',vs',sl',⟨k',rp',ri',rs',re',ru',rv',rc',rz',rm',rn',rt'⟩,n',s'⟩ hh;simp only[lD,AV.bx.injEq,List.cons.injEq,AV.pv.injEq,PV.int.injEq,PV.bool.injEq,PV.str.injEq,AV.fr.injEq,true_and,and_true]at hh;obtain⟨rfl,rfl,rfl,rfl,rfl,h1,h2,rfl,rfl,rfl,rfl,rfl,rfl,rfl,rfl,rfl,rfl,rfl,rfl,rfl,rfl,rfl⟩:=hh;rw[jT lX h1,jT qj h2]
theorem Et:∀p q,JS p=JS q→p=q:=by rintro⟨⟨e,p,i,u,h⟩,ps,vs,sl,⟨k,rp,ri,rs,re,ru,rv,rc,rz,rm,rn,rt⟩,n,s⟩ ⟨⟨e',p',i',u',h'⟩,ps',vs',sl',⟨k',rp',ri',rs',re',ru',rv',rc',rz',rm',rn',rt'⟩,n',s'⟩ hh;simp only[JS,AV.rp.injEq,List.cons.injEq,PV.int.injEq,PV.bool.injEq,PV.str.injEq,PV.ro.injEq,true_and,and_true]at hh;obtain⟨rfl,rfl,rfl,rfl,rfl,h1,h2,rfl,rfl,rfl,rfl,rfl,rfl,rfl,rfl,rfl,rfl,rfl,rfl,rfl,rfl,rfl⟩:=hh;rw[jT lX h1,jT qj h2]
@[simp] theorem RI (e p i u:Int) (h:Bool) (ps:List Pn) (vs:List Vn) (sl:Bool) (k rp ri rs re ru rv rc rz rm:Int) (rn rt:List UInt8) (n s:Int):uH lD (.bx [.pv (.int .u64 e),.pv (.int .u64 p),.pv (.int .u64 i),.pv (.int .u64 u),.pv (.bool h),.fr 86 (aG ps),.fr 61 (aF vs),.pv (.bool sl),.pv (.int .u8 k),.pv (.int .u64 rp),.pv (.int .u64 ri),.pv (.int .u64 rs),.pv (.int .u64 re),.pv (.int .u64 ru),.pv (.int .u64 rv),.pv (.int .u64 rc),.pv (.int .u64 rz),.pv (.int .u64 rm),.pv (.str rn),.pv (.str rt),.pv (.int .u64 n),.pv (.int .u64 s)])=some ⟨⟨e,p,i,u,h⟩,ps,vs,sl,⟨k,rp,ri,rs,re,ru,rv,rc,rz,rm,rn,rt⟩,n,s⟩:=yz CK ⟨⟨e,p,i,u,h⟩,ps,vs,sl,⟨k,rp,ri,rs,re,ru,rv,rc,rz,rm,rn,rt⟩,n,s⟩
@[simp] theorem Sc (e p i u:Int) (h:Bool) (ps:List Pn) (vs:List Vn) (sl:Bool) (k rp ri rs re ru rv rc rz rm:Int) (rn rt:List UInt8) (n s:Int):uH JS (.rp [.int .u64 e,.int .u64 p,.int .u64 i,.int .u64 u,.bool h,.ro (aG ps),.ro (aF vs),.bool sl,.int .u8 k,.int .u64 rp,.int .u64 ri,.int .u64 rs,.int .u64 re,.int .u64 ru,.int .u64 rv,.int .u64 rc,.int .u64 rz,.int .u64 rm,.str rn,.str rt,.int .u64 n,.int .u64 s])=some ⟨⟨e,p,i,u,h⟩,ps,vs,sl,⟨k,rp,ri,rs,re,ru,rv,rc,rz,rm,rn,rt⟩,n,s⟩:=yz Et ⟨⟨e,p,i,u,h⟩,ps,vs,sl,⟨k,rp,ri,rs,re,ru,rv,rc,rz,rm,rn,rt⟩,n,s⟩
@[simp] noncomputable def WR:List AV→Option (Prop×AV)|[y]=>(uH JS y).map fun a=>(True,.pv (.bool (fu a.l a.r.p a.r.i a.r.e)))|_=>none
theorem I3:cf Try.prog 49 WR:=by
 intro ys φ r h hφ;unfold WR at h;split at h;·obtain⟨a,ha,h⟩:=Option.map_eq_some_iff.1 h;cases h;cases ej ha;refine aP (ak wv aq) (by kernel_rfl) fn49 (by simp) ?_;unfold body49;simp(config := { maxSteps := 3000000 }) [JS]
 ·cases h
def oO (a:Ap):Ap×Bool:=(⟨a.l,a.ps,a.vs,true,a.r,a.n,a.s⟩,!a.sl&&a.l.h&&decide (a.l.p=a.r.p)&&decide (a.l.i=a.r.i))
def kS (a:Ap):Ap×Bool:=(⟨tJ a.l a.r.u,a.ps,a.vs,a.sl,a.r,a.n,a.s⟩,!a.sl&&fu a.l a.r.p a.r.i a.r.e)
def gh (a:Ap):Ap×Bool:=(⟨mu a.l,a.ps,a.vs,a.sl,a.r,a.n,a.s⟩,!a.sl&&fu a.l a.r.p a.r.i a.r.e)
def gU (a:Ap):Ap×Bool:=(⟨(eE a.l a.r.p a.r.i a.r.u).1,a.ps,a.vs,a.sl,a.r,a.n,a.s⟩,!a.sl&&decide ((eE a.l a.r.p a.r.i a.r.u).2=0)&&decide ((eE a.l a.r.p a.r.i a.r.u).1.e=a.r.e))
@[simp] noncomputable def wj (C:Ap→Prop) (F:Ap→Ap×Bool):List AV→Option (Prop×AV)|[.aC [y]]=>(uH lD y).map fun a=>(C a,.bk 0 [.pv (.bool (F a).2),lD (F a).1])|_=>none
theorem BV:dk Try.prog 32 (wj (fun _=>True) kS):=by
 intro ys φ r h hφ;unfold wj at h;split at h;·obtain⟨a,ha,h⟩:=Option.map_eq_some_iff.1 h;cases h;cases ej ha;obtain⟨⟨e,p,i,u,h'⟩,ps,vs,sl,⟨k,rp,ri,rs,re,ru,rv,rc,rz,rm,rn,rt⟩,n,s⟩:=a;refine b5 (ak I3 (ak Eh aq)) (by kernel_rfl) fn32 (by simp) rfl (by simp[lD]) ?_;unfold body32;cases sl<;>simp(config := { maxSteps := 3000000 }) [lD,kS,fc,tJ]
 ·cases h
theorem wE:dk Try.prog 33 (wj (fun _=>True) gh):=by
 intro ys φ r h hφ;unfold wj at h;split at h;·obtain⟨a,ha,h⟩:=Option.map_eq_some_iff.1 h;cases h;cases ej ha;obtain⟨⟨e,p,i,u,h'⟩,ps,vs,sl,⟨k,rp,ri,rs,re,ru,rv,rc,rz,rm,rn,rt⟩,n,s⟩:=a;refine b5 (ak I3 (ak Mq aq)) (by kernel_rfl) fn33 (by simp) rfl (by simp[lD]) ?_;unfold body33;cases sl<;>simp(config := { maxSteps := 3000000 }) [lD,gh,fc,mu]
 ·cases h
theorem C9:dk Try.prog 37 (wj (fun _=>True) oO):=by
 intro ys φ r h hφ;unfold wj at h;split at h;·obtain⟨a,ha,h⟩:=Option.map_eq_some_iff.1 h;cases h;cases ej ha;obtain⟨⟨e,p,i,u,h'⟩,ps,vs,sl,⟨k,rp,ri,rs,re,ru,rv,rc,rz,rm,rn,rt⟩,n,s⟩:=a;refine b5 aq (by kernel_rfl) fn37 (by simp) rfl (by simp[lD]) ?_;unfold body37;cases sl<;>cases h'<;>simp(config := { maxSteps := 3000000 }) [lD,oO,fc]
 ·cases h
theorem Ce:dk Try.prog 31 (wj (fun a=>dA a.l.e) gU):=by
 intro ys φ r h hφ;unfold wj at h;split at h
 ·obtain⟨a,ha,h⟩:=Option.map_eq_some_iff.1 h;cases h;cases ej ha;obtain⟨⟨e,p,i,u,h'⟩,ps,vs,sl,⟨k,rp,ri,rs,re,ru,rv,rc,rz,rm,rn,rt⟩,n,s⟩:=a;have oe:dA e:=hφ;refine b5 (ak CV aq) (by kernel_rfl) fn31 (by simp) rfl (by simp[lD]) ?_;unfold body31;by_cases h1:e=kH;·cases sl<;>simp(config := { maxSteps := 3000000 }) [lD,gU,fc,eE,h1,oe];all_goals exact h1▸oe
  ·cases sl<;>simp(config := { maxSteps := 3000000 }) [lD,gU,fc,eE,h1,oe]
 ·cases h
@[simp] noncomputable def NG:List AV→Option (Prop×AV)|[.pv (.ro a)]=>(dec cK a).map fun l=>(l.length≤1000000,.fr 61 (aF l))|_=>none
theorem Cp:cf Try.prog 30 NG:=by
 intro ys φ r h hφ;unfold NG at h;split at h;·rename_i ra;obtain⟨a,ha,h⟩:=Option.map_eq_some_iff.1 h;cases h;cases aR ha;refine aP aq (by kernel_rfl) fn30 (by simp) ?_;unfold body30;cases a with|nil=>simp(config := { maxSteps := 3000000 }) [qo]|cons x l=>have hx:aF (x::l)=cK x::aF l:=rfl;simp(config := { maxSteps := 3000000 }) [hx,cz];simp only[List.length_cons]at hφ;exact⟨by omega,by omega,rfl,ng l⟩
 ·cases h
@[simp] def U9:List AV→Option (Prop×AV)|[.pv (.int .u64 n),.pv (.str t)]=>some (True,.agg [.pv (.int .u64 n),.pv (.int .u64 0),.pv (.int .u64 0),.pv (.int .u64 0),.pv (.int .u64 0),.pv (.int .u64 0),.pv (.int .u64 0),.pv (.str t),.pv (.bool true),.pv (.bool false)])|_=>none
def GR (n:Int) (t:List UInt8):Vn:=⟨n,0,0,0,0,0,0,t,true,false⟩
def yp (l:List Vn):Int:=((l.getLast?).getD v0).n
theorem iX {l:List Vn} (hr:aJ l=true) {i:Nat} (h:i+1<l.length):l[i].n<l[i+1].n:=by have:=(dM l).1 hr (i+1) h;unfold iL at this;rw[Bool.and_eq_true]at this;have h1:=this.1;simp only[fZ,List.getElem?_eq_getElem h,List.getElem?_eq_getElem (show i<l.length by omega),Option.getD_some,decide_eq_true_eq]at h1;exact h1
theorem iF {l:List Vn} (hr:aJ l=true) {i:Nat}:∀(d:Nat) (h:i+d<l.length),l[i].n≤l[i+d].n|0,h=>Int.le_refl _|d+1,h=>by have h1:=iF hr d (show i+d<l.length by omega);have h2:=iX hr (i:=i+d) (by omega);have:l[i+(d+1)].n=l[i+d+1].n:=rfl;omega
def BI (s:List UInt8):List PV:=[.str s]
def HA (l:List (List UInt8)):List (List PV):=l.map BI
@[simp] theorem HJ:HA []=[]:=rfl
@[simp] noncomputable def Nl:List AV→Option (Prop×AV)|[.agg [.pv (.int .u64 e),.pv (.int .u64 p),.pv (.int .u64 i),.pv (.int .u64 u),.pv (.bool h),.pv (.ro a),.pv (.ro b),.pv (.bool sl)]]=>(dec rowP a).bind fun ps=>(dec cK b).map fun vs=>(ps.length≤100000∧vs.length≤100000,.agg [.pv (.int .u64 e),.pv (.int .u64 p),.pv (.int .u64 i),.pv (.int .u64 u),.pv (.bool h),.fr 86 (aG ps),.fr 61 (aF vs),.pv (.bool sl)])|_=>none
theorem Mp:cf Try.prog 18 Nl:=by
 intro ys φ r h hφ;unfold Nl at h;split at h
 ·obtain⟨ps,hp,h⟩:=Option.bind_eq_some_iff.1 h;obtain⟨vs,hv,h⟩:=Option.map_eq_some_iff.1 h;cases h;cases aS hp;cases aR hv;obtain⟨h1,h2⟩:=hφ;have h3:ps.length≤100000000:=by omega
  have h4:vs.length≤1000000:=by omega
  refine aP (ak oW (ak Cp aq)) (by kernel_rfl) fn18 (by simp) ?_;unfold body18;simp(config := { maxSteps := 3000000 }) [h3,h4]
 ·cases h
def eU (l:List Int):PV:=.ro (l.map fun n=>[.int .u8 n])
def iG:List (PV×PV):=[(.int .u8 1,eU [0,1]),(.int .u8 2,eU [0,1]),(.int .u8 3,eU [0]),(.int .u8 4,eU [0,2,4,5]),(.int .u8 5,eU [2,1]),(.int .u8 6,eU [2]),(.int .u8 7,eU []),(.int .u8 8,eU [3]),(.int .u8 9,eU [6]),(.int .u8 10,eU [6]),(.int .u8 11,eU [6,7])]
def xJ:List AV→Option (Prop×AV)|[]=>some (True,.pv (.mv iG))|_=>none
@[simp] theorem JG:xJ []=some (True,.pv (.mv iG)):=rfl
theorem Dg:cf Try.prog 39 xJ:=by
 intro ys φ r h hφ;unfold xJ at h;split at h;·cases h;refine aP aq (by kernel_rfl) fn39 (by simp) ?_;unfold body39;simp(config := { maxSteps := 3000000 }) [iG,eU]
 ·cases h
def eg (l:List Vn) (v:Vn):List Vn×Int:=if aJ l=false∨v.fO=true∨v.n=0∨(0<l.length∧v.n≤yp l) then([],2) else if bz v≠0∧(dw l (bz v)).isSome=false then([],150) else(l++[v],0)
@[simp] noncomputable def M0 (e:TypeId):List AV→Option (Prop×AV)|[.pv (.ro a),.agg [.pv (.int .u64 n),.pv (.int .u64 b),.pv (.int .u64 p),.pv (.int .u64 i),.pv (.int .u64 s),.pv (.int .u64 z),.pv (.int .u64 m),.pv (.str t),.pv (.bool inl),.pv (.bool fO)]]=>(dec cK a).map fun l=>(l.length≤100000∧(∀v∈l,lg v)∧lg ⟨n,b,p,i,s,z,m,t,inl,fO⟩,.aC [.fr e (aF (eg l ⟨n,b,p,i,s,z,m,t,inl,fO⟩).1),.pv (.int .i64 (eg l ⟨n,b,p,i,s,z,m,t,inl,fO⟩).2)])|_=>none
theorem Hq:cf Try.prog 52 (M0 61):=by
 intro ys φ r h hφ;unfold M0 at h;split at h
 ·rename_i ra n b p i s z m t inl fO;obtain⟨a,ha,h⟩:=Option.map_eq_some_iff.1 h;cases h;cases aR ha;obtain⟨hl5,hov,hvv⟩:=hφ;have hl9:a.length≤1000000000:=by omega
  have hl6:a.length≤1000000:=by omega
  have fl:∀l,bE (aF l):=aV;have hbv:(if inl=true then 0 else b)=bz ⟨n,b,p,i,s,z,m,t,inl,fO⟩:=rfl;refine aP (ak H9 (ak xr (ak Dr (ak Cp aq)))) (by kernel_rfl) fn52 (by simp) ?_;unfold body52;by_cases h0:0<a.length
  ·have w1:IntKind.i64.wrap ((a.length:Int)-1)=(a.length:Int)-1:=wrap_i64 (by omega);have hlt:a.length-1<a.length:=by omega
   have r1:=b6 hlt;rw[show((a.length-1:Nat):Int)=(a.length:Int)-1 from by omega]at r1;have hln:a[a.length-1].n=yp a:=by unfold yp;rw[List.getLast?_eq_getElem?,List.getElem?_eq_getElem hlt];rfl
   rw[hln]at r1;have b1:1≤(a.length:Int):=by omega
   have b2:(a.length:Int)-1<a.length:=by omega
   cases hr:aJ a with|false=>
    have hi:eg a ⟨n,b,p,i,s,z,m,t,inl,fO⟩=([],2):=by simp[eg,hr]
    simp(config := { maxSteps := 3000000 }) [hl9,hl6,hr,hi,fl,w1,r1,h0,b1,b2]|true=>cases fO with
   |true=>
    have hi:eg a ⟨n,b,p,i,s,z,m,t,inl,true⟩=([],2):=by simp[eg,hr]
    simp(config := { maxSteps := 3000000 }) [hl9,hl6,hr,hi,fl,w1,r1,h0,b1,b2]|false=>
   by_cases hn:n=0
   ·have hi:eg a ⟨n,b,p,i,s,z,m,t,inl,false⟩=([],2):=by simp[eg,hr,hn]
    simp(config := { maxSteps := 3000000 }) [hl9,hl6,hr,hi,fl,w1,r1,h0,b1,b2,hn];try(rw[←hn];simp[hi])
   by_cases hle:n≤yp a
   ·have hi:eg a ⟨n,b,p,i,s,z,m,t,inl,false⟩=([],2):=by simp[eg,hr,hn,hle,h0]
    simp(config := { maxSteps := 3000000 }) [hl9,hl6,hr,hi,fl,w1,r1,h0,b1,b2,hn,hle]
   by_cases hb:bz ⟨n,b,p,i,s,z,m,t,inl,false⟩=0
   ·have hi:eg a ⟨n,b,p,i,s,z,m,t,inl,false⟩=(a++[⟨n,b,p,i,s,z,m,t,inl,false⟩],0):=by simp[eg,hr,hn,hle,h0,hb]
    simp(config := { maxSteps := 3000000 }) [hl9,hl6,hr,fl,w1,r1,h0,b1,b2,hn,hle,hbv,bR,hb,hi,cz];exact⟨⟨by omega,by omega⟩,by rw[fC];rfl⟩
   ·cases hg:(dw a (bz ⟨n,b,p,i,s,z,m,t,inl,false⟩)).isSome with|false=>
     have hi:eg a ⟨n,b,p,i,s,z,m,t,inl,false⟩=([],150):=by simp[eg,hr,hn,hle,h0,hb,hg]
     simp(config := { maxSteps := 3000000 }) [hl9,hl6,hr,fl,w1,r1,h0,b1,b2,hn,hle,hbv,bR,hb,hi,hg]|true=>
     have hi:eg a ⟨n,b,p,i,s,z,m,t,inl,false⟩=(a++[⟨n,b,p,i,s,z,m,t,inl,false⟩],0):=by simp[eg,hr,hn,hle,h0,hb,hg]
     simp(config := { maxSteps := 3000000 }) [hl9,hl6,hr,fl,w1,r1,h0,b1,b2,hn,hle,hbv,bR,hb,hi,hg,cz];exact⟨⟨by omega,by omega⟩,by rw[fC];rfl⟩
  ·have:a=[]:=List.eq_nil_of_length_eq_zero (by omega);subst this;have hr:aJ []=true:=rfl;have r0:∀k:Int,rowAt [] k=[]:=fun k=>by simp[rowAt]
   have hd0:dec cK []=some []:=Ar [];have hg0:∀q,dw [] q=none:=fun q=>rfl;have f0:bE []:=aV [];cases fO with
   |true=>
    have hi:eg [] ⟨n,b,p,i,s,z,m,t,inl,true⟩=([],2):=by simp[eg,hr]
    simp(config := { maxSteps := 3000000 }) [hr,hi,r0,hd0,f0]|false=>
   by_cases hn:n=0
   ·have hi:eg [] ⟨n,b,p,i,s,z,m,t,inl,false⟩=([],2):=by simp[eg,hr,hn]
    simp(config := { maxSteps := 3000000 }) [hr,hi,r0,hd0,f0,hn];try(rw[←hn];simp[hi])
   by_cases hb:bz ⟨n,b,p,i,s,z,m,t,inl,false⟩=0
   ·have hi:eg [] ⟨n,b,p,i,s,z,m,t,inl,false⟩=([⟨n,b,p,i,s,z,m,t,inl,false⟩],0):=by simp[eg,hr,hn,hb]
    simp(config := { maxSteps := 3000000 }) [hr,hi,r0,hd0,f0,hg0,hn,hb,hbv,cz,v0,bR];rfl
   ·have hi:eg [] ⟨n,b,p,i,s,z,m,t,inl,false⟩=([],150):=by simp[eg,hr,hn,hb,hg0]
    simp(config := { maxSteps := 3000000 }) [hr,hi,r0,hd0,f0,hg0,hn,hb,hbv,v0,bR]
 ·cases h
def VY (l:List Vn) (ts:List (List UInt8)):List Vn:=List.zipWith (fun(v:Vn) t=>GR v.n t) l ts
def jA (l:List Vn) (ts:List (List UInt8)):List Vn×Int:=if aJ l=false∨ts.length≠(aO l).length then([],2) else(VY (aO l) ts,0)
@[simp] noncomputable def Xf (e:TypeId):List AV→Option (Prop×AV)|[.pv (.ro a),.pv (.ro ts)]=>(dec cK a).bind fun l=>(dec BI ts).map fun ts=>(l.length≤100000∧(∀v∈l,lg v),.aC [.fr e (aF (jA l ts).1),.pv (.int .i64 (jA l ts).2)])|_=>none
structure Dc where
 l:Ls
 ps:List Pn
 vs:List Vn
 sl:Bool deriving DecidableEq
def cellsD (d:Dc):List AV:=[.pv (.int .u64 d.l.e),.pv (.int .u64 d.l.p),.pv (.int .u64 d.l.i),.pv (.int .u64 d.l.u),.pv (.bool d.l.h),.pv (.ro (aG d.ps)),.pv (.ro (aF d.vs)),.pv (.bool d.sl)]
noncomputable def kF (ys:List AV) (K:Dc→Option (Prop×AV)):Option (Prop×AV):=match ys with|[.pv (.int .u64 e),.pv (.int .u64 p),.pv (.int .u64 i),.pv (.int .u64 u),.pv (.bool h),.pv (.ro a),.pv (.ro b),.pv (.bool sl)]=>(dec rowP a).bind fun ps=>(dec cK b).bind fun vs=>K ⟨⟨e,p,i,u,h⟩,ps,vs,sl⟩|_=>none
@[simp] theorem Om (e p i u:Int) (h sl:Bool) (a b:List (List PV)) (K:Dc→Option (Prop×AV)):kF [.pv (.int .u64 e),.pv (.int .u64 p),.pv (.int .u64 i),.pv (.int .u64 u),.pv (.bool h),.pv (.ro a),.pv (.ro b),.pv (.bool sl)] K=(dec rowP a).bind fun ps=>(dec cK b).bind fun vs=>K ⟨⟨e,p,i,u,h⟩,ps,vs,sl⟩:=rfl
theorem kf {ys:List AV}{K:Dc→Option (Prop×AV)}{x:Prop×AV} (h:kF ys K=some x):∃d,ys=cellsD d∧K d=some x:=by
 unfold kF at h;split at h;·obtain⟨ps,hp,h1⟩:=Option.bind_eq_some_iff.1 h;obtain⟨vs,hv,h2⟩:=Option.bind_eq_some_iff.1 h1;rw[aS hp,aR hv];exact⟨_,rfl,h2⟩
 ·cases h
@[simp] noncomputable def Xs:List AV→Option (Prop×AV)|[.agg [.pv (.ro a)]]=>(dec rowP a).map fun l=>(l.length≤100000,.fr 100 (aG l))|_=>none
@[simp] noncomputable def Xx:List AV→Option (Prop×AV)|[.pv (.ro a)]=>(dec cK a).map fun l=>(l.length≤100000,.fr 84 (aF l))|_=>none
@[simp] noncomputable def Xz:List AV→Option (Prop×AV)|[.agg ys]=>kF ys fun d=>some (d.ps.length≤100000∧d.vs.length≤100000,.agg [.pv (.int .u64 d.l.e),.pv (.int .u64 d.l.p),.pv (.int .u64 d.l.i),.pv (.int .u64 d.l.u),.pv (.bool d.l.h),.fr 100 (aG d.ps),.fr 84 (aF d.vs),.pv (.bool d.sl)])|_=>none
noncomputable def tf (d:Dc) (ts:List (List UInt8)):Dc×Int:=if(jA d.vs ts).2=0 then(⟨d.l,d.ps,(jA d.vs ts).1,d.sl⟩,0) else(⟨⟨0,0,0,0,false⟩,[],[],false⟩,(jA d.vs ts).2)
@[simp] noncomputable def W9 (e1 e2:TypeId):List AV→Option (Prop×AV)|[.agg ys,.pv (.ro ts)]=>kF ys fun d=>(dec BI ts).map fun ts=>(d.ps.length≤100000∧d.vs.length≤100000∧(∀v∈d.vs,lg v),.aC [.agg [.pv (.int .u64 (tf d ts).1.l.e),.pv (.int .u64 (tf d ts).1.l.p),.pv (.int .u64 (tf d ts).1.l.i),.pv (.int .u64 (tf d ts).1.l.u),.pv (.bool (tf d ts).1.l.h),.fr e1 (aG (tf d ts).1.ps),.fr e2 (aF (tf d ts).1.vs),.pv (.bool (tf d ts).1.sl)],.pv (.int .i64 (tf d ts).2)])|_=>none
def xl (n t:List UInt8):Bool:=decide (n.length≤100)&&decide (t.length≤100)
@[simp] def Fg:List AV→Option (Prop×AV)|[.agg [.pv (.int .u8 k),.pv (.int .u64 p),.pv (.int .u64 i),.pv (.int .u64 s),.pv (.int .u64 e),.pv (.int .u64 u),.pv (.int .u64 v),.pv (.int .u64 c),.pv (.int .u64 z),.pv (.int .u64 m),.pv (.str n),.pv (.str t)]]=>some (True,.pv (.bool (xl n t)))|_=>none
theorem GS:cf Try.prog 6 Fg:=by
 intro ys φ r h hφ;unfold Fg at h;split at h;·rename_i k p i s e u v c z m n t;cases h;refine aP aq (by kernel_rfl) fn6 (by simp) ?_;unfold body6;have e1:∀l:List UInt8,decide ((l.length:Int)≤100)=decide (l.length≤100):=fun l=>decide_eq_decide.2 (by omega);have e2:∀l:List UInt8,((l.length:Int)≤100)=(l.length≤100):=fun l=>propext (by omega);by_cases h1:n.length≤100<;>simp(config := { maxSteps := 3000000 }) [xl,h1,e1,e2]
 ·cases h
def UZ (d:Dc):Bool:=d.vs.all (fun v=>decide (v.t.length≤100))&&decide (d.ps.length≤20)&&decide (d.vs.length≤20)
@[simp] noncomputable def WK:List AV→Option (Prop×AV)|[.agg ys]=>kF ys fun d=>some (d.vs.length≤maxLen,.pv (.bool (UZ d)))|_=>none
theorem Fx {a b:Vn}:a=b↔a.n=b.n∧a.b=b.b∧a.p=b.p∧a.i=b.i∧a.s=b.s∧a.z=b.z∧a.m=b.m∧a.t=b.t∧a.inl=b.inl∧a.fO=b.fO:=by cases a;cases b;simp
@[simp] noncomputable def P6:List AV→Option (Prop×AV)|[.pv (.ro a),.pv (.ro b)]=>(dec cK a).bind fun a=>(dec cK b).map fun b=>(a.length≤1000000000,.pv (.bool (decide (a=b))))|_=>none
theorem RJ:cf Try.prog 22 P6:=by
 intro ys φ r h hφ;unfold P6 at h;split at h
 ·obtain⟨a,ha,h1⟩:=Option.bind_eq_some_iff.1 h;obtain⟨b,hb,h2⟩:=Option.map_eq_some_iff.1 h1;clear h h1;cases h2;cases aR ha;cases aR hb;have hl:a.length≤1000000000:=hφ;refine aP aq (by kernel_rfl) fn22 (by simp) ?_;unfold body22;simp(config := { maxSteps := 3000000 });refine⟨fun hne=>?_,fun hlen=>?_⟩;·intro e;exact hne (by rw[e])
  refine aD (fun i:Nat=>i≤a.length∧a.take i=b.take i) (fun i=>⟨[(0,.pv (.ro (aF a))),(1,.pv (.ro (aF b))),(12,.pv (.int .i64 a.length)),(13,.pv (.int .i64 i))],[]⟩) (fun i=>a.length-i) [] 0 (by simp) ?_ ?_;·simp
  ·rintro i ⟨hi,ht⟩;have w2:IntKind.i64.wrap ((i:Int)+1)=(i:Int)+1:=wrap_i64 (by omega);by_cases hlt:i<a.length
   ·have r1:=b6 hlt;have hlb:i<b.length:=by omega
    have r2:=b6 hlb;by_cases he:a[i]=b[i];·obtain⟨f1,f2,f3,f4,f5,f6,f7,f8,f9,f10⟩:=Fx.1 he;simp(config := { maxSteps := 3000000 }) [w2,hlt,hlb,r1,r2,f1,f2,f3,f4,f5,f6,f7,f8,f9,f10];refine⟨i+1,⟨by omega,?_⟩,by omega,by omega⟩;rw[List.take_succ_eq_append_getElem hlt,List.take_succ_eq_append_getElem hlb,ht,he]
    ·have hn:¬a=b:=fun e=>he (by subst e;rfl);simp(config := { maxSteps := 3000000 }) [w2,hlt,hlb,r1,r2,hn];exact fun f1 f2 f3 f4 f5 f6 f7 f8 f9 f10=>absurd (Fx.2 ⟨f1,f2,f3,f4,f5,f6,f7,f8,f9,f10⟩) he
   ·simp(config := { maxSteps := 3000000 }) [hlt];rw[List.take_of_length_le (by omega),List.take_of_length_le (by omega)]at ht;exact ht
 ·cases h
@[simp] noncomputable def Wx:List AV→Option (Prop×AV)|[.agg xs,.agg ys]=>kF xs fun a=>kF ys fun b=>some (a.ps.length≤1000000000∧a.vs.length≤1000000000,.pv (.bool (decide (a=b))))|_=>none
theorem Wi:cf Try.prog 8 Wx:=by
 intro ys φ r h hφ;unfold Wx at h;split at h
 ·obtain⟨a,ha,h1⟩:=kf h;obtain⟨b,hb,h2⟩:=kf h1;subst ha hb;clear h h1;cases h2;obtain⟨⟨e,p,i,u,h'⟩,ps,vs,sl⟩:=a;obtain⟨⟨e2,p2,i2,u2,h2'⟩,ps2,vs2,sl2⟩:=b;obtain⟨h1,h2⟩:=hφ;have h1:ps.length≤1000000000:=h1;have h2:vs.length≤1000000000:=h2;refine aP (ak DM (ak RJ aq)) (by kernel_rfl) fn8 (by simp) ?_;unfold body8;have hs:(sl==sl2)=decide (sl=sl2):=by cases sl<;>cases sl2<;>rfl
  simp(config := { maxSteps := 3000000 }) [cellsD,h1,h2];rw[hs];ac_rfl
 ·cases h
@[simp] def Xi (e1 e2:TypeId):List AV→Option (Prop×AV)|[.agg [.pv (.int .u64 e),.pv (.int .u64 p),.pv (.int .u64 i),.pv (.int .u64 u),.pv (.bool h),.fr x ra,.fr y rb,.pv (.bool sl)]]=>if x=e1∧y=e2 then some (ra.length≤1000000∧rb.length≤1000000∧(∀r∈ra,r.length=3)∧∀r∈rb,r.length=10,.bk 0 [.aC []]) else none|_=>none
def ui (f:Nat):PV:=.val (.func (.func f) #[] #[])
def jf:List (PV×PV):=[(.int .u8 1,ui 31),(.int .u8 2,ui 32),(.int .u8 3,ui 33),(.int .u8 4,ui 34),(.int .u8 5,ui 35),(.int .u8 6,ui 36),(.int .u8 7,ui 37),(.int .u8 8,ui 38)]
def A0:List AV→Option (Prop×AV)|[]=>some (True,.pv (.mv jf))|_=>none
@[simp] theorem P7:A0 []=some (True,.pv (.mv jf)):=rfl
theorem IG:cf Try.prog 19 A0:=by
 intro ys φ r h hφ;unfold A0 at h;split at h;·cases h;refine aP aq (by kernel_rfl) fn19 (by simp) ?_;unfold body19;simp(config := { maxSteps := 3000000 }) [jf,ui]
 ·cases h
def Br (acc:List Int) (x:Int):List Int:=if acc.getLast?=some x then acc else acc++[x]
def jl (l:List Int):List Int:=l.foldl Br []
theorem zj (l:List Int) (x:Int):jl (l++[x])=Br (jl l) x:=by simp[jl,List.foldl_append]
theorem Cg (acc:List Int) (x:Int):(Br acc x).getLast?=some x:=by
 unfold Br;split;·assumption
 ·simp
theorem ic {l:List Int}{i:Nat} (h:i<l.length):jl (l.take (i+1))=Br (jl (l.take i)) l[i]:=by rw[List.take_succ_eq_append_getElem h,zj]
theorem sv {l:List Int}{i:Nat} (h:i<l.length):(jl (l.take (i+1))).getLast?=some l[i]:=by rw[ic h,Cg]
theorem C7 (acc:List Int) (x:Int):(Br acc x).length≤acc.length+1:=by unfold Br;split<;>simp
theorem pG (l:List Int):∀i,(jl (l.take i)).length≤i
 |0=>by simp[jl]|i+1=>by
  by_cases h:i<l.length;·rw[ic h];have:=C7 (jl (l.take i)) l[i];have:=pG l i;omega
  ·rw[List.take_of_length_le (by omega)];have:=pG l i;rw[List.take_of_length_le (by omega)]at this;omega
def tI (l:List Int):List Int:=l.mergeSort fun x y=>decide (x≤y)
def nM (l:List Int):List Int:=jl (tI l)
theorem Aa (l:List Int):(nM l).length≤l.length:=by have:=pG (tI l) (tI l).length;rw[List.take_of_length_le (Nat.le_refl _)]at this;unfold nM;simpa[tI]using this
theorem Ah (l:List Int) (i:Nat) (x:Int):(cj l).set i [.int .u64 x]=cj (l.set i x):=by unfold cj;rw[List.map_set];rfl
theorem sO (l:List Int):∀r∈cj l,r.length=1:=by intro r hr;simp only[cj,List.mem_map]at hr;obtain⟨c,_,rfl⟩:=hr;rfl
@[simp] noncomputable def PO:List AV→Option (Prop×AV)|[.fr e a]=>if e=23 then(dec cZ a).map fun l=>(l.length≤1000000,.fr 23 (cj (jl l))) else none|_=>none
theorem RO:sU Try.prog 77 PO:=by
 intro ys φ r h hφ;unfold PO at h;split at h
 ·rename_i e ra;split at h
  ·rename_i he;subst he;obtain⟨a,ha,h⟩:=Option.map_eq_some_iff.1 h;cases h;cases cU ha;have hl6:a.length≤1000000:=hφ;refine mz aq (by kernel_rfl) fn77 (by simp) (by simp[cr,ku,gW]) (by simp) ?_;unfold body77;by_cases h2:a.length<2
   ·have h2':(a.length:Int)<2:=by omega
    have hc:jl a=a:=by match a,h2 with|[],_=>rfl|[x],_=>rfl
    simp(config := { maxSteps := 3000000 }) [h2,h2',hc]
   ·have h2':¬(a.length:Int)<2:=by omega
    have w1:IntKind.i64.wrap 1=1:=wrap_i64 (by omega);apply af;·simp(config := { maxSteps := 3000000 });exact⟨rfl,rfl⟩
    apply af;·simp(config := { maxSteps := 3000000 }) [h2,h2'];exact⟨rfl,rfl⟩
    rw[bH];simp(config := { maxSteps := 3000000 });refine aD (fun i:Nat=>1≤i∧i≤a.length∧jl (a.take i)=a.take i) (fun i=>⟨[(0,.own 998),(3,.pv (.int .i64 i))],[(998,.arr 23 (cj a))]⟩) (fun i=>a.length-i) [] 1 ⟨by omega,by omega,by cases a with|nil=>rfl|cons x a=>rfl⟩ ?_ ?_;·simp[w1]
    ·rintro i ⟨hi1,hi2,hi3⟩;have w2:IntKind.i64.wrap ((i:Int)+1)=(i:Int)+1:=wrap_i64 (by omega);by_cases hlt:i<a.length
     ·obtain⟨p,rfl⟩:∃p,i=p+1:=⟨i-1,by omega⟩;have hpl:p<a.length:=by omega
      have w3:IntKind.i64.wrap (p:Int)=(p:Int):=wrap_i64 (by omega);have r1:rowAt (cj a) ((p:Int)+1)=[.int .u64 a[p+1]]:=by have:=im hlt;simpa using this
      have r2:=im hpl;have q1:(0:Int)≤(p:Int)+1:=by omega
      have q2:(p:Int)+1<a.length:=by omega
      have q3:(p:Int)<a.length:=by omega
      have hla:=sv hpl;by_cases hq:a[p+1]=a[p]
      ·apply af;·simp(config := { maxSteps := 3000000 }) [hlt,q2];exact⟨rfl,rfl⟩
       rw[bH];rw[aT];apply af;·simp(config := { maxSteps := 3000000 }) [w3,r1,r2,q1,q2,q3,hq];exact⟨hpl,rfl,rfl⟩
       apply gV rfl;apply af;·simp(config := { maxSteps := 3000000 }) [q1,q2];exact⟨⟨by omega,sO a⟩,rfl,rfl⟩
       rw[bH];apply af;·simp(config := { maxSteps := 3000000 });exact⟨rfl,rfl⟩
       rw[aT];obtain⟨i,hi⟩:∃i,i=p+1:=⟨_,rfl⟩;have hst:jl (a.take (i+1))=a.take i:=by subst hi;rw[ic hlt,Br,if_pos (by rw[hla,hq]),hi3]
       refine aD (fun x:Nat×Nat×List Int=>1≤x.2.1∧x.1<i+x.2.1∧i+x.2.1≤a.length∧x.2.2.length=a.length∧x.2.2.take x.1=jl (a.take (i+x.2.1))∧x.2.2.drop (i+x.2.1-1)=a.drop (i+x.2.1-1)) (fun x=>⟨[(0,.own 998),(3,.pv (.int .i64 x.1)),(4,.sub 998 23 i a.length),(5,.pv (.int .i64 x.2.1))],[(998,.arr 23 (cj x.2.2))]⟩) (fun x=>a.length-x.2.1) [] (i,1,a) ?_ ?_ ?_;·exact⟨Nat.le_refl _,by show i<i+1;omega,by show i+1≤a.length;omega,rfl,hst.symm,rfl⟩
       ·simp;omega
       ·rintro⟨k,j,b⟩ ⟨h1,h3,h4,h5,h6,h7⟩;dsimp only at h1 h3 h4 h5 h6 h7;obtain⟨m,hm⟩:∃m,m=i+j-1:=⟨_,rfl⟩;rw[←hm]at h7;have hm1:i+j=m+1:=by omega
        rw[hm1]at h6;have u2:IntKind.i64.wrap ((j:Int)+1)=(j:Int)+1:=wrap_i64 (by omega);have u3:IntKind.i64.wrap ((k:Int)+1)=(k:Int)+1:=wrap_i64 (by omega);have u4:IntKind.i64.wrap ((j:Int)-1)=(j:Int)-1:=wrap_i64 (by omega);have u5:(i:Int)+((j:Int)-1)=(m:Int):=by omega
        obtain⟨n,hn⟩:∃n,n=m+1:=⟨_,rfl⟩;have u6:(i:Int)+(j:Int)=(n:Int):=by omega
        rw[←hn]at h6;by_cases hjl:(j:Int)<(a.length:Int)-(i:Int)
        ·have hna:n<a.length:=by omega
         have hma:m<a.length:=by omega
         have hnb:n<b.length:=by omega
         have hmb:m<b.length:=by omega
         have hkb:k<b.length:=by omega
         have e1:=List.drop_eq_getElem_cons hmb;have e2:=List.drop_eq_getElem_cons hma;have e3:b[m]=a[m]∧b.drop n=a.drop n:=by rw[h7,e2]at e1;injection e1 with e1 e4;exact⟨e1.symm,by rw[hn];exact e4.symm⟩
         have e4:b[n]=a[n]:=by have e5:=List.drop_eq_getElem_cons hnb;have e6:=List.drop_eq_getElem_cons hna;rw[e3.2,e6]at e5;injection e5 with e5 _;exact e5.symm
         have r3:=im hnb;have r4:=im hmb;have r5:=im hkb;rw[e4]at r3;rw[e3.1]at r4;have hla:(jl (a.take n)).getLast?=some a[m]:=by rw[hn];exact sv hma
         have hstep:=ic hna;have hin:i+(j+1)=n+1:=by omega
         have j1:(0:Int)≤(j:Int)-1:=by omega
         have j2:(j:Int)-1<(a.length:Int)-(i:Int):=by omega
         have j3:(k:Int)<(b.length:Int):=by omega
         by_cases hq2:a[n]=a[m];·rw[Br,if_pos (by rw[hla,hq2])]at hstep;simp(config := { maxSteps := 3000000 }) [hjl,u2,u3,u4,u5,u6,r3,r4,j1,j2,j3,hq2];exact⟨hnb,by omega,hmb,k,j+1,b,⟨by omega,by omega,by omega,h5,by rw[hin,hstep,h6],by rw[hin];exact e3.2⟩,⟨⟨rfl,by omega⟩,rfl⟩,by omega⟩
         ·rw[Br,if_neg (by rw[hla];simp;exact fun h=>hq2 h.symm)]at hstep;simp(config := { maxSteps := 3000000 }) [hjl,u2,u3,u4,u5,u6,r3,r4,j1,j2,j3,hq2,Ah,r5];refine⟨hnb,by omega,hmb,hnb,hkb,k+1,j+1,b.set k a[n],⟨by omega,by omega,by omega,by rw[List.length_set];exact h5,?_,?_⟩,⟨⟨by omega,by omega⟩,rfl⟩,by omega⟩;·rw[hin,hstep,←h6,List.take_succ_eq_append_getElem (by simp;omega)];simp[List.take_set_of_le]
          ·rw[hin,Nat.add_sub_cancel,List.drop_set_of_lt (by omega)];exact e3.2
        ·have hma:m+1=a.length:=by omega
         have h6:b.take k=jl a:=by rw[h6,hn,hma,List.take_length]
         have h3r:=sO b;simp(config := { maxSteps := 3000000 }) [hjl];refine⟨⟨by omega,h3r⟩,⟨by omega,?_⟩,?_⟩
         ·rintro x (hx|⟨_,rfl⟩|hx);·exact h3r x (List.mem_of_mem_take hx)
          ·rfl
          ·exact h3r x (List.mem_of_mem_drop hx)
         ·rw[List.take_append_of_le_length (by simp;omega),List.take_take,Nat.min_self,←h6];simp[cj,List.map_take]
      ·have hst:jl (a.take (p+1+1))=a.take (p+1+1):=by rw[ic hlt,Br,if_neg (by rw[hla];simp;exact fun h=>hq h.symm),hi3,←List.take_succ_eq_append_getElem hlt]
       simp(config := { maxSteps := 3000000 }) [w2,w3,r1,r2,q1,q2,q3,hq];exact⟨hpl,p+2,⟨by omega,by omega,hst⟩,by rw[wrap_i64 (by omega)];omega,by omega⟩
     ·have hia:i=a.length:=by omega
      subst hia;rw[List.take_length]at hi3;simp(config := { maxSteps := 3000000 }) [hi3]
  ·cases h
 ·cases h
@[simp] noncomputable def WW:List AV→Option (Prop×AV)|[.pv (.ro a),.pv (.ro b)]=>(dec cZ a).bind fun la=>(dec cZ b).map fun lb=>(la.length≤1000000000,.pv (.bool (decide (la=lb))))|_=>none
@[simp] noncomputable def Xt:List AV→Option (Prop×AV)|[.pv (.ro a)]=>(dec rowP a).map fun l=>(l.length≤1000000,.fr 23 (cj (nM (l.map Pn.v))))|_=>none
@[simp] noncomputable def XA:List AV→Option (Prop×AV)|[.aC [.agg [.fr e a]]]=>if e=86 then(dec rowP a).map fun l=>(l.length≤1000000,.bk 0 [.aC [],.agg [.fr 86 (aG (l.map fun _=>⟨77,77,0⟩))]]) else none|_=>none
end Go.Proofs.Ytlmkcmfmfahcfaa.Ab
namespace Go.Proofs.Ytlmkcmfmfahcfaa.Ab
open Go Go.RowKit Go.Sort R
@[simp] noncomputable def PX:List AV→Option (Prop×AV)|[.pv (.int .u64 a)]=>some (True,.pv (.bool false))|_=>none
theorem OV:cf Try.prog 100 PX:=by
 intro ys φ r h hφ;unfold PX at h;split at h;·cases h;refine aP aq (by kernel_rfl) fn100 (by simp) ?_;unfold body100;simp(config := { maxSteps := 3000000 })
 ·cases h
@[simp] noncomputable def FU:List AV→Option (Prop×AV)|[.pv (.int k a),.pv (.int m b)]=>some (k=.u64∧m=.u64,.pv (.bool (ltInt a b)))|_=>none
theorem lH:cf Try.prog 90 FU:=by
 intro ys φ r h hφ;unfold FU at h;split at h;·cases h;obtain⟨rfl,rfl⟩:=hφ;refine aP (ak OV aq) (by kernel_rfl) fn90 (by simp) ?_;unfold body90;simp(config := { maxSteps := 3000000 }) [ltInt]
 ·cases h
def rA (d:Array Int):List (List PV):=cj d.toList
@[simp] theorem zD (d:Array Int):(rA d).length=d.size:=by simp[rA]
def gA (d:Array Int) (i:Nat):Int:=d[i]!
theorem aX {d:Array Int}{i:Nat} (h:i<d.size):rowAt (rA d) (i:Int)=[.int .u64 (gA d i)]:=by have:=im (l:=d.toList) (i:=i) (by simpa using h);unfold rA gA;rw[this,getElem!_pos d i h];rfl
@[simp] theorem VU (d:Array Int) (i:Nat) (x:Int):(rA d).set i [.int .u64 x]=rA (d.setIfInBounds i x):=by unfold rA cj;rw[Array.toList_setIfInBounds,List.map_set];rfl
theorem vh (l:List Int):cj l=rA l.toArray:=rfl
theorem size_swp (d:Array Int) (i j:Nat):(swp d i j).size=d.size:=by simp[swp]
noncomputable def zi (F:Array Int→Nat→Nat→Array Int):List AV→Option (Prop×AV)|[.aC [.fr e a],.pv (.int .i64 p),.pv (.int .i64 q)]=>if e=23 then(dec cZ a).map fun l=>(0≤p∧p≤q∧q≤(l.length:Int)∧l.length≤1000000,.bk 0 [.aC [],.fr 23 (rA (F l.toArray p.toNat q.toNat))]) else none|_=>none
theorem gg (d:Array Int):dec cZ (rA d)=some d.toList:=Aw _
@[simp] theorem SZ (F:Array Int→Nat→Nat→Array Int) (e:TypeId) (d:Array Int) (p q:Int):zi F [.aC [.fr e (rA d)],.pv (.int .i64 p),.pv (.int .i64 q)]=if e=23 then some (0≤p∧p≤q∧q≤(d.size:Int)∧d.size≤1000000,.bk 0 [.aC [],.fr 23 (rA (F d p.toNat q.toNat))]) else none:=by show(if e=23 then(dec cZ (rA d)).map _ else none)=_;rw[gg];simp
theorem pg {F:Array Int→Nat→Nat→Array Int}{ys:List AV}{φ:Prop}{r:AV} (h:zi F ys=some (φ,r)):∃(d:Array Int) (p q:Int),ys=[.aC [.fr 23 (rA d)],.pv (.int .i64 p),.pv (.int .i64 q)]∧φ=(0≤p∧p≤q∧q≤(d.size:Int)∧d.size≤1000000)∧r=.bk 0 [.aC [],.fr 23 (rA (F d p.toNat q.toNat))]:=by
 unfold zi at h;split at h
 ·split at h;·rename_i e;subst e;obtain⟨l,hl,h⟩:=Option.map_eq_some_iff.1 h;cases h;cases cU hl;exact⟨l.toArray,_,_,by rw[vh],by simp,rfl⟩
  ·cases h
 ·cases h
theorem kG (a:Nat):∀(j:Nat) (d:Array Int),(insInner ltInt a j d).size=d.size
 |0,d=>rfl|j+1,d=>by
  unfold insInner;split;·rw[kG a j,size_swp]
  ·rfl
theorem Hf:dk Try.prog 84 (zi (insertionSort ltInt)):=by
 intro ys φ r h hφ;obtain⟨d,p,q,rfl,rfl,rfl⟩:=pg h;obtain⟨h1,h2,h3,h4⟩:=hφ;obtain⟨a,rfl⟩:∃a:Nat,p=a:=⟨p.toNat,by omega⟩;obtain⟨b,rfl⟩:∃b:Nat,q=b:=⟨q.toNat,by omega⟩;rw[Int.toNat_natCast,Int.toNat_natCast];refine b5 (ak lH aq) (by kernel_rfl) fn84 (by simp) rfl (by simp) ?_;unfold body84;have w0:IntKind.i64.wrap ((a:Int)+1)=(a:Int)+1:=wrap_i64 (by omega);generalize hW:insertionSort ltInt d a b=W;simp(config := { maxSteps := 3000000 }) [w0];refine aD (fun x:Nat×Array Int=>(a+1≤x.1∧x.1≤max (a+1) b)∧x.2.size=d.size∧insOuter ltInt a b x.1 x.2=W) (fun x=>⟨[(0,.own 999),(1,.pv (.int .i64 (a:Int))),(2,.pv (.int .i64 (b:Int))),(6,.pv (.int .i64 (x.1:Int)))],[(999,.arr 23 (rA x.2))]⟩) (fun x=>max (a+1) b-x.1) [] (a+1,d) ⟨⟨Nat.le_refl _,Nat.le_max_left _ _⟩,rfl,hW⟩ ?_ ?_;·simp
 ·rintro⟨i,D⟩ ⟨⟨hi1,hi2⟩,hD,hI⟩;have hi1:a+1≤i:=hi1;have hi2:i≤max (a+1) b:=hi2;have hD:D.size=d.size:=hD;have hI:insOuter ltInt a b i D=W:=hI;have w2:IntKind.i64.wrap ((i:Int)+1)=(i:Int)+1:=wrap_i64 (by omega);by_cases hlt:i<b
  ·unfold insOuter at hI;rw[if_pos hlt]at hI;obtain⟨T,hT⟩:∃T,T=insInner ltInt a i D:=⟨_,rfl⟩;rw[←hT]at hI;have hTs:T.size=d.size:=by rw[hT,kG,hD]
   apply af;·simp(config := { maxSteps := 3000000 }) [hlt];exact⟨rfl,rfl⟩
   rw[bH];rw[aT];apply af;·simp(config := { maxSteps := 3000000 });exact⟨rfl,rfl⟩
   rw[aT];refine aD (fun y:Nat×Array Int=>(a≤y.1∧y.1≤i)∧y.2.size=d.size∧insInner ltInt a y.1 y.2=T) (fun y=>⟨[(0,.own 999),(1,.pv (.int .i64 (a:Int))),(2,.pv (.int .i64 (b:Int))),(6,.pv (.int .i64 (i:Int))),(7,.pv (.int .i64 (y.1:Int)))],[(999,.arr 23 (rA y.2))]⟩) (fun y=>y.1) [] (i,D) ⟨⟨by omega,Nat.le_refl _⟩,hD,hT.symm⟩ ?_ ?_;·simp
   ·rintro⟨j,E⟩ ⟨⟨hj1,hj2⟩,hE,hJ⟩;have hj1:a≤j:=hj1;have hj2:j≤i:=hj2;have hE:E.size=d.size:=hE;have hJ:insInner ltInt a j E=T:=hJ;have q3:(j:Int)<(E.size:Int):=by omega
    have r1:=aX (d:=E) (i:=j) (by omega);cases j with|zero=>
     have ha0:a=0:=by omega
     subst ha0;have hJ:E=T:=hJ;subst hJ;have w3:IntKind.i64.wrap (-1)=-1:=wrap_i64 (by omega);have r2:rowAt (rA E) (-1)=[.int .u64 (gA E 0)]:=aX (d:=E) (i:=0) (by omega);have r1:rowAt (rA E) 0=[.int .u64 (gA E 0)]:=r1;simp(config := { maxSteps := 3000000 }) [w3,r1,r2,w2];exact⟨i+1,E,⟨by omega,hE,hI⟩,⟨by omega,rfl⟩,by omega⟩|succ k=>
     have w3:IntKind.i64.wrap ((k:Int)+1-1)=(k:Int):=by rw[wrap_i64 (by omega)];omega
     have w4:IntKind.i64.wrap (k:Int)=(k:Int):=wrap_i64 (by omega);have r1:rowAt (rA E) ((k:Int)+1)=[.int .u64 (gA E (k+1))]:=by simpa using r1
     have r2:=aX (d:=E) (i:=k) (by omega);have q2:(0:Int)≤(k:Int)+1:=by omega
     have q3:(k:Int)+1<(E.size:Int):=by omega
     have q4:(k:Int)<(E.size:Int):=by omega
     unfold insInner at hJ;by_cases hja:a<k+1
     ·have q1:(a:Int)<(k:Int)+1:=by omega
      cases hl:ltInt E[k+1]! E[k]! with|true=>have hl2:ltInt (gA E (k+1)) (gA E k)=true:=hl;rw[hl,if_pos (by simp;omega)]at hJ;have r3:=aX (d:=E.setIfInBounds (k+1) (gA E k)) (i:=k) (by rw[Array.size_setIfInBounds];omega);simp(config := { maxSteps := 3000000 }) [w3,w4,r1,r2,r3,q1,q2,q3,q4,hl2];exact⟨by omega,k,swp E (k+1) k,⟨by omega,by rw[size_swp,hE],hJ⟩,⟨rfl,rfl⟩,by omega⟩|false=>have hl2:ltInt (gA E (k+1)) (gA E k)=false:=hl;rw[hl,if_neg (by simp)]at hJ;subst hJ;simp(config := { maxSteps := 3000000 }) [w3,w4,r1,r2,q1,q2,q3,q4,hl2,w2];exact⟨by omega,i+1,E,⟨by omega,hE,hI⟩,⟨by omega,rfl⟩,by omega⟩
     ·have q1:¬(a:Int)<(k:Int)+1:=by omega
      rw[if_neg (by simp;omega)]at hJ;subst hJ;simp(config := { maxSteps := 3000000 }) [w3,w4,r1,r2,q1,q2,q3,q4,w2];exact⟨i+1,E,⟨by omega,hE,hI⟩,⟨by omega,rfl⟩,by omega⟩
  ·unfold insOuter at hI;rw[if_neg hlt]at hI;subst hI;simp(config := { maxSteps := 3000000 }) [hlt]
theorem jx {d:Array Int}{i:Nat} (h:d.size≤i):rowAt (rA d) (i:Int)=[]:=by unfold rowAt;rw[Int.toNat_natCast,List.getD_eq_getElem?_getD,List.getElem?_eq_none (by rw[zD];exact h)];rfl
theorem nP (f:Fr):f.st=⟨look f.vs,ab f.os⟩:=rfl
noncomputable def GV:List AV→Option (Prop×AV)|[.aC [.fr e a],.pv (.int .i64 lo),.pv (.int .i64 hi),.pv (.int .i64 fi)]=>if e=23 then(dec cZ a).map fun l=>((0≤lo∧lo≤1000000)∧0≤hi∧0≤fi∧fi+hi≤(l.length:Int)∧l.length≤1000000,.bk 0 [.aC [],.fr 23 (rA (siftDown ltInt hi.toNat fi.toNat lo.toNat l.toArray))]) else none|_=>none
@[simp] theorem SN (e:TypeId) (d:Array Int) (lo hi fi:Int):GV [.aC [.fr e (rA d)],.pv (.int .i64 lo),.pv (.int .i64 hi),.pv (.int .i64 fi)]=if e=23 then some ((0≤lo∧lo≤1000000)∧0≤hi∧0≤fi∧fi+hi≤(d.size:Int)∧d.size≤1000000,.bk 0 [.aC [],.fr 23 (rA (siftDown ltInt hi.toNat fi.toNat lo.toNat d))]) else none:=by show(if e=23 then(dec cZ (rA d)).map _ else none)=_;rw[gg];simp
theorem RY:dk Try.prog 95 GV:=by
 intro ys φ r h hφ;unfold GV at h;split at h
 ·rename_i e ra lo hi fi;split at h
  ·rename_i he;subst he;obtain⟨l,hl,h⟩:=Option.map_eq_some_iff.1 h;cases h;cases cU hl;obtain⟨⟨h1,h2⟩,h3,h4,h5,h6⟩:=hφ;obtain⟨lo,rfl⟩:∃a:Nat,lo=a:=⟨lo.toNat,by omega⟩;obtain⟨hi,rfl⟩:∃a:Nat,hi=a:=⟨hi.toNat,by omega⟩;obtain⟨fi,rfl⟩:∃a:Nat,fi=a:=⟨fi.toNat,by omega⟩;rw[Int.toNat_natCast,Int.toNat_natCast,Int.toNat_natCast,vh];obtain⟨d,hd⟩:∃d,d=l.toArray:=⟨_,rfl⟩;have hds:d.size=l.length:=by rw[hd];simp
   rw[←hd];generalize hW:siftDown ltInt hi fi lo d=W;refine b5 (ak lH aq) (by kernel_rfl) fn95 (by simp) rfl (by simp) ?_;unfold body95;simp(config := { maxSteps := 3000000 });refine aD (fun x:Nat×Array Int=>x.1≤1000000∧x.2.size=l.length∧siftDown ltInt hi fi x.1 x.2=W) (fun x=>⟨[(0,.own 999),(1,.pv (.int .i64 (lo:Int))),(2,.pv (.int .i64 (hi:Int))),(3,.pv (.int .i64 (fi:Int))),(8,.pv (.int .i64 (x.1:Int)))],[(999,.arr 23 (rA x.2))]⟩) (fun x=>hi-x.1) [] (lo,d) ⟨by show lo≤_;omega,hds,hW⟩ ?_ ?_;·simp
   ·rintro⟨i,D⟩ ⟨hi1,hD,hI⟩;have hi1:i≤1000000:=hi1;have hD:D.size=l.length:=hD;have hI:siftDown ltInt hi fi i D=W:=hI;have w1:IntKind.i64.wrap (2*(i:Int))=2*(i:Int):=wrap_i64 (by omega);have w2:IntKind.i64.wrap (2*(i:Int)+1)=2*(i:Int)+1:=wrap_i64 (by omega);have w3:IntKind.i64.wrap (2*(i:Int)+1+1)=2*(i:Int)+2:=by rw[wrap_i64 (by omega)];omega
    obtain⟨r0,e0⟩:∃r0,r0=fi+i:=⟨_,rfl⟩;obtain⟨c1,e1⟩:∃c1,c1=fi+(2*i+1):=⟨_,rfl⟩;obtain⟨c2,e2⟩:∃c2,c2=fi+(2*i+2):=⟨_,rfl⟩;have w4:IntKind.i64.wrap ((fi:Int)+(2*(i:Int)+1))=(c1:Int):=by rw[wrap_i64 (by omega)];omega
    have w5:IntKind.i64.wrap ((c1:Int)+1)=(c2:Int):=by rw[wrap_i64 (by omega)];omega
    have w6:IntKind.i64.wrap ((fi:Int)+(i:Int))=(r0:Int):=by rw[wrap_i64 (by omega)];omega
    have w7:IntKind.i64.wrap ((fi:Int)+(2*(i:Int)+2))=(c2:Int):=by rw[wrap_i64 (by omega)];omega
    unfold siftDown at hI;rw[←e0,←e1,←e2,show c1+1=c2 by omega]at hI;by_cases hc:2*i+1≥hi
    ·rw[dif_pos hc]at hI;subst hI;have hc2:(hi:Int)≤2*(i:Int)+1:=by omega
     simp(config := { maxSteps := 3000000 }) [w1,w2,hc2]
    ·rw[dif_neg hc]at hI;have hc2:¬(hi:Int)≤2*(i:Int)+1:=by omega
     have q1:r0<D.size:=by omega
     have r1:=aX q1;have q2:c1<D.size:=by omega
     have r2:=aX q2;rw[nP,aT];apply af;·simp(config := { maxSteps := 3000000 }) [w1,w2];exact⟨rfl,rfl⟩
     apply af;·simp(config := { maxSteps := 3000000 }) [hc2];exact⟨rfl,rfl⟩
     by_cases hg1:2*i+2<hi
     ·have g1:2*(i:Int)+2<(hi:Int):=by omega
      have q4:c2<D.size:=by omega
      have r4:=aX q4;cases hg2:ltInt D[c1]! D[c2]! with
      |true=>
       have hg3:ltInt (gA D c1) (gA D c2)=true:=hg2;rw[if_pos (by rw[hg2];simp;omega),dif_pos hg1]at hI;apply af;·simp(config := { maxSteps := 3000000 }) [w3,w4,w5,g1,q2,q4,r2,r4,hg3];exact⟨rfl,rfl⟩
       cases hb:ltInt D[r0]! D[c2]! with|false=>have hb2:ltInt (gA D r0) (gA D c2)=false:=hb;rw[hb,if_pos (by simp)]at hI;subst hI;simp(config := { maxSteps := 3000000 }) [w6,w7,q1,q4,r1,r4,hb2]|true=>
        have hb2:ltInt (gA D r0) (gA D c2)=true:=hb;rw[hb,if_neg (by simp)]at hI;have z1:=aX (d:=D.setIfInBounds r0 (gA D c2)) (i:=c2) (by rw[Array.size_setIfInBounds];omega);apply af;·simp(config := { maxSteps := 3000000 }) [w6,w7,q1,q4,r1,r4,hb2];exact⟨rfl,rfl⟩
        simp(config := { maxSteps := 3000000 }) [w6,w7,q1,q4,r1,r4,z1];exact⟨2*i+2,swp D r0 c2,⟨by omega,by rw[size_swp,hD],hI⟩,⟨by omega,rfl⟩,by omega⟩
      |false=>
       have hg3:ltInt (gA D c1) (gA D c2)=false:=hg2;rw[if_neg (by rw[hg2];simp)]at hI;apply af;·simp(config := { maxSteps := 3000000 }) [w3,w4,w5,g1,q2,q4,r2,r4,hg3];exact⟨rfl,rfl⟩
       cases hb:ltInt D[r0]! D[c1]! with|false=>have hb2:ltInt (gA D r0) (gA D c1)=false:=hb;rw[hb,if_pos (by simp)]at hI;subst hI;simp(config := { maxSteps := 3000000 }) [w6,w4,q1,q2,r1,r2,hb2]|true=>
        have hb2:ltInt (gA D r0) (gA D c1)=true:=hb;rw[hb,if_neg (by simp)]at hI;have z1:=aX (d:=D.setIfInBounds r0 (gA D c1)) (i:=c1) (by rw[Array.size_setIfInBounds];omega);apply af;·simp(config := { maxSteps := 3000000 }) [w6,w4,q1,q2,r1,r2,hb2];exact⟨rfl,rfl⟩
        simp(config := { maxSteps := 3000000 }) [w6,w4,q1,q2,r1,r2,z1];exact⟨2*i+1,swp D r0 c1,⟨by omega,by rw[size_swp,hD],hI⟩,⟨by omega,rfl⟩,by omega⟩
     ·have g1:¬2*(i:Int)+2<(hi:Int):=by omega
      rw[if_neg (by simp;omega)]at hI;rcases Nat.lt_or_ge c2 D.size with q4|q4
      ·have r4:=aX q4;apply af;·simp(config := { maxSteps := 3000000 }) [w3,w4,w5,g1,q2,q4,r2,r4];exact⟨rfl,rfl⟩
       cases hb:ltInt D[r0]! D[c1]! with|false=>have hb2:ltInt (gA D r0) (gA D c1)=false:=hb;rw[hb,if_pos (by simp)]at hI;subst hI;simp(config := { maxSteps := 3000000 }) [w6,w4,q1,q2,r1,r2,hb2]|true=>
        have hb2:ltInt (gA D r0) (gA D c1)=true:=hb;rw[hb,if_neg (by simp)]at hI;have z1:=aX (d:=D.setIfInBounds r0 (gA D c1)) (i:=c1) (by rw[Array.size_setIfInBounds];omega);apply af;·simp(config := { maxSteps := 3000000 }) [w6,w4,q1,q2,r1,r2,hb2];exact⟨rfl,rfl⟩
        simp(config := { maxSteps := 3000000 }) [w6,w4,q1,q2,r1,r2,z1];exact⟨2*i+1,swp D r0 c1,⟨by omega,by rw[size_swp,hD],hI⟩,⟨by omega,rfl⟩,by omega⟩
      ·have r4:=jx q4;apply af;·simp(config := { maxSteps := 3000000 }) [w3,w4,w5,g1,q2,r2,r4];exact⟨rfl,rfl⟩
       cases hb:ltInt D[r0]! D[c1]! with|false=>have hb2:ltInt (gA D r0) (gA D c1)=false:=hb;rw[hb,if_pos (by simp)]at hI;subst hI;simp(config := { maxSteps := 3000000 }) [w6,w4,q1,q2,r1,r2,hb2]|true=>
        have hb2:ltInt (gA D r0) (gA D c1)=true:=hb;rw[hb,if_neg (by simp)]at hI;have z1:=aX (d:=D.setIfInBounds r0 (gA D c1)) (i:=c1) (by rw[Array.size_setIfInBounds];omega);apply af;·simp(config := { maxSteps := 3000000 }) [w6,w4,q1,q2,r1,r2,hb2];exact⟨rfl,rfl⟩
        simp(config := { maxSteps := 3000000 }) [w6,w4,q1,q2,r1,r2,z1];exact⟨2*i+1,swp D r0 c1,⟨by omega,by rw[size_swp,hD],hI⟩,⟨by omega,rfl⟩,by omega⟩
  ·cases h
 ·cases h
theorem pH (hi fi:Nat):∀(n root:Nat) (d:Array Int),hi-root≤n→(siftDown ltInt hi fi root d).size=d.size:=by intro n;induction n with|zero=>intro root d h;unfold siftDown;rw[dif_pos (by omega)]|succ n ih=>
 intro root d h;unfold siftDown;split;·rfl
 ·split
  ·split;·rfl
   ·split;·rw[ih _ _ (by omega),size_swp]
    ·rfl
  ·split;·rfl
   ·rw[ih _ _ (by omega),size_swp]
theorem qw (hi fi:Nat):∀(k:Nat) (d:Array Int),(heapBuild ltInt hi fi k d).size=d.size|0,d=>rfl|k+1,d=>by unfold heapBuild;rw[qw hi fi k,pH hi fi hi k d (by omega)]
theorem Ie:dk Try.prog 85 (zi (heapSort ltInt)):=by
 intro ys φ r h hφ;obtain⟨d,p,q,rfl,rfl,rfl⟩:=pg h;obtain⟨h1,h2,h3,h4⟩:=hφ;obtain⟨a,rfl⟩:∃a:Nat,p=a:=⟨p.toNat,by omega⟩;obtain⟨b,rfl⟩:∃b:Nat,q=b:=⟨q.toNat,by omega⟩;rw[Int.toNat_natCast,Int.toNat_natCast];refine b5 (ba (ks:=[2,0,0,0]) RY (by kernel_rfl) aq) (by kernel_rfl) fn85 (by simp) rfl (by simp) ?_;unfold body85;obtain⟨m,hm⟩:∃m,m=b-a:=⟨_,rfl⟩;have w0:IntKind.i64.wrap ((b:Int)-(a:Int))=(m:Int):=by rw[wrap_i64 (by omega)];omega
 have w1:IntKind.i64.wrap ((m:Int)-1)=(m:Int)-1:=wrap_i64 (by omega);obtain⟨k0,hk0⟩:∃k0,k0=(m-1)/2+1:=⟨_,rfl⟩;have w2:((m:Int)-1).tdiv 2=(k0:Int)-1:=by
  rcases Nat.eq_zero_or_pos m with h0|h0
  ·have:k0=1:=by omega
   rw[h0,this];decide
  ·rw[Int.tdiv_eq_ediv_of_nonneg (by omega)];omega
 have w3:IntKind.i64.wrap ((k0:Int)-1)=(k0:Int)-1:=wrap_i64 (by omega);unfold heapSort;rw[←hm,←hk0];generalize hW:heapPop ltInt a m (heapBuild ltInt m a k0 d)=W;generalize hB:heapBuild ltInt m a k0 d=B at hW;apply af;·simp(config := { maxSteps := 3000000 });exact⟨rfl,rfl⟩
 apply af;·simp(config := { maxSteps := 3000000 });exact⟨rfl,rfl⟩
 apply af;·simp(config := { maxSteps := 3000000 }) [w0];exact⟨rfl,rfl⟩
 apply af
 ·simp(config := { maxSteps := 3000000 }) [w1,w2,w3];refine aD (fun x:Nat×Array Int=>x.1≤k0∧x.2.size=d.size∧heapBuild ltInt m a x.1 x.2=B) (fun x=>⟨[(0,.own 999),(6,.pv (.int .i64 (a:Int))),(7,.pv (.int .i64 0)),(8,.pv (.int .i64 (m:Int))),(9,.pv (.int .i64 ((x.1:Int)-1)))],[(999,.arr 23 (rA x.2))]⟩) (fun x=>x.1) [] (k0,d) ⟨Nat.le_refl _,rfl,hB⟩ ?_ ?_;·simp
  ·rintro⟨k,D⟩ ⟨hk,hD,hI⟩;have hk:k≤k0:=hk;have hD:D.size=d.size:=hD;have hI:heapBuild ltInt m a k D=B:=hI;cases k with|zero=>have hI:D=B:=hI;rw[hI];simp(config := { maxSteps := 3000000 });exact⟨rfl,rfl⟩|succ k=>
    have hI:heapBuild ltInt m a k (siftDown ltInt m a k D)=B:=hI;have hs:=pH m a m k D (by omega);have v1:(k:Int)+1-1=(k:Int):=by omega
    have v2:IntKind.i64.wrap ((k:Int)-1)=(k:Int)-1:=wrap_i64 (by omega);have v3:(k:Int)≤1000000:=by omega
    have v4:(a:Int)+(m:Int)≤(D.size:Int):=by omega
    have v5:D.size≤1000000:=by omega
    simp(config := { maxSteps := 3000000 }) [v1,v2,v3,v4,v5];exact⟨k,siftDown ltInt m a k D,⟨by omega,by rw[hs,hD],hI⟩,⟨rfl,rfl⟩,by omega⟩
 have hBs:B.size=d.size:=by rw[←hB,qw]
 apply af;·simp(config := { maxSteps := 3000000 }) [w1];exact⟨rfl,rfl⟩
 rw[aT];refine aD (fun x:Nat×Array Int=>x.1≤m∧x.2.size=d.size∧heapPop ltInt a x.1 x.2=W) (fun x=>⟨[(0,.own 999),(6,.pv (.int .i64 (a:Int))),(7,.pv (.int .i64 0)),(10,.pv (.int .i64 ((x.1:Int)-1)))],[(999,.arr 23 (rA x.2))]⟩) (fun x=>x.1) [] (m,B) ⟨Nat.le_refl _,hBs,hW⟩ ?_ ?_;·simp
 ·rintro⟨k,D⟩ ⟨hk,hD,hI⟩;have hk:k≤m:=hk;have hD:D.size=d.size:=hD;have hI:heapPop ltInt a k D=W:=hI;cases k with|zero=>have hI:D=W:=hI;rw[hI];simp(config := { maxSteps := 3000000 })|succ k=>
   have hI:heapPop ltInt a k (siftDown ltInt k a 0 (swp D a (a+k)))=W:=hI;have hs:=pH k a k 0 (swp D a (a+k)) (by omega);have v1:(k:Int)+1-1=(k:Int):=by omega
   have v2:IntKind.i64.wrap ((k:Int)-1)=(k:Int)-1:=wrap_i64 (by omega);obtain⟨c,hc⟩:∃c,c=a+k:=⟨_,rfl⟩;rw[←hc]at hI hs;have v3:IntKind.i64.wrap ((a:Int)+(k:Int))=(c:Int):=by rw[wrap_i64 (by omega)];omega
   have q1:a<D.size:=by omega
   have q2:c<D.size:=by omega
   have r1:=aX q1;have r2:=aX q2;have r3:=aX (d:=D.setIfInBounds a (gA D c)) (i:=c) (by rw[Array.size_setIfInBounds];omega);have v4:(a:Int)+(k:Int)≤(D.size:Int):=by omega
   have v5:D.size≤1000000:=by omega
   apply af;·simp(config := { maxSteps := 3000000 }) [v1];exact⟨rfl,rfl⟩
   rw[bH];rw[aT];apply af;·simp(config := { maxSteps := 3000000 }) [v1,v3,q1,q2,r1,r2,r3];exact⟨rfl,rfl⟩
   rw[show(D.setIfInBounds a (gA D c)).setIfInBounds c (gA D a)=swp D a c from rfl];have v6:(swp D a c).size=D.size:=size_swp _ _ _;simp(config := { maxSteps := 3000000 }) [v1,v2,v4,v5,v6];exact⟨k,siftDown ltInt k a 0 (swp D a c),⟨by omega,by rw[hs,size_swp,hD],hI⟩,⟨rfl,rfl⟩,by omega⟩
theorem Po:dk Try.prog 88 (zi reverseRange):=by
 intro ys φ r h hφ;obtain⟨d,p,q,rfl,rfl,rfl⟩:=pg h;obtain⟨h1,h2,h3,h4⟩:=hφ;obtain⟨a,rfl⟩:∃a:Nat,p=a:=⟨p.toNat,by omega⟩;obtain⟨b,rfl⟩:∃b:Nat,q=b:=⟨q.toNat,by omega⟩;rw[Int.toNat_natCast,Int.toNat_natCast];refine b5 aq (by kernel_rfl) fn88 (by simp) rfl (by simp) ?_;unfold body88;have w0:IntKind.i64.wrap ((b:Int)-1)=(b:Int)-1:=wrap_i64 (by omega);unfold reverseRange;generalize hW:reverseLoop a (b-1) d=W;simp(config := { maxSteps := 3000000 }) [w0];refine aD (fun x:(Nat×Nat)×Array Int=>(a≤x.1.1∧x.1.1≤b)∧x.1.2≤b∧x.2.size=d.size∧reverseLoop x.1.1 (x.1.2-1) x.2=W) (fun x=>⟨[(0,.own 999),(6,.pv (.int .i64 (x.1.1:Int))),(7,.pv (.int .i64 ((x.1.2:Int)-1)))],[(999,.arr 23 (rA x.2))]⟩) (fun x=>x.1.2) [] ((a,b),d) ⟨⟨Nat.le_refl _,by show a≤b;omega⟩,Nat.le_refl _,rfl,hW⟩ ?_ ?_;·simp
 ·rintro⟨⟨i,j⟩,D⟩ ⟨⟨hi1,hi2⟩,hj,hD,hI⟩;have hi1:a≤i:=hi1;have hi2:i≤b:=hi2;have hj:j≤b:=hj;have hD:D.size=d.size:=hD;have hI:reverseLoop i (j-1) D=W:=hI;unfold reverseLoop at hI;by_cases hlt:i<j-1
  ·rw[if_pos hlt]at hI;obtain⟨c,hc⟩:∃c,c=j-1:=⟨_,rfl⟩;rw[←hc]at hI;have e1:(j:Int)-1=(c:Int):=by omega
   have g1:i<c:=by omega
   have w1:IntKind.i64.wrap ((i:Int)+1)=(i:Int)+1:=wrap_i64 (by omega);have w2:IntKind.i64.wrap ((c:Int)-1)=(c:Int)-1:=wrap_i64 (by omega);have q1:i<D.size:=by omega
   have q2:c<D.size:=by omega
   have r1:=aX q1;have r2:=aX q2;have r3:=aX (d:=D.setIfInBounds i (gA D c)) (i:=c) (by rw[Array.size_setIfInBounds];omega);simp(config := { maxSteps := 3000000 }) [e1,g1,w1,w2,q1,q2,r1,r2,r3];exact⟨i+1,c,swp D i c,⟨by omega,by omega,by rw[size_swp,hD],hI⟩,⟨⟨by omega,rfl⟩,rfl⟩,by omega⟩
  ·rw[if_neg hlt]at hI;subst hI;have g1:¬(i:Int)<(j:Int)-1:=by omega
   simp(config := { maxSteps := 3000000 }) [g1]
end Go.Proofs.Ytlmkcmfmfahcfaa.Ab
