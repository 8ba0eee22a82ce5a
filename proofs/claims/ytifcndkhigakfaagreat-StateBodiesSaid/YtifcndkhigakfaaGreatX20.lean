/- Frames of any bodies are parsed as the document says. The law's call returns true, and what is handed in reads behind it as it did. No condition. -/
import Derived.Test.YtifcndkhigakfaaGreatX18
set_option linter.unusedVariables false
set_option linter.unusedSimpArgs false
set_option linter.unnecessarySimpa false
set_option maxHeartbeats 40000000
set_option maxRecDepth 100000
namespace Go.Proofs.YtifcndkhigakfaaGreat.Ab
open Go Go.RowKit R
def iZ (l:List (List UInt8)):List (List PV):=l.map fun b=>[.ro (bytesRow b)]
@[simp] theorem Ic (l:List (List UInt8)):(iZ l).length=l.length:=by simp[iZ]
theorem Ea {l:List (List UInt8)}{i:Nat} (h:i<l.length):rowAt (iZ l) (i:Int)=[.ro (bytesRow l[i])]:=by unfold rowAt iZ;simp[h]
theorem I4 (k:UInt8) (b:List UInt8) (h:b.length≤200):(je k b).length≤215:=by have h1:=ph k b (by omega);show(sj k b++ey _).length≤_;rw[List.length_append];have h3:∀x,(ey x).length=4:=fun x=>rfl;rw[h3];omega
theorem zi (k:UInt8):∀(l:List (List UInt8)),(∀b∈l,b.length≤200)→(fT (l.map fun b=>⟨k,b⟩)).length≤215*l.length|[],_=>by simp[fT]|b::l,h=>by have h1:=I4 k b (h b (by simp));have h2:=zi k l fun c hc=>h c (by simp[hc]);unfold fT at h2 ⊢;simp only[List.map_cons,List.flatMap_cons,List.length_append,List.length_cons]at h2 ⊢;omega
theorem YM (l:List (List UInt8)) (kd:UInt8):u9 Tryz.prog 4 [] [.pv (.ro (iZ l)),.pv (.int .u8 kd.toNat)] [] (.pv (.bool true)):=by
 refine aq (af L1 (af Li (af Zh (af Hr (af C9 (af LP aj)))))) (by kernel_rfl) (by conv=>lhs;reduce) (by simp) ?_;apply ag;·simp;exact⟨rfl,rfl⟩
 by_cases hl:(3:Int)<l.length;·refine aO (fun _=>False) ?_ (fun _ h=>h.elim);simp[hl]
 apply ag;·simp[hl];exact⟨rfl,rfl⟩
 apply ag;·simp;exact⟨rfl,rfl⟩
 refine aO (fun st'=>(∀b∈l,b.length≤200)∧st'=⟨look [(0,.pv (.ro (iZ l))),(1,.pv (.int .u8 kd.toNat)),(4,.pv (.bool false)),(5,.own 5),(6,.pv (.int .i64 l.length)),(7,.ak),(9,.ak),(10,.ak),(11,.ak),(12,.ak),(15,.ak),(20,.pv (.bool false)),(28,.ak)],ab [(5,.arr 64 (dv (l.map fun b=>⟨kd,b⟩)))]⟩) ?_ ?_
 ·apply ag;·simp;exact⟨rfl,rfl⟩
  rw[cp];refine au (fun k:Nat=>k≤l.length∧∀b∈l.take k,b.length≤200) (fun k=>⟨[(0,.pv (.ro (iZ l))),(1,.pv (.int .u8 kd.toNat)),(4,.pv (.bool false)),(5,.own 5),(6,.pv (.int .i64 (k:Int)))],[(5,.arr 64 (dv ((l.take k).map fun b=>⟨kd,b⟩)))]⟩) (fun k=>l.length-k) [] 0 (by simp) ?_ ?_;·simp[dv]
  ·rintro k ⟨hk,ht⟩;have w2:IntKind.i64.wrap ((k:Int)+1)=(k:Int)+1:=wrap_i64 (by omega);rw[fw];try dsimp only
   by_cases hlt:k<l.length
   ·have r1:=Ea hlt;by_cases hb:(200:Int)<l[k].length;·simp[hlt,r1,hb]
    ·have hap:dv ((l.take k).map fun b=>(⟨kd,b⟩:Fm))++[[.int .u8 kd.toNat,.ro (bytesRow l[k])]]=dv ((l.take (k+1)).map fun b=>⟨kd,b⟩):=by rw[List.take_succ_eq_append_getElem hlt,List.map_append,pV];rfl
     simp[hlt,r1,hb,w2,hap,aw];refine⟨by omega,k+1,⟨by omega,fun b hm=>?_⟩,⟨by omega,by simpa only[List.map_take]using hap⟩,by omega⟩;rw[List.take_succ_eq_append_getElem hlt,List.mem_append,List.mem_singleton]at hm;rcases hm with hm|rfl;·exact ht b hm
     ·omega
   ·have hke:k=l.length:=by omega
    subst hke;rw[List.take_length]at ht;simp;exact ht
 rintro _ ⟨hB,rfl⟩;have hF:(∀f∈l.map (fun b=>(⟨kd,b⟩:Fm)),f.b.length≤65535)=True:=eq_true (by intro f hf;obtain⟨b,hb,rfl⟩:=List.mem_map.1 hf;have:=hB b hb;show b.length≤_;omega);have hn:l.length≤1000:=by omega
 have hlen:=zi kd l hB;have hdec:=jY (l.map fun b=>(⟨kd,b⟩:Fm));generalize hFs:l.map (fun b=>(⟨kd,b⟩:Fm))=F at*;have hFn:F.length≤1000:=by rw[←hFs,List.length_map];omega
 apply ag;·simp[hF,hFn,hdec,bK];exact⟨rfl,rfl⟩
 generalize fT F=b at*;have b1:b.length≤1000000:=by omega
 have b2:b.length≤900:=by omega
 have hxl:=uJ b;have hsame:=tO b2;apply ag;·simp[b1,aH];exact⟨rfl,rfl⟩
 generalize hX:ie b=X at*;obtain⟨⟨yc,yt,⟨⟨ye,yp,yi,yu,yh⟩,yps,yvs,ysl⟩,ycs,yws⟩,yg⟩:=X;obtain⟨⟨x1,x2⟩,x3,x4⟩:=hxl;have x1:yps.length≤b.length+1:=x1;have x2:yvs.length≤b.length+1:=x2;have x3:ycs.length≤b.length+1:=x3;have x4:yws.length≤b.length+1:=x4;apply ag;·simp[b2,←hsame,aH];exact⟨rfl,rfl⟩
 have z1:yps.length≤100000:=by omega
 have z2:yvs.length≤100000:=by omega
 have z3:ycs.length≤100000:=by omega
 have z4:yws.length≤100000:=by omega
 have n1:yps.length≤1000000000:=by omega
 have n2:yvs.length≤1000000000:=by omega
 have n3:ycs.length≤1000000000:=by omega
 have n4:yws.length≤1000000000:=by omega
 simp[z1,z2,z3,z4,n1,n2,n3,n4,bj,bC,b6,bh]
theorem Bp {n:Nat}:∀{rows:List (List PV)},(∀r∈rows,eX Tryz.prog (n+2) 37 r)→∃l,rows=iZ l|[],_=>⟨[],rfl⟩|r::rows,h=>by obtain⟨c,rfl⟩:=Hn (h r (by simp));obtain⟨l,rfl⟩:=Bp (rows:=rows) fun r hr=>h r (by simp[hr]);exact⟨c::l,rfl⟩
theorem IU {n:Nat}{row:List PV} (h:eX Tryz.prog (n+3) 61 row):∃l,row=[.ro (iZ l)]:=by unfold eX at h;rw[Tryz.underlying61]at h;obtain⟨rows,rfl,_,h⟩:=h;obtain⟨l,rfl⟩:=Bp h;exact⟨l,rfl⟩
theorem Nx:mU Tryz.prog 61=false:=by unfold mU;rw[Tryz.underlying61]
theorem OF:fh Tryz.prog 5 61=true:=by kernel_rfl
theorem Nn:Tryz.prog.readableRec 61=true:=by kernel_rfl
theorem Wz:mU Tryz.prog 5=false:=by unfold mU;rw[Tryz.underlying5]
theorem VC:fh Tryz.prog 5 5=true:=by kernel_rfl
theorem Zd:Tryz.prog.readableRec 5=true:=by kernel_rfl
end Go.Proofs.YtifcndkhigakfaaGreat.Ab
namespace Go.Proofs.YtifcndkhigakfaaGreat
open Go Go.RowKit Go.WideShapes Go.ChangeShapes Ab
theorem stateBodies_con:xB Tryz.prog 5 4 [61,5]:=by intro rows hl hv;match rows,hl with
 |[r0,r1],_=>
  obtain⟨x0,rfl⟩:=IU (n:=2) (hv 0 61 r0 rfl rfl);obtain⟨x1,rfl⟩:=A3 (n:=4) (hv 1 5 r1 rfl rfl);have:mq Tryz.prog [61,5] [[.ro (iZ x0)],[.int .u8 (x1.toNat:Int)]]=[.pv (.ro (iZ x0)),.pv (.int .u8 (x1.toNat:Int))]:=by simp[mq,CC,Nx,Wz]
  rw[this];exact YM x0 x1
theorem stateBodies_lifted (os:Os) (started:os.Started) (H:Type) (enc:TypeId×Value→H):ReturnsInHanded {} Tryz.checked os 4 .any (Rows.stateBodiesSpec.pre6 enc Tryz.prog Tryz.f4 Rows.stateBodiesRow.domain false) (Rows.stateBodiesSpec.post enc Tryz.prog Tryz.f4 false true false false):=by
 refine returnsInHanded_of_change (C:=Tryz.checked) Tryz.own started (by kernel_rfl) Tryz.func4 (ChangeSpec.witness6 (enc:=enc) (C:=Tryz.checked) false ⟨#[],#[.slice none 0 0,.int .u8 0],[]⟩ 8 (by kernel_rfl) (by kernel_rfl) (by kernel_rfl) (by kernel_rfl)) ?_;intro W base args ds gs before hval hW hcnd _;have hpar:Tryz.f4.params.toList=[61,5]:=by rw[Tryz.params4]
 refine Bj (P:=Tryz.prog) (n:=5) (tb:=4) Tryz.laidOut ?_ ?_ (by kernel_rfl) Tryz.underlying4 rfl ?_ hval hW;·rw[hpar];exact stateBodies_con
 ·rw[hpar];intro t ht;simp only[List.mem_cons,List.not_mem_nil,or_false]at ht;rcases ht with rfl|rfl;·exact⟨OF,Nn,of_decide_eq_true (by kernel_rfl)⟩
  ·exact⟨VC,Zd,of_decide_eq_true (by kernel_rfl)⟩
 ·intro ds hd;rw[hpar]at hd;match ds,hd with|[d0,d1],_=>rfl
theorem stateBodies_holds:Rows.StateBodiesSaid:=OpenClaim.holds_of_wide 4 Tryz.f4 rfl rfl rfl rfl rfl rfl rfl ⟨rfl,rfl,rfl,rfl,rfl⟩ rfl rfl rfl rfl rfl (by kernel_rfl) Tryz.func4 (by kernel_rfl) (of_decide_eq_true (by kernel_rfl)) (by unfold Func.isWrapper;rw[if_neg (by decide+kernel)];exact⟨rfl,rfl⟩) (fun os started H enc _=>stateBodies_lifted os started H enc)
end Go.Proofs.YtifcndkhigakfaaGreat
