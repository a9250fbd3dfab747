/- The statement, whatever comes in of bulk at most 2^20: true, and what came in reads as it did. -/
import Derived.Test.YtkoehgfebipkkaaRows
import Derived.Conc.Holds
import Derived.JoinedCond
import Derived.WalkKit
import Derived.ProofKit
import Derived.OpenShut
import Derived.Deep.Slices
import Derived.Deep.Fields
import Derived.ChangeSame
import Derived.Conc.LeavingOf
import Derived.Test.YtkoehgfebipkkaaMd
set_option linter.unusedVariables false
set_option linter.unusedSimpArgs false
set_option maxRecDepth 100000
set_option maxHeartbeats 6400000
noncomputable section
namespace Go.Proofs.Ytkoehgfebipkkaa.Lift
open Go Go.Conc Go.RowKit Pl
open Go.ConcN (sumTo upd sumTo_upd upd_ne upd_same WgLive)
section
variable {Q:ShC}{C:WC}
theorem arr_of {x y z:Value}{args:Array Value}{cp:Array Value}(h:x::cp.toList=args.toList)(hc:cp=#[y,z]):args=#[x,y,z]:=by
 subst hc;exact Array.ext' h.symm
theorem sh_ok (hn:C.n=Q.n)(hfn:∀ i,i<C.n→C.fn i=31)(hcap:∀ i,i<C.n→C.cap i=#[ptr (Q.ib i),ptr (Q.sx i)])(hM:Q.M<1099511627776)(hlen:∀ i,i<C.n→(Q.its i).length<4294967295):BOk (Q.bods C) C where
 dues i t a n:=by
  show(Q.go i t a n).1.due=1;cases t with
  | fresh=>exact runItems_due _ _ _ _ _
  | susp l=>exact runItems_due _ _ _ _ _
  | done=>rfl
 bound h hb:=by
  obtain⟨⟨R,gn,cn,hm⟩,_⟩:=h;exact hm.bound hb
 frame h hb hs:=by
  obtain⟨⟨R,gn,cn,hm⟩,hp⟩:=h;exact⟨⟨R,gn,cn,hm.frame hb hs⟩,hp⟩
 rsok h:=by
  obtain⟨c,d,e,rfl,hc,hd,k,t,_,_,_,rfl⟩:=h;intro f hf;simp only[List.mem_cons,List.not_mem_nil,or_false] at hf;rcases hf with rfl | rfl | rfl
  ·rcases hc with⟨t,rfl⟩ | ⟨t,rfl⟩
   ·exact⟨rfl,rfl,_,Try.func15⟩
   ·exact⟨rfl,rfl,_,Try.func16⟩
  ·rcases hd with⟨t,rfl⟩ | ⟨t,rfl⟩ | ⟨t,rfl⟩<;>exact⟨rfl,rfl,_,Try.func32⟩
  ·exact⟨rfl,rfl,_,Try.func31⟩
 ready {a st X w i l rv} h hi e:=by
  obtain⟨⟨R,gn,cn,hm⟩,_⟩:=h;have hw:=hm.waits i l rv (hn▸hi) e;cases hl:l.wait with
  | none =>
   rw[hl] at hw;refine .inl ⟨hw,?_⟩;show Q.rdy i l a=true;unfold ShC.rdy;rw[hl]
  | some x =>
   rw[hl] at hw;obtain⟨sb,xb,d,rfl,h1,h2,h3,h4⟩:=hw;refine .inr ⟨44,_,_,_,rfl,Try.func44,rfl,rfl,fun m K hK c cs w1 hc k1 hk=>?_⟩;have hbv:(Q.bods C).rdy i l a=decide (x≤a.sum):=by
    show Q.rdy i l a=_;unfold ShC.rdy;rw[hl]
   rw[hbv] at hk;have hm1:=hm.frame (fun b hb=>k1.block b (hm.bound hb) (by simp)) k1.size;refine hK.call fits shut (f:=44) rfl (R:=fun v w'=>v=.bool (decide (x≤a.sum))∧Kp [] w1 w') (fun v w' τ d ⟨q1,q2⟩=>⟨q1,⟨q2.size,q2.block⟩⟩) (fun τ d'=>(wfun_calls (Lift.re w1 τ d') sb xb Q.s a.sum d x _ (k1.cel h3 (by simp)) (Blk.cel hm1.sh) (k1.cel h4 (by simp))).mono fun e w' ⟨q1,n,q2⟩=>?_) ?_
   ·subst q2
    exact⟨_,q1,rfl,⟨Nat.le_refl _,fun _ _ _=>rfl⟩⟩
   ·rintro v w2 ⟨rfl,k2⟩
    exact hk w2 k2
 fns hi:=by
  rw[hfn _ hi];exact⟨_,_,Try.func31,rfl,rfl⟩
 run {i st a X w n ga ca ba sa ck F cs g} hi h hn' hn0 hbt hr hst hFm K hK hy hd:=by
  obtain⟨⟨R,gn,cn,hm⟩,hp⟩:=h;have hiQ:i<Q.n:=hn▸hi;have hpo:=oth_eq Q (fun j=>er (st j)) hiQ;have hD:=hK.det;have hp':a.notes.length+a.due+sumTo Q.n (fun j=>remE (Q.its j).length (er (st j)))≤Q.M:=hp;have hm':ShMem Q { a with due:=1} st X R gn cn w:=⟨hm.sh,hm.rep,hm.sf,hm.rr,hm.xx,hm.items,hm.waits,hm.behs,hm.keep⟩;cases e:st i with
  | fresh =>
   rw[e] at hst;obtain⟨args,ha,rfl⟩:=hst;obtain rfl:=arr_of ha (hcap i hi);rw[hfn i hi];have her:er (st i)=.fresh:=by rw[e];rfl
   simp only[her] at hpo;obtain⟨m1,m2,m3,m4,m5⟩:=hm.items i hiQ;refine bod_to hD m2 fun tm htm=>?_;refine body_go (Q:=Q) (C:=C) (st:=st) (res:=Q.go i (er (st i)) a n) hM hiQ (hlen i hi) hn' hFm hK hy hd (Q.its i) 0 { a with due:=1} X R gn cn w tm (by simp) (Nat.zero_le _) htm hm' rfl ?_ (Kx.refl _ _) hbt hr ?_
   ·have h2:remE (Q.its i).length (.fresh:ES ItL)=(Q.its i).length+1:=rfl
    show a.notes.length+_+_≤_;omega
   ·rw[her];rfl
  | susp l rv =>
   rw[e] at hst;obtain⟨c,rest,hrs,rfl⟩:=hst;have her:er (st i)=.susp l:=by rw[e];rfl
   simp only[her] at hpo;obtain⟨c',d',e',hl3,hc,hdd,k,t,hk,hkn,htm,rfl⟩:=hrs;cases hl3;have go:K (gs ((bodCall t).finish (.tuple #[])) (F::cs)) w:=by
    have hl:=hlen i hi;refine bod_next hD (by omega) htm fun tm htm'=>?_;refine body_go (Q:=Q) (C:=C) (st:=st) (res:=Q.go i (er (st i)) a n) hM hiQ (hlen i hi) hn' hFm hK hy hd ((Q.its i).drop (k+1)) (k+1) { a with due:=1} X R gn cn w tm rfl hkn htm' hm' rfl ?_ (Kx.refl _ _) hbt hr ?_
    ·have h2:remE (Q.its i).length (.susp l:ES ItL)=(Q.its i).length-l.next+1:=rfl
     show a.notes.length+(((Q.its i).drop (k+1)).length+1)+_≤_;rw[List.length_drop];omega
    ·rw[her]
     show _=runItems i n ((Q.its i).drop l.next) l.next _;rw[hk]
   have gd:K (gs (d'.finish (.tuple #[])) (bodCall t::F::cs)) w:=by
    rcases hdd with⟨t',rfl⟩ | ⟨t',rfl⟩ | ⟨t',rfl⟩
    ·exact d5_back hD rfl go
    ·exact d7_back hD rfl go
    ·exact d11_back hD rfl go
   rcases hc with⟨t',rfl⟩ | ⟨t',rfl⟩
   ·exact y15_back hD (by rcases hdd with⟨t',rfl⟩ | ⟨t',rfl⟩ | ⟨t',rfl⟩<;>rfl) gd
   ·exact y16_back hD (by rcases hdd with⟨t',rfl⟩ | ⟨t',rfl⟩ | ⟨t',rfl⟩<;>rfl) gd
  | done=>rw[e] at hst;exact hst.elim
theorem sh_beh (hw:Q.watch=true)(hM:Q.M<1099511627776):BehOk (Q.bods C) Q.beh (.func (.func 29) #[] #[ptr Q.bsb,ptr Q.bxb]):=by
 refine .inr ⟨29,_,_,_,rfl,Try.func29,rfl,rfl,fun {a st X w} hdue h m K hK c cs hc hk=>?_⟩;obtain⟨⟨R,gn,cn,hm⟩,hp⟩:=h;obtain⟨q1,q2,q3,q4⟩:=hm.behs hw;have hdue':a.due=1:=hdue;have hp':a.notes.length+a.due+sumTo Q.n (fun j=>remE (Q.its j).length (er (st j)))≤Q.M:=hp;refine hK.call fits shut2 (f:=29) rfl (R:=fun v w'=>v=.tuple #[]∧∃ vn',Blk w' Q.s [.int .i64 (wrap64 (a.sum+Q.bump)),vn'] 41∧RepI w' vn' (a.notes++[-77])∧Kp (Q.s::fp (.slice gn a.notes.length cn)) w w'∧∀ b∈fp vn',b∈fp (.slice gn a.notes.length cn)∨w.heap.size≤b)
  (fun v w' τ d ⟨h0,vn,h1,h2,h3,h4⟩=>⟨h0,vn,h1,h2,⟨h3.size,h3.block⟩,h4⟩) (fun τ d'=>(beh_calls (Lift.re w τ d') Q.s Q.bsb Q.bxb cn _ gn Q.bump a.sum _ _ _ _ a.notes hm.sh hm.rep rfl hm.sf q3 q4 (hm.rr _ q1).2.1 (hm.rr _ q2).2.1 ⟨(hm.rr _ q1).1,(hm.rr _ q2).1⟩ (by omega)).mono fun e w' h=>?_) ?_
 ·obtain⟨h0,vn,h1,h2,h3,h4⟩:=h
  exact⟨_,h0,rfl,vn,h1,h2,⟨h3.size,h3.block⟩,h4⟩
 ·rintro _ w2 ⟨rfl,vn,h1,h2,h3,h4⟩
  have hq:noteQ Q.s (wrap64 (a.sum+Q.bump)) (.slice gn a.notes.length cn) a.notes (-77) w w2:=⟨vn,h1,h2,h3,h4⟩;obtain⟨X',gn',cn',hm',hkx,_⟩:=hm.note2 0 hq;refine hk X' w2 ⟨⟨R,gn',cn',hm'⟩,?_⟩ hkx;unfold ShC.pot;show(a.notes++[-77]).length+0+sumTo Q.n (fun j=>remE (Q.its j).length (er (st j)))≤Q.M;rw[la'];simp only[List.length_singleton];omega
end
def Rd {α:Type}(f:α→Value)(w:World)(v:Value)(xs:List α):Prop :=
 ∃ g c,v=.slice g xs.length c∧(xs≠[]→∃ b o,g=some ⟨b,o,none⟩∧∀ (j:Nat) (u:α),xs[j]?=some u→w.cell? ⟨b,o+j,none⟩=some (f u))
theorem rep_rd {α:Type}{e:TypeId}{f:α→Value}{w:World}{v:Value}{xs:List α}(h:Rep e 1 (fun x=>[f x]) w v xs):Rd f w v xs:=by
 obtain⟨a,cap,rfl,h1,_,_⟩:=h.form;refine⟨a,cap,rfl,fun hne=>?_⟩;obtain⟨g,c2,q,_,_⟩:=h.ex (List.length_pos_iff.2 hne);cases q;refine⟨g,0,rfl,fun j u hj=>?_⟩;rw[Nat.zero_add];exact h.cell1 (fun _=>rfl) j u hj
theorem Bytes.rd {b:Nat}{w:World}{v:Value}{xs:List Nat}(h:Bytes b w v xs):Rd (fun x:Nat=>Value.int .u8 x) w v xs:=by
 obtain⟨g,c,rfl,_,_,_,h1⟩:=h;exact⟨g,c,rfl,fun hne=>by obtain⟨o,h2,h3⟩:=h1 hne;exact⟨b,o,h2,h3⟩⟩
theorem Rd.cells {α:Type}{f:α→Value}{w:World}{g:Option Addr}{n c:Nat}{xs:List α}(h:Rd f w (.slice g n c) xs):n=xs.length∧(0<n→∃ b o,g=some ⟨b,o,none⟩∧∀ (j:Nat),j<n→∃ u,xs[j]?=some u∧w.cell? ⟨b,o+j,none⟩=some (f u)):=by
 obtain⟨g',c',h1,h2⟩:=h;cases h1;refine⟨rfl,fun hn=>?_⟩;obtain⟨b,o,rfl,h3⟩:=h2 (List.length_pos_iff.1 hn);exact⟨b,o,rfl,fun j hj=>⟨xs[j],List.getElem?_eq_getElem hj,h3 j _ (List.getElem?_eq_getElem hj)⟩⟩
theorem take_ne {α:Type}{xs ys:List α}{j:Nat}{x y:α}(hx:xs[j]?=some x)(hy:ys[j]?=some y)(h:x≠y):xs≠ys:=by
 rintro rfl;rw[hx] at hy;exact h (oj' hy)
theorem take_eq {α:Type}{xs ys:List α}{j:Nat}{x:α}(hx:xs[j]?=some x)(hy:ys[j]?=some x)(h:xs.take j=ys.take j):xs.take (j+1)=ys.take (j+1):=by
 rw[List.take_add_one,List.take_add_one,h,hx,hy]
theorem all_eq {α:Type}{xs ys:List α}{n:Nat}(hx:n=xs.length)(hy:n=ys.length)(h:xs.take n=ys.take n):xs=ys:=by
 rwa [List.take_of_length_le (by omega),List.take_of_length_le (by omega)] at h
theorem ints_calls (w:World)(va vb:Value)(xs ys:List Int)(ha:Rd (fun x:Int=>Value.int .i64 x) w va xs)(hb:Rd (fun x:Int=>Value.int .i64 x) w vb ys)(hlen:xs.length<1099511627776)(hlen2:ys.length<1099511627776) :
  Calls Try.prog 11 #[va,vb] w fun e w'=>e=.returned (.bool (decide (xs=ys)))∧∃ n,w'=w.drewN n:=by
 obtain⟨ga,ca,rfl,_⟩:=id ha;obtain⟨gb,cb,rfl,_⟩:=id hb;obtain⟨_,hca⟩:=ha.cells;obtain⟨_,hcb⟩:=hb.cells;clear ha hb;by_cases hl:xs.length=ys.length
 ·obtain⟨n,hn⟩:∃ n,n=xs.length:=⟨_,rfl⟩
  rw[← hn] at hca hl hlen ⊢;rw[← hl] at hcb ⊢;have HN:=Lib.hid hn;have HL:=Lib.hid hl;have HA:=Lib.hid hca;have HB:=Lib.hid hcb;generalize hP:decide (xs=ys)=P;have HP:=Lib.hid hP;clear hn hl hca hcb hP hlen2
  go_enter Try.func11,Try.ntmps11
  go_wp2
  go_loopw [5] (fun iv wr=>∃ j k:Nat,j≤n∧iv=.int .i64 j∧xs.take j=ys.take j∧wr=w.drewN k) (fun iv _=>n-(intOf iv).toNat)
  case atStart=>exact⟨0,0,by omega,rfl,rfl,rfl⟩
  case round =>
   obtain⟨j,k,hj,rfl,ht,rfl⟩:=hrel;by_cases hlt:j<n
   ·obtain⟨b1,o1,rfl,q1⟩:=HA.out (by omega)
    obtain⟨b2,o2,rfl,q2⟩:=HB.out (by omega);obtain⟨x,x1,x2⟩:=q1 j hlt;obtain⟨y,y1,y2⟩:=q2 j hlt;have HX:=Lib.hid x1;have HY:=Lib.hid y1;have HT:=Lib.hid ht;clear q1 q2 x1 y1 ht;by_cases hxy:x=y
    ·subst hxy
     go_wp2
     go_quiet (fail)
     go_wp2
     go_roundw
     case rel=>exact⟨j+1,_,by omega,by go_num,take_eq HX.out HY.out HT.out,rfl⟩
     case measure=>simp[intOf];omega
    ·have hb:(x==y)=false:=by simpa using hxy
     go_wp2
     go_quiet (fail)
     go_wp2
     go_ret
     refine⟨?_,⟨_,by rw[World.drewN_drewN]⟩⟩;rw[← HP.out,decide_eq_false (take_ne HX.out HY.out hxy)];rfl
   ·obtain rfl:j=n:=by omega
    have HT:=Lib.hid ht;clear ht
    go_wp2
    go_ret
    refine⟨?_,_,rfl⟩;rw[← HP.out,decide_eq_true (all_eq HN.out HL.out HT.out)];rfl
 ·have hb:((xs.length:Int)==(ys.length:Int))=false:=by rw[beq_eq_false_iff_ne];omega
  have HL:=Lib.hid (fun h:xs=ys=>hl (by rw[h]));clear hl hca hcb;generalize hP:decide (xs=ys)=P;have HP:=Lib.hid hP;clear hP
  go_enter Try.func11,Try.ntmps11
  go_wp2
  go_ret
  refine⟨?_,0,rfl⟩;rw[← HP.out,decide_eq_false HL.out];rfl
def Lent (b:Nat)(w:World)(v:Value)(xs:List Nat):Prop :=
 ∃ c,v=.slice (some ⟨b,0,none⟩) xs.length c∧xs.length+40≤c∧c≤maxLen∧(∀ u∈xs,u<256)∧(∀ (j u:Nat),xs[j]?=some u→w.cell? ⟨b,j,none⟩=some (.int .u8 u))∧∀ j,xs.length≤j→j<xs.length+40→w.cell? ⟨b,j,none⟩=some (.int .u8 165)
theorem Lent.bytes {b:Nat}{w:World}{v:Value}{xs:List Nat}(h:Lent b w v xs):Bytes b w v xs:=by
 obtain⟨c,rfl,h1,h2,h3,h4,_⟩:=h;exact⟨_,c,rfl,by omega,h2,h3,fun _=>⟨0,rfl,fun j u hj=>by rw[Nat.zero_add];exact h4 j u hj⟩⟩
theorem Lent.same {b:Nat}{w w':World}{v:Value}{xs:List Nat}(h:Lent b w v xs)(e:w'.heap[b]?=w.heap[b]?):Lent b w' v xs:=by
 obtain⟨c,rfl,h1,h2,h3,h4,h5⟩:=h;exact⟨c,rfl,h1,h2,h3,fun j u hj=>(cell_same e).trans (h4 j u hj),fun j i1 i2=>(cell_same e).trans (h5 j i1 i2)⟩
theorem left_calls (w:World)(vl vb:Value)(pb:Nat)(xs:List Nat)(hl:Lent pb w vl xs)(hb:Rd (fun x:Nat=>Value.int .u8 x) w vb xs)(hlen:xs.length<1099511627776) :
  Calls Try.prog 30 #[vl,vb] w fun e w'=>e=.returned (.bool true)∧∃ n,w'=w.drewN n:=by
 obtain⟨c,rfl,h1,h2,h3,h4,h5⟩:=hl;obtain⟨gb,cb,rfl,_⟩:=id hb;obtain⟨_,hcb⟩:=hb.cells;clear hb;obtain⟨n,hn⟩:∃ n,n=xs.length:=⟨_,rfl⟩;rw[← hn] at hcb h1 h5 hlen ⊢;have H4:=Lib.hid h4;have H5:=Lib.hid h5;have HB:=Lib.hid hcb;clear hn hcb h4 h5 h3;unfold maxLen at h2
 go_enter Try.func30,Try.ntmps30
 go_wp2
 go_loopw [6] (fun iv wr=>∃ j k:Nat,j≤n+40∧iv=.int .i64 j∧wr=w.drewN k) (fun iv _=>n+40-(intOf iv).toNat)
 case atStart=>exact⟨0,0,by omega,rfl,rfl⟩
 case round =>
  obtain⟨j,k,hj,rfl,rfl⟩:=hrel;by_cases hlt:j<n
  ·obtain⟨b2,o2,rfl,q2⟩:=HB.out (by omega)
   obtain⟨x,x1,x2⟩:=q2 j hlt;have x3:=H4.out j x x1;have d1:decide (n≤j)=false:=decide_eq_false (by omega);clear q2 x1
   go_wp2
   go_quiet (fail)
   go_wp2
   go_roundw
   case rel=>exact⟨j+1,_,by omega,by go_num,rfl⟩
   case measure=>simp[intOf];omega
  ·by_cases hlt2:j<n+40
   ·have x3:=H5.out j (by omega) hlt2
    have d1:decide (n≤j)=true:=decide_eq_true (by omega);have d2:n≤j:=by omega
    go_wp2
    go_quiet (fail)
    go_wp2
    go_roundw
    case rel=>exact⟨j+1,_,by omega,by go_num,rfl⟩
    case measure=>simp[intOf];omega
   ·obtain rfl:j=n+40:=by omega
    go_wp2
    go_ret
    exact⟨rfl,_,rfl⟩
theorem lent_rel {w wr w2:World}{g2 cap2:Nat}{v:Value}{m:Nat}(h1:Keeps [] w wr)(h2:∀ b∈fp v,w.heap.size≤b)(k:Keeps (fp v) wr w2)(a2:g2∈fp v∨g2=wr.heap.size):Keeps [] w w2∧∀ b∈fp (.slice (some ⟨g2,0,none⟩) m cap2),w.heap.size≤b:=by
 have hz:=h1.size;refine⟨⟨k.os.trans h1.os,k.tape.trans h1.tape,k.output.trans h1.output,Nat.le_trans hz k.size,fun b hb _=>?_⟩,fun b hb=>?_⟩
 ·exact(k.block b (by omega) (fun hm=>by have:=h2 b hm;omega)).trans (h1.block b hb (by simp))
 ·obtain rfl:b=g2:=by simpa[fp,Value.ownBlock] using hb
  rcases a2 with q | q
  ·exact h2 _ q
  ·omega
theorem lent_end {wr:World}{g:Option Addr}{c n:Nat}{xs:List Nat}(hn:n=xs.length)(hu:∀ u∈xs,u<256)(h:RepU wr (.slice g (n+40) c) (xs++List.replicate 40 165)):∃ b,g=some ⟨b,0,none⟩∧Lent b wr (.slice g n c) xs∧b∈fp (.slice g (n+40) c)∧n+40≤c:=by
 subst hn;obtain⟨b,c2,q,_,h2⟩:=h.ex (by simp);have hcm:c≤maxLen:=by obtain⟨_,_,q1,_,_,q2⟩:=h.form;simp only[Value.slice.injEq] at q1;rw[q1.2.2];exact q2
 simp only[Value.slice.injEq] at q;obtain⟨rfl,q1,rfl⟩:=q;simp only[la',List.length_replicate] at h2;refine⟨b,rfl,⟨c,rfl,h2,hcm,hu,fun j u hj=>?_,fun j i1 i2=>?_⟩,by simp[fp,Value.ownBlock],h2⟩
 ·exact h.cell1 (u:=fun x:Nat=>Value.int .u8 x) (fun _=>rfl) j u (by rw[List.getElem?_append_left (List.getElem?_eq_some_iff.1 hj).1];exact hj)
 ·refine(h.cell1 (u:=fun x:Nat=>Value.int .u8 x) (fun _=>rfl) j 165 ?_).trans rfl
  rw[List.getElem?_append_right i1,List.getElem?_replicate,if_pos (by omega)]
theorem row_news {w:World}{b o:Nat}{xs:List Nat}(h:∀ (j u:Nat),xs[j]?=some u→w.cell? ⟨b,o+j,none⟩=some (.int .u8 u)):∀ (j:Nat) (u:Value),(xs.flatMap fun x:Nat=>[Value.int .u8 x])[j]?=some u→w.cell? ((⟨b,o,none⟩:Addr).add j)=some u:=by
 intro j u hj;rw[show(xs.flatMap fun x:Nat=>[Value.int .u8 x])=xs.map fun x:Nat=>Value.int .u8 x from List.map_eq_flatMap.symm,List.getElem?_map,Option.map_eq_some_iff] at hj;obtain⟨x,h1,rfl⟩:=hj;rw[show(⟨b,o,none⟩:Addr).add j=⟨b,o+j,none⟩ by simp[Addr.add]];exact h j x h1
theorem row_ones {xs:List Nat}:∀ u∈xs.flatMap fun x:Nat=>[Value.int .u8 x],u.oneCell'=true:=by
 intro u hu;obtain⟨x,_,h2⟩:=List.mem_flatMap.1 hu;rw[List.mem_singleton] at h2;subst h2;rfl
theorem lent_calls (w:World)(vb:Value)(xs:List Nat)(hb:Rd (fun x:Nat=>Value.int .u8 x) w vb xs)(hu:∀ u∈xs,u<256)(hlen:xs.length<1099511627776) :
  Calls Try.prog 26 #[vb] w fun e w'=>∃ b vl,e=.returned vl∧Lent b w' vl xs∧w.heap.size≤b∧Keeps [] w w':=by
 obtain⟨gb,cb,rfl,hx⟩:=hb;obtain⟨n,hn⟩:∃ n,n=xs.length:=⟨_,rfl⟩;rw[← hn] at hlen ⊢;have HN:=Lib.hid hn;have HU:=Lib.hid hu;have H0:Hid (RepU w (.slice none 0 0) []):=Lib.hid Rep.nil;by_cases h0:n=0
 ·subst h0
  obtain rfl:xs=[]:=List.eq_nil_of_length_eq_zero hn.symm;clear hx hn hu;cases gb
  all_goals
   go_enter Try.func26,Try.ntmps26
   go_wp2
   go_loopw [3,4] (fun lv iv wr=>∃ (j:Nat) (g:Option Addr) (c:Nat),j≤40∧iv=.int .i64 j∧lv=.slice g (0+j) c∧RepU wr (.slice g (0+j) c) ([]++List.replicate j 165)∧(∀ b∈fp (.slice g (0+j) c),w.heap.size≤b)∧Keeps [] w wr) (fun _ iv _=>40-(intOf iv).toNat)
   case atStart=>exact⟨0,_,_,by omega,rfl,rfl,by simpa using H0.out,by simp[fp,Value.ownBlock],Keeps.refl _ _⟩
   case round =>
    obtain⟨j,g,c,hj,rfl,rfl,hrep,hfr,hkp⟩:=hrel;by_cases hlt:j<40
    ·have HR:=Lib.hid (fun(W:World) (k:Keeps [] wr W)=>hrep.keeps k (by simp))
     have HF:=Lib.hid hfr;have HK:=Lib.hid hkp;clear hrep hfr hkp
     go_wp2_with (refine wpList_rep_append rfl (.tmp 12) (.tmp 13) 23 rfl (.int .u8 0) 1 Try.underlying23 info5 rfl (by decide) (.slice g (0+j) c) ([]++List.replicate j 165) rfl (HR.out _ ((Keeps.refl _ _).alloc _)) (fun _=>rfl) ⟨wr.heap.size,0,none⟩ 1 1 [165] rfl rfl (cell_one_new _ _ _) (by simp[Value.oneCell']) (by decide) (by have:=HN.out;unfold maxLen;simp only[la',List.length_replicate];omega) (by have:=HN.out;simp only[la',List.length_replicate];omega) ?_;intro g2 cap2 w2 r2 k2 a2 lg q2;have R2:=Lib.hid r2;have K2:=Lib.hid k2;have A2:=Lib.hid a2;clear r2 k2 a2)
     go_roundw
     case rel =>
      obtain⟨p1,p2⟩:=lent_rel (m:=0+(j+1)) (cap2:=cap2) (HK.out.alloc _) HF.out K2.out A2.out;have e:(([]:List Nat)++List.replicate j 165).length+1=0+(j+1):=by simp only[List.nil_append,List.length_replicate];omega
      refine⟨j+1,some ⟨g2,0,none⟩,cap2,by omega,by go_num,by rw[← e];simp,?_,p2,p1⟩;have r:=R2.out;rw[e,List.append_assoc,← List.replicate_succ'] at r;exact r
     case measure=>simp[intOf];omega
    ·obtain rfl:j=40:=by omega
     obtain⟨b,rfl,hle,hm,hc⟩:=lent_end HN.out HU.out hrep;have HL:=Lib.hid hle;have HK:=Lib.hid hkp;have hbl:=hfr b hm;clear hrep hfr hkp hle hm
     go_wp2
     go_ret
     exact⟨b,_,rfl,HL.out,hbl,HK.out⟩
 ·obtain⟨b0,o0,rfl,q0⟩:=hx (by intro e;rw[e] at hn;exact h0 hn)
  have HX:=Lib.hid q0;clear hx hn hu q0
  go_enter Try.func26,Try.ntmps26
  go_wp2_with (refine wpList_rep_append rfl (.tmp 5) (.tmp 6) 23 rfl (.int .u8 0) 1 Try.underlying23 info5 rfl (by decide) (.slice none 0 0) [] rfl H0.out (fun _=>rfl) ⟨b0,o0,none⟩ n cb xs rfl HN.out.symm (row_news HX.out) row_ones (by omega) (by unfold maxLen;simp only[List.length_nil];omega) (by simp only[List.length_nil];omega) ?_;intro g2 cap2 w2 r2 k2 a2 lg q2;have R2:=Lib.hid r2;have K2:=Lib.hid k2;have A2:=Lib.hid a2;clear r2 k2 a2)
  go_loopw [3,4] (fun lv iv wr=>∃ (j:Nat) (g:Option Addr) (c:Nat),j≤40∧iv=.int .i64 j∧lv=.slice g (n+j) c∧RepU wr (.slice g (n+j) c) (xs++List.replicate j 165)∧(∀ b∈fp (.slice g (n+j) c),w.heap.size≤b)∧Keeps [] w wr) (fun _ iv _=>40-(intOf iv).toNat)
  case atStart =>
   obtain⟨p1,p2⟩:=lent_rel (m:=n) (cap2:=cap2) (Keeps.refl [] w) (v:=.slice none 0 0) (by simp[fp,Value.ownBlock]) K2.out A2.out;refine⟨0,_,_,by omega,rfl,rfl,?_,p2,p1⟩;have:=R2.out;simpa using this
  case round =>
   obtain⟨j,g,c,hj,rfl,rfl,hrep,hfr,hkp⟩:=hrel;by_cases hlt:j<40
   ·have HR:=Lib.hid (fun(W:World) (k:Keeps [] wr W)=>hrep.keeps k (by simp))
    have HF:=Lib.hid hfr;have HK:=Lib.hid hkp;clear hrep hfr hkp
    go_wp2_with (refine wpList_rep_append rfl (.tmp 12) (.tmp 13) 23 rfl (.int .u8 0) 1 Try.underlying23 info5 rfl (by decide) (.slice g (n+j) c) (xs++List.replicate j 165) rfl (HR.out _ ((Keeps.refl _ _).alloc _)) (fun _=>rfl) ⟨wr.heap.size,0,none⟩ 1 1 [165] rfl rfl (cell_one_new _ _ _) (by simp[Value.oneCell']) (by decide) (by have:=HN.out;unfold maxLen;simp only[la',List.length_replicate];omega) (by have:=HN.out;simp only[la',List.length_replicate];omega) ?_;intro g2 cap2 w2 r2 k2 a2 lg q2;have R2:=Lib.hid r2;have K2:=Lib.hid k2;have A2:=Lib.hid a2;clear r2 k2 a2)
    go_roundw
    case rel =>
     obtain⟨p1,p2⟩:=lent_rel (m:=n+(j+1)) (cap2:=cap2) (HK.out.alloc _) HF.out K2.out A2.out;have e:(xs++List.replicate j 165).length+1=n+(j+1):=by have:=HN.out;simp only[la',List.length_replicate];omega
     refine⟨j+1,some ⟨g2,0,none⟩,cap2,by omega,by go_num,by have e2:xs.length+j+1=n+(j+1):=(by have:=HN.out;omega);simp only[la',List.length_replicate,e2],?_,p2,p1⟩;have r:=R2.out;rw[e,List.append_assoc,← List.replicate_succ'] at r;exact r
    case measure=>simp[intOf];omega
   ·obtain rfl:j=40:=by omega
    obtain⟨b,rfl,hle,hm,hc⟩:=lent_end HN.out HU.out hrep;have HL:=Lib.hid hle;have HK:=Lib.hid hkp;have hbl:=hfr b hm;clear hrep hfr hkp hle hm
    go_wp2
    go_ret
    exact⟨b,_,rfl,HL.out,hbl,HK.out⟩
theorem body_calls (w:World)(s:Nat)(g:Option Addr)(n c:Nat) :
  Calls Try.prog 13 #[ptr s,.slice g n c] w fun e w'=>e=.returned (.func (.func 31) #[] #[ptr (w.heap.size+1),ptr w.heap.size])∧w'=(w.alloc (.cells #[ptr s] 34)).alloc (.cells #[.slice g n c] 51):=by
 go_enter Try.func13,Try.ntmps13
 go_wp2
 go_ret
 exact⟨rfl,rfl⟩
theorem info54:(Try.prog.info? 54).map (fun i=>(i.zero,i.size,i.bytes))=some (some .nilFunc,1,8):=by kernel_rfl
abbrev RepF (w:World)(v:Value)(xs:List Value):Prop:=Rep 54 1 (fun x:Value=>[x]) w v xs
def bodV (bs:Nat × Nat):Value:=.func (.func 31) #[] #[ptr bs.1,ptr bs.2]
def MadeF (s N:Nat)(ths:List Value)(bs:List (Nat × Nat))(fs:List Nat)(w:World):Prop :=
 ∀ (i:Nat) (x y:Nat),bs[i]?=some (x,y)→N≤x∧N≤y∧x∉fs∧y∉fs∧∃ v,ths[i]?=some v∧Cel w x [v] 51∧Cel w y [ptr s] 34
theorem made_rel {s N j g2 cap2 m:Nat}{v v':Value}{ths:List Value}{bs:List (Nat × Nat)}{w w2:World}(hm:MadeF s N ths bs (fp v) w)(hN:N≤w.heap.size)(hj:bs.length=j)(hv:ths[j]?=some v')(hfl:∀ b∈fp v,b<w.heap.size)
  (k:Keeps (fp v) (((w.alloc (.cells #[ptr s] 34)).alloc (.cells #[v'] 51)).alloc (.cells #[bodV (w.heap.size+1,w.heap.size)] 54)) w2)
  (a2:g2∈fp v∨g2=(((w.alloc (.cells #[ptr s] 34)).alloc (.cells #[v'] 51)).alloc (.cells #[bodV (w.heap.size+1,w.heap.size)] 54)).heap.size):MadeF s N ths (bs++[(w.heap.size+1,w.heap.size)]) (fp (.slice (some ⟨g2,0,none⟩) m cap2)) w2:=by
 intro i x y h;have hg:∀ z,z<w.heap.size+2→z∉fp v→z∉fp (.slice (some ⟨g2,0,none⟩) m cap2):=fun z hz hn hm=>by
  obtain rfl:z=g2:=by simpa[fp,Value.ownBlock] using hm
  rcases a2 with q | q
  ·exact hn q
  ·rw[wz',wz',wz'] at q;omega
 have k0:Keeps [] w (((w.alloc (.cells #[ptr s] 34)).alloc (.cells #[v'] 51)).alloc (.cells #[bodV (w.heap.size+1,w.heap.size)] 54)):=(((Keeps.refl _ _).alloc _).alloc _).alloc _;by_cases hi:i<bs.length
 ·rw[List.getElem?_append_left hi] at h
  obtain⟨h1,h2,h3,h4,u,h5,h6,h7⟩:=hm i x y h;exact⟨h1,h2,hg x (by have:=h6.lt;omega) h3,hg y (by have:=h7.lt;omega) h4,u,h5,(Keeps.kp k).cel ((Keeps.kp k0).cel h6 (by simp)) h3,(Keeps.kp k).cel ((Keeps.kp k0).cel h7 (by simp)) h4⟩
 ·rw[List.getElem?_append_right (by omega)] at h
  have hi2:i=bs.length:=by
   have:=(List.getElem?_eq_some_iff.1 h).1;simp only[List.length_singleton] at this;omega
  subst hi2;rw[Nat.sub_self] at h;simp only[List.getElem?_cons_zero,Option.some.injEq,Prod.mk.injEq] at h;obtain⟨rfl,rfl⟩:=h;have n1:w.heap.size+1∉fp v:=fun hm=>by have:=hfl _ hm;omega
  have n2:w.heap.size∉fp v:=fun hm=>by have:=hfl _ hm;omega
  refine⟨by omega,hN,hg _ (by omega) n1,hg _ (by omega) n2,v',by rw[hj];exact hv,(Keeps.kp k).cel ?_ n1,(Keeps.kp k).cel ?_ n2⟩
  ·have:=(Blk.new (w.alloc (.cells #[ptr s] 34)) [v'] 51).alloc (.cells #[bodV (w.heap.size+1,w.heap.size)] 54)
   rw[wz'] at this;exact Blk.cel this
  ·exact Blk.cel (((Blk.new w [ptr s] 34).alloc _).alloc _)
theorem bodies_calls (w:World)(s:Nat)(vt:Value)(ths:List Value)(hb:Rd (fun x:Value=>x) w vt ths)(hsl:∀ v∈ths,∃ g n c,v=.slice g n c)(hlen:ths.length<1099511627776) :
  Calls Try.prog 28 #[ptr s,vt] w fun e w'=>∃ vf bs,e=.returned vf∧RepF w' vf (bs.map bodV)∧bs.length=ths.length∧MadeF s w.heap.size ths bs (fp vf) w'∧(∀ b∈fp vf,w.heap.size≤b)∧Keeps [] w w':=by
 obtain⟨gt,ct,rfl,_⟩:=id hb;obtain⟨_,hcb⟩:=hb.cells;obtain⟨n,hn⟩:∃ n,n=ths.length:=⟨_,rfl⟩;rw[← hn] at hcb hlen ⊢;have HN:=Lib.hid hn;have HC:=Lib.hid hcb;have HS:=Lib.hid hsl;have HB:=Lib.hid hb;clear hb hn hcb hsl
 go_enter Try.func28,Try.ntmps28
 go_wp2
 go_loopw [5,6] (fun lv iv wr=>∃ (j:Nat) (bs:List (Nat × Nat)),j≤n∧iv=.int .i64 j∧bs.length=j∧RepF wr lv (bs.map bodV)∧MadeF s w.heap.size ths bs (fp lv) wr∧(∀ b∈fp lv,w.heap.size≤b)∧Keeps [] w wr) (fun _ iv _=>n-(intOf iv).toNat)
 case atStart=>exact⟨0,[],by omega,rfl,rfl,Rep.nil,(fun i x y h=>by simp at h),by simp[fp,Value.ownBlock],Keeps.refl _ _⟩
 case round =>
  obtain⟨j,bs,hj,rfl,hbl,hrep,hmd,hfr,hkp⟩:=hrel;by_cases hlt:j<n
  ·obtain⟨b0,o0,rfl,q0⟩:=HC.out (by omega)
   obtain⟨v',v1,v2⟩:=q0 j hlt;obtain⟨g3,n3,c3,rfl⟩:=HS.out v' (List.mem_of_getElem? v1);have b0l:b0<w.heap.size:=by
    rcases Nat.lt_or_ge b0 w.heap.size with h | h
    ·exact h
    ·exfalso
     unfold World.cell? at v2;simp only at v2;rw[ae' h] at v2;simp at v2
   have v3:wr.cell? ⟨b0,o0+j,none⟩=some (.slice g3 n3 c3):=(cell_same (hkp.block b0 b0l (by simp))).trans v2;have HR:=Lib.hid (fun(W:World) (k:Keeps [] wr W)=>hrep.keeps k (by simp));have HFL:=Lib.hid hrep.fp_lt;have HF:=Lib.hid hfr;have HK:=Lib.hid hkp;have HM:=Lib.hid hmd;have HV:=Lib.hid v1;have hsz:=hkp.size;obtain⟨gl,cl,rfl,_⟩:=hrep.form;have hml:(bs.map bodV).length=j:=by rw[List.length_map,hbl]
   rw[hml] at HR HFL HF HM ⊢;clear hrep hfr hkp hmd v1 v2 q0;have HO:=Lib.hid (cell_one_at ((wr.alloc (.cells #[ptr s] 34)).alloc (.cells #[.slice g3 n3 c3] 51)) (bodV (wr.heap.size+1,wr.heap.size)) 54 (N:=wr.heap.size+2) (by rw[wz',wz']))
   go_wp2_with (first | (go_at_call 13;refine(body_calls _ _ _ _ _).mono ?_;rintro e w' ⟨rfl,rfl⟩) | (refine wpList_rep_append rfl (.tmp 13) (.tmp 20) 50 rfl .nilFunc 8 Try.underlying50 info54 rfl (by decide) (.slice gl j cl) (bs.map bodV) rfl (HR.out _ ((((Keeps.refl _ _).alloc _).alloc _).alloc _)) (fun _=>rfl) ⟨wr.heap.size+2,0,none⟩ 1 1 [bodV (wr.heap.size+1,wr.heap.size)] rfl rfl HO.out (by simp[bodV,Value.oneCell']) (by decide) (by rw[hml];unfold maxLen;omega) (by rw[hml];omega) ?_;intro g2 cap2 w2 r2 k2 a2 lg q2;have R2:=Lib.hid r2;have K2:=Lib.hid k2;have A2:=Lib.hid a2;clear r2 k2 a2))
   go_roundw
   case rel =>
    refine⟨j+1,bs++[(wr.heap.size+1,wr.heap.size)],by omega,by go_num,by rw[la',hbl];rfl,by rw[List.map_append];have r:=R2.out;rw[hml] at r;exact r,made_rel HM.out hsz hbl HV.out HFL.out K2.out A2.out,fun b hb=>?_,?_⟩
    ·obtain rfl:b=g2:=by simpa[fp,Value.ownBlock] using hb
     rcases A2.out with q | q
     ·exact HF.out _ q
     ·rw[wz',wz',wz'] at q;omega
    ·exact(lent_rel (m:=0) (cap2:=0) (((HK.out.alloc _).alloc _).alloc _) HF.out K2.out A2.out).1
   case measure=>simp[intOf];omega
  ·obtain rfl:j=n:=by omega
   have HR:=Lib.hid hrep;have HF:=Lib.hid hfr;have HK:=Lib.hid hkp;have HM:=Lib.hid hmd;clear hrep hfr hkp hmd
   go_wp2
   go_ret
   exact⟨_,bs,rfl,HR.out,hbl,HM.out,HF.out,HK.out⟩
open Go.ConcN (sumTo upd sumTo_upd upd_ne upd_same)
def ItsAt (N:Nat→Prop)(w:World)(g:Option Addr)(its:List (Int × Int)):Prop:=∀ (k:Nat) (d x:Int),its[k]?=some (d,x)→∃ ab ao,g=some ⟨ab,ao,none⟩∧N ab∧w.cell? ⟨ab,ao+k*2,none⟩=some (.int .i64 d)∧w.cell? ⟨ab,ao+k*2+1,none⟩=some (.int .i64 x)
def badM (n:Nat)(most:Int)(p:Nat):Int:=if n=0∨8<n∨most<0 then 2 else if 65536<p then 4 else 0
def behD (wt:Bool)(bh bump:Int)(a:ShA):ShA:=if wt then { sum:=wrap64 (a.sum+bump),notes:=a.notes++[bh],due:=0} else a
theorem runItems_pot (i n len:Nat):∀ (l:List (Int × Int)) (k:Nat) (a:ShA),l.length=len-k→(runItems i n l k a).1.notes.length+remE len (toT (runItems i n l k a).2)≤a.notes.length+l.length
 | [],_,_,_=>by simp[runItems,toT,remE]
 | (d,x)::l,k,a,h=>by
  rw[List.length_cons] at h ⊢;have st:∀ a:ShA,_:=fun a=>runItems_pot i n len l (k+1) a (by omega);unfold runItems
  repeat' split
  all_goals first
   | (refine Nat.le_trans (st _) ?_;simp only[la',List.length_singleton];omega)
   | (refine Nat.le_trans (st _) ?_;(try dsimp only);omega)
   | (show a.notes.length+(len-(k+1)+1)≤_;omega)
theorem go_pot (Q:ShC){i n:Nat}{t:ES ItL}(a:ShA)(ht:t≠.done):(Q.go i t a n).1.notes.length+remE (Q.its i).length (toT (Q.go i t a n).2)+1≤a.notes.length+remE (Q.its i).length t∧(Q.go i t a n).1.due=1:=by
 cases t with
 | fresh =>
  refine⟨?_,runItems_due _ _ _ _ _⟩;have:=runItems_pot i n (Q.its i).length (Q.its i) 0 { a with due:=1} rfl;show _≤a.notes.length+((Q.its i).length+1);exact Nat.succ_le_succ this
 | susp l =>
  refine⟨?_,runItems_due _ _ _ _ _⟩;have:=runItems_pot i n (Q.its i).length ((Q.its i).drop l.next) l.next { a with due:=1} (List.length_drop ..);rw[List.length_drop] at this;show _≤a.notes.length+((Q.its i).length-l.next+1);exact Nat.succ_le_succ this
 | done=>exact absurd rfl ht
theorem sum_updE (Q:ShC)(st:Nat→ES ItL){i:Nat}(hi:i<Q.n)(t:ES ItL):sumTo Q.n (fun j=>remE (Q.its j).length (updE st i t j))+remE (Q.its i).length (st i)=sumTo Q.n (fun j=>remE (Q.its j).length (st j))+remE (Q.its i).length t:=by
 have h1:=sumTo_upd (fun j=>remE (Q.its j).length (st j)) (remE (Q.its i).length t) id hi;simp only[id] at h1;have h3:sumTo Q.n (fun j=>remE (Q.its j).length (updE st i t j))=sumTo Q.n (fun a=>upd (fun j=>remE (Q.its j).length (st j)) i (remE (Q.its i).length t) a):=by
  refine Go.ConcN.sumTo_congr fun j _=>?_;unfold updE;by_cases e:j=i
  ·subst e
   rw[upd_same,if_pos rfl]
  ·rw[upd_ne _ _ e,if_neg e]
 rw[h3];omega
theorem behD_pot (wt:Bool)(bh bump:Int)(a:ShA)(h:a.due=1):(behD wt bh bump a).notes.length+(behD wt bh bump a).due=a.notes.length+1:=by
 unfold behD;cases wt
 ·simp[h]
 ·simp
theorem act_pot (Q:ShC)(C:WC)(wt:Bool)(bh bump:Int){x:RunSt ItL ShA}{i:Nat}(left:List Nat)(hi:i<Q.n)(ht:x.st i≠.done)(h:Q.pot x.a x.st):Q.pot (oneAct (Q.bods C) (behD wt bh bump) x i left).a (oneAct (Q.bods C) (behD wt bh bump) x i left).st:=by
 unfold ShC.pot at *;obtain⟨h1,h2⟩:=go_pot Q (n:=x.acts.length+1) (i:=i) x.a ht;have h3:=behD_pot wt bh bump _ h2;have h4:=sum_updE Q x.st hi (toT (Q.go i (x.st i) x.a (x.acts.length+1)).2);show(behD wt bh bump (Q.go i (x.st i) x.a (x.acts.length+1)).1).notes.length+(behD wt bh bump (Q.go i (x.st i) x.a (x.acts.length+1)).1).due+sumTo Q.n (fun j=>remE (Q.its j).length (updE x.st i (toT (Q.go i (x.st i) x.a (x.acts.length+1)).2) j))≤Q.M;omega
def ShC.out (Q:ShC)(C:WC)(wt:Bool)(bh bump:Int)(most:Int)(picks:List Nat):RunSt ItL ShA:=runF (Q.bods C) Q.n (behD wt bh bump) most.toNat ⟨fun _=>.fresh,⟨0,[],0⟩,[],picks⟩
section
variable {Post:Value→World→Prop}{S:SC}{cl:Frame}{cs:List Frame}
theorem watch_bad (hcl:cl.mode=.run){g0:Option Addr}{c0:Nat}{vs:List Value}{v1 bh:Value}{left:List Nat}{most:Int}{pb:Nat}(hv:∀ u∈vs,u=.nilFunc∨∃ f cap,u=.func (.func f) #[] cap)
  (hc:vs≠[]→∃ b o,g0=some ⟨b,o,none⟩∧b<S.w.heap.size∧∀ (j:Nat) (u:Value),vs[j]?=some u→S.w.cell? ⟨b,o+j,none⟩=some u) (hl:Bytes pb S.w v1 left) (hpb:pb<S.w.heap.size) (he:fitsM vs most left.length≠0)
  (h:∀ w',Kp [] S.w w'→Sound Try.prog link.tWg Post 0 { S with w:=w'} (gs (cl.finish (.tuple #[.agg #[.slice none 0 0,.slice none 0 0,.int .i64 0],.int .i64 (fitsM vs most left.length)])) cs)) :
  Sound Try.prog link.tWg Post 0 S (gs (Frame.enter Try.prog 27 #[.slice g0 vs.length c0,v1,.int .i64 most,bh] .normal) (cl::cs)):=by
 have hK:=clS (Post:=Post) S;refine ks (S:=S) (wat_enter hK.det ?_) rfl;have k1:=Kp.alloc [] S.w (.cells #[.slice none 0 0,.slice none 0 0,.int .i64 0] 30);have bo1:Pl.Blk (S.w.alloc (.cells #[.slice none 0 0,.slice none 0 0,.int .i64 0] 30)) S.w.heap.size [.slice none 0 0,.slice none 0 0,.int .i64 0] 30:=Pl.Blk.new S.w [.slice none 0 0,.slice none 0 0,.int .i64 0] 30;generalize S.w.alloc (.cells #[.slice none 0 0,.slice none 0 0,.int .i64 0] 30)=w1 at k1 bo1 ⊢;refine hK.call fits shut (f:=35) rfl (R:=fun v' w'=>v'=.int .i64 (fitsM vs most left.length)∧Kp [] w1 w') (fun v' w' τ d ⟨h1,h2⟩=>⟨h1,⟨h2.size,h2.block⟩⟩) (fun τ d=>?_) ?_
 ·refine(fits_calls (Lift.re w1 τ d) g0 c0 vs v1 left most hv (fun hne=>?_) (pb:=pb) (hl.same (k1.block pb hpb (by simp)))).mono fun e w' h=>⟨_,h.1,rfl,?_⟩
  ·obtain⟨b,o,h1,h2,h3⟩:=hc hne
   exact⟨b,o,h1,fun j u hj=>(k1.cell h2).trans (h3 j u hj)⟩
  ·rw[h.2];exact⟨Nat.le_refl _,fun _ _ _=>rfl⟩
 ·rintro _ w2 ⟨rfl,k2⟩
  have bo2:Pl.Blk w2 S.w.heap.size _ 30:=k2.blk bo1 (by simp);refine wat_bad hK.det hcl he bo2 fun w3 h3 h4=>h w3 ⟨?_,fun b hb _=>?_⟩
  ·have:=k1.size;have:=k2.size;omega
  ·rw[h3 b (by omega)]
   exact(k1.trans k2).block b hb (by simp)
end
section
variable {K:Goroutine→World→Prop}{m:Bool}{w:World}{cs:List Frame}{cl:Frame}{vf vp vt:Value}{most bump:Int}{ob:Nat}
theorem pu_ext {a:Act}{oo:Oper}{w:World}{x:Operand}{j:Nat}{vs:Array Value}{v:Value}(h:oo.op=.extract x j)(hx:a.eval x=.tuple vs)(hv:vs[j]?=some v):(execOp a.eval oo).run Try.prog w=.ok (.value v) w:=by
 unfold execOp;rw[h];generalize a.eval=ρ at hx ⊢;simp[hx,hv,go_sem]
theorem al34:∀ w:World,(Instr.alloc 34 true (.tuple #[])).run Try.prog w=.ok (ptr w.heap.size) (w.alloc (.cells #[.pointer none] 34)):=fun w=>by
 simp[go_sem,Try.underlying34,Try.runUnderlying34,Try.sizeOf34,Try.isAgg34,Try.zeroValue34]
theorem st34 {w:World}{b s:Nat}{x0:Value}(hb:Pl.Blk w b [x0] 34):(Instr.storeAt 34 (ptr b) (ptr s)).run Try.prog w=.ok () (w.setCell ⟨b,0,none⟩ (ptr s)):=by
 have c0:=hb.cell 0;have f0:=hb.frozen 0;simp only[List.getElem?_cons_zero] at c0;simp[go_sem,c0,f0,Try.underlying34,Try.runUnderlying34,Try.sizeOf34,Try.isAgg34]
theorem bx25 {bump most:Int}{vt vp:Value}{wt:Bool}{g1 g2:Option Addr}{n1 c1 n2 c2:Nat}(h1:vt=.slice g1 n1 c1)(h2:vp=.slice g2 n2 c2):∀ w:World,(Instr.box 25 (.agg #[.int .i64 bump,vt,vp,.int .i64 most,.bool wt])).run Try.prog w=.ok (ptr w.heap.size) (w.alloc (.cells #[.int .i64 bump,vt,vp,.int .i64 most,.bool wt] 25)):=fun w=>by
 subst h1 h2;simp[go_sem,Try.underlying25,Try.runUnderlying25,Try.sizeOf25,Try.isAgg25]
theorem bx41:∀ w:World,(Instr.box 41 (.agg #[.int .i64 0,.slice none 0 0])).run Try.prog w=.ok (ptr w.heap.size) (w.alloc (.cells #[.int .i64 0,.slice none 0 0] 41)):=fun w=>by
 simp[go_sem,Try.underlying41,Try.runUnderlying41,Try.sizeOf41,Try.isAgg41]
theorem pu_build41 {a:Act}{oo:Oper}{w:World}(h:oo.op=.build 41 #[]):(execOp a.eval oo).run Try.prog w=.ok (.value (.agg #[.int .i64 0,.slice none 0 0])) w:=by
 unfold execOp;rw[h];exact run_vv (by simp[go_sem,Try.underlying41,Try.runUnderlying41,Try.sizeOf41,Try.zeroValue41])
theorem fld25 {b f:Nat}(hf:f<5):∀ w,(Instr.fieldAt 25 (.pointer (some ⟨b,0,none⟩)) f).run Try.prog w=.ok (.pointer (some ⟨b,f,none⟩)) w:=fun w=>by
 obtain rfl | rfl | rfl | rfl | rfl:f=0∨f=1∨f=2∨f=3∨f=4:=by omega
 all_goals simp[go_sem,Try.underlying25,Try.runUnderlying25,Try.sizeOf25,Try.isAgg25,Try.sizeOf3,Try.sizeOf22,Try.sizeOf23,Try.sizeOf4]
theorem ld22 {w:World}{a:Addr}{v:Value}(hc:w.cell? a=some v):(Instr.loadAt 22 (.pointer (some a))).run Try.prog w=.ok v w:=by simp[go_sem,hc,Try.underlying22,Try.runUnderlying22,Try.sizeOf22,Try.isAgg22]
theorem enter14:Frame.enter Try.prog 14 #[vf,vp,.int .i64 most] .normal=(base 14).at ⟨#[vf,vp,.int .i64 most,uu,uu,uu,uu,uu,uu,uu,uu,uu,uu,uu],[]⟩ [.code c14]:=enter_lit Try.func14 rfl rfl
def runC (vf vp:Value)(most:Int)(ob:Nat):Frame:=(base 14).at ⟨#[vf,vp,.int .i64 most,uu,uu,uu,ptr ob,.int .i64 0,vf,vp,.int .i64 most,uu,uu,uu],[]⟩ [.inRegion (sO (sL (sR c14))) [3,4,5,6,7],.code (sR (sR c14))]
theorem run_enter (hD:Det Try.prog m fun _=>K)(h:K (gs (Frame.enter Try.prog 27 #[vf,vp,.int .i64 most,.nilFunc] .normal) (runC vf vp most w.heap.size::cs)) (w.alloc (.cells #[.slice none 0 0,.slice none 0 0,.int .i64 0] 30))):K (gs (Frame.enter Try.prog 14 #[vf,vp,.int .i64 most] .normal) cs) w:=by
 rw[enter14];have hk:(base 14).kind≠.early:=nofun;refine hD.s0 ?_;refine hD.r0 ?_;obtain⟨ob,hob⟩:∃ ob,ob=w.heap.size:=⟨_,rfl⟩;rw[← hob] at h;refine hD.alloc (n:=0) hk rfl ⟨rfl,rfl,rfl,(by decide +kernel),nofun⟩ al30 ?_;rw[← hob];refine hD.as (.int .i64 0) hk ?_;simp only[Act.put,n1',n2',n3'];refine hD.e0 ?_;refine hD.s0 ?_;refine hD.r0 ?_;refine hD.mv vf hk ?_;refine hD.mv vp hk ?_;simp only[Act.put,n1',n2',n3'];refine hD.mv (.int .i64 most) hk ?_;simp only[Act.put,n1',n2',n3'];refine hD.cf #[vf,vp,.int .i64 most,.nilFunc] hk Try.func27 ?_;exact h
theorem run_back {ga ge:Option Addr}{na ca ne ce:Nat}{u e:Int}(hD:Det Try.prog m fun _=>K)(hcl:cl.mode=.run)(hob:Blk w ob [.slice none 0 0,.slice none 0 0,.int .i64 0] 30)(h:∀ w',(∀ b,b≠ob→w'.heap[b]?=w.heap[b]?)→w'.heap.size=w.heap.size→K (gs (cl.finish (.tuple #[.agg #[.slice ga na ca,.slice ge ne ce,.int .i64 u],.int .i64 e])) cs) w'):K (gs ((runC vf vp most ob).finish (.tuple #[.agg #[.slice ga na ca,.slice ge ne ce,.int .i64 u],.int .i64 e])) (cl::cs)) w:=by
 have hk:(base 14).kind≠.early:=nofun;unfold runC;refine fin0 (some 11) ?_;refine hD.pu (.agg #[.slice ga na ca,.slice ge ne ce,.int .i64 u]) hk (fun w=>pu_ext rfl rfl rfl) ?_;refine hD.pu (.int .i64 e) hk (fun w=>pu_ext rfl rfl rfl) ?_;simp only[Act.put,n1',n2',n3'];refine hD.store (n:=0) (u:=(ptr ob)) (z:=(.agg #[.slice ga na ca,.slice ge ne ce,.int .i64 u])) hk rfl ⟨rfl,rfl,rfl,rfl,nofun⟩ rfl rfl (fun τ d=>((st30 (w:=re w τ d) hob).trans (congrArg (Result.ok ()) re_set3))) (Nat.le_of_eq set3_size.symm) ?_;have bo2:Blk (set3 w ob (.slice ga na ca) (.slice ge ne ce) (.int .i64 u)) ob _ 30:=set3_blk hob;have k2:∀ b,b≠ob→(set3 w ob (.slice ga na ca) (.slice ge ne ce) (.int .i64 u)).heap[b]?=w.heap[b]?:=fun b hb=>set3_frame hb;have s2:(set3 w ob (.slice ga na ca) (.slice ge ne ce) (.int .i64 u)).heap.size=w.heap.size:=set3_size;generalize set3 w ob (.slice ga na ca) (.slice ge ne ce) (.int .i64 u)=w2 at bo2 k2 s2 ⊢;refine hD.as (.int .i64 e) hk ?_;simp only[Act.put,n1',n2',n3'];refine hD.e0 ?_;refine hD.ret (n:=0) ?_;refine hD.leave (n:=0) (b:=base 14) (a:=⟨#[vf,vp,.int .i64 most,uu,uu,uu,ptr ob,.int .i64 e,vf,vp,.int .i64 most,.tuple #[(.agg #[.slice ga na ca,.slice ge ne ce,.int .i64 u]),.int .i64 e],.agg #[.slice ga na ca,.slice ge ne ce,.int .i64 u],.int .i64 e],[]⟩) (v:=.tuple #[.agg #[.slice ga na ca,.slice ge ne ce,.int .i64 u],.int .i64 e]) rfl rfl Try.func14 (fun τ d=>results_c30 (fn:=Try.f14) (a:=6) (t:=7) (tmps:=#[vf,vp,.int .i64 most,uu,uu,uu,ptr ob,.int .i64 e,vf,vp,.int .i64 most,.tuple #[(.agg #[.slice ga na ca,.slice ge ne ce,.int .i64 u]),.int .i64 e],.agg #[.slice ga na ca,.slice ge ne ce,.int .i64 u],.int .i64 e]) (w:=re w2 τ d) rfl rfl bo2) hcl ?_;exact h w2 k2 s2
theorem enter9 {wt:Bool}:Frame.enter Try.prog 9 #[.agg #[.int .i64 bump,vt,vp,.int .i64 most,.bool wt]] .normal=(base 9).at ⟨(List.toArray ((.agg #[.int .i64 bump,vt,vp,.int .i64 most,.bool wt])::(ur 46))),[]⟩ [.code c9]:=enter_lit Try.func9 rfl rfl
def p9Lent (bump:Int)(vt vp:Value)(most:Int)(wt:Bool)(bx ao s sb:Nat):Frame:=(base 9).at ⟨(List.toArray ((.agg #[.int .i64 bump,vt,vp,.int .i64 most,.bool wt])::ptr bx::(.pointer none)::ptr ao::.int .i64 0::.bool false::ptr sb::uu::uu::uu::.agg #[.int .i64 0,.slice none 0 0]::ptr s::ptrAt bx 2::vp::(ur 33))),[]⟩ [.inRegion (sO (sL (sR (sR c9)))) [2,3],.code (sR (sR (sR c9)))]
theorem played_enter {wt:Bool}{g1 g2:Option Addr}{n1 c1 n2 c2:Nat}(hD:Det Try.prog m fun _=>K)(h1:vt=.slice g1 n1 c1)(h2:vp=.slice g2 n2 c2)(h:∀ bx ao s sb w',w.heap.size≤bx→bx<ao→ao<s→s<sb→Kp [] w w'→Blk w' bx [.int .i64 bump,vt,vp,.int .i64 most,.bool wt] 25→Blk w' ao [.slice none 0 0,.slice none 0 0,.int .i64 0] 30→Blk w' s [.int .i64 0,.slice none 0 0] 41→Blk w' sb [ptr s] 34→K (gs (Frame.enter Try.prog 26 #[vp] .normal) (p9Lent bump vt vp most wt bx ao s sb::cs)) w'):K (gs (Frame.enter Try.prog 9 #[.agg #[.int .i64 bump,vt,vp,.int .i64 most,.bool wt]] .normal) cs) w:=by
 rw[enter9];have hk:(base 9).kind≠.early:=nofun;refine hD.s0 ?_;refine hD.r0 ?_;have kb:=Kp.alloc [] w (.cells #[.int .i64 bump,vt,vp,.int .i64 most,.bool wt] 25);have bb:Blk (w.alloc (.cells #[.int .i64 bump,vt,vp,.int .i64 most,.bool wt] 25)) w.heap.size [.int .i64 bump,vt,vp,.int .i64 most,.bool wt] 25:=Blk.new _ _ _;have zb:(w.alloc (.cells #[.int .i64 bump,vt,vp,.int .i64 most,.bool wt] 25)).heap.size=w.heap.size+1:=wz' _ _;refine hD.box (n:=0) (u:=(.agg #[.int .i64 bump,vt,vp,.int .i64 most,.bool wt])) hk rfl ⟨rfl,rfl,rfl,rfl,nofun⟩ rfl (bx25 h1 h2) ?_;obtain⟨bx,hbx⟩:∃ bx,bx=w.heap.size:=⟨_,rfl⟩;rw[← hbx] at bb ⊢;generalize w.alloc (.cells #[.int .i64 bump,vt,vp,.int .i64 most,.bool wt] 25)=w1 at kb bb zb ⊢;refine hD.as (.pointer none) hk ?_;refine norm0 (a':=⟨(List.toArray ((.agg #[.int .i64 bump,vt,vp,.int .i64 most,.bool wt])::ptr bx::(.pointer none)::(ur 44))),[]⟩) ?_;have kao:=Kp.alloc [] w1 (.cells #[.slice none 0 0,.slice none 0 0,.int .i64 0] 30);have bao:Blk (w1.alloc (.cells #[.slice none 0 0,.slice none 0 0,.int .i64 0] 30)) w1.heap.size [.slice none 0 0,.slice none 0 0,.int .i64 0] 30:=Blk.new _ _ _;have zao:(w1.alloc (.cells #[.slice none 0 0,.slice none 0 0,.int .i64 0] 30)).heap.size=w1.heap.size+1:=wz' _ _;refine hD.alloc (n:=0) hk rfl ⟨rfl,rfl,rfl,(by decide +kernel),nofun⟩ al30 ?_;obtain⟨ao,hao⟩:∃ x,x=w1.heap.size:=⟨_,rfl⟩;rw[← hao] at bao ⊢;generalize w1.alloc (.cells #[.slice none 0 0,.slice none 0 0,.int .i64 0] 30)=w2 at kao bao zao ⊢;refine hD.as (.int .i64 0) hk ?_;refine hD.as (.bool false) hk ?_;refine norm0 (a':=⟨(List.toArray ((.agg #[.int .i64 bump,vt,vp,.int .i64 most,.bool wt])::ptr bx::(.pointer none)::ptr ao::.int .i64 0::.bool false::(ur 41))),[]⟩) ?_;refine hD.e0 ?_;refine hD.s0 ?_;refine hD.r0 ?_;refine hD.pu (.agg #[.int .i64 0,.slice none 0 0]) hk (fun w=>pu_build41 rfl) ?_;refine norm0 (a':=⟨(List.toArray ((.agg #[.int .i64 bump,vt,vp,.int .i64 most,.bool wt])::ptr bx::(.pointer none)::ptr ao::.int .i64 0::.bool false::(ur 4++(.agg #[.int .i64 0,.slice none 0 0])::(ur 36)))),[]⟩) ?_;have ks:=Kp.alloc [] w2 (.cells #[.int .i64 0,.slice none 0 0] 41);have bs:Blk (w2.alloc (.cells #[.int .i64 0,.slice none 0 0] 41)) w2.heap.size [.int .i64 0,.slice none 0 0] 41:=Blk.new _ _ _;have zs:(w2.alloc (.cells #[.int .i64 0,.slice none 0 0] 41)).heap.size=w2.heap.size+1:=wz' _ _;refine hD.box (n:=0) (u:=(.agg #[.int .i64 0,.slice none 0 0])) hk rfl ⟨rfl,rfl,rfl,rfl,nofun⟩ rfl bx41 ?_;obtain⟨s,hs⟩:∃ x,x=w2.heap.size:=⟨_,rfl⟩;rw[← hs] at bs ⊢;generalize w2.alloc (.cells #[.int .i64 0,.slice none 0 0] 41)=w3 at ks bs zs ⊢;refine norm0 (a':=⟨(List.toArray ((.agg #[.int .i64 bump,vt,vp,.int .i64 most,.bool wt])::ptr bx::(.pointer none)::ptr ao::.int .i64 0::.bool false::(ur 4++(.agg #[.int .i64 0,.slice none 0 0])::ptr s::(ur 35)))),[]⟩) ?_;have ksb:=Kp.alloc [] w3 (.cells #[.pointer none] 34);have bsb:Blk (w3.alloc (.cells #[.pointer none] 34)) w3.heap.size [.pointer none] 34:=Blk.new _ _ _;have zsb:(w3.alloc (.cells #[.pointer none] 34)).heap.size=w3.heap.size+1:=wz' _ _
 refine hD.alloc (n:=0) hk rfl ⟨rfl,rfl,rfl,(by decide +kernel),nofun⟩ al34 ?_;obtain⟨sb,hsb⟩:∃ x,x=w3.heap.size:=⟨_,rfl⟩;rw[← hsb] at bsb ⊢;generalize w3.alloc (.cells #[.pointer none] 34)=w4 at ksb bsb zsb ⊢;refine norm0 (a':=⟨(List.toArray ((.agg #[.int .i64 bump,vt,vp,.int .i64 most,.bool wt])::ptr bx::(.pointer none)::ptr ao::.int .i64 0::.bool false::ptr sb::uu::uu::uu::.agg #[.int .i64 0,.slice none 0 0]::ptr s::(ur 35))),[]⟩) ?_;refine hD.store (n:=0) (u:=(ptr sb)) (z:=(ptr s)) hk rfl ⟨rfl,rfl,rfl,rfl,nofun⟩ rfl rfl (fun τ d=>((st34 (w:=re w4 τ d) bsb).trans (congrArg (Result.ok ()) re_setCell))) (Nat.le_of_eq (World.size_setCell ..).symm) ?_;have k5:Kp [sb] w4 (w4.setCell ⟨sb,0,none⟩ (ptr s)):=⟨Nat.le_of_eq (World.size_setCell ..).symm,fun b _ hn=>setCell_frame (by simpa using hn)⟩;have b5:Blk (w4.setCell ⟨sb,0,none⟩ (ptr s)) sb [ptr s] 34:=bsb.set 0 (ptr s);have z5:(w4.setCell ⟨sb,0,none⟩ (ptr s)).heap.size=w4.heap.size:=World.size_setCell ..;generalize w4.setCell ⟨sb,0,none⟩ (ptr s)=w5 at k5 b5 z5 ⊢;refine hD.e0 ?_;refine hD.s0 ?_;refine hD.r0 ?_;have bb5:Blk w5 bx _ 25:=k5.blk (ksb.blk (ks.blk (kao.blk bb (by simp)) (by simp)) (by simp)) (by have:=bb.lt;simp;omega);have bo5:Blk w5 ao _ 30:=k5.blk (ksb.blk (ks.blk bao (by simp)) (by simp)) (by simp;omega);have bs5:Blk w5 s _ 41:=k5.blk (ksb.blk bs (by simp)) (by simp;omega);refine hD.fd (ptrAt bx 2) hk (fld25 (by omega)) ?_;refine hD.ld vp hk (fun τ d=>ld23 (bb5.cell 2)) ?_;refine norm0 (a':=⟨(List.toArray ((.agg #[.int .i64 bump,vt,vp,.int .i64 most,.bool wt])::ptr bx::(.pointer none)::ptr ao::.int .i64 0::.bool false::ptr sb::uu::uu::uu::.agg #[.int .i64 0,.slice none 0 0]::ptr s::ptrAt bx 2::vp::(ur 33))),[]⟩) ?_;refine hD.cf #[vp] hk Try.func26 ?_;refine h bx ao s sb w5 (by omega) (by omega) (by omega) (by omega) ⟨by omega,fun b hb _=>?_⟩ bb5 bo5 bs5 b5;rw[k5.block b (by omega) (by simp;omega),ksb.block b (by omega) (by simp),ks.block b (by omega) (by simp),kao.block b (by omega) (by simp),kb.block b hb (by simp)]
def p9Tm (bump:Int)(vt vp:Value)(most:Int)(wt:Bool)(bx ao s sb:Nat)(vl:Value)(rb:Nat):Array Value:=(List.toArray ((.agg #[.int .i64 bump,vt,vp,.int .i64 most,.bool wt])::ptr bx::(.pointer none)::ptr ao::.int .i64 0::.bool false::ptr sb::vl::ptr rb::.int .i64 0::.agg #[.int .i64 0,.slice none 0 0]::ptr s::ptrAt bx 2::vp::vl::ptrAt bx 4::.bool wt::(ur 30)))
theorem played_mid {wt:Bool}{bx ao s sb:Nat}{vl:Value}(hD:Det Try.prog m fun _=>K)(hb:Blk w bx [.int .i64 bump,vt,vp,.int .i64 most,.bool wt] 25)(h:∀ rb w',rb=w.heap.size→Kp [] w w'→Blk w' rb [.slice none 0 0,.slice none 0 0,.int .i64 0] 30→K (gs ((base 9).at ⟨p9Tm bump vt vp most wt bx ao s sb vl rb,[]⟩ [.code (if wt then (sT (sR (sL (sR (sR (sR (sR (sR c9)))))))) else (sF (sR (sL (sR (sR (sR (sR (sR c9))))))))),.code (sR (sR (sR (sR (sR (sR c9))))))]) cs) w'):K (gs ((p9Lent bump vt vp most wt bx ao s sb).finish vl) cs) w:=by
 have hk:(base 9).kind≠.early:=nofun;unfold p9Lent;refine fin0 (some 14) ?_;refine hD.as vl hk ?_;simp only[Act.put,n1',n2',n3'];refine hD.e0 ?_;refine hD.s0 ?_;refine hD.r0 ?_;have krb:=Kp.alloc [] w (.cells #[.slice none 0 0,.slice none 0 0,.int .i64 0] 30);have brb:Blk (w.alloc (.cells #[.slice none 0 0,.slice none 0 0,.int .i64 0] 30)) w.heap.size [.slice none 0 0,.slice none 0 0,.int .i64 0] 30:=Blk.new _ _ _;have zrb:(w.alloc (.cells #[.slice none 0 0,.slice none 0 0,.int .i64 0] 30)).heap.size=w.heap.size+1:=wz' _ _;refine hD.alloc (n:=0) hk rfl ⟨rfl,rfl,rfl,(by decide +kernel),nofun⟩ al30 ?_;obtain⟨rb,hrb⟩:∃ x,x=w.heap.size:=⟨_,rfl⟩;rw[← hrb] at brb ⊢;generalize w.alloc (.cells #[.slice none 0 0,.slice none 0 0,.int .i64 0] 30)=w1 at krb brb zrb ⊢;simp only[Act.put,n1',n2',n3'];refine hD.e0 ?_;refine hD.s0 ?_;refine hD.r0 ?_;refine hD.as (.int .i64 0) hk ?_;simp only[Act.put,n1',n2',n3'];refine hD.e0 ?_;refine hD.s0 ?_;refine hD.s0 ?_;refine hD.r0 ?_;have bb1:Blk w1 bx _ 25:=krb.blk hb (by simp);refine hD.fd (ptrAt bx 4) hk (fld25 (by omega)) ?_;refine hD.ld (.bool wt) hk (fun τ d=>ld4 (bb1.cell 4)) ?_;simp only[Act.put,n1',n2',n3'];refine hD.e0 ?_;refine hD.cond (n:=0) wt rfl rfl ?_;exact h rb w1 hrb krb brb
end
theorem ex_ext {P:Program}{a:Act}{o:Oper}{x:Operand}{j:Nat}{vs:Array Value}{v:Value}{w:World}(F:o.op=.extract x j)(hx:a.eval x=.tuple vs)(hv:vs[j]?=some v):(execOp a.eval o).run P w=.ok (.value v) w:=by
 unfold execOp;rw[F];generalize a.eval=ρ at hx ⊢;simp[hx,hv,go_sem]
theorem ex_assign {P:Program}{a:Act}{o:Oper}{x:Operand}{v:Value}{w:World}(F:o.op=.assign x)(hx:a.eval x=v):(execOp a.eval o).run P w=.ok (.value v) w:=by unfold execOp;rw[F];simp only[hx];rfl
theorem getD_up {l:Array Bool}{i j:Nat}{b:Bool}(h:l.getD j false=b)(hij:i≠j):(l.setIfInBounds i true).getD j false=b:=(set_other hij).trans h
theorem rep_false {n i:Nat}:(Array.replicate n false).getD i false=false:=by
 rw[gd',Array.getElem?_replicate];split<;>rfl
def p6ops:Array Oper:=sO (sT (sR (sL (sR (sR (sR (sR (sR c9))))))))
def p6sp (i:Nat):Bool:=i==3||i==8||i==12
def p6fin (bump:Int)(vt vp:Value)(most:Int)(wt:Bool)(bx ao s sb:Nat)(vl:Value)(rb:Nat)(f21 ag e:Value):Array Value:=(List.toArray ((.agg #[.int .i64 bump,vt,vp,.int .i64 most,.bool wt])::ptr bx::(.pointer none)::ptr ao::.int .i64 0::.bool false::ptr sb::vl::ptr rb::e::.agg #[.int .i64 0,.slice none 0 0]::ptr s::ptrAt bx 2::vp::vl::ptrAt bx 4::.bool wt::.tuple #[ag,e]::ptr s::ptrAt bx 1::vt::f21::vl::ptrAt bx 3::.int .i64 most::(.func (.func 29) #[] #[ptr sb,ptr bx])::.tuple #[ag,e]::ag::e::(ur 18)))
theorem p6_good {bump most:Int}{vt vp vl f21 ag e:Value}{wt:Bool}{bx ao s sb rb:Nat}{w:World}(hsb:Cel w sb [ptr s] 34)(hbx:Cel w bx [.int .i64 bump,vt,vp,.int .i64 most,.bool wt] 25):OrdG Try.prog p6ops (p6fin bump vt vp most wt bx ao s sb vl rb f21 ag e) [] p6sp w:=by
 refine⟨fun i o ho hs=>?_,fun i o g b ho hg=>?_⟩
 ·match i,ho,hs with
  | 0,ho,_ =>
   obtain rfl:=so' ho;exact⟨18,⟨rfl,(by decide +kernel),nofun⟩,(show 18<47 by decide),fun a h τ δ=>ex_load (v:=(ptr s)) rfl (h _ m0') (ld34 (hsb.cell 0))⟩
  | 1,ho,_ =>
   obtain rfl:=so' ho;exact⟨19,⟨rfl,(by decide +kernel),nofun⟩,(show 19<47 by decide),fun a h τ δ=>ex_field (v:=(ptrAt bx 1)) rfl (h _ m0') (fld25 (by omega))⟩
  | 2,ho,_ =>
   obtain rfl:=so' ho;exact⟨20,⟨rfl,(by decide +kernel),nofun⟩,(show 20<47 by decide),fun a h τ δ=>ex_load (v:=vt) rfl (h _ m0') (ld22 (hbx.cell 1))⟩
  | 3,_,hs=>cases hs
  | 4,ho,_ =>
   obtain rfl:=so' ho;exact⟨22,⟨rfl,(by decide +kernel),nofun⟩,(show 22<47 by decide),fun a h τ δ=>ex_move rfl (h _ m0')⟩
  | 5,ho,_ =>
   obtain rfl:=so' ho;exact⟨23,⟨rfl,(by decide +kernel),nofun⟩,(show 23<47 by decide),fun a h τ δ=>ex_field (v:=(ptrAt bx 3)) rfl (h _ m0') (fld25 (by omega))⟩
  | 6,ho,_ =>
   obtain rfl:=so' ho;exact⟨24,⟨rfl,(by decide +kernel),nofun⟩,(show 24<47 by decide),fun a h τ δ=>ex_load (v:=(.int .i64 most)) rfl (h _ m0') (ld3 (hbx.cell 3))⟩
  | 7,ho,_ =>
   obtain rfl:=so' ho;exact⟨25,⟨rfl,(by decide +kernel),nofun⟩,(show 25<47 by decide),fun a h τ δ=>pu_mkf rfl (h _ m0') (h _ m1')⟩
  | 8,_,hs=>cases hs
  | 9,ho,_ =>
   obtain rfl:=so' ho;exact⟨17,⟨rfl,(by decide +kernel),nofun⟩,(show 17<47 by decide),fun a h τ δ=>ex_move rfl (h _ m0')⟩
  | 10,ho,_ =>
   obtain rfl:=so' ho;exact⟨27,⟨rfl,(by decide +kernel),nofun⟩,(show 27<47 by decide),fun a h τ δ=>ex_ext rfl (h _ m0') rfl⟩
  | 11,ho,_ =>
   obtain rfl:=so' ho;exact⟨28,⟨rfl,(by decide +kernel),nofun⟩,(show 28<47 by decide),fun a h τ δ=>ex_ext rfl (h _ m0') rfl⟩
  | 12,_,hs=>cases hs
  | 13,ho,_ =>
   obtain rfl:=so' ho;exact⟨9,⟨rfl,(by decide +kernel),nofun⟩,(show 9<47 by decide),fun a h τ δ=>ex_assign rfl (h _ m0')⟩
  | n+14,ho,_ =>
   have:=lt_of_op ho;exact absurd this (by show ¬ n+14<14;omega)
 ·match i,ho with
  | 0,ho =>
   obtain rfl:=so' ho;cases hg
  | 1,ho =>
   obtain rfl:=so' ho;cases hg
  | 2,ho =>
   obtain rfl:=so' ho;cases hg
  | 3,ho =>
   obtain rfl:=so' ho;cases hg
  | 4,ho =>
   obtain rfl:=so' ho;cases hg
  | 5,ho =>
   obtain rfl:=so' ho;cases hg
  | 6,ho =>
   obtain rfl:=so' ho;cases hg
  | 7,ho =>
   obtain rfl:=so' ho;cases hg
  | 8,ho =>
   obtain rfl:=so' ho;cases hg
  | 9,ho =>
   obtain rfl:=so' ho;cases hg
  | 10,ho =>
   obtain rfl:=so' ho;cases hg
  | 11,ho =>
   obtain rfl:=so' ho;cases hg
  | 12,ho =>
   obtain rfl:=so' ho;cases hg
  | 13,ho =>
   obtain rfl:=so' ho;cases hg
  | n+14,ho =>
   have:=lt_of_op ho;exact absurd this (by show ¬ n+14<14;omega)
def p6J (bump:Int)(vt vp:Value)(most:Int)(wt:Bool)(bx ao s sb:Nat)(vl:Value)(rb:Nat)(S0:SC)(P28:Value→World→Prop)(P27:SC→Value→Int→Prop)(fin:Array Value)(li:Array Bool)(S:SC):Prop :=
 (fin=(p6fin bump vt vp most wt bx ao s sb vl rb undef (.agg #[.slice none 0 0,.slice none 0 0,.int .i64 0]) (.int .i64 0))∧S=S0∧li.getD 3 false=false∧li.getD 8 false=false∧li.getD 12 false=false) ∨
 (∃ vf w1,fin=(p6fin bump vt vp most wt bx ao s sb vl rb vf (.agg #[.slice none 0 0,.slice none 0 0,.int .i64 0]) (.int .i64 0))∧S={S0 with w:=w1}∧P28 vf w1∧li.getD 3 false=true∧li.getD 8 false=false∧li.getD 12 false=false) ∨
 (∃ vf ga na ca ge ne ce u e,fin=(p6fin bump vt vp most wt bx ao s sb vl rb vf (.agg #[.slice ga na ca,.slice ge ne ce,.int .i64 u]) (.int .i64 e))∧P27 S (.agg #[.slice ga na ca,.slice ge ne ce,.int .i64 u]) e∧li.getD 3 false=true∧li.getD 8 false=true∧li.getD 12 false=false) ∨
 (∃ vf S1 ga na ca ge ne ce u e,fin=(p6fin bump vt vp most wt bx ao s sb vl rb vf (.agg #[.slice ga na ca,.slice ge ne ce,.int .i64 u]) (.int .i64 e))∧P27 S1 (.agg #[.slice ga na ca,.slice ge ne ce,.int .i64 u]) e∧S={S1 with w:=set3 S1.w rb (.slice ga na ca) (.slice ge ne ce) (.int .i64 u)}∧li.getD 3 false=true∧li.getD 8 false=true∧li.getD 12 false=true)
theorem p6_runs {Post:Value→World→Prop}{bump most:Int}{vt vp vl:Value}{wt:Bool}{bx ao s sb rb:Nat}{cs:List Frame}{S0:SC}(P28:Value→World→Prop)(P27:SC→Value→Int→Prop)
  (hA:Cel S0.w sb [ptr s] 34∧Cel S0.w bx [.int .i64 bump,vt,vp,.int .i64 most,.bool wt] 25) (hB:∀ vf w1,P28 vf w1→Cel w1 sb [ptr s] 34∧Cel w1 bx [.int .i64 bump,vt,vp,.int .i64 most,.bool wt] 25) (hC:∀ S1 ag e,P27 S1 ag e→Cel S1.w sb [ptr s] 34∧Cel S1.w bx [.int .i64 bump,vt,vp,.int .i64 most,.bool wt] 25∧Blk S1.w rb [.slice none 0 0,.slice none 0 0,.int .i64 0] 30) (hrs:rb≠sb) (hrx:rb≠bx)
  (hP28:∀ v w τ d,P28 v w→P28 v (re w τ d)) (h28:∀ τ d,Calls Try.prog 28 #[ptr s,vt] (re S0.w τ d) fun e w'=>∃ v,e=.returned v∧P28 v w')
  (h27:∀ (cl:Frame) (cs':List Frame),cl.mode=.run→∀ vf w1,P28 vf w1→(∀ S1 ga na ca ge ne ce u e,P27 S1 (.agg #[.slice ga na ca,.slice ge ne ce,.int .i64 u]) e→Sound Try.prog link.tWg Post 0 S1 (gs (cl.finish (.tuple #[.agg #[.slice ga na ca,.slice ge ne ce,.int .i64 u],.int .i64 e])) cs'))→Sound Try.prog link.tWg Post 0 { S0 with w:=w1} (gs (Frame.enter Try.prog 27 #[vf,vl,.int .i64 most,(.func (.func 29) #[] #[ptr sb,ptr bx])] .normal) (cl::cs')))
  (h:∀ vf S1 ga na ca ge ne ce u e,P27 S1 (.agg #[.slice ga na ca,.slice ge ne ce,.int .i64 u]) e→Sound Try.prog link.tWg Post 0 { S1 with w:=set3 S1.w rb (.slice ga na ca) (.slice ge ne ce) (.int .i64 u)} (gs ((base 9).at ⟨(p6fin bump vt vp most wt bx ao s sb vl rb vf (.agg #[.slice ga na ca,.slice ge ne ce,.int .i64 u]) (.int .i64 e)),[]⟩ [.code (sR (sR (sR (sR (sR (sR c9))))))]) cs)) :
  Sound Try.prog link.tWg Post 0 S0 (gs ((base 9).at ⟨p9Tm bump vt vp most wt bx ao s sb vl rb,[]⟩ [.code (sT (sR (sL (sR (sR (sR (sR (sR c9)))))))),.code (sR (sR (sR (sR (sR (sR c9))))))]) cs):=by
 have hk:(base 9).kind≠.early:=nofun;show Sound Try.prog link.tWg Post 0 S0 (gs ((base 9).at ⟨p9Tm bump vt vp most wt bx ao s sb vl rb,[]⟩ (.code (.region 6 p6ops true)::[.code (sR (sR (sR (sR (sR (sR c9))))))])) cs);refine ord_begin fits mixed fun t=>?_;refine ord_run (sp:=p6sp) fits hk (by decide +kernel) (by decide +kernel) (by decide +kernel) (by decide +kernel) (p6J bump vt vp most wt bx ao s sb vl rb S0 P28 P27) (fun fin li S hJ=>?_) (fun fin li S i hJ hr hs=>?_) (fun fin li tm S i o rest hJ hI hr hs ho hw hev hgo=>?_) (fun fin li S hJ hall=>?_) _ t _ _ _ S0 (.inl ⟨rfl,rfl,rep_false,rep_false,rep_false⟩) (OInv.init [(18,ptr s),(19,ptrAt bx 1),(20,vt),(22,vl),(23,ptrAt bx 3),(24,.int .i64 most),(25,(.func (.func 29) #[] #[ptr sb,ptr bx])),(26,.tuple #[.agg #[.slice none 0 0,.slice none 0 0,.int .i64 0],.int .i64 0]),(17,.tuple #[.agg #[.slice none 0 0,.slice none 0 0,.int .i64 0],.int .i64 0]),(27,(.agg #[.slice none 0 0,.slice none 0 0,.int .i64 0])),(28,.int .i64 0)] (by simp[p6fin,p9Tm]) (show([18,19,20,22,23,24,25,26,17,27,28]:List Tmp).all (fun d=>p6ops.any fun o=>o.dst==some d)=true by decide +kernel)) leftN_init
 ·rcases hJ with⟨rfl,rfl,_⟩ | ⟨vf,w1,rfl,rfl,hp,_⟩ | ⟨vf,ga,na,ca,ge,ne,ce,u,e,rfl,hp,_⟩ | ⟨vf,S1,ga,na,ca,ge,ne,ce,u,e,rfl,hp,rfl,_⟩
  ·exact p6_good hA.1 hA.2
  ·obtain⟨p1,p2⟩:=hB _ _ hp
   exact p6_good p1 p2
  ·obtain⟨p1,p2,_⟩:=hC _ _ _ hp
   exact p6_good p1 p2
  ·obtain⟨p1,p2,_⟩:=hC _ _ _ hp
   exact p6_good (p1.same (set3_frame hrs.symm)) (p2.same (set3_frame hrx.symm))
 ·have n3:i≠3:=fun e=>by subst e;cases hs
  have n8:i≠8:=fun e=>by subst e;cases hs
  have n12:i≠12:=fun e=>by subst e;cases hs
  rcases hJ with⟨h1,h2,l1,l2,l3⟩ | ⟨vf,w1,h1,h2,hp,l1,l2,l3⟩ | ⟨vf,ga,na,ca,ge,ne,ce,u,e,h1,hp,l1,l2,l3⟩ | ⟨vf,S1,ga,na,ca,ge,ne,ce,u,e,h1,hp,h2,l1,l2,l3⟩
  ·exact .inl ⟨h1,h2,getD_up l1 n3,getD_up l2 n8,getD_up l3 n12⟩
  ·exact .inr (.inl ⟨vf,w1,h1,h2,hp,getD_up l1 n3,getD_up l2 n8,getD_up l3 n12⟩)
  ·exact .inr (.inr (.inl ⟨vf,ga,na,ca,ge,ne,ce,u,e,h1,hp,getD_up l1 n3,getD_up l2 n8,getD_up l3 n12⟩))
  ·exact .inr (.inr (.inr ⟨vf,S1,ga,na,ca,ge,ne,ce,u,e,h1,hp,h2,getD_up l1 n3,getD_up l2 n8,getD_up l3 n12⟩))
 ·have hu:=ready_unl hr hI.lsize
  have hcase:i=3∨i=8∨i=12:=by
   simp only[p6sp,Bool.or_eq_true,beq_iff_eq] at hs;omega
  rcases hcase with rfl | rfl | rfl
  ·
   rcases hJ with⟨rfl,rfl,l1,l2,l3⟩ | ⟨vf,w1,h1,h2,hp,l1,l2,l3⟩ | ⟨vf,ga,na,ca,ge,ne,ce,u,e,h1,hp,l1,l2,l3⟩ | ⟨vf,S1,ga,na,ca,ge,ne,ce,u,e,h1,hp,h2,l1,l2,l3⟩
   ·have hoo:=ho
    obtain rfl:=oj' (show some _=some o from hoo);have e1:Act.eval ⟨tm,[]⟩ (.tmp 18)=ptr s:=hev _ (show Operand.tmp 18∈(#[Operand.func 28,Operand.tmp 18,Operand.tmp 20]:Array Operand) by simp);have e2:Act.eval ⟨tm,[]⟩ (.tmp 20)=vt:=hev _ (show Operand.tmp 20∈(#[Operand.func 28,Operand.tmp 18,Operand.tmp 20]:Array Operand) by simp);refine sound_enter fits hk ho hw (by decide +kernel) nofun (fun w=>x_call (args:=#[ptr s,vt]) rfl rfl Try.func28 rfl rfl (by show [Act.eval ⟨tm,[]⟩ (.tmp 18),Act.eval ⟨tm,[]⟩ (.tmp 20)]++[]=_;rw[e1,e2];rfl)) ?_;refine ks (S:=S) ((clS (Post:=Post) S).call fits shut2 (f:=28) rfl (R:=P28) hP28 h28 fun vf w1 hp=>?_) rfl;refine fin_at (Kn:=fun _=>KS Try.prog link.tWg Post 0 S) (n:=0) ho rfl ?_;refine hgo _ _ { S with w:=w1} (hI.putv (v:=vf) (by decide +kernel) ho rfl (show(21:Nat)<47 by decide) hr) (.inr (.inl ⟨vf,w1,rfl,rfl,hp,set_same (by rw[hI.lsize];exact lt_of_op ho),getD_up l2 (by decide),getD_up l3 (by decide)⟩))
   all_goals (rw[l1] at hu;cases hu)
  ·have h3:=ready_after (j:=3) hr (by decide +kernel)
   rcases hJ with⟨_,_,l1,l2,l3⟩ | ⟨vf,w1,rfl,rfl,hp,l1,l2,l3⟩ | ⟨vf,ga,na,ca,ge,ne,ce,u,e,h1,hp,l1,l2,l3⟩ | ⟨vf,S1,ga,na,ca,ge,ne,ce,u,e,h1,hp,h2,l1,l2,l3⟩
   ·rw[l1] at h3;cases h3
   ·have hoo:=ho
    obtain rfl:=oj' (show some _=some o from hoo);have a0:Act.eval ⟨tm,[]⟩ (.tmp 21)=vf:=hev _ (show Operand.tmp 21∈(#[Operand.func 27,Operand.tmp 21,Operand.tmp 22,Operand.tmp 24,Operand.tmp 25]:Array Operand) by simp);have a1:Act.eval ⟨tm,[]⟩ (.tmp 22)=vl:=hev _ (show Operand.tmp 22∈(#[Operand.func 27,Operand.tmp 21,Operand.tmp 22,Operand.tmp 24,Operand.tmp 25]:Array Operand) by simp);have a2:Act.eval ⟨tm,[]⟩ (.tmp 24)=.int .i64 most:=hev _ (show Operand.tmp 24∈(#[Operand.func 27,Operand.tmp 21,Operand.tmp 22,Operand.tmp 24,Operand.tmp 25]:Array Operand) by simp);have a3:Act.eval ⟨tm,[]⟩ (.tmp 25)=(.func (.func 29) #[] #[ptr sb,ptr bx]):=hev _ (show Operand.tmp 25∈(#[Operand.func 27,Operand.tmp 21,Operand.tmp 22,Operand.tmp 24,Operand.tmp 25]:Array Operand) by simp);refine sound_enter fits hk ho hw (by decide +kernel) nofun (fun w=>x_call (args:=#[vf,vl,.int .i64 most,(.func (.func 29) #[] #[ptr sb,ptr bx])]) rfl rfl Try.func27 rfl rfl (by show [Act.eval ⟨tm,[]⟩ (.tmp 21),Act.eval ⟨tm,[]⟩ (.tmp 22),Act.eval ⟨tm,[]⟩ (.tmp 24),Act.eval ⟨tm,[]⟩ (.tmp 25)]++[]=_;rw[a0,a1,a2,a3];rfl)) ?_;refine h27 _ cs rfl vf w1 hp fun S1 ga na ca ge ne ce u e hp1=>?_;refine ks (S:=S1) (fin_at (Kn:=fun _=>KS Try.prog link.tWg Post 0 S1) (n:=0) ho rfl ?_) rfl;have q9:=hI.unl hu (j:=9) (by decide +kernel);have q10:=hI.unl q9 (j:=10) (by decide +kernel);have q11:=hI.unl q9 (j:=11) (by decide +kernel);have q13:=hI.unl q11 (j:=13) (by decide +kernel);have hI1:=((((hI.refin (by decide +kernel) (i:=9) (d:=17) (.tuple #[.agg #[.slice ga na ca,.slice ge ne ce,.int .i64 u],.int .i64 e]) rfl rfl q9).refin (by decide +kernel) (i:=10) (d:=27) (.agg #[.slice ga na ca,.slice ge ne ce,.int .i64 u]) rfl rfl q10).refin (by decide +kernel) (i:=11) (d:=28) (.int .i64 e) rfl rfl q11).refin (by decide +kernel) (i:=13) (d:=9) (.int .i64 e) rfl rfl q13).putv (v:=.tuple #[.agg #[.slice ga na ca,.slice ge ne ce,.int .i64 u],.int .i64 e]) (by decide +kernel) ho rfl (show(26:Nat)<47 by decide) hr;exact hgo _ _ S1 hI1 (.inr (.inr (.inl ⟨vf,ga,na,ca,ge,ne,ce,u,e,rfl,hp1,getD_up l1 (by decide),set_same (by rw[hI.lsize];exact lt_of_op ho),getD_up l3 (by decide)⟩)))
   all_goals (rw[l2] at hu;cases hu)
  ·have h8:=ready_after (j:=8) hr (by decide +kernel)
   rcases hJ with⟨_,_,l1,l2,l3⟩ | ⟨vf,w1,_,_,hp,l1,l2,l3⟩ | ⟨vf,ga,na,ca,ge,ne,ce,u,e,rfl,hp,l1,l2,l3⟩ | ⟨vf,S1,ga,na,ca,ge,ne,ce,u,e,h1,hp,h2,l1,l2,l3⟩
   ·rw[l2] at h8;cases h8
   ·rw[l2] at h8;cases h8
   ·have hoo:=ho
    obtain rfl:=oj' (show some _=some o from hoo);have e1:Act.eval ⟨tm,[]⟩ (.tmp 8)=ptr rb:=hev _ (show Operand.tmp 8∈(#[Operand.tmp 8,Operand.tmp 27]:Array Operand) by simp);have e2:Act.eval ⟨tm,[]⟩ (.tmp 27)=(.agg #[.slice ga na ca,.slice ge ne ce,.int .i64 u]):=hev _ (show Operand.tmp 27∈(#[Operand.tmp 8,Operand.tmp 27]:Array Operand) by simp);obtain⟨_,_,hbk⟩:=hC _ _ _ hp;refine ks (S:=S) (((clS (Post:=Post) S).det).store (n:=0) (u:=ptr rb) (z:=(.agg #[.slice ga na ca,.slice ge ne ce,.int .i64 u])) hk ho ⟨rfl,rfl,rfl,rfl,nofun⟩ e1 e2 (fun τ d=>((st30 (w:=re S.w τ d) hbk).trans (congrArg (Result.ok ()) re_set3))) (Nat.le_of_eq set3_size.symm) ?_) rfl;exact hgo _ _ { S with w:=set3 S.w rb (.slice ga na ca) (.slice ge ne ce) (.int .i64 u)} (hI.list hr fun o' d ho' hd=>by rw[ho] at ho';cases ho';cases hd) (.inr (.inr (.inr ⟨vf,S,ga,na,ca,ge,ne,ce,u,e,rfl,hp,rfl,getD_up l1 (by decide),getD_up l2 (by decide),set_same (by rw[hI.lsize];exact lt_of_op ho)⟩)))
   ·rw[l3] at hu;cases hu
 ·rcases hJ with⟨_,_,l1,l2,l3⟩ | ⟨vf,w1,_,_,hp,l1,l2,l3⟩ | ⟨vf,ga,na,ca,ge,ne,ce,u,e,rfl,hp,l1,l2,l3⟩ | ⟨vf,S1,ga,na,ca,ge,ne,ce,u,e,rfl,hp,rfl,l1,l2,l3⟩
  ·rw[hall 3 (by decide +kernel)] at l1;cases l1
  ·rw[hall 8 (by decide +kernel)] at l2;cases l2
  ·rw[hall 12 (by decide +kernel)] at l3;cases l3
  ·refine ks (S:={S1 with w:=set3 S1.w rb (.slice ga na ca) (.slice ge ne ce) (.int .i64 u)}) (((clS (Post:=Post) ({S1 with w:=set3 S1.w rb (.slice ga na ca) (.slice ge ne ce) (.int .i64 u)})).det).regionEnd (n:=0) ?_) rfl
   exact h vf S1 ga na ca ge ne ce u e hp
def p7ops:Array Oper:=sO (sF (sR (sL (sR (sR (sR (sR (sR c9))))))))
def p7sp (i:Nat):Bool:=i==3||i==7||i==11
def p7fin (bump:Int)(vt vp:Value)(most:Int)(wt:Bool)(bx ao s sb:Nat)(vl:Value)(rb:Nat)(f21 ag e:Value):Array Value:=(List.toArray ((.agg #[.int .i64 bump,vt,vp,.int .i64 most,.bool wt])::ptr bx::(.pointer none)::ptr ao::.int .i64 0::.bool false::ptr sb::vl::ptr rb::e::.agg #[.int .i64 0,.slice none 0 0]::ptr s::ptrAt bx 2::vp::vl::ptrAt bx 4::.bool wt::(ur 12++(.tuple #[ag,e])::ptr s::ptrAt bx 1::vt::f21::vl::ptrAt bx 3::.int .i64 most::.tuple #[ag,e]::ag::e::(ur 7))))
theorem p7_good {bump most:Int}{vt vp vl f21 ag e:Value}{wt:Bool}{bx ao s sb rb:Nat}{w:World}(hsb:Cel w sb [ptr s] 34)(hbx:Cel w bx [.int .i64 bump,vt,vp,.int .i64 most,.bool wt] 25):OrdG Try.prog p7ops (p7fin bump vt vp most wt bx ao s sb vl rb f21 ag e) [] p7sp w:=by
 refine⟨fun i o ho hs=>?_,fun i o g b ho hg=>?_⟩
 ·match i,ho,hs with
  | 0,ho,_ =>
   obtain rfl:=so' ho;exact⟨30,⟨rfl,(by decide +kernel),nofun⟩,(show 30<47 by decide),fun a h τ δ=>ex_load (v:=(ptr s)) rfl (h _ m0') (ld34 (hsb.cell 0))⟩
  | 1,ho,_ =>
   obtain rfl:=so' ho;exact⟨31,⟨rfl,(by decide +kernel),nofun⟩,(show 31<47 by decide),fun a h τ δ=>ex_field (v:=(ptrAt bx 1)) rfl (h _ m0') (fld25 (by omega))⟩
  | 2,ho,_ =>
   obtain rfl:=so' ho;exact⟨32,⟨rfl,(by decide +kernel),nofun⟩,(show 32<47 by decide),fun a h τ δ=>ex_load (v:=vt) rfl (h _ m0') (ld22 (hbx.cell 1))⟩
  | 3,_,hs=>cases hs
  | 4,ho,_ =>
   obtain rfl:=so' ho;exact⟨34,⟨rfl,(by decide +kernel),nofun⟩,(show 34<47 by decide),fun a h τ δ=>ex_move rfl (h _ m0')⟩
  | 5,ho,_ =>
   obtain rfl:=so' ho;exact⟨35,⟨rfl,(by decide +kernel),nofun⟩,(show 35<47 by decide),fun a h τ δ=>ex_field (v:=(ptrAt bx 3)) rfl (h _ m0') (fld25 (by omega))⟩
  | 6,ho,_ =>
   obtain rfl:=so' ho;exact⟨36,⟨rfl,(by decide +kernel),nofun⟩,(show 36<47 by decide),fun a h τ δ=>ex_load (v:=(.int .i64 most)) rfl (h _ m0') (ld3 (hbx.cell 3))⟩
  | 7,_,hs=>cases hs
  | 8,ho,_ =>
   obtain rfl:=so' ho;exact⟨29,⟨rfl,(by decide +kernel),nofun⟩,(show 29<47 by decide),fun a h τ δ=>ex_move rfl (h _ m0')⟩
  | 9,ho,_ =>
   obtain rfl:=so' ho;exact⟨38,⟨rfl,(by decide +kernel),nofun⟩,(show 38<47 by decide),fun a h τ δ=>ex_ext rfl (h _ m0') rfl⟩
  | 10,ho,_ =>
   obtain rfl:=so' ho;exact⟨39,⟨rfl,(by decide +kernel),nofun⟩,(show 39<47 by decide),fun a h τ δ=>ex_ext rfl (h _ m0') rfl⟩
  | 11,_,hs=>cases hs
  | 12,ho,_ =>
   obtain rfl:=so' ho;exact⟨9,⟨rfl,(by decide +kernel),nofun⟩,(show 9<47 by decide),fun a h τ δ=>ex_assign rfl (h _ m0')⟩
  | n+13,ho,_ =>
   have:=lt_of_op ho;exact absurd this (by show ¬ n+13<13;omega)
 ·match i,ho with
  | 0,ho =>
   obtain rfl:=so' ho;cases hg
  | 1,ho =>
   obtain rfl:=so' ho;cases hg
  | 2,ho =>
   obtain rfl:=so' ho;cases hg
  | 3,ho =>
   obtain rfl:=so' ho;cases hg
  | 4,ho =>
   obtain rfl:=so' ho;cases hg
  | 5,ho =>
   obtain rfl:=so' ho;cases hg
  | 6,ho =>
   obtain rfl:=so' ho;cases hg
  | 7,ho =>
   obtain rfl:=so' ho;cases hg
  | 8,ho =>
   obtain rfl:=so' ho;cases hg
  | 9,ho =>
   obtain rfl:=so' ho;cases hg
  | 10,ho =>
   obtain rfl:=so' ho;cases hg
  | 11,ho =>
   obtain rfl:=so' ho;cases hg
  | 12,ho =>
   obtain rfl:=so' ho;cases hg
  | n+13,ho =>
   have:=lt_of_op ho;exact absurd this (by show ¬ n+13<13;omega)
def p7J (bump:Int)(vt vp:Value)(most:Int)(wt:Bool)(bx ao s sb:Nat)(vl:Value)(rb:Nat)(S0:SC)(P28:Value→World→Prop)(P27:SC→Value→Int→Prop)(fin:Array Value)(li:Array Bool)(S:SC):Prop :=
 (fin=(p7fin bump vt vp most wt bx ao s sb vl rb undef (.agg #[.slice none 0 0,.slice none 0 0,.int .i64 0]) (.int .i64 0))∧S=S0∧li.getD 3 false=false∧li.getD 7 false=false∧li.getD 11 false=false) ∨
 (∃ vf w1,fin=(p7fin bump vt vp most wt bx ao s sb vl rb vf (.agg #[.slice none 0 0,.slice none 0 0,.int .i64 0]) (.int .i64 0))∧S={S0 with w:=w1}∧P28 vf w1∧li.getD 3 false=true∧li.getD 7 false=false∧li.getD 11 false=false) ∨
 (∃ vf ga na ca ge ne ce u e,fin=(p7fin bump vt vp most wt bx ao s sb vl rb vf (.agg #[.slice ga na ca,.slice ge ne ce,.int .i64 u]) (.int .i64 e))∧P27 S (.agg #[.slice ga na ca,.slice ge ne ce,.int .i64 u]) e∧li.getD 3 false=true∧li.getD 7 false=true∧li.getD 11 false=false) ∨
 (∃ vf S1 ga na ca ge ne ce u e,fin=(p7fin bump vt vp most wt bx ao s sb vl rb vf (.agg #[.slice ga na ca,.slice ge ne ce,.int .i64 u]) (.int .i64 e))∧P27 S1 (.agg #[.slice ga na ca,.slice ge ne ce,.int .i64 u]) e∧S={S1 with w:=set3 S1.w rb (.slice ga na ca) (.slice ge ne ce) (.int .i64 u)}∧li.getD 3 false=true∧li.getD 7 false=true∧li.getD 11 false=true)
theorem p7_runs {Post:Value→World→Prop}{bump most:Int}{vt vp vl:Value}{wt:Bool}{bx ao s sb rb:Nat}{cs:List Frame}{S0:SC}(P28:Value→World→Prop)(P27:SC→Value→Int→Prop)
  (hA:Cel S0.w sb [ptr s] 34∧Cel S0.w bx [.int .i64 bump,vt,vp,.int .i64 most,.bool wt] 25) (hB:∀ vf w1,P28 vf w1→Cel w1 sb [ptr s] 34∧Cel w1 bx [.int .i64 bump,vt,vp,.int .i64 most,.bool wt] 25) (hC:∀ S1 ag e,P27 S1 ag e→Cel S1.w sb [ptr s] 34∧Cel S1.w bx [.int .i64 bump,vt,vp,.int .i64 most,.bool wt] 25∧Blk S1.w rb [.slice none 0 0,.slice none 0 0,.int .i64 0] 30) (hrs:rb≠sb) (hrx:rb≠bx)
  (hP28:∀ v w τ d,P28 v w→P28 v (re w τ d)) (h28:∀ τ d,Calls Try.prog 28 #[ptr s,vt] (re S0.w τ d) fun e w'=>∃ v,e=.returned v∧P28 v w')
  (h27:∀ (cl:Frame) (cs':List Frame),cl.mode=.run→∀ vf w1,P28 vf w1→(∀ S1 ga na ca ge ne ce u e,P27 S1 (.agg #[.slice ga na ca,.slice ge ne ce,.int .i64 u]) e→Sound Try.prog link.tWg Post 0 S1 (gs (cl.finish (.tuple #[.agg #[.slice ga na ca,.slice ge ne ce,.int .i64 u],.int .i64 e])) cs'))→Sound Try.prog link.tWg Post 0 { S0 with w:=w1} (gs (Frame.enter Try.prog 14 #[vf,vl,.int .i64 most] .normal) (cl::cs')))
  (h:∀ vf S1 ga na ca ge ne ce u e,P27 S1 (.agg #[.slice ga na ca,.slice ge ne ce,.int .i64 u]) e→Sound Try.prog link.tWg Post 0 { S1 with w:=set3 S1.w rb (.slice ga na ca) (.slice ge ne ce) (.int .i64 u)} (gs ((base 9).at ⟨(p7fin bump vt vp most wt bx ao s sb vl rb vf (.agg #[.slice ga na ca,.slice ge ne ce,.int .i64 u]) (.int .i64 e)),[]⟩ [.code (sR (sR (sR (sR (sR (sR c9))))))]) cs)) :
  Sound Try.prog link.tWg Post 0 S0 (gs ((base 9).at ⟨p9Tm bump vt vp most wt bx ao s sb vl rb,[]⟩ [.code (sF (sR (sL (sR (sR (sR (sR (sR c9)))))))),.code (sR (sR (sR (sR (sR (sR c9))))))]) cs):=by
 have hk:(base 9).kind≠.early:=nofun;show Sound Try.prog link.tWg Post 0 S0 (gs ((base 9).at ⟨p9Tm bump vt vp most wt bx ao s sb vl rb,[]⟩ (.code (.region 7 p7ops true)::[.code (sR (sR (sR (sR (sR (sR c9))))))])) cs);refine ord_begin fits mixed fun t=>?_;refine ord_run (sp:=p7sp) fits hk (by decide +kernel) (by decide +kernel) (by decide +kernel) (by decide +kernel) (p7J bump vt vp most wt bx ao s sb vl rb S0 P28 P27) (fun fin li S hJ=>?_) (fun fin li S i hJ hr hs=>?_) (fun fin li tm S i o rest hJ hI hr hs ho hw hev hgo=>?_) (fun fin li S hJ hall=>?_) _ t _ _ _ S0 (.inl ⟨rfl,rfl,rep_false,rep_false,rep_false⟩) (OInv.init [(30,ptr s),(31,ptrAt bx 1),(32,vt),(34,vl),(35,ptrAt bx 3),(36,.int .i64 most),(37,.tuple #[.agg #[.slice none 0 0,.slice none 0 0,.int .i64 0],.int .i64 0]),(29,.tuple #[.agg #[.slice none 0 0,.slice none 0 0,.int .i64 0],.int .i64 0]),(38,(.agg #[.slice none 0 0,.slice none 0 0,.int .i64 0])),(39,.int .i64 0)] (by simp[p7fin,p9Tm]) (show([30,31,32,34,35,36,37,29,38,39]:List Tmp).all (fun d=>p7ops.any fun o=>o.dst==some d)=true by decide +kernel)) leftN_init
 ·rcases hJ with⟨rfl,rfl,_⟩ | ⟨vf,w1,rfl,rfl,hp,_⟩ | ⟨vf,ga,na,ca,ge,ne,ce,u,e,rfl,hp,_⟩ | ⟨vf,S1,ga,na,ca,ge,ne,ce,u,e,rfl,hp,rfl,_⟩
  ·exact p7_good hA.1 hA.2
  ·obtain⟨p1,p2⟩:=hB _ _ hp
   exact p7_good p1 p2
  ·obtain⟨p1,p2,_⟩:=hC _ _ _ hp
   exact p7_good p1 p2
  ·obtain⟨p1,p2,_⟩:=hC _ _ _ hp
   exact p7_good (p1.same (set3_frame hrs.symm)) (p2.same (set3_frame hrx.symm))
 ·have n3:i≠3:=fun e=>by subst e;cases hs
  have n8:i≠7:=fun e=>by subst e;cases hs
  have n12:i≠11:=fun e=>by subst e;cases hs
  rcases hJ with⟨h1,h2,l1,l2,l3⟩ | ⟨vf,w1,h1,h2,hp,l1,l2,l3⟩ | ⟨vf,ga,na,ca,ge,ne,ce,u,e,h1,hp,l1,l2,l3⟩ | ⟨vf,S1,ga,na,ca,ge,ne,ce,u,e,h1,hp,h2,l1,l2,l3⟩
  ·exact .inl ⟨h1,h2,getD_up l1 n3,getD_up l2 n8,getD_up l3 n12⟩
  ·exact .inr (.inl ⟨vf,w1,h1,h2,hp,getD_up l1 n3,getD_up l2 n8,getD_up l3 n12⟩)
  ·exact .inr (.inr (.inl ⟨vf,ga,na,ca,ge,ne,ce,u,e,h1,hp,getD_up l1 n3,getD_up l2 n8,getD_up l3 n12⟩))
  ·exact .inr (.inr (.inr ⟨vf,S1,ga,na,ca,ge,ne,ce,u,e,h1,hp,h2,getD_up l1 n3,getD_up l2 n8,getD_up l3 n12⟩))
 ·have hu:=ready_unl hr hI.lsize
  have hcase:i=3∨i=7∨i=11:=by
   simp only[p7sp,Bool.or_eq_true,beq_iff_eq] at hs;omega
  rcases hcase with rfl | rfl | rfl
  ·
   rcases hJ with⟨rfl,rfl,l1,l2,l3⟩ | ⟨vf,w1,h1,h2,hp,l1,l2,l3⟩ | ⟨vf,ga,na,ca,ge,ne,ce,u,e,h1,hp,l1,l2,l3⟩ | ⟨vf,S1,ga,na,ca,ge,ne,ce,u,e,h1,hp,h2,l1,l2,l3⟩
   ·have hoo:=ho
    obtain rfl:=oj' (show some _=some o from hoo);have e1:Act.eval ⟨tm,[]⟩ (.tmp 30)=ptr s:=hev _ (show Operand.tmp 30∈(#[Operand.func 28,Operand.tmp 30,Operand.tmp 32]:Array Operand) by simp);have e2:Act.eval ⟨tm,[]⟩ (.tmp 32)=vt:=hev _ (show Operand.tmp 32∈(#[Operand.func 28,Operand.tmp 30,Operand.tmp 32]:Array Operand) by simp);refine sound_enter fits hk ho hw (by decide +kernel) nofun (fun w=>x_call (args:=#[ptr s,vt]) rfl rfl Try.func28 rfl rfl (by show [Act.eval ⟨tm,[]⟩ (.tmp 30),Act.eval ⟨tm,[]⟩ (.tmp 32)]++[]=_;rw[e1,e2];rfl)) ?_;refine ks (S:=S) ((clS (Post:=Post) S).call fits shut2 (f:=28) rfl (R:=P28) hP28 h28 fun vf w1 hp=>?_) rfl;refine fin_at (Kn:=fun _=>KS Try.prog link.tWg Post 0 S) (n:=0) ho rfl ?_;refine hgo _ _ { S with w:=w1} (hI.putv (v:=vf) (by decide +kernel) ho rfl (show(33:Nat)<47 by decide) hr) (.inr (.inl ⟨vf,w1,rfl,rfl,hp,set_same (by rw[hI.lsize];exact lt_of_op ho),getD_up l2 (by decide),getD_up l3 (by decide)⟩))
   all_goals (rw[l1] at hu;cases hu)
  ·have h3:=ready_after (j:=3) hr (by decide +kernel)
   rcases hJ with⟨_,_,l1,l2,l3⟩ | ⟨vf,w1,rfl,rfl,hp,l1,l2,l3⟩ | ⟨vf,ga,na,ca,ge,ne,ce,u,e,h1,hp,l1,l2,l3⟩ | ⟨vf,S1,ga,na,ca,ge,ne,ce,u,e,h1,hp,h2,l1,l2,l3⟩
   ·rw[l1] at h3;cases h3
   ·have hoo:=ho
    obtain rfl:=oj' (show some _=some o from hoo);have a0:Act.eval ⟨tm,[]⟩ (.tmp 33)=vf:=hev _ (show Operand.tmp 33∈(#[Operand.func 14,Operand.tmp 33,Operand.tmp 34,Operand.tmp 36]:Array Operand) by simp);have a1:Act.eval ⟨tm,[]⟩ (.tmp 34)=vl:=hev _ (show Operand.tmp 34∈(#[Operand.func 14,Operand.tmp 33,Operand.tmp 34,Operand.tmp 36]:Array Operand) by simp);have a2:Act.eval ⟨tm,[]⟩ (.tmp 36)=.int .i64 most:=hev _ (show Operand.tmp 36∈(#[Operand.func 14,Operand.tmp 33,Operand.tmp 34,Operand.tmp 36]:Array Operand) by simp);refine sound_enter fits hk ho hw (by decide +kernel) nofun (fun w=>x_call (args:=#[vf,vl,.int .i64 most]) rfl rfl Try.func14 rfl rfl (by show [Act.eval ⟨tm,[]⟩ (.tmp 33),Act.eval ⟨tm,[]⟩ (.tmp 34),Act.eval ⟨tm,[]⟩ (.tmp 36)]++[]=_;rw[a0,a1,a2];rfl)) ?_;refine h27 _ cs rfl vf w1 hp fun S1 ga na ca ge ne ce u e hp1=>?_;refine ks (S:=S1) (fin_at (Kn:=fun _=>KS Try.prog link.tWg Post 0 S1) (n:=0) ho rfl ?_) rfl;have q9:=hI.unl hu (j:=8) (by decide +kernel);have q10:=hI.unl q9 (j:=9) (by decide +kernel);have q11:=hI.unl q9 (j:=10) (by decide +kernel);have q13:=hI.unl q11 (j:=12) (by decide +kernel);have hI1:=((((hI.refin (by decide +kernel) (i:=8) (d:=29) (.tuple #[.agg #[.slice ga na ca,.slice ge ne ce,.int .i64 u],.int .i64 e]) rfl rfl q9).refin (by decide +kernel) (i:=9) (d:=38) (.agg #[.slice ga na ca,.slice ge ne ce,.int .i64 u]) rfl rfl q10).refin (by decide +kernel) (i:=10) (d:=39) (.int .i64 e) rfl rfl q11).refin (by decide +kernel) (i:=12) (d:=9) (.int .i64 e) rfl rfl q13).putv (v:=.tuple #[.agg #[.slice ga na ca,.slice ge ne ce,.int .i64 u],.int .i64 e]) (by decide +kernel) ho rfl (show(37:Nat)<47 by decide) hr;exact hgo _ _ S1 hI1 (.inr (.inr (.inl ⟨vf,ga,na,ca,ge,ne,ce,u,e,rfl,hp1,getD_up l1 (by decide),set_same (by rw[hI.lsize];exact lt_of_op ho),getD_up l3 (by decide)⟩)))
   all_goals (rw[l2] at hu;cases hu)
  ·have h8:=ready_after (j:=7) hr (by decide +kernel)
   rcases hJ with⟨_,_,l1,l2,l3⟩ | ⟨vf,w1,_,_,hp,l1,l2,l3⟩ | ⟨vf,ga,na,ca,ge,ne,ce,u,e,rfl,hp,l1,l2,l3⟩ | ⟨vf,S1,ga,na,ca,ge,ne,ce,u,e,h1,hp,h2,l1,l2,l3⟩
   ·rw[l2] at h8;cases h8
   ·rw[l2] at h8;cases h8
   ·have hoo:=ho
    obtain rfl:=oj' (show some _=some o from hoo);have e1:Act.eval ⟨tm,[]⟩ (.tmp 8)=ptr rb:=hev _ (show Operand.tmp 8∈(#[Operand.tmp 8,Operand.tmp 38]:Array Operand) by simp);have e2:Act.eval ⟨tm,[]⟩ (.tmp 38)=(.agg #[.slice ga na ca,.slice ge ne ce,.int .i64 u]):=hev _ (show Operand.tmp 38∈(#[Operand.tmp 8,Operand.tmp 38]:Array Operand) by simp);obtain⟨_,_,hbk⟩:=hC _ _ _ hp;refine ks (S:=S) (((clS (Post:=Post) S).det).store (n:=0) (u:=ptr rb) (z:=(.agg #[.slice ga na ca,.slice ge ne ce,.int .i64 u])) hk ho ⟨rfl,rfl,rfl,rfl,nofun⟩ e1 e2 (fun τ d=>((st30 (w:=re S.w τ d) hbk).trans (congrArg (Result.ok ()) re_set3))) (Nat.le_of_eq set3_size.symm) ?_) rfl;exact hgo _ _ { S with w:=set3 S.w rb (.slice ga na ca) (.slice ge ne ce) (.int .i64 u)} (hI.list hr fun o' d ho' hd=>by rw[ho] at ho';cases ho';cases hd) (.inr (.inr (.inr ⟨vf,S,ga,na,ca,ge,ne,ce,u,e,rfl,hp,rfl,getD_up l1 (by decide),getD_up l2 (by decide),set_same (by rw[hI.lsize];exact lt_of_op ho)⟩)))
   ·rw[l3] at hu;cases hu
 ·rcases hJ with⟨_,_,l1,l2,l3⟩ | ⟨vf,w1,_,_,hp,l1,l2,l3⟩ | ⟨vf,ga,na,ca,ge,ne,ce,u,e,rfl,hp,l1,l2,l3⟩ | ⟨vf,S1,ga,na,ca,ge,ne,ce,u,e,rfl,hp,rfl,l1,l2,l3⟩
  ·rw[hall 3 (by decide +kernel)] at l1;cases l1
  ·rw[hall 7 (by decide +kernel)] at l2;cases l2
  ·rw[hall 11 (by decide +kernel)] at l3;cases l3
  ·refine ks (S:={S1 with w:=set3 S1.w rb (.slice ga na ca) (.slice ge ne ce) (.int .i64 u)}) (((clS (Post:=Post) ({S1 with w:=set3 S1.w rb (.slice ga na ca) (.slice ge ne ce) (.int .i64 u)})).det).regionEnd (n:=0) ?_) rfl
   exact h vf S1 ga na ca ge ne ce u e hp
abbrev u8:Nat→Value:=fun x=>Value.int .u8 x
def repV (va ve:Value)(used:Int):Value:=.agg #[va,ve,.int .i64 used]
def RdR (w:World)(v:Value)(acts ends:List Nat)(used:Int):Prop:=∃ va ve,v=repV va ve used∧Rd u8 w va acts∧Rd u8 w ve ends
theorem Rd.slice {α:Type}{f:α→Value}{w:World}{v:Value}{xs:List α}(h:Rd f w v xs):∃ g c,v=.slice g xs.length c:=by
 obtain⟨g,c,h,_⟩:=h;exact⟨g,c,h⟩
theorem Rd.mono {α:Type}{f:α→Value}{w w':World}{v:Value}{xs:List α}(h:Rd f w v xs)(k:∀ b o u,w.cell? ⟨b,o,none⟩=some u→w'.cell? ⟨b,o,none⟩=some u):Rd f w' v xs:=by
 obtain⟨g,c,rfl,h⟩:=h;refine⟨g,c,rfl,fun hne=>?_⟩;obtain⟨b,o,rfl,h2⟩:=h hne;exact⟨b,o,rfl,fun j u hj=>k _ _ _ (h2 j u hj)⟩
theorem cell_lt {w:World}{b o:Nat}{u:Value}(h:w.cell? ⟨b,o,none⟩=some u):b<w.heap.size:=by
 rcases Nat.lt_or_ge b w.heap.size with q | q
 ·exact q
 ·exfalso
  unfold World.cell? at h;simp only at h;rw[ae' q] at h;simp at h
theorem Kp.cells {w w':World}(k:Kp [] w w')(b o:Nat)(u:Value)(h:w.cell? ⟨b,o,none⟩=some u):w'.cell? ⟨b,o,none⟩=some u:=(cell_same (k.block b (cell_lt h) (by simp))).trans h
theorem same_calls (w:World)(v1 v2:Value)(a1 e1 a2 e2:List Nat)(u1 u2:Int)(h1:RdR w v1 a1 e1 u1)(h2:RdR w v2 a2 e2 u2)(l1:a1.length<1099511627776)(l2:a2.length<1099511627776)(l3:e1.length<1099511627776)(l4:e2.length<1099511627776) :
  Calls Try.prog 10 #[v1,v2] w fun e w'=>e=.returned (.bool (decide (a1=a2∧e1=e2∧u1=u2)))∧Kp [] w w':=by
 obtain⟨va,ve,rfl,ha,he⟩:=h1;obtain⟨vb,vf,rfl,hb,hf⟩:=h2;obtain⟨ga,ca,rfl⟩:=ha.slice;obtain⟨ge,ce,rfl⟩:=he.slice;obtain⟨gb,cb,rfl⟩:=hb.slice;obtain⟨gf,cf,rfl⟩:=hf.slice;obtain⟨_,qa⟩:=ha.cells;obtain⟨_,qe⟩:=he.cells;obtain⟨_,qb⟩:=hb.cells;obtain⟨_,qf⟩:=hf.cells;clear ha he hb hf;generalize hP:decide (a1=a2∧e1=e2∧u1=u2)=P;have HP:=Lib.hid hP;clear hP;have HK:Hid (Kp [] w ((w.alloc (.cells #[.slice ga a1.length ca,.slice ge e1.length ce,.int .i64 u1] 30)).alloc (.cells #[.slice gb a2.length cb,.slice gf e2.length cf,.int .i64 u2] 30))):=Lib.hid (Keeps.kp (((Keeps.refl _ _).alloc _).alloc _));by_cases d1:a1.length=a2.length
 ·by_cases d2:e1.length=e2.length
  ·by_cases d3:u1=u2
   ·subst d3
    obtain⟨n,hn⟩:∃ n,n=a1.length:=⟨_,rfl⟩;obtain⟨m,hm⟩:∃ m,m=e1.length:=⟨_,rfl⟩;unfold repV;rw[← hn] at qa d1 l1 HK ⊢;rw[← hm] at qe d2 l3 HK ⊢;rw[← d1] at qb HK ⊢;rw[← d2] at qf HK ⊢;have HN:=Lib.hid hn;have HM:=Lib.hid hm;have HN2:=Lib.hid d1;have HM2:=Lib.hid d2;have HA:=Lib.hid qa;have HB:=Lib.hid qb;have HE:=Lib.hid qe;have HF0:=Lib.hid qf;clear qa qb qe qf hn hm d1 d2 l2 l4;have HW:=Lib.hid (show((w.alloc (.cells #[.slice ga n ca,.slice ge m ce,.int .i64 u1] 30)).alloc (.cells #[.slice gb n cb,.slice gf m cf,.int .i64 u1] 30)).cell? ⟨w.heap.size,0,none⟩=some (.slice ga n ca)∧((w.alloc (.cells #[.slice ga n ca,.slice ge m ce,.int .i64 u1] 30)).alloc (.cells #[.slice gb n cb,.slice gf m cf,.int .i64 u1] 30)).cell? ⟨w.heap.size,1,none⟩=some (.slice ge m ce)∧((w.alloc (.cells #[.slice ga n ca,.slice ge m ce,.int .i64 u1] 30)).alloc (.cells #[.slice gb n cb,.slice gf m cf,.int .i64 u1] 30)).cell? ⟨w.heap.size+1,0,none⟩=some (.slice gb n cb)∧((w.alloc (.cells #[.slice ga n ca,.slice ge m ce,.int .i64 u1] 30)).alloc (.cells #[.slice gb n cb,.slice gf m cf,.int .i64 u1] 30)).cell? ⟨w.heap.size+1,1,none⟩=some (.slice gf m cf) from by
     have h1:=(Blk.new w [.slice ga n ca,.slice ge m ce,.int .i64 u1] 30).alloc (.cells #[.slice gb n cb,.slice gf m cf,.int .i64 u1] 30);have h2:=Blk.new (w.alloc (.cells #[.slice ga n ca,.slice ge m ce,.int .i64 u1] 30)) [.slice gb n cb,.slice gf m cf,.int .i64 u1] 30;rw[wz'] at h2;exact⟨h1.cell 0,h1.cell 1,h2.cell 0,h2.cell 1⟩)
    go_enter Try.func10,Try.ntmps10
    go_wp2
    go_loopw [5] (fun iv wr=>∃ j k:Nat,j≤n∧iv=.int .i64 j∧a1.take j=a2.take j∧wr=((w.alloc (.cells #[.slice ga n ca,.slice ge m ce,.int .i64 u1] 30)).alloc (.cells #[.slice gb n cb,.slice gf m cf,.int .i64 u1] 30)).drewN k) (fun iv _=>n-(intOf iv).toNat)
    case atStart=>exact⟨0,0,by omega,rfl,rfl,rfl⟩
    case round =>
     obtain⟨j,k,hj,rfl,ht,rfl⟩:=hrel;have HT:=Lib.hid ht;clear ht;obtain⟨c0,c1,c2,c3⟩:=HW.out;by_cases hlt:j<n
     ·generalize hW2:((w.alloc (.cells #[.slice ga n ca,.slice ge m ce,.int .i64 u1] 30)).alloc (.cells #[.slice gb n cb,.slice gf m cf,.int .i64 u1] 30))=W2 at HK c0 c1 c2 c3 ⊢
      clear hW2 HW;obtain⟨b1,o1,rfl,q1⟩:=HA.out (by omega);obtain⟨b2,o2,rfl,q2⟩:=HB.out (by omega);obtain⟨x,x1,x2⟩:=q1 j hlt;obtain⟨y,y1,y2⟩:=q2 j hlt;have x3:=HK.out.cells _ _ _ x2;have y3:=HK.out.cells _ _ _ y2;have HX:=Lib.hid x1;have HY:=Lib.hid y1;clear q1 q2 x1 y1 x2 y2;by_cases hxy:x=y
      ·subst hxy
       go_wp2
       go_quiet (fail)
       go_wp2
       go_roundw
       case rel=>exact⟨j+1,_,by omega,by go_num,take_eq HX.out HY.out HT.out,rfl⟩
       case measure=>simp[intOf];omega
      ·have hb:((x:Int)==(y:Int))=false:=by rw[beq_eq_false_iff_ne];omega
       have HF:=Lib.hid (show P=false from HP.out▸decide_eq_false fun h=>take_ne HX.out HY.out hxy h.1)
       go_wp2
       go_quiet (fail)
       go_wp2
       go_ret
       exact⟨by rw[HF.out];rfl,⟨HK.out.size,HK.out.block⟩⟩
     ·obtain rfl:n=j:=by omega
      have HEQ:=Lib.hid (all_eq HN.out HN2.out HT.out)
      go_wp2
      go_loopw [6] (fun iv wr=>∃ j k:Nat,j≤m∧iv=.int .i64 j∧e1.take j=e2.take j∧wr=((w.alloc (.cells #[.slice ga n ca,.slice ge m ce,.int .i64 u1] 30)).alloc (.cells #[.slice gb n cb,.slice gf m cf,.int .i64 u1] 30)).drewN k) (fun iv _=>m-(intOf iv).toNat)
      case atStart=>exact⟨0,_,by omega,rfl,rfl,rfl⟩
      case round =>
       obtain⟨j,k,hj,rfl,ht,rfl⟩:=hrel;have HT:=Lib.hid ht;clear ht;obtain⟨c0,c1,c2,c3⟩:=HW.out;by_cases hlt:j<m
       ·generalize hW2:((w.alloc (.cells #[.slice ga n ca,.slice ge m ce,.int .i64 u1] 30)).alloc (.cells #[.slice gb n cb,.slice gf m cf,.int .i64 u1] 30))=W2 at HK c0 c1 c2 c3 ⊢
        clear hW2 HW;obtain⟨b1,o1,rfl,q1⟩:=HE.out (by omega);obtain⟨b2,o2,rfl,q2⟩:=HF0.out (by omega);obtain⟨x,x1,x2⟩:=q1 j hlt;obtain⟨y,y1,y2⟩:=q2 j hlt;have x3:=HK.out.cells _ _ _ x2;have y3:=HK.out.cells _ _ _ y2;have HX:=Lib.hid x1;have HY:=Lib.hid y1;clear q1 q2 x1 y1 x2 y2;by_cases hxy:x=y
        ·subst hxy
         go_wp2
         go_quiet (fail)
         go_wp2
         go_roundw
         case rel=>exact⟨j+1,_,by omega,by go_num,take_eq HX.out HY.out HT.out,rfl⟩
         case measure=>simp[intOf];omega
        ·have hb:((x:Int)==(y:Int))=false:=by rw[beq_eq_false_iff_ne];omega
         have HF:=Lib.hid (show P=false from HP.out▸decide_eq_false fun h=>take_ne HX.out HY.out hxy h.2.1)
         go_wp2
         go_quiet (fail)
         go_wp2
         go_ret
         exact⟨by rw[HF.out];rfl,⟨HK.out.size,HK.out.block⟩⟩
       ·obtain rfl:m=j:=by omega
        have HEQ2:=Lib.hid (all_eq HM.out HM2.out HT.out);have HF:=Lib.hid (show P=true from HP.out▸decide_eq_true ⟨HEQ.out,HEQ2.out,by trivial⟩)
        go_wp2
        go_ret
        exact⟨by rw[HF.out];rfl,⟨HK.out.size,HK.out.block⟩⟩
   ·have hb:(u1==u2)=false:=by simpa using d3
    have HF:=Lib.hid (show P=false from HP.out▸decide_eq_false fun h=>d3 h.2.2);clear qa qe qb qf;unfold repV;rw[d1,d2] at HK ⊢
    go_enter Try.func10,Try.ntmps10
    go_wp2
    go_ret
    exact⟨by rw[HF.out];rfl,HK.out⟩
  ·have hb:((e1.length:Int)==(e2.length:Int))=false:=by rw[beq_eq_false_iff_ne];omega
   have HF:=Lib.hid (show P=false from HP.out▸decide_eq_false fun h=>d2 (by rw[h.2.1]));clear qa qe qb qf;unfold repV;rw[d1] at HK ⊢
   go_enter Try.func10,Try.ntmps10
   go_wp2
   go_ret
   exact⟨by rw[HF.out];rfl,HK.out⟩
 ·have hb:((a1.length:Int)==(a2.length:Int))=false:=by rw[beq_eq_false_iff_ne];omega
  have HF:=Lib.hid (show P=false from HP.out▸decide_eq_false fun h=>d1 (by rw[h.1]));clear qa qe qb qf;unfold repV
  go_enter Try.func10,Try.ntmps10
  go_wp2
  go_ret
  exact⟨by rw[HF.out];rfl,HK.out⟩
def p8ops:Array Oper:=sO (sL (sR (sR (sR (sR (sR (sR c9)))))))
def p8sp (i:Nat):Bool:=i==6||i==8
def p8Tm (x:Nat→Value)(e:Int)(vl:Value)(bx ao sb rb:Nat):Array Value:=#[x 0,ptr bx,x 2,ptr ao,x 4,x 5,ptr sb,vl,ptr rb,.int .i64 e,x 10,x 11,x 12,x 13,x 14,x 15,x 16,x 17,x 18,x 19,x 20,x 21,x 22,x 23,x 24,x 25,x 26,x 27,x 28,x 29,x 30,x 31,x 32,x 33,x 34,x 35,x 36,x 37,x 38,x 39,x 40,x 41,x 42,x 43,x 44,x 45,x 46]
def p8fin (x:Nat→Value)(e u:Int)(vp vl:Value)(bx ao s sb rb:Nat)(ga ge:Option Addr)(na ca ne ce:Nat):Array Value:=#[x 0,ptr bx,ptr s,ptr ao,.int .i64 e,.bool true,ptr sb,vl,ptr rb,.int .i64 e,x 10,x 11,x 12,x 13,x 14,x 15,x 16,x 17,x 18,x 19,x 20,x 21,x 22,x 23,x 24,x 25,x 26,x 27,x 28,x 29,x 30,x 31,x 32,x 33,x 34,x 35,x 36,x 37,x 38,x 39,ptr s,.agg #[.slice ga na ca,.slice ge ne ce,.int .i64 u],.int .i64 e,vl,ptrAt bx 2,vp,.bool true]
theorem ld30' {w:World}{b:Nat}{x0 x1 x2:Value}(hb:Cel w b [x0,x1,x2] 30):(Instr.loadAt 30 (ptr b)).run Try.prog w=.ok (.agg #[x0,x1,x2]) w:=by
 have h0:=hb.cell 0;have h1:=hb.cell 1;have h2:=hb.cell 2;simp only[List.getElem?_cons_zero,List.getElem?_cons_succ] at h0 h1 h2;simp[go_sem,h0,h1,h2,Try.underlying30,Try.runUnderlying30,Try.sizeOf30,Try.isAgg30,List.range,List.range.loop]
theorem p8_good {x:Nat→Value}{bump most e u:Int}{vt vp vl:Value}{wt:Bool}{bx ao s sb rb:Nat}{ga ge:Option Addr}{na ca ne ce:Nat}{w:World}(hsb:Cel w sb [ptr s] 34)(hbx:Cel w bx [.int .i64 bump,vt,vp,.int .i64 most,.bool wt] 25)(hrb:Cel w rb [.slice ga na ca,.slice ge ne ce,.int .i64 u] 30):OrdG Try.prog p8ops (p8fin x e u vp vl bx ao s sb rb ga ge na ca ne ce) [] p8sp w:=by
 refine⟨fun i o ho hs=>?_,fun i o g b ho hg=>?_⟩
 ·match i,ho,hs with
  | 0,ho,_ =>
   obtain rfl:=so' ho;exact⟨40,⟨rfl,(by decide +kernel),nofun⟩,(show 40<47 by decide),fun a h τ δ=>ex_load (v:=(ptr s)) rfl (h _ m0') (ld34 (hsb.cell 0))⟩
  | 1,ho,_ =>
   obtain rfl:=so' ho;exact⟨41,⟨rfl,(by decide +kernel),nofun⟩,(show 41<47 by decide),fun a h τ δ=>ex_load (v:=(.agg #[.slice ga na ca,.slice ge ne ce,.int .i64 u])) rfl (h _ m0') (ld30' hrb)⟩
  | 2,ho,_ =>
   obtain rfl:=so' ho;exact⟨42,⟨rfl,(by decide +kernel),nofun⟩,(show 42<47 by decide),fun a h τ δ=>ex_move rfl (h _ m0')⟩
  | 3,ho,_ =>
   obtain rfl:=so' ho;exact⟨43,⟨rfl,(by decide +kernel),nofun⟩,(show 43<47 by decide),fun a h τ δ=>ex_move rfl (h _ m0')⟩
  | 4,ho,_ =>
   obtain rfl:=so' ho;exact⟨44,⟨rfl,(by decide +kernel),nofun⟩,(show 44<47 by decide),fun a h τ δ=>ex_field (v:=(ptrAt bx 2)) rfl (h _ m0') (fld25 (by omega))⟩
  | 5,ho,_ =>
   obtain rfl:=so' ho;exact⟨45,⟨rfl,(by decide +kernel),nofun⟩,(show 45<47 by decide),fun a h τ δ=>ex_load (v:=vp) rfl (h _ m0') (ld23 (hbx.cell 2))⟩
  | 6,_,hs=>cases hs
  | 7,ho,_ =>
   obtain rfl:=so' ho;exact⟨2,⟨rfl,(by decide +kernel),nofun⟩,(show 2<47 by decide),fun a h τ δ=>ex_assign rfl (h _ m0')⟩
  | 8,_,hs=>cases hs
  | 9,ho,_ =>
   obtain rfl:=so' ho;exact⟨4,⟨rfl,(by decide +kernel),nofun⟩,(show 4<47 by decide),fun a h τ δ=>ex_assign rfl (h _ m0')⟩
  | 10,ho,_ =>
   obtain rfl:=so' ho;exact⟨5,⟨rfl,(by decide +kernel),nofun⟩,(show 5<47 by decide),fun a h τ δ=>ex_assign rfl (h _ m0')⟩
  | n+11,ho,_ =>
   have:=lt_of_op ho;exact absurd this (by show ¬ n+11<11;omega)
 ·match i,ho with
  | 0,ho =>
   obtain rfl:=so' ho;cases hg
  | 1,ho =>
   obtain rfl:=so' ho;cases hg
  | 2,ho =>
   obtain rfl:=so' ho;cases hg
  | 3,ho =>
   obtain rfl:=so' ho;cases hg
  | 4,ho =>
   obtain rfl:=so' ho;cases hg
  | 5,ho =>
   obtain rfl:=so' ho;cases hg
  | 6,ho =>
   obtain rfl:=so' ho;cases hg
  | 7,ho =>
   obtain rfl:=so' ho;cases hg
  | 8,ho =>
   obtain rfl:=so' ho;cases hg
  | 9,ho =>
   obtain rfl:=so' ho;cases hg
  | 10,ho =>
   obtain rfl:=so' ho;cases hg
  | n+11,ho =>
   have:=lt_of_op ho;exact absurd this (by show ¬ n+11<11;omega)
def p8J (x:Nat→Value)(e u:Int)(vp vl:Value)(bx ao s sb rb:Nat)(ga ge:Option Addr)(na ca ne ce:Nat)(S0:SC)(fin:Array Value)(li:Array Bool)(S:SC):Prop :=
 fin=p8fin x e u vp vl bx ao s sb rb ga ge na ca ne ce∧((S=S0∧li.getD 8 false=false)∨(S={S0 with w:=set3 S0.w ao (.slice ga na ca) (.slice ge ne ce) (.int .i64 u)}∧li.getD 8 false=true))
theorem results9 {w:World}{t:Array Value}{s ao:Nat}{x0 x1 x2:Value}{e:Int}(h2:t.getD 2 undef=ptr s)(h3:t.getD 3 undef=ptr ao)(h4:t.getD 4 undef=.int .i64 e)(h5:t.getD 5 undef=.bool true)(hb:Blk w ao [x0,x1,x2] 30):(results Try.f9 t).run Try.prog w=.ok (.tuple #[ptr s,.agg #[x0,x1,x2],.int .i64 e,.bool true]) w:=by
 have c0:=hb.cell 0;have c1:=hb.cell 1;have c2:=hb.cell 2;simp only[List.getElem?_cons_zero,List.getElem?_cons_succ] at c0 c1 c2;unfold results;rw[show Try.f9.results=#[.tmp 2,.cell 3 30,.tmp 4,.tmp 5] from rfl];simp only[gd'] at h2 h3 h4 h5;simp[go_sem,h2,h3,h4,h5,c0,c1,c2,Result.andThen,Try.underlying30,Try.runUnderlying30,Try.sizeOf30,Try.isAgg30]
theorem p8_runs {Post:Value→World→Prop}{cl:Frame}{x:Nat→Value}{bump most e u:Int}{vt vp vl:Value}{wt:Bool}{bx ao s sb rb pb:Nat}{ga ge:Option Addr}{na ca ne ce:Nat}{cs:List Frame}{S0:SC}{picks:List Nat}(hcl:cl.mode=.run)(hsb:Cel S0.w sb [ptr s] 34)(hbx:Cel S0.w bx [.int .i64 bump,vt,vp,.int .i64 most,.bool wt] 25)(hrb:Cel S0.w rb [.slice ga na ca,.slice ge ne ce,.int .i64 u] 30)
  (hao:Blk S0.w ao [.slice none 0 0,.slice none 0 0,.int .i64 0] 30) (h1:ao≠sb) (h2:ao≠bx) (h3:ao≠rb) (hl:Lent pb S0.w vl picks) (hp:Rd u8 S0.w vp picks) (hpl:picks.length<1099511627776)
  (h:∀ w',Kp [ao] S0.w w'→Sound Try.prog link.tWg Post 0 { S0 with w:=w'} (gs (cl.finish (.tuple #[ptr s,.agg #[.slice ga na ca,.slice ge ne ce,.int .i64 u],.int .i64 e,.bool true])) cs)) :
  Sound Try.prog link.tWg Post 0 S0 (gs ((base 9).at ⟨p8Tm x e vl bx ao sb rb,[]⟩ [.code (sR (sR (sR (sR (sR (sR c9))))))]) (cl::cs)):=by
 have hk:(base 9).kind≠.early:=nofun;have hD:=(clS (Post:=Post) S0).det;refine ks (S:=S0) (hD.seq (n:=0) ?_) rfl;show Sound Try.prog link.tWg Post 0 S0 (gs ((base 9).at ⟨p8Tm x e vl bx ao sb rb,[]⟩ (.code (.region 8 p8ops true)::[.code (sR (sR (sR (sR (sR (sR (sR c9)))))))])) (cl::cs));refine ord_begin fits mixed fun t=>?_;refine ord_run (sp:=p8sp) fits hk (by decide +kernel) (by decide +kernel) (by decide +kernel) (by decide +kernel) (p8J x e u vp vl bx ao s sb rb ga ge na ca ne ce S0) (fun fin li S hJ=>?_) (fun fin li S i hJ hr hs=>?_) (fun fin li tm S i o rest hJ hI hr hs ho hw hev hgo=>?_) (fun fin li S hJ hall=>?_) _ t _ _ _ S0 ⟨rfl,.inl ⟨rfl,rep_false⟩⟩ (OInv.init [(40,(ptr s)),(41,(.agg #[.slice ga na ca,.slice ge ne ce,.int .i64 u])),(42,(.int .i64 e)),(43,vl),(44,(ptrAt bx 2)),(45,vp),(46,(.bool true)),(2,(ptr s)),(4,(.int .i64 e)),(5,(.bool true))] (by simp[p8fin,p8Tm]) (show([40,41,42,43,44,45,46,2,4,5]:List Tmp).all (fun d=>p8ops.any fun o=>o.dst==some d)=true by decide +kernel)) leftN_init
 ·obtain⟨rfl,⟨rfl,_⟩ | ⟨rfl,_⟩⟩:=hJ
  ·exact p8_good hsb hbx hrb
  ·exact p8_good (hsb.same (set3_frame h1.symm)) (hbx.same (set3_frame h2.symm)) (hrb.same (set3_frame h3.symm))
 ·have n8:i≠8:=fun e=>by subst e;cases hs
  obtain⟨h1,⟨h2,l⟩ | ⟨h2,l⟩⟩:=hJ
  ·exact⟨h1,.inl ⟨h2,getD_up l n8⟩⟩
  ·exact⟨h1,.inr ⟨h2,getD_up l n8⟩⟩
 ·have hu:=ready_unl hr hI.lsize
  have hcase:i=6∨i=8:=by
   simp only[p8sp,Bool.or_eq_true,beq_iff_eq] at hs;omega
  rcases hcase with rfl | rfl
  ·have hoo:=ho
   obtain rfl:=oj' (show some _=some o from hoo);obtain⟨rfl,hJ⟩:=hJ;have e1:Act.eval ⟨tm,[]⟩ (.tmp 43)=vl:=hev _ (show Operand.tmp 43∈(#[Operand.func 30,Operand.tmp 43,Operand.tmp 45]:Array Operand) by simp);have e2:Act.eval ⟨tm,[]⟩ (.tmp 45)=vp:=hev _ (show Operand.tmp 45∈(#[Operand.func 30,Operand.tmp 43,Operand.tmp 45]:Array Operand) by simp);obtain⟨rfl,l8⟩:=hJ.resolve_right fun hq=>by
    have q7:=hI.unl hu (j:=7) (by decide +kernel);have q8:=hI.unl q7 (j:=8) (by decide +kernel);rw[hq.2] at q8;cases q8
   refine sound_enter fits hk ho hw (by decide +kernel) nofun (fun w=>x_call (args:=#[vl,vp]) rfl rfl Try.func30 rfl rfl (by show [Act.eval ⟨tm,[]⟩ (.tmp 43),Act.eval ⟨tm,[]⟩ (.tmp 45)]++[]=_;rw[e1,e2];rfl)) ?_;have hK:=clS (Post:=Post) S;refine ks (S:=S) (hK.call fits shut (f:=30) rfl (R:=fun v w'=>v=.bool true∧∃ τ d,w'=Lift.re S.w τ d) (fun v w τ d ⟨q1,τ',d',q2⟩=>⟨q1,τ,d,by rw[q2];rfl⟩) (fun τ d=>?_) ?_) rfl
   ·exact(left_calls (Lift.re S.w τ d) vl vp pb picks (hl.same rfl) hp hpl).mono fun e w' ⟨q1,n,q2⟩=>⟨_,q1,rfl,τ,d+n,by rw[q2];rfl⟩
   ·rintro v w' ⟨rfl,τ,d,rfl⟩
    refine hK.blind _ _ _ _ ?_;refine fin_at (Kn:=fun _=>KS Try.prog link.tWg Post 0 S) (n:=0) ho rfl ?_;exact hgo _ _ S (hI.put (by decide +kernel) ho rfl (show(46:Nat)<47 by decide) hr) ⟨rfl,.inl ⟨rfl,getD_up l8 (by decide)⟩⟩
  ·have hoo:=ho
   obtain rfl:=oj' (show some _=some o from hoo);obtain⟨rfl,hJ⟩:=hJ;obtain⟨rfl,l8⟩:=hJ.resolve_right fun hq=>by rw[hq.2] at hu;cases hu
   have e1:Act.eval ⟨tm,[]⟩ (.tmp 3)=ptr ao:=hev _ (show Operand.tmp 3∈(#[Operand.tmp 3,Operand.tmp 41]:Array Operand) by simp);have e2:Act.eval ⟨tm,[]⟩ (.tmp 41)=(.agg #[.slice ga na ca,.slice ge ne ce,.int .i64 u]):=hev _ (show Operand.tmp 41∈(#[Operand.tmp 3,Operand.tmp 41]:Array Operand) by simp);refine ks (S:=S) (((clS (Post:=Post) S).det).store (n:=0) (u:=ptr ao) (z:=(.agg #[.slice ga na ca,.slice ge ne ce,.int .i64 u])) hk ho ⟨rfl,rfl,rfl,rfl,nofun⟩ e1 e2 (fun τ d=>((st30 (w:=re S.w τ d) hao).trans (congrArg (Result.ok ()) re_set3))) (Nat.le_of_eq set3_size.symm) ?_) rfl;exact hgo _ _ { S with w:=set3 S.w ao (.slice ga na ca) (.slice ge ne ce) (.int .i64 u)} (hI.list hr fun o' d ho' hd=>by rw[ho] at ho';cases ho';cases hd) ⟨rfl,.inr ⟨rfl,set_same (by rw[hI.lsize];exact lt_of_op ho)⟩⟩
 ·obtain⟨rfl,hJ⟩:=hJ
  obtain⟨rfl,_⟩:=hJ.resolve_left fun hq=>by rw[hall 8 (by decide +kernel)] at hq;cases hq.2
  have hD2:=(clS (Post:=Post) ({S0 with w:=set3 S0.w ao (.slice ga na ca) (.slice ge ne ce) (.int .i64 u)})).det;have hbo:Blk (set3 S0.w ao (.slice ga na ca) (.slice ge ne ce) (.int .i64 u)) ao _ 30:=set3_blk hao;refine ks (S:={S0 with w:=set3 S0.w ao (.slice ga na ca) (.slice ge ne ce) (.int .i64 u)}) (hD2.regionEnd (n:=0) ?_) rfl;refine hD2.ret (n:=0) ?_;refine hD2.leave (n:=0) (b:=base 9) (a:=⟨p8fin x e u vp vl bx ao s sb rb ga ge na ca ne ce,[]⟩) (v:=.tuple #[ptr s,.agg #[.slice ga na ca,.slice ge ne ce,.int .i64 u],.int .i64 e,.bool true]) rfl rfl Try.func9 (fun τ d=>results9 (w:=re _ τ d) rfl rfl rfl rfl hbo) hcl ?_;exact h _ ⟨Nat.le_of_eq set3_size.symm,fun b _ hn=>set3_frame (by simpa using hn)⟩
def C0w:WC:=wcOf 0 0 0 0 0 0 (fun _=>0) (fun _=>#[]) (fun _=>0) (fun _=>0) (fun _=>0) 0 0
def Qpl (n:Nat)(its:Nat→List (Int × Int)):ShC:={n:=n,s:=0,ib:=fun _=>0,sx:=fun _=>0,its:=its,gi:=fun _=>none,ci:=fun _=>0,watch:=false,bsb:=0,bxb:=0,bump:=0,z:=(undef,uu,uu,undef),M:=0}
def runD (n:Nat)(its:Nat→List (Int × Int))(wt:Bool)(bh bump:Int)(most:Int)(picks:List Nat):RunSt ItL ShA:=(Qpl n its).out C0w wt bh bump most picks
theorem out_eq (Q:ShC)(C:WC)(wt:Bool)(bh bump:Int)(most:Int)(picks:List Nat):Q.out C wt bh bump most picks=runD Q.n Q.its wt bh bump most picks:=runF_congr (B:=Q.bods C) (B':=(Qpl Q.n Q.its).bods C0w) rfl rfl _ _
structure PlR where
 sum:Int
 notes:List Int
 acts:List Nat
 ends:List Nat
 used:Nat
 code:Int
def playR (n:Nat)(its:Nat→List (Int × Int))(picks:List Nat)(most:Int)(wt:Bool)(bump:Int):PlR :=
 if badM n most picks.length≠0 then ⟨0,[],[],[],0,badM n most picks.length⟩ else
  let y:=runD n its wt (-77) bump most picks
  ⟨y.a.sum,y.a.notes,y.acts,endsM (decide (most≤(y.acts.length:Int))) (donesE n y.st),picks.length-y.left.length,codeM (decide (most≤(y.acts.length:Int))) (donesE n y.st)⟩
theorem runItems_rem (i n len:Nat):∀ (l:List (Int × Int)) (k:Nat) (a:ShA),l.length=len-k→remE len (toT (runItems i n l k a).2)≤l.length
 | [],_,_,_=>Nat.le_refl _
 | (d,x)::l,k,a,h=>by
  rw[List.length_cons] at h ⊢;have st:∀ a:ShA,_:=fun a=>runItems_rem i n len l (k+1) a (by omega);unfold runItems
  repeat' split
  all_goals first
   | (refine Nat.le_trans (st _) ?_;omega)
   | (show len-(k+1)+1≤_;omega)
theorem go_rem (Q:ShC){i n:Nat}{t:ES ItL}(a:ShA)(ht:t≠.done):remE (Q.its i).length (toT (Q.go i t a n).2)+1≤remE (Q.its i).length t:=by
 cases t with
 | fresh=>exact Nat.succ_le_succ (runItems_rem i n (Q.its i).length (Q.its i) 0 { a with due:=1} rfl)
 | susp l =>
  have:=runItems_rem i n (Q.its i).length ((Q.its i).drop l.next) l.next { a with due:=1} (List.length_drop ..);rw[List.length_drop] at this;exact Nat.succ_le_succ this
 | done=>exact absurd rfl ht
theorem runF_bound (Q:ShC)(C:WC)(beh:ShA→ShA):∀ (k:Nat) (x:RunSt ItL ShA),(runF (Q.bods C) Q.n beh k x).acts.length+sumTo Q.n (fun j=>remE (Q.its j).length ((runF (Q.bods C) Q.n beh k x).st j))≤x.acts.length+sumTo Q.n (fun j=>remE (Q.its j).length (x.st j))
 | 0,_=>Nat.le_refl _
 | k+1,x=>by
  unfold runF;split
  ·exact Nat.le_refl _
  ·rename_i hne
   obtain⟨h1,h2⟩:=readies_lt (chosen_mem (left:=x.left) (acts:=x.acts) hne);refine Nat.le_trans (runF_bound Q C beh k _) ?_;generalize (chosen (readies (Q.bods C) Q.n x) x.acts x.left).1=i at h1 h2 ⊢;have h4:=sum_updE Q x.st h1 (toT (Q.go i (x.st i) x.a (x.acts.length+1)).2);have h5:=go_rem Q (i:=i) (n:=x.acts.length+1) x.a h2;show(x.acts++[i]).length+sumTo Q.n (fun j=>remE (Q.its j).length (updE x.st i (toT (Q.go i (x.st i) x.a (x.acts.length+1)).2) j))≤_;rw[la'];simp only[List.length_singleton];omega
theorem runD_acts (n:Nat)(its:Nat→List (Int × Int))(wt:Bool)(bh bump:Int)(most:Int)(picks:List Nat):(runD n its wt bh bump most picks).acts.length≤sumTo n (fun j=>(its j).length+1):=by
 have:=runF_bound (Qpl n its) C0w (behD wt bh bump) most.toNat ⟨fun _=>.fresh,⟨0,[],0⟩,[],picks⟩;refine Nat.le_trans (Nat.le_add_right _ _) (Nat.le_trans this ?_);show 0+sumTo n (fun j=>(its j).length+1)≤_;omega
def IBof (n:Nat)(its:Nat→List (Int × Int))(gi:Nat→Option Addr)(b:Nat):Prop:=∃ i o,i<n∧its i≠[]∧gi i=some ⟨b,o,none⟩
theorem Rd.kp {α:Type}{f:α→Value}{w w':World}{v:Value}{xs:List α}{F:List Nat}(h:Rd f w v xs)(k:Kp F w w')(hf:∀ x∈F,w.heap.size≤x):Rd f w' v xs:=h.mono fun b _ _ hu=>(cell_same (k.block b (cell_lt hu) fun hm=>by have:=hf b hm;have:=cell_lt hu;omega)).trans hu
structure PlA (w:World)(n:Nat)(its:Nat→List (Int × Int))(gi:Nat→Option Addr)(ci:Nat→Nat)(vt vp:Value)(picks:List Nat):Prop where
 thr:Rd (fun x:Value=>x) w vt ((List.range n).map fun i=>.slice (gi i) (its i).length (ci i))
 items:∀ i,i<n→ItsAt (IBof n its gi) w (gi i) (its i)
 low:∀ b,IBof n its gi b→b<w.heap.size
 pk:∃ pb,pb<w.heap.size∧Bytes pb w vp picks
 n40:n<1048576
 len:∀ i,i<n→(its i).length<4294967295
 pkl:picks.length<1099511627776
 sum:sumTo n (fun j=>(its j).length+1)<4294967295
theorem PlA.kp {w W:World}{n:Nat}{its:Nat→List (Int × Int)}{gi:Nat→Option Addr}{ci:Nat→Nat}{vt vp:Value}{picks:List Nat}(h:PlA w n its gi ci vt vp picks){F:List Nat}(k:Kp F w W)(hf:∀ x∈F,w.heap.size≤x):PlA W n its gi ci vt vp picks:=by
 obtain⟨pb,h1,h2⟩:=h.pk;have hb:∀ b,b<w.heap.size→W.heap[b]?=w.heap[b]?:=fun b hb=>k.block b hb fun hm=>by have:=hf _ hm;omega
 refine⟨h.thr.kp k hf,fun i hi j d x hj=>?_,fun b hb=>nl' (h.low b hb) k.size,⟨pb,nl' h1 k.size,h2.same (hb pb h1)⟩,h.n40,h.len,h.pkl,h.sum⟩;obtain⟨ab,ao,h1,h2,h3,h4⟩:=h.items i hi j d x hj;exact⟨ab,ao,h1,h2,(cell_same (hb ab (h.low ab h2))).trans h3,(cell_same (hb ab (h.low ab h2))).trans h4⟩
structure PlD (N:Nat)(w:World)(s:Nat)(va ve:Value)(R:PlR):Prop where
 sh:∃ vn,Blk w s [.int .i64 R.sum,vn] 41∧RepI w vn R.notes
 acts:RepU w va R.acts
 ends:RepE w ve R.ends
 fresh:N≤s
def ibOf (bs:List (Nat × Nat))(i:Nat):Nat:=(bs[i]?.getD (0,0)).1
def sxOf (bs:List (Nat × Nat))(i:Nat):Nat:=(bs[i]?.getD (0,0)).2
theorem ibOf_get {bs:List (Nat × Nat)}{i n:Nat}(hl:bs.length=n)(hi:i<n):bs[i]?=some (ibOf bs i,sxOf bs i):=by
 have:i<bs.length:=by omega
 unfold ibOf sxOf;rw[List.getElem?_eq_getElem this];rfl
def plX (n:Nat)(its:Nat→List (Int × Int))(gi:Nat→Option Addr)(bs:List (Nat × Nat))(wt:Bool)(s sb bx:Nat)(b:Nat):Prop :=
 b=s∨IBof n its gi b∨(∃ i,i<n∧(b=ibOf bs i∨b=sxOf bs i))∨(wt=true∧(b=sb∨b=bx))
structure PlW (S4 S1:SC)(n:Nat)(its:Nat→List (Int × Int))(gi:Nat→Option Addr)(ci:Nat→Nat)(bs:List (Nat × Nat))(vt vp:Value)(picks:List Nat)(wt:Bool)(bump most:Int)(N s sb bx:Nat)(va ve:Value)(R:PlR):Prop where
 idle:Idle S1
 n0:S1.n0=S4.n0
 W0:S1.W0=S4.W0
 size:S4.w.heap.size≤S1.w.heap.size
 block:∀ b,b<S4.w.heap.size→¬plX n its gi bs wt s sb bx b→S1.w.heap[b]?=S4.w.heap[b]?
 keep:∀ b,IBof n its gi b→S1.w.heap[b]?=S4.w.heap[b]?
 data:PlD N S1.w s va ve R
 behs:wt=true→Cel S1.w sb [ptr s] 34∧Cel S1.w bx [.int .i64 bump,vt,vp,.int .i64 most,.bool wt] 25
theorem fitsM_bad {vs:List Value}{n:Nat}{most:Int}{p:Nat}(hl:vs.length=n)(hn:vs.any isNilF=false):fitsM vs most p=badM n most p:=by
 unfold fitsM badM;rw[hl,hn];simp
theorem watch_play {Post:Value→World→Prop}{S4:SC}{cl:Frame}{cs:List Frame}(hid:Idle S4)(hcl:cl.mode=.run){n:Nat}{its:Nat→List (Int × Int)}{gi:Nat→Option Addr}{ci:Nat→Nat}{vt vp vl vf bh:Value}{picks:List Nat}{most bump:Int}{wt:Bool}{bs:List (Nat × Nat)}{N N3 s sb bx lb:Nat}
  (A:PlA S4.w n its gi ci vt vp picks) (hIB:∀ b,IBof n its gi b→b<N) (hNs:N≤s) (hs3:s<N3) (hsb:N≤sb∧sb<N3∧sb≠s) (hbx:N≤bx∧bx<N3∧bx≠s) (hlb:N≤lb∧lb<N3∧lb≠s∧lb≠sb∧lb≠bx) (h34:N3≤S4.w.heap.size)
  (hvf:RepF S4.w vf (bs.map bodV)) (hbl:bs.length=n) (hmade:MadeF s N3 ((List.range n).map fun i=>.slice (gi i) (its i).length (ci i)) bs (fp vf) S4.w) (hbs:Blk S4.w s [.int .i64 0,.slice none 0 0] 41) (hl:Lent lb S4.w vl picks)
  (hbh:(wt=false∧bh=.nilFunc)∨(wt=true∧bh=.func (.func 29) #[] #[ptr sb,ptr bx]∧Cel S4.w sb [ptr s] 34∧Cel S4.w bx [.int .i64 bump,vt,vp,.int .i64 most,.bool wt] 25))
  (hnext:∀ S1 ga na ca ge ne ce,PlW S4 S1 n its gi ci bs vt vp picks wt bump most N s sb bx (.slice ga na ca) (.slice ge ne ce) (playR n its picks most wt bump) →
   Sound Try.prog link.tWg Post 0 S1 (gs (cl.finish (.tuple #[.agg #[.slice ga na ca,.slice ge ne ce,.int .i64 ((playR n its picks most wt bump).used:Nat)],.int .i64 (playR n its picks most wt bump).code])) cs)) :
  Sound Try.prog link.tWg Post 0 S4 (gs (Frame.enter Try.prog 27 #[vf,vl,.int .i64 most,bh] .normal) (cl::cs)):=by
 have hmk:∀ i,i<n→N3≤ibOf bs i∧N3≤sxOf bs i∧Cel S4.w (ibOf bs i) [.slice (gi i) (its i).length (ci i)] 51∧Cel S4.w (sxOf bs i) [ptr s] 34:=fun i hi=>by
  obtain⟨h1,h2,_,_,v,h3,h4,h5⟩:=hmade i _ _ (ibOf_get hbl hi);rw[List.getElem?_map,List.getElem?_range hi] at h3;cases h3;exact⟨h1,h2,h4,h5⟩
 have hany:(bs.map bodV).any isNilF=false:=by
  rw[List.any_eq_false];intro u hu;obtain⟨i,_,rfl⟩:=List.mem_map.1 hu;simp[isNilF,bodV]
 have hlen:(bs.map bodV).length=n:=by rw[List.length_map];exact hbl
 obtain⟨g0,c0,rfl,_⟩:=hvf.form;by_cases hbad:badM n most picks.length≠0
 ·
  have hplay:playR n its picks most wt bump=⟨0,[],[],[],0,badM n most picks.length⟩:=if_pos hbad;have hfm:=fitsM_bad (most:=most) (p:=picks.length) hlen hany;refine watch_bad hcl (fun u hu=>?_) (fun hne=>?_) hl.bytes (by omega) (by rw[hfm];exact hbad) fun w' k=>?_
  ·obtain⟨i,_,rfl⟩:=List.mem_map.1 hu
   exact .inr ⟨_,_,rfl⟩
  ·obtain⟨fb,c,e,h1,_⟩:=hvf.ex (List.length_pos_iff.2 hne)
   cases e;exact⟨fb,0,rfl,h1,fun j u hj=>by rw[Nat.zero_add];exact hvf.cell1 (u:=fun x:Value=>x) (fun _=>rfl) j u hj⟩
  ·rw[hplay] at hnext
   rw[hfm];refine hnext { S4 with w:=w'} none 0 0 none 0 0 ⟨⟨hid.roles,hid.grps,hid.pos⟩,rfl,rfl,k.size,fun b hb _=>k.block b hb (by simp),fun b hb=>k.block b (A.low b hb) (by simp),⟨⟨.slice none 0 0,k.blk hbs (by simp),Rep.nil⟩,Rep.nil,Rep.nil,hNs⟩,fun hw=>?_⟩
   ·rcases hbh with⟨h1,_⟩ | ⟨_,_,h1,h2⟩
    ·rw[hw] at h1;cases h1
    ·exact⟨k.cel h1 (by simp),k.cel h2 (by simp)⟩
 ·
  have hb0:badM n most picks.length=0:=Classical.not_not.1 hbad;have hplay:playR n its picks most wt bump=⟨(runD n its wt (-77) bump most picks).a.sum,(runD n its wt (-77) bump most picks).a.notes,(runD n its wt (-77) bump most picks).acts,endsM (decide (most≤((runD n its wt (-77) bump most picks).acts.length:Int))) (donesE n (runD n its wt (-77) bump most picks).st),picks.length-(runD n its wt (-77) bump most picks).left.length,codeM (decide (most≤((runD n its wt (-77) bump most picks).acts.length:Int))) (donesE n (runD n its wt (-77) bump most picks).st)⟩:=if_neg hbad;have hlim:0<n∧n≤8∧0≤most∧picks.length≤65536:=by
   unfold badM at hb0;split at hb0
   ·cases hb0
   ·split at hb0
    ·cases hb0
    ·omega
  obtain⟨hn0,hn8,hm0,hp0⟩:=hlim;obtain⟨fb,c,e,hfl,_⟩:=hvf.ex (by omega);cases e;rw[hlen];obtain⟨Q,hQ⟩:∃ Q:ShC,Q={n:=n,s:=s,ib:=ibOf bs,sx:=sxOf bs,its:=its,gi:=gi,ci:=ci,watch:=wt,bsb:=sb,bxb:=bx,bump:=bump,z:=(vt,vp,.int .i64 most,.bool wt),M:=sumTo n (fun j=>(its j).length+1),low:=IBof n its gi,H:=fun b=>S4.w.heap[b]?}:=⟨_,rfl⟩;have hQn:Q.n=n:=by rw[hQ]
  have hQi:Q.its=its:=by rw[hQ]
  have hQs:Q.s=s:=by rw[hQ]
  have hQM:Q.M<4294967295:=by rw[hQ];exact A.sum
  have hrun:∀ C,runF (Q.bods C) n (behD wt (-77) bump) most.toNat ⟨fun _=>.fresh,⟨0,[],0⟩,[],picks⟩=runD n its wt (-77) bump most picks:=fun C=>by
   have:=out_eq Q C wt (-77) bump most picks;rw[hQn,hQi] at this;rw[← this,← hQn];rfl
  have hIB4:∀ b,IBof n its gi b→b≠s∧b≠sb∧b≠bx∧b≠lb∧b<S4.w.heap.size∧∀ i,i<n→b≠ibOf bs i∧b≠sxOf bs i:=fun b hb=>by
   have:=hIB b hb;refine⟨by omega,by omega,by omega,by omega,by omega,fun i hi=>?_⟩;have:=hmk i hi;omega
  have hXlt:∀ b,plX n its gi bs wt s sb bx b→b<S4.w.heap.size:=fun b hb=>by
   rcases hb with rfl | hb | ⟨i,hi,rfl | rfl⟩ | ⟨_,rfl | rfl⟩
   ·omega
   ·exact(hIB4 b hb).2.2.2.2.1
   ·exact(hmk i hi).2.2.1.lt
   ·exact(hmk i hi).2.2.2.lt
   ·omega
   ·omega
  have hmem:∀ C,(Q.bods C).mem ⟨0,[],0⟩ (fun _=>.fresh) (plX n its gi bs wt s sb bx) S4.w:=fun C=>by
   refine⟨⟨fun b=>plX n its gi bs wt s sb bx b∧b≠s,none,0,?_⟩,?_⟩
   ·subst hQ
    refine⟨hbs,Rep.nil,by simp[fp,Value.ownBlock],fun b hb=>⟨hb.2,by simp[fp,Value.ownBlock],hXlt b hb.1⟩,fun b=>⟨fun hb=>?_,fun hb=>?_⟩,fun i hi=>?_,(fun i l rv _ e=>by cases e),fun hw=>?_,fun b hb=>⟨⟨.inr (.inl hb),(hIB4 b hb).1⟩,rfl⟩⟩
    ·by_cases e:b=s
     ·exact .inl e
     ·exact .inr (.inr ⟨hb,e⟩)
    ·rcases hb with e | hb | hb
     ·exact .inl e
     ·simp[fp,Value.ownBlock] at hb
     ·exact hb.1
    ·obtain⟨h1,h2,h3,h4⟩:=hmk i hi
     refine⟨⟨.inr (.inr (.inl ⟨i,hi,.inl rfl⟩)),by show ibOf bs i≠s;omega⟩,h3,⟨.inr (.inr (.inl ⟨i,hi,.inr rfl⟩)),by show sxOf bs i≠s;omega⟩,h4,fun k d x hk=>?_⟩;obtain⟨ab,ao,q1,q2,q3,q4⟩:=A.items i hi k d x hk;exact⟨ab,ao,q1,⟨.inr (.inl q2),(hIB4 ab q2).1⟩,q3,q4⟩
    ·have hw':wt=true:=hw
     rcases hbh with⟨h1,_⟩ | ⟨_,_,h1,h2⟩
     ·rw[hw'] at h1;cases h1
     ·exact⟨⟨.inr (.inr (.inr ⟨hw',.inl rfl⟩)),hsb.2.2⟩,⟨.inr (.inr (.inr ⟨hw',.inr rfl⟩)),hbx.2.2⟩,h1,h2⟩
   ·show 0+0+sumTo Q.n (fun i=>(Q.its i).length+1)≤Q.M
    subst hQ;show 0+0+sumTo n (fun i=>(its i).length+1)≤sumTo n (fun j=>(its j).length+1);omega
  have hfb:fb<S4.w.heap.size:=hfl;have hnX:¬plX n its gi bs wt s sb bx lb:=fun h=>by
   rcases h with h | h | ⟨i,hi,h⟩ | ⟨_,h⟩
   ·exact hlb.2.2.1 h
   ·exact(hIB4 lb h).2.2.2.1 rfl
   ·have:=hmk i hi;omega
   ·omega
  refine watch_runs (Bf:=fun C=>Q.bods C) (go:=Q.go) (rdy:=Q.rdy) (n:=n) (fn:=fun _=>31) (cap:=fun j=>#[ptr (ibOf bs j),ptr (sxOf bs j)]) (beh:=behD wt (-77) bump) (a0:=⟨0,[],0⟩) (X:=plX n its gi bs wt s sb bx) (pb:=lb) (fb:=fb) (fo:=0) (picks:=picks) (fun _=>rfl) (fun _=>rfl)
   (fun C hC hn hfn hcap=>sh_ok (by rw[hQn];exact hn) (fun i hi=>by rw[hfn]) (fun i hi=>by rw[hcap,hQ]) (by omega) (fun i hi=>by rw[hQi];exact A.len i (by omega))) (fun C=>?_) hid hn0 hn8 hcl hfb (fun j hj=>?_) hl.bytes (by omega) hnX hp0 hm0 hmem hXlt (fun C=>?_) fun C S' st' X' ga' ca' ge ne ce hC hCn W=>?_
  ·rcases hbh with⟨rfl,rfl⟩ | ⟨rfl,rfl,_⟩
   ·exact .inl ⟨rfl,fun a=>rfl⟩
   ·have h1:=sh_beh (Q:=Q) (C:=C) (by rw[hQ]) (by omega)
    rw[hQ] at h1 ⊢;exact h1
  ·rw[Nat.zero_add]
   have h1:(bs.map bodV)[j]?=some (bodV (ibOf bs j,sxOf bs j)):=by rw[List.getElem?_map,ibOf_get hbl hj];rfl
   exact hvf.cell1 (u:=fun x:Value=>x) (fun _=>rfl) j _ h1
  ·rw[hrun C]
   have:=runD_acts n its wt (-77) bump most picks;have:=A.sum;omega
  ·rw[hrun C] at W ⊢
   rw[hplay] at hnext;refine hnext S' _ _ _ _ _ _ ?_;obtain⟨⟨R',gn,cn,M'⟩,_⟩:=W.mem;refine⟨W.idle,W.n0,W.W0,W.size,W.block,fun b hb=>?_,⟨⟨_,?_,M'.rep⟩,W.actsv,?_,hNs⟩,fun hw=>?_⟩
   ·have h1:=(M'.keep b (by rw[hQ];exact hb)).2
    rw[hQ] at h1;exact h1
   ·have h1:=M'.sh
    rw[hQs] at h1;exact h1
   ·have h1:=W.ends
    rw[hCn] at h1;exact h1
   ·obtain⟨_,_,h3,h4⟩:=M'.behs (by rw[hQ];exact hw)
    rw[hQ] at h3 h4;exact⟨h3,h4⟩
open Go.ConcN (sumTo)
theorem rep_ne {α:Type}{w:World}{e:TypeId}{k:Nat}{f:α→List Value}{v:Value}{xs:List α}(h:Rep e k f w v xs){ob:Nat}{cs:List Value}{t:TypeId}(ho:Cel w ob cs t)(hne:e≠t):∀ b∈fp v,b≠ob:=fun b hb=>by
 obtain⟨cs',h'⟩:=fp_cel h b hb;exact cel_ne h' ho hne
theorem PlD.but {N:Nat}{w W:World}{s ob:Nat}{va ve:Value}{R:PlR}{cs:List Value}(h:PlD N w s va ve R)(ho:Cel w ob cs 30)(k:Kp [ob] w W):PlD N W s va ve R:=by
 obtain⟨vn,h1,h2⟩:=h.sh;exact⟨⟨vn,k.blk h1 (by simpa using cel_ne (Blk.cel h1) ho (by decide)),rep_same h2 k.size fun b hb=>k.block b (h2.fp_lt b hb) (by simpa using rep_ne h2 ho (by decide) b hb)⟩,rep_same h.acts k.size fun b hb=>k.block b (h.acts.fp_lt b hb) (by simpa using rep_ne h.acts ho (by decide) b hb),rep_same h.ends k.size fun b hb=>k.block b (h.ends.fp_lt b hb) (by simpa using rep_ne h.ends ho (by decide) b hb),h.fresh⟩
structure PlF (S S1:SC)(s:Nat)(va ve:Value)(R:PlR):Prop where
 idle:Idle S1
 n0:S1.n0=S.n0
 W0:S1.W0=S.W0
 out:Kp [] S.w S1.w
 data:PlD S.w.heap.size S1.w s va ve R
theorem PlF.kp {S S1:SC}{s ob:Nat}{va ve:Value}{R:PlR}{W:World}{cs:List Value}(h:PlF S S1 s va ve R)(ho:Cel S1.w ob cs 30)(k:Kp [ob] S1.w W)(hob:S.w.heap.size≤ob):PlF S { S1 with w:=W} s va ve R:=by
 refine⟨⟨h.idle.roles,h.idle.grps,h.idle.pos⟩,h.n0,h.W0,⟨Nat.le_trans h.out.size k.size,fun b hb _=>?_⟩,h.data.but ho k⟩;exact(k.block b (nl' hb h.out.size) (by simp;omega)).trans (h.out.block b hb (by simp))
structure PlE (S S1:SC)(n:Nat)(its:Nat→List (Int × Int))(gi:Nat→Option Addr)(vt vp vl:Value)(picks:List Nat)(wt:Bool)(bump most:Int)(s sb bx ao rb lb:Nat)(va ve:Value)(R:PlR):Prop where
 f:PlF S S1 s va ve R
 sb:Cel S1.w sb [ptr s] 34
 bx:Cel S1.w bx [.int .i64 bump,vt,vp,.int .i64 most,.bool wt] 25
 rb:Blk S1.w rb [.slice none 0 0,.slice none 0 0,.int .i64 0] 30
 ao:Blk S1.w ao [.slice none 0 0,.slice none 0 0,.int .i64 0] 30
 lb:Lent lb S1.w vl picks
def plP27 (S:SC)(n:Nat)(its:Nat→List (Int × Int))(gi:Nat→Option Addr)(vt vp vl:Value)(picks:List Nat)(wt:Bool)(bump most:Int)(s sb bx ao rb lb:Nat)(S1:SC)(ag:Value)(e:Int):Prop :=
 ∃ ga na ca ge ne ce,ag=.agg #[.slice ga na ca,.slice ge ne ce,.int .i64 ((playR n its picks most wt bump).used:Nat)]∧e=(playR n its picks most wt bump).code∧PlE S S1 n its gi vt vp vl picks wt bump most s sb bx ao rb lb (.slice ga na ca) (.slice ge ne ce) (playR n its picks most wt bump)
def plP28 (n:Nat)(rows:List Value)(s N3:Nat)(w3:World)(vf:Value)(w4:World):Prop:=∃ bs,RepF w4 vf (bs.map bodV)∧bs.length=n∧MadeF s N3 rows bs (fp vf) w4∧Kp [] w3 w4
theorem PlW.toE {S S4 S1:SC}{n:Nat}{its:Nat→List (Int × Int)}{gi:Nat→Option Addr}{ci:Nat→Nat}{bs:List (Nat × Nat)}{vt vp vl va ve:Value}{picks:List Nat}{wt:Bool}{bump most:Int}{s sb bx ao rb lb N3:Nat}{R:PlR}
  (W:PlW S4 S1 n its gi ci bs vt vp picks wt bump most S.w.heap.size s sb bx va ve R) (hn0:S4.n0=S.n0) (hW0:S4.W0=S.W0) (k:Kp [] S.w S4.w) (hIB:∀ b,IBof n its gi b→b<S.w.heap.size) (h3:N3≤S4.w.heap.size) (hmade:∀ i,i<n→N3≤ibOf bs i∧N3≤sxOf bs i)
  (hs:S.w.heap.size≤s∧s<N3) (hsb:S.w.heap.size≤sb∧sb<N3∧sb≠s) (hbx:S.w.heap.size≤bx∧bx<N3∧bx≠s) (hao:S.w.heap.size≤ao∧ao<N3∧ao≠s∧ao≠sb∧ao≠bx) (hrb:S.w.heap.size≤rb∧rb<N3∧rb≠s∧rb≠sb∧rb≠bx) (hlb:S.w.heap.size≤lb∧lb<N3∧lb≠s∧lb≠sb∧lb≠bx)
  (csb:Cel S4.w sb [ptr s] 34) (cbx:Cel S4.w bx [.int .i64 bump,vt,vp,.int .i64 most,.bool wt] 25) (brb:Blk S4.w rb [.slice none 0 0,.slice none 0 0,.int .i64 0] 30) (bao:Blk S4.w ao [.slice none 0 0,.slice none 0 0,.int .i64 0] 30) (hl:Lent lb S4.w vl picks) :
  PlE S S1 n its gi vt vp vl picks wt bump most s sb bx ao rb lb va ve R:=by
 have hk:∀ b,b<N3→¬IBof n its gi b→b≠s→(wt=true→b≠sb∧b≠bx)→S1.w.heap[b]?=S4.w.heap[b]?:=fun b hb hi h1 h2=>W.block b (by omega) fun h=>by
  rcases h with h | h | ⟨i,hin,h⟩ | ⟨hw,h⟩
  ·exact h1 h
  ·exact hi h
  ·have:=hmade i hin;omega
  ·have:=h2 hw;omega
 have hn:∀ b,S.w.heap.size≤b→¬IBof n its gi b:=fun b hb h=>by have:=hIB b h;omega
 refine⟨⟨W.idle,W.n0.trans hn0,W.W0.trans hW0,⟨Nat.le_trans k.size W.size,fun b hb _=>?_⟩,W.data⟩,?_,?_,(hk rb hrb.2.1 (hn _ hrb.1) hrb.2.2.1 fun _=>hrb.2.2.2).trans brb,(hk ao hao.2.1 (hn _ hao.1) hao.2.2.1 fun _=>hao.2.2.2).trans bao,hl.same (hk lb hlb.2.1 (hn _ hlb.1) hlb.2.2.1 fun _=>hlb.2.2.2)⟩
 ·by_cases hi:IBof n its gi b
  ·exact(W.keep b hi).trans (k.block b hb (by simp))
  ·exact(hk b (by omega) hi (by omega) fun _=>by omega).trans (k.block b hb (by simp))
 ·cases wt with
  | true=>exact(W.behs rfl).1
  | false=>exact csb.same (hk sb hsb.2.1 (hn _ hsb.1) hsb.2.2 fun h=>by cases h)
 ·cases wt with
  | true=>exact(W.behs rfl).2
  | false=>exact cbx.same (hk bx hbx.2.1 (hn _ hbx.1) hbx.2.2 fun h=>by cases h)
section
variable {Post:Value→World→Prop}{S:SC}{cl:Frame}{cs:List Frame}{n:Nat}{its:Nat→List (Int × Int)}{gi:Nat→Option Addr}{ci:Nat→Nat}{vt vp vl:Value}{picks:List Nat}{most bump:Int}{wt:Bool}{s sb bx ao rb lb:Nat}{va ve:Value}{w3:World}
theorem played_end {S1:SC}{x:Nat→Value}{ga ge:Option Addr}{na ca ne ce:Nat}(hcl:cl.mode=.run)(hrs:rb≠sb)(hrx:rb≠bx)(hra:rb≠ao)(has:ao≠sb)(hax:ao≠bx)(hal:lb≠rb)(hN:S.w.heap.size≤rb∧S.w.heap.size≤ao)(A:PlA S.w n its gi ci vt vp picks)
  (E:PlE S S1 n its gi vt vp vl picks wt bump most s sb bx ao rb lb (.slice ga na ca) (.slice ge ne ce) (playR n its picks most wt bump))
  (hnext:∀ S' ga na ca ge ne ce,Idle S'→S'.n0=S.n0→S'.W0=S.W0→Kp [] S.w S'.w→PlA S'.w n its gi ci vt vp picks→PlD S.w.heap.size S'.w s (.slice ga na ca) (.slice ge ne ce) (playR n its picks most wt bump) →
   Sound Try.prog link.tWg Post 0 S' (gs (cl.finish (.tuple #[ptr s,.agg #[.slice ga na ca,.slice ge ne ce,.int .i64 ((playR n its picks most wt bump).used:Nat)],.int .i64 (playR n its picks most wt bump).code,.bool true])) cs)) :
  Sound Try.prog link.tWg Post 0 { S1 with w:=set3 S1.w rb (.slice ga na ca) (.slice ge ne ce) (.int .i64 ((playR n its picks most wt bump).used:Nat))} (gs ((base 9).at ⟨p8Tm x (playR n its picks most wt bump).code vl bx ao sb rb,[]⟩ [.code (sR (sR (sR (sR (sR (sR c9))))))]) (cl::cs)):=by
 have kr:Kp [rb] S1.w (set3 S1.w rb (.slice ga na ca) (.slice ge ne ce) (.int .i64 ((playR n its picks most wt bump).used:Nat))):=⟨Nat.le_of_eq set3_size.symm,fun b _ hb=>set3_frame (by simpa using hb)⟩;have F1:=E.f.kp (Blk.cel E.rb) kr hN.1;have brb:Blk (set3 S1.w rb (.slice ga na ca) (.slice ge ne ce) (.int .i64 ((playR n its picks most wt bump).used:Nat))) rb [.slice ga na ca,.slice ge ne ce,.int .i64 ((playR n its picks most wt bump).used:Nat)] 30:=set3_blk E.rb;have csb:=kr.cel E.sb (by simpa using hrs.symm);have cbx:=kr.cel E.bx (by simpa using hrx.symm);have bao:=kr.blk E.ao (by simpa using hra.symm);have hl:=E.lb.same (set3_frame (v0:=.slice ga na ca) (v1:=.slice ge ne ce) (v2:=.int .i64 ((playR n its picks most wt bump).used:Nat)) hal);generalize set3 S1.w rb (.slice ga na ca) (.slice ge ne ce) (.int .i64 ((playR n its picks most wt bump).used:Nat))=w5 at kr F1 brb csb cbx bao hl ⊢;have A5:PlA w5 n its gi ci vt vp picks:=A.kp F1.out (by simp);obtain⟨pb,_,hpk⟩:=A5.pk;refine p8_runs (S0:={S1 with w:=w5}) (bump:=bump) (most:=most) (vt:=vt) (vp:=vp) (wt:=wt) hcl csb cbx (Blk.cel brb) bao has hax hra.symm hl hpk.rd A5.pkl fun w6 k6=>?_;have F6:=F1.kp (Blk.cel bao) k6 hN.2;exact hnext _ _ _ _ _ _ _ F6.idle F6.n0 F6.W0 F6.out (A.kp F6.out (by simp)) F6.data
theorem played_runs (hid:Idle S)(hcl:cl.mode=.run)(A:PlA S.w n its gi ci vt vp picks)
  (hnext:∀ S' s ga na ca ge ne ce,Idle S'→S'.n0=S.n0→S'.W0=S.W0→Kp [] S.w S'.w→PlA S'.w n its gi ci vt vp picks→PlD S.w.heap.size S'.w s (.slice ga na ca) (.slice ge ne ce) (playR n its picks most wt bump) →
   Sound Try.prog link.tWg Post 0 S' (gs (cl.finish (.tuple #[ptr s,.agg #[.slice ga na ca,.slice ge ne ce,.int .i64 ((playR n its picks most wt bump).used:Nat)],.int .i64 (playR n its picks most wt bump).code,.bool true])) cs)) :
  Sound Try.prog link.tWg Post 0 S (gs (Frame.enter Try.prog 9 #[.agg #[.int .i64 bump,vt,vp,.int .i64 most,.bool wt]] .normal) (cl::cs)):=by
 obtain⟨gt,ct,e1⟩:=A.thr.slice;obtain⟨pb,hpb2,hpk⟩:=A.pk;obtain⟨gp,cp,e2,_⟩:=id hpk;have hK:=clS (Post:=Post) S;refine ks (S:=S) (played_enter hK.det e1 e2 fun bx ao s sb w1 q1 q2 q3 q4 k1 bbx bao bs bsb=>?_) rfl;have A1:=A.kp k1 (by simp);refine hK.call fits shut (f:=26) rfl (R:=fun v w'=>∃ b,Lent b w' v picks∧w1.heap.size≤b∧Kp [] w1 w') (fun v w' τ d ⟨b,h1,h2,h3⟩=>⟨b,h1.same rfl,h2,⟨h3.size,h3.block⟩⟩) (fun τ d=>?_) ?_
 ·obtain⟨pb',_,hpk'⟩:=A1.pk
  have hu:∀ u∈picks,u<256:=by obtain⟨_,_,_,_,_,q,_⟩:=hpk';exact q
  refine(lent_calls (Lift.re w1 τ d) vp picks (hpk'.same rfl).rd hu A.pkl).mono fun e w' ⟨b,vl,h1,h2,h3,h4⟩=>⟨vl,h1,b,h2,h3,⟨(Keeps.kp h4).size,(Keeps.kp h4).block⟩⟩
 ·rintro vl w2 ⟨lb,hl2,hlb,k2⟩
  refine played_mid hK.det (k2.blk bbx (by simp)) fun rb w3 hrb k3 brb=>?_;have k13:Kp [] w1 w3:=k2.trans k3;have k03:Kp [] S.w w3:=k1.trans k13;have A3:=A.kp k03 (by simp);have l1:bx<w1.heap.size:=bbx.lt;have l2:sb<w1.heap.size:=bsb.lt;have l3:lb<w2.heap.size:=by
   obtain⟨c,rfl,_,_,_,_,h5⟩:=hl2;exact cell_lt (h5 picks.length (Nat.le_refl _) (by omega))
  have l4:rb<w3.heap.size:=brb.lt;have l5:=k2.size;have l6:=k3.size;have l7:=k1.size;have csb:Cel w3 sb [ptr s] 34:=Blk.cel (k13.blk bsb (by simp));have cbx:Cel w3 bx [.int .i64 bump,vt,vp,.int .i64 most,.bool wt] 25:=Blk.cel (k13.blk bbx (by simp));have bs3:=k13.blk bs (by simp);have bao3:=k13.blk bao (by simp);have hl3:Lent lb w3 vl picks:=hl2.same (k3.block lb l3 (by simp));have hrl:((List.range n).map fun i=>Value.slice (gi i) (its i).length (ci i)).length=n:=by simp
  have h28:∀ τ d,Calls Try.prog 28 #[ptr s,vt] (Lift.re w3 τ d) fun e w'=>∃ v,e=.returned v∧plP28 n ((List.range n).map fun i=>.slice (gi i) (its i).length (ci i)) s w3.heap.size w3 v w':=fun τ d=>by
   refine(bodies_calls (Lift.re w3 τ d) s vt _ A3.thr (fun v hv=>?_) (by rw[hrl];have:=A.n40;omega)).mono fun e w' ⟨vf,bs,h1,h2,h3,h4,h5,h6⟩=>⟨vf,h1,bs,h2,h3.trans hrl,h4,⟨(Keeps.kp h6).size,(Keeps.kp h6).block⟩⟩;obtain⟨i,_,rfl⟩:=List.mem_map.1 hv;exact⟨_,_,_,rfl⟩
  have hP28:∀ v w τ d,plP28 n ((List.range n).map fun i=>.slice (gi i) (its i).length (ci i)) s w3.heap.size w3 v w→plP28 n ((List.range n).map fun i=>.slice (gi i) (its i).length (ci i)) s w3.heap.size w3 v (Lift.re w τ d):=fun v w τ d ⟨bs,h1,h2,h3,h4⟩=>⟨bs,h1,h2,h3,⟨h4.size,h4.block⟩⟩;have hB:∀ vf w4,plP28 n ((List.range n).map fun i=>.slice (gi i) (its i).length (ci i)) s w3.heap.size w3 vf w4→Cel w4 sb [ptr s] 34∧Cel w4 bx [.int .i64 bump,vt,vp,.int .i64 most,.bool wt] 25:=fun vf w4 ⟨_,_,_,_,k⟩=>⟨k.cel csb (by simp),k.cel cbx (by simp)⟩;have hC:∀ S1 ag e,plP27 S n its gi vt vp vl picks wt bump most s sb bx ao rb lb S1 ag e→Cel S1.w sb [ptr s] 34∧Cel S1.w bx [.int .i64 bump,vt,vp,.int .i64 most,.bool wt] 25∧Blk S1.w rb [.slice none 0 0,.slice none 0 0,.int .i64 0] 30:=fun S1 ag e ⟨_,_,_,_,_,_,_,_,E⟩=>⟨E.sb,E.bx,E.rb⟩;have core:∀ (bh:Value) (cl:Frame) (cs':List Frame) (w4:World) (vf:Value),cl.mode=.run→(∃ bs,RepF w4 vf (bs.map bodV)∧bs.length=n∧MadeF s w3.heap.size ((List.range n).map fun i=>.slice (gi i) (its i).length (ci i)) bs (fp vf) w4∧Kp [] w3 w4)→((wt=false∧bh=.nilFunc)∨(wt=true∧bh=.func (.func 29) #[] #[ptr sb,ptr bx])) →
    (∀ S1 ga na ca ge ne ce,(∀ b cs,S.w.heap.size≤b→Cel w4 b cs 30→S1.w.heap[b]?=w4.heap[b]?)→PlE S S1 n its gi vt vp vl picks wt bump most s sb bx ao rb lb (.slice ga na ca) (.slice ge ne ce) (playR n its picks most wt bump)→Sound Try.prog link.tWg Post 0 S1 (gs (cl.finish (.tuple #[.agg #[.slice ga na ca,.slice ge ne ce,.int .i64 ((playR n its picks most wt bump).used:Nat)],.int .i64 (playR n its picks most wt bump).code])) cs')) →
    Sound Try.prog link.tWg Post 0 { S with w:=w4} (gs (Frame.enter Try.prog 27 #[vf,vl,.int .i64 most,bh] .normal) (cl::cs')):=fun bh cl cs' w4 vf hcl hp hbh hn=>by
   obtain⟨bs',h1,h2,h3,k4⟩:=hp;have csb4:=k4.cel csb (by simp);have cbx4:=k4.cel cbx (by simp);have hl4:Lent lb w4 vl picks:=hl3.same (k4.block lb (by omega) (by simp));have hmk:∀ i,i<n→w3.heap.size≤ibOf bs' i∧w3.heap.size≤sxOf bs' i∧Cel w4 (ibOf bs' i) [.slice (gi i) (its i).length (ci i)] 51∧Cel w4 (sxOf bs' i) [ptr s] 34:=fun i hi=>by
    obtain⟨q1,q2,_,_,v,q3,q4,q5⟩:=h3 i _ _ (ibOf_get h2 hi);rw[List.getElem?_map,List.getElem?_range hi] at q3;cases q3;exact⟨q1,q2,q4,q5⟩
   refine watch_play (S4:={S with w:=w4}) (N:=S.w.heap.size) (N3:=w3.heap.size) (s:=s) (sb:=sb) (bx:=bx) (lb:=lb) (bs:=bs') (vt:=vt) (vp:=vp) (bump:=bump) (wt:=wt) ⟨hid.roles,hid.grps,hid.pos⟩ hcl (A3.kp k4 (by simp)) A.low (by omega) (by omega) ⟨by omega,by omega,by omega⟩ ⟨by omega,by omega,by omega⟩ ⟨by omega,by omega,by omega,by omega,by omega⟩ k4.size h1 h2 h3 (k4.blk bs3 (by simp)) hl4 ?_ fun S1 ga na ca ge ne ce W=>?_
   ·rcases hbh with⟨p1,p2⟩ | ⟨p1,p2⟩
    ·exact .inl ⟨p1,p2⟩
    ·exact .inr ⟨p1,p2,csb4,cbx4⟩
   ·refine hn S1 ga na ca ge ne ce (fun b cs hbb hc=>W.block b hc.lt fun h=>?_) (W.toE (N3:=w3.heap.size) rfl rfl (k03.trans k4) A.low k4.size (fun i hi=>⟨(hmk i hi).1,(hmk i hi).2.1⟩) ⟨by omega,by omega⟩ ⟨by omega,by omega,by omega⟩ ⟨by omega,by omega,by omega⟩ ⟨by omega,by omega,by omega,by omega,by omega⟩ ⟨by omega,by omega,by omega,by omega,by omega⟩ ⟨by omega,by omega,by omega,by omega,by omega⟩ csb4 cbx4 (k4.blk brb (by simp)) (k4.blk bao3 (by simp)) hl4)
    rcases h with h | ⟨i,o,hi,hne,hg⟩ | ⟨i,hi,h | h⟩ | ⟨_,h | h⟩
    ·subst h;exact cel_ne hc (Blk.cel (k4.blk bs3 (by simp))) (by decide) rfl
    ·have:=A.low b ⟨i,o,hi,hne,hg⟩
     omega
    ·subst h;exact cel_ne hc (hmk i hi).2.2.1 (by decide) rfl
    ·subst h;exact cel_ne hc (hmk i hi).2.2.2 (by decide) rfl
    ·subst h;exact cel_ne hc csb4 (by decide) rfl
    ·subst h;exact cel_ne hc cbx4 (by decide) rfl
  have hrs:rb≠sb:=by omega
  have hrx:rb≠bx:=by omega
  have hra:rb≠ao:=by omega
  have fin:∀ (x:Nat→Value) S1 ga na ca ge ne ce u e,plP27 S n its gi vt vp vl picks wt bump most s sb bx ao rb lb S1 (.agg #[.slice ga na ca,.slice ge ne ce,.int .i64 u]) e→Sound Try.prog link.tWg Post 0 { S1 with w:=set3 S1.w rb (.slice ga na ca) (.slice ge ne ce) (.int .i64 u)} (gs ((base 9).at ⟨p8Tm x e vl bx ao sb rb,[]⟩ [.code (sR (sR (sR (sR (sR (sR c9))))))]) (cl::cs)):=fun x S1 ga na ca ge ne ce u e hp=>by
   obtain⟨ga',na',ca',ge',ne',ce',h1,h2,E⟩:=hp;simp only[Value.agg.injEq,Array.mk.injEq,List.cons.injEq,Value.slice.injEq,Value.int.injEq,and_true,true_and] at h1;obtain⟨⟨rfl,rfl,rfl⟩,⟨rfl,rfl,rfl⟩,rfl⟩:=h1;subst h2;exact played_end hcl hrs hrx hra (by omega) (by omega) (by omega) ⟨by omega,by omega⟩ A E fun S' ga na ca ge ne ce i1 i2 i3 i4 i5 i6=>hnext S' s ga na ca ge ne ce i1 i2 i3 i4 i5 i6
  show Sound Try.prog link.tWg Post 0 { S with w:=w3} _;cases wt with
  | true =>
   rw[if_pos rfl];refine p6_runs (S0:={S with w:=w3}) _ (plP27 S n its gi vt vp vl picks true bump most s sb bx ao rb lb) ⟨csb,cbx⟩ hB hC hrs hrx hP28 h28 (fun cl' cs' hcl' vf w4 hp hn=>core _ cl' cs' w4 vf hcl' hp (.inr ⟨rfl,rfl⟩) fun S1 ga na ca ge ne ce _ E=>hn S1 ga na ca ge ne ce _ _ ⟨_,_,_,_,_,_,rfl,rfl,E⟩) fun vf S1 ga na ca ge ne ce u e hp=>?_;exact fin (fun i=>(p6fin bump vt vp most true bx ao s sb vl rb vf (.agg #[.slice ga na ca,.slice ge ne ce,.int .i64 u]) (.int .i64 e)).getD i undef) S1 ga na ca ge ne ce u e hp
  | false =>
   rw[if_neg (by decide)];refine p7_runs (S0:={S with w:=w3}) _ (plP27 S n its gi vt vp vl picks false bump most s sb bx ao rb lb) ⟨csb,cbx⟩ hB hC hrs hrx hP28 h28 (fun cl' cs' hcl' vf w4 hp hn=>?_) fun vf S1 ga na ca ge ne ce u e hp=>?_
   ·have hK4:=clS (Post:=Post) ({S with w:=w4})
    refine ks (S:={S with w:=w4}) (run_enter hK4.det ?_) rfl;obtain⟨bs',h1,h2,h3,k4⟩:=hp;have ka:=Kp.alloc [] w4 (.cells #[.slice none 0 0,.slice none 0 0,.int .i64 0] 30);have bo:Blk (w4.alloc (.cells #[.slice none 0 0,.slice none 0 0,.int .i64 0] 30)) w4.heap.size [.slice none 0 0,.slice none 0 0,.int .i64 0] 30:=Blk.new w4 [.slice none 0 0,.slice none 0 0,.int .i64 0] 30;have hz:=k4.size;generalize w4.alloc (.cells #[.slice none 0 0,.slice none 0 0,.int .i64 0] 30)=w5 at ka bo ⊢;generalize w4.heap.size=ob at bo hz ⊢;refine core .nilFunc (runC vf vl most ob) (cl'::cs') w5 vf rfl ⟨bs',rep_same h1 ka.size fun b hb=>ka.block b (h1.fp_lt b hb) (by simp),h2,fun i x y hxy=>?_,k4.trans ka⟩ (.inl ⟨rfl,rfl⟩) fun S1 ga na ca ge ne ce hk30 E=>?_
    ·obtain⟨i1,i2,i3,i4,v,i5,i6,i7⟩:=h3 i x y hxy
     exact⟨i1,i2,i3,i4,v,i5,ka.cel i6 (by simp),ka.cel i7 (by simp)⟩
    ·have bo1:Blk S1.w ob _ 30:=(hk30 ob _ (by omega) (Blk.cel bo)).trans bo
     have hK1:=clS (Post:=Post) S1;refine ks (S:=S1) (run_back hK1.det hcl' bo1 fun w6 k6 z6=>?_) rfl;have kk:Kp [ob] S1.w w6:=⟨Nat.le_of_eq z6.symm,fun b _ hb=>k6 b (by simpa using hb)⟩;exact hn { S1 with w:=w6} ga na ca ge ne ce _ _ ⟨_,_,_,_,_,_,rfl,rfl,E.f.kp (Blk.cel bo1) kk (by omega),E.sb.same (k6 sb (by omega)),E.bx.same (k6 bx (by omega)),(k6 rb (by omega)).trans E.rb,(k6 ao (by omega)).trans E.ao,E.lb.same (k6 lb (by omega))⟩
   ·exact fin (fun i=>(p7fin bump vt vp most false bx ao s sb vl rb vf (.agg #[.slice ga na ca,.slice ge ne ce,.int .i64 u]) (.int .i64 e)).getD i undef) S1 ga na ca ge ne ce u e hp
end
theorem pu_b53 {a:Act}{oo:Oper}{w:World}{c:Int}(h:oo.op=.build 53 #[(0,.const (.int .i64 c))]):(execOp a.eval oo).run Try.prog w=.ok (.value (.agg #[.int .i64 c,.int .i64 0])) w:=by
 unfold execOp;rw[h];exact run_vv (by simp[go_sem,Act.eval,Try.underlying53,Try.runUnderlying53,Try.sizeOf53,Try.zeroValue53])
theorem x_bs51 {a:Act}{oo:Oper}{w:World}{x y z:Operand}{p0 p1 q0 q1 r0 r1:Value}(h:oo.op=.buildSlice 51 3 #[(0,x),(1,y),(2,z)])(hx:a.eval x=.agg #[p0,p1])(hy:a.eval y=.agg #[q0,q1])(hz:a.eval z=.agg #[r0,r1]) :
  (execOp a.eval oo).run Try.prog w=.ok (.value (.slice (some ⟨w.heap.size,0,none⟩) 3 3)) (w.alloc (.cells #[p0,p1,q0,q1,r0,r1] 53)):=by
 unfold execOp;rw[h];generalize a.eval=ρ at hx hy hz ⊢;simp only[Array.map_map,List.map_toArray,List.map,Function.comp,hx,hy,hz];exact run_vv (by simp[go_sem,Try.underlying51,Try.runUnderlying51,Try.sizeOf53,Try.isAgg53,Try.zeroValue53])
theorem x_bs22 {a:Act}{oo:Oper}{w:World}{x y:Operand}{g1 g2:Option Addr}{n1 c1 n2 c2:Nat}(h:oo.op=.buildSlice 22 2 #[(0,x),(1,y)])(hx:a.eval x=.slice g1 n1 c1)(hy:a.eval y=.slice g2 n2 c2) :
  (execOp a.eval oo).run Try.prog w=.ok (.value (.slice (some ⟨w.heap.size,0,none⟩) 2 2)) (w.alloc (.cells #[.slice g1 n1 c1,.slice g2 n2 c2] 51)):=by
 unfold execOp;rw[h];generalize a.eval=ρ at hx hy ⊢;simp only[Array.map_map,List.map_toArray,List.map,Function.comp,hx,hy];exact run_vv (by simp[go_sem,Try.underlying22,Try.runUnderlying22,Try.sizeOf51,Try.isAgg51,Try.zeroValue51])
theorem pu_b25 {a:Act}{oo:Oper}{w:World}{x:Operand}{g:Option Addr}{n c:Nat}{m:Int}(h:oo.op=.build 25 #[(1,x),(3,.const (.int .i64 m))])(hx:a.eval x=.slice g n c):(execOp a.eval oo).run Try.prog w=.ok (.value (.agg #[.int .i64 0,.slice g n c,.slice none 0 0,.int .i64 m,.bool false])) w:=by
 unfold execOp;rw[h];have hc:a.eval (.const (.int .i64 m))=.int .i64 m:=rfl;generalize a.eval=ρ at hx hc ⊢;simp only[Array.map_map,List.map_toArray,List.map,Function.comp,hx,hc];exact run_vv (by simp[go_sem,Try.underlying25,Try.runUnderlying25,Try.sizeOf25,Try.zeroValue25])
section
variable {K:Goroutine→World→Prop}{m:Bool}{w:World}{cs:List Frame}{cl:Frame}
theorem enter12:Frame.enter Try.prog 12 #[] .normal=(base 12).at ⟨#[undef,undef,undef,undef,undef,undef,undef,undef,undef,undef,undef,undef,undef,undef,undef,undef,undef,undef,undef,undef,undef,undef,undef,undef,undef,undef,undef,undef,undef,undef,undef,undef,undef,undef,undef,undef,undef,undef,undef,undef,undef,undef,undef],[]⟩ [.code c12]:=enter_lit Try.func12 rfl rfl
def livesC (i1 i2 ab tb:Nat):Frame:=(base 12).at ⟨#[.bool false,ptr i1,ptr i2,.slice (some ⟨ab,0,none⟩) 3 3,undef,undef,undef,undef,.agg #[.int .i64 5,.int .i64 0],.agg #[.int .i64 1,.int .i64 0],.agg #[.int .i64 5,.int .i64 0],.agg #[.int .i64 1,.int .i64 0],.agg #[.int .i64 5,.int .i64 0],.slice (some ⟨ab,0,none⟩) 3 3,undef,.slice (some ⟨ab,0,none⟩) 3 3,.slice (some ⟨ab,0,none⟩) 3 3,.slice (some ⟨tb,0,none⟩) 2 2,.agg #[.int .i64 0,.slice (some ⟨tb,0,none⟩) 2 2,.slice none 0 0,.int .i64 9,.bool false],undef,undef,undef,undef,undef,undef,undef,undef,undef,undef,undef,undef,undef,undef,undef,undef,undef,undef,undef,undef,undef,undef,undef,undef],[]⟩ [.inRegion (sO (sL (sR (sR (sR (sR c12)))))) [4,5,6,7,8,9,10,11,12,13,14],.code (sR (sR (sR (sR (sR c12)))))]
theorem lives_enter (hD:Det Try.prog m fun _=>K)(h:∀ i1 i2 ab tb w',w.heap.size≤ab→ab<tb→Kp [] w w'→Blk w' ab [.int .i64 5,.int .i64 0,.int .i64 1,.int .i64 0,.int .i64 5,.int .i64 0] 53→Blk w' tb [.slice (some ⟨ab,0,none⟩) 3 3,.slice (some ⟨ab,0,none⟩) 3 3] 51→K (gs (Frame.enter Try.prog 9 #[.agg #[.int .i64 0,.slice (some ⟨tb,0,none⟩) 2 2,.slice none 0 0,.int .i64 9,.bool false]] .normal) (livesC i1 i2 ab tb::cs)) w'):K (gs (Frame.enter Try.prog 12 #[] .normal) cs) w:=by
 rw[enter12];have hk:(base 12).kind≠.early:=nofun;refine hD.s0 ?_;refine hD.r0 ?_;refine hD.as (.bool false) hk ?_;refine norm0 (a':=⟨#[.bool false,undef,undef,undef,undef,undef,undef,undef,undef,undef,undef,undef,undef,undef,undef,undef,undef,undef,undef,undef,undef,undef,undef,undef,undef,undef,undef,undef,undef,undef,undef,undef,undef,undef,undef,undef,undef,undef,undef,undef,undef,undef,undef],[]⟩) ?_;refine hD.e0 ?_;refine hD.s0 ?_;refine hD.r0 ?_;refine hD.pu (.agg #[.int .i64 5,.int .i64 0]) hk (fun w=>pu_b53 rfl) ?_;refine norm0 (a':=⟨#[.bool false,undef,undef,undef,undef,undef,undef,undef,.agg #[.int .i64 5,.int .i64 0],undef,undef,undef,undef,undef,undef,undef,undef,undef,undef,undef,undef,undef,undef,undef,undef,undef,undef,undef,undef,undef,undef,undef,undef,undef,undef,undef,undef,undef,undef,undef,undef,undef,undef],[]⟩) ?_;have ki1:=Kp.alloc [] w (.cells #[.int .i64 0,.int .i64 0] 53);have bi1:Blk (w.alloc (.cells #[.int .i64 0,.int .i64 0] 53)) w.heap.size [.int .i64 0,.int .i64 0] 53:=Blk.new _ _ _;have zi1:(w.alloc (.cells #[.int .i64 0,.int .i64 0] 53)).heap.size=w.heap.size+1:=wz' _ _;refine hD.alloc (n:=0) hk rfl ⟨rfl,rfl,rfl,(by decide +kernel),nofun⟩ al53 ?_;obtain⟨i1,hi1⟩:∃ x,x=w.heap.size:=⟨_,rfl⟩;rw[← hi1] at bi1 ⊢;generalize w.alloc (.cells #[.int .i64 0,.int .i64 0] 53)=w1 at ki1 bi1 zi1 ⊢;refine norm0 (a':=⟨#[.bool false,ptr i1,undef,undef,undef,undef,undef,undef,.agg #[.int .i64 5,.int .i64 0],undef,undef,undef,undef,undef,undef,undef,undef,undef,undef,undef,undef,undef,undef,undef,undef,undef,undef,undef,undef,undef,undef,undef,undef,undef,undef,undef,undef,undef,undef,undef,undef,undef,undef],[]⟩) ?_;refine hD.store (n:=0) (u:=(ptr i1)) (z:=(.agg #[.int .i64 5,.int .i64 0])) hk rfl ⟨rfl,rfl,rfl,rfl,nofun⟩ rfl rfl (fun τ d=>((st53 (w:=re w1 τ d) bi1).trans (congrArg (Result.ok ()) re_set2))) (Nat.le_of_eq set2_size.symm) ?_;have kw2:Kp [i1] w1 (set2 w1 i1 (.int .i64 5) (.int .i64 0)):=⟨Nat.le_of_eq set2_size.symm,fun b _ hn=>set2_frame (by simpa using hn)⟩;have bw2:Blk (set2 w1 i1 (.int .i64 5) (.int .i64 0)) i1 [.int .i64 5,.int .i64 0] 53:=set2_blk bi1;have zw2:(set2 w1 i1 (.int .i64 5) (.int .i64 0)).heap.size=w1.heap.size:=set2_size;generalize set2 w1 i1 (.int .i64 5) (.int .i64 0)=w2 at kw2 bw2 zw2 ⊢;refine hD.e0 ?_;refine hD.s0 ?_;refine hD.r0 ?_;refine hD.pu (.agg #[.int .i64 1,.int .i64 0]) hk (fun w=>pu_b53 rfl) ?_;refine norm0 (a':=⟨#[.bool false,ptr i1,undef,undef,undef,undef,undef,undef,.agg #[.int .i64 5,.int .i64 0],.agg #[.int .i64 1,.int .i64 0],undef,undef,undef,undef,undef,undef,undef,undef,undef,undef,undef,undef,undef,undef,undef,undef,undef,undef,undef,undef,undef,undef,undef,undef,undef,undef,undef,undef,undef,undef,undef,undef,undef],[]⟩) ?_;have ki2:=Kp.alloc [] w2 (.cells #[.int .i64 0,.int .i64 0] 53);have bi2:Blk (w2.alloc (.cells #[.int .i64 0,.int .i64 0] 53)) w2.heap.size [.int .i64 0,.int .i64 0] 53:=Blk.new _ _ _;have zi2:(w2.alloc (.cells #[.int .i64 0,.int .i64 0] 53)).heap.size=w2.heap.size+1:=wz' _ _
 refine hD.alloc (n:=0) hk rfl ⟨rfl,rfl,rfl,(by decide +kernel),nofun⟩ al53 ?_;obtain⟨i2,hi2⟩:∃ x,x=w2.heap.size:=⟨_,rfl⟩;rw[← hi2] at bi2 ⊢;generalize w2.alloc (.cells #[.int .i64 0,.int .i64 0] 53)=w3 at ki2 bi2 zi2 ⊢;refine norm0 (a':=⟨#[.bool false,ptr i1,ptr i2,undef,undef,undef,undef,undef,.agg #[.int .i64 5,.int .i64 0],.agg #[.int .i64 1,.int .i64 0],undef,undef,undef,undef,undef,undef,undef,undef,undef,undef,undef,undef,undef,undef,undef,undef,undef,undef,undef,undef,undef,undef,undef,undef,undef,undef,undef,undef,undef,undef,undef,undef,undef],[]⟩) ?_;refine hD.store (n:=0) (u:=(ptr i2)) (z:=(.agg #[.int .i64 1,.int .i64 0])) hk rfl ⟨rfl,rfl,rfl,rfl,nofun⟩ rfl rfl (fun τ d=>((st53 (w:=re w3 τ d) bi2).trans (congrArg (Result.ok ()) re_set2))) (Nat.le_of_eq set2_size.symm) ?_;have kw4:Kp [i2] w3 (set2 w3 i2 (.int .i64 1) (.int .i64 0)):=⟨Nat.le_of_eq set2_size.symm,fun b _ hn=>set2_frame (by simpa using hn)⟩;have bw4:Blk (set2 w3 i2 (.int .i64 1) (.int .i64 0)) i2 [.int .i64 1,.int .i64 0] 53:=set2_blk bi2;have zw4:(set2 w3 i2 (.int .i64 1) (.int .i64 0)).heap.size=w3.heap.size:=set2_size;generalize set2 w3 i2 (.int .i64 1) (.int .i64 0)=w4 at kw4 bw4 zw4 ⊢;refine hD.e0 ?_;have bi1:Blk w4 i1 [.int .i64 5,.int .i64 0] 53:=kw4.blk (ki2.blk bw2 (by simp)) (by have:=bw2.lt;simp;omega);refine hD.s0 ?_;refine hD.r0 ?_;refine hD.ld (.agg #[.int .i64 5,.int .i64 0]) hk (fun τ d=>ld53 (bi1.cell 0) (bi1.cell 1)) ?_;refine hD.ld (.agg #[.int .i64 1,.int .i64 0]) hk (fun τ d=>ld53 (bw4.cell 0) (bw4.cell 1)) ?_;refine hD.ld (.agg #[.int .i64 5,.int .i64 0]) hk (fun τ d=>ld53 (bi1.cell 0) (bi1.cell 1)) ?_;refine norm0 (a':=⟨#[.bool false,ptr i1,ptr i2,undef,undef,undef,undef,undef,.agg #[.int .i64 5,.int .i64 0],.agg #[.int .i64 1,.int .i64 0],.agg #[.int .i64 5,.int .i64 0],.agg #[.int .i64 1,.int .i64 0],.agg #[.int .i64 5,.int .i64 0],undef,undef,undef,undef,undef,undef,undef,undef,undef,undef,undef,undef,undef,undef,undef,undef,undef,undef,undef,undef,undef,undef,undef,undef,undef,undef,undef,undef,undef,undef],[]⟩) ?_;have kab:=Kp.alloc [] w4 (.cells #[.int .i64 5,.int .i64 0,.int .i64 1,.int .i64 0,.int .i64 5,.int .i64 0] 53);have bab:Blk (w4.alloc (.cells #[.int .i64 5,.int .i64 0,.int .i64 1,.int .i64 0,.int .i64 5,.int .i64 0] 53)) w4.heap.size [.int .i64 5,.int .i64 0,.int .i64 1,.int .i64 0,.int .i64 5,.int .i64 0] 53:=Blk.new _ _ _;have zab:(w4.alloc (.cells #[.int .i64 5,.int .i64 0,.int .i64 1,.int .i64 0,.int .i64 5,.int .i64 0] 53)).heap.size=w4.heap.size+1:=wz' _ _;refine hD.opv (n:=0) (v:=.slice (some ⟨w4.heap.size,0,none⟩) 3 3) (w':=w4.alloc (.cells #[.int .i64 5,.int .i64 0,.int .i64 1,.int .i64 0,.int .i64 5,.int .i64 0] 53)) hk rfl ⟨rfl,rfl,rfl,(by decide +kernel),nofun⟩ (fun τ d=>x_bs51 rfl rfl rfl rfl) (by rw[wz'];omega) ?_;obtain⟨ab,hab⟩:∃ x,x=w4.heap.size:=⟨_,rfl⟩;rw[← hab] at bab ⊢;generalize w4.alloc (.cells #[.int .i64 5,.int .i64 0,.int .i64 1,.int .i64 0,.int .i64 5,.int .i64 0] 53)=w5 at kab bab zab ⊢;refine hD.as (.slice (some ⟨ab,0,none⟩) 3 3) hk ?_
 refine norm0 (a':=⟨#[.bool false,ptr i1,ptr i2,.slice (some ⟨ab,0,none⟩) 3 3,undef,undef,undef,undef,.agg #[.int .i64 5,.int .i64 0],.agg #[.int .i64 1,.int .i64 0],.agg #[.int .i64 5,.int .i64 0],.agg #[.int .i64 1,.int .i64 0],.agg #[.int .i64 5,.int .i64 0],.slice (some ⟨ab,0,none⟩) 3 3,undef,undef,undef,undef,undef,undef,undef,undef,undef,undef,undef,undef,undef,undef,undef,undef,undef,undef,undef,undef,undef,undef,undef,undef,undef,undef,undef,undef,undef],[]⟩) ?_;refine hD.e0 ?_;refine hD.s0 ?_;refine hD.r0 ?_;refine hD.mv (.slice (some ⟨ab,0,none⟩) 3 3) hk ?_;refine hD.mv (.slice (some ⟨ab,0,none⟩) 3 3) hk ?_;refine norm0 (a':=⟨#[.bool false,ptr i1,ptr i2,.slice (some ⟨ab,0,none⟩) 3 3,undef,undef,undef,undef,.agg #[.int .i64 5,.int .i64 0],.agg #[.int .i64 1,.int .i64 0],.agg #[.int .i64 5,.int .i64 0],.agg #[.int .i64 1,.int .i64 0],.agg #[.int .i64 5,.int .i64 0],.slice (some ⟨ab,0,none⟩) 3 3,undef,.slice (some ⟨ab,0,none⟩) 3 3,.slice (some ⟨ab,0,none⟩) 3 3,undef,undef,undef,undef,undef,undef,undef,undef,undef,undef,undef,undef,undef,undef,undef,undef,undef,undef,undef,undef,undef,undef,undef,undef,undef,undef],[]⟩) ?_;have ktb:=Kp.alloc [] w5 (.cells #[.slice (some ⟨ab,0,none⟩) 3 3,.slice (some ⟨ab,0,none⟩) 3 3] 51);have btb:Blk (w5.alloc (.cells #[.slice (some ⟨ab,0,none⟩) 3 3,.slice (some ⟨ab,0,none⟩) 3 3] 51)) w5.heap.size [.slice (some ⟨ab,0,none⟩) 3 3,.slice (some ⟨ab,0,none⟩) 3 3] 51:=Blk.new _ _ _;have ztb:(w5.alloc (.cells #[.slice (some ⟨ab,0,none⟩) 3 3,.slice (some ⟨ab,0,none⟩) 3 3] 51)).heap.size=w5.heap.size+1:=wz' _ _;refine hD.opv (n:=0) (v:=.slice (some ⟨w5.heap.size,0,none⟩) 2 2) (w':=w5.alloc (.cells #[.slice (some ⟨ab,0,none⟩) 3 3,.slice (some ⟨ab,0,none⟩) 3 3] 51)) hk rfl ⟨rfl,rfl,rfl,(by decide +kernel),nofun⟩ (fun τ d=>x_bs22 rfl rfl rfl) (by rw[wz'];omega) ?_;obtain⟨tb,htb⟩:∃ x,x=w5.heap.size:=⟨_,rfl⟩;rw[← htb] at btb ⊢;generalize w5.alloc (.cells #[.slice (some ⟨ab,0,none⟩) 3 3,.slice (some ⟨ab,0,none⟩) 3 3] 51)=w6 at ktb btb ztb ⊢;refine hD.pu (.agg #[.int .i64 0,.slice (some ⟨tb,0,none⟩) 2 2,.slice none 0 0,.int .i64 9,.bool false]) hk (fun w=>pu_b25 rfl rfl) ?_;refine norm0 (a':=⟨#[.bool false,ptr i1,ptr i2,.slice (some ⟨ab,0,none⟩) 3 3,undef,undef,undef,undef,.agg #[.int .i64 5,.int .i64 0],.agg #[.int .i64 1,.int .i64 0],.agg #[.int .i64 5,.int .i64 0],.agg #[.int .i64 1,.int .i64 0],.agg #[.int .i64 5,.int .i64 0],.slice (some ⟨ab,0,none⟩) 3 3,undef,.slice (some ⟨ab,0,none⟩) 3 3,.slice (some ⟨ab,0,none⟩) 3 3,.slice (some ⟨tb,0,none⟩) 2 2,.agg #[.int .i64 0,.slice (some ⟨tb,0,none⟩) 2 2,.slice none 0 0,.int .i64 9,.bool false],undef,undef,undef,undef,undef,undef,undef,undef,undef,undef,undef,undef,undef,undef,undef,undef,undef,undef,undef,undef,undef,undef,undef,undef],[]⟩) ?_;refine hD.cf #[.agg #[.int .i64 0,.slice (some ⟨tb,0,none⟩) 2 2,.slice none 0 0,.int .i64 9,.bool false]] hk Try.func9 ?_;refine h i1 i2 ab tb w6 (by omega) (by omega) ⟨by omega,fun b hb _=>?_⟩ (ktb.blk bab (by simp)) btb;rw[ktb.block b (by omega) (by simp),kab.block b (by omega) (by simp),kw4.block b (by omega) (by simp;omega),ki2.block b (by omega) (by simp),kw2.block b (by omega) (by simp;omega),ki1.block b hb (by simp)]
def livesTm (i1 i2 ab tb s rb:Nat)(ga:Option Addr)(na ca:Nat)(ge:Option Addr)(ne ce:Nat)(u e:Int):Array Value:=#[.bool false,ptr i1,ptr i2,.slice (some ⟨ab,0,none⟩) 3 3,ptr s,ptr rb,.int .i64 e,.bool true,.agg #[.int .i64 5,.int .i64 0],.agg #[.int .i64 1,.int .i64 0],.agg #[.int .i64 5,.int .i64 0],.agg #[.int .i64 1,.int .i64 0],.agg #[.int .i64 5,.int .i64 0],.slice (some ⟨ab,0,none⟩) 3 3,.tuple #[ptr s,(.agg #[.slice ga na ca,.slice ge ne ce,.int .i64 u]),.int .i64 e,.bool true],.slice (some ⟨ab,0,none⟩) 3 3,.slice (some ⟨ab,0,none⟩) 3 3,.slice (some ⟨tb,0,none⟩) 2 2,.agg #[.int .i64 0,.slice (some ⟨tb,0,none⟩) 2 2,.slice none 0 0,.int .i64 9,.bool false],.tuple #[ptr s,(.agg #[.slice ga na ca,.slice ge ne ce,.int .i64 u]),.int .i64 e,.bool true],ptr s,.agg #[.slice ga na ca,.slice ge ne ce,.int .i64 u],.int .i64 e,.bool true,undef,undef,undef,undef,undef,undef,undef,undef,undef,undef,undef,undef,undef,undef,undef,undef,undef,undef,undef]
theorem lives_mid {i1 i2 ab tb s:Nat}{ga:Option Addr}{na ca:Nat}{ge:Option Addr}{ne ce:Nat}{u e:Int}(hD:Det Try.prog m fun _=>K)(h:∀ rb w',Kp [] w w'→Blk w' rb [.slice ga na ca,.slice ge ne ce,.int .i64 u] 30→K (gs ((base 12).at ⟨livesTm i1 i2 ab tb s rb ga na ca ge ne ce u e,[]⟩ [.code (sL (sR (sR (sR (sR (sR c12)))))),.code (sR (sR (sR (sR (sR (sR c12))))))]) cs) w'):K (gs ((livesC i1 i2 ab tb).finish (.tuple #[ptr s,.agg #[.slice ga na ca,.slice ge ne ce,.int .i64 u],.int .i64 e,.bool true])) cs) w:=by
 have hk:(base 12).kind≠.early:=nofun;unfold livesC;refine fin0 (some 19) ?_;refine hD.mv (.tuple #[ptr s,.agg #[.slice ga na ca,.slice ge ne ce,.int .i64 u],.int .i64 e,.bool true]) hk ?_;refine hD.pu (ptr s) hk (fun w=>pu_ext rfl rfl rfl) ?_;refine hD.pu (.agg #[.slice ga na ca,.slice ge ne ce,.int .i64 u]) hk (fun w=>pu_ext rfl rfl rfl) ?_;refine norm0 (a':=⟨#[.bool false,ptr i1,ptr i2,.slice (some ⟨ab,0,none⟩) 3 3,undef,undef,undef,undef,.agg #[.int .i64 5,.int .i64 0],.agg #[.int .i64 1,.int .i64 0],.agg #[.int .i64 5,.int .i64 0],.agg #[.int .i64 1,.int .i64 0],.agg #[.int .i64 5,.int .i64 0],.slice (some ⟨ab,0,none⟩) 3 3,.tuple #[ptr s,(.agg #[.slice ga na ca,.slice ge ne ce,.int .i64 u]),.int .i64 e,.bool true],.slice (some ⟨ab,0,none⟩) 3 3,.slice (some ⟨ab,0,none⟩) 3 3,.slice (some ⟨tb,0,none⟩) 2 2,.agg #[.int .i64 0,.slice (some ⟨tb,0,none⟩) 2 2,.slice none 0 0,.int .i64 9,.bool false],.tuple #[ptr s,(.agg #[.slice ga na ca,.slice ge ne ce,.int .i64 u]),.int .i64 e,.bool true],ptr s,.agg #[.slice ga na ca,.slice ge ne ce,.int .i64 u],undef,undef,undef,undef,undef,undef,undef,undef,undef,undef,undef,undef,undef,undef,undef,undef,undef,undef,undef,undef,undef],[]⟩) ?_;refine hD.pu (.int .i64 e) hk (fun w=>pu_ext rfl rfl rfl) ?_;refine hD.pu (.bool true) hk (fun w=>pu_ext rfl rfl rfl) ?_;refine norm0 (a':=⟨#[.bool false,ptr i1,ptr i2,.slice (some ⟨ab,0,none⟩) 3 3,undef,undef,undef,undef,.agg #[.int .i64 5,.int .i64 0],.agg #[.int .i64 1,.int .i64 0],.agg #[.int .i64 5,.int .i64 0],.agg #[.int .i64 1,.int .i64 0],.agg #[.int .i64 5,.int .i64 0],.slice (some ⟨ab,0,none⟩) 3 3,.tuple #[ptr s,(.agg #[.slice ga na ca,.slice ge ne ce,.int .i64 u]),.int .i64 e,.bool true],.slice (some ⟨ab,0,none⟩) 3 3,.slice (some ⟨ab,0,none⟩) 3 3,.slice (some ⟨tb,0,none⟩) 2 2,.agg #[.int .i64 0,.slice (some ⟨tb,0,none⟩) 2 2,.slice none 0 0,.int .i64 9,.bool false],.tuple #[ptr s,(.agg #[.slice ga na ca,.slice ge ne ce,.int .i64 u]),.int .i64 e,.bool true],ptr s,.agg #[.slice ga na ca,.slice ge ne ce,.int .i64 u],.int .i64 e,.bool true,undef,undef,undef,undef,undef,undef,undef,undef,undef,undef,undef,undef,undef,undef,undef,undef,undef,undef,undef],[]⟩) ?_;have krb:=Kp.alloc [] w (.cells #[.slice none 0 0,.slice none 0 0,.int .i64 0] 30);have brb:Blk (w.alloc (.cells #[.slice none 0 0,.slice none 0 0,.int .i64 0] 30)) w.heap.size [.slice none 0 0,.slice none 0 0,.int .i64 0] 30:=Blk.new _ _ _;have zrb:(w.alloc (.cells #[.slice none 0 0,.slice none 0 0,.int .i64 0] 30)).heap.size=w.heap.size+1:=wz' _ _;refine hD.alloc (n:=0) hk rfl ⟨rfl,rfl,rfl,(by decide +kernel),nofun⟩ al30 ?_;obtain⟨rb,hrb⟩:∃ x,x=w.heap.size:=⟨_,rfl⟩;rw[← hrb] at brb ⊢;generalize w.alloc (.cells #[.slice none 0 0,.slice none 0 0,.int .i64 0] 30)=w1 at krb brb zrb ⊢;refine hD.as (ptr s) hk ?_;refine norm0 (a':=⟨#[.bool false,ptr i1,ptr i2,.slice (some ⟨ab,0,none⟩) 3 3,ptr s,ptr rb,undef,undef,.agg #[.int .i64 5,.int .i64 0],.agg #[.int .i64 1,.int .i64 0],.agg #[.int .i64 5,.int .i64 0],.agg #[.int .i64 1,.int .i64 0],.agg #[.int .i64 5,.int .i64 0],.slice (some ⟨ab,0,none⟩) 3 3,.tuple #[ptr s,(.agg #[.slice ga na ca,.slice ge ne ce,.int .i64 u]),.int .i64 e,.bool true],.slice (some ⟨ab,0,none⟩) 3 3,.slice (some ⟨ab,0,none⟩) 3 3,.slice (some ⟨tb,0,none⟩) 2 2,.agg #[.int .i64 0,.slice (some ⟨tb,0,none⟩) 2 2,.slice none 0 0,.int .i64 9,.bool false],.tuple #[ptr s,(.agg #[.slice ga na ca,.slice ge ne ce,.int .i64 u]),.int .i64 e,.bool true],ptr s,.agg #[.slice ga na ca,.slice ge ne ce,.int .i64 u],.int .i64 e,.bool true,undef,undef,undef,undef,undef,undef,undef,undef,undef,undef,undef,undef,undef,undef,undef,undef,undef,undef,undef],[]⟩) ?_
 refine hD.store (n:=0) (u:=(ptr rb)) (z:=(.agg #[.slice ga na ca,.slice ge ne ce,.int .i64 u])) hk rfl ⟨rfl,rfl,rfl,rfl,nofun⟩ rfl rfl (fun τ d=>((st30 (w:=re w1 τ d) brb).trans (congrArg (Result.ok ()) re_set3))) (Nat.le_of_eq set3_size.symm) ?_;have k2:Kp [rb] w1 (set3 w1 rb (.slice ga na ca) (.slice ge ne ce) (.int .i64 u)):=⟨Nat.le_of_eq set3_size.symm,fun b _ hn=>set3_frame (by simpa using hn)⟩;have b2:Blk (set3 w1 rb (.slice ga na ca) (.slice ge ne ce) (.int .i64 u)) rb [.slice ga na ca,.slice ge ne ce,.int .i64 u] 30:=set3_blk brb;generalize (set3 w1 rb (.slice ga na ca) (.slice ge ne ce) (.int .i64 u))=w2 at k2 b2 ⊢;refine hD.as (.int .i64 e) hk ?_;refine hD.as (.bool true) hk ?_;refine norm0 (a':=⟨#[.bool false,ptr i1,ptr i2,.slice (some ⟨ab,0,none⟩) 3 3,ptr s,ptr rb,.int .i64 e,.bool true,.agg #[.int .i64 5,.int .i64 0],.agg #[.int .i64 1,.int .i64 0],.agg #[.int .i64 5,.int .i64 0],.agg #[.int .i64 1,.int .i64 0],.agg #[.int .i64 5,.int .i64 0],.slice (some ⟨ab,0,none⟩) 3 3,.tuple #[ptr s,(.agg #[.slice ga na ca,.slice ge ne ce,.int .i64 u]),.int .i64 e,.bool true],.slice (some ⟨ab,0,none⟩) 3 3,.slice (some ⟨ab,0,none⟩) 3 3,.slice (some ⟨tb,0,none⟩) 2 2,.agg #[.int .i64 0,.slice (some ⟨tb,0,none⟩) 2 2,.slice none 0 0,.int .i64 9,.bool false],.tuple #[ptr s,(.agg #[.slice ga na ca,.slice ge ne ce,.int .i64 u]),.int .i64 e,.bool true],ptr s,.agg #[.slice ga na ca,.slice ge ne ce,.int .i64 u],.int .i64 e,.bool true,undef,undef,undef,undef,undef,undef,undef,undef,undef,undef,undef,undef,undef,undef,undef,undef,undef,undef,undef],[]⟩) ?_;refine hD.e0 ?_;refine hD.s0 ?_;exact h rb w2 ⟨by have:=krb.size;have:=k2.size;omega,fun b hb _=>by rw[k2.block b (by have:=krb.size;omega) (by simp;omega),krb.block b hb (by simp)]⟩ b2
end
theorem rd_new (w:World)(xs:List Int){v:Value}{W:World}(hv:v=.slice (some ⟨w.heap.size,0,none⟩) xs.length xs.length)(hW:W=w.alloc (.cells (xs.map fun x=>Value.int .i64 x).toArray 3)):Rd (fun x:Int=>Value.int .i64 x) W v xs:=by
 subst hv hW;refine⟨_,_,rfl,fun _=>⟨w.heap.size,0,rfl,fun j x hj=>?_⟩⟩;rw[Nat.zero_add];refine(Blk.new w (xs.map fun x=>Value.int .i64 x) 3).cell j |>.trans ?_
 rw[List.getElem?_map,hj];rfl
theorem lives_wp (w:World)(i1 i2 ab tb s rb ca:Nat)(ga ge:Option Addr)(ne ce:Nat)(u:Int)(vn:Value)(sum:Int)(hs:Blk w s [.int .i64 sum,vn] 41)(hn:RepI w vn [0,1,0,1])(hr:Blk w rb [.slice ga 4 ca,.slice ge ne ce,.int .i64 u] 30) :
  (sL (sR (sR (sR (sR (sR c12)))))).wp Try.prog (fun e a' w'=>e=.normal∧a'.defers=[]∧a'.tmps.getD 0 undef=.bool true∧Kp [] w w') ⟨livesTm i1 i2 ab tb s rb ga 4 ca ge ne ce u 0,[]⟩ w:=by
 have c0:w.cell? ⟨s,1,none⟩=some vn:=hs.cell 1;have c1:w.cell? ⟨rb,0,none⟩=some (.slice ga 4 ca):=hr.cell 0;obtain⟨gn,cn,rfl,_⟩:=hn.form;have HC:Hid (Calls Try.prog 11 #[.slice gn 4 cn,.slice (some ⟨w.heap.size,0,none⟩) 4 4] (w.alloc (.cells #[.int .i64 0,.int .i64 1,.int .i64 0,.int .i64 1] 3)) fun e w'=>e=.returned (.bool true)∧∃ n,w'=(w.alloc (.cells #[.int .i64 0,.int .i64 1,.int .i64 0,.int .i64 1] 3)).drewN n) :=
  Lib.hid (ints_calls _ _ _ [0,1,0,1] [0,1,0,1] (rep_rd (hn.keeps ((Keeps.refl [] w).alloc _) (by simp))) (rd_new w [0,1,0,1] rfl rfl) (by decide) (by decide))
 clear hs hn hr;simp only[c12,Try.f12,Option.getD_some,sL,sR,sB,sT,sF,livesTm]
 go_wp2_with (go_at_call 11;refine(HC.out).mono ?_;rintro e w' ⟨rfl,n,rfl⟩)
 exact Keeps.kp (((Keeps.refl _ _).alloc _).drewN _)
def livesI:Nat→List (Int × Int):=fun _=>[(5,0),(1,0),(5,0)]
theorem livesR:playR 2 livesI [] 9 false 0=⟨0,[0,1,0,1],[0,1,0,1],[1,1],0,0⟩:=rfl
theorem lives_args {w:World}{ab tb:Nat}(hlt:ab<tb)(ba:Blk w ab [.int .i64 5,.int .i64 0,.int .i64 1,.int .i64 0,.int .i64 5,.int .i64 0] 53)(bt:Blk w tb [.slice (some ⟨ab,0,none⟩) 3 3,.slice (some ⟨ab,0,none⟩) 3 3] 51):PlA w 2 livesI (fun _=>some ⟨ab,0,none⟩) (fun _=>3) (.slice (some ⟨tb,0,none⟩) 2 2) (.slice none 0 0) []:=by
 have hIB:∀ b,IBof 2 livesI (fun _=>some ⟨ab,0,none⟩) b→b=ab:=fun b ⟨i,o,_,_,h⟩=>by cases h;rfl
 refine⟨⟨_,_,rfl,fun _=>⟨tb,0,rfl,fun j x hj=>?_⟩⟩,fun i _ k d x hk=>?_,fun b hb=>by rw[hIB b hb];exact ba.lt,⟨tb,bt.lt,none,0,rfl,Nat.le_refl _,by decide,by simp,fun h=>absurd rfl h⟩,by decide,fun i _=>(show 3<4294967295 by decide),by decide,by decide⟩
 ·rw[Nat.zero_add]
  exact(bt.cell j).trans hj
 ·have hib:IBof 2 livesI (fun _=>some ⟨ab,0,none⟩) ab:=⟨0,0,by decide,by decide,rfl⟩
  refine⟨ab,0,rfl,hib,?_⟩;rw[Nat.zero_add]
  match k,hk with
  | 0,hk=>cases hk;exact⟨ba.cell 0,ba.cell 1⟩
  | 1,hk=>cases hk;exact⟨ba.cell 2,ba.cell 3⟩
  | 2,hk=>cases hk;exact⟨ba.cell 4,ba.cell 5⟩
theorem lives_runs {Post:Value→World→Prop}{S:SC}{cl:Frame}{cs:List Frame}(hid:Idle S)(hcl:cl.mode=.run)(hnext:∀ S',Idle S'→S'.n0=S.n0→S'.W0=S.W0→Kp [] S.w S'.w→Sound Try.prog link.tWg Post 0 S' (gs (cl.finish (.bool true)) cs)):Sound Try.prog link.tWg Post 0 S (gs (Frame.enter Try.prog 12 #[] .normal) (cl::cs)):=by
 have hK:=clS (Post:=Post) S;refine ks (S:=S) (lives_enter hK.det fun i1 i2 ab tb w1 h1 h2 k1 ba bt=>?_) rfl;show Sound Try.prog link.tWg Post 0 { S with w:=w1} _;refine played_runs (S:={S with w:=w1}) ⟨hid.roles,hid.grps,hid.pos⟩ rfl (lives_args h2 ba bt) fun S2 s ga na ca ge ne ce j1 j2 j3 j4 _ D=>?_;have hR:playR 2 livesI [] 9 false 0=⟨0,[0,1,0,1],[0,1,0,1],[1,1],0,0⟩:=livesR;rw[hR] at D ⊢;have k2:Kp [] S.w S2.w:=k1.trans j4;obtain⟨vn,d1,d2⟩:=D.sh;have hna:na=4:=by
  obtain⟨_,_,e,_⟩:=D.acts.form;cases e;rfl
 subst hna;have hK2:=clS (Post:=Post) S2;refine ks (S:=S2) (lives_mid hK2.det fun rb w3 k3 br=>?_) rfl;have hs3:=k3.blk d1 (by simp);have hn3:RepI w3 vn [0,1,0,1]:=rep_same d2 k3.size fun b hb=>k3.block b (d2.fp_lt b hb) (by simp);refine hK2.seg fits shut (b:=base 12) ⟨_,Try.func12⟩ nofun (c:=(sL (sR (sR (sR (sR (sR c12))))))) (by decide +kernel) (Q:=fun t w'=>t.getD 0 undef=.bool true∧Kp [] w3 w') (fun t w' τ d ⟨q1,q2⟩=>⟨q1,⟨q2.size,q2.block⟩⟩) (fun τ d=>?_) fun t w4 ⟨q1,q2⟩=>?_
 ·exact Code.wp_mono (fun e a w' ⟨q1,q2,q3,q4⟩=>⟨q1,q2,q3,⟨q4.size,q4.block⟩⟩) (lives_wp (re w3 τ d) i1 i2 ab tb s rb ca ga ge ne ce _ vn 0 hs3 hn3 br)
 ·refine hK2.det.ret (n:=0) ?_
  refine hK2.det.leave (n:=0) (b:=base 12) (a:=⟨t,[]⟩) (v:=.bool true) rfl rfl Try.func12 (fun τ d=>?_) hcl ?_
  ·unfold results
   rw[show Try.f12.results=#[.tmp 0] from rfl];simp only[gd'] at q1;simp[go_sem,q1,Result.andThen]
  ·exact hnext { S2 with w:=w4} ⟨j1.roles,j1.grps,j1.pos⟩ j2 j3 (k2.trans (k3.trans q2))
theorem ld25 {w:World}{b:Nat}{x0 x1 x2 x3 x4:Value}(hb:Cel w b [x0,x1,x2,x3,x4] 25):(Instr.loadAt 25 (ptr b)).run Try.prog w=.ok (.agg #[x0,x1,x2,x3,x4]) w:=by
 have h0:=hb.cell 0;have h1:=hb.cell 1;have h2:=hb.cell 2;have h3:=hb.cell 3;have h4:=hb.cell 4;simp only[List.getElem?_cons_zero,List.getElem?_cons_succ] at h0 h1 h2 h3 h4;simp[go_sem,h0,h1,h2,h3,h4,Try.underlying25,Try.runUnderlying25,Try.sizeOf25,Try.isAgg25,List.range,List.range.loop]
theorem fld41 {b f:Nat}(hf:f<2):∀ w,(Instr.fieldAt 41 (.pointer (some ⟨b,0,none⟩)) f).run Try.prog w=.ok (.pointer (some ⟨b,f,none⟩)) w:=fun w=>by
 obtain rfl | rfl:f=0∨f=1:=by omega
 all_goals simp[go_sem,Try.underlying41,Try.runUnderlying41,Try.sizeOf41,Try.isAgg41,Try.sizeOf3,Try.sizeOf39]
theorem fld44 {b f:Nat}(hf:f<4):∀ w,(Instr.fieldAt 44 (.pointer (some ⟨b,0,none⟩)) f).run Try.prog w=.ok (.pointer (some ⟨b,f,none⟩)) w:=fun w=>by
 obtain rfl | rfl | rfl | rfl:f=0∨f=1∨f=2∨f=3:=by omega
 all_goals simp[go_sem,Try.underlying44,Try.runUnderlying44,Try.sizeOf44,Try.isAgg44,Try.sizeOf42,Try.sizeOf3,Try.sizeOf39,Try.sizeOf23]
theorem ex_eq31 {a:Act}{o:Oper}{w:World}{x y:Operand}{i:Int}(h:o.op=.binOp .eql 31 x y 31)(hx:a.eval x=.int .i64 i)(hy:a.eval y=.int .i64 i):(execOp a.eval o).run Try.prog w=.ok (.value (.bool true)) w:=by
 unfold execOp;rw[h];simp only[hx,hy];exact run_vv (by simp[go_sem,Try.underlying31,Try.runUnderlying31])
theorem ex_eq3 {a:Act}{o:Oper}{w:World}{x y:Operand}{i:Int}(h:o.op=.binOp .eql 3 x y 3)(hx:a.eval x=.int .i64 i)(hy:a.eval y=.int .i64 i):(execOp a.eval o).run Try.prog w=.ok (.value (.bool true)) w:=by
 unfold execOp;rw[h];simp only[hx,hy];exact run_vv (by simp[go_sem,Try.underlying3,Try.runUnderlying3])
theorem ex_pick {P:Program}{a:Act}{o:Oper}{w:World}{c x y:Operand}{v:Value}(h:o.op=.pick c x y)(hc:a.eval c=.bool true)(hx:a.eval x=v):(execOp a.eval o).run P w=.ok (.value v) w:=by
 unfold execOp;rw[h];generalize a.eval=ρ at hc hx ⊢;simp[hc,hx,go_sem]
theorem end_bool {P:Program}{fn:Func}{f d:Nat}{todo:List Item}{t:Array Value}{b:Bool}{ρ:Ren}{G:Goroutine}{W:World}(hf:P.funcs[f]?=some fn)(hi:P.inits.idxOf? f=none)(hres:fn.results=#[.tmp d])(ht:t.getD d undef=.bool b)(h:GRel ρ (gs { (base f).at ⟨t,[]⟩ todo with mode:=.returning} []) G):stepG P true G W=.ended (.done (.bool b)) W #[]:=by
 obtain⟨hfr,hcs,hst,hdy⟩:=h;obtain⟨⟨fn',tm,todo',ds,mo,kd,ro⟩,callers,status,dying,offers⟩:=G;obtain⟨h1,h2,h3,h4,h5,h6,h7,h8⟩:=hfr;dsimp only at *;cases hcs;obtain⟨_,rfl⟩:=hdy;have hds:ds=[]:=by cases h5;rfl
 subst hds;have hmo:mo=.returning:=by
  have:MRel ρ .returning mo:=h6;cases this;rfl
 subst hmo;have hfn:fn'=f:=h1.symm;subst hfn;have hkd:kd=.normal:=h2.symm;subst hkd;have htm:tm.getD d undef=.bool b:=by
  have h4':ARel ρ t tm:=h4;by_cases hd:d<t.size
  ·have e1:t[d]?=some t[d]:=as' hd
   have e2:tm[d]?=some (tm[d]'(by have:=h4'.1;omega)):=as' _;have hv:=h4'.2 d _ _ e1 e2;have e3:t[d]=.bool b:=by rw[gd',e1] at ht;exact ht
   rw[e3] at hv;rw[gd',e2];generalize tm[d]'(by have:=h4'.1;omega)=v at hv ⊢;cases hv;rfl
  ·rw[gd',ae' (by omega)] at ht
   cases ht
 have hr:∀ es,(results fn tm).runT P W es=(.ok (.bool b) W,es):=fun es=>by
  simp only[gd'] at htm;simp[results,hres,htm,go_sem,Sem.runT_eq]
 unfold stepG;dsimp only;unfold unwind;dsimp only;rw[hf];dsimp only;rw[hr];dsimp only;unfold doReturn;simp[hi,seen,GStep.after]
theorem sound_true {Post:Value→World→Prop}{S:SC}{fn:Func}{f d:Nat}{todo:List Item}{t:Array Value}(hid:Idle S)(hf:Try.prog.funcs[f]?=some fn)(hi:Try.prog.inits.idxOf? f=none)(hres:fn.results=#[.tmp d])(ht:t.getD d undef=.bool true)(hpost:∀ W,Go.RowKit.Below S.n0 S.W0 W→Post (.bool true) W) :
  Sound Try.prog link.tWg Post 0 S (gs { (base f).at ⟨t,[]⟩ todo with mode:=.returning} []) :=
 sound_end fits hid.roles (fun ρ G W h=>end_bool hf hi hres ht h) hpost
structure Later (S S1:SC):Prop where
 idle:Idle S1
 n0:S1.n0=S.n0
 W0:S1.W0=S.W0
 kp:Kp [] S.w S1.w
theorem Later.refl {S:SC}(h:Idle S):Later S S:=⟨h,rfl,rfl,⟨Nat.le_refl _,fun _ _ _=>rfl⟩⟩
theorem Later.kp' {S S1:SC}{w:World}(h:Later S S1)(k:Kp [] S1.w w):Later S { S1 with w:=w}:=⟨⟨h.idle.roles,h.idle.grps,h.idle.pos⟩,h.n0,h.W0,h.kp.trans k⟩
theorem Later.trans {S S1 S2:SC}(h:Later S S1)(k:Later S1 S2):Later S S2:=⟨k.idle,k.n0.trans h.n0,k.W0.trans h.W0,h.kp.trans k.kp⟩
open Go.ChangeShapes
theorem own:ownKnob Try.prog.godebug=none:=by kernel_rfl
theorem holds_upto {p:Pinned}{s:OpenSpec}{c:OpenClaim}(f:FuncId)(fn:Func)
  (hn:c.program=p.name) (hs:c.sum=p.sum) (hsp:c.spec=s.name)
  (hstart:c.start=.entering) (hout:c.outside=[]) (hin:c.inits=[]) (hun:c.under=none) (hi4:c.initsInPlace=[]∧c.initsUnfollowed=false∧c.initsRecurse=false∧c.initsNamed=[]∧c.initsPassed=[]) (hnb:c.noBlocks=false) (hlv:c.leaving=true) (hfo:c.followed=none) (hnar:c.narrowed=s.cond.isSome) (hstill:c.still=false)
  (hfn:p.checked.prog.funcNamed c.func=some f) (hf:p.checked.prog.funcs[f]?=some fn)
  (closed:joinedFacts p.checked.prog f fn s.bare c=true)
  (hinst:fn.isInstance p.checked.prog c.origin c.targs) (hwrap:fn.isWrapper p.checked.prog c.wrapper c.mainSum)
  (h:∀ os:Os,os.Started→∀ (H:Type) (enc:TypeId × Value→H),(∀ a b,enc a=enc b→a=b)→∀ F:Stop.Interp,
   ReturnsInLeavingWide c.assume p.checked os f .any (c.pre enc p.checked.prog fn s) ((s.at F).post enc p.checked.prog fn c.apart c.fresh c.handsOn c.again)):c.holds p s:=by
 simp only[joinedFacts,Bool.and_eq_true,beq_iff_eq,Array.all_eq_true_iff_forall_mem,List.all_eq_true,decide_eq_true_eq] at closed;obtain⟨⟨⟨⟨⟨⟨⟨⟨⟨⟨⟨⟨⟨⟨⟨⟨⟨⟨⟨⟨⟨⟨⟨⟨⟨⟨⟨⟨⟨⟨⟨k1,k2⟩,k3⟩,k4⟩,k5⟩,k6⟩,k7⟩,k8⟩,k9⟩,k10⟩,k11⟩,k12⟩,k13⟩,k14⟩,k15⟩,k16⟩,k17⟩,k17b⟩,k18⟩,k19⟩,k20⟩,k21⟩,k22⟩,k23⟩,k23b⟩,k24⟩,k24b⟩,k24c⟩,k25⟩,k26⟩,k27⟩,k28⟩:=closed;have hq:∀ os:Os,Stop.quiet p.checked.prog os:=fun os k hk=>by rw[k9] at hk;cases hk
 refine⟨k1,hn,hs,hsp,k2,k3,by unfold OpenClaim.startFits;rw[hstart];exact k24,by unfold OpenClaim.startTold;rw[hstart];exact⟨hin,hun,hi4⟩,f,fn,hfn,hf,⟨k4,k19⟩,(fun hb=>by rw[hnb] at hb;cases hb),by unfold OpenClaim.namedList;rw[hfo];exact k5,hinst,hwrap,
  k6.trans k7.symm,⟨k8.trans k9.symm,by unfold Program.envWorded;rw[k9];rfl,k23b⟩,k10,k11,k12,k13,k14,⟨k15,k27,k28⟩,⟨k16,k20⟩,⟨k17,k21,k25,k26⟩,⟨k22,k24b,k24c,k17b⟩,(by rw[hout,hnar];cases hsh:c.shortTexts with | none=>simp | some _=>rw[hsh] at k23;cases k23),fun n hn'=>varReadable_some (k18 n hn'),
  ⟨_,by unfold OpenClaim.world;rw[hout,hstart];exact WideRow.started_initial,hq _⟩,[],by unfold OpenClaim.lists;rw[hfo],fun os st _ H enc inj=>?_⟩
 have st':os.Started:=by unfold OpenClaim.world at st;rw[hout,hstart] at st;exact st
 rw[OpenClaim.post_not_still hstill];unfold OpenClaim.form;rw[hstart,k6];intro F;have e1:c.okInput=Input.okWide:=by unfold OpenClaim.okInput;rw[hnb]
 have e2:c.atReturn p.checked.prog=leavingAtReturn p.checked.prog:=by unfold OpenClaim.atReturn;rw[hlv]
 have e3:c.always p.checked.prog []=nothingAlways:=by unfold OpenClaim.always;rw[hfo]
 have e4:s.post enc p.checked.prog fn F c.outside c.apart c.fresh c.handsOn c.again=(s.at F).post enc p.checked.prog fn c.apart c.fresh c.handsOn c.again:=by rw[hout];rfl
 rw[e1,e2,e3];show ReturnsInOpen _ _ _ _ _ _ _ _ (s.post enc p.checked.prog fn F c.outside c.apart c.fresh c.handsOn c.again) _ _;rw[e4];exact h os st' H enc inj F k24
theorem leaving_of_cond {H:Type}{enc:TypeId × Value→H}{a:Assume}{C:Checked}{os:Os}{f:FuncId}{fn:Func}{s:OpenSpec}{k:(H:Type)→List (DataW H)→Bool}(hk:s.cond=some k){F:Stop.Interp}{conds:List PathCond}{apart fresh handsOn again:Bool}
  (own:ownKnob C.prog.godebug=none) (started:os.Started) (hfn:C.prog.funcs[f]?=some fn) (hne:C.prog.globals.size<(begin C.prog (fun _ _=>0) default).world.heap.size)
  (witness:∃ (w:World) (tape:Tape) (i:Input),w.os=os∧(w.forCall tape i).Shaped C.prog∧i.vars=[]∧Input.okWide C.prog (w.forCall tape i) .any w.heap.size f i ∧
   s.pre6 enc C.prog fn conds apart (w.forCall tape i).memory i.args∧a.holds C.prog (lone (Frame.enter C.prog f i.args .normal) [] (w.forCall tape i)))
  (contract:∀ (W:World) (base:Nat) (args:Array Value) (ds gs:List (DataW H)) (before:List MemPlace),
   (∀ (j:Nat) t v,fn.params[j]?=some t→args[j]?=some v→Value.okWide C.prog W .any base t v) →
   DataW.Whole enc C.prog fn.params.toList s.vars apart W args.toList ds gs before→k H (ds++gs)=true→0<W.heap.size →
   ∃ N last o w' t',runNT C.prog (N+1) (solo (G (Frame.enter C.prog f args .normal) []) W) #[]=(.ended o w',t')∧runN C.prog N (solo (G (Frame.enter C.prog f args .normal) []) W)=.next last ∧
    step C.prog last=.ended o w'∧Go.Conc.Good C.prog (fun v w'=>(s.at F).post enc C.prog fn apart fresh handsOn again W args v w') last o w' t') :
  ReturnsInLeavingWide a C os f .any (s.pre6 enc C.prog fn conds apart) ((s.at F).post enc C.prog fn apart fresh handsOn again):=by
 refine returnsInLeavingWide_of_good own started witness ?_;intro w tape i _ hsh _ hok hpre _;have h0:0<(w.forCall tape i).heap.size:=by
  obtain⟨o,_,ho,_⟩:=hsh.2 _ (Nat.le_refl _) hne;have:=(aq' ho).1;omega
 obtain⟨_,_,_,fn',hfn',_,_,_,_,hval⟩:=hok;have e:fn'=fn:=oj' (hfn'.symm.trans hfn);subst e;obtain⟨ds,gs,before,hw,hc,hkk⟩:=(OpenSpec.pre_some hk conds apart _ _).1 hpre.1;have hw':=DataW.Whole.of_heap (w':=w.forCall tape i) (by rfl) hw;obtain⟨N,last,o,w',t',h1,h2,h3,v,rfl,hp,hrest⟩:=contract (w.forCall tape i) w.heap.size i.args ds gs before hval hw' hkk h0;exact⟨N,last,_,w',t',h1,h2,h3,v,rfl,ChangeSpec.post_blind hp,hrest⟩
theorem runF_pot (Q:ShC)(C:WC)(wt:Bool)(bh bump:Int):∀ (k:Nat) (x:RunSt ItL ShA),Q.pot x.a x.st→Q.pot (runF (Q.bods C) Q.n (behD wt bh bump) k x).a (runF (Q.bods C) Q.n (behD wt bh bump) k x).st
 | 0,_,h=>h
 | k+1,x,h=>by
  unfold runF;split
  ·exact h
  ·rename_i hne
   obtain⟨h1,h2⟩:=readies_lt (chosen_mem (left:=x.left) (acts:=x.acts) hne);exact runF_pot Q C wt bh bump k _ (act_pot Q C wt bh bump _ h1 h2 h)
theorem runD_notes (n:Nat)(its:Nat→List (Int × Int))(wt:Bool)(bh bump:Int)(most:Int)(picks:List Nat):(runD n its wt bh bump most picks).a.notes.length≤sumTo n (fun j=>(its j).length+1):=by
 obtain⟨Q,hQ⟩:∃ Q:ShC,Q={Qpl n its with M:=sumTo n (fun j=>(its j).length+1)}:=⟨_,rfl⟩;have hQn:Q.n=n:=by rw[hQ];rfl
 have hQi:Q.its=its:=by rw[hQ];rfl
 have h:=runF_pot Q C0w wt bh bump most.toNat ⟨fun _=>.fresh,⟨0,[],0⟩,[],picks⟩ (by
  show 0+0+sumTo Q.n (fun i=>(Q.its i).length+1)≤Q.M;rw[hQ];show 0+0+sumTo n (fun i=>(its i).length+1)≤sumTo n (fun j=>(its j).length+1);omega)
 have e:=out_eq Q C0w wt bh bump most picks;rw[hQn,hQi] at e;have e':runF (Q.bods C0w) Q.n (behD wt bh bump) most.toNat ⟨fun _=>.fresh,⟨0,[],0⟩,[],picks⟩=runD n its wt bh bump most picks:=e;rw[e'] at h;unfold ShC.pot at h;have hM:Q.M=sumTo n (fun j=>(its j).length+1):=by rw[hQ]
 omega
theorem playR_bounds {n:Nat}{its:Nat→List (Int × Int)}{picks:List Nat}{most bump:Int}{wt:Bool}(hs:sumTo n (fun j=>(its j).length+1)<4294967295)(hn:n<1048576):(playR n its picks most wt bump).notes.length<1099511627776∧(playR n its picks most wt bump).acts.length<1099511627776∧(playR n its picks most wt bump).ends.length<1099511627776:=by
 unfold playR;split
 ·exact⟨(show(0:Nat)<1099511627776 by decide),(show(0:Nat)<1099511627776 by decide),(show(0:Nat)<1099511627776 by decide)⟩
 ·have h1:=runD_notes n its wt (-77) bump most picks
  have h2:=runD_acts n its wt (-77) bump most picks;refine⟨?_,?_,?_⟩
  ·show(runD n its wt (-77) bump most picks).a.notes.length<_
   omega
  ·show(runD n its wt (-77) bump most picks).acts.length<_
   omega
  ·show(endsM _ (donesE n _)).length<_
   simp[endsM,donesE];omega
end Go.Proofs.Ytkoehgfebipkkaa.Lift
namespace Go.Proofs.Ytkoehgfebipkkaa.Z
open Go Go.ChangeShapes Go.WideShapes Go.ChangeAt Go.RowKit Go.Deep
theorem laidOut:laidOutB Try.prog=true:=by kernel_rfl
theorem bulk_pos {H:Type}(d:DataW H):0<Rows.uptoBulk d:=by
 cases d<;>try (simp[Rows.uptoBulk];done)
 rename_i l;cases l<;>simp[Rows.uptoBulk]
theorem bulk_len {H:Type}:∀ l:List (DataW H),l.length≤Rows.uptoBulkAll l
 | []=>Nat.zero_le _
 | d::l=>by
  have ih:=bulk_len l;have hd:=bulk_pos d;rw[Rows.uptoBulkAll,List.length_cons];omega
theorem bulk_of {H:Type}{l:List (DataW H)}(hk:Rows.uptoSmall H l=true):Rows.uptoBulkAll l≤1048576:=by
 unfold Rows.uptoSmall at hk;exact of_decide_eq_true hk
theorem bulk_sum {H:Type}{α:Type}(f:α→Nat)(D:α→DataW H):∀ l:List α,(∀ i∈l,f i≤Rows.uptoBulk (D i))→(l.map f).sum≤Rows.uptoBulkAll (l.map D)
 | [],_=>Nat.zero_le _
 | a::l,h=>by
  have ih:=bulk_sum f D l fun i hi=>h i (List.mem_cons_of_mem _ hi);have ha:=h a (List.mem_cons_self ..);rw[List.map_cons,List.map_cons,List.sum_cons,Rows.uptoBulkAll];omega
theorem cell_spot {w:World}{a:Addr}{v:Value}(h:w.cell? a=some v):a=⟨a.block,a.off,none⟩:=by
 obtain⟨b,o,s⟩:=a;unfold World.cell? at h;split at h
 ·cases s with
  | none=>rfl
  | some x=>simp at h
 ·cases h
theorem cell_row {w:World}{a:Addr}{v:Value}(h:w.cell? a=some v):∃ c t fz,w.heap[a.block]?=some (.cells c t fz):=by
 unfold World.cell? at h;cases e:w.heap[a.block]? with
 | none=>simp[e] at h
 | some x =>
  cases x<;>simp[e] at h
  exact⟨_,_,_,rfl⟩
theorem add_at (b o j:Nat):(⟨b,o,none⟩:Addr).add j=⟨b,o+j,none⟩:=by unfold Addr.add;split<;>simp_all
theorem spot_of {w:World}{a:Addr}{n:Nat}{cs:List Value}(h:w.cells? 0 (a.add (0*n)) n=some cs)(hn:0<n):a.spot=none:=by
 obtain⟨_,hl,hat⟩:=World.cells?_some h;have h0:=hat 0 hn;rw[Nat.zero_mul,show ∀ a:Addr,a.add 0=a from fun a=>if_pos rfl,show ∀ a:Addr,a.add 0=a from fun a=>if_pos rfl,List.getElem?_eq_getElem (by omega)] at h0;exact congrArg Addr.spot (cell_spot h0)
theorem list_of {α:Type}{p:Nat→α→Prop}:∀ n,(∀ i,i<n→∃ x,p i x)→∃ l:List α,l.length=n∧∀ i x,l[i]?=some x→p i x
 | 0,_=>⟨[],rfl,fun i x h=>by simp at h⟩
 | n+1,h=>by
  obtain⟨l,hl,hp⟩:=list_of n (fun i hi=>h i (by omega));obtain⟨x,hx⟩:=h n (by omega);refine⟨l++[x],by simp[hl],fun i y hy=>?_⟩;by_cases hi:i<n
  ·rw[List.getElem?_append_left (by omega)] at hy;exact hp i y hy
  ·rw[List.getElem?_append_right (by omega),hl] at hy
   by_cases he:i=n
   ·subst he;simp at hy;subst hy;exact hx
   ·rw[List.getElem?_eq_none (by simp;omega)] at hy;cases hy
def SlOk (w:World)(g:Option Addr)(n cap:Nat):Prop:=∀ a,g=some a→(∃ c t fz,w.heap[a.block]?=some (.cells c t fz))∨n=0∧cap=0
def ItemsIn (w:World)(g:Option Addr)(its:List (Int × Int)):Prop :=
 ∀ (k:Nat) (d x:Int),its[k]?=some (d,x)→∃ ab ao,g=some ⟨ab,ao,none⟩∧w.cell? ⟨ab,ao+k*2,none⟩=some (.int .i64 d)∧w.cell? ⟨ab,ao+k*2+1,none⟩=some (.int .i64 x)
theorem cells53:Try.prog.cellsOf 53=2:=by kernel_rfl
theorem cells51:Try.prog.cellsOf 51=1:=by kernel_rfl
theorem cells5:Try.prog.cellsOf 5=1:=by kernel_rfl
theorem cells3:Try.prog.cellsOf 3=1:=by kernel_rfl
theorem cells4:Try.prog.cellsOf 4=1:=by kernel_rfl
theorem cells22:Try.prog.cellsOf 22=1:=by kernel_rfl
theorem cells23:Try.prog.cellsOf 23=1:=by kernel_rfl
section
variable {H:Type}{enc:TypeId × Value→H}{w:World}{held:Bool}{fuel:Nat}{cs:List Value}{x:DataW H × List MemPlace}
theorem open_item {a b:Value}(h:DataW.trod enc Try.prog w 0 (fun _=>true) held fuel 53 [a,b]=some x):∃ d n:Int,a=.int .i64 d∧b=.int .i64 n:=by
 obtain⟨xs,k,_,_,_,hxl,hf⟩:=DataW.trod_struct Try.underlying53 h;have f0:=hf 0 { name := "Do",type:=3,offset:=0,embedded:=false,tag := "",pkgPath := "",byteOffset:=0} rfl;have f1:=hf 1 { name := "N",type:=3,offset:=1,embedded:=false,tag := "",pkgPath := "",byteOffset:=8} rfl;dsimp only at f0 f1;rw[cells3] at f0 f1;have hx2:xs.length=2:=hxl;change DataW.trod enc Try.prog w 0 (fun _=>true) held k 3 [a]=_ at f0;change DataW.trod enc Try.prog w 0 (fun _=>true) held k 3 [b]=_ at f1;rw[List.getElem?_eq_getElem (by omega)] at f0 f1;obtain⟨d,h0,_,_⟩:=DataW.trod_int Try.underlying3 f0;obtain⟨n,h1,_,_⟩:=DataW.trod_int Try.underlying3 f1;cases h0;cases h1;exact⟨d,n,rfl,rfl⟩
theorem open_items (h:DataW.trod enc Try.prog w 0 (fun _=>true) held fuel 51 cs=some x) :
  ∃ (g:Option Addr) (cap:Nat) (its:List (Int × Int)),cs=[.slice g its.length cap]∧its.length+1≤Rows.uptoBulk x.1∧ItemsIn w g its∧SlOk w g its.length cap:=by
 rcases open_slice Try.underlying51 h with⟨rfl,rfl⟩ | ⟨a,len,cap,m,n,D,Pl,rfl,_,hle,_,hm,rfl,hi⟩
 ·exact⟨none,0,[],rfl,by simp[Rows.uptoBulk],fun k d x hk=>by simp at hk,fun a ha=>by cases ha⟩
 ·rw[if_pos rfl] at hm
  subst hm;rw[cells53] at hi;have hcell:∀ i,i<m→∃ p:Int × Int,a.spot=none∧w.cell? ⟨a.block,a.off+i*2,none⟩=some (.int .i64 p.1)∧w.cell? ⟨a.block,a.off+i*2+1,none⟩=some (.int .i64 p.2):=by
   intro i hlt;obtain⟨cs',hc,hd⟩:=hi i hlt;obtain⟨_,hcl,hat⟩:=World.cells?_some hc
   match cs',hcl with
   | [u,v],_ =>
    obtain⟨d,n,rfl,rfl⟩:=open_item hd;have h0:=hat 0 (by omega);have h1:=hat 1 (by omega);have hs:a.spot=none:=spot_of (hi 0 (by omega)).choose_spec.1 (by omega);obtain⟨b,o,s⟩:=a;simp only at hs;subst hs;rw[add_at,add_at] at h0 h1;exact⟨(d,n),rfl,h0,h1⟩
  obtain⟨its,hl,hits⟩:=list_of (α:=Int × Int) len fun i hlt=>hcell i (by omega);refine⟨some a,m,its,by rw[hl],?_,fun k d y hk=>?_,fun a' ha=>?_⟩
  ·show its.length+1≤Rows.uptoBulk (.slice _ _)
   have:=bulk_len ((List.range len).map D);simp only[Rows.uptoBulk];simp only[List.length_map,List.length_range] at this;omega
  ·obtain⟨h1,h2,h3⟩:=hits k (d,y) hk
   obtain⟨b,o,s⟩:=a;simp only at h1;subst h1;exact⟨b,o,rfl,h2,h3⟩
  ·cases ha
   by_cases h0:m=0
   ·exact .inr ⟨by omega,h0⟩
   ·obtain⟨_,_,h2,_⟩:=hcell 0 (by omega)
    exact .inl (cell_row (a:=⟨a.block,_,none⟩) h2)
structure ThrIn (w:World)(n:Nat)(its:Nat→List (Int × Int))(gi:Nat→Option Addr)(ci:Nat→Nat)(vt:Value):Prop where
 thr:∃ g c,vt=.slice g n c∧SlOk w g n c∧∀ i,i<n→∃ b o,g=some ⟨b,o,none⟩∧w.cell? ⟨b,o+i,none⟩=some (.slice (gi i) (its i).length (ci i))
 sl:∀ i,i<n→SlOk w (gi i) (its i).length (ci i)
 items:∀ i,i<n→ItemsIn w (gi i) (its i)
theorem open_threads (h:DataW.trod enc Try.prog w 0 (fun _=>true) held fuel 22 cs=some x) :
  ∃ (vt:Value) (n:Nat) (its:Nat→List (Int × Int)) (gi:Nat→Option Addr) (ci:Nat→Nat),cs=[vt]∧ThrIn w n its gi ci vt∧((List.range n).map fun i=>(its i).length+1).sum+1≤Rows.uptoBulk x.1:=by
 rcases open_slice Try.underlying22 h with⟨rfl,rfl⟩ | ⟨a,len,cap,m,n,D,Pl,rfl,_,hle,_,hm,rfl,hi⟩
 ·exact⟨_,0,fun _=>[],fun _=>none,fun _=>0,rfl,⟨⟨none,0,rfl,fun a ha=>by (cases ha),fun i hi=>by omega⟩,fun i hi=>by omega,fun i hi=>by omega⟩,by simp[Rows.uptoBulk]⟩
 ·rw[if_pos rfl] at hm
  subst hm;rw[cells51] at hi;have hcell:∀ i,i<m→∃ p:Option Addr × Nat × List (Int × Int),a.spot=none∧w.cell? ⟨a.block,a.off+i,none⟩=some (.slice p.1 p.2.2.length p.2.1)∧p.2.2.length+1≤Rows.uptoBulk (D i)∧ItemsIn w p.1 p.2.2∧SlOk w p.1 p.2.2.length p.2.1:=by
   intro i hlt;obtain⟨cs',hc,hd⟩:=hi i hlt;obtain⟨_,hcl,hat⟩:=World.cells?_some hc;obtain⟨g,cp,its,rfl,hb,h1,h2⟩:=open_items hd;have h0:=hat 0 (by omega);have hs:a.spot=none:=spot_of (hi 0 (by omega)).choose_spec.1 (by omega);obtain⟨b,o,s⟩:=a;simp only at hs;subst hs;rw[add_at,add_at,Nat.mul_one,Nat.add_zero] at h0;exact⟨(g,cp,its),rfl,h0,hb,h1,h2⟩
  obtain⟨f,hf⟩:=choose_lt (α:=Option Addr × Nat × List (Int × Int)) (n:=len) (fun i hlt=>hcell i (by omega));refine⟨_,len,fun i=>(f i).2.2,fun i=>(f i).1,fun i=>(f i).2.1,rfl,⟨⟨some a,m,rfl,fun a' ha=>?_,fun i hlt=>?_⟩,fun i hlt=>(hf i hlt).2.2.2.2,fun i hlt=>(hf i hlt).2.2.2.1⟩,?_⟩
  ·cases ha
   by_cases h0:m=0
   ·exact .inr ⟨by omega,h0⟩
   ·obtain⟨_,_,h2,_⟩:=hcell 0 (by omega)
    exact .inl (cell_row (a:=⟨a.block,_,none⟩) h2)
  ·obtain⟨h1,h2,_⟩:=hf i hlt
   obtain⟨b,o,s⟩:=a;simp only at h1;subst h1;exact⟨b,o,rfl,h2⟩
  ·have:=bulk_sum (fun i=>(f i).2.2.length+1) D (List.range len) fun i hi=>(hf i (List.mem_range.1 hi)).2.2.1
   show _+1≤Rows.uptoBulk (.slice _ _);simp only[Rows.uptoBulk];omega
structure BytesIn (w:World)(vp:Value)(xs:List Nat):Prop where
 sl:∃ g c,vp=.slice g xs.length c∧xs.length≤c∧c≤maxLen∧SlOk w g xs.length c∧∀ (j u:Nat),xs[j]?=some u→∃ b o,g=some ⟨b,o,none⟩∧w.cell? ⟨b,o+j,none⟩=some (.int .u8 u)
 byte:∀ u∈xs,u<256
theorem open_bytes (h:DataW.trod enc Try.prog w 0 (fun _=>true) held fuel 23 cs=some x) :
  ∃ (vp:Value) (xs:List Nat),cs=[vp]∧BytesIn w vp xs∧xs.length+1≤Rows.uptoBulk x.1:=by
 rcases open_slice Try.underlying23 h with⟨rfl,rfl⟩ | ⟨a,len,cap,m,n,D,Pl,rfl,_,hle,hmx,hm,rfl,hi⟩
 ·exact⟨_,[],rfl,⟨⟨none,0,rfl,Nat.le_refl _,Nat.zero_le _,fun a ha=>by (cases ha),fun j u hj=>by simp at hj⟩,fun u hu=>by simp at hu⟩,by simp[Rows.uptoBulk]⟩
 ·rw[if_pos rfl] at hm
  subst hm;rw[cells5] at hi;have hcell:∀ i,i<m→∃ u:Nat,a.spot=none∧w.cell? ⟨a.block,a.off+i,none⟩=some (.int .u8 u)∧u<256:=by
   intro i hlt;obtain⟨cs',hc,hd⟩:=hi i hlt;obtain⟨_,hcl,hat⟩:=World.cells?_some hc;obtain⟨v,rfl,_,hw⟩:=DataW.trod_int Try.underlying5 hd;have h0:=hat 0 (by omega);have hs:a.spot=none:=spot_of (hi 0 (by omega)).choose_spec.1 (by omega);obtain⟨b,o,s⟩:=a;simp only at hs;subst hs;rw[add_at,add_at,Nat.mul_one,Nat.add_zero] at h0;have hr:0≤v∧v<256:=by
    simp[Lit.wf,IntKind.min,IntKind.max,IntKind.bits,IntKind.signed] at hw;omega
   refine⟨v.toNat,rfl,?_,by omega⟩;rw[Int.toNat_of_nonneg hr.1];exact h0
  obtain⟨xs,hl,hxs⟩:=list_of (α:=Nat) len fun i hlt=>hcell i (by omega);refine⟨_,xs,rfl,⟨⟨some a,m,by rw[hl],by omega,hmx,fun a' ha=>?_,fun j u hj=>?_⟩,fun u hu=>?_⟩,?_⟩
  ·cases ha
   by_cases h0:m=0
   ·exact .inr ⟨by omega,h0⟩
   ·obtain⟨_,_,h2,_⟩:=hcell 0 (by omega)
    exact .inl (cell_row (a:=⟨a.block,_,none⟩) h2)
  ·obtain⟨h1,h2,_⟩:=hxs j u hj
   obtain⟨b,o,s⟩:=a;simp only at h1;subst h1;exact⟨b,o,rfl,h2⟩
  ·obtain⟨j,hj⟩:=List.getElem?_of_mem hu
   exact(hxs j u hj).2.2
  ·have:=bulk_len ((List.range len).map D)
   show _+1≤Rows.uptoBulk (.slice _ _);simp only[Rows.uptoBulk];simp only[List.length_map,List.length_range] at this;omega
theorem open_play {c0 c1 c2 c3 c4:Value}(h:DataW.trod enc Try.prog w 0 (fun _=>true) held fuel 25 [c0,c1,c2,c3,c4]=some x) :
  ∃ (bump most:Int) (wt:Bool) (n:Nat) (its:Nat→List (Int × Int)) (gi:Nat→Option Addr) (ci:Nat→Nat) (picks:List Nat),c0=.int .i64 bump∧c3=.int .i64 most∧c4=.bool wt∧ThrIn w n its gi ci c1∧BytesIn w c2 picks ∧
   (Lit.int .i64 bump).wf=true∧(Lit.int .i64 most).wf=true∧((List.range n).map fun i=>(its i).length+1).sum+picks.length+1≤Rows.uptoBulk x.1:=by
 obtain⟨xs,k,_,hx,_,hxl,hf⟩:=DataW.trod_struct Try.underlying25 h;have f0:=hf 0 { name := "Bump",type:=3,offset:=0,embedded:=false,tag := "",pkgPath := "",byteOffset:=0} rfl;have f1:=hf 1 { name := "Threads",type:=22,offset:=1,embedded:=false,tag := "",pkgPath := "",byteOffset:=8} rfl;have f2:=hf 2 { name := "Picks",type:=23,offset:=2,embedded:=false,tag := "",pkgPath := "",byteOffset:=32} rfl;have f3:=hf 3 { name := "Most",type:=3,offset:=3,embedded:=false,tag := "",pkgPath := "",byteOffset:=56} rfl;have f4:=hf 4 { name := "Watch",type:=4,offset:=4,embedded:=false,tag := "",pkgPath := "",byteOffset:=64} rfl;dsimp only at f0 f1 f2 f3 f4;rw[cells3] at f0 f3;rw[cells22] at f1;rw[cells23] at f2;rw[cells4] at f4;change DataW.trod enc Try.prog w 0 (fun _=>true) held k 3 [c0]=_ at f0;change DataW.trod enc Try.prog w 0 (fun _=>true) held k 22 [c1]=_ at f1;change DataW.trod enc Try.prog w 0 (fun _=>true) held k 23 [c2]=_ at f2;change DataW.trod enc Try.prog w 0 (fun _=>true) held k 3 [c3]=_ at f3;change DataW.trod enc Try.prog w 0 (fun _=>true) held k 4 [c4]=_ at f4;have hx5:xs.length=5:=hxl;rw[List.getElem?_eq_getElem (by omega)] at f0 f1 f2 f3 f4;obtain⟨bump,e0,_,w0⟩:=DataW.trod_int Try.underlying3 f0;obtain⟨most,e3,_,w3⟩:=DataW.trod_int Try.underlying3 f3;obtain⟨wt,e4,_⟩:=DataW.trod_bool Try.underlying4 f4;obtain⟨vt,n,its,gi,ci,e1,hT,hb1⟩:=open_threads f1;obtain⟨vp,picks,e2,hB,hb2⟩:=open_bytes f2;cases e0;cases e1;cases e2;cases e3;cases e4;refine⟨bump,most,wt,n,its,gi,ci,picks,rfl,rfl,rfl,hT,hB,w0,w3,?_⟩;have hd:x.1=.agg (xs.map (·.1)):=congrArg Prod.fst hx;have h5:xs=[xs[0],xs[1],xs[2],xs[3],xs[4]]:=by
  apply List.ext_getElem
  ·simpa using hx5
  ·intro i h1 h2
   have:i=0∨i=1∨i=2∨i=3∨i=4:=by omega
   rcases this with rfl | rfl | rfl | rfl | rfl<;>rfl
 rw[hd,h5];simp only[List.map_cons,List.map_nil,Rows.uptoBulkAll,Rows.uptoBulk];omega
end
theorem post_true {H:Type}{enc:TypeId × Value→H}{f:Func}{s:ChangeSpec}{t:TypeId}{W W':World}{v0:Value}{d0:DataW H}{before:List MemPlace}(hs:s.vars=[])(hp:f.params.toList=[t])(hr:f.resultTypes=#[4])
  (hd:∀ d,s.fn H [d]={results:=[.lit (.bool true)],args:=[d]}) (ht:Try.prog.readableRec t=true) (hrow:t<Try.prog.types.size)
  (hW:DataW.Whole enc Try.prog f.params.toList s.vars false W [v0] [d0] [] before) (h0:DataW.Trod enc Try.prog W 0 (fun _=>true) true t v0 d0 before) (hb:Below W.heap.size W W') :
  s.post enc Try.prog f false true false false W #[v0] (.bool true) W':=by
 refine⟨[d0],[],before,[],before,[],hW,?_,?_,?_,hb.frame _,fun h=>by cases h⟩
 ·rw[hr,List.append_nil,hd]
  exact trodAll_mk1 (shut_bool Try.underlying4 _)
 ·rw[hp,List.append_nil,hd]
  exact trodAll_mk1 (Below.trod laidOut ht hrow h0 hb fun x hx=>hW.lt x hx)
 ·rw[hs,List.append_nil,hd]
  rfl
end Go.Proofs.Ytkoehgfebipkkaa.Z
namespace Go.Proofs.Ytkoehgfebipkkaa.Lift
open Go Go.Conc Go.RowKit Pl
open Go.ConcN (sumTo)
open Z (SlOk ThrIn BytesIn ItemsIn)
theorem slOk_rel {W:World}{g:Option Addr}{n c:Nat}(h:SlOk W g n c):VRel (seenR W) (.slice g n c) (.slice g n c):=by
 cases g with
 | none=>exact .flat rfl
 | some a =>
  rcases h a rfl with e | ⟨rfl,rfl⟩
  ·obtain⟨b,o,s⟩:=a
   exact .slice (seenR_in e)
  ·exact .void
theorem sum_sumTo (f:Nat→Nat):∀ n,((List.range n).map f).sum=sumTo n f
 | 0=>rfl
 | n+1=>by
  rw[List.range_succ,List.map_append,List.sum_append,sum_sumTo f n];simp[sumTo]
theorem le_sumTo (f:Nat→Nat){i:Nat}:∀ {n:Nat},i<n→f i≤sumTo n f
 | n+1,h=>by
  unfold sumTo;by_cases e:i=n
  ·subst e;omega
  ·have:=le_sumTo f (show i<n by omega);omega
theorem count_sumTo (f:Nat→Nat):∀ n:Nat,n≤sumTo n (fun i=>f i+1)
 | 0=>Nat.zero_le _
 | n+1=>by
  have:=count_sumTo f n;unfold sumTo;show n+1≤sumTo n (fun i=>f i+1)+(f n+1);omega
theorem plA_seen {W:World}{n:Nat}{its:Nat→List (Int × Int)}{gi:Nat→Option Addr}{ci:Nat→Nat}{vt vp:Value}{picks:List Nat}(T:ThrIn W n its gi ci vt)(B:BytesIn W vp picks)
  (hb:((List.range n).map fun i=>(its i).length+1).sum+picks.length+1≤1048576) (h0:0<W.heap.size):PlA (seenW W) n its gi ci vt vp picks:=by
 rw[sum_sumTo] at hb;have hn:=count_sumTo (fun i=>(its i).length) n;refine⟨?_,fun i hi k d x hk=>?_,fun b hB=>?_,?_,by omega,fun i hi=>?_,by omega,by omega⟩
 ·obtain⟨g,c,rfl,_,hc⟩:=T.thr
  refine⟨g,c,by simp,fun hne=>?_⟩;have hpos:0<n:=by
   rcases Nat.eq_zero_or_pos n with e | e
   ·subst e;simp at hne
   ·exact e
  obtain⟨b,o,hg,_⟩:=hc 0 hpos;refine⟨b,o,hg,fun j u hj=>?_⟩;have hjn:j<n:=by have:=(List.getElem?_eq_some_iff.1 hj).1;simpa using this
  obtain⟨b',o',hg',h⟩:=hc j hjn;rw[hg] at hg';cases hg';have e:u=.slice (gi j) (its j).length (ci j):=by simpa[hjn] using hj.symm
  subst e;exact seenW_cell h (slOk_rel (T.sl j hjn))
 ·obtain⟨ab,ao,h1,h2,h3⟩:=T.items i hi k d x hk
  exact⟨ab,ao,h1,⟨i,ao,hi,(by rintro e;rw[e] at hk;simp at hk),h1⟩,seenW_cell h2 (.flat rfl),seenW_cell h3 (.flat rfl)⟩
 ·obtain⟨i,o,hi,hne,hg⟩:=hB
  obtain⟨⟨d,x⟩,l,e⟩:=List.exists_cons_of_ne_nil hne;obtain⟨ab,ao,h1,h2,_⟩:=T.items i hi 0 d x (by rw[e];rfl);rw[hg] at h1;cases h1;rw[seenW_size];obtain⟨_,_,_,h⟩:=cell_isC h2;exact(aq' h).1
 ·obtain⟨g,c,rfl,h1,h2,_,hc⟩:=B.sl
  by_cases hne:picks=[]
  ·subst hne
   exact⟨0,by rw[seenW_size];exact h0,g,c,rfl,h1,h2,B.byte,fun h=>absurd rfl h⟩
  ·obtain⟨u,l,e⟩:=List.exists_cons_of_ne_nil hne
   obtain⟨b,o,hg,h⟩:=hc 0 u (by rw[e];rfl);obtain⟨_,_,_,hh⟩:=cell_isC h;refine⟨b,by rw[seenW_size];exact(aq' hh).1,g,c,rfl,h1,h2,B.byte,fun _=>⟨o,hg,fun j u hj=>?_⟩⟩;obtain⟨b',o',hg',h'⟩:=hc j u hj;rw[hg] at hg';cases hg';exact seenW_cell h' (.flat rfl)
 ·have:=le_sumTo (fun i=>(its i).length+1) hi
  have h2:(its i).length+1≤sumTo n (fun i=>(its i).length+1):=this;omega
theorem start_idle (W:World):Idle (SC.start W):=⟨fun _=>rfl,fun _=>rfl,Nat.one_pos⟩
theorem bytes_rel {W:World}{vp:Value}{picks:List Nat}(B:BytesIn W vp picks):VRel (seenR W) vp vp:=by
 obtain⟨g,c,rfl,_,_,h,_⟩:=B.sl;exact slOk_rel h
theorem thr_rel {W:World}{n:Nat}{its:Nat→List (Int × Int)}{gi:Nat→Option Addr}{ci:Nat→Nat}{vt:Value}(T:ThrIn W n its gi ci vt):VRel (seenR W) vt vt:=by
 obtain⟨g,c,rfl,h,_⟩:=T.thr;exact slOk_rel h
theorem play_rel {W:World}{vt vp:Value}{bump most:Int}{wt:Bool}(h1:VRel (seenR W) vt vt)(h2:VRel (seenR W) vp vp):VRel (seenR W) (.agg #[.int .i64 bump,vt,vp,.int .i64 most,.bool wt]) (.agg #[.int .i64 bump,vt,vp,.int .i64 most,.bool wt]):=by
 refine .agg rfl fun i v V a b=>?_;rw[a] at b;cases b
 match i,a with
 | 0,a=>cases a;exact .flat rfl
 | 1,a=>cases a;exact h1
 | 2,a=>cases a;exact h2
 | 3,a=>cases a;exact .flat rfl
 | 4,a=>cases a;exact .flat rfl
 | _+5,a=>simp at a
theorem some_heap:Try.prog.globals.size<(begin Try.prog (fun _ _=>0) default).world.heap.size:=of_decide_eq_true (by kernel_rfl)
def fr (x:Nat→Value):Array Value:=#[x 0,x 1,x 2,x 3,x 4,x 5,x 6,x 7,x 8,x 9,x 10,x 11,x 12,x 13,x 14,x 15,x 16,x 17,x 18,x 19,x 20,x 21,x 22,x 23,x 24,x 25,x 26,x 27,x 28,x 29,x 30,x 31,x 32,x 33,x 34,x 35,x 36,x 37,x 38,x 39,x 40,x 41,x 42,x 43,x 44,x 45,x 46,x 47,x 48,x 49,x 50,x 51,x 52,x 53,x 54,x 55,x 56,x 57,x 58,x 59,x 60,x 61,x 62,x 63,x 64,x 65,x 66,x 67,x 68,x 69,x 70,x 71,x 72,x 73,x 74,x 75,x 76,x 77,x 78,x 79,x 80,x 81,x 82,x 83,x 84,x 85,x 86,x 87,x 88,x 89,x 90,x 91,x 92,x 93,x 94,x 95,x 96,x 97,x 98,x 99,x 100,x 101,x 102,x 103,x 104,x 105,x 106,x 107,x 108,x 109,x 110,x 111,x 112,x 113,x 114,x 115,x 116,x 117,x 118,x 119,x 120,x 121,x 122,x 123,x 124,x 125,x 126,x 127,x 128,x 129,x 130,x 131,x 132,x 133,x 134,x 135,x 136,x 137,x 138,x 139,x 140,x 141,x 142,x 143,x 144,x 145,x 146,x 147,x 148,x 149,x 150,x 151,x 152,x 153,x 154,x 155,x 156,x 157,x 158,x 159,x 160,x 161]
def up (x:Nat→Value)(d:Nat)(v:Value)(i:Nat):Value:=bif Nat.beq i d then v else x i
theorem fr_eq (x:Nat→Value):fr x=((List.range 162).map x).toArray:=by kernel_rfl
theorem fr_put {x:Nat→Value}{d:Nat}{v:Value}{ds:List Deferred}(hd:Nat.ble (d+1) 162=true):(⟨fr x,ds⟩:Act).put (some d) v=⟨fr (up x d v),ds⟩:=by
 have h:d<162:=Nat.le_of_ble_eq_true hd;have e:(fr x).setIfInBounds d v=fr (up x d v):=by
  rw[fr_eq,fr_eq];apply Array.ext';simp only[List.setIfInBounds_toArray];apply List.ext_getElem?;intro i;rw[List.getElem?_set];simp only[List.getElem?_map,List.length_map,List.length_range];by_cases hi:i<162
  ·rw[List.getElem?_range hi]
   by_cases e:d=i
   ·subst e
    rw[if_pos rfl,if_pos h];simp[up]
   ·rw[if_neg e]
    have:Nat.beq i d=false:=by
     cases hb:Nat.beq i d with
     | false=>rfl
     | true=>exact absurd (Nat.eq_of_beq_eq_true hb).symm e
    simp[up,this]
  ·rw[List.getElem?_eq_none (by simp;omega)]
   by_cases e:d=i
   ·subst e;omega
   ·rw[if_neg e]
    rfl
 show(⟨(fr x).setIfInBounds d v,ds⟩:Act)=_;rw[e]
theorem nm {K:Goroutine→World→Prop}{b:Frame}{x:Nat→Value}{d:Nat}{v:Value}{ds:List Deferred}{t:List Item}{cs:List Frame}{w:World}(hd:Nat.ble (d+1) 162=true)(h:K (gs (b.at ⟨fr (up x d v),ds⟩ t) cs) w):K (gs (b.at ((⟨fr x,ds⟩:Act).put (some d) v) t) cs) w:=by
 rw[fr_put hd];exact h
theorem t_fr {t:Array Value}(h:t.size=162):t=fr fun q=>t.getD q undef:=by
 rw[fr_eq];apply Array.ext';apply List.ext_getElem?;intro i;simp only[List.getElem?_map];by_cases hi:i<162
 ·rw[List.getElem?_range hi,Array.getElem?_toList,as' (by omega)]
  simp[Array.getD,h,hi]
 ·rw[Array.getElem?_toList,ae' (by omega),List.getElem?_eq_none (by simp;omega)]
  rfl
abbrev OA (bx:Nat)(at' mo:Int)(x:Nat→Value):Prop:=x 1=ptr bx∧x 3=.int .i64 at'∧x 4=.int .i64 mo
abbrev OC (bx kb:Nat)(at' mo:Int)(x:Nat→Value):Prop:=x 1=ptr bx∧x 3=.int .i64 at'∧x 4=.int .i64 mo∧x 6=ptr kb
abbrev OD (bx kb rb:Nat)(at' mo:Int)(x:Nat→Value):Prop:=x 1=ptr bx∧x 3=.int .i64 at'∧x 4=.int .i64 mo∧x 6=ptr kb∧x 7=ptr rb
abbrev OE (bx rb nb n:Nat)(at' mo:Int)(v:Value)(i:Nat)(x:Nat→Value):Prop:=x 1=ptr bx∧x 3=.int .i64 at'∧x 4=.int .i64 mo∧x 7=ptr rb∧x 9=.int .i64 (n:Int)∧x 10=ptr nb∧x 11=v∧x 12=.int .i64 (i:Int)
abbrev OF (rb nb n long:Nat)(at' mo:Int)(v:Value)(want:Int)(x:Nat→Value):Prop:=x 3=.int .i64 at'∧x 4=.int .i64 mo∧x 7=ptr rb∧x 9=.int .i64 (n:Int)∧x 10=ptr nb∧x 11=v∧x 13=.int .i64 (long:Int)∧x 14=.int .i64 want
abbrev OG (rb nb n:Nat)(mo e want:Int)(x:Nat→Value):Prop:=x 4=.int .i64 mo∧x 7=ptr rb∧x 8=.int .i64 e∧x 9=.int .i64 (n:Int)∧x 10=ptr nb∧x 14=.int .i64 want
def c6:Code:=Try.f6.body.getD .skip
def c18:Code:=Try.f18.body.getD .skip
def c22:Code:=Try.f22.body.getD .skip
theorem bx59 {bo at' mo pi:Int}:∀ w:World,(Instr.box 59 (.agg #[.int .i64 bo,.int .i64 at',.int .i64 mo,.int .i64 pi])).run Try.prog w=.ok (ptr w.heap.size) (w.alloc (.cells #[.int .i64 bo,.int .i64 at',.int .i64 mo,.int .i64 pi] 59)):=fun w=>by
 simp[go_sem,Try.underlying59,Try.runUnderlying59,Try.sizeOf59,Try.isAgg59]
theorem fld59 {b f:Nat}(hf:f<4):∀ w,(Instr.fieldAt 59 (.pointer (some ⟨b,0,none⟩)) f).run Try.prog w=.ok (.pointer (some ⟨b,f,none⟩)) w:=fun w=>by
 obtain rfl | rfl | rfl | rfl:f=0∨f=1∨f=2∨f=3:=by omega
 all_goals simp[go_sem,Try.underlying59,Try.runUnderlying59,Try.sizeOf59,Try.isAgg59,Try.sizeOf3]
theorem al60:∀ w:World,(Instr.alloc 60 true (.tuple #[])).run Try.prog w=.ok (ptr w.heap.size) (w.alloc (.cells #[.pointer none] 60)):=fun w=>by
 simp[go_sem,Try.underlying60,Try.runUnderlying60,Try.sizeOf60,Try.isAgg60,Try.zeroValue60]
theorem al3:∀ w:World,(Instr.alloc 3 true (.tuple #[])).run Try.prog w=.ok (ptr w.heap.size) (w.alloc (.cells #[.int .i64 0] 3)):=fun w=>by
 simp[go_sem,Try.underlying3,Try.runUnderlying3,Try.sizeOf3,Try.isAgg3,Try.zeroValue3]
theorem st60 {w:World}{a:Addr}{x:Value}{p:Option Addr}(hc:w.cell? a=some x)(hf:w.frozen? a=false):(Instr.storeAt 60 (.pointer (some a)) (.pointer p)).run Try.prog w=.ok () (w.setCell a (.pointer p)):=by simp[go_sem,hc,hf,Try.underlying60,Try.runUnderlying60,Try.sizeOf60,Try.isAgg60]
theorem pu_mk1 {a:Act}{oo:Oper}{w:World}{x:Operand}{u:Value}{ff:FuncId}(h:oo.op=.makeFunc (.func ff) #[] #[x])(hx:a.eval x=u):(execOp a.eval oo).run Try.prog w=.ok (.value (.func (.func ff) #[] #[u])) w:=by
 unfold execOp;rw[h];exact run_vv (by simp only[List.map_toArray,List.map_cons,List.map_nil,hx];simp[go_sem])
theorem x_bs50 {a:Act}{oo:Oper}{w:World}{x:Operand}{f:FuncId}{cap:Array Value}(h:oo.op=.buildSlice 50 1 #[(0,x)])(hx:a.eval x=.func (.func f) #[] cap):(execOp a.eval oo).run Try.prog w=.ok (.value (.slice (some ⟨w.heap.size,0,none⟩) 1 1)) (w.alloc (.cells #[.func (.func f) #[] cap] 54)):=by
 unfold execOp;rw[h];generalize a.eval=ρ at hx ⊢;simp only[Array.map_map,List.map_toArray,List.map,Function.comp,hx];exact run_vv (by simp[go_sem,Try.underlying50,Try.runUnderlying50,Try.sizeOf54,Try.isAgg54,Try.zeroValue54])
theorem flat_noughts:∀ n:Nat,(List.replicate n 0).flatMap (fun _:Nat=>([.int .u8 0]:List Value))=List.replicate n (Value.int .u8 0)
 | 0=>rfl
 | n+1=>by rw[List.replicate_succ,List.replicate_succ,List.flatMap_cons,flat_noughts n];rfl
theorem mk23 {n:Nat}(hn:n≤131071)(w:World):(Instr.makeSlice 23 (.int .i64 n) (.int .i64 n)).run Try.prog w=.ok (.slice (some ⟨w.heap.size,0,none⟩) n n) (w.alloc (.cells (List.replicate n (Value.int .u8 0)).toArray 5)):=by
 obtain⟨i,hi,hzz⟩:=Option.map_eq_some_iff.1 info5;simp only[Prod.mk.injEq] at hzz;obtain⟨hz,hs,hb⟩:=hzz;have hrun:=run_make (P:=Try.prog) w 23 5 i _ Try.underlying23 hi hz .i64 .i64 n n (by omega) (Int.le_refl _) (by rw[hb];omega) (by omega);simp only[Int.toNat_natCast,hs] at hrun;rw[hrun];have h1:=Pl.made_eq (α:=Nat) (fun _=>[.int .u8 0]) 0 #[Value.int .u8 0] rfl (by decide) n;rw[flat_noughts n] at h1;exact congrArg (fun z=>Result.ok (Value.slice (some ⟨w.heap.size,0,none⟩) n n) (w.alloc (.cells z 5))) h1
theorem x_mk23 {a:Act}{oo:Oper}{w:World}{x y:Operand}{n:Nat}(h:oo.op=.makeSlice 23 x y)(hx:a.eval x=.int .i64 n)(hy:a.eval y=.int .i64 n)(hn:n≤131071):(execOp a.eval oo).run Try.prog w=.ok (.value (.slice (some ⟨w.heap.size,0,none⟩) n n)) (w.alloc (.cells (List.replicate n (Value.int .u8 0)).toArray 5)):=by
 unfold execOp;rw[h];generalize a.eval=ρ at hx hy ⊢;simp only[hx,hy];exact run_vv (mk23 hn w)
theorem pu_and {a:Act}{oo:Oper}{w:World}{x:Operand}{i m r:Int}(h:oo.op=.binOp .and 3 x (.const (.int .i64 m)) 3)(hx:a.eval x=.int .i64 i)(hr:(binOp .and 3 (.int .i64 i) (.int .i64 m)).run Try.prog w=.ok (.int .i64 r) w):(execOp a.eval oo).run Try.prog w=.ok (.value (.int .i64 r)) w:=by
 unfold execOp;rw[h];simp only[hx];rw[show a.eval (.const (.int .i64 m))=.int .i64 m from rfl];exact run_vv hr
theorem pu_add1 {a:Act}{oo:Oper}{w:World}{x:Operand}{i:Int}(h:oo.op=.binOp .add 3 x (.const (.int .i64 1)) 3)(hx:a.eval x=.int .i64 i):(execOp a.eval oo).run Try.prog w=.ok (.value (.int .i64 (wrap64 (i+1)))) w:=by
 unfold execOp;rw[h];simp only[hx];rw[show a.eval (.const (.int .i64 1))=.int .i64 1 from rfl];exact run_vv (by simp[go_sem,Try.underlying3,Try.runUnderlying3,IntKind.wrap_i64,wrap64])
theorem pu_neW {a:Act}{oo:Oper}{w:World}{x y:Operand}{i j:Int}(h:oo.op=.binOp .neq 31 x y 31)(hx:a.eval x=.int .i64 i)(hy:a.eval y=.int .i64 j):(execOp a.eval oo).run Try.prog w=.ok (.value (.bool (decide (i≠j)))) w:=by
 unfold execOp;rw[h];simp only[hx,hy];exact run_vv (by simp[go_sem,Try.underlying31,Try.runUnderlying31,bne,BEq.beq])
section
variable {m:Bool}{K:Goroutine→World→Prop}{w:World}{cs:List Frame}
theorem yield_idle (hK:Cl Try.prog m K){u z:Value}{o p g:Bool}{f:Value}(hz:z=stopV o p g f){cl:Frame}(hcm:cl.mode=.run)(hi:∀ w',Kp [] w w'→Calls Try.prog 34 #[u] w' fun e w2=>e=.returned (.bool true)∧w2=w')(h:∀ w',Kp [] w w'→K (gs (cl.finish (.tuple #[])) cs) w'):K (gs (Frame.enter Try.prog 33 #[u,z] .normal) (cl::cs)) w:=by
 subst hz;rw[enter33];have hk:(base 33).kind≠.early:=nofun;have hD:=hK.det;refine hD.s0 ?_;refine hD.r0 ?_;refine hD.box (n:=0) (u:=stopV o p g f) hk rfl ⟨rfl,rfl,rfl,rfl,nofun⟩ rfl bx77 ?_;have k1:=Kp.alloc [] w (.cells #[.bool o,.bool p,.bool g,f] 77);generalize w.alloc (.cells #[.bool o,.bool p,.bool g,f] 77)=w1 at k1 ⊢;obtain⟨y,hyy⟩:∃ y,y=w.heap.size:=⟨_,rfl⟩;rw[← hyy];refine norm0 (a':=⟨#[u,(stopV o p g f),uu,ptr y,uu,uu,uu,uu,uu,uu,uu,uu,uu,uu,uu,uu,uu,uu,uu,uu,uu,uu],[]⟩) ?_;refine hD.e0 ?_;refine hD.s0 ?_;refine hD.s0 ?_;refine hD.r0 ?_;refine hD.mv u hk ?_;refine norm0 (a':=⟨#[u,(stopV o p g f),uu,ptr y,u,uu,uu,uu,uu,uu,uu,uu,uu,uu,uu,uu,uu,uu,uu,uu,uu,uu],[]⟩) ?_;refine hD.cf #[u] hk Try.func34 ?_;refine hK.callp fits shut (f:=34) rfl (v:=.bool true) (fun τ d=>hi _ ⟨k1.size,k1.block⟩) ?_;refine fin0 (some 5) ?_;refine norm0 (a':=⟨#[u,(stopV o p g f),uu,ptr y,u,.bool true,uu,uu,uu,uu,uu,uu,uu,uu,uu,uu,uu,uu,uu,uu,uu,uu],[]⟩) ?_;refine hD.e0 ?_;refine hD.cond (n:=0) true rfl rfl ?_;refine hD.ret (n:=0) ?_;exact hD.leave (n:=0) (b:=base 33) (v:=.tuple #[]) rfl rfl Try.func33 (fun τ d=>res0 rfl) hcm (h _ k1)
theorem step_idle (hK:Cl Try.prog m K){u:Value}{cl:Frame}(hcm:cl.mode=.run)(hi:∀ w',Kp [] w w'→Calls Try.prog 34 #[u] w' fun e w2=>e=.returned (.bool true)∧w2=w')(h:∀ w',Kp [] w w'→K (gs (cl.finish (.tuple #[])) cs) w'):K (gs (Frame.enter Try.prog 15 #[u] .normal) (cl::cs)) w:=by
 have hD:=hK.det;rw[enter15];have hk:(base 15).kind≠.early:=nofun;refine hD.r0 ?_;refine hD.mv u hk ?_;refine hD.pu (stopV false false false .nilFunc) hk (fun w=>pu_bstep rfl) ?_;refine norm0 (a':=⟨#[u,uu,u,(stopV false false false .nilFunc),uu],[]⟩) ?_;refine hD.cf #[u,stopV false false false .nilFunc] hk Try.func33 ?_;exact yield_idle hK rfl rfl hi fun w' k=>y15_back hD hcm (h w' k)
theorem wait_idle (hK:Cl Try.prog m K){u rv:Value}(hrv:isFn rv){cl:Frame}(hcm:cl.mode=.run)(hi:∀ w',Kp [] w w'→Calls Try.prog 34 #[u] w' fun e w2=>e=.returned (.bool true)∧w2=w')(h:∀ w',Kp [] w w'→K (gs (cl.finish (.tuple #[])) cs) w'):K (gs (Frame.enter Try.prog 16 #[u,rv] .normal) (cl::cs)) w:=by
 have hD:=hK.det;rw[enter16];have hk:(base 16).kind≠.early:=nofun;refine hD.r0 ?_;refine hD.mv u hk ?_;refine hD.mv rv hk ?_;refine hD.pu (stopV false false false rv) hk (fun w=>pu_bwait (x:=.tmp 5) rfl rfl hrv) ?_;refine norm0 (a':=⟨#[u,rv,uu,uu,u,rv,(stopV false false false rv),uu],[]⟩) ?_;refine hD.cf #[u,stopV false false false rv] hk Try.func33 ?_;exact yield_idle hK rfl rfl hi fun w' k=>y16_back hD hcm (h w' k)
end
theorem idle_over {w:World}{b r i:Nat}{tu:Value}(hb:Cel w b [ptr r,.int .i64 i,tu,.bool false] 81)(hr:∃ ba sa sk ac,Cel w r [ba,sa,sk,ac,.bool true] 86):∀ w',Kp [] w w'→Calls Try.prog 34 #[ptr b] w' fun e w2=>e=.returned (.bool true)∧w2=w':=fun w' k=>by
 obtain⟨ba,sa,sk,ac,hr⟩:=hr;exact idle_calls w' b r i tu false true ba sa sk ac (k.cel hb (by simp)) (k.cel hr (by simp))
theorem idle_none {w:World}:∀ w',Kp [] w w'→Calls Try.prog 34 #[.pointer none] w' fun e w2=>e=.returned (.bool true)∧w2=w':=fun w' _=>idle_nil w'
theorem act_over (w:World)(u:Value)(h:Calls Try.prog 34 #[u] w fun e w2=>e=.returned (.bool true)∧w2=w):Calls Try.prog 20 #[u] w fun e w'=>e=.returned (.int .i64 0)∧w'=w:=by
 have HI:=Lib.hid h;clear h
 go_enter Try.func20,Try.ntmps20
 go_wp2_with (go_at_call 34;refine(HI.out).mono ?_;rintro e w' ⟨rfl,rfl⟩)
 go_ret
 exact⟨rfl,rfl⟩
theorem thread_over (w:World)(u:Value)(h:Calls Try.prog 34 #[u] w fun e w2=>e=.returned (.bool true)∧w2=w):Calls Try.prog 19 #[u] w fun e w'=>e=.returned (.int .i64 0)∧w'=w:=by
 have HI:=Lib.hid h;clear h
 go_enter Try.func19,Try.ntmps19
 go_wp2_with (go_at_call 34;refine(HI.out).mono ?_;rintro e w' ⟨rfl,rfl⟩)
 go_ret
 exact⟨rfl,rfl⟩
theorem enter6 {bo at' mo pi:Int}:Frame.enter Try.prog 6 #[.agg #[.int .i64 bo,.int .i64 at',.int .i64 mo,.int .i64 pi]] .normal=(base 6).at ⟨fr (up (fun _=>undef) 0 (.agg #[.int .i64 bo,.int .i64 at',.int .i64 mo,.int .i64 pi])),[]⟩ [.code c6]:=enter_lit Try.func6 rfl (by kernel_rfl)
def noLives (x:Nat→Value):Frame:=(base 6).at ⟨fr x,[]⟩ [.inRegion (sO (sL (sL (sR (sR (sR c6)))))) [0,1],.code (sR (sL (sR (sR (sR c6))))),.code (sR (sR (sR (sR c6))))]
def noA (x:Nat→Value):Frame:=(base 6).at ⟨fr x,[]⟩ [.inRegion (sO (sL (sR (sR (sR (sR (sR c6))))))) [1],.code (sR (sR (sR (sR (sR (sR c6))))))]
def noB (x:Nat→Value):Frame:=(base 6).at ⟨fr x,[]⟩ [.inRegion (sO (sL (sR (sR (sR (sR (sR (sR c6)))))))) [1],.code (sR (sR (sR (sR (sR (sR (sR c6)))))))]
def noRun (x:Nat→Value):Frame:=(base 6).at ⟨fr x,[]⟩ [.inRegion (sO (sL (sR (sR (sR (sR (sR (sR (sR (sR c6)))))))))) [2,3,4,5,6,7,8],.code (sR (sR (sR (sR (sR (sR (sR (sR (sR c6)))))))))]
def noC (x:Nat→Value):Frame:=(base 6).at ⟨fr x,[]⟩ [.inRegion (sO (sL (sR (sR (sR (sR (sR (sR (sR (sR (sR (sR c6)))))))))))) [1],.code (sR (sR (sR (sR (sR (sR (sR (sR (sR (sR (sR c6)))))))))))]
def noD (x:Nat→Value):Frame:=(base 6).at ⟨fr x,[]⟩ [.inRegion (sO (sL (sR (sR (sR (sR (sR (sR (sR (sR (sR (sR (sR c6))))))))))))) [1],.code (sR (sR (sR (sR (sR (sR (sR (sR (sR (sR (sR (sR c6))))))))))))]
def noRun2 (x:Nat→Value):Frame:=(base 6).at ⟨fr x,[]⟩ [.inRegion (sO (sL (sR (sR (sR (sR (sR (sR (sR (sR (sR (sR (sR (sR (sR (sR (sR (sR (sR (sR (sR (sR c6)))))))))))))))))))))) [4,5,6,7,8,9],.code (sR (sR (sR (sR (sR (sR (sR (sR (sR (sR (sR (sR (sR (sR (sR (sR (sR (sR (sR (sR (sR c6)))))))))))))))))))))]
section
variable {K:Goroutine→World→Prop}{m:Bool}{w:World}{cs:List Frame}{bo at' mo pi:Int}{bx kb rb nb n long:Nat}{x:Nat→Value}{vl:Value}{want:Int}
theorem none_enter (hD:Det Try.prog m fun _=>K)(h:∀ x bx w',Kp [] w w'→Blk w' bx [.int .i64 bo,.int .i64 at',.int .i64 mo,.int .i64 pi] 59→OA bx at' mo x→K (gs (Frame.enter Try.prog 12 #[] .normal) (noLives x::cs)) w'):K (gs (Frame.enter Try.prog 6 #[.agg #[.int .i64 bo,.int .i64 at',.int .i64 mo,.int .i64 pi]] .normal) cs) w:=by
 have hk:(base 6).kind≠.early:=nofun;rw[enter6];refine hD.s0 ?_;refine hD.r0 ?_;have kbx:=Kp.alloc [] w (.cells #[.int .i64 bo,.int .i64 at',.int .i64 mo,.int .i64 pi] 59);have bbx:Blk (w.alloc (.cells #[.int .i64 bo,.int .i64 at',.int .i64 mo,.int .i64 pi] 59)) w.heap.size [.int .i64 bo,.int .i64 at',.int .i64 mo,.int .i64 pi] 59:=Blk.new _ _ _;refine hD.box (n:=0) (u:=(.agg #[.int .i64 bo,.int .i64 at',.int .i64 mo,.int .i64 pi])) hk rfl ⟨rfl,rfl,rfl,rfl,nofun⟩ rfl bx59 ?_;obtain⟨bx,hbx⟩:∃ x,x=w.heap.size:=⟨_,rfl⟩;rw[← hbx] at bbx ⊢;generalize w.alloc (.cells #[.int .i64 bo,.int .i64 at',.int .i64 mo,.int .i64 pi] 59)=w1 at kbx bbx ⊢;refine nm rfl ?_;refine hD.as (.bool false) hk ?_;refine nm rfl ?_;refine hD.e0 ?_;refine hD.s0 ?_;refine hD.r0 ?_;refine hD.fd (ptrAt bx 1) hk (fld59 (by omega)) ?_;refine nm rfl ?_;refine hD.ld (.int .i64 at') hk (fun τ d=>ld3 (bbx.cell 1)) ?_;refine nm rfl ?_;refine hD.as (.int .i64 at') hk ?_;refine nm rfl ?_;refine hD.e0 ?_;refine hD.s0 ?_;refine hD.r0 ?_;refine hD.fd (ptrAt bx 2) hk (fld59 (by omega)) ?_;refine nm rfl ?_;refine hD.ld (.int .i64 mo) hk (fun τ d=>ld3 (bbx.cell 2)) ?_;refine nm rfl ?_;refine hD.as (.int .i64 mo) hk ?_;refine nm rfl ?_;refine hD.e0 ?_;refine hD.s0 ?_;refine hD.s0 ?_;refine hD.r0 ?_;refine hD.cf #[] hk Try.func12 ?_;exact h _ bx w1 kbx bbx ⟨rfl,rfl,rfl⟩
theorem none_one (hD:Det Try.prog m fun _=>K)(hx:OA bx at' mo x)(h:∀ x',x' 1=ptr bx∧x' 3=.int .i64 at'∧x' 4=.int .i64 mo∧x' 5=.pointer none→K (gs (Frame.enter Try.prog 15 #[.pointer none] .normal) (noA x'::cs)) w):K (gs ((noLives x).finish (.bool true)) cs) w:=by
 have hk:(base 6).kind≠.early:=nofun;obtain⟨h1,h3,h4⟩:=hx;unfold noLives;refine fin0 (some 20) ?_;refine nm rfl ?_;refine hD.pu (.bool false) hk (fun w=>pu_not (y:=true) rfl rfl) ?_;refine nm rfl ?_;refine hD.e0 ?_;refine hD.cond (n:=0) false rfl rfl ?_;refine hD.k0 ?_;refine hD.s0 ?_;refine hD.r0 ?_;refine hD.as (.pointer none) hk ?_;refine nm rfl ?_;refine hD.e0 ?_;refine hD.s0 ?_;refine hD.r0 ?_;refine hD.mv (.pointer none) hk ?_;refine nm rfl ?_;refine hD.cf #[.pointer none] hk Try.func15 ?_;exact h _ ⟨h1,h3,h4,rfl⟩
theorem none_two (hD:Det Try.prog m fun _=>K)(hx:x 1=ptr bx∧x 3=.int .i64 at'∧x 4=.int .i64 mo∧x 5=.pointer none)(h:∀ x,x 1=ptr bx∧x 3=.int .i64 at'∧x 4=.int .i64 mo∧x 5=.pointer none→K (gs (Frame.enter Try.prog 16 #[.pointer none,.func (.func 17) #[] #[]] .normal) (noB x::cs)) w):K (gs ((noA x).finish (.tuple #[])) cs) w:=by
 have hk:(base 6).kind≠.early:=nofun;obtain⟨h1,h3,h4,h5⟩:=hx;unfold noA;refine fin0 (some 23) ?_;refine nm rfl ?_;refine hD.e0 ?_;refine hD.s0 ?_;refine hD.r0 ?_;refine hD.move (n:=0) (v:=(.pointer none)) hk rfl ⟨rfl,rfl,rfl,rfl,nofun⟩ h5 ?_;refine nm rfl ?_;refine hD.cf #[.pointer none,.func (.func 17) #[] #[]] hk Try.func16 ?_;exact h _ ⟨h1,h3,h4,h5⟩
theorem none_three (hD:Det Try.prog m fun _=>K)(hx:x 1=ptr bx∧x 3=.int .i64 at'∧x 4=.int .i64 mo∧x 5=.pointer none)(h:∀ kb fb w' x,Kp [] w w'→Blk w' kb [.pointer none] 60→Blk w' fb [.func (.func 18) #[] #[ptr kb]] 54→kb=w.heap.size→x 1=ptr bx∧x 3=.int .i64 at'∧x 4=.int .i64 mo∧x 6=ptr kb∧x 5=.pointer none→K (gs (Frame.enter Try.prog 14 #[.slice (some ⟨fb,0,none⟩) 1 1,.slice none 0 0,.int .i64 5] .normal) (noRun x::cs)) w'):K (gs ((noB x).finish (.tuple #[])) cs) w:=by
 have hk:(base 6).kind≠.early:=nofun;obtain⟨h1,h3,h4,h5⟩:=hx;unfold noB;refine fin0 (some 25) ?_;refine nm rfl ?_;refine hD.e0 ?_;refine hD.s0 ?_;refine hD.r0 ?_;have kkb:=Kp.alloc [] w (.cells #[.pointer none] 60);have bkb:Blk (w.alloc (.cells #[.pointer none] 60)) w.heap.size [.pointer none] 60:=Blk.new _ _ _;refine hD.alloc (n:=0) hk rfl ⟨rfl,rfl,rfl,(by decide +kernel),nofun⟩ al60 ?_;obtain⟨kb,hkb⟩:∃ x,x=w.heap.size:=⟨_,rfl⟩;rw[← hkb] at bkb ⊢;generalize w.alloc (.cells #[.pointer none] 60)=w1 at kkb bkb ⊢;refine nm rfl ?_;refine hD.e0 ?_;refine hD.s0 ?_;refine hD.r0 ?_;refine hD.pu (.func (.func 18) #[] #[ptr kb]) hk (fun w=>pu_mk1 rfl rfl) ?_;refine nm rfl ?_;have kfb:=Kp.alloc [] w1 (.cells #[.func (.func 18) #[] #[ptr kb]] 54);have bfb:Blk (w1.alloc (.cells #[.func (.func 18) #[] #[ptr kb]] 54)) w1.heap.size [.func (.func 18) #[] #[ptr kb]] 54:=Blk.new _ _ _;refine hD.opv (n:=0) (w':=w1.alloc (.cells #[.func (.func 18) #[] #[ptr kb]] 54)) (v:=(.slice (some ⟨w1.heap.size,0,none⟩) 1 1)) hk rfl ⟨rfl,rfl,rfl,(by decide +kernel),nofun⟩ (fun τ d=>x_bs50 rfl rfl) (by rw[wz'];omega) ?_;obtain⟨fb,hfb⟩:∃ x,x=w1.heap.size:=⟨_,rfl⟩;rw[← hfb] at bfb ⊢;generalize w1.alloc (.cells #[.func (.func 18) #[] #[ptr kb]] 54)=w2 at kfb bfb ⊢;refine nm rfl ?_;refine hD.cf #[.slice (some ⟨fb,0,none⟩) 1 1,.slice none 0 0,.int .i64 5] hk Try.func14 ?_;exact h kb fb w2 _ (kkb.trans kfb) (kfb.blk bkb (by simp)) bfb hkb ⟨h1,h3,h4,rfl,h5⟩
theorem none_four {ga ge:Option Addr}{na ca ne ce:Nat}{u e:Int}(hD:Det Try.prog m fun _=>K)(hx:x 1=ptr bx∧x 3=.int .i64 at'∧x 4=.int .i64 mo∧x 6=ptr kb∧x 5=.pointer none)(h:∀ rb w' x,rb=w.heap.size→Kp [] w w'→Blk w' rb [.slice ga na ca,.slice ge ne ce,.int .i64 u] 30→x 1=ptr bx∧x 3=.int .i64 at'∧x 4=.int .i64 mo∧x 6=ptr kb∧x 7=ptr rb∧x 5=.pointer none∧x 8=.int .i64 e→K (gs ((base 6).at ⟨fr x,[]⟩ [.code (sR (sR (sR (sR (sR (sR (sR (sR (sR c6)))))))))]) cs) w'):K (gs ((noRun x).finish (.tuple #[.agg #[.slice ga na ca,.slice ge ne ce,.int .i64 u],.int .i64 e])) cs) w:=by
 have hk:(base 6).kind≠.early:=nofun;obtain⟨h1,h3,h4,h6,h5⟩:=hx;unfold noRun;refine fin0 (some 29) ?_;refine nm rfl ?_;refine hD.mv (.tuple #[.agg #[.slice ga na ca,.slice ge ne ce,.int .i64 u],.int .i64 e]) hk ?_;refine nm rfl ?_;refine hD.pu (.agg #[.slice ga na ca,.slice ge ne ce,.int .i64 u]) hk (fun w=>pu_ext rfl rfl rfl) ?_;refine nm rfl ?_;refine hD.pu (.int .i64 e) hk (fun w=>pu_ext rfl rfl rfl) ?_;refine nm rfl ?_;have krb:=Kp.alloc [] w (.cells #[.slice none 0 0,.slice none 0 0,.int .i64 0] 30);have brb:Blk (w.alloc (.cells #[.slice none 0 0,.slice none 0 0,.int .i64 0] 30)) w.heap.size [.slice none 0 0,.slice none 0 0,.int .i64 0] 30:=Blk.new _ _ _;refine hD.alloc (n:=0) hk rfl ⟨rfl,rfl,rfl,(by decide +kernel),nofun⟩ al30 ?_;obtain⟨rb,hrb⟩:∃ x,x=w.heap.size:=⟨_,rfl⟩;rw[← hrb] at brb ⊢;generalize w.alloc (.cells #[.slice none 0 0,.slice none 0 0,.int .i64 0] 30)=w1 at krb brb ⊢;refine nm rfl ?_;refine hD.store (n:=0) (u:=(ptr rb)) (z:=(.agg #[.slice ga na ca,.slice ge ne ce,.int .i64 u])) hk rfl ⟨rfl,rfl,rfl,rfl,nofun⟩ rfl rfl (fun τ d=>((st30 (w:=re w1 τ d) brb).trans (congrArg (Result.ok ()) re_set3))) (Nat.le_of_eq set3_size.symm) ?_;have bo2:Blk (set3 w1 rb (.slice ga na ca) (.slice ge ne ce) (.int .i64 u)) rb _ 30:=set3_blk brb;have k2:∀ b,b≠rb→(set3 w1 rb (.slice ga na ca) (.slice ge ne ce) (.int .i64 u)).heap[b]?=w1.heap[b]?:=fun b hb=>set3_frame hb;have s2:(set3 w1 rb (.slice ga na ca) (.slice ge ne ce) (.int .i64 u)).heap.size=w1.heap.size:=set3_size;generalize set3 w1 rb (.slice ga na ca) (.slice ge ne ce) (.int .i64 u)=w2 at bo2 k2 s2 ⊢;refine hD.as (.int .i64 e) hk ?_;refine nm rfl ?_;refine hD.e0 ?_;exact h rb w2 _ hrb ⟨Nat.le_trans krb.size (Nat.le_of_eq s2.symm),fun b hb hn=>(k2 b (by omega)).trans (krb.block b hb hn)⟩ bo2 ⟨h1,h3,h4,h6,rfl,h5,rfl⟩
theorem none_five {b:Nat}(hD:Det Try.prog m fun _=>K)(hx:OD bx kb rb at' mo x)(h53:x 53=.bool false)(hc:w.cell? ⟨kb,0,none⟩=some (ptr b))(h:∀ x,OD bx kb rb at' mo x→K (gs (Frame.enter Try.prog 15 #[ptr b] .normal) (noC x::cs)) w):K (gs ((base 6).at ⟨fr x,[]⟩ [.code (sR (sL (sR (sR (sR (sR (sR (sR (sR (sR (sR c6))))))))))),.code (sR (sR (sR (sR (sR (sR (sR (sR (sR (sR c6))))))))))]) cs) w:=by
 have hk:(base 6).kind≠.early:=nofun;obtain⟨h1,h3,h4,h6,h7⟩:=hx;refine hD.cond (n:=0) false h53 rfl ?_;refine hD.k0 ?_;refine hD.s0 ?_;refine hD.r0 ?_;refine hD.load (n:=0) (v:=(ptr b)) (u:=(ptr kb)) hk rfl ⟨rfl,rfl,rfl,rfl,nofun⟩ h6 (fun τ d=>ld60 hc) ?_;refine nm rfl ?_;refine hD.cf #[ptr b] hk Try.func15 ?_;exact h _ ⟨h1,h3,h4,h6,h7⟩
theorem none_six {b:Nat}(hD:Det Try.prog m fun _=>K)(hx:OD bx kb rb at' mo x)(hc:w.cell? ⟨kb,0,none⟩=some (ptr b))(h:∀ x,OD bx kb rb at' mo x→K (gs (Frame.enter Try.prog 16 #[ptr b,.func (.func 21) #[] #[]] .normal) (noD x::cs)) w):K (gs ((noC x).finish (.tuple #[])) cs) w:=by
 have hk:(base 6).kind≠.early:=nofun;obtain⟨h1,h3,h4,h6,h7⟩:=hx;unfold noC;refine fin0 (some 55) ?_;refine nm rfl ?_;refine hD.e0 ?_;refine hD.s0 ?_;refine hD.r0 ?_;refine hD.load (n:=0) (v:=(ptr b)) (u:=(ptr kb)) hk rfl ⟨rfl,rfl,rfl,rfl,nofun⟩ h6 (fun τ d=>ld60 hc) ?_;refine nm rfl ?_;refine hD.cf #[ptr b,.func (.func 21) #[] #[]] hk Try.func16 ?_;exact h _ ⟨h1,h3,h4,h6,h7⟩
theorem none_seven (hD:Det Try.prog m fun _=>K)(hx:OD bx kb rb at' mo x)(h:∀ x,OD bx kb rb at' mo x→K (gs ((base 6).at ⟨fr x,[]⟩ [.code (sR (sR (sR (sR (sR (sR (sR (sR (sR (sR (sR (sR c6))))))))))))]) cs) w):K (gs ((noD x).finish (.tuple #[])) cs) w:=by
 have hk:(base 6).kind≠.early:=nofun;obtain⟨h1,h3,h4,h6,h7⟩:=hx;unfold noD;refine fin0 (some 57) ?_;refine nm rfl ?_;refine hD.e0 ?_;exact h _ ⟨h1,h3,h4,h6,h7⟩
theorem none_begin (hD:Det Try.prog m fun _=>K)(hx:OD bx kb rb at' mo x)(h65:x 65=.bool false)(c0:w.cell? ⟨bx,0,none⟩=some (.int .i64 bo))(hn:∀ w,(binOp .and 3 (.int .i64 bo) (.int .i64 15)).run Try.prog w=.ok (.int .i64 (n:Int)) w)(h:∀ nb w' x,nb=w.heap.size→Kp [] w w'→Blk w' nb [.int .i64 0] 3→OE bx rb nb n at' mo (.slice none 0 0) 0 x→K (gs ((base 6).at ⟨fr x,[]⟩ [.code (sR (sL (sR (sR (sR (sR (sR (sR (sR (sR (sR (sR (sR (sR (sR (sR (sR (sR c6)))))))))))))))))),.code (sR (sR (sR (sR (sR (sR (sR (sR (sR (sR (sR (sR (sR (sR (sR (sR (sR c6)))))))))))))))))]) cs) w'):K (gs ((base 6).at ⟨fr x,[]⟩ [.code (sR (sL (sR (sR (sR (sR (sR (sR (sR (sR (sR (sR (sR (sR c6)))))))))))))),.code (sR (sR (sR (sR (sR (sR (sR (sR (sR (sR (sR (sR (sR c6)))))))))))))]) cs) w:=by
 have hk:(base 6).kind≠.early:=nofun;obtain⟨h1,h3,h4,h6,h7⟩:=hx;refine hD.cond (n:=0) false h65 rfl ?_;refine hD.k0 ?_;refine hD.s0 ?_;refine hD.r0 ?_;refine hD.field (n:=0) (v:=(ptrAt bx 0)) (u:=(ptr bx)) hk rfl ⟨rfl,rfl,rfl,rfl,nofun⟩ h1 (fld59 (by omega)) ?_;refine nm rfl ?_;refine hD.ld (.int .i64 bo) hk (fun τ d=>ld3 c0) ?_;refine nm rfl ?_;refine hD.pu (.int .i64 (n:Int)) hk (fun w=>pu_and rfl rfl (hn _)) ?_;refine nm rfl ?_;refine hD.as (.int .i64 (n:Int)) hk ?_;refine nm rfl ?_;refine hD.e0 ?_;refine hD.s0 ?_;refine hD.r0 ?_;have knb:=Kp.alloc [] w (.cells #[.int .i64 0] 3);have bnb:Blk (w.alloc (.cells #[.int .i64 0] 3)) w.heap.size [.int .i64 0] 3:=Blk.new _ _ _;refine hD.alloc (n:=0) hk rfl ⟨rfl,rfl,rfl,(by decide +kernel),nofun⟩ al3 ?_;obtain⟨nb,hnb⟩:∃ x,x=w.heap.size:=⟨_,rfl⟩;rw[← hnb] at bnb ⊢;generalize w.alloc (.cells #[.int .i64 0] 3)=w1 at knb bnb ⊢;refine nm rfl ?_;refine hD.store (n:=0) (u:=(ptr nb)) (z:=(.int .i64 0)) hk rfl ⟨rfl,rfl,rfl,rfl,nofun⟩ rfl rfl (fun τ d=>((st3 (w:=re w1 τ d) (bnb.cell 0) (bnb.frozen 0)).trans (congrArg (Result.ok ()) re_setCell))) (Nat.le_of_eq (World.size_setCell _ _ _).symm) ?_;have bo2:Blk (w1.setCell ⟨nb,0,none⟩ (.int .i64 0)) nb [.int .i64 0] 3:=bnb.set 0 _;have k2:∀ b,b≠nb→(w1.setCell ⟨nb,0,none⟩ (.int .i64 0)).heap[b]?=w1.heap[b]?:=fun b hb=>setCell_frame hb;have s2:(w1.setCell ⟨nb,0,none⟩ (.int .i64 0)).heap.size=w1.heap.size:=World.size_setCell _ _ _;generalize w1.setCell ⟨nb,0,none⟩ (.int .i64 0)=w2 at bo2 k2 s2 ⊢;refine hD.e0 ?_;refine hD.s0 ?_;refine hD.r0 ?_;refine hD.as (.slice none 0 0) hk ?_;refine nm rfl ?_;refine hD.e0 ?_;refine hD.s0 ?_;refine hD.s0 ?_;refine hD.r0 ?_;refine hD.as (.int .i64 0) hk ?_;refine nm rfl ?_;refine hD.e0 ?_;exact h nb w2 _ hnb ⟨Nat.le_trans knb.size (Nat.le_of_eq s2.symm),fun b hb hn=>(k2 b (by omega)).trans (knb.block b hb hn)⟩ bo2 ⟨h1,h3,h4,h7,rfl,rfl,rfl,rfl⟩
theorem none_picks {i:Nat}(hD:Det Try.prog m fun _=>K)(hx:OE bx rb nb n at' mo vl i x)(c3:w.cell? ⟨bx,3,none⟩=some (.int .i64 pi))(hl:∀ w,(binOp .and 3 (.int .i64 pi) (.int .i64 131071)).run Try.prog w=.ok (.int .i64 (long:Int)) w)(h:∀ x,OF rb nb n long at' mo vl 0 x→K (gs ((base 6).at ⟨fr x,[]⟩ [.code (sR (sR (sR (sR (sR (sR (sR (sR (sR (sR (sR (sR (sR (sR (sR (sR (sR (sR (sR c6)))))))))))))))))))]) cs) w):K (gs ((base 6).at ⟨fr x,[]⟩ [.code (sR (sR (sR (sR (sR (sR (sR (sR (sR (sR (sR (sR (sR (sR (sR (sR (sR c6)))))))))))))))))]) cs) w:=by
 have hk:(base 6).kind≠.early:=nofun;obtain⟨h1,h3,h4,h7,h9,h10,h11,h12⟩:=hx;refine hD.s0 ?_;refine hD.r0 ?_;refine hD.field (n:=0) (v:=(ptrAt bx 3)) (u:=(ptr bx)) hk rfl ⟨rfl,rfl,rfl,rfl,nofun⟩ h1 (fld59 (by omega)) ?_;refine nm rfl ?_;refine hD.ld (.int .i64 pi) hk (fun τ d=>ld3 c3) ?_;refine nm rfl ?_;refine hD.pu (.int .i64 (long:Int)) hk (fun w=>pu_and rfl rfl (hl _)) ?_;refine nm rfl ?_;refine hD.as (.int .i64 (long:Int)) hk ?_;refine nm rfl ?_;refine hD.e0 ?_;refine hD.s0 ?_;refine hD.r0 ?_;refine hD.as (.int .i64 0) hk ?_;refine nm rfl ?_;refine hD.e0 ?_;exact h _ ⟨h3,h4,h7,h9,h10,h11,rfl,rfl⟩
theorem none_call (hD:Det Try.prog m fun _=>K)(hx:OF rb nb n long at' mo vl want x)(hll:long≤131071)(h:∀ pb w' x,pb=w.heap.size→Kp [] w w'→Blk w' pb (List.replicate long (Value.int .u8 0)) 5→OF rb nb n long at' mo vl want x→K (gs (Frame.enter Try.prog 14 #[vl,.slice (some ⟨pb,0,none⟩) long long,.int .i64 mo] .normal) (noRun2 x::cs)) w'):K (gs ((base 6).at ⟨fr x,[]⟩ [.code (sR (sR (sR (sR (sR (sR (sR (sR (sR (sR (sR (sR (sR (sR (sR (sR (sR (sR (sR (sR c6))))))))))))))))))))]) cs) w:=by
 have hk:(base 6).kind≠.early:=nofun;obtain⟨h3,h4,h7,h9,h10,h11,h13,h14⟩:=hx;refine hD.s0 ?_;refine hD.r0 ?_;refine hD.move (n:=0) (v:=(vl)) hk rfl ⟨rfl,rfl,rfl,rfl,nofun⟩ h11 ?_;refine nm rfl ?_;refine hD.move (n:=0) (v:=(.int .i64 (long:Int))) hk rfl ⟨rfl,rfl,rfl,rfl,nofun⟩ h13 ?_;refine nm rfl ?_;have kpb:=Kp.alloc [] w (.cells (List.replicate long (Value.int .u8 0)).toArray 5);have bpb:Blk (w.alloc (.cells (List.replicate long (Value.int .u8 0)).toArray 5)) w.heap.size (List.replicate long (Value.int .u8 0)) 5:=Blk.new _ _ _;refine hD.opv (n:=0) (w':=w.alloc (.cells (List.replicate long (Value.int .u8 0)).toArray 5)) (v:=(.slice (some ⟨w.heap.size,0,none⟩) long long)) hk rfl ⟨rfl,rfl,rfl,(by decide +kernel),nofun⟩ (fun τ d=>x_mk23 rfl rfl rfl hll) (by rw[wz'];omega) ?_;obtain⟨pb,hpb⟩:∃ x,x=w.heap.size:=⟨_,rfl⟩;rw[← hpb] at bpb ⊢;generalize w.alloc (.cells (List.replicate long (Value.int .u8 0)).toArray 5)=w1 at kpb bpb ⊢;refine nm rfl ?_;refine hD.move (n:=0) (v:=(.int .i64 mo)) hk rfl ⟨rfl,rfl,rfl,rfl,nofun⟩ h4 ?_;refine nm rfl ?_;refine hD.cf #[vl,.slice (some ⟨pb,0,none⟩) long long,.int .i64 mo] hk Try.func14 ?_;exact h pb w1 _ hpb kpb bpb ⟨h3,h4,h7,h9,h10,h11,h13,h14⟩
theorem none_ran {ga ge:Option Addr}{na ca ne ce:Nat}{u e:Int}{y0 y1 y2:Value}(hD:Det Try.prog m fun _=>K)(hx:OF rb nb n long at' mo vl want x)(brb:Blk w rb [y0,y1,y2] 30)(h:∀ w' x,Kp [rb] w w'→Blk w' rb [.slice ga na ca,.slice ge ne ce,.int .i64 u] 30→x 4=.int .i64 mo∧x 7=ptr rb∧x 8=.int .i64 e∧x 9=.int .i64 (n:Int)∧x 10=ptr nb∧x 14=.int .i64 want∧x 121=.bool (decide (e≠want))→K (gs ((base 6).at ⟨fr x,[]⟩ [.code (sR (sL (sR (sR (sR (sR (sR (sR (sR (sR (sR (sR (sR (sR (sR (sR (sR (sR (sR (sR (sR (sR (sR c6))))))))))))))))))))))),.code (sR (sR (sR (sR (sR (sR (sR (sR (sR (sR (sR (sR (sR (sR (sR (sR (sR (sR (sR (sR (sR (sR c6))))))))))))))))))))))]) cs) w'):K (gs ((noRun2 x).finish (.tuple #[.agg #[.slice ga na ca,.slice ge ne ce,.int .i64 u],.int .i64 e])) cs) w:=by
 have hk:(base 6).kind≠.early:=nofun;obtain⟨h3,h4,h7,h9,h10,h11,h13,h14⟩:=hx;unfold noRun2;refine fin0 (some 116) ?_;refine nm rfl ?_;refine hD.mv (.tuple #[.agg #[.slice ga na ca,.slice ge ne ce,.int .i64 u],.int .i64 e]) hk ?_;refine nm rfl ?_;refine hD.pu (.agg #[.slice ga na ca,.slice ge ne ce,.int .i64 u]) hk (fun w=>pu_ext rfl rfl rfl) ?_;refine nm rfl ?_;refine hD.pu (.int .i64 e) hk (fun w=>pu_ext rfl rfl rfl) ?_;refine nm rfl ?_;refine hD.store (n:=0) (u:=(ptr rb)) (z:=(.agg #[.slice ga na ca,.slice ge ne ce,.int .i64 u])) hk rfl ⟨rfl,rfl,rfl,rfl,nofun⟩ h7 rfl (fun τ d=>((st30 (w:=re w τ d) brb).trans (congrArg (Result.ok ()) re_set3))) (Nat.le_of_eq set3_size.symm) ?_;have bo2:Blk (set3 w rb (.slice ga na ca) (.slice ge ne ce) (.int .i64 u)) rb _ 30:=set3_blk brb;have k2:∀ b,b≠rb→(set3 w rb (.slice ga na ca) (.slice ge ne ce) (.int .i64 u)).heap[b]?=w.heap[b]?:=fun b hb=>set3_frame hb;have s2:(set3 w rb (.slice ga na ca) (.slice ge ne ce) (.int .i64 u)).heap.size=w.heap.size:=set3_size;generalize set3 w rb (.slice ga na ca) (.slice ge ne ce) (.int .i64 u)=w2 at bo2 k2 s2 ⊢;refine hD.as (.int .i64 e) hk ?_;refine nm rfl ?_;refine hD.e0 ?_;refine hD.s0 ?_;refine hD.s0 ?_;refine hD.r0 ?_;refine hD.mv (.int .i64 e) hk ?_;refine nm rfl ?_;refine hD.move (n:=0) (v:=(.int .i64 want)) hk rfl ⟨rfl,rfl,rfl,rfl,nofun⟩ h14 ?_;refine nm rfl ?_;refine hD.pu (.bool (decide (e≠want))) hk (fun w=>pu_neW rfl rfl rfl) ?_;refine nm rfl ?_;refine hD.e0 ?_;exact h w2 _ ⟨Nat.le_of_eq s2.symm,fun b hb hn=>k2 b (by simpa using hn)⟩ bo2 ⟨h4,h7,rfl,h9,h10,h14,rfl⟩
end
def oQ (Pr:(Nat→Value)→Prop)(w:World)(t:Array Value)(w':World):Prop:=∃ x,t=fr x∧Pr x∧Kp [] w w'
theorem oQ_mk {Pr:(Nat→Value)→Prop}{w w':World}{t:Array Value}(hs:t.size=162)(h:Pr fun q=>t.getD q undef)(k:Keeps [] w w'):oQ Pr w t w':=⟨_,t_fr hs,h,Keeps.kp k⟩
theorem oQ_re {Pr:(Nat→Value)→Prop}{w w':World}{t:Array Value}(h:oQ Pr w t w')(τ:Nat→Question→Nat)(d:Nat):oQ Pr w t (re w' τ d):=let ⟨x,h1,h2,h3⟩:=h;⟨x,h1,h2,⟨h3.size,h3.block⟩⟩
theorem oQ_un {Pr:(Nat→Value)→Prop}{w w':World}{t:Array Value}{τ:Nat→Question→Nat}{d:Nat}(h:oQ Pr (re w τ d) t w'):oQ Pr w t w':=let ⟨x,h1,h2,h3⟩:=h;⟨x,h1,h2,⟨h3.size,h3.block⟩⟩
def vsN (nb n:Nat)(at':Int):List Value:=(List.range n).map fun(i:Nat)=>if (i:Int)=at' then Value.nilFunc else .func (.func 22) #[] #[ptr nb]
theorem vsN_len (nb n:Nat)(at':Int):(vsN nb n at').length=n:=by simp[vsN]
theorem vsN_nil {nb n:Nat}{at':Int}(h:(n:Int)=at'):vsN nb n at'++[.nilFunc]=vsN nb (n+1) at':=by
 unfold vsN;rw[List.range_succ,List.map_append,List.map_singleton,if_pos h]
theorem vsN_fun {nb n:Nat}{at':Int}(h:¬ (n:Int)=at'):vsN nb n at'++[.func (.func 22) #[] #[ptr nb]]=vsN nb (n+1) at':=by
 unfold vsN;rw[List.range_succ,List.map_append,List.map_singleton,if_neg h]
def wantN (n long:Nat)(at' mo:Int):Int:=if n=0∨8<n∨(0≤at'∧at'<n)∨mo<0 then 2 else if 65536<long then 4 else if mo<n then 81 else 0
theorem oc1_wp (w:World)(bx kb rb b:Nat)(at' mo:Int)(x:Nat→Value)(g:Option Addr)(ca:Nat)(hx:x 1=ptr bx∧x 3=.int .i64 at'∧x 4=.int .i64 mo∧x 6=ptr kb∧x 7=ptr rb∧x 5=.pointer none∧x 8=.int .i64 0)(c0:w.cell? ⟨rb,0,none⟩=some (.slice g 2 ca))(c1:w.cell? ⟨kb,0,none⟩=some (ptr b)) :
  (sL (sL (sR (sR (sR (sR (sR (sR (sR (sR (sR c6))))))))))).wp Try.prog (fun e a' w'=>e=.normal∧a'.defers=[]∧(oQ (fun x=>OD bx kb rb at' mo x∧x 53=.bool false) w) a'.tmps w') ⟨fr x,[]⟩ w:=by
 obtain⟨h1,h3,h4,h6,h7,h5,h8⟩:=hx;have HQ:Hid (∀ (t:Array Value) (w':World),oQ (fun x=>OD bx kb rb at' mo x∧x 53=.bool false) w t w'→oQ (fun x=>OD bx kb rb at' mo x∧x 53=.bool false) w t w'):=Lib.hid fun _ _ h=>h;generalize hG:oQ (fun x=>OD bx kb rb at' mo x∧x 53=.bool false) w=G at HQ ⊢;have HG:=Lib.hid hG;clear hG;simp only[c6,Try.f6,Option.getD_some,sL,sR,sB,sT,sF,fr,h1,h3,h4,h5,h6,h7,h8]
 go_wp2_with (first
  | (go_at_call 19;refine(thread_nil _).mono ?_;rintro e w' ⟨rfl,rfl⟩)
  | (go_at_call 20;refine(act_nil _).mono ?_;rintro e w' ⟨rfl,rfl⟩))
 refine HQ.out _ _ ?_;rw[← HG.out];exact oQ_mk rfl ⟨⟨rfl,rfl,rfl,rfl,rfl⟩,rfl⟩ (Keeps.refl _ _)
theorem oc2_wp (w:World)(bx kb rb b:Nat)(at' mo:Int)(x:Nat→Value)(hx:OD bx kb rb at' mo x)(c1:w.cell? ⟨kb,0,none⟩=some (ptr b))(hi:Calls Try.prog 34 #[ptr b] w fun e w2=>e=.returned (.bool true)∧w2=w) :
  (sL (sL (sR (sR (sR (sR (sR (sR (sR (sR (sR (sR (sR (sR c6)))))))))))))).wp Try.prog (fun e a' w'=>e=.normal∧a'.defers=[]∧(oQ (fun x=>OD bx kb rb at' mo x∧x 65=.bool false) w) a'.tmps w') ⟨fr x,[]⟩ w:=by
 obtain⟨h1,h3,h4,h6,h7⟩:=hx;have HT:=Lib.hid (thread_over w (ptr b) hi);have HA:=Lib.hid (act_over w (ptr b) hi);clear hi;have HQ:Hid (∀ (t:Array Value) (w':World),oQ (fun x=>OD bx kb rb at' mo x∧x 65=.bool false) w t w'→oQ (fun x=>OD bx kb rb at' mo x∧x 65=.bool false) w t w'):=Lib.hid fun _ _ h=>h;generalize hG:oQ (fun x=>OD bx kb rb at' mo x∧x 65=.bool false) w=G at HQ ⊢;have HG:=Lib.hid hG;clear hG;simp only[c6,Try.f6,Option.getD_some,sL,sR,sB,sT,sF,fr,h1,h3,h4,h6,h7]
 go_wp2_with (first
  | (go_at_call 19;refine(HT.out).mono ?_;rintro e w' ⟨rfl,rfl⟩)
  | (go_at_call 20;refine(HA.out).mono ?_;rintro e w' ⟨rfl,rfl⟩))
 refine HQ.out _ _ ?_;rw[← HG.out];exact oQ_mk rfl ⟨⟨rfl,rfl,rfl,rfl,rfl⟩,rfl⟩ (Keeps.refl _ _)
def oc3Q (bx rb nb n:Nat)(at' mo:Int)(w:World)(t:Array Value)(w':World):Prop:=∃ x v,t=fr x∧OE bx rb nb n at' mo v n x∧RepF w' v (vsN nb n at')∧Kp [] w w'
theorem oc3_mk {bx rb nb n:Nat}{at' mo:Int}{v:Value}{w w':World}{t:Array Value}(hs:t.size=162)(h:OE bx rb nb n at' mo v n fun q=>t.getD q undef)(r:RepF w' v (vsN nb n at'))(k:Keeps [] w w'):oc3Q bx rb nb n at' mo w t w':=⟨_,v,t_fr hs,h,r,Keeps.kp k⟩
theorem oc3_wp (w:World)(bx rb nb n:Nat)(at' mo:Int)(x:Nat→Value)(hx:OE bx rb nb n at' mo (.slice none 0 0) 0 x)(hn:n≤15) :
  (sR (sL (sR (sR (sR (sR (sR (sR (sR (sR (sR (sR (sR (sR (sR (sR (sR (sR c6)))))))))))))))))).wp Try.prog (fun e a' w'=>e=.normal∧a'.defers=[]∧oc3Q bx rb nb n at' mo w a'.tmps w') ⟨fr x,[]⟩ w:=by
 obtain⟨h1,h3,h4,h7,h9,h10,h11,h12⟩:=hx;have HQ:Hid (∀ (t:Array Value) (w':World),oc3Q bx rb nb n at' mo w t w'→oc3Q bx rb nb n at' mo w t w'):=Lib.hid fun _ _ h=>h;generalize hG:oc3Q bx rb nb n at' mo w=G at HQ ⊢;have HG:=Lib.hid hG;clear hG;simp only[c6,Try.f6,Option.getD_some,sL,sR,sB,sT,sF,fr,h1,h3,h4,h7,h9,h10,h11,h12]
 go_wp2
 go_loopw [11,12] (fun lv kv wr=>∃ k:Nat,k≤n∧kv=.int .i64 k∧RepF wr lv (vsN nb k at')∧(∀ b∈fp lv,w.heap.size≤b)∧Keeps [] w wr) (fun _ kv _=>n-(intOf kv).toNat)
 case atStart=>exact⟨0,by omega,rfl,Rep.nil,by simp[fp,Value.ownBlock],Keeps.refl _ _⟩
 case round =>
  obtain⟨k,hk,rfl,hrep,hfr,hkp⟩:=hrel;have hfm:=hrep.form;rw[vsN_len] at hfm;obtain⟨gl,cl,rfl,_⟩:=hfm;have HR:=Lib.hid (fun(W:World) (q:Keeps [] wr W)=>hrep.keeps q (by simp));have HF:=Lib.hid hfr;have HK:=Lib.hid hkp;have hsz:=hkp.size;clear hrep hfr hkp;by_cases hlt:k<n
  ·by_cases hat:(k:Int)=at'
   ·go_wp2_with ((refine wpList_rep_append rfl (.tmp 77) (.tmp 78) 50 rfl .nilFunc 8 Try.underlying50 info54 rfl (by decide) (.slice gl k cl) (vsN nb k at') rfl (HR.out _ ((Keeps.refl _ _).alloc _)) (fun _=>rfl) ⟨wr.heap.size,0,none⟩ 1 1 [.nilFunc] rfl rfl (cell_one_new _ _ _) (by simp[Value.oneCell']) (by decide) (by rw[vsN_len];unfold maxLen;omega) (by rw[vsN_len];omega) ?_;rw[vsN_len];intro g2 cap2 w2 r2 k2 a2 lg q2;have R2:=Lib.hid r2;have K2:=Lib.hid k2;have A2:=Lib.hid a2;clear r2 k2 a2))
    go_roundw
    case rel =>
     obtain⟨p1,p2⟩:=lent_rel (m:=k+1) (cap2:=cap2) (HK.out.alloc _) HF.out K2.out A2.out;have r:=R2.out;rw[vsN_nil hat] at r;exact⟨k+1,by omega,by go_num,r,p2,p1⟩
    case measure=>simp[intOf];omega
   ·go_wp2_with ((refine wpList_rep_append rfl (.tmp 80) (.tmp 82) 50 rfl .nilFunc 8 Try.underlying50 info54 rfl (by decide) (.slice gl k cl) (vsN nb k at') rfl (HR.out _ ((Keeps.refl _ _).alloc _)) (fun _=>rfl) ⟨wr.heap.size,0,none⟩ 1 1 [.func (.func 22) #[] #[ptr nb]] rfl rfl (cell_one_new _ _ _) (by simp[Value.oneCell']) (by decide) (by rw[vsN_len];unfold maxLen;omega) (by rw[vsN_len];omega) ?_;rw[vsN_len];intro g2 cap2 w2 r2 k2 a2 lg q2;have R2:=Lib.hid r2;have K2:=Lib.hid k2;have A2:=Lib.hid a2;clear r2 k2 a2))
    go_roundw
    case rel =>
     obtain⟨p1,p2⟩:=lent_rel (m:=k+1) (cap2:=cap2) (HK.out.alloc _) HF.out K2.out A2.out;have r:=R2.out;rw[vsN_fun hat] at r;exact⟨k+1,by omega,by go_num,r,p2,p1⟩
    case measure=>simp[intOf];omega
  ·obtain rfl:k=n:=by omega
   go_wp2
   refine HQ.out _ _ ?_;rw[← HG.out];exact oc3_mk rfl ⟨rfl,rfl,rfl,rfl,rfl,rfl,rfl,rfl⟩ (HR.out _ (Keeps.refl _ _)) HK.out
theorem oc4_wp (w:World)(rb nb n long:Nat)(at' mo:Int)(vl:Value)(x:Nat→Value)(hx:OF rb nb n long at' mo vl 0 x) :
  (sL (sR (sR (sR (sR (sR (sR (sR (sR (sR (sR (sR (sR (sR (sR (sR (sR (sR (sR (sR c6)))))))))))))))))))).wp Try.prog (fun e a' w'=>e=.normal∧a'.defers=[]∧(oQ (fun x=>OF rb nb n long at' mo vl (wantN n long at' mo) x) w) a'.tmps w') ⟨fr x,[]⟩ w:=by
 obtain⟨h3,h4,h7,h9,h10,h11,h13,h14⟩:=hx;have HQ:Hid (∀ (t:Array Value) (w':World),oQ (fun x=>OF rb nb n long at' mo vl (wantN n long at' mo) x) w t w'→oQ (fun x=>OF rb nb n long at' mo vl (wantN n long at' mo) x) w t w'):=Lib.hid fun _ _ h=>h;generalize hG:oQ (fun x=>OF rb nb n long at' mo vl (wantN n long at' mo) x) w=G at HQ ⊢;have HG:=Lib.hid hG;clear hG;simp only[c6,Try.f6,Option.getD_some,sL,sR,sB,sT,sF,fr,h3,h4,h7,h9,h10,h11,h13,h14];by_cases q1:n=0
 ·subst q1
  have HW:Hid (wantN 0 long at' mo=2):=Lib.hid (by unfold wantN;rw[if_pos (.inl rfl)])
  go_wp2
  all_goals first
   | (exfalso;omega)
   | (refine HQ.out _ _ ?_;rw[← HG.out];exact oQ_mk rfl ⟨rfl,rfl,rfl,rfl,rfl,rfl,rfl,congrArg (Value.int .i64) HW.out.symm⟩ (Keeps.refl _ _))
 have q1':((n:Int)==0)=false:=by simpa using q1
 by_cases q2:8<n
 ·have HW:Hid (wantN n long at' mo=2):=Lib.hid (by unfold wantN;rw[if_pos (by omega)])
  go_wp2
  all_goals first
   | (exfalso;omega)
   | (refine HQ.out _ _ ?_;rw[← HG.out];exact oQ_mk rfl ⟨rfl,rfl,rfl,rfl,rfl,rfl,rfl,congrArg (Value.int .i64) HW.out.symm⟩ (Keeps.refl _ _))
 by_cases q3:0≤at'
 ·by_cases q4:at'<n
  ·have HW:Hid (wantN n long at' mo=2):=Lib.hid (by unfold wantN;rw[if_pos (by omega)])
   go_wp2
   all_goals first
    | (exfalso;omega)
    | (refine HQ.out _ _ ?_;rw[← HG.out];exact oQ_mk rfl ⟨rfl,rfl,rfl,rfl,rfl,rfl,rfl,congrArg (Value.int .i64) HW.out.symm⟩ (Keeps.refl _ _))
  by_cases q5:mo<0
  ·have HW:Hid (wantN n long at' mo=2):=Lib.hid (by unfold wantN;rw[if_pos (by omega)])
   go_wp2
   all_goals first
    | (exfalso;omega)
    | (refine HQ.out _ _ ?_;rw[← HG.out];exact oQ_mk rfl ⟨rfl,rfl,rfl,rfl,rfl,rfl,rfl,congrArg (Value.int .i64) HW.out.symm⟩ (Keeps.refl _ _))
  have q5':¬ (mo<0):=q5;by_cases q6:65536<long
  ·have HW:Hid (wantN n long at' mo=4):=Lib.hid (by unfold wantN;rw[if_neg (by omega),if_pos (by omega)])
   go_wp2
   all_goals first
    | (exfalso;omega)
    | (refine HQ.out _ _ ?_;rw[← HG.out];exact oQ_mk rfl ⟨rfl,rfl,rfl,rfl,rfl,rfl,rfl,congrArg (Value.int .i64) HW.out.symm⟩ (Keeps.refl _ _))
  by_cases q7:mo<n
  ·have HW:Hid (wantN n long at' mo=81):=Lib.hid (by unfold wantN;rw[if_neg (by omega),if_neg (by omega),if_pos (by omega)])
   go_wp2
   all_goals first
    | (exfalso;omega)
    | (refine HQ.out _ _ ?_;rw[← HG.out];exact oQ_mk rfl ⟨rfl,rfl,rfl,rfl,rfl,rfl,rfl,congrArg (Value.int .i64) HW.out.symm⟩ (Keeps.refl _ _))
  have HW:Hid (wantN n long at' mo=0):=Lib.hid (by unfold wantN;rw[if_neg (by omega),if_neg (by omega),if_neg (by omega)])
  go_wp2
  all_goals first
   | (exfalso;omega)
   | (refine HQ.out _ _ ?_;rw[← HG.out];exact oQ_mk rfl ⟨rfl,rfl,rfl,rfl,rfl,rfl,rfl,congrArg (Value.int .i64) HW.out.symm⟩ (Keeps.refl _ _))
 by_cases q5:mo<0
 ·have HW:Hid (wantN n long at' mo=2):=Lib.hid (by unfold wantN;rw[if_pos (by omega)])
  go_wp2
  all_goals first
   | (exfalso;omega)
   | (refine HQ.out _ _ ?_;rw[← HG.out];exact oQ_mk rfl ⟨rfl,rfl,rfl,rfl,rfl,rfl,rfl,congrArg (Value.int .i64) HW.out.symm⟩ (Keeps.refl _ _))
 have q5':¬ (mo<0):=q5;by_cases q6:65536<long
 ·have HW:Hid (wantN n long at' mo=4):=Lib.hid (by unfold wantN;rw[if_neg (by omega),if_pos (by omega)])
  go_wp2
  all_goals first
   | (exfalso;omega)
   | (refine HQ.out _ _ ?_;rw[← HG.out];exact oQ_mk rfl ⟨rfl,rfl,rfl,rfl,rfl,rfl,rfl,congrArg (Value.int .i64) HW.out.symm⟩ (Keeps.refl _ _))
 by_cases q7:mo<n
 ·have HW:Hid (wantN n long at' mo=81):=Lib.hid (by unfold wantN;rw[if_neg (by omega),if_neg (by omega),if_pos (by omega)])
  go_wp2
  all_goals first
   | (exfalso;omega)
   | (refine HQ.out _ _ ?_;rw[← HG.out];exact oQ_mk rfl ⟨rfl,rfl,rfl,rfl,rfl,rfl,rfl,congrArg (Value.int .i64) HW.out.symm⟩ (Keeps.refl _ _))
 have HW:Hid (wantN n long at' mo=0):=Lib.hid (by unfold wantN;rw[if_neg (by omega),if_neg (by omega),if_neg (by omega)])
 go_wp2
 all_goals first
  | (exfalso;omega)
  | (refine HQ.out _ _ ?_;rw[← HG.out];exact oQ_mk rfl ⟨rfl,rfl,rfl,rfl,rfl,rfl,rfl,congrArg (Value.int .i64) HW.out.symm⟩ (Keeps.refl _ _))
theorem oc5_wp (w:World)(rb nb n:Nat)(mo ec want:Int)(x:Nat→Value)(hx:OG rb nb n mo ec want x) :
  (sL (sL (sR (sR (sR (sR (sR (sR (sR (sR (sR (sR (sR (sR (sR (sR (sR (sR (sR (sR (sR (sR (sR (sR c6)))))))))))))))))))))))).wp Try.prog (fun e a' w'=>e=.normal∧a'.defers=[]∧(oQ (fun x=>OG rb nb n mo ec want x∧x 127=.bool (decide (want=2)||decide (want=4))) w) a'.tmps w') ⟨fr x,[]⟩ w:=by
 obtain⟨h4,h7,h8,h9,h10,h14⟩:=hx;have HQ:Hid (∀ (t:Array Value) (w':World),oQ (fun x=>OG rb nb n mo ec want x∧x 127=.bool (decide (want=2)||decide (want=4))) w t w'→oQ (fun x=>OG rb nb n mo ec want x∧x 127=.bool (decide (want=2)||decide (want=4))) w t w'):=Lib.hid fun _ _ h=>h;generalize hG:oQ (fun x=>OG rb nb n mo ec want x∧x 127=.bool (decide (want=2)||decide (want=4))) w=G at HQ ⊢;have HG:=Lib.hid hG;clear hG;simp only[c6,Try.f6,Option.getD_some,sL,sR,sB,sT,sF,fr,h4,h7,h8,h9,h10,h14];by_cases q1:want=2
 ·subst q1
  go_wp2
  refine HQ.out _ _ ?_;rw[← HG.out];exact oQ_mk rfl ⟨⟨rfl,rfl,rfl,rfl,rfl,rfl⟩,rfl⟩ (Keeps.refl _ _)
 by_cases q2:want=4
 ·subst q2
  go_wp2
  refine HQ.out _ _ ?_;rw[← HG.out];exact oQ_mk rfl ⟨⟨rfl,rfl,rfl,rfl,rfl,rfl⟩,rfl⟩ (Keeps.refl _ _)
 have e1:(want==2)=false:=by simpa using q1
 have e2:(want==4)=false:=by simpa using q2
 go_wp2
 refine HQ.out _ _ ?_;rw[← HG.out];exact oQ_mk rfl ⟨⟨rfl,rfl,rfl,rfl,rfl,rfl⟩,by simp only[decide_eq_false q1,decide_eq_false q2];first | rfl | (show Value.bool (want==4)=_;rw[e2];rfl)⟩ (Keeps.refl _ _)
theorem oc6_wp (w:World)(rb nb n:Nat)(mo e want:Int)(x:Nat→Value)(g ge:Option Addr)(ca ce:Nat)(hx:OG rb nb n mo e want x)(hr:Cel w rb [.slice g 0 ca,.slice ge 0 ce,.int .i64 0] 30)(hn:w.cell? ⟨nb,0,none⟩=some (.int .i64 0)) :
  (sL (sT (sR (sL (sR (sR (sR (sR (sR (sR (sR (sR (sR (sR (sR (sR (sR (sR (sR (sR (sR (sR (sR (sR (sR (sR c6)))))))))))))))))))))))))).wp Try.prog (fun e a' w'=>e=.normal∧a'.defers=[]∧(oQ (fun x=>x 2=.bool true) w) a'.tmps w') ⟨fr x,[]⟩ w:=by
 obtain⟨h4,h7,h8,h9,h10,h14⟩:=hx;have c0:w.cell? ⟨rb,0,none⟩=some (.slice g 0 ca):=hr.cell 0;have c1:w.cell? ⟨rb,1,none⟩=some (.slice ge 0 ce):=hr.cell 1;have c2:w.cell? ⟨rb,2,none⟩=some (.int .i64 0):=hr.cell 2;clear hr;have HQ:Hid (∀ (t:Array Value) (w':World),oQ (fun x=>x 2=.bool true) w t w'→oQ (fun x=>x 2=.bool true) w t w'):=Lib.hid fun _ _ h=>h;generalize hG:oQ (fun x=>x 2=.bool true) w=G at HQ ⊢;have HG:=Lib.hid hG;clear hG;simp only[c6,Try.f6,Option.getD_some,sL,sR,sB,sT,sF,fr,h4,h7,h8,h9,h10,h14]
 go_wp2
 refine HQ.out _ _ ?_;rw[← HG.out];exact oQ_mk rfl rfl (Keeps.refl _ _)
theorem oc7_wp (w:World)(rb nb n:Nat)(mo:Int)(x:Nat→Value)(h4:x 4=.int .i64 mo)(h7:x 7=ptr rb)(h9:x 9=.int .i64 (n:Int))(h10:x 10=ptr nb)(h15:x 15=.int .i64 (n:Int)) :
  (sL (sR (sR (sR (sR (sR (sR (sR (sR (sR (sR (sR (sR (sR (sR (sR (sR (sR (sR (sR (sR (sR (sR (sR (sR c6))))))))))))))))))))))))).wp Try.prog (fun e a' w'=>e=.normal∧a'.defers=[]∧(oQ (fun x=>x 7=ptr rb∧x 10=ptr nb∧x 15=.int .i64 (if mo<n then mo else n)) w) a'.tmps w') ⟨fr x,[]⟩ w:=by
 have HQ:Hid (∀ (t:Array Value) (w':World),oQ (fun x=>x 7=ptr rb∧x 10=ptr nb∧x 15=.int .i64 (if mo<n then mo else n)) w t w'→oQ (fun x=>x 7=ptr rb∧x 10=ptr nb∧x 15=.int .i64 (if mo<n then mo else n)) w t w'):=Lib.hid fun _ _ h=>h;generalize hG:oQ (fun x=>x 7=ptr rb∧x 10=ptr nb∧x 15=.int .i64 (if mo<n then mo else n)) w=G at HQ ⊢;have HG:=Lib.hid hG;clear hG;simp only[c6,Try.f6,Option.getD_some,sL,sR,sB,sT,sF,fr,h4,h7,h9,h10,h15];by_cases q1:mo<n
 ·go_wp2
  refine HQ.out _ _ ?_;rw[← HG.out];exact oQ_mk rfl ⟨rfl,rfl,by rw[if_pos q1];rfl⟩ (Keeps.refl _ _)
 go_wp2
 refine HQ.out _ _ ?_;rw[← HG.out];exact oQ_mk rfl ⟨rfl,rfl,by rw[if_neg (by omega)];rfl⟩ (Keeps.refl _ _)
theorem oc8_wp (w:World)(rb nb d:Nat)(x:Nat→Value)(g:Option Addr)(ca:Nat)(h7:x 7=ptr rb)(h10:x 10=ptr nb)(h15:x 15=.int .i64 (d:Int))(c0:w.cell? ⟨rb,0,none⟩=some (.slice g d ca))(hn:w.cell? ⟨nb,0,none⟩=some (.int .i64 (d:Int))) :
  (sL (sR (sR (sR (sR (sR (sR (sR (sR (sR (sR (sR (sR (sR (sR (sR (sR (sR (sR (sR (sR (sR (sR (sR (sR (sR c6)))))))))))))))))))))))))).wp Try.prog (fun e a' w'=>e=.normal∧a'.defers=[]∧(oQ (fun x=>x 2=.bool true) w) a'.tmps w') ⟨fr x,[]⟩ w:=by
 have HQ:Hid (∀ (t:Array Value) (w':World),oQ (fun x=>x 2=.bool true) w t w'→oQ (fun x=>x 2=.bool true) w t w'):=Lib.hid fun _ _ h=>h;generalize hG:oQ (fun x=>x 2=.bool true) w=G at HQ ⊢;have HG:=Lib.hid hG;clear hG;simp only[c6,Try.f6,Option.getD_some,sL,sR,sB,sT,sF,fr,h7,h10,h15]
 go_wp2
 refine HQ.out _ _ ?_;rw[← HG.out];exact oQ_mk rfl rfl (Keeps.refl _ _)
theorem arr_one {x y:Value}{args cp:Array Value}(h:x::cp.toList=args.toList)(hc:cp=#[y]):args=#[x,y]:=by
 subst hc;exact Array.ext' h.symm
def k18 (u:Array Value):Frame:=(base 18).at ⟨u,[]⟩ [.inRegion (sO (sR c18)) [1]]
theorem enter18 {x y:Value}:Frame.enter Try.prog 18 #[x,y] .normal=(base 18).at ⟨#[x,y,uu,uu,uu,uu],[]⟩ [.code c18]:=enter_lit Try.func18 rfl rfl
theorem enter22 {x y:Value}:Frame.enter Try.prog 22 #[x,y] .normal=(base 22).at ⟨#[x,y,uu,uu,uu],[]⟩ [.code c22]:=enter_lit Try.func22 rfl rfl
section
variable {m:Bool}{K:Goroutine→World→Prop}{w:World}{cs:List Frame}{b kb nb:Nat}{cl:Frame}
theorem k18_to {v0:Value}(hD:Det Try.prog m fun _=>K)(hb:Blk w kb [v0] 60)(h:∀ u,K (gs (Frame.enter Try.prog 15 #[ptr b] .normal) (k18 u::cs)) (w.setCell ⟨kb,0,none⟩ (ptr b))):K (gs (Frame.enter Try.prog 18 #[ptr b,ptr kb] .normal) cs) w:=by
 rw[enter18];have hk:(base 18).kind≠.early:=nofun;refine hD.s0 ?_;refine hD.r0 ?_;refine hD.mv (ptr b) hk ?_;refine norm0 (a':=⟨#[ptr b,ptr kb,uu,ptr b,uu,uu],[]⟩) ?_;refine hD.store (n:=0) (u:=(ptr kb)) (z:=(ptr b)) hk rfl ⟨rfl,rfl,rfl,rfl,nofun⟩ rfl rfl (fun τ d=>((st60 (w:=re w τ d) (hb.cell 0) (hb.frozen 0)).trans (congrArg (Result.ok ()) re_setCell))) (Nat.le_of_eq (World.size_setCell _ _ _).symm) ?_;refine norm0 (a':=⟨#[ptr b,ptr kb,uu,ptr b,uu,uu],[]⟩) ?_;refine hD.e0 ?_;refine hD.r0 ?_;refine hD.mv (ptr b) hk ?_;refine norm0 (a':=⟨#[ptr b,ptr kb,uu,ptr b,ptr b,uu],[]⟩) ?_;refine hD.cf #[ptr b] hk Try.func15 ?_;exact h _
theorem k18_back {v:Value}{u:Array Value}(hD:Det Try.prog m fun _=>K)(hcm:cl.mode=.run)(h:K (gs (cl.finish (.tuple #[])) cs) w):K (gs ((k18 u).finish v) (cl::cs)) w:=by
 unfold k18;refine fin0 (some 5) ?_;refine hD.e0 ?_;refine hD.end (n:=0) ?_;exact hD.leave (n:=0) (b:=base 18) (v:=.tuple #[]) rfl rfl Try.func18 (fun τ d=>res0 rfl) hcm h
theorem f22_to {x:Value}{a:Int}(hD:Det Try.prog m fun _=>K)(hcm:cl.mode=.run)(hb:Blk w nb [.int .i64 a] 3)(h:K (gs (cl.finish (.tuple #[])) cs) (w.setCell ⟨nb,0,none⟩ (.int .i64 (wrap64 (a+1))))):K (gs (Frame.enter Try.prog 22 #[x,ptr nb] .normal) (cl::cs)) w:=by
 rw[enter22];have hk:(base 22).kind≠.early:=nofun;refine hD.r0 ?_;refine hD.ld (.int .i64 a) hk (fun τ d=>ld3 (hb.cell 0)) ?_;refine hD.pu (.int .i64 (wrap64 (a+1))) hk (fun w=>pu_add1 rfl rfl) ?_;refine norm0 (a':=⟨#[x,ptr nb,uu,.int .i64 a,.int .i64 (wrap64 (a+1))],[]⟩) ?_;refine hD.store (n:=0) (u:=(ptr nb)) (z:=.int .i64 (wrap64 (a+1))) hk rfl ⟨rfl,rfl,rfl,rfl,nofun⟩ rfl rfl (fun τ d=>((st3 (w:=re w τ d) (hb.cell 0) (hb.frozen 0)).trans (congrArg (Result.ok ()) re_setCell))) (Nat.le_of_eq (World.size_setCell _ _ _).symm) ?_;refine hD.e0 ?_;refine hD.end (n:=0) ?_;exact hD.leave (n:=0) (b:=base 22) (v:=.tuple #[]) rfl rfl Try.func22 (fun τ d=>res0 rfl) hcm h
end
def kpGo (_:Nat)(t:ES Unit)(a:Bool)(_:Nat):Bool × Option Unit:=match t with
 | .fresh=>(true,some ())
 | .susp _=>(a,none)
 | .done=>(a,none)
def ctGo (_:Nat)(t:ES Empty)(a:Int)(_:Nat):Int × Option Empty:=match t with
 | .fresh=>(wrap64 (a+1),none)
 | .susp _=>(a,none)
 | .done=>(a,none)
def kpBods (kb:Nat)(C:WC):Bods Unit Bool where
 mem a st X w:=(∀ b,X b↔b=kb)∧Blk w kb [if a then ptr (C.bt 0) else .pointer none] 60∧∀ i l rv,st i=.susp l rv→rv=.nilFunc
 rs _ _ fs:=∃ t u,fs=[y15 t,k18 u]
 go:=kpGo
 rdy _ _ _:=true
 due _:=True
def ctBods (nb:Nat)(_C:WC):Bods Empty Int where
 mem a _ X w:=(∀ b,X b↔b=nb)∧Blk w nb [.int .i64 a] 3
 rs _ _ _:=False
 go:=ctGo
 rdy _ _ _:=true
 due _:=True
theorem kx_one {X:Nat→Prop}{kb:Nat}{w:World}{v:Value}(hX:∀ b,X b↔b=kb):Kx X X w (w.setCell ⟨kb,0,none⟩ v) :=
 ⟨Nat.le_of_eq (World.size_setCell _ _ _).symm,fun b _ hn=>setCell_frame fun e=>hn ((hX b).2 e),fun b h=>.inl h⟩
theorem kp_ok {C:WC}{kb:Nat}(hn:C.n=1)(hfn:∀ i,i<C.n→C.fn i=18)(hcap:∀ i,i<C.n→C.cap i=#[ptr kb]):BOk (kpBods kb C) C where
 dues _ _ _ _:=trivial
 bound h hb:=by
  obtain⟨hX,hk,_⟩:=h;rw[(hX _).1 hb];exact hk.lt
 frame h hb hs:=by
  obtain⟨hX,hk,hr⟩:=h;exact⟨hX,(hb _ ((hX _).2 rfl)).trans hk,hr⟩
 rsok h:=by
  obtain⟨t,u,rfl⟩:=h;intro f hf;simp only[List.mem_cons,List.not_mem_nil,or_false] at hf;rcases hf with rfl | rfl
  ·exact⟨rfl,rfl,_,Try.func15⟩
  ·exact⟨rfl,rfl,_,Try.func18⟩
 ready {a st X w i l rv} h _ e:=.inl ⟨h.2.2 i l rv e,rfl⟩
 fns {i} hi:=by
  rw[hfn i hi];exact⟨_,_,Try.func18,rfl,rfl⟩
 run {i st a X w n ga ca ba sa ck F cs g} hi h hn' hn0 hbt hr hst hFm K hK hy hd:=by
  obtain⟨hX,hk,hrv⟩:=h;obtain rfl:i=0:=by omega
  have hD:=hK.det;cases e:st 0 with
  | fresh =>
   rw[e] at hst;obtain⟨args,ha,rfl⟩:=hst;obtain rfl:=arr_one ha (hcap 0 hi);rw[hfn 0 hi];refine k18_to hD hk fun u=>?_;refine step_to hD fun tm=>?_;refine hy true () .nilFunc (y15 tm) [k18 u] X _ ?_ ⟨_,_,rfl⟩ ⟨hX,hk.set 0 _,fun j l rv ej=>?_⟩ (kx_one hX) (.inl rfl)
   ·rw[show er (st 0)=ES.fresh by rw[e];rfl]
    rfl
   ·unfold updT at ej
    split at ej
    ·cases ej;rfl
    ·exact hrv j l rv ej
  | susp l rv =>
   rw[e] at hst;obtain⟨c,rest,⟨t,u,hl⟩,rfl⟩:=hst;cases hl;refine y15_back hD rfl ?_;refine k18_back hD hFm ?_;refine hd a X w ?_ ⟨hX,hk,fun j l' rv' ej=>?_⟩ ⟨Nat.le_refl _,fun _ _ _=>rfl,fun _ h=>.inl h⟩
   ·rw[show er (st 0)=ES.susp l by rw[e];rfl]
    rfl
   ·unfold updT at ej
    split at ej
    ·cases ej
    ·exact hrv j l' rv' ej
  | done=>rw[e] at hst;exact hst.elim
theorem ct_ok {C:WC}{nb:Nat}(hfn:∀ i,i<C.n→C.fn i=22)(hcap:∀ i,i<C.n→C.cap i=#[ptr nb]):BOk (ctBods nb C) C where
 dues _ _ _ _:=trivial
 bound h hb:=by
  obtain⟨hX,hk⟩:=h;rw[(hX _).1 hb];exact hk.lt
 frame h hb hs:=by
  obtain⟨hX,hk⟩:=h;exact⟨hX,(hb _ ((hX _).2 rfl)).trans hk⟩
 rsok h:=h.elim
 ready {a st X w i l rv} _ _ _:=l.elim
 fns {i} hi:=by
  rw[hfn i hi];exact⟨_,_,Try.func22,rfl,rfl⟩
 run {i st a X w n ga ca ba sa ck F cs g} hi h hn' hn0 hbt hr hst hFm K hK hy hd:=by
  obtain⟨hX,hk⟩:=h;have hD:=hK.det;cases e:st i with
  | fresh =>
   rw[e] at hst;obtain⟨args,ha,rfl⟩:=hst;obtain rfl:=arr_one ha (hcap i hi);rw[hfn i hi];refine f22_to hD hFm hk ?_;refine hd (wrap64 (a+1)) X _ ?_ ⟨hX,hk.set 0 _⟩ (kx_one hX);rw[show er (st i)=ES.fresh by rw[e];rfl];rfl
  | susp l rv=>exact l.elim
  | done=>rw[e] at hst;exact hst.elim
theorem kp_run (kb:Nat)(C:WC):(runF (kpBods kb C) 1 (fun a=>a) (5:Int).toNat ⟨fun _=>.fresh,false,[],[]⟩).acts=[0,0]∧(runF (kpBods kb C) 1 (fun a=>a) (5:Int).toNat ⟨fun _=>.fresh,false,[],[]⟩).a=true∧(runF (kpBods kb C) 1 (fun a=>a) (5:Int).toNat ⟨fun _=>.fresh,false,[],[]⟩).st 0=.done ∧
  (runF (kpBods kb C) 1 (fun a=>a) (5:Int).toNat ⟨fun _=>.fresh,false,[],[]⟩).left=[]:=⟨rfl,rfl,rfl,rfl⟩
def ctSt (long j:Nat):RunSt Empty Int:=⟨fun i=>if i<j then .done else .fresh,(j:Int),List.range j,List.replicate (long-j) 0⟩
theorem ct_pick:∀ n,n<9→∀ j,j<n→((List.range n).filter fun i=>decide (j≤i))≠[]∧((List.range n).filter fun i=>decide (j≤i)).getD (0 % ((List.range n).filter fun i=>decide (j≤i)).length) 0=j ∧
  (match (List.range j).getLast? with
   | some last=>((((List.range n).filter fun i=>decide (j≤i)).find? fun i=>decide (last<i)).getD (((List.range n).filter fun i=>decide (j≤i)).headD 0))
   | none=>((List.range n).filter fun i=>decide (j≤i)).headD 0)=j:=by decide +kernel
theorem ct_readies (nb:Nat)(C:WC)(n long j:Nat):readies (ctBods nb C) n (ctSt long j)=(List.range n).filter fun i=>decide (j≤i):=by
 unfold readies;congr 1;funext i;show rdyE (ctBods nb C) i (if i<j then .done else .fresh) _=_;by_cases h:i<j
 ·rw[if_pos h,decide_eq_false (by omega)];rfl
 ·rw[if_neg h,decide_eq_true (by omega)];rfl
theorem ct_run (nb:Nat)(C:WC){n long:Nat}(hn:n≤8):∀ k j,j≤n→runF (ctBods nb C) n (fun a=>a) k (ctSt long j)=ctSt long (min n (j+k))
 | 0,j,hj=>by
  rw[Nat.add_zero,Nat.min_eq_right hj];rfl
 | k+1,j,hj=>by
  unfold runF;rw[ct_readies];by_cases hlt:j<n
  ·obtain⟨h1,h2,h3⟩:=ct_pick n (by omega) j hlt
   rw[if_neg h1];have hch:chosen ((List.range n).filter fun i=>decide (j≤i)) (ctSt long j).acts (ctSt long j).left=(j,List.replicate (long-(j+1)) 0):=by
    show chosen _ (List.range j) (List.replicate (long-j) 0)=_;unfold chosen;by_cases hl:long-j=0
    ·rw[hl,show long-(j+1)=0 by omega]
     dsimp only[List.replicate_zero];cases e:(List.range j).getLast? with
     | none=>rw[e] at h3;exact congrArg (fun z=>(z,[])) h3
     | some last=>rw[e] at h3;exact congrArg (fun z=>(z,[])) h3
    ·obtain⟨l,hl'⟩:∃ l,long-j=l+1:=⟨long-j-1,by omega⟩
     rw[hl',List.replicate_succ,show long-(j+1)=l by omega];exact congrArg (fun z=>(z,List.replicate l 0)) h2
   rw[hch];have h1':oneAct (ctBods nb C) (fun a=>a) (ctSt long j) j (List.replicate (long-(j+1)) 0)=ctSt long (j+1):=by
    have hf:(ctSt long j).st j=.fresh:=if_neg (Nat.lt_irrefl j);unfold oneAct;rw[hf];have hw:wrap64 ((j:Int)+1)=((j+1:Nat):Int):=by rw[IntWalk.wrap64_in _ (by omega)];omega
    show(⟨updE _ j .done,wrap64 ((j:Int)+1),List.range j++[j],_⟩:RunSt Empty Int)=_;rw[hw];unfold ctSt;rw[List.range_succ];congr 1;funext i;unfold updE;by_cases e:i=j
    ·rw[if_pos e,if_pos (by omega)]
    ·rw[if_neg e]
     by_cases h:i<j
     ·rw[if_pos (by omega)];exact if_pos h
     ·rw[if_neg (by omega)];exact if_neg h
   show runF _ n _ k (oneAct (ctBods nb C) (fun a=>a) (ctSt long j) j (List.replicate (long-(j+1)) 0))=_;rw[h1',ct_run nb C hn k (j+1) (by omega)];congr 1;omega
  ·have he:((List.range n).filter fun i=>decide (j≤i))=[]:=by
    rw[List.filter_eq_nil_iff];intro i hi;have:=List.mem_range.1 hi;simp only[decide_eq_true_eq];omega
   rw[he,if_pos rfl];congr 1;omega
theorem ct_code {n long d:Nat}{mo:Int}(hd:d=min n mo.toNat)(h0:0≤mo):codeM (decide (mo≤(d:Int))) (donesE n (ctSt long d).st)=if mo<n then 81 else 0:=by
 unfold codeM;by_cases h:mo<n
 ·rw[if_pos h,if_neg,if_pos (by simp only[decide_eq_true_eq];omega)]
  intro hall;have:=List.all_eq_true.1 hall (isDoneE ((ctSt long d).st d)) (List.mem_map.2 ⟨d,List.mem_range.2 (by omega),rfl⟩);unfold ctSt at this;dsimp only at this;rw[if_neg (Nat.lt_irrefl d)] at this;cases this
 ·rw[if_neg h,if_pos]
  refine List.all_eq_true.2 fun x hx=>?_;obtain⟨i,hi,rfl⟩:=List.mem_map.1 hx;have:=List.mem_range.1 hi;unfold ctSt;dsimp only;rw[if_pos (by omega)];rfl
section
variable {m:Bool}{K:Goroutine→World→Prop}{w:World}{cs:List Frame}
theorem none_end (hK:Cl Try.prog m K){rb nb n na ca ne ce d:Nat}{mo want:Int}{ga ge:Option Addr}{u:Int}{x:Nat→Value}(hx:OG rb nb n mo want want x)(h121:x 121=.bool false)(br:Cel w rb [.slice ga na ca,.slice ge ne ce,.int .i64 u] 30)(hn:w.cell? ⟨nb,0,none⟩=some (.int .i64 (d:Int)))
  (hbad:want=2∨want=4→na=0∧ne=0∧u=0∧d=0) (hgood:want≠2→want≠4→na=d∧(if mo<n then mo else n)=(d:Int)) (h:∀ t todo w',t.getD 2 undef=.bool true→Kp [] w w'→K (gs { (base 6).at ⟨t,[]⟩ todo with mode:=.returning} cs) w'):K (gs ((base 6).at ⟨fr x,[]⟩ [.code (sR (sL (sR (sR (sR (sR (sR (sR (sR (sR (sR (sR (sR (sR (sR (sR (sR (sR (sR (sR (sR (sR (sR c6))))))))))))))))))))))),.code (sR (sR (sR (sR (sR (sR (sR (sR (sR (sR (sR (sR (sR (sR (sR (sR (sR (sR (sR (sR (sR (sR c6))))))))))))))))))))))]) cs) w:=by
 refine hK.det.cond (n:=0) false h121 rfl ?_;refine hK.det.k0 ?_;refine hK.det.s0 ?_;refine hK.det.s0 ?_;refine hK.seg fits shut (b:=base 6) ⟨_,Try.func6⟩ nofun (c:=(sL (sL (sR (sR (sR (sR (sR (sR (sR (sR (sR (sR (sR (sR (sR (sR (sR (sR (sR (sR (sR (sR (sR (sR c6))))))))))))))))))))))))) (by decide +kernel) (Q:=oQ (fun x=>OG rb nb n mo want want x∧x 127=.bool (decide (want=2)||decide (want=4))) w) (fun t w' τ d h=>oQ_re h τ d) (fun τ d=>Code.wp_mono (fun e a w' ⟨h1,h2,h3⟩=>⟨h1,h2,oQ_un h3⟩) (oc5_wp (re w τ d) rb nb n mo want want x hx)) fun t w1 ⟨x1,e1,⟨hx1,h127⟩,k1⟩=>?_;subst e1;have br1:=k1.cel br (by simp);have hn1:=k1.cells _ _ _ hn;by_cases hw:want=2∨want=4
 ·rw[show(decide (want=2)||decide (want=4))=true by rcases hw with h | h<;>simp[h]] at h127
  obtain⟨rfl,rfl,rfl,rfl⟩:=hbad hw;refine hK.det.cond (n:=0) true h127 rfl ?_;refine hK.det.s0 ?_;refine hK.seg fits shut (b:=base 6) ⟨_,Try.func6⟩ nofun (c:=(sL (sT (sR (sL (sR (sR (sR (sR (sR (sR (sR (sR (sR (sR (sR (sR (sR (sR (sR (sR (sR (sR (sR (sR (sR (sR c6))))))))))))))))))))))))))) (by decide +kernel) (Q:=oQ (fun x=>x 2=.bool true) w1) (fun t w' τ d h=>oQ_re h τ d) (fun τ d=>Code.wp_mono (fun e a w' ⟨h1,h2,h3⟩=>⟨h1,h2,oQ_un h3⟩) (oc6_wp (re w1 τ d) rb nb n mo want want x1 ga ge ca ce hx1 br1 hn1)) fun t w2 ⟨x2,e2,h2,k2⟩=>?_;subst e2;exact hK.det.ret (n:=0) (h _ _ _ h2 (k1.trans k2))
 ·rw[show(decide (want=2)||decide (want=4))=false by simp only[not_or] at hw;simp[hw]] at h127
  obtain⟨rfl,hd⟩:=hgood (fun e=>hw (.inl e)) (fun e=>hw (.inr e));obtain⟨h4,h7,h8,h9,h10,h14⟩:=hx1;refine hK.det.cond (n:=0) false h127 rfl ?_;refine hK.det.k0 ?_;have hk:(base 6).kind≠.early:=nofun;have hD:=hK.det;refine hD.s0 ?_;refine hD.r0 ?_;refine hD.move (n:=0) (v:=(.int .i64 (n:Int))) hk rfl ⟨rfl,rfl,rfl,rfl,nofun⟩ h9 ?_;refine nm rfl ?_;refine hD.as (.int .i64 (n:Int)) hk ?_;refine nm rfl ?_;refine hD.e0 ?_;refine hD.s0 ?_;refine hK.seg fits shut (b:=base 6) ⟨_,Try.func6⟩ nofun (c:=(sL (sR (sR (sR (sR (sR (sR (sR (sR (sR (sR (sR (sR (sR (sR (sR (sR (sR (sR (sR (sR (sR (sR (sR (sR c6)))))))))))))))))))))))))) (by decide +kernel) (Q:=oQ (fun x=>x 7=ptr rb∧x 10=ptr nb∧x 15=.int .i64 (if mo<n then mo else n)) w1) (fun t w' τ d h=>oQ_re h τ d) (fun τ d=>Code.wp_mono (fun e a w' ⟨h1,h2,h3⟩=>⟨h1,h2,oQ_un h3⟩) (oc7_wp (re w1 τ d) rb nb n mo _ h4 h7 h9 h10 rfl)) fun t w2 ⟨x2,e2,⟨g7,g10,g15⟩,k2⟩=>?_;subst e2;rw[hd] at g15;refine hK.det.s0 ?_;refine hK.seg fits shut (b:=base 6) ⟨_,Try.func6⟩ nofun (c:=(sL (sR (sR (sR (sR (sR (sR (sR (sR (sR (sR (sR (sR (sR (sR (sR (sR (sR (sR (sR (sR (sR (sR (sR (sR (sR c6))))))))))))))))))))))))))) (by decide +kernel) (Q:=oQ (fun x=>x 2=.bool true) w2) (fun t w' τ d h=>oQ_re h τ d) (fun τ d=>Code.wp_mono (fun e a w' ⟨h1,h2,h3⟩=>⟨h1,h2,oQ_un h3⟩) (oc8_wp (re w2 τ d) rb nb na x2 ga ca g7 g10 g15 ((k2.cel br1 (by simp)).cell 0) (k2.cells _ _ _ hn1))) fun t w3 ⟨x3,e3,h3,k3⟩=>?_;subst e3;exact hK.det.ret (n:=0) (h _ _ _ h3 (k1.trans (k2.trans k3)))
end
theorem isNil_any (nb n:Nat)(at':Int):(vsN nb n at').any isNilF=decide (0≤at'∧at'<n):=by
 unfold vsN;rw[List.any_map];by_cases h:0≤at'∧at'<n
 ·rw[decide_eq_true h,List.any_eq_true]
  refine⟨at'.toNat,List.mem_range.2 (by omega),?_⟩;show isNilF (if ((at'.toNat:Nat):Int)=at' then _ else _)=true;rw[if_pos (by omega)];rfl
 ·rw[decide_eq_false h,List.any_eq_false]
  intro i hi;have:=List.mem_range.1 hi;show ¬ isNilF (if (i:Int)=at' then _ else _)=true;rw[if_neg (by omega)];simp[isNilF]
theorem fits_want (nb n long:Nat)(at' mo:Int):wantN n long at' mo=if fitsM (vsN nb n at') mo long≠0 then fitsM (vsN nb n at') mo long else if mo<n then 81 else 0:=by
 unfold wantN fitsM;rw[vsN_len,isNil_any];by_cases h1:n=0∨8<n∨mo<0
 ·rw[if_pos h1,if_pos (by omega),if_pos (by decide)]
 ·rw[if_neg h1]
  by_cases h2:0≤at'∧at'<n
  ·rw[decide_eq_true h2,if_pos (by omega),if_pos rfl,if_pos (by decide)]
  ·rw[decide_eq_false h2,if_neg (by omega)]
   simp only[Bool.false_eq_true,if_false];by_cases h3:65536<long
   ·simp only[if_pos h3]
    rfl
   ·simp only[if_neg h3]
    rfl
theorem fits_vals (nb n long:Nat)(at' mo:Int)(h:fitsM (vsN nb n at') mo long≠0):fitsM (vsN nb n at') mo long=2∨fitsM (vsN nb n at') mo long=4:=by
 unfold fitsM at h ⊢;split
 ·exact .inl rfl
 ·split
  ·exact .inl rfl
  ·split
   ·exact .inr rfl
   ·rename_i h1 h2 h3
    rw[if_neg h1,if_neg h2,if_neg h3] at h;exact absurd rfl h
theorem bytes_none {w:World}{b:Nat}:Bytes b w (.slice none 0 0) []:=⟨none,0,rfl,Nat.le_refl _,Nat.zero_le _,fun u hu=>(by cases hu),fun h=>absurd rfl h⟩
theorem bytes_noughts {w:World}{pb long:Nat}(hl:long≤131071)(hb:Blk w pb (List.replicate long (Value.int .u8 0)) 5):Bytes pb w (.slice (some ⟨pb,0,none⟩) long long) (List.replicate long 0):=by
 refine⟨some ⟨pb,0,none⟩,long,by rw[List.length_replicate],by rw[List.length_replicate];exact Nat.le_refl _,by unfold maxLen;omega,fun u hu=>by rw[(List.mem_replicate.1 hu).2];decide,fun _=>⟨0,rfl,fun j u hj=>?_⟩⟩;rw[Nat.zero_add,hb.cell j];rw[List.getElem?_replicate] at hj ⊢;split at hj
 ·cases hj
  rename_i h;rw[if_pos h];rfl
 ·cases hj
section
variable {Post:Value→World→Prop}{S:SC}
theorem none_law {bo at' mo pi:Int}{n long:Nat}(hn15:n≤15)(hll:long≤131071)(hn:∀ w,(binOp .and 3 (.int .i64 bo) (.int .i64 15)).run Try.prog w=.ok (.int .i64 (n:Int)) w)(hl:∀ w,(binOp .and 3 (.int .i64 pi) (.int .i64 131071)).run Try.prog w=.ok (.int .i64 (long:Int)) w)(hid:Idle S)
  (hpost:∀ W,Go.RowKit.Below S.n0 S.W0 W→Post (.bool true) W):Sound Try.prog link.tWg Post 0 S (gs (Frame.enter Try.prog 6 #[.agg #[.int .i64 bo,.int .i64 at',.int .i64 mo,.int .i64 pi]] .normal) []):=by
 have hK:=clS (Post:=Post) S;refine ks (S:=S) (none_enter hK.det fun x0 bx w1 k1 bb hx0=>?_) rfl;show Sound Try.prog link.tWg Post 0 { S with w:=w1} _;refine lives_runs (S:={S with w:=w1}) ⟨hid.roles,hid.grps,hid.pos⟩ rfl fun S2 i2 n2 z2 k2=>?_;have hK2:=clS (Post:=Post) S2;have bb2:=k2.cel (Blk.cel bb) (by simp);refine ks (S:=S2) (none_one hK2.det hx0 fun x1 hx1=>?_) rfl;refine step_idle hK2 rfl idle_none fun w2 q2=>?_;refine none_two hK2.det hx1 fun x2 hx2=>?_;refine wait_idle hK2 (.inr ⟨_,_,_,rfl⟩) rfl idle_none fun w3 q3=>?_;refine none_three hK2.det hx2 fun kb fb w4 x3 q4 bkb bfb hkb hx3=>?_;have q24:Kp [] S2.w w4:=q2.trans (q3.trans q4);have bb4:=q24.cel bb2 (by simp);refine run_enter hK2.det ?_;have kob:=Kp.alloc [] w4 (.cells #[.slice none 0 0,.slice none 0 0,.int .i64 0] 30);have bob:Blk (w4.alloc (.cells #[.slice none 0 0,.slice none 0 0,.int .i64 0] 30)) w4.heap.size [.slice none 0 0,.slice none 0 0,.int .i64 0] 30:=Blk.new _ _ _;obtain⟨ob,hob⟩:∃ ob,ob=w4.heap.size:=⟨_,rfl⟩;rw[← hob] at bob ⊢;generalize w4.alloc (.cells #[.slice none 0 0,.slice none 0 0,.int .i64 0] 30)=w5 at kob bob ⊢;have bkb5:=kob.blk bkb (by simp);have bfb5:=kob.blk bfb (by simp);have bb5:=kob.cel bb4 (by simp);have hbk:bx≠kb:=cel_ne bb5 (Blk.cel bkb5) (by decide);have hok:ob≠kb:=cel_ne (Blk.cel bob) (Blk.cel bkb5) (by decide);have hox:bx≠ob:=cel_ne bb5 (Blk.cel bob) (by decide);show Sound Try.prog link.tWg Post 0 { S2 with w:=w5} _;refine watch_runs (S:={S2 with w:=w5}) (Bf:=fun C=>kpBods kb C) (go:=kpGo) (rdy:=fun _ _ _=>true) (n:=1) (c0:=1) (most:=5) (fn:=fun _=>18) (cap:=fun _=>#[ptr kb]) (beh:=fun a=>a) (a0:=false) (X:=fun b=>b=kb) (pb:=bx) (fb:=fb) (fo:=0) (picks:=[]) (fun _=>rfl) (fun _=>rfl)
  (fun C _ hn hfn hcap=>kp_ok hn (fun i _=>by rw[hfn]) (fun i _=>by rw[hcap])) (fun C=>.inl ⟨rfl,fun _=>rfl⟩) ⟨i2.roles,i2.grps,i2.pos⟩ (by decide) (by decide) rfl bfb5.lt (fun j hj=>?_) bytes_none bb5.lt hbk (by decide) (by decide) (fun C=>⟨fun b=>Iff.rfl,bkb5,fun i l rv e=>by cases e⟩) (fun b hb=>by rw[hb];exact bkb5.lt) (fun C=>?_) fun C S6 st' X' ga' ca' ge ne ce hC hCn W=>?_
 ·obtain rfl:j=0:=by omega
  exact bfb5.cell 0
 ·rw[(kp_run kb C).1];decide
 obtain⟨r1,r2,r3,r4⟩:=kp_run kb C;obtain⟨y,hy⟩:∃ y,y=runF (kpBods kb C) 1 (fun a=>a) (5:Int).toNat ⟨fun _=>.fresh,false,[],[]⟩:=⟨_,rfl⟩;rw[← hy] at r1 r2 r3 r4 W ⊢;clear hy;have hcode:codeM (decide ((5:Int)≤(y.acts.length:Int))) (donesE 1 y.st)=0:=by
  have e:donesE 1 y.st=[isDoneE (y.st 0)]:=rfl;rw[e,r3];rfl
 have hlen:y.acts.length=2:=by rw[r1];rfl
 rw[hcode,hlen];have hK6:=clS (Post:=Post) S6;have bob6:Blk S6.w ob [.slice none 0 0,.slice none 0 0,.int .i64 0] 30:=(W.block ob bob.lt hok).trans bob;have bb6:Cel S6.w bx _ 59:=bb5.same (W.block bx bb5.lt hbk);obtain⟨_,bkb6,_⟩:=W.mem;rw[r2] at bkb6;have hrun:=W.run;obtain⟨tu,hbt⟩:=W.bts 0 (by omega) r3;refine ks (S:=S6) (run_back hK6.det rfl bob6 fun w7 f7 s7=>?_) rfl;have toW7:∀ b,b≠ob→w7.heap[b]?=S6.w.heap[b]?:=f7;refine none_four hK6.det hx3 fun rb w8 x4 hrb k8 brb hx4=>?_;have to8:∀ {b cs t},Cel S6.w b cs t→t≠30→Cel w8 b cs t:=fun {b cs t} h ht=>k8.cel (h.same (toW7 b (cel_ne h (Blk.cel bob6) ht))) (by simp);have bb8:=to8 bb6 (by decide);have bk8:=to8 (Blk.cel bkb6) (by decide);have hbt8:=to8 hbt (by decide);have hrun8:∃ ba sa sk ac,Cel w8 C.r [ba,sa,sk,ac,.bool true] 86:=by
  obtain⟨ba,sa,sk,ac,h⟩:=hrun;exact⟨ba,sa,sk,ac,to8 h (by decide)⟩
 have hrblt:=brb.lt;refine hK6.det.s0 ?_;refine hK6.det.s0 ?_;refine hK6.seg fits shut (b:=base 6) ⟨_,Try.func6⟩ nofun (c:=(sL (sL (sR (sR (sR (sR (sR (sR (sR (sR (sR c6)))))))))))) (by decide +kernel) (Q:=oQ (fun x=>OD bx kb rb at' mo x∧x 53=.bool false) w8) (fun t w' τ d h=>oQ_re h τ d) (fun τ d=>Code.wp_mono (fun e a w' ⟨h1,h2,h3⟩=>⟨h1,h2,oQ_un h3⟩) (oc1_wp (re w8 τ d) bx kb rb (C.bt 0) at' mo x4 ga' ca' hx4 (brb.cell 0) (bk8.cell 0))) fun t w9 ⟨x5,e5,⟨hx5,h53⟩,k9⟩=>?_;subst e5;have hbt9:=k9.cel hbt8 (by simp);have hrun9:∃ ba sa sk ac,Cel w9 C.r [ba,sa,sk,ac,.bool true] 86:=let ⟨ba,sa,sk,ac,h⟩:=hrun8;⟨ba,sa,sk,ac,k9.cel h (by simp)⟩;have hio:=idle_over hbt9 hrun9;have bk9:=k9.cel bk8 (by simp);refine none_five hK6.det hx5 h53 (bk9.cell 0) fun x6 hx6=>?_;refine step_idle hK6 rfl hio fun w10 q10=>?_;refine none_six hK6.det hx6 ((q10.cel bk9 (by simp)).cell 0) fun x7 hx7=>?_;refine wait_idle hK6 (.inr ⟨_,_,_,rfl⟩) rfl (fun w' k=>hio w' (q10.trans k)) fun w11 q11=>?_;refine none_seven hK6.det hx7 fun x8 hx8=>?_;have q911:Kp [] w9 w11:=q10.trans q11;refine hK6.det.s0 ?_;refine hK6.det.s0 ?_;refine hK6.seg fits shut (b:=base 6) ⟨_,Try.func6⟩ nofun (c:=(sL (sL (sR (sR (sR (sR (sR (sR (sR (sR (sR (sR (sR (sR c6))))))))))))))) (by decide +kernel) (Q:=oQ (fun x=>OD bx kb rb at' mo x∧x 65=.bool false) w11) (fun t w' τ d h=>oQ_re h τ d) (fun τ d=>Code.wp_mono (fun e a w' ⟨h1,h2,h3⟩=>⟨h1,h2,oQ_un h3⟩) (oc2_wp (re w11 τ d) bx kb rb (C.bt 0) at' mo x8 hx8 ((q911.cel bk9 (by simp)).cell 0) (hio _ ⟨q911.size,q911.block⟩))) fun t w12 ⟨x9,e9,⟨hx9,h65⟩,k12⟩=>?_;subst e9;have q812:Kp [] w8 w12:=k9.trans (q911.trans k12);have bb12:=q812.cel bb8 (by simp);refine none_begin hK6.det hx9 h65 (bb12.cell 0) hn fun nb w13 x10 hnb k13 bnb hx10=>?_;refine hK6.seg fits shut (b:=base 6) ⟨_,Try.func6⟩ nofun (c:=(sR (sL (sR (sR (sR (sR (sR (sR (sR (sR (sR (sR (sR (sR (sR (sR (sR (sR c6))))))))))))))))))) (by decide +kernel) (Q:=oc3Q bx rb nb n at' mo w13) (fun t w' τ d ⟨x,v,h1,h2,h3,h4⟩=>⟨x,v,h1,h2,h3,⟨h4.size,h4.block⟩⟩) (fun τ d=>Code.wp_mono (fun e a w' ⟨h1,h2,x,v,h3,h4,h5,h6⟩=>⟨h1,h2,x,v,h3,h4,h5,⟨h6.size,h6.block⟩⟩) (oc3_wp (re w13 τ d) bx rb nb n at' mo x10 hx10 hn15)) fun t w14 ⟨x11,vl,e11,hx11,rvl,k14⟩=>?_;subst e11;have q814:Kp [] w8 w14:=q812.trans (k13.trans k14);have bb14:=q814.cel bb8 (by simp);have bnb14:=k14.blk bnb (by simp);refine none_picks hK6.det hx11 (bb14.cell 3) hl fun x12 hx12=>?_;refine hK6.det.s0 ?_;refine hK6.seg fits shut (b:=base 6) ⟨_,Try.func6⟩ nofun (c:=(sL (sR (sR (sR (sR (sR (sR (sR (sR (sR (sR (sR (sR (sR (sR (sR (sR (sR (sR (sR c6))))))))))))))))))))) (by decide +kernel) (Q:=oQ (fun x=>OF rb nb n long at' mo vl (wantN n long at' mo) x) w14) (fun t w' τ d h=>oQ_re h τ d) (fun τ d=>Code.wp_mono (fun e a w' ⟨h1,h2,h3⟩=>⟨h1,h2,oQ_un h3⟩) (oc4_wp (re w14 τ d) rb nb n long at' mo vl x12 hx12)) fun t w15 ⟨x13,e13,hx13,k15⟩=>?_;subst e13;refine none_call hK6.det hx13 hll fun pb w16 x14 hpb k16 bpb hx14=>?_;have q816:Kp [] w8 w16:=q814.trans (k15.trans k16)
 have q1416:Kp [] w14 w16:=k15.trans k16;refine run_enter hK6.det ?_;have ko2:=Kp.alloc [] w16 (.cells #[.slice none 0 0,.slice none 0 0,.int .i64 0] 30);have bo2:Blk (w16.alloc (.cells #[.slice none 0 0,.slice none 0 0,.int .i64 0] 30)) w16.heap.size [.slice none 0 0,.slice none 0 0,.int .i64 0] 30:=Blk.new _ _ _;obtain⟨o2,ho2⟩:∃ ob,ob=w16.heap.size:=⟨_,rfl⟩;rw[← ho2] at bo2 ⊢;generalize w16.alloc (.cells #[.slice none 0 0,.slice none 0 0,.int .i64 0] 30)=w17 at ko2 bo2 ⊢;have brb17:=ko2.blk (q816.blk brb (by simp)) (by simp);have bnb17:=ko2.blk (q1416.blk bnb14 (by simp)) (by simp);have bpb17:=ko2.blk bpb (by simp);have rvl17:RepF w17 vl (vsN nb n at'):=rep_same rvl (Nat.le_trans q1416.size ko2.size) fun b hb=>by
  have:=rvl.fp_lt b hb;rw[ko2.block b (nl' this q1416.size) (by simp),q1416.block b this (by simp)]
 have hrne:rb≠o2:=by have:=q816.size;omega
 have hnne:nb≠o2:=cel_ne (Blk.cel bnb17) (Blk.cel bo2) (by decide);have hpne:pb≠nb:=cel_ne (Blk.cel bpb17) (Blk.cel bnb17) (by decide);have hrnb:rb≠nb:=cel_ne (Blk.cel brb17) (Blk.cel bnb17) (by decide);obtain⟨g0,c0,evl,_⟩:=rvl17.form;have h0s:S6.n0=S.n0∧S6.W0=S.W0:=⟨W.n0.trans n2,W.W0.trans z2⟩;have hpost6:∀ W',Go.RowKit.Below S6.n0 S6.W0 W'→Post (.bool true) W':=fun W' h=>hpost W' (by rw[h0s.1,h0s.2] at h;exact h);have i6:=W.idle;clear W;have hwant:=fits_want nb n long at' mo;have hby:=bytes_noughts hll bpb17;show Sound Try.prog link.tWg Post 0 { S6 with w:=w17} _;by_cases hbad:fitsM (vsN nb n at') mo long≠0
 ·
  rw[if_pos hbad] at hwant;subst evl;have hlong:(List.replicate long 0).length=long:=List.length_replicate;refine watch_bad (S:={S6 with w:=w17}) (vs:=vsN nb n at') (left:=List.replicate long 0) (pb:=pb) rfl (fun u hu=>?_) (fun hne=>?_) hby bpb17.lt (by rw[hlong];exact hbad) fun w18 k18=>?_
  ·obtain⟨i,_,rfl⟩:=List.mem_map.1 hu
   split
   ·exact .inl rfl
   ·exact .inr ⟨_,_,rfl⟩
  ·obtain⟨fb',c,e,h1,_⟩:=rvl17.ex (List.length_pos_iff.2 hne)
   cases e;exact⟨fb',0,rfl,h1,fun j u hj=>by rw[Nat.zero_add];exact rvl17.cell1 (u:=fun x:Value=>x) (fun _=>rfl) j u hj⟩
  rw[hlong];have hK7:=clS (Post:=Post) ({S6 with w:=w18});refine ks (S:={S6 with w:=w18}) (run_back hK7.det rfl (k18.blk bo2 (by simp)) fun w19 f19 s19=>?_) rfl;have br19:Blk w19 rb _ 30:=(f19 rb hrne).trans (k18.blk brb17 (by simp));have bn19:Blk w19 nb _ 3:=(f19 nb hnne).trans (k18.blk bnb17 (by simp));refine none_ran hK7.det hx14 br19 fun w20 x15 k20 br20 hx15=>?_;obtain⟨g4,g7,g8,g9,g10,g14,h121⟩:=hx15;rw[hwant] at g14 h121;refine none_end hK7 ⟨g4,g7,g8,g9,g10,g14⟩ (by rw[h121,decide_eq_false (fun h=>h rfl)]) (Blk.cel br20) (d:=0) ((k20.blk bn19 (by simpa using Ne.symm hrnb)).cell 0) (fun _=>⟨rfl,rfl,rfl,rfl⟩) (fun h2 h4=>absurd (fits_vals nb n long at' mo hbad) (fun h=>h.elim h2 h4)) fun t todo w21 ht k21=>?_;exact sound_true (S:={S6 with w:=w21}) ⟨i6.roles,i6.grps,i6.pos⟩ Try.func6 (by decide +kernel) rfl ht hpost6
 ·
  have hb0:fitsM (vsN nb n at') mo long=0:=Classical.not_not.1 hbad;rw[if_neg hbad] at hwant;have hlim:0<n∧n≤8∧0≤mo∧¬ (0≤at'∧at'<n)∧long≤65536:=by
   unfold fitsM at hb0;rw[vsN_len,isNil_any] at hb0;split at hb0
   ·cases hb0
   ·split at hb0
    ·cases hb0
    ·split at hb0
     ·cases hb0
     ·rename_i h1 h2 h3
      exact⟨by omega,by omega,by omega,fun h=>h2 (decide_eq_true h),by omega⟩
  obtain⟨hn0,hn8,hm0,hat,hlg⟩:=hlim;obtain⟨fb',c',e,hfl,_⟩:=rvl17.ex (by rw[vsN_len];exact hn0);rw[vsN_len] at e;subst e;have hst0:(⟨fun _=>.fresh,(0:Int),[],List.replicate long 0⟩:RunSt Empty Int)=ctSt long 0:=rfl;have hR:∀ C,runF (ctBods nb C) n (fun a=>a) mo.toNat ⟨fun _=>.fresh,(0:Int),[],List.replicate long 0⟩=ctSt long (min n mo.toNat):=fun C=>by
   rw[hst0,ct_run nb C hn8 _ 0 (Nat.zero_le _),Nat.zero_add]
  have hal:∀ j,(ctSt long j).acts.length=j:=fun j=>List.length_range;refine watch_runs (S:={S6 with w:=w17}) (Bf:=fun C=>ctBods nb C) (go:=ctGo) (rdy:=fun _ _ _=>true) (n:=n) (c0:=c') (most:=mo) (fn:=fun _=>22) (cap:=fun _=>#[ptr nb]) (beh:=fun a=>a) (a0:=0) (X:=fun b=>b=nb) (pb:=pb) (fb:=fb') (fo:=0) (picks:=List.replicate long 0) (fun _=>rfl) (fun _=>rfl)
   (fun C _ hn hfn hcap=>ct_ok (fun i _=>by rw[hfn]) (fun i _=>by rw[hcap])) (fun C=>.inl ⟨rfl,fun _=>rfl⟩) ⟨i6.roles,i6.grps,i6.pos⟩ hn0 hn8 rfl hfl (fun j hj=>?_) hby bpb17.lt hpne (by rw[List.length_replicate];exact hlg) hm0 (fun C=>⟨fun b=>Iff.rfl,bnb17⟩) (fun b hb=>by rw[hb];exact bnb17.lt) (fun C=>?_) fun C S7 st' X' ga7 ca7 ge7 ne7 ce7 hC hCn W=>?_
  ·rw[Nat.zero_add]
   refine rvl17.cell1 (u:=fun x:Value=>x) (fun _=>rfl) j _ ?_;unfold vsN;rw[List.getElem?_map,List.getElem?_range hj];show some (if (j:Int)=at' then _ else _)=_;rw[if_neg (by omega)]
  ·rw[hR C,hal];omega
  ·rw[hR C] at W ⊢
   rw[hal,ct_code rfl hm0,List.length_replicate];rw[hal] at W;have hK7:=clS (Post:=Post) S7;refine ks (S:=S7) (run_back hK7.det rfl ((W.block o2 bo2.lt (Ne.symm hnne)).trans bo2) fun w19 f19 s19=>?_) rfl;have br19:Blk w19 rb _ 30:=(f19 rb hrne).trans ((W.block rb brb17.lt hrnb).trans brb17);obtain⟨_,bn7⟩:=W.mem;have bn19:Blk w19 nb _ 3:=(f19 nb hnne).trans bn7;refine none_ran hK7.det hx14 br19 fun w20 x15 k20 br20 hx15=>?_;obtain⟨g4,g7,g8,g9,g10,g14,h121⟩:=hx15;rw[hwant] at g14 h121;refine none_end hK7 ⟨g4,g7,g8,g9,g10,g14⟩ (by rw[h121,decide_eq_false (fun h=>h rfl)]) (Blk.cel br20) (d:=min n mo.toNat) ((k20.blk bn19 (by simpa using Ne.symm hrnb)).cell 0) (fun h=>?_) (fun _ _=>⟨rfl,?_⟩) fun t todo w21 ht k21=>?_
   ·exfalso
    split at h<;>rcases h with h | h<;>cases h
   ·split<;>omega
   ·exact sound_true (S:={S7 with w:=w21}) ⟨W.idle.roles,W.idle.grps,W.idle.pos⟩ Try.func6 (by decide +kernel) rfl ht fun W' h=>hpost6 W' (by rw[W.n0,W.W0] at h;exact h)
end
end Go.Proofs.Ytkoehgfebipkkaa.Lift
namespace Go.Proofs.Ytkoehgfebipkkaa.Lift
open Go Go.Conc
theorem and_run (w:World)(x m:Int)(N:Nat)(hm:BitVec.ofInt 64 m=BitVec.ofNat 64 N)(hN:N<1048576):∃ n:Nat,n≤N∧(binOp .and 3 (.int .i64 x) (.int .i64 m)).run Try.prog w=.ok (.int .i64 (n:Int)) w:=by
 obtain⟨n,hn⟩:∃ n,n=(BitVec.ofInt 64 x&&&BitVec.ofInt 64 m).toNat:=⟨_,rfl⟩;have hle:n≤N:=by
  rw[hn,hm,BitVec.toNat_and,BitVec.toNat_ofNat,Nat.mod_eq_of_lt (by omega)];exact Nat.and_le_right
 have hw:IntKind.i64.wrap (n:Int)=(n:Int):=by rw[IntKind.wrap_i64];omega
 have e:bits BinOp.and IntKind.i64 x m=(n:Int):=by rw[← hw,hn];rfl
 refine⟨n,hle,?_⟩;simp[go_sem,e,Try.underlying3,Try.runUnderlying3]
end Go.Proofs.Ytkoehgfebipkkaa.Lift
namespace Go.Proofs.Ytkoehgfebipkkaa.Z
open Go Go.Conc Go.ChangeShapes Go.WideShapes Go.ChangeAt Go.RowKit Go.Deep Lift
theorem cells59:Try.prog.cellsOf 59=4:=by kernel_rfl
theorem list4 {α:Type}{l:List α}(h:l.length=4):∃ a b c d,l=[a,b,c,d]:=by
 match l,h with
 | [a,b,c,d],_=>exact⟨a,b,c,d,rfl⟩
section
variable {H:Type}{enc:TypeId × Value→H}{w:World}{held:Bool}{fuel:Nat}{x:DataW H × List MemPlace}
theorem open_none {c0 c1 c2 c3:Value}(h:DataW.trod enc Try.prog w 0 (fun _=>true) held fuel 59 [c0,c1,c2,c3]=some x):∃ bo at' mo pi:Int,c0=.int .i64 bo∧c1=.int .i64 at'∧c2=.int .i64 mo∧c3=.int .i64 pi:=by
 obtain⟨xs,k,_,hx,_,hxl,hf⟩:=DataW.trod_struct Try.underlying59 h;have hx4:xs.length=4:=hxl;have f0:=hf 0 { name := "Bodies",type:=3,offset:=0,embedded:=false,tag := "",pkgPath := "",byteOffset:=0} rfl;have f1:=hf 1 { name := "At",type:=3,offset:=1,embedded:=false,tag := "",pkgPath := "",byteOffset:=8} rfl;have f2:=hf 2 { name := "Most",type:=3,offset:=2,embedded:=false,tag := "",pkgPath := "",byteOffset:=16} rfl;have f3:=hf 3 { name := "Picks",type:=3,offset:=3,embedded:=false,tag := "",pkgPath := "",byteOffset:=24} rfl;dsimp only at f0 f1 f2 f3;rw[cells3] at f0 f1 f2 f3;rw[List.getElem?_eq_getElem (by omega)] at f0 f1 f2 f3;change DataW.trod enc Try.prog w 0 (fun _=>true) held k 3 [c0]=_ at f0;change DataW.trod enc Try.prog w 0 (fun _=>true) held k 3 [c1]=_ at f1;change DataW.trod enc Try.prog w 0 (fun _=>true) held k 3 [c2]=_ at f2;change DataW.trod enc Try.prog w 0 (fun _=>true) held k 3 [c3]=_ at f3;obtain⟨a,e0,_⟩:=DataW.trod_int Try.underlying3 f0;obtain⟨b,e1,_⟩:=DataW.trod_int Try.underlying3 f1;obtain⟨c,e2,_⟩:=DataW.trod_int Try.underlying3 f2;obtain⟨d,e3,_⟩:=DataW.trod_int Try.underlying3 f3;cases e0;cases e1;cases e2;cases e3;exact⟨a,b,c,d,rfl,rfl,rfl,rfl⟩
end
theorem none_rel {W:World}{a b c d:Int}:VRel (seenR W) (.agg #[.int .i64 a,.int .i64 b,.int .i64 c,.int .i64 d]) (.agg #[.int .i64 a,.int .i64 b,.int .i64 c,.int .i64 d]):=by
 refine .agg rfl fun i v V a b=>?_;rw[a] at b;cases b
 match i,a with
 | 0,a=>cases a;exact .flat rfl
 | 1,a=>cases a;exact .flat rfl
 | 2,a=>cases a;exact .flat rfl
 | 3,a=>cases a;exact .flat rfl
 | _+4,a=>simp at a
theorem none_contract (H:Type)(enc:TypeId × Value→H)(W:World)(base:Nat)(args:Array Value)(ds gs:List (DataW H))(before:List MemPlace)
  (hval:∀ (j:Nat) t v,Try.f6.params[j]?=some t→args[j]?=some v→Value.okWide Try.prog W .any base t v)
  (hW:DataW.Whole enc Try.prog Try.f6.params.toList Rows.schedNoneSpec.vars false W args.toList ds gs before) :
  ∃ N last o w' t',runNT Try.prog (N+1) (solo (G (Frame.enter Try.prog 6 args .normal) []) W) #[]=(.ended o w',t')∧runN Try.prog N (solo (G (Frame.enter Try.prog 6 args .normal) []) W)=.next last ∧
    step Try.prog last=.ended o w'∧Go.Conc.Good Try.prog (fun v w'=>Rows.schedNoneSpec.post enc Try.prog Try.f6 false true false false W args v w') last o w' t':=by
 have hW':=hW;obtain⟨p,q,hA0,hV,rfl,hfz,hnd⟩:=hW;have hA:DataW.TrodAll enc Try.prog W 0 (fun _=>true) true Try.f6.params.toList args.toList ds p:=hA0;rw[Try.params6] at hA hval;obtain⟨v0,vs0,d0,ds0,p0,q0,hargs,rfl,rfl,h0,r0⟩:=trodAll_cons hA;obtain⟨rfl,rfl,rfl⟩:=trodAll_nil r0;obtain rfl:args=#[v0]:=by cases args;simp_all
 obtain⟨rfl,rfl⟩:=trodVars_none hV;obtain⟨cs,rfl,hsz⟩:=okWide_struct Try.underlying59 (hval 0 59 v0 rfl rfl);rw[cells59] at hsz;obtain⟨c0,c1,c2,c3,hcs⟩:=list4 (by rw[Array.length_toList];exact hsz);obtain rfl:cs=#[c0,c1,c2,c3]:=by cases cs;simp_all
 have h0':=h0;obtain⟨fuel,ht⟩:=h0';change DataW.trod enc Try.prog W 0 (fun _=>true) true fuel 59 [c0,c1,c2,c3]=_ at ht;obtain⟨bo,at',mo,pi,rfl,rfl,rfl,rfl⟩:=open_none ht;clear hA0 hA ht;simp only[List.append_nil] at hW' h0;obtain⟨n,hn,hn'⟩:=and_run W bo 15 15 rfl (by decide);obtain⟨long,hl,hl'⟩:=and_run W pi 131071 131071 rfl (by decide);have blind:∀ (x m:Int) (r:Int),(binOp .and 3 (.int .i64 x) (.int .i64 m)).run Try.prog W=.ok (.int .i64 r) W→∀ w,(binOp .and 3 (.int .i64 x) (.int .i64 m)).run Try.prog w=.ok (.int .i64 r) w:=fun x m r h w=>by
  simp only[go_sem,Try.underlying3,Try.runUnderlying3] at h ⊢;simpa using h
 refine sound_start (ty:=link.tWg) (fun i v hi=>?_) (none_law hn hl (blind _ _ _ hn') (blind _ _ _ hl') (start_idle W) fun W' hB'=>?_)
 ·match i,hi with
  | 0,hi=>cases hi;exact none_rel
  | _+1,hi=>simp at hi
 ·exact post_true rfl rfl rfl (fun _=>rfl) (by kernel_rfl) (of_decide_eq_true (by kernel_rfl)) hW' h0 hB'
theorem none_lifted (os:Os)(started:os.Started)(H:Type)(enc:TypeId × Value→H) :
  ReturnsInLeavingWide {} Try.checked os 6 .any (Rows.schedNoneSpec.pre6 enc Try.prog Try.f6 Rows.schedNoneRow.domain false) (Rows.schedNoneSpec.post enc Try.prog Try.f6 false true false false):=by
 refine returnsInLeavingWide_of_change_sized (C:=Try.checked) (s:=Rows.schedNoneSpec) own started Try.func6
  (ChangeSpec.witness6 (enc:=enc) (C:=Try.checked) (s:=Rows.schedNoneSpec) false ⟨#[],#[.agg #[.int .i64 0,.int .i64 0,.int .i64 0,.int .i64 0]],[]⟩ 8 (by kernel_rfl) (by kernel_rfl) (by kernel_rfl) (by kernel_rfl)) ?_
 intro W base args ds gs before hval hW _ _ _;exact none_contract H enc W base args ds gs before hval hW
theorem schedNone_said:Rows.SchedNoneSaid :=
 OpenClaim.holds_of_wide_leaving 6 Try.f6 rfl rfl rfl rfl rfl rfl rfl ⟨rfl,rfl,rfl,rfl,rfl⟩ rfl rfl rfl rfl rfl (by kernel_rfl) Try.func6 (by kernel_rfl)
  (of_decide_eq_true (by kernel_rfl)) (by unfold Func.isWrapper;first | (rw[if_pos (by decide +kernel)];kernel_rfl) | (rw[if_neg (by decide +kernel)];exact⟨rfl,rfl⟩))
  (fun os started H enc _=>none_lifted os started H enc)
#print axioms schedNone_said
end Go.Proofs.Ytkoehgfebipkkaa.Z
