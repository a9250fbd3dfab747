/- Hh Ia Ib Ic Id Ie If Ig Ih Ii Ik Il Ij Im In Jb Jc Jd Je Jf Jg Jh Ji Io -/
import Derived.Test.YtkoehgfebipkkaaMd
set_option linter.unusedVariables false
set_option linter.unusedSimpArgs false
set_option maxRecDepth 100000
set_option maxHeartbeats 6400000
noncomputable section
namespace Go.Proofs.Ytkoehgfebipkkaa.Lift
open Go Go.Conc Go.RowKit Pl
open Go.ConcN (sumTo upd sumTo_upd upd_ne upd_same WgLive)
section
variable {Q:ShC}{C:WC}
theorem arr_of {x y z:Value}{args:Array Value}{cp:Array Value}(h:x::cp.toList=args.toList)(hc:cp=#[y,z]):args=#[x,y,z]:=by
 subst hc;exact Array.ext' h.symm
theorem sh_ok (hn:C.n=Q.n)(hfn:∀ i,i<C.n→C.fn i=31)(hcap:∀ i,i<C.n→C.cap i=#[ptr (Q.ib i),ptr (Q.sx i)])(hM:Q.M<1099511627776)(hlen:∀ i,i<C.n→(Q.its i).length<4294967295):BOk (Q.bods C) C where
 dues i t a n:=by
  show(Q.go i t a n).1.due=1;cases t with
  | fresh=>exact runItems_due _ _ _ _ _
  | susp l=>exact runItems_due _ _ _ _ _
  | done=>rfl
 bound h hb:=by
  obtain⟨⟨R,gn,cn,hm⟩,_⟩:=h;exact hm.bound hb
 frame h hb hs:=by
  obtain⟨⟨R,gn,cn,hm⟩,hp⟩:=h;exact⟨⟨R,gn,cn,hm.frame hb hs⟩,hp⟩
 rsok h:=by
  obtain⟨c,d,e,rfl,hc,hd,k,t,_,_,_,rfl⟩:=h;intro f hf;simp only[List.mem_cons,List.not_mem_nil,or_false] at hf;rcases hf with rfl | rfl | rfl
  ·rcases hc with⟨t,rfl⟩ | ⟨t,rfl⟩
   ·exact⟨rfl,rfl,_,Try.func15⟩
   ·exact⟨rfl,rfl,_,Try.func16⟩
  ·rcases hd with⟨t,rfl⟩ | ⟨t,rfl⟩ | ⟨t,rfl⟩<;>exact⟨rfl,rfl,_,Try.func32⟩
  ·exact⟨rfl,rfl,_,Try.func31⟩
 ready {a st X w i l rv} h hi e:=by
  obtain⟨⟨R,gn,cn,hm⟩,_⟩:=h;have hw:=hm.waits i l rv (hn▸hi) e;cases hl:l.wait with
  | none =>
   rw[hl] at hw;refine .inl ⟨hw,?_⟩;show Q.rdy i l a=true;unfold ShC.rdy;rw[hl]
  | some x =>
   rw[hl] at hw;obtain⟨sb,xb,d,rfl,h1,h2,h3,h4⟩:=hw;refine .inr ⟨44,_,_,_,rfl,Try.func44,rfl,rfl,fun m K hK c cs w1 hc k1 hk=>?_⟩;have hbv:(Q.bods C).rdy i l a=decide (x≤a.sum):=by
    show Q.rdy i l a=_;unfold ShC.rdy;rw[hl]
   rw[hbv] at hk;have hm1:=hm.frame (fun b hb=>k1.block b (hm.bound hb) (by simp)) k1.size;refine hK.call fits shut (f:=44) rfl (R:=fun v w'=>v=.bool (decide (x≤a.sum))∧Kp [] w1 w') (fun v w' τ d ⟨q1,q2⟩=>⟨q1,⟨q2.size,q2.block⟩⟩) (fun τ d'=>(wfun_calls (Lift.re w1 τ d') sb xb Q.s a.sum d x _ (k1.cel h3 (by simp)) (Blk.cel hm1.sh) (k1.cel h4 (by simp))).mono fun e w' ⟨q1,n,q2⟩=>?_) ?_
   ·subst q2
    exact⟨_,q1,rfl,⟨Nat.le_refl _,fun _ _ _=>rfl⟩⟩
   ·rintro v w2 ⟨rfl,k2⟩
    exact hk w2 k2
 fns hi:=by
  rw[hfn _ hi];exact⟨_,_,Try.func31,rfl,rfl⟩
 run {i st a X w n ga ca ba sa ck F cs g} hi h hn' hn0 hbt hr hst hFm K hK hy hd:=by
  obtain⟨⟨R,gn,cn,hm⟩,hp⟩:=h;have hiQ:i<Q.n:=hn▸hi;have hpo:=oth_eq Q (fun j=>er (st j)) hiQ;have hD:=hK.det;have hp':a.notes.length+a.due+sumTo Q.n (fun j=>remE (Q.its j).length (er (st j)))≤Q.M:=hp;have hm':ShMem Q { a with due:=1} st X R gn cn w:=⟨hm.sh,hm.rep,hm.sf,hm.rr,hm.xx,hm.items,hm.waits,hm.behs,hm.keep⟩;cases e:st i with
  | fresh =>
   rw[e] at hst;obtain⟨args,ha,rfl⟩:=hst;obtain rfl:=arr_of ha (hcap i hi);rw[hfn i hi];have her:er (st i)=.fresh:=by rw[e];rfl
   simp only[her] at hpo;obtain⟨m1,m2,m3,m4,m5⟩:=hm.items i hiQ;refine bod_to hD m2 fun tm htm=>?_;refine body_go (Q:=Q) (C:=C) (st:=st) (res:=Q.go i (er (st i)) a n) hM hiQ (hlen i hi) hn' hFm hK hy hd (Q.its i) 0 { a with due:=1} X R gn cn w tm (by simp) (Nat.zero_le _) htm hm' rfl ?_ (Kx.refl _ _) hbt hr ?_
   ·have h2:remE (Q.its i).length (.fresh:ES ItL)=(Q.its i).length+1:=rfl
    show a.notes.length+_+_≤_;omega
   ·rw[her];rfl
  | susp l rv =>
   rw[e] at hst;obtain⟨c,rest,hrs,rfl⟩:=hst;have her:er (st i)=.susp l:=by rw[e];rfl
   simp only[her] at hpo;obtain⟨c',d',e',hl3,hc,hdd,k,t,hk,hkn,htm,rfl⟩:=hrs;cases hl3;have go:K (gs ((bodCall t).finish (.tuple #[])) (F::cs)) w:=by
    have hl:=hlen i hi;refine bod_next hD (by omega) htm fun tm htm'=>?_;refine body_go (Q:=Q) (C:=C) (st:=st) (res:=Q.go i (er (st i)) a n) hM hiQ (hlen i hi) hn' hFm hK hy hd ((Q.its i).drop (k+1)) (k+1) { a with due:=1} X R gn cn w tm rfl hkn htm' hm' rfl ?_ (Kx.refl _ _) hbt hr ?_
    ·have h2:remE (Q.its i).length (.susp l:ES ItL)=(Q.its i).length-l.next+1:=rfl
     show a.notes.length+(((Q.its i).drop (k+1)).length+1)+_≤_;rw[List.length_drop];omega
    ·rw[her]
     show _=runItems i n ((Q.its i).drop l.next) l.next _;rw[hk]
   have gd:K (gs (d'.finish (.tuple #[])) (bodCall t::F::cs)) w:=by
    rcases hdd with⟨t',rfl⟩ | ⟨t',rfl⟩ | ⟨t',rfl⟩
    ·exact d5_back hD rfl go
    ·exact d7_back hD rfl go
    ·exact d11_back hD rfl go
   rcases hc with⟨t',rfl⟩ | ⟨t',rfl⟩
   ·exact y15_back hD (by rcases hdd with⟨t',rfl⟩ | ⟨t',rfl⟩ | ⟨t',rfl⟩<;>rfl) gd
   ·exact y16_back hD (by rcases hdd with⟨t',rfl⟩ | ⟨t',rfl⟩ | ⟨t',rfl⟩<;>rfl) gd
  | done=>rw[e] at hst;exact hst.elim
theorem sh_beh (hw:Q.watch=true)(hM:Q.M<1099511627776):BehOk (Q.bods C) Q.beh (.func (.func 29) #[] #[ptr Q.bsb,ptr Q.bxb]):=by
 refine .inr ⟨29,_,_,_,rfl,Try.func29,rfl,rfl,fun {a st X w} hdue h m K hK c cs hc hk=>?_⟩;obtain⟨⟨R,gn,cn,hm⟩,hp⟩:=h;obtain⟨q1,q2,q3,q4⟩:=hm.behs hw;have hdue':a.due=1:=hdue;have hp':a.notes.length+a.due+sumTo Q.n (fun j=>remE (Q.its j).length (er (st j)))≤Q.M:=hp;refine hK.call fits shut2 (f:=29) rfl (R:=fun v w'=>v=.tuple #[]∧∃ vn',Blk w' Q.s [.int .i64 (wrap64 (a.sum+Q.bump)),vn'] 41∧RepI w' vn' (a.notes++[-77])∧Kp (Q.s::fp (.slice gn a.notes.length cn)) w w'∧∀ b∈fp vn',b∈fp (.slice gn a.notes.length cn)∨w.heap.size≤b)
  (fun v w' τ d ⟨h0,vn,h1,h2,h3,h4⟩=>⟨h0,vn,h1,h2,⟨h3.size,h3.block⟩,h4⟩) (fun τ d'=>(beh_calls (Lift.re w τ d') Q.s Q.bsb Q.bxb cn _ gn Q.bump a.sum _ _ _ _ a.notes hm.sh hm.rep rfl hm.sf q3 q4 (hm.rr _ q1).2.1 (hm.rr _ q2).2.1 ⟨(hm.rr _ q1).1,(hm.rr _ q2).1⟩ (by omega)).mono fun e w' h=>?_) ?_
 ·obtain⟨h0,vn,h1,h2,h3,h4⟩:=h
  exact⟨_,h0,rfl,vn,h1,h2,⟨h3.size,h3.block⟩,h4⟩
 ·rintro _ w2 ⟨rfl,vn,h1,h2,h3,h4⟩
  have hq:noteQ Q.s (wrap64 (a.sum+Q.bump)) (.slice gn a.notes.length cn) a.notes (-77) w w2:=⟨vn,h1,h2,h3,h4⟩;obtain⟨X',gn',cn',hm',hkx,_⟩:=hm.note2 0 hq;refine hk X' w2 ⟨⟨R,gn',cn',hm'⟩,?_⟩ hkx;unfold ShC.pot;show(a.notes++[-77]).length+0+sumTo Q.n (fun j=>remE (Q.its j).length (er (st j)))≤Q.M;rw[la'];simp only[List.length_singleton];omega
end
def Rd {α:Type}(f:α→Value)(w:World)(v:Value)(xs:List α):Prop :=
 ∃ g c,v=.slice g xs.length c∧(xs≠[]→∃ b o,g=some ⟨b,o,none⟩∧∀ (j:Nat) (u:α),xs[j]?=some u→w.cell? ⟨b,o+j,none⟩=some (f u))
theorem rep_rd {α:Type}{e:TypeId}{f:α→Value}{w:World}{v:Value}{xs:List α}(h:Rep e 1 (fun x=>[f x]) w v xs):Rd f w v xs:=by
 obtain⟨a,cap,rfl,h1,_,_⟩:=h.form;refine⟨a,cap,rfl,fun hne=>?_⟩;obtain⟨g,c2,q,_,_⟩:=h.ex (List.length_pos_iff.2 hne);cases q;refine⟨g,0,rfl,fun j u hj=>?_⟩;rw[Nat.zero_add];exact h.cell1 (fun _=>rfl) j u hj
theorem Bytes.rd {b:Nat}{w:World}{v:Value}{xs:List Nat}(h:Bytes b w v xs):Rd (fun x:Nat=>Value.int .u8 x) w v xs:=by
 obtain⟨g,c,rfl,_,_,_,h1⟩:=h;exact⟨g,c,rfl,fun hne=>by obtain⟨o,h2,h3⟩:=h1 hne;exact⟨b,o,h2,h3⟩⟩
theorem Rd.cells {α:Type}{f:α→Value}{w:World}{g:Option Addr}{n c:Nat}{xs:List α}(h:Rd f w (.slice g n c) xs):n=xs.length∧(0<n→∃ b o,g=some ⟨b,o,none⟩∧∀ (j:Nat),j<n→∃ u,xs[j]?=some u∧w.cell? ⟨b,o+j,none⟩=some (f u)):=by
 obtain⟨g',c',h1,h2⟩:=h;cases h1;refine⟨rfl,fun hn=>?_⟩;obtain⟨b,o,rfl,h3⟩:=h2 (List.length_pos_iff.1 hn);exact⟨b,o,rfl,fun j hj=>⟨xs[j],List.getElem?_eq_getElem hj,h3 j _ (List.getElem?_eq_getElem hj)⟩⟩
theorem take_ne {α:Type}{xs ys:List α}{j:Nat}{x y:α}(hx:xs[j]?=some x)(hy:ys[j]?=some y)(h:x≠y):xs≠ys:=by
 rintro rfl;rw[hx] at hy;exact h (oj' hy)
theorem take_eq {α:Type}{xs ys:List α}{j:Nat}{x:α}(hx:xs[j]?=some x)(hy:ys[j]?=some x)(h:xs.take j=ys.take j):xs.take (j+1)=ys.take (j+1):=by
 rw[List.take_add_one,List.take_add_one,h,hx,hy]
theorem all_eq {α:Type}{xs ys:List α}{n:Nat}(hx:n=xs.length)(hy:n=ys.length)(h:xs.take n=ys.take n):xs=ys:=by
 rwa [List.take_of_length_le (by omega),List.take_of_length_le (by omega)] at h
theorem ints_calls (w:World)(va vb:Value)(xs ys:List Int)(ha:Rd (fun x:Int=>Value.int .i64 x) w va xs)(hb:Rd (fun x:Int=>Value.int .i64 x) w vb ys)(hlen:xs.length<1099511627776)(hlen2:ys.length<1099511627776) :
  Calls Try.prog 11 #[va,vb] w fun e w'=>e=.returned (.bool (decide (xs=ys)))∧∃ n,w'=w.drewN n:=by
 obtain⟨ga,ca,rfl,_⟩:=id ha;obtain⟨gb,cb,rfl,_⟩:=id hb;obtain⟨_,hca⟩:=ha.cells;obtain⟨_,hcb⟩:=hb.cells;clear ha hb;by_cases hl:xs.length=ys.length
 ·obtain⟨n,hn⟩:∃ n,n=xs.length:=⟨_,rfl⟩
  rw[← hn] at hca hl hlen ⊢;rw[← hl] at hcb ⊢;have HN:=Lib.hid hn;have HL:=Lib.hid hl;have HA:=Lib.hid hca;have HB:=Lib.hid hcb;generalize hP:decide (xs=ys)=P;have HP:=Lib.hid hP;clear hn hl hca hcb hP hlen2
  go_enter Try.func11,Try.ntmps11
  go_wp2
  go_loopw [5] (fun iv wr=>∃ j k:Nat,j≤n∧iv=.int .i64 j∧xs.take j=ys.take j∧wr=w.drewN k) (fun iv _=>n-(intOf iv).toNat)
  case atStart=>exact⟨0,0,by omega,rfl,rfl,rfl⟩
  case round =>
   obtain⟨j,k,hj,rfl,ht,rfl⟩:=hrel;by_cases hlt:j<n
   ·obtain⟨b1,o1,rfl,q1⟩:=HA.out (by omega)
    obtain⟨b2,o2,rfl,q2⟩:=HB.out (by omega);obtain⟨x,x1,x2⟩:=q1 j hlt;obtain⟨y,y1,y2⟩:=q2 j hlt;have HX:=Lib.hid x1;have HY:=Lib.hid y1;have HT:=Lib.hid ht;clear q1 q2 x1 y1 ht;by_cases hxy:x=y
    ·subst hxy
     go_wp2
     go_quiet (fail)
     go_wp2
     go_roundw
     case rel=>exact⟨j+1,_,by omega,by go_num,take_eq HX.out HY.out HT.out,rfl⟩
     case measure=>simp[intOf];omega
    ·have hb:(x==y)=false:=by simpa using hxy
     go_wp2
     go_quiet (fail)
     go_wp2
     go_ret
     refine⟨?_,⟨_,by rw[World.drewN_drewN]⟩⟩;rw[← HP.out,decide_eq_false (take_ne HX.out HY.out hxy)];rfl
   ·obtain rfl:j=n:=by omega
    have HT:=Lib.hid ht;clear ht
    go_wp2
    go_ret
    refine⟨?_,_,rfl⟩;rw[← HP.out,decide_eq_true (all_eq HN.out HL.out HT.out)];rfl
 ·have hb:((xs.length:Int)==(ys.length:Int))=false:=by rw[beq_eq_false_iff_ne];omega
  have HL:=Lib.hid (fun h:xs=ys=>hl (by rw[h]));clear hl hca hcb;generalize hP:decide (xs=ys)=P;have HP:=Lib.hid hP;clear hP
  go_enter Try.func11,Try.ntmps11
  go_wp2
  go_ret
  refine⟨?_,0,rfl⟩;rw[← HP.out,decide_eq_false HL.out];rfl
def Lent (b:Nat)(w:World)(v:Value)(xs:List Nat):Prop :=
 ∃ c,v=.slice (some ⟨b,0,none⟩) xs.length c∧xs.length+40≤c∧c≤maxLen∧(∀ u∈xs,u<256)∧(∀ (j u:Nat),xs[j]?=some u→w.cell? ⟨b,j,none⟩=some (.int .u8 u))∧∀ j,xs.length≤j→j<xs.length+40→w.cell? ⟨b,j,none⟩=some (.int .u8 165)
theorem Lent.bytes {b:Nat}{w:World}{v:Value}{xs:List Nat}(h:Lent b w v xs):Bytes b w v xs:=by
 obtain⟨c,rfl,h1,h2,h3,h4,_⟩:=h;exact⟨_,c,rfl,by omega,h2,h3,fun _=>⟨0,rfl,fun j u hj=>by rw[Nat.zero_add];exact h4 j u hj⟩⟩
theorem Lent.same {b:Nat}{w w':World}{v:Value}{xs:List Nat}(h:Lent b w v xs)(e:w'.heap[b]?=w.heap[b]?):Lent b w' v xs:=by
 obtain⟨c,rfl,h1,h2,h3,h4,h5⟩:=h;exact⟨c,rfl,h1,h2,h3,fun j u hj=>(cell_same e).trans (h4 j u hj),fun j i1 i2=>(cell_same e).trans (h5 j i1 i2)⟩
theorem left_calls (w:World)(vl vb:Value)(pb:Nat)(xs:List Nat)(hl:Lent pb w vl xs)(hb:Rd (fun x:Nat=>Value.int .u8 x) w vb xs)(hlen:xs.length<1099511627776) :
  Calls Try.prog 30 #[vl,vb] w fun e w'=>e=.returned (.bool true)∧∃ n,w'=w.drewN n:=by
 obtain⟨c,rfl,h1,h2,h3,h4,h5⟩:=hl;obtain⟨gb,cb,rfl,_⟩:=id hb;obtain⟨_,hcb⟩:=hb.cells;clear hb;obtain⟨n,hn⟩:∃ n,n=xs.length:=⟨_,rfl⟩;rw[← hn] at hcb h1 h5 hlen ⊢;have H4:=Lib.hid h4;have H5:=Lib.hid h5;have HB:=Lib.hid hcb;clear hn hcb h4 h5 h3;unfold maxLen at h2
 go_enter Try.func30,Try.ntmps30
 go_wp2
 go_loopw [6] (fun iv wr=>∃ j k:Nat,j≤n+40∧iv=.int .i64 j∧wr=w.drewN k) (fun iv _=>n+40-(intOf iv).toNat)
 case atStart=>exact⟨0,0,by omega,rfl,rfl⟩
 case round =>
  obtain⟨j,k,hj,rfl,rfl⟩:=hrel;by_cases hlt:j<n
  ·obtain⟨b2,o2,rfl,q2⟩:=HB.out (by omega)
   obtain⟨x,x1,x2⟩:=q2 j hlt;have x3:=H4.out j x x1;have d1:decide (n≤j)=false:=decide_eq_false (by omega);clear q2 x1
   go_wp2
   go_quiet (fail)
   go_wp2
   go_roundw
   case rel=>exact⟨j+1,_,by omega,by go_num,rfl⟩
   case measure=>simp[intOf];omega
  ·by_cases hlt2:j<n+40
   ·have x3:=H5.out j (by omega) hlt2
    have d1:decide (n≤j)=true:=decide_eq_true (by omega);have d2:n≤j:=by omega
    go_wp2
    go_quiet (fail)
    go_wp2
    go_roundw
    case rel=>exact⟨j+1,_,by omega,by go_num,rfl⟩
    case measure=>simp[intOf];omega
   ·obtain rfl:j=n+40:=by omega
    go_wp2
    go_ret
    exact⟨rfl,_,rfl⟩
theorem lent_rel {w wr w2:World}{g2 cap2:Nat}{v:Value}{m:Nat}(h1:Keeps [] w wr)(h2:∀ b∈fp v,w.heap.size≤b)(k:Keeps (fp v) wr w2)(a2:g2∈fp v∨g2=wr.heap.size):Keeps [] w w2∧∀ b∈fp (.slice (some ⟨g2,0,none⟩) m cap2),w.heap.size≤b:=by
 have hz:=h1.size;refine⟨⟨k.os.trans h1.os,k.tape.trans h1.tape,k.output.trans h1.output,Nat.le_trans hz k.size,fun b hb _=>?_⟩,fun b hb=>?_⟩
 ·exact(k.block b (by omega) (fun hm=>by have:=h2 b hm;omega)).trans (h1.block b hb (by simp))
 ·obtain rfl:b=g2:=by simpa[fp,Value.ownBlock] using hb
  rcases a2 with q | q
  ·exact h2 _ q
  ·omega
theorem lent_end {wr:World}{g:Option Addr}{c n:Nat}{xs:List Nat}(hn:n=xs.length)(hu:∀ u∈xs,u<256)(h:RepU wr (.slice g (n+40) c) (xs++List.replicate 40 165)):∃ b,g=some ⟨b,0,none⟩∧Lent b wr (.slice g n c) xs∧b∈fp (.slice g (n+40) c)∧n+40≤c:=by
 subst hn;obtain⟨b,c2,q,_,h2⟩:=h.ex (by simp);have hcm:c≤maxLen:=by obtain⟨_,_,q1,_,_,q2⟩:=h.form;simp only[Value.slice.injEq] at q1;rw[q1.2.2];exact q2
 simp only[Value.slice.injEq] at q;obtain⟨rfl,q1,rfl⟩:=q;simp only[la',List.length_replicate] at h2;refine⟨b,rfl,⟨c,rfl,h2,hcm,hu,fun j u hj=>?_,fun j i1 i2=>?_⟩,by simp[fp,Value.ownBlock],h2⟩
 ·exact h.cell1 (u:=fun x:Nat=>Value.int .u8 x) (fun _=>rfl) j u (by rw[List.getElem?_append_left (List.getElem?_eq_some_iff.1 hj).1];exact hj)
 ·refine(h.cell1 (u:=fun x:Nat=>Value.int .u8 x) (fun _=>rfl) j 165 ?_).trans rfl
  rw[List.getElem?_append_right i1,List.getElem?_replicate,if_pos (by omega)]
theorem row_news {w:World}{b o:Nat}{xs:List Nat}(h:∀ (j u:Nat),xs[j]?=some u→w.cell? ⟨b,o+j,none⟩=some (.int .u8 u)):∀ (j:Nat) (u:Value),(xs.flatMap fun x:Nat=>[Value.int .u8 x])[j]?=some u→w.cell? ((⟨b,o,none⟩:Addr).add j)=some u:=by
 intro j u hj;rw[show(xs.flatMap fun x:Nat=>[Value.int .u8 x])=xs.map fun x:Nat=>Value.int .u8 x from List.map_eq_flatMap.symm,List.getElem?_map,Option.map_eq_some_iff] at hj;obtain⟨x,h1,rfl⟩:=hj;rw[show(⟨b,o,none⟩:Addr).add j=⟨b,o+j,none⟩ by simp[Addr.add]];exact h j x h1
theorem row_ones {xs:List Nat}:∀ u∈xs.flatMap fun x:Nat=>[Value.int .u8 x],u.oneCell'=true:=by
 intro u hu;obtain⟨x,_,h2⟩:=List.mem_flatMap.1 hu;rw[List.mem_singleton] at h2;subst h2;rfl
theorem lent_calls (w:World)(vb:Value)(xs:List Nat)(hb:Rd (fun x:Nat=>Value.int .u8 x) w vb xs)(hu:∀ u∈xs,u<256)(hlen:xs.length<1099511627776) :
  Calls Try.prog 26 #[vb] w fun e w'=>∃ b vl,e=.returned vl∧Lent b w' vl xs∧w.heap.size≤b∧Keeps [] w w':=by
 obtain⟨gb,cb,rfl,hx⟩:=hb;obtain⟨n,hn⟩:∃ n,n=xs.length:=⟨_,rfl⟩;rw[← hn] at hlen ⊢;have HN:=Lib.hid hn;have HU:=Lib.hid hu;have H0:Hid (RepU w (.slice none 0 0) []):=Lib.hid Rep.nil;by_cases h0:n=0
 ·subst h0
  obtain rfl:xs=[]:=List.eq_nil_of_length_eq_zero hn.symm;clear hx hn hu;cases gb
  all_goals
   go_enter Try.func26,Try.ntmps26
   go_wp2
   go_loopw [3,4] (fun lv iv wr=>∃ (j:Nat) (g:Option Addr) (c:Nat),j≤40∧iv=.int .i64 j∧lv=.slice g (0+j) c∧RepU wr (.slice g (0+j) c) ([]++List.replicate j 165)∧(∀ b∈fp (.slice g (0+j) c),w.heap.size≤b)∧Keeps [] w wr) (fun _ iv _=>40-(intOf iv).toNat)
   case atStart=>exact⟨0,_,_,by omega,rfl,rfl,by simpa using H0.out,by simp[fp,Value.ownBlock],Keeps.refl _ _⟩
   case round =>
    obtain⟨j,g,c,hj,rfl,rfl,hrep,hfr,hkp⟩:=hrel;by_cases hlt:j<40
    ·have HR:=Lib.hid (fun(W:World) (k:Keeps [] wr W)=>hrep.keeps k (by simp))
     have HF:=Lib.hid hfr;have HK:=Lib.hid hkp;clear hrep hfr hkp
     go_wp2_with (refine wpList_rep_append rfl (.tmp 12) (.tmp 13) 23 rfl (.int .u8 0) 1 Try.underlying23 info5 rfl (by decide) (.slice g (0+j) c) ([]++List.replicate j 165) rfl (HR.out _ ((Keeps.refl _ _).alloc _)) (fun _=>rfl) ⟨wr.heap.size,0,none⟩ 1 1 [165] rfl rfl (cell_one_new _ _ _) (by simp[Value.oneCell']) (by decide) (by have:=HN.out;unfold maxLen;simp only[la',List.length_replicate];omega) (by have:=HN.out;simp only[la',List.length_replicate];omega) ?_;intro g2 cap2 w2 r2 k2 a2 lg q2;have R2:=Lib.hid r2;have K2:=Lib.hid k2;have A2:=Lib.hid a2;clear r2 k2 a2)
     go_roundw
     case rel =>
      obtain⟨p1,p2⟩:=lent_rel (m:=0+(j+1)) (cap2:=cap2) (HK.out.alloc _) HF.out K2.out A2.out;have e:(([]:List Nat)++List.replicate j 165).length+1=0+(j+1):=by simp only[List.nil_append,List.length_replicate];omega
      refine⟨j+1,some ⟨g2,0,none⟩,cap2,by omega,by go_num,by rw[← e];simp,?_,p2,p1⟩;have r:=R2.out;rw[e,List.append_assoc,← List.replicate_succ'] at r;exact r
     case measure=>simp[intOf];omega
    ·obtain rfl:j=40:=by omega
     obtain⟨b,rfl,hle,hm,hc⟩:=lent_end HN.out HU.out hrep;have HL:=Lib.hid hle;have HK:=Lib.hid hkp;have hbl:=hfr b hm;clear hrep hfr hkp hle hm
     go_wp2
     go_ret
     exact⟨b,_,rfl,HL.out,hbl,HK.out⟩
 ·obtain⟨b0,o0,rfl,q0⟩:=hx (by intro e;rw[e] at hn;exact h0 hn)
  have HX:=Lib.hid q0;clear hx hn hu q0
  go_enter Try.func26,Try.ntmps26
  go_wp2_with (refine wpList_rep_append rfl (.tmp 5) (.tmp 6) 23 rfl (.int .u8 0) 1 Try.underlying23 info5 rfl (by decide) (.slice none 0 0) [] rfl H0.out (fun _=>rfl) ⟨b0,o0,none⟩ n cb xs rfl HN.out.symm (row_news HX.out) row_ones (by omega) (by unfold maxLen;simp only[List.length_nil];omega) (by simp only[List.length_nil];omega) ?_;intro g2 cap2 w2 r2 k2 a2 lg q2;have R2:=Lib.hid r2;have K2:=Lib.hid k2;have A2:=Lib.hid a2;clear r2 k2 a2)
  go_loopw [3,4] (fun lv iv wr=>∃ (j:Nat) (g:Option Addr) (c:Nat),j≤40∧iv=.int .i64 j∧lv=.slice g (n+j) c∧RepU wr (.slice g (n+j) c) (xs++List.replicate j 165)∧(∀ b∈fp (.slice g (n+j) c),w.heap.size≤b)∧Keeps [] w wr) (fun _ iv _=>40-(intOf iv).toNat)
  case atStart =>
   obtain⟨p1,p2⟩:=lent_rel (m:=n) (cap2:=cap2) (Keeps.refl [] w) (v:=.slice none 0 0) (by simp[fp,Value.ownBlock]) K2.out A2.out;refine⟨0,_,_,by omega,rfl,rfl,?_,p2,p1⟩;have:=R2.out;simpa using this
  case round =>
   obtain⟨j,g,c,hj,rfl,rfl,hrep,hfr,hkp⟩:=hrel;by_cases hlt:j<40
   ·have HR:=Lib.hid (fun(W:World) (k:Keeps [] wr W)=>hrep.keeps k (by simp))
    have HF:=Lib.hid hfr;have HK:=Lib.hid hkp;clear hrep hfr hkp
    go_wp2_with (refine wpList_rep_append rfl (.tmp 12) (.tmp 13) 23 rfl (.int .u8 0) 1 Try.underlying23 info5 rfl (by decide) (.slice g (n+j) c) (xs++List.replicate j 165) rfl (HR.out _ ((Keeps.refl _ _).alloc _)) (fun _=>rfl) ⟨wr.heap.size,0,none⟩ 1 1 [165] rfl rfl (cell_one_new _ _ _) (by simp[Value.oneCell']) (by decide) (by have:=HN.out;unfold maxLen;simp only[la',List.length_replicate];omega) (by have:=HN.out;simp only[la',List.length_replicate];omega) ?_;intro g2 cap2 w2 r2 k2 a2 lg q2;have R2:=Lib.hid r2;have K2:=Lib.hid k2;have A2:=Lib.hid a2;clear r2 k2 a2)
    go_roundw
    case rel =>
     obtain⟨p1,p2⟩:=lent_rel (m:=n+(j+1)) (cap2:=cap2) (HK.out.alloc _) HF.out K2.out A2.out;have e:(xs++List.replicate j 165).length+1=n+(j+1):=by have:=HN.out;simp only[la',List.length_replicate];omega
     refine⟨j+1,some ⟨g2,0,none⟩,cap2,by omega,by go_num,by have e2:xs.length+j+1=n+(j+1):=(by have:=HN.out;omega);simp only[la',List.length_replicate,e2],?_,p2,p1⟩;have r:=R2.out;rw[e,List.append_assoc,← List.replicate_succ'] at r;exact r
    case measure=>simp[intOf];omega
   ·obtain rfl:j=40:=by omega
    obtain⟨b,rfl,hle,hm,hc⟩:=lent_end HN.out HU.out hrep;have HL:=Lib.hid hle;have HK:=Lib.hid hkp;have hbl:=hfr b hm;clear hrep hfr hkp hle hm
    go_wp2
    go_ret
    exact⟨b,_,rfl,HL.out,hbl,HK.out⟩
theorem body_calls (w:World)(s:Nat)(g:Option Addr)(n c:Nat) :
  Calls Try.prog 13 #[ptr s,.slice g n c] w fun e w'=>e=.returned (.func (.func 31) #[] #[ptr (w.heap.size+1),ptr w.heap.size])∧w'=(w.alloc (.cells #[ptr s] 34)).alloc (.cells #[.slice g n c] 51):=by
 go_enter Try.func13,Try.ntmps13
 go_wp2
 go_ret
 exact⟨rfl,rfl⟩
theorem info54:(Try.prog.info? 54).map (fun i=>(i.zero,i.size,i.bytes))=some (some .nilFunc,1,8):=by kernel_rfl
abbrev RepF (w:World)(v:Value)(xs:List Value):Prop:=Rep 54 1 (fun x:Value=>[x]) w v xs
def bodV (bs:Nat × Nat):Value:=.func (.func 31) #[] #[ptr bs.1,ptr bs.2]
def MadeF (s N:Nat)(ths:List Value)(bs:List (Nat × Nat))(fs:List Nat)(w:World):Prop :=
 ∀ (i:Nat) (x y:Nat),bs[i]?=some (x,y)→N≤x∧N≤y∧x∉fs∧y∉fs∧∃ v,ths[i]?=some v∧Cel w x [v] 51∧Cel w y [ptr s] 34
theorem made_rel {s N j g2 cap2 m:Nat}{v v':Value}{ths:List Value}{bs:List (Nat × Nat)}{w w2:World}(hm:MadeF s N ths bs (fp v) w)(hN:N≤w.heap.size)(hj:bs.length=j)(hv:ths[j]?=some v')(hfl:∀ b∈fp v,b<w.heap.size)
  (k:Keeps (fp v) (((w.alloc (.cells #[ptr s] 34)).alloc (.cells #[v'] 51)).alloc (.cells #[bodV (w.heap.size+1,w.heap.size)] 54)) w2)
  (a2:g2∈fp v∨g2=(((w.alloc (.cells #[ptr s] 34)).alloc (.cells #[v'] 51)).alloc (.cells #[bodV (w.heap.size+1,w.heap.size)] 54)).heap.size):MadeF s N ths (bs++[(w.heap.size+1,w.heap.size)]) (fp (.slice (some ⟨g2,0,none⟩) m cap2)) w2:=by
 intro i x y h;have hg:∀ z,z<w.heap.size+2→z∉fp v→z∉fp (.slice (some ⟨g2,0,none⟩) m cap2):=fun z hz hn hm=>by
  obtain rfl:z=g2:=by simpa[fp,Value.ownBlock] using hm
  rcases a2 with q | q
  ·exact hn q
  ·rw[wz',wz',wz'] at q;omega
 have k0:Keeps [] w (((w.alloc (.cells #[ptr s] 34)).alloc (.cells #[v'] 51)).alloc (.cells #[bodV (w.heap.size+1,w.heap.size)] 54)):=(((Keeps.refl _ _).alloc _).alloc _).alloc _;by_cases hi:i<bs.length
 ·rw[List.getElem?_append_left hi] at h
  obtain⟨h1,h2,h3,h4,u,h5,h6,h7⟩:=hm i x y h;exact⟨h1,h2,hg x (by have:=h6.lt;omega) h3,hg y (by have:=h7.lt;omega) h4,u,h5,(Keeps.kp k).cel ((Keeps.kp k0).cel h6 (by simp)) h3,(Keeps.kp k).cel ((Keeps.kp k0).cel h7 (by simp)) h4⟩
 ·rw[List.getElem?_append_right (by omega)] at h
  have hi2:i=bs.length:=by
   have:=(List.getElem?_eq_some_iff.1 h).1;simp only[List.length_singleton] at this;omega
  subst hi2;rw[Nat.sub_self] at h;simp only[List.getElem?_cons_zero,Option.some.injEq,Prod.mk.injEq] at h;obtain⟨rfl,rfl⟩:=h;have n1:w.heap.size+1∉fp v:=fun hm=>by have:=hfl _ hm;omega
  have n2:w.heap.size∉fp v:=fun hm=>by have:=hfl _ hm;omega
  refine⟨by omega,hN,hg _ (by omega) n1,hg _ (by omega) n2,v',by rw[hj];exact hv,(Keeps.kp k).cel ?_ n1,(Keeps.kp k).cel ?_ n2⟩
  ·have:=(Blk.new (w.alloc (.cells #[ptr s] 34)) [v'] 51).alloc (.cells #[bodV (w.heap.size+1,w.heap.size)] 54)
   rw[wz'] at this;exact Blk.cel this
  ·exact Blk.cel (((Blk.new w [ptr s] 34).alloc _).alloc _)
theorem bodies_calls (w:World)(s:Nat)(vt:Value)(ths:List Value)(hb:Rd (fun x:Value=>x) w vt ths)(hsl:∀ v∈ths,∃ g n c,v=.slice g n c)(hlen:ths.length<1099511627776) :
  Calls Try.prog 28 #[ptr s,vt] w fun e w'=>∃ vf bs,e=.returned vf∧RepF w' vf (bs.map bodV)∧bs.length=ths.length∧MadeF s w.heap.size ths bs (fp vf) w'∧(∀ b∈fp vf,w.heap.size≤b)∧Keeps [] w w':=by
 obtain⟨gt,ct,rfl,_⟩:=id hb;obtain⟨_,hcb⟩:=hb.cells;obtain⟨n,hn⟩:∃ n,n=ths.length:=⟨_,rfl⟩;rw[← hn] at hcb hlen ⊢;have HN:=Lib.hid hn;have HC:=Lib.hid hcb;have HS:=Lib.hid hsl;have HB:=Lib.hid hb;clear hb hn hcb hsl
 go_enter Try.func28,Try.ntmps28
 go_wp2
 go_loopw [5,6] (fun lv iv wr=>∃ (j:Nat) (bs:List (Nat × Nat)),j≤n∧iv=.int .i64 j∧bs.length=j∧RepF wr lv (bs.map bodV)∧MadeF s w.heap.size ths bs (fp lv) wr∧(∀ b∈fp lv,w.heap.size≤b)∧Keeps [] w wr) (fun _ iv _=>n-(intOf iv).toNat)
 case atStart=>exact⟨0,[],by omega,rfl,rfl,Rep.nil,(fun i x y h=>by simp at h),by simp[fp,Value.ownBlock],Keeps.refl _ _⟩
 case round =>
  obtain⟨j,bs,hj,rfl,hbl,hrep,hmd,hfr,hkp⟩:=hrel;by_cases hlt:j<n
  ·obtain⟨b0,o0,rfl,q0⟩:=HC.out (by omega)
   obtain⟨v',v1,v2⟩:=q0 j hlt;obtain⟨g3,n3,c3,rfl⟩:=HS.out v' (List.mem_of_getElem? v1);have b0l:b0<w.heap.size:=by
    rcases Nat.lt_or_ge b0 w.heap.size with h | h
    ·exact h
    ·exfalso
     unfold World.cell? at v2;simp only at v2;rw[ae' h] at v2;simp at v2
   have v3:wr.cell? ⟨b0,o0+j,none⟩=some (.slice g3 n3 c3):=(cell_same (hkp.block b0 b0l (by simp))).trans v2;have HR:=Lib.hid (fun(W:World) (k:Keeps [] wr W)=>hrep.keeps k (by simp));have HFL:=Lib.hid hrep.fp_lt;have HF:=Lib.hid hfr;have HK:=Lib.hid hkp;have HM:=Lib.hid hmd;have HV:=Lib.hid v1;have hsz:=hkp.size;obtain⟨gl,cl,rfl,_⟩:=hrep.form;have hml:(bs.map bodV).length=j:=by rw[List.length_map,hbl]
   rw[hml] at HR HFL HF HM ⊢;clear hrep hfr hkp hmd v1 v2 q0;have HO:=Lib.hid (cell_one_at ((wr.alloc (.cells #[ptr s] 34)).alloc (.cells #[.slice g3 n3 c3] 51)) (bodV (wr.heap.size+1,wr.heap.size)) 54 (N:=wr.heap.size+2) (by rw[wz',wz']))
   go_wp2_with (first | (go_at_call 13;refine(body_calls _ _ _ _ _).mono ?_;rintro e w' ⟨rfl,rfl⟩) | (refine wpList_rep_append rfl (.tmp 13) (.tmp 20) 50 rfl .nilFunc 8 Try.underlying50 info54 rfl (by decide) (.slice gl j cl) (bs.map bodV) rfl (HR.out _ ((((Keeps.refl _ _).alloc _).alloc _).alloc _)) (fun _=>rfl) ⟨wr.heap.size+2,0,none⟩ 1 1 [bodV (wr.heap.size+1,wr.heap.size)] rfl rfl HO.out (by simp[bodV,Value.oneCell']) (by decide) (by rw[hml];unfold maxLen;omega) (by rw[hml];omega) ?_;intro g2 cap2 w2 r2 k2 a2 lg q2;have R2:=Lib.hid r2;have K2:=Lib.hid k2;have A2:=Lib.hid a2;clear r2 k2 a2))
   go_roundw
   case rel =>
    refine⟨j+1,bs++[(wr.heap.size+1,wr.heap.size)],by omega,by go_num,by rw[la',hbl];rfl,by rw[List.map_append];have r:=R2.out;rw[hml] at r;exact r,made_rel HM.out hsz hbl HV.out HFL.out K2.out A2.out,fun b hb=>?_,?_⟩
    ·obtain rfl:b=g2:=by simpa[fp,Value.ownBlock] using hb
     rcases A2.out with q | q
     ·exact HF.out _ q
     ·rw[wz',wz',wz'] at q;omega
    ·exact(lent_rel (m:=0) (cap2:=0) (((HK.out.alloc _).alloc _).alloc _) HF.out K2.out A2.out).1
   case measure=>simp[intOf];omega
  ·obtain rfl:j=n:=by omega
   have HR:=Lib.hid hrep;have HF:=Lib.hid hfr;have HK:=Lib.hid hkp;have HM:=Lib.hid hmd;clear hrep hfr hkp hmd
   go_wp2
   go_ret
   exact⟨_,bs,rfl,HR.out,hbl,HM.out,HF.out,HK.out⟩
abbrev u8:Nat→Value:=fun x=>Value.int .u8 x
def repV (va ve:Value)(used:Int):Value:=.agg #[va,ve,.int .i64 used]
def RdR (w:World)(v:Value)(acts ends:List Nat)(used:Int):Prop:=∃ va ve,v=repV va ve used∧Rd u8 w va acts∧Rd u8 w ve ends
theorem Rd.slice {α:Type}{f:α→Value}{w:World}{v:Value}{xs:List α}(h:Rd f w v xs):∃ g c,v=.slice g xs.length c:=by
 obtain⟨g,c,h,_⟩:=h;exact⟨g,c,h⟩
theorem Rd.mono {α:Type}{f:α→Value}{w w':World}{v:Value}{xs:List α}(h:Rd f w v xs)(k:∀ b o u,w.cell? ⟨b,o,none⟩=some u→w'.cell? ⟨b,o,none⟩=some u):Rd f w' v xs:=by
 obtain⟨g,c,rfl,h⟩:=h;refine⟨g,c,rfl,fun hne=>?_⟩;obtain⟨b,o,rfl,h2⟩:=h hne;exact⟨b,o,rfl,fun j u hj=>k _ _ _ (h2 j u hj)⟩
theorem cell_lt {w:World}{b o:Nat}{u:Value}(h:w.cell? ⟨b,o,none⟩=some u):b<w.heap.size:=by
 rcases Nat.lt_or_ge b w.heap.size with q | q
 ·exact q
 ·exfalso
  unfold World.cell? at h;simp only at h;rw[ae' q] at h;simp at h
theorem Kp.cells {w w':World}(k:Kp [] w w')(b o:Nat)(u:Value)(h:w.cell? ⟨b,o,none⟩=some u):w'.cell? ⟨b,o,none⟩=some u:=(cell_same (k.block b (cell_lt h) (by simp))).trans h
theorem same_calls (w:World)(v1 v2:Value)(a1 e1 a2 e2:List Nat)(u1 u2:Int)(h1:RdR w v1 a1 e1 u1)(h2:RdR w v2 a2 e2 u2)(l1:a1.length<1099511627776)(l2:a2.length<1099511627776)(l3:e1.length<1099511627776)(l4:e2.length<1099511627776) :
  Calls Try.prog 10 #[v1,v2] w fun e w'=>e=.returned (.bool (decide (a1=a2∧e1=e2∧u1=u2)))∧Kp [] w w':=by
 obtain⟨va,ve,rfl,ha,he⟩:=h1;obtain⟨vb,vf,rfl,hb,hf⟩:=h2;obtain⟨ga,ca,rfl⟩:=ha.slice;obtain⟨ge,ce,rfl⟩:=he.slice;obtain⟨gb,cb,rfl⟩:=hb.slice;obtain⟨gf,cf,rfl⟩:=hf.slice;obtain⟨_,qa⟩:=ha.cells;obtain⟨_,qe⟩:=he.cells;obtain⟨_,qb⟩:=hb.cells;obtain⟨_,qf⟩:=hf.cells;clear ha he hb hf;generalize hP:decide (a1=a2∧e1=e2∧u1=u2)=P;have HP:=Lib.hid hP;clear hP;have HK:Hid (Kp [] w ((w.alloc (.cells #[.slice ga a1.length ca,.slice ge e1.length ce,.int .i64 u1] 30)).alloc (.cells #[.slice gb a2.length cb,.slice gf e2.length cf,.int .i64 u2] 30))):=Lib.hid (Keeps.kp (((Keeps.refl _ _).alloc _).alloc _));by_cases d1:a1.length=a2.length
 ·by_cases d2:e1.length=e2.length
  ·by_cases d3:u1=u2
   ·subst d3
    obtain⟨n,hn⟩:∃ n,n=a1.length:=⟨_,rfl⟩;obtain⟨m,hm⟩:∃ m,m=e1.length:=⟨_,rfl⟩;unfold repV;rw[← hn] at qa d1 l1 HK ⊢;rw[← hm] at qe d2 l3 HK ⊢;rw[← d1] at qb HK ⊢;rw[← d2] at qf HK ⊢;have HN:=Lib.hid hn;have HM:=Lib.hid hm;have HN2:=Lib.hid d1;have HM2:=Lib.hid d2;have HA:=Lib.hid qa;have HB:=Lib.hid qb;have HE:=Lib.hid qe;have HF0:=Lib.hid qf;clear qa qb qe qf hn hm d1 d2 l2 l4;have HW:=Lib.hid (show((w.alloc (.cells #[.slice ga n ca,.slice ge m ce,.int .i64 u1] 30)).alloc (.cells #[.slice gb n cb,.slice gf m cf,.int .i64 u1] 30)).cell? ⟨w.heap.size,0,none⟩=some (.slice ga n ca)∧((w.alloc (.cells #[.slice ga n ca,.slice ge m ce,.int .i64 u1] 30)).alloc (.cells #[.slice gb n cb,.slice gf m cf,.int .i64 u1] 30)).cell? ⟨w.heap.size,1,none⟩=some (.slice ge m ce)∧((w.alloc (.cells #[.slice ga n ca,.slice ge m ce,.int .i64 u1] 30)).alloc (.cells #[.slice gb n cb,.slice gf m cf,.int .i64 u1] 30)).cell? ⟨w.heap.size+1,0,none⟩=some (.slice gb n cb)∧((w.alloc (.cells #[.slice ga n ca,.slice ge m ce,.int .i64 u1] 30)).alloc (.cells #[.slice gb n cb,.slice gf m cf,.int .i64 u1] 30)).cell? ⟨w.heap.size+1,1,none⟩=some (.slice gf m cf) from by
     have h1:=(Blk.new w [.slice ga n ca,.slice ge m ce,.int .i64 u1] 30).alloc (.cells #[.slice gb n cb,.slice gf m cf,.int .i64 u1] 30);have h2:=Blk.new (w.alloc (.cells #[.slice ga n ca,.slice ge m ce,.int .i64 u1] 30)) [.slice gb n cb,.slice gf m cf,.int .i64 u1] 30;rw[wz'] at h2;exact⟨h1.cell 0,h1.cell 1,h2.cell 0,h2.cell 1⟩)
    go_enter Try.func10,Try.ntmps10
    go_wp2
    go_loopw [5] (fun iv wr=>∃ j k:Nat,j≤n∧iv=.int .i64 j∧a1.take j=a2.take j∧wr=((w.alloc (.cells #[.slice ga n ca,.slice ge m ce,.int .i64 u1] 30)).alloc (.cells #[.slice gb n cb,.slice gf m cf,.int .i64 u1] 30)).drewN k) (fun iv _=>n-(intOf iv).toNat)
    case atStart=>exact⟨0,0,by omega,rfl,rfl,rfl⟩
    case round =>
     obtain⟨j,k,hj,rfl,ht,rfl⟩:=hrel;have HT:=Lib.hid ht;clear ht;obtain⟨c0,c1,c2,c3⟩:=HW.out;by_cases hlt:j<n
     ·generalize hW2:((w.alloc (.cells #[.slice ga n ca,.slice ge m ce,.int .i64 u1] 30)).alloc (.cells #[.slice gb n cb,.slice gf m cf,.int .i64 u1] 30))=W2 at HK c0 c1 c2 c3 ⊢
      clear hW2 HW;obtain⟨b1,o1,rfl,q1⟩:=HA.out (by omega);obtain⟨b2,o2,rfl,q2⟩:=HB.out (by omega);obtain⟨x,x1,x2⟩:=q1 j hlt;obtain⟨y,y1,y2⟩:=q2 j hlt;have x3:=HK.out.cells _ _ _ x2;have y3:=HK.out.cells _ _ _ y2;have HX:=Lib.hid x1;have HY:=Lib.hid y1;clear q1 q2 x1 y1 x2 y2;by_cases hxy:x=y
      ·subst hxy
       go_wp2
       go_quiet (fail)
       go_wp2
       go_roundw
       case rel=>exact⟨j+1,_,by omega,by go_num,take_eq HX.out HY.out HT.out,rfl⟩
       case measure=>simp[intOf];omega
      ·have hb:((x:Int)==(y:Int))=false:=by rw[beq_eq_false_iff_ne];omega
       have HF:=Lib.hid (show P=false from HP.out▸decide_eq_false fun h=>take_ne HX.out HY.out hxy h.1)
       go_wp2
       go_quiet (fail)
       go_wp2
       go_ret
       exact⟨by rw[HF.out];rfl,⟨HK.out.size,HK.out.block⟩⟩
     ·obtain rfl:n=j:=by omega
      have HEQ:=Lib.hid (all_eq HN.out HN2.out HT.out)
      go_wp2
      go_loopw [6] (fun iv wr=>∃ j k:Nat,j≤m∧iv=.int .i64 j∧e1.take j=e2.take j∧wr=((w.alloc (.cells #[.slice ga n ca,.slice ge m ce,.int .i64 u1] 30)).alloc (.cells #[.slice gb n cb,.slice gf m cf,.int .i64 u1] 30)).drewN k) (fun iv _=>m-(intOf iv).toNat)
      case atStart=>exact⟨0,_,by omega,rfl,rfl,rfl⟩
      case round =>
       obtain⟨j,k,hj,rfl,ht,rfl⟩:=hrel;have HT:=Lib.hid ht;clear ht;obtain⟨c0,c1,c2,c3⟩:=HW.out;by_cases hlt:j<m
       ·generalize hW2:((w.alloc (.cells #[.slice ga n ca,.slice ge m ce,.int .i64 u1] 30)).alloc (.cells #[.slice gb n cb,.slice gf m cf,.int .i64 u1] 30))=W2 at HK c0 c1 c2 c3 ⊢
        clear hW2 HW;obtain⟨b1,o1,rfl,q1⟩:=HE.out (by omega);obtain⟨b2,o2,rfl,q2⟩:=HF0.out (by omega);obtain⟨x,x1,x2⟩:=q1 j hlt;obtain⟨y,y1,y2⟩:=q2 j hlt;have x3:=HK.out.cells _ _ _ x2;have y3:=HK.out.cells _ _ _ y2;have HX:=Lib.hid x1;have HY:=Lib.hid y1;clear q1 q2 x1 y1 x2 y2;by_cases hxy:x=y
        ·subst hxy
         go_wp2
         go_quiet (fail)
         go_wp2
         go_roundw
         case rel=>exact⟨j+1,_,by omega,by go_num,take_eq HX.out HY.out HT.out,rfl⟩
         case measure=>simp[intOf];omega
        ·have hb:((x:Int)==(y:Int))=false:=by rw[beq_eq_false_iff_ne];omega
         have HF:=Lib.hid (show P=false from HP.out▸decide_eq_false fun h=>take_ne HX.out HY.out hxy h.2.1)
         go_wp2
         go_quiet (fail)
         go_wp2
         go_ret
         exact⟨by rw[HF.out];rfl,⟨HK.out.size,HK.out.block⟩⟩
       ·obtain rfl:m=j:=by omega
        have HEQ2:=Lib.hid (all_eq HM.out HM2.out HT.out);have HF:=Lib.hid (show P=true from HP.out▸decide_eq_true ⟨HEQ.out,HEQ2.out,by trivial⟩)
        go_wp2
        go_ret
        exact⟨by rw[HF.out];rfl,⟨HK.out.size,HK.out.block⟩⟩
   ·have hb:(u1==u2)=false:=by simpa using d3
    have HF:=Lib.hid (show P=false from HP.out▸decide_eq_false fun h=>d3 h.2.2);clear qa qe qb qf;unfold repV;rw[d1,d2] at HK ⊢
    go_enter Try.func10,Try.ntmps10
    go_wp2
    go_ret
    exact⟨by rw[HF.out];rfl,HK.out⟩
  ·have hb:((e1.length:Int)==(e2.length:Int))=false:=by rw[beq_eq_false_iff_ne];omega
   have HF:=Lib.hid (show P=false from HP.out▸decide_eq_false fun h=>d2 (by rw[h.2.1]));clear qa qe qb qf;unfold repV;rw[d1] at HK ⊢
   go_enter Try.func10,Try.ntmps10
   go_wp2
   go_ret
   exact⟨by rw[HF.out];rfl,HK.out⟩
 ·have hb:((a1.length:Int)==(a2.length:Int))=false:=by rw[beq_eq_false_iff_ne];omega
  have HF:=Lib.hid (show P=false from HP.out▸decide_eq_false fun h=>d1 (by rw[h.1]));clear qa qe qb qf;unfold repV
  go_enter Try.func10,Try.ntmps10
  go_wp2
  go_ret
  exact⟨by rw[HF.out];rfl,HK.out⟩
structure Th where
 g:Option Addr
 c:Nat
 its:List (Int × Int)
 next:Nat
 over:Bool
 waits:Bool
 till:Int
def Th.items (t:Th):Value:=.slice t.g t.its.length t.c
def thF (t:Th):List Value:=[t.items,.int .i64 t.next,.bool t.over,.bool t.waits,.int .i64 t.till]
abbrev RepT (w:World)(v:Value)(xs:List Th):Prop:=Rep 65 5 thF w v xs
theorem info65:(Try.prog.info? 65).map (fun i=>(i.zero,i.size,i.bytes))=some (some (.agg #[.slice none 0 0,.int .i64 0,.bool false,.bool false,.int .i64 0]),5,48):=by kernel_rfl
theorem cells_new (w:World)(vs:List Value)(t:TypeId){N:Nat}(hN:N=w.heap.size):∀ (j:Nat) (u:Value),vs[j]?=some u→(w.alloc (.cells vs.toArray t)).cell? ((⟨N,0,none⟩:Addr).add j)=some u:=by
 subst hN;intro j u h;rw[show(⟨w.heap.size,0,none⟩:Addr).add j=⟨w.heap.size,j,none⟩ by simp only[Addr.add,Nat.zero_add];split<;>simp_all];rw[(Blk.new w vs t).cell j];exact h
def Th.newT (t:Th):Prop:=t.next=0∧t.over=false∧t.waits=false∧t.till=0
structure Mach (N:Nat→Prop)(r:Nat)(ths:List Th)(sum:Int)(notes:List Int)(acts:List Nat)(vt vn va:Value)(w:World):Prop where
 b:Blk w r [vt,.int .i64 sum,vn,va] 44
 t:RepT w vt ths
 n:RepI w vn notes
 a:RepU w va acts
 hr:¬N r
 ht:∀ b∈fp vt,¬N b∧b≠r∧b∉fp vn∧b∉fp va
 hn:∀ b∈fp vn,¬N b∧b≠r∧b∉fp va
 ha:∀ b∈fp va,¬N b∧b≠r
theorem new_calls (w:World)(vt:Value)(ths:List Th)(hb:Rd Th.items w vt ths)(hnew:∀ t∈ths,t.newT)(hlen:ths.length<1099511627776) :
  Calls Try.prog 7 #[vt] w fun e w'=>∃ r v,e=.returned (ptr r)∧Mach (fun x=>x<w.heap.size) r ths 0 [] [] v (.slice none 0 0) (.slice none 0 0) w'∧Keeps [] w w':=by
 obtain⟨gt,ct,rfl⟩:=hb.slice;obtain⟨_,hcb⟩:=hb.cells;obtain⟨n,hn⟩:∃ n,n=ths.length:=⟨_,rfl⟩;rw[← hn] at hcb hlen ⊢;have HN:=Lib.hid hn;have HC:=Lib.hid hcb;have HB:=Lib.hid hnew;clear hb hn hcb hnew
 go_enter Try.func7,Try.ntmps7
 go_wp2
 go_loopw [4] (fun iv wr=>∃ (j:Nat) (g:Option Addr) (c:Nat),j≤n∧iv=.int .i64 j∧Blk wr w.heap.size [.slice g j c,.int .i64 0,.slice none 0 0,.slice none 0 0] 44∧RepT wr (.slice g j c) (ths.take j)∧(∀ b∈fp (.slice g j c),w.heap.size<b)∧Keeps [] w wr) (fun iv _=>n-(intOf iv).toNat)
 case atStart=>exact⟨0,none,0,by omega,rfl,Blk.new _ _ _,Rep.nil,by simp[fp,Value.ownBlock],(Keeps.refl _ _).alloc _⟩
 case round =>
  obtain⟨j,g,c,hj,rfl,hbk,hrep,hfr,hkp⟩:=hrel;by_cases hlt:j<n
  ·obtain⟨b0,o0,rfl,q0⟩:=HC.out (by omega)
   obtain⟨t,v1,v2⟩:=q0 j hlt;have b0l:=cell_lt v2;have v3:wr.cell? ⟨b0,o0+j,none⟩=some (.slice t.g t.its.length t.c):=(cell_same (hkp.block b0 b0l (by simp))).trans v2;have c0:wr.cell? ⟨w.heap.size,0,none⟩=some (.slice g j c):=hbk.cell 0;have hbl:=hbk.lt;have HR:=Lib.hid (fun(W:World) (k:Keeps [] wr W)=>hrep.keeps k (by simp));have HF:=Lib.hid hfr;have HK:=Lib.hid hkp;have HV:=Lib.hid v1;have HBK:=Lib.hid hbk;have hsz:=hkp.size;have HT:=Lib.hid (HB.out t (List.mem_of_getElem? v1));have hml:(ths.take j).length=j:=by rw[List.length_take];have:=HN.out;omega
   have HO:=Lib.hid (fun(W:World)=>(show ∀ (j:Nat) (u:Value),([t].flatMap thF)[j]?=some u→(W.alloc (.cells #[.slice t.g t.its.length t.c,.int .i64 0,.bool false,.bool false,.int .i64 0] 65)).cell? ((⟨W.heap.size,0,none⟩:Addr).add j)=some u by
    obtain⟨p1,p2,p3,p4⟩:=HT.out;have e:[t].flatMap thF=[.slice t.g t.its.length t.c,.int .i64 0,.bool false,.bool false,.int .i64 0]:=by simp[thF,Th.items,p1,p2,p3,p4]
    rw[e];exact cells_new W [.slice t.g t.its.length t.c,.int .i64 0,.bool false,.bool false,.int .i64 0] 65 (N:=W.heap.size) rfl))
   clear hrep hfr hkp hbk v1 v2 q0
   go_wp2
   go_region_law (refine step_rep_append rfl (.tmp 17) (.tmp 23) 42 rfl (.agg #[.slice none 0 0,.int .i64 0,.bool false,.bool false,.int .i64 0]) 48 Try.underlying42 info65 rfl (by decide) (.slice g j c) (ths.take j) (by simp[Act.eval,Act.put]) (HR.out _ ((Keeps.refl _ _).alloc _).drew) (fun _=>rfl) ⟨wr.heap.size,0,none⟩ 1 1 [t] (by simp[Act.eval,Act.put]) rfl (HO.out _) (by simp[thF,Th.items,Value.oneCell']) (by decide) (by unfold maxLen;omega) (by omega) ?_;intro g2 cap2 w2 r2 k2 a2 lg q2;have b9:=k2.blk ((HBK.out.alloc _).drew) (fun hm=>by have:=HF.out _ hm;omega);have c9:=b9.cell 0;have f9:=b9.frozen 0;have B9:=Lib.hid b9;have R2:=Lib.hid r2;have K2:=Lib.hid k2;have A2:=Lib.hid a2;clear r2 k2 a2 b9)
   all_goals
    go_wp2
    go_roundw
    case rel =>
     have hg:w.heap.size<g2:=by
      rcases A2.out with q | q
      ·exact HF.out _ q
      ·have:g2=wr.heap.size+1:=q.trans (wz' _ _)
       omega
     refine⟨j+1,some ⟨g2,0,none⟩,cap2,by omega,by go_num,(B9.out.set 0 _).of rfl,?_,fun b hb=>?_,?_⟩
     ·have r:=R2.out
      rw[hml,show ths.take j++[t]=ths.take (j+1) by rw[List.take_add_one,HV.out];rfl] at r;exact r.keeps (F:=[w.heap.size]) (Keeps.setCell (Keeps.refl _ _) _ _ (fun _=>by simp)) (by intro b hb;simp[fp,Value.ownBlock] at hb ⊢;omega)
     ·obtain rfl:b=g2:=by simpa[fp,Value.ownBlock] using hb
      exact hg
     ·refine Keeps.setCell ((lent_rel (m:=0) (cap2:=0) ((HK.out.alloc _).drew) (fun b hb=>by have:=HF.out _ hb;omega) K2.out A2.out).1) _ _ (fun hlt=>absurd hlt (Nat.lt_irrefl w.heap.size))
    case measure=>simp[intOf];omega
  ·obtain rfl:n=j:=by omega
   have HR:=Lib.hid hrep;have HF:=Lib.hid hfr;have HK:=Lib.hid hkp;have HBK:=Lib.hid hbk;clear hrep hfr hkp hbk
   go_wp2
   go_ret
   refine⟨w.heap.size,_,rfl,⟨HBK.out,?_,Rep.nil,Rep.nil,Nat.lt_irrefl _,fun b hb=>?_,by simp[fp,Value.ownBlock],by simp[fp,Value.ownBlock]⟩,HK.out⟩
   ·have:=HR.out
    rw[List.take_of_length_le (by have:=HN.out;omega)] at this;exact this
   ·have:=HF.out b hb
    exact⟨show ¬b<w.heap.size by omega,by omega,by simp[fp,Value.ownBlock],by simp[fp,Value.ownBlock]⟩
def Th.rdy (t:Th)(sum:Int):Bool:=!t.over&&(!t.waits||decide (t.till≤sum))
def rdyL (ths:List Th)(sum:Int)(j:Nat):List Nat:=(List.range j).filter fun i=>match ths[i]? with
 | some t=>t.rdy sum
 | none=>false
theorem rdyL_succ {ths:List Th}{sum:Int}{j:Nat}{t:Th}(h:ths[j]?=some t):rdyL ths sum (j+1)=rdyL ths sum j++if t.rdy sum then [j] else []:=by
 unfold rdyL;rw[List.range_succ,List.filter_append];congr 1;rw[List.filter_cons,List.filter_nil,h]
theorem rdyL_len (ths:List Th)(sum:Int)(j:Nat):(rdyL ths sum j).length≤j:=by
 unfold rdyL;exact Nat.le_trans (List.length_filter_le _ _) (by simp)
theorem Mach.cells {N:Nat→Prop}{r:Nat}{ths:List Th}{sum:Int}{notes:List Int}{acts:List Nat}{vt vn va:Value}{w:World}(h:Mach N r ths sum notes acts vt vn va w){j:Nat}{t:Th}(hj:ths[j]?=some t):∃ gt ct,vt=.slice (some ⟨gt,0,none⟩) ths.length ct∧gt<w.heap.size∧gt≠r∧w.cell? ⟨gt,j*5,none⟩=some (.slice t.g t.its.length t.c)∧w.cell? ⟨gt,j*5+1,none⟩=some (.int .i64 t.next) ∧
  w.cell? ⟨gt,j*5+2,none⟩=some (.bool t.over)∧w.cell? ⟨gt,j*5+3,none⟩=some (.bool t.waits)∧w.cell? ⟨gt,j*5+4,none⟩=some (.int .i64 t.till):=by
 obtain⟨gt,ct,rfl,h1,_⟩:=h.t.ex (Nat.lt_of_le_of_lt (Nat.zero_le _) (List.getElem?_eq_some_iff.1 hj).1);have hm:∀ x,(thF x).length=5:=fun _=>rfl;exact⟨gt,ct,rfl,h1,(h.ht gt (by simp[fp,Value.ownBlock])).2.1,h.t.cell hm j 0 t hj (by decide),h.t.cell hm j 1 t hj (by decide),h.t.cell hm j 2 t hj (by decide),h.t.cell hm j 3 t hj (by decide),h.t.cell hm j 4 t hj (by decide)⟩
theorem rdy_rel {w wr w2:World}{j n g2 cap2:Nat}{v:Value}{ths:List Th}{sum:Int}{t:Th}{xs:List Nat}(hv:ths[j]?=some t)(hr:t.rdy sum=true)(hxs:xs=rdyL ths sum j)(hk:Keeps [] w wr)(hf:∀ b∈fp v,w.heap.size≤b)
  (r2:RepI w2 (.slice (some ⟨g2,0,none⟩) n cap2) ((xs.map fun x:Nat=>(x:Int))++[(j:Int)])) (k2:Keeps (fp v) wr w2) (a2:g2∈fp v∨g2=wr.heap.size) :
  RepI w2 (.slice (some ⟨g2,0,none⟩) n cap2) ((rdyL ths sum (j+1)).map fun x:Nat=>(x:Int))∧(∀ b∈fp (.slice (some ⟨g2,0,none⟩) n cap2),w.heap.size≤b)∧Keeps [] w w2:=by
 subst hxs;obtain⟨p1,p2⟩:=lent_rel (m:=n) (cap2:=cap2) hk hf k2 a2;refine⟨?_,p2,p1⟩;rw[rdyL_succ hv,if_pos hr,List.map_append];exact r2
theorem rdy_keeps (wr:World)(o:Obj)(n:Nat):Keeps [] wr ((wr.alloc o).drewN n):=((Keeps.refl _ _).alloc _).drewN n
theorem rdy_keeps2 {w wr:World}(h:Keeps [] w wr)(o:Obj)(n:Nat):Keeps [] w ((wr.alloc o).drewN n):=(h.alloc _).drewN n
theorem ready_calls (w:World)(N:Nat→Prop)(r:Nat)(ths:List Th)(sum:Int)(notes:List Int)(acts:List Nat)(vt vn va:Value)(h:Mach N r ths sum notes acts vt vn va w)(hlen:ths.length<1048576) :
  Calls Try.prog 23 #[ptr r] w fun e w'=>∃ v,e=.returned v∧RepI w' v ((rdyL ths sum ths.length).map fun x:Nat=>(x:Int))∧(∀ b∈fp v,w.heap.size≤b)∧Keeps [] w w':=by
 obtain⟨gt,ct,rfl,_⟩:=h.t.form;obtain⟨n,hn⟩:∃ n,n=ths.length:=⟨_,rfl⟩;have HC:=Lib.hid (fun(W:World) (k:Keeps [] w W) (j:Nat) (t:Th) (hj:ths[j]?=some t)=>h.cells hj);have HM:=Lib.hid h;rw[← hn] at hlen HC HM ⊢;have HN:=Lib.hid hn;have hrl:=h.b.lt;clear h hn HC;have HR0:=Lib.hid (fun(W:World) (k:Keeps [] w W)=>k.blk HM.out.b (by simp))
 go_enter Try.func23,Try.ntmps23
 go_wp2
 go_loopw [3,4] (fun lv iv wr=>∃ (j:Nat),j≤n∧iv=.int .i64 j∧RepI wr lv ((rdyL ths sum j).map fun x:Nat=>(x:Int))∧(∀ b∈fp lv,w.heap.size≤b)∧Keeps [] w wr) (fun _ iv _=>n-(intOf iv).toNat)
 case atStart=>exact⟨0,by omega,rfl,Rep.nil,by simp[fp,Value.ownBlock],Keeps.refl _ _⟩
 case round =>
  obtain⟨j,hj,rfl,hrep,hfr,hkp⟩:=hrel;have b0:=HR0.out wr hkp;have c0:wr.cell? ⟨r,0,none⟩=some (.slice gt n ct):=b0.cell 0;have c1:wr.cell? ⟨r,1,none⟩=some (.int .i64 sum):=b0.cell 1;clear b0;have HF:=Lib.hid hfr;have HK:=Lib.hid hkp;by_cases hlt:j<n
  ·obtain⟨t,hv⟩:∃ t,ths[j]?=some t:=⟨ths[j]'(by have:=HN.out;omega),List.getElem?_eq_getElem _⟩
   have hM2:Mach N r ths sum notes acts (.slice gt n ct) vn va w:=HM.out;obtain⟨gt',ct',e,q0,q1,d0,d1,d2,d3,d4⟩:=hM2.cells hv;cases e;have kk:∀ o u,w.cell? ⟨gt',o,none⟩=some u→wr.cell? ⟨gt',o,none⟩=some u:=fun o u hu=>(cell_same (hkp.block gt' q0 (by simp))).trans hu;have e0:=kk _ _ d0;have e1:=kk _ _ d1;have e2:=kk _ _ d2;have e3:=kk _ _ d3;have e4:=kk _ _ d4;have HR:=Lib.hid (fun(W:World) (k:Keeps [] wr W)=>hrep.keeps k (by simp));have hml:((rdyL ths sum j).map fun x:Nat=>(x:Int)).length≤j:=by rw[List.length_map];exact rdyL_len _ _ _
   have HV:=Lib.hid hv;have hsz:=hkp.size;have l1:gt'<wr.heap.size:=by omega
   have l2:r<wr.heap.size:=by omega
   have hrepF:=Lib.hid hrep.form;clear hfr hkp hrep d0 d1 d2 d3 d4 kk hM2 hv;obtain⟨tg,tc,its,next,over,waits,till⟩:=t;simp only at e0 e1 e2 e3 e4;obtain⟨gl,cl,rfl,_⟩:=hrepF.out;rw[List.length_map] at hml HR HF ⊢;have HO:=Lib.hid (fun(o:Obj) (k:Nat)=>cell_one_at ((wr.alloc o).drewN k) (.int .i64 (j:Int)) 3 (N:=wr.heap.size+1) (wz' _ _).symm);cases over
   ·cases waits
    ·have hle:True:=trivial
     go_wp2
     go_quiet (fail)
     go_wp2_with (refine wpList_rep_append rfl (.tmp 39) (.tmp 41) 39 rfl (.int .i64 0) 8 Try.underlying39 info3 rfl (by decide) (.slice gl (rdyL ths sum j).length cl) ((rdyL ths sum j).map fun x:Nat=>(x:Int)) rfl (HR.out _ ((rdy_keeps _ _ _).alloc _)) (fun _=>rfl) ⟨wr.heap.size+1,0,none⟩ 1 1 [(j:Int)] rfl rfl (HO.out _ _) (by simp[Value.oneCell']) (by decide) (by rw[List.length_map];unfold maxLen;omega) (by rw[List.length_map];omega) ?_;intro g2 cap2 w2 r2 k2 a2 lg q2;have R2:=Lib.hid r2;have K2:=Lib.hid k2;have A2:=Lib.hid a2;clear r2 k2 a2)
     go_roundw
     case rel =>
      obtain⟨p1,p2,p3⟩:=rdy_rel HV.out (by simp[Th.rdy,hle]) rfl ((rdy_keeps2 HK.out _ _).alloc _) HF.out R2.out K2.out A2.out;exact⟨j+1,by omega,by go_num,by simpa using p1,by simpa using p2,p3⟩
     case measure=>simp[intOf];omega
    ·by_cases hle:till≤sum
     ·have d1:decide (till≤sum)=true:=decide_eq_true hle
      go_wp2
      go_quiet (fail)
      go_wp2_with (refine wpList_rep_append rfl (.tmp 39) (.tmp 41) 39 rfl (.int .i64 0) 8 Try.underlying39 info3 rfl (by decide) (.slice gl (rdyL ths sum j).length cl) ((rdyL ths sum j).map fun x:Nat=>(x:Int)) rfl (HR.out _ ((rdy_keeps _ _ _).alloc _)) (fun _=>rfl) ⟨wr.heap.size+1,0,none⟩ 1 1 [(j:Int)] rfl rfl (HO.out _ _) (by simp[Value.oneCell']) (by decide) (by rw[List.length_map];unfold maxLen;omega) (by rw[List.length_map];omega) ?_;intro g2 cap2 w2 r2 k2 a2 lg q2;have R2:=Lib.hid r2;have K2:=Lib.hid k2;have A2:=Lib.hid a2;clear r2 k2 a2)
      go_roundw
      case rel =>
       obtain⟨p1,p2,p3⟩:=rdy_rel HV.out (by simp[Th.rdy,hle]) rfl ((rdy_keeps2 HK.out _ _).alloc _) HF.out R2.out K2.out A2.out;exact⟨j+1,by omega,by go_num,by simpa using p1,by simpa using p2,p3⟩
      case measure=>simp[intOf];omega
     ·have d1:decide (till≤sum)=false:=decide_eq_false hle
      go_wp2
      go_quiet (fail)
      go_wp2
      go_roundw
      case rel =>
       refine⟨j+1,by omega,by go_num,?_,HF.out,rdy_keeps2 HK.out _ _⟩;rw[rdyL_succ HV.out,if_neg (by simp[Th.rdy,hle]),List.append_nil];exact HR.out _ (rdy_keeps wr _ _)
      case measure=>simp[intOf];omega
   ·have hle:True:=trivial
    go_wp2
    go_quiet (fail)
    go_wp2
    go_roundw
    case rel =>
     refine⟨j+1,by omega,by go_num,?_,HF.out,rdy_keeps2 HK.out _ _⟩;rw[rdyL_succ HV.out,if_neg (by simp[Th.rdy,hle]),List.append_nil];exact HR.out _ (rdy_keeps wr _ _)
    case measure=>simp[intOf];omega
  ·obtain rfl:n=j:=by omega
   have HR:=Lib.hid hrep;clear hfr hkp hrep
   go_wp2
   go_ret
   exact⟨_,rfl,HR.out,HF.out,HK.out⟩
theorem chosen_calls (w:World)(N:Nat→Prop)(r:Nat)(ths:List Th)(sum:Int)(notes:List Int)(acts:List Nat)(vt vn va:Value)(h:Mach N r ths sum notes acts vt vn va w)(rv pv:Value)(rs picks:List Nat)(used:Nat)(hrv:RepI w rv (rs.map fun x:Nat=>(x:Int)))(hpv:Rd u8 w pv picks)
  (hne:rs≠[]) (h8:rs.length≤8) (ha8:∀ a∈acts,a<256) (hal:acts.length<4294967296) (hp8:∀ a∈picks,a<256) (hpl:picks.length<4294967296) (hul:used≤picks.length) :
  Calls Try.prog 24 #[ptr r,rv,pv,.int .i64 used] w fun e w'=>e=.returned (.int .i64 (chosen rs acts (picks.drop used)).1)∧∃ n,w'=w.drewN n:=by
 obtain⟨gp,cp,rfl⟩:=hpv.slice;obtain⟨_,hcp⟩:=hpv.cells;have hl:0<rs.length:=List.length_pos_iff.2 hne;obtain⟨gr,cr,rfl,_,_⟩:=hrv.ex (by rw[List.length_map];exact hl);have hcells:∀ j i:Nat,rs[j]?=some i→w.cell? ⟨gr,j,none⟩=some (.int .i64 i):=fun j i hj=>hrv.cell1 (u:=fun x:Int=>Value.int .i64 x) (fun _=>rfl) j (i:Int) (by rw[List.getElem?_map,hj];rfl);rw[List.length_map] at *;clear hrv hpv;by_cases hlt:used<picks.length
 ·obtain⟨b,o,rfl,q⟩:=hcp (by omega)
  obtain⟨p,p1,c0⟩:=q used hlt;have hp:p<256:=hp8 p (List.mem_of_getElem? p1);have hpm:p % rs.length<rs.length:=Nat.mod_lt _ hl;have c1:w.cell? ⟨gr,p % rs.length,none⟩=some (.int .i64 (rs.getD (p % rs.length) 0:Nat)):=by
   rw[List.getD_eq_getElem?_getD,List.getElem?_eq_getElem hpm];exact hcells _ _ (List.getElem?_eq_getElem hpm)
  have hd:picks.drop used=p::picks.drop (used+1):=by
   rw[List.drop_eq_getElem_cons hlt];congr 1;rw[List.getElem?_eq_getElem hlt] at p1;exact oj' p1
  rw[hd];simp only[chosen];clear hd q p1 hcells hp8 ha8 hcp h;generalize rs.getD (p % rs.length) 0=q at c1 ⊢;generalize rs.length=m at *;generalize picks.length=pn at *
  go_enter Try.func24,Try.ntmps24
  go_wp2
  go_ret
  exact⟨rfl,0,rfl⟩
 ·rw[List.drop_eq_nil_of_le (by omega)]
  obtain⟨ga,ca,rfl,_⟩:=h.a.form;have h3:w.cell? ⟨r,3,none⟩=some (.slice ga acts.length ca):=h.b.cell 3;have c1:w.cell? ⟨gr,0,none⟩=some (.int .i64 (rs.headD 0:Nat)):=by
   cases rs with
   | nil=>exact absurd rfl hne
   | cons x l=>exact hcells 0 x rfl
  cases hac:acts.getLast? with
  | none =>
   have hl0:acts=[]:=List.getLast?_eq_none_iff.1 hac;subst hl0;simp only[chosen,List.getLast?_nil];clear hcells hp8 ha8 hcp h;generalize rs.headD 0=q at c1 ⊢;generalize rs.length=m at *;generalize picks.length=pn at *;simp only[List.length_nil] at h3
   go_enter Try.func24,Try.ntmps24
   go_wp2
   go_ret
   exact⟨rfl,0,rfl⟩
  | some last =>
   have hpos:0<acts.length:=by
    cases acts with
    | nil=>simp at hac
    | cons x l=>simp
   obtain⟨g,c,e,_,_⟩:=h.a.ex hpos;cases e;have c2:w.cell? ⟨g,acts.length-1,none⟩=some (.int .u8 last):=h.a.cell1 (u:=fun x:Nat=>Value.int .u8 x) (fun _=>rfl) _ _ (by rw[← List.getLast?_eq_getElem?];exact hac);have hlast:last<256:=ha8 last (List.mem_of_getLast? hac);have HC:=Lib.hid hcells;simp only[chosen,hac];obtain⟨n,hn⟩:∃ n,n=acts.length:=⟨_,rfl⟩;rw[← hn] at c2 h3 hpos hal;obtain⟨m,hm⟩:∃ m,m=rs.length:=⟨_,rfl⟩;rw[← hm] at h8 hl ⊢;have HM:=Lib.hid hm;clear hcells hp8 ha8 hcp h hac hn hm;generalize hq:rs.headD 0=q at c1 ⊢;have HQ:=Lib.hid hq;clear hq;generalize picks.length=pn at *;have hc3:((n-1:Nat):Int)=(n:Int)-1:=by omega
   go_enter Try.func24,Try.ntmps24
   go_wp2
   go_quiet (fail)
   go_wp2
   go_loop [10] (fun i=>∃ j:Nat,j≤m∧i=.int .i64 j∧rs.find? (fun i=>decide (last<i))=(rs.drop j).find? (fun i=>decide (last<i))) (fun i=>m-(intOf i).toNat)
   case atStart=>exact⟨0,by omega,rfl,rfl⟩
   case round =>
    obtain⟨j,hj,rfl,hf⟩:=hrel;by_cases hlt2:j<m
    ·obtain⟨x,hx⟩:∃ x,rs[j]?=some x:=⟨rs[j]'(by have:=HM.out;omega),List.getElem?_eq_getElem _⟩
     have cx:=HC.out j x hx;have hd:rs.drop j=x::rs.drop (j+1):=by
      have h1:j<rs.length:=by have:=HM.out;omega
      rw[List.drop_eq_getElem_cons h1];congr 1;rw[List.getElem?_eq_getElem h1] at hx;exact oj' hx
     rw[hd,List.find?_cons] at hf;have HF:=Lib.hid hf;clear hf hd hx;by_cases hlx:last<x
     ·have d1:decide (last<x)=true:=decide_eq_true hlx
      go_wp2
      go_ret
      have hf:=HF.out;rw[d1] at hf;rw[hf];exact⟨rfl,_,rfl⟩
     ·have d1:decide (last<x)=false:=decide_eq_false hlx
      go_wp2
      go_round
      case rel =>
       refine⟨j+1,by omega,by go_num,?_⟩;have hf:=HF.out;rw[d1] at hf;exact hf
      case measure=>simp[intOf];omega
    ·have e1:j=m:=by omega
     have hf2:rs.find? (fun i=>decide (last<i))=none:=by
      rw[hf,e1,HM.out,List.drop_length];rfl
     have HF:=Lib.hid hf2;clear hf hf2
     go_wp2
     go_ret
     rw[HF.out];exact⟨rfl,_,rfl⟩
structure KN (N:Nat→Prop)(w w':World):Prop where
 size:w.heap.size≤w'.heap.size
 block:∀ b,N b→w'.heap[b]?=w.heap[b]?
theorem KN.trans {N:Nat→Prop}{a b c:World}(h:KN N a b)(k:KN N b c):KN N a c:=⟨Nat.le_trans h.size k.size,fun x hx=>(k.block x hx).trans (h.block x hx)⟩
def LowN (N:Nat→Prop)(w:World):Prop:=∀ x,N x→x<w.heap.size
theorem LowN.mono {N:Nat→Prop}{w w2:World}(h:LowN N w)(k:w.heap.size≤w2.heap.size):LowN N w2:=fun x hx=>nl' (h x hx) k
theorem KN.of {N:Nat→Prop}{F:List Nat}{a b:World}(h:Keeps F a b)(hn:LowN N a)(hf:∀ x∈F,¬N x):KN N a b:=⟨h.size,fun x hx=>h.block x (hn x hx) fun hm=>hf x hm hx⟩
theorem KN.cell {N:Nat→Prop}{a b:World}(h:KN N a b){x o:Nat}{u:Value}(hx:N x)(hc:a.cell? ⟨x,o,none⟩=some u):b.cell? ⟨x,o,none⟩=some u:=(cell_same (h.block x hx)).trans hc
def ItsAt (N:Nat→Prop)(w:World)(g:Option Addr)(its:List (Int × Int)):Prop:=∀ (k:Nat) (d x:Int),its[k]?=some (d,x)→∃ ab ao,g=some ⟨ab,ao,none⟩∧N ab∧w.cell? ⟨ab,ao+k*2,none⟩=some (.int .i64 d)∧w.cell? ⟨ab,ao+k*2+1,none⟩=some (.int .i64 x)
theorem ItsAt.kn {N:Nat→Prop}{w w':World}{g:Option Addr}{its:List (Int × Int)}(h:ItsAt N w g its)(k:KN N w w'):ItsAt N w' g its:=by
 intro j d x hj;obtain⟨ab,ao,h1,h2,h3,h4⟩:=h j d x hj;exact⟨ab,ao,h1,h2,k.cell h2 h3,k.cell h2 h4⟩
section
variable {N:Nat→Prop}{r:Nat}{ths:List Th}{sum:Int}{notes:List Int}{acts:List Nat}{vt vn va:Value}{w w':World}
theorem Mach.keeps (h:Mach N r ths sum notes acts vt vn va w)(k:Keeps [] w w'):Mach N r ths sum notes acts vt vn va w' :=
 ⟨k.blk h.b (by simp),h.t.keeps k (by simp),h.n.keeps k (by simp),h.a.keeps k (by simp),h.hr,h.ht,h.hn,h.ha⟩
theorem Mach.setT {gt ct i c:Nat}{t t':Th}{u:Value}(h:Mach N r ths sum notes acts (.slice (some ⟨gt,0,none⟩) ths.length ct) vn va w)(hi:ths[i]?=some t)(hc:c<5)(hu:thF t'=(thF t).set c u) :
  Mach N r (ths.set i t') sum notes acts (.slice (some ⟨gt,0,none⟩) ths.length ct) vn va (w.setCell ⟨gt,i*5+c,none⟩ u):=by
 have k:Keeps [gt] w (w.setCell ⟨gt,i*5+c,none⟩ u):=Keeps.setCell (Keeps.refl _ _) _ _ (fun _=>by simp);have q:=h.ht gt (by simp[fp,Value.ownBlock]);refine⟨k.blk h.b (by simp;exact fun e=>q.2.1 e.symm),?_,h.n.keeps k (fun b hb hm=>?_),h.a.keeps k (fun b hb hm=>?_),h.hr,h.ht,h.hn,h.ha⟩
 ·exact h.t.set (fun _=>rfl) i c t t' u hi hc hu
 ·obtain rfl:=List.mem_singleton.1 hm
  exact q.2.2.1 hb
 ·obtain rfl:=List.mem_singleton.1 hm
  exact q.2.2.2 hb
theorem Mach.setS (h:Mach N r ths sum notes acts vt vn va w)(s:Int):Mach N r ths s notes acts vt vn va (w.setCell ⟨r,1,none⟩ (.int .i64 s)):=by
 have k:Keeps [r] w (w.setCell ⟨r,1,none⟩ (.int .i64 s)):=Keeps.setCell (Keeps.refl _ _) _ _ (fun _=>by simp);have no:∀ b,b≠r→b∉[r]:=fun b hb hm=>hb (List.mem_singleton.1 hm);exact⟨(h.b.set 1 _).of rfl,h.t.keeps k (fun b hb=>no b (h.ht b hb).2.1),h.n.keeps k (fun b hb=>no b (h.hn b hb).2.1),h.a.keeps k (fun b hb=>no b (h.ha b hb).2),h.hr,h.ht,h.hn,h.ha⟩
theorem Mach.setN {g2 m c2:Nat}{w2:World}{y:Int}(h:Mach N r ths sum notes acts vt vn va w)(hN:LowN N w)(r2:RepI w2 (.slice (some ⟨g2,0,none⟩) m c2) (notes++[y]))(k2:Keeps (fp vn) w w2)(a2:g2∈fp vn∨g2=w.heap.size) :
  Mach N r ths sum (notes++[y]) acts vt (.slice (some ⟨g2,0,none⟩) m c2) va (w2.setCell ⟨r,2,none⟩ (.slice (some ⟨g2,0,none⟩) m c2)):=by
 have k:Keeps [r] w2 (w2.setCell ⟨r,2,none⟩ (.slice (some ⟨g2,0,none⟩) m c2)):=Keeps.setCell (Keeps.refl _ _) _ _ (fun _=>by simp);have no:∀ b,b≠r→b∉[r]:=fun b hb hm=>hb (List.mem_singleton.1 hm);have hrl:=h.b.lt;have hg:¬N g2∧g2≠r∧g2∉fp va∧g2∉fp vt:=by
  rcases a2 with q | q
  ·exact⟨(h.hn _ q).1,(h.hn _ q).2.1,(h.hn _ q).2.2,fun hm=>(h.ht _ hm).2.2.1 q⟩
  ·subst q
   exact⟨fun hm=>Nat.lt_irrefl _ (hN _ hm),by omega,fun hm=>Nat.lt_irrefl _ (h.a.fp_lt _ hm),fun hm=>Nat.lt_irrefl _ (h.t.fp_lt _ hm)⟩
 have hf:∀ b∈fp (.slice (some ⟨g2,0,none⟩) m c2),b=g2:=fun b hb=>by simpa[fp,Value.ownBlock] using hb
 refine⟨((k2.blk h.b (fun hm=>(h.hn _ hm).2.1 rfl)).set 2 _).of rfl,(h.t.keeps k2 (fun b hb=>(h.ht b hb).2.2.1)).keeps k (fun b hb=>no b (h.ht b hb).2.1),r2.keeps k (fun b hb=>no b (hf b hb▸hg.2.1)),(h.a.keeps k2 (fun b hb hm=>(h.hn b hm).2.2 hb)).keeps k (fun b hb=>no b (h.ha b hb).2),h.hr,fun b hb=>?_,fun b hb=>?_,h.ha⟩
 ·obtain⟨q1,q2,q3,q4⟩:=h.ht b hb
  exact⟨q1,q2,fun hm=>hg.2.2.2 (hf b hm▸hb),q4⟩
 ·obtain rfl:=hf b hb
  exact⟨hg.1,hg.2.1,hg.2.2.1⟩
theorem Mach.setA {g2 m c2:Nat}{w2:World}{y:Nat}(h:Mach N r ths sum notes acts vt vn va w)(hN:LowN N w)(r2:RepU w2 (.slice (some ⟨g2,0,none⟩) m c2) (acts++[y]))(k2:Keeps (fp va) w w2)(a2:g2∈fp va∨g2=w.heap.size) :
  Mach N r ths sum notes (acts++[y]) vt vn (.slice (some ⟨g2,0,none⟩) m c2) (w2.setCell ⟨r,3,none⟩ (.slice (some ⟨g2,0,none⟩) m c2)):=by
 have k:Keeps [r] w2 (w2.setCell ⟨r,3,none⟩ (.slice (some ⟨g2,0,none⟩) m c2)):=Keeps.setCell (Keeps.refl _ _) _ _ (fun _=>by simp);have no:∀ b,b≠r→b∉[r]:=fun b hb hm=>hb (List.mem_singleton.1 hm);have hrl:=h.b.lt;have hg:¬N g2∧g2≠r∧g2∉fp vn∧g2∉fp vt:=by
  rcases a2 with q | q
  ·exact⟨(h.ha _ q).1,(h.ha _ q).2,fun hm=>(h.hn _ hm).2.2 q,fun hm=>(h.ht _ hm).2.2.2 q⟩
  ·subst q
   exact⟨fun hm=>Nat.lt_irrefl _ (hN _ hm),by omega,fun hm=>Nat.lt_irrefl _ (h.n.fp_lt _ hm),fun hm=>Nat.lt_irrefl _ (h.t.fp_lt _ hm)⟩
 have hf:∀ b∈fp (.slice (some ⟨g2,0,none⟩) m c2),b=g2:=fun b hb=>by simpa[fp,Value.ownBlock] using hb
 refine⟨((k2.blk h.b (fun hm=>(h.ha _ hm).2 rfl)).set 3 _).of rfl,(h.t.keeps k2 (fun b hb=>(h.ht b hb).2.2.2)).keeps k (fun b hb=>no b (h.ht b hb).2.1),(h.n.keeps k2 (fun b hb=>(h.hn b hb).2.2)).keeps k (fun b hb=>no b (h.hn b hb).2.1),r2.keeps k (fun b hb=>no b (hf b hb▸hg.2.1)),h.hr,fun b hb=>?_,fun b hb=>?_,fun b hb=>?_⟩
 ·obtain⟨q1,q2,q3,q4⟩:=h.ht b hb
  exact⟨q1,q2,q3,fun hm=>hg.2.2.2 (hf b hm▸hb)⟩
 ·obtain⟨q1,q2,q3⟩:=h.hn b hb
  exact⟨q1,q2,fun hm=>hg.2.2.1 (hf b hm▸hb)⟩
 ·obtain rfl:=hf b hb
  exact⟨hg.1,hg.2.1⟩
end
def runTh (n i:Nat):List (Int × Int)→Th→Int→List Int→Th × Int × List Int
 | [],t,s,ns=>({t with over:=true},s,ns)
 | (d,x)::l,t,s,ns =>
  if d=0 then runTh n i l { t with next:=t.next+1} s (ns++[x])
  else if d=3 then runTh n i l { t with next:=t.next+1} (wrap64 (s+x)) ns
  else if d=5 then runTh n i l { t with next:=t.next+1} s (ns++[(i:Int)])
  else if d=6 then runTh n i l { t with next:=t.next+1} s (ns++[(n:Int)-1])
  else if d=1∨d=4∨d=2 then ({t with next:=t.next+1,waits:=decide (d=2),till:=x},s,ns)
  else runTh n i l { t with next:=t.next+1} s ns
def ThOf (t:Th):ES ItL→Prop
 | .fresh=>t.next=0∧t.over=false∧t.waits=false
 | .susp l=>t.next=l.next∧t.over=false∧match l.wait with
  | none=>t.waits=false
  | some x=>t.waits=true∧t.till=x
 | .done=>t.over=true
def SameTh (t t':Th):Prop:=t'.its=t.its∧t'.g=t.g∧t'.c=t.c
theorem runTh_items (n i:Nat):∀ (l:List (Int × Int)) (t:Th) (s:Int) (ns:List Int) (due:Nat),t.over=false→t.waits=false →
  (runTh n i l t s ns).2.1=(runItems i n l t.next ⟨s,ns,due⟩).1.sum∧(runTh n i l t s ns).2.2=(runItems i n l t.next ⟨s,ns,due⟩).1.notes∧ThOf (runTh n i l t s ns).1 (toT (runItems i n l t.next ⟨s,ns,due⟩).2)∧SameTh t (runTh n i l t s ns).1:=by
 intro l
 induction l with
 | nil=>exact fun t s ns due _ _=>⟨rfl,rfl,rfl,rfl,rfl,rfl⟩
 | cons y l ih =>
  obtain⟨d,x⟩:=y;intro t s ns due ho hw;unfold runTh runItems;have st:∀ (s:Int) (ns:List Int),_:=fun s ns=>ih { t with next:=t.next+1} s ns due ho hw;by_cases h0:d=0
  ·rw[if_pos h0,if_pos h0];exact st _ _
  by_cases h1:d=1
  ·subst h1
   exact⟨rfl,rfl,⟨rfl,ho,rfl⟩,rfl,rfl,rfl⟩
  by_cases h2:d=2
  ·subst h2
   exact⟨rfl,rfl,⟨rfl,ho,rfl,rfl⟩,rfl,rfl,rfl⟩
  by_cases h3:d=3
  ·subst h3
   exact st _ _
  by_cases h4:d=4
  ·subst h4
   exact⟨rfl,rfl,⟨rfl,ho,rfl⟩,rfl,rfl,rfl⟩
  by_cases h5:d=5
  ·subst h5
   exact st _ _
  by_cases h6:d=6
  ·subst h6
   exact st _ _
  rw[if_neg h0,if_neg h3,if_neg h5,if_neg h6,if_neg (by omega),if_neg h0,if_neg h1,if_neg h2,if_neg h3,if_neg h4,if_neg h5,if_neg h6];exact st _ _
theorem rdy_of {t:Th}{e:ES ItL}(h:ThOf t e)(Q:ShC)(C:WC)(i:Nat)(a:ShA):t.rdy a.sum=rdyE (Q.bods C) i e a:=by
 cases e with
 | fresh =>
  obtain⟨_,h1,h2⟩:=h;simp[Th.rdy,rdyE,h1,h2]
 | susp l =>
  obtain⟨_,h1,h2⟩:=h;show _=Q.rdy i l a;unfold ShC.rdy;cases hw:l.wait with
  | none =>
   rw[hw] at h2;simp[Th.rdy,h1,h2]
  | some x =>
   rw[hw] at h2;obtain⟨h2,h3⟩:=h2;simp[Th.rdy,h1,h2,h3]
 | done =>
  have h1:t.over=true:=h;simp[Th.rdy,rdyE,h1]
theorem runTh_go {t:Th}{e:ES ItL}(h:ThOf t e)(Q:ShC)(i n:Nat)(hits:t.its=Q.its i)(hnd:e≠.done)(a:ShA) :
  (runTh n i (t.its.drop t.next) { t with waits:=false} a.sum a.notes).2.1=(Q.go i e a n).1.sum∧(runTh n i (t.its.drop t.next) { t with waits:=false} a.sum a.notes).2.2=(Q.go i e a n).1.notes ∧
   ThOf (runTh n i (t.its.drop t.next) { t with waits:=false} a.sum a.notes).1 (toT (Q.go i e a n).2)∧SameTh t (runTh n i (t.its.drop t.next) { t with waits:=false} a.sum a.notes).1:=by
 cases e with
 | fresh =>
  obtain⟨h0,h1,h2⟩:=h;have:=runTh_items n i (t.its.drop t.next) { t with waits:=false} a.sum a.notes 1 h1 rfl;rw[h0,List.drop_zero,hits] at this ⊢;exact⟨this.1,this.2.1,this.2.2.1,this.2.2.2.1.trans hits.symm,this.2.2.2.2⟩
 | susp l =>
  obtain⟨h0,h1,h2⟩:=h;have:=runTh_items n i (t.its.drop t.next) { t with waits:=false} a.sum a.notes 1 h1 rfl;rw[h0,hits] at this ⊢;exact⟨this.1,this.2.1,this.2.2.1,this.2.2.2.1.trans hits.symm,this.2.2.2.2⟩
 | done=>exact absurd rfl hnd
theorem runTh_next (n i:Nat):∀ (l:List (Int × Int)) (t:Th) (s:Int) (ns:List Int),(runTh n i l t s ns).1.next≤t.next+l.length
 | [],_,_,_=>Nat.le_refl _
 | (d,x)::l,t,s,ns=>by
  unfold runTh;have st:∀ (s:Int) (ns:List Int),_:=fun s ns=>runTh_next n i l { t with next:=t.next+1} s ns;have e:(((d,x)::l).length)=l.length+1:=rfl
  repeat' split
  all_goals first
   | (refine Nat.le_trans (st _ _) ?_;rw[e];show t.next+1+l.length≤t.next+(l.length+1);omega)
   | (rw[e];show t.next+1≤t.next+(l.length+1);omega)
theorem runTh_notes (n i:Nat):∀ (l:List (Int × Int)) (t:Th) (s:Int) (ns:List Int),(runTh n i l t s ns).2.2.length≤ns.length+l.length
 | [],_,_,_=>Nat.le_refl _
 | (d,x)::l,t,s,ns=>by
  unfold runTh;have st:∀ (s:Int) (ns:List Int),_:=fun s ns=>runTh_notes n i l { t with next:=t.next+1} s ns;have e:(((d,x)::l).length)=l.length+1:=rfl
  repeat' split
  all_goals first
   | (refine Nat.le_trans (st _ _) ?_;rw[e];simp only[la',List.length_singleton];omega)
   | (refine Nat.le_trans (st _ _) ?_;rw[e];omega)
   | (rw[e];show ns.length≤_;omega)
structure MOf (Q:ShC)(x:RunSt ItL ShA)(ths:List Th):Prop where
 len:ths.length=Q.n
 at_:∀ i,i<Q.n→∃ t,ths[i]?=some t∧ThOf t (x.st i)∧t.its=Q.its i∧t.g=Q.gi i∧t.next≤t.its.length
theorem MOf.rdy {Q:ShC}{x:RunSt ItL ShA}{ths:List Th}(h:MOf Q x ths)(C:WC):rdyL ths x.a.sum Q.n=readies (Q.bods C) Q.n x:=by
 unfold rdyL readies;refine List.filter_congr fun i hi=>?_;obtain⟨t,h1,h2,_⟩:=h.at_ i (List.mem_range.1 hi);rw[h1];exact rdy_of h2 Q C i x.a
theorem MOf.act {Q:ShC}{x:RunSt ItL ShA}{ths:List Th}(h:MOf Q x ths)(C:WC)(beh:ShA→ShA){i:Nat}(left:List Nat)(hi:i<Q.n)(hnd:x.st i≠.done){t:Th}(ht:ths[i]?=some t) :
  MOf Q (oneAct (Q.bods C) beh x i left) (ths.set i (runTh (x.acts.length+1) i (t.its.drop t.next) { t with waits:=false} x.a.sum x.a.notes).1):=by
 obtain⟨t',h1,h2,h3,h4,h5⟩:=h.at_ i hi;rw[ht] at h1;cases h1;obtain⟨_,_,q3,q4,q5,_⟩:=runTh_go h2 Q i (x.acts.length+1) h3 hnd x.a;have hil:i<ths.length:=h.len▸hi;refine⟨by rw[List.length_set];exact h.len,fun j hj=>?_⟩;by_cases e:j=i
 ·subst e
  refine⟨_,List.getElem?_set_self hil,?_,q4.trans h3,q5.trans h4,?_⟩
  ·show ThOf _ (updE x.st j _ j)
   unfold updE;rw[if_pos rfl];exact q3
  ·have:=runTh_next (x.acts.length+1) j (t.its.drop t.next) { t with waits:=false} x.a.sum x.a.notes
   rw[q4];refine Nat.le_trans this ?_;rw[List.length_drop];show t.next+(t.its.length-t.next)≤t.its.length;omega
 ·obtain⟨t',h1,h2,h3⟩:=h.at_ j hj
  refine⟨t',by rw[List.getElem?_set_ne (fun q=>e q.symm)];exact h1,?_,h3⟩;show ThOf t' (updE x.st i _ j);unfold updE;rw[if_neg e];exact h2
def nextOf (w:World)(gt i:Nat):Nat:=match w.cell? ⟨gt,i*5+1,none⟩ with
 | some (.int .i64 k)=>k.toNat
 | _=>0
theorem Mach.nextOf {N:Nat→Prop}{r:Nat}{ths:List Th}{sum:Int}{notes:List Int}{acts:List Nat}{vn va:Value}{w:World}{gt ct n i:Nat}{t:Th}(h:Mach N r (ths.set i t) sum notes acts (.slice (some ⟨gt,0,none⟩) n ct) vn va w)(hi:i<ths.length):Lift.nextOf w gt i=t.next:=by
 obtain⟨gt',ct',e,_,_,_,d1,_⟩:=h.cells (List.getElem?_set_self hi);cases e;unfold Lift.nextOf;rw[d1];simp
theorem Mach.noteK {N:Nat→Prop}{r:Nat}{ths:List Th}{sum:Int}{notes:List Int}{acts:List Nat}{vt vn va:Value}{w X w2:World}{g2 m c2:Nat}{y:Int}(h:Mach N r ths sum notes acts vt vn va X)(k:KN N w X)(hN:LowN N w)(r2:RepI w2 (.slice (some ⟨g2,0,none⟩) m c2) (notes++[y]))(k2:Keeps (fp vn) X w2)(a2:g2∈fp vn∨g2=X.heap.size) :
  Mach N r ths sum (notes++[y]) acts vt (.slice (some ⟨g2,0,none⟩) m c2) va (w2.setCell ⟨r,2,none⟩ (.slice (some ⟨g2,0,none⟩) m c2))∧KN N w (w2.setCell ⟨r,2,none⟩ (.slice (some ⟨g2,0,none⟩) m c2)):=by
 have hX:=hN.mono k.size;refine⟨h.setN hX r2 k2 a2,(k.trans (KN.of k2 hX fun x hx=>(h.hn x hx).1)).trans (KN.of (F:=[r]) (Keeps.setCell (Keeps.refl _ _) _ _ (fun _=>by simp)) (hX.mono k2.size) fun x hx=>by rw[List.mem_singleton.1 hx];exact h.hr)⟩
theorem runs_note {N:Nat→Prop}{r:Nat}{ths:List Th}{sum:Int}{notes:List Int}{acts:List Nat}{vt vn va:Value}{w Y X w2:World}{g2 m c2:Nat}{y:Int}(hN:LowN N w)(h:Mach N r ths sum notes acts vt vn va Y)(k:KN N w Y)(r2:RepI w2 (.slice (some ⟨g2,0,none⟩) m c2) (notes++[y]))(k2:Keeps (fp vn) X w2)(a2:g2∈fp vn∨g2=X.heap.size)(kx:Keeps [] Y X) :
  Mach N r ths sum (notes++[y]) acts vt (.slice (some ⟨g2,0,none⟩) m c2) va (w2.setCell ⟨r,2,none⟩ (.slice (some ⟨g2,0,none⟩) m c2))∧KN N w (w2.setCell ⟨r,2,none⟩ (.slice (some ⟨g2,0,none⟩) m c2)) :=
 (h.keeps kx).noteK (k.trans (KN.of kx (hN.mono k.size) (by simp))) hN r2 k2 a2
def RunsQ (N:Nat→Prop)(r gt ct i:Nat)(ths:List Th)(acts:List Nat)(va:Value)(w:World)(out:Th × Int × List Int)(w':World):Prop :=
 ∃ vn',Mach N r (ths.set i out.1) out.2.1 out.2.2 acts (.slice (some ⟨gt,0,none⟩) ths.length ct) vn' va w'∧KN N w w'
theorem runs_sum {N:Nat→Prop}{r:Nat}{ths:List Th}{sum x:Int}{notes:List Int}{acts:List Nat}{vt vn va:Value}{w Y X:World}(hN:LowN N w)(h:Mach N r ths sum notes acts vt vn va Y)(k:KN N w Y)(kx:Keeps [] Y X) :
  Mach N r ths (wrap64 (sum+x)) notes acts vt vn va (X.setCell ⟨r,1,none⟩ (.int .i64 (wrap64 (sum+x))))∧KN N w (X.setCell ⟨r,1,none⟩ (.int .i64 (wrap64 (sum+x)))) :=
 ⟨(h.keeps kx).setS _,(k.trans (KN.of kx (hN.mono k.size) (by simp))).trans (KN.of (F:=[r]) (Keeps.setCell (Keeps.refl _ _) _ _ (fun _=>by simp)) (hN.mono (Nat.le_trans k.size kx.size)) fun x hx=>by rw[List.mem_singleton.1 hx];exact h.hr)⟩
theorem wrap_pred (n:Nat)(h0:0<n)(h1:n<1099511627776):IntKind.i64.wrap ((n:Int)-1)=(n:Int)-1:=by
 simp[IntKind.wrap,IntKind.bits,IntKind.signed];omega
theorem runs_none {N:Nat→Prop}{r:Nat}{ths:List Th}{sum:Int}{notes:List Int}{acts:List Nat}{vt vn va:Value}{w Y X:World}(hN:LowN N w)(h:Mach N r ths sum notes acts vt vn va Y)(k:KN N w Y)(kx:Keeps [] Y X):Mach N r ths sum notes acts vt vn va X∧KN N w X :=
 ⟨h.keeps kx,k.trans (KN.of kx (hN.mono k.size) (by simp))⟩
theorem RunsQ.keeps {N:Nat→Prop}{r gt ct i:Nat}{ths:List Th}{acts:List Nat}{va:Value}{w Y X:World}{o:Th × Int × List Int}(h:RunsQ N r gt ct i ths acts va w o Y)(hN:LowN N w)(kx:Keeps [] Y X):RunsQ N r gt ct i ths acts va w o X:=by
 obtain⟨v,h1,h2⟩:=h;exact⟨v,h1.keeps kx,h2.trans (KN.of kx (hN.mono h2.size) (by simp))⟩
theorem runs_stop {N:Nat→Prop}{r gt ct i:Nat}{ths:List Th}{sum x:Int}{notes:List Int}{acts:List Nat}{vn va:Value}{w X:World}{t:Th}{b:Bool}(hN:LowN N w)(hi:i<ths.length)(h:Mach N r (ths.set i t) sum notes acts (.slice (some ⟨gt,0,none⟩) ths.length ct) vn va X)(k:KN N w X) :
  RunsQ N r gt ct i ths acts va w ({t with waits:=b,till:=x},sum,notes) ((X.setCell ⟨gt,i*5+3,none⟩ (.bool b)).setCell ⟨gt,i*5+4,none⟩ (.int .i64 x)):=by
 have hl:∀ t,(ths.set i t).length=ths.length:=fun t=>List.length_set;have hX:=hN.mono k.size;have hg:=(h.ht gt (by simp[fp,Value.ownBlock])).1;rw[← hl t] at h;have m1:=h.setT (t':={t with waits:=b}) (List.getElem?_set_self hi) (c:=3) (u:=.bool b) (by decide) rfl;rw[List.set_set,hl,← hl { t with waits:=b}] at m1;have m2:=m1.setT (t':={t with waits:=b,till:=x}) (List.getElem?_set_self hi) (c:=4) (u:=.int .i64 x) (by decide) rfl;rw[List.set_set,hl] at m2;have kk:Keeps [gt] X ((X.setCell ⟨gt,i*5+3,none⟩ (.bool b)).setCell ⟨gt,i*5+4,none⟩ (.int .i64 x)):=Keeps.setCell (Keeps.setCell (Keeps.refl _ _) _ _ (fun _=>by simp)) _ _ (fun _=>by simp);exact⟨_,m2,k.trans (KN.of kk hX fun x hx=>by rw[List.mem_singleton.1 hx];exact hg)⟩
theorem runs_calls (w:World)(N:Nat→Prop)(r gt ct i:Nat)(ths:List Th)(sum:Int)(notes:List Int)(acts:List Nat)(vn va:Value)(t:Th)(h:Mach N r ths sum notes acts (.slice (some ⟨gt,0,none⟩) ths.length ct) vn va w)(hN:LowN N w)(hi:ths[i]?=some t)(hits:ItsAt N w t.g t.its)
  (hlen:ths.length<1048576) (hil:t.its.length<4294967296) (hnl:notes.length+t.its.length<1099511627776) (hal:0<acts.length∧acts.length<1099511627776) (hk:t.next≤t.its.length) :
  Calls Try.prog 25 #[ptr r,.int .i64 i] w fun e w'=>e=.returned (.tuple #[])∧RunsQ N r gt ct i ths acts va w (runTh acts.length i (t.its.drop t.next) { t with waits:=false} sum notes) w':=by
 have hlt:=(List.getElem?_eq_some_iff.1 hi).1;obtain⟨gt',ct',e,hgl,hgr,d0,d1,d2,d3,d4⟩:=h.cells hi;cases e;have c0:w.cell? ⟨r,0,none⟩=some (.slice (some ⟨gt,0,none⟩) ths.length ct):=h.b.cell 0;have hrl:=h.b.lt;have f3:=h.t.frozen (i*5+3);have HM:=Lib.hid h;have HI:=Lib.hid hi;have HIT:=Lib.hid hits;have HM1:Hid (Mach N r (ths.set i { t with waits:=false}) sum notes acts (.slice (some ⟨gt,0,none⟩) ths.length ct) vn va (w.setCell ⟨gt,i*5+3,none⟩ (.bool false))):=Lib.hid (h.setT hi (by decide) rfl);have HK1:Hid (KN N w (w.setCell ⟨gt,i*5+3,none⟩ (.bool false))):=Lib.hid (KN.of (F:=[gt]) (Keeps.setCell (Keeps.refl _ _) _ _ (fun _=>by simp)) hN (fun x hx=>by rw[List.mem_singleton.1 hx];exact(h.ht gt (by simp[fp,Value.ownBlock])).1));generalize hout:runTh acts.length i (t.its.drop t.next) { t with waits:=false} sum notes=out;have HO:=Lib.hid hout;obtain⟨Q,hQ⟩:∃ Q:World→Prop,Q=RunsQ N r gt ct i ths acts va w out:=⟨_,rfl⟩;rw[← hQ];have HQ:=Lib.hid hQ;obtain⟨ga,ca,rfl,_⟩:=h.a.form;obtain⟨hal0,hal1⟩:=hal;clear h hi hits hout hQ;obtain⟨tg,tc,its,next,over,waits,till⟩:=t;simp only at *
 go_enter Try.func25,Try.ntmps25
 go_wp2
 go_loopw [5] (fun _ wr=>∃ (t':Th) (s':Int) (ns':List Int) (vn':Value),t'.g=tg∧t'.its=its∧t'.c=tc∧t'.next≤its.length∧t'.over=over∧Mach N r (ths.set i t') s' ns' acts (.slice (some ⟨gt,0,none⟩) ths.length ct) vn' (.slice ga acts.length ca) wr∧KN N w wr∧ns'.length≤notes.length+t'.next∧runTh acts.length i (its.drop t'.next) t' s' ns'=out) (fun _ wr=>its.length-nextOf wr gt i)
 case atStart=>exact⟨_,_,_,_,rfl,rfl,rfl,hk,rfl,HM1.out,HK1.out,by simp,HO.out⟩
 case round =>
  obtain⟨t',s',ns',vn',rfl,rfl,rfl,hk',rfl,hm,hkn,hnl',hrun⟩:=hrel;obtain⟨gn,cn,rfl,_⟩:=hm.n.form;have hi2:(ths.set i t')[i]?=some t':=by rw[List.getElem?_set_self hlt]
  have hl2:(ths.set i t').length=ths.length:=List.length_set;have hm2:=hm;rw[← hl2] at hm2;obtain⟨gt',ct',e,hgl',hgr',e0,e1,e2,e3,e4⟩:=hm2.cells hi2;rw[hl2] at e;cases e;have hrl':=hm.b.lt;have b0:wr.cell? ⟨r,0,none⟩=some (.slice (some ⟨gt,0,none⟩) ths.length ct):=hm.b.cell 0;have b1:wr.cell? ⟨r,1,none⟩=some (.int .i64 s'):=hm.b.cell 1;have b2:wr.cell? ⟨r,2,none⟩=some (.slice gn ns'.length cn):=hm.b.cell 2;have b3:wr.cell? ⟨r,3,none⟩=some (.slice ga acts.length ca):=hm.b.cell 3;have g1:=hm.t.frozen (i*5+1);have g2:=hm.t.frozen (i*5+2);have g3:=hm.t.frozen (i*5+3);have g4:=hm.t.frozen (i*5+4);have j1:=hm.b.frozen 1;have j2:=hm.b.frozen 2;have HIT':=Lib.hid (HIT.out.kn hkn);have HKN:=Lib.hid hkn;have HM:=Lib.hid hm;have HR:=Lib.hid hrun;have HI2:=Lib.hid hi2;have hnx:nextOf wr gt i=t'.next:=by unfold nextOf;rw[e1];simp
  clear hm2 hm hkn hrun hi2;obtain⟨tg,tc,its,nx,over,waits,till⟩:=t';simp only at *;by_cases hlt3:nx<its.length
  ·obtain⟨⟨d,x⟩,hdx⟩:∃ y,its[nx]?=some y:=⟨its[nx],List.getElem?_eq_getElem hlt3⟩
   obtain⟨ab,ao,rfl,hab,p1,p2⟩:=HIT'.out nx d x hdx;have habl:ab<wr.heap.size:=cell_lt p1;have hdr:its.drop nx=(d,x)::its.drop (nx+1):=by
    rw[List.drop_eq_getElem_cons hlt3];congr 1;rw[List.getElem?_eq_getElem hlt3] at hdx;exact oj' hdx
   have hr:=HR.out;rw[hdr] at hr;unfold runTh at hr;have HR:=Lib.hid hr;clear hr hdr hdx;have HS:Hid (∀ W,Keeps [] wr W→Mach N r (ths.set i ⟨some ⟨ab,ao,none⟩,tc,its,nx+1,over,waits,till⟩) s' ns' acts (.slice (some ⟨gt,0,none⟩) ths.length ct) (.slice gn ns'.length cn) (.slice ga acts.length ca) (W.setCell ⟨gt,i*5+1,none⟩ (.int .i64 ((nx:Int)+1)))∧KN N w (W.setCell ⟨gt,i*5+1,none⟩ (.int .i64 ((nx:Int)+1)))):=Lib.hid fun W k=>by
    have m1:=(HM.out.keeps k);rw[← hl2] at m1;have m2:=m1.setT (t':=⟨some ⟨ab,ao,none⟩,tc,its,nx+1,over,waits,till⟩) HI2.out (c:=1) (u:=.int .i64 ((nx:Int)+1)) (by decide) rfl;rw[hl2,List.set_set] at m2;exact⟨m2,HKN.out.trans (KN.of (F:=[gt]) (Keeps.setCell (k.mono (by simp)) _ _ (fun _=>by simp)) (hN.mono HKN.out.size) (fun x hx=>by rw[List.mem_singleton.1 hx];exact(HM.out.ht gt (by simp[fp,Value.ownBlock])).1))⟩
   go_wp2
   go_quiet (fail)
   go_wp2
   have KW:Keeps [] wr (wr.drewN nq):=(Keeps.refl _ _).drewN _;have b0:(wr.drewN nq).cell? ⟨r,0,none⟩=some (.slice (some ⟨gt,0,none⟩) ths.length ct):=b0;have b1:(wr.drewN nq).cell? ⟨r,1,none⟩=some (.int .i64 s'):=b1;have b2:(wr.drewN nq).cell? ⟨r,2,none⟩=some (.slice gn ns'.length cn):=b2;have b3:(wr.drewN nq).cell? ⟨r,3,none⟩=some (.slice ga acts.length ca):=b3;have e0:(wr.drewN nq).cell? ⟨gt,i*5,none⟩=some (.slice (some ⟨ab,ao,none⟩) its.length tc):=e0;have e1:(wr.drewN nq).cell? ⟨gt,i*5+1,none⟩=some (.int .i64 nx):=e1;have e2:(wr.drewN nq).cell? ⟨gt,i*5+2,none⟩=some (.bool over):=e2;have e3:(wr.drewN nq).cell? ⟨gt,i*5+3,none⟩=some (.bool waits):=e3;have e4:(wr.drewN nq).cell? ⟨gt,i*5+4,none⟩=some (.int .i64 till):=e4;have g1:(wr.drewN nq).frozen? ⟨gt,i*5+1,none⟩=false:=g1;have g2:(wr.drewN nq).frozen? ⟨gt,i*5+2,none⟩=false:=g2;have g3:(wr.drewN nq).frozen? ⟨gt,i*5+3,none⟩=false:=g3;have g4:(wr.drewN nq).frozen? ⟨gt,i*5+4,none⟩=false:=g4;have j1:(wr.drewN nq).frozen? ⟨r,1,none⟩=false:=j1;have j2:(wr.drewN nq).frozen? ⟨r,2,none⟩=false:=j2;have p1:(wr.drewN nq).cell? ⟨ab,ao+nx*2,none⟩=some (.int .i64 d):=p1;have p2:(wr.drewN nq).cell? ⟨ab,ao+nx*2+1,none⟩=some (.int .i64 x):=p2;have lg:gt<(wr.drewN nq).heap.size:=hgl';have lr:r<(wr.drewN nq).heap.size:=hrl';have la:ab<(wr.drewN nq).heap.size:=habl;generalize wr.drewN nq=W at KW b0 b1 b2 b3 e0 e1 e2 e3 e4 g1 g2 g3 g4 j1 j2 p1 p2 lg lr la ⊢;have HKW:=Lib.hid KW;have HRN:Hid (∀ W',Keeps [gt] W W'→RepI W' (.slice gn ns'.length cn) ns'):=Lib.hid fun W' k=>(HM.out.n.keeps KW (by simp)).keeps k (fun b hb hm=>(HM.out.ht gt (by simp[fp,Value.ownBlock])).2.2.1 (List.mem_singleton.1 hm▸hb));have HB:Hid (∀ W',Keeps [gt] W W'→Blk W' r [.slice (some ⟨gt,0,none⟩) ths.length ct,.int .i64 s',.slice gn ns'.length cn,.slice ga acts.length ca] 44):=Lib.hid fun W' k=>k.blk (KW.blk HM.out.b (by simp)) (fun hm=>hgr' (List.mem_singleton.1 hm).symm);have HD:=Lib.hid (fun hm:r∈fp (.slice gn ns'.length cn)=>(HM.out.hn r hm).2.1 rfl);clear KW
   go_region
   all_goals
    have HC:Hid (∀ (y:Int) (W':World),W'.heap.size=W.heap.size+1→∀ (j:Nat) (u:Value),([Value.int .i64 y]:List Value)[j]?=some u→(W'.alloc (.cells #[.int .i64 y] 3)).cell? ((⟨W.heap.size+1,0,none⟩:Addr).add j)=some u):=Lib.hid fun y W' hs=>cell_one_at W' (.int .i64 y) 3 hs.symm;by_cases h0:d=0
    ·subst h0
     go_wp2
     go_region_law (refine step_rep_append rfl (.tmp 50) (.tmp 53) 39 rfl (.int .i64 0) 8 Try.underlying39 info3 rfl (by decide) (.slice gn ns'.length cn) ns' (by simp[Act.eval,Act.put]) (HRN.out _ (by repeat' first | exact Keeps.refl _ _ | refine Keeps.drew ?_ | refine Keeps.drewN ?_ _ | refine Keeps.alloc ?_ _ | refine Keeps.setCell ?_ _ _ (fun _=>mc'))) (fun _=>rfl) ⟨W.heap.size+1,0,none⟩ 1 1 [x] (by simp[Act.eval,Act.put]) rfl (HC.out _ _ (by simp[wz'])) (by simp[Value.oneCell']) (by decide) (by unfold maxLen;omega) (by omega) ?_;intro g2 cap2 w2 r2 k2 a2 lg2 q2;have b9:=k2.blk (HB.out _ (by repeat' first | exact Keeps.refl _ _ | refine Keeps.drew ?_ | refine Keeps.drewN ?_ _ | refine Keeps.alloc ?_ _ | refine Keeps.setCell ?_ _ _ (fun _=>mc'))) HD.out;have c9:=b9.cell 2;have f9:=b9.frozen 2;have R2:=Lib.hid r2;have K2:=Lib.hid k2;have A2:=Lib.hid a2;clear r2 k2 a2 b9)
     all_goals
      go_wp2
      go_roundw
      case rel =>
       obtain⟨m1,k1⟩:=HS.out W HKW.out;obtain⟨m2,k2⟩:=runs_note hN m1 k1 R2.out K2.out A2.out (by repeat' first | exact Keeps.refl _ _ | refine Keeps.drew ?_ | refine Keeps.drewN ?_ _ | refine Keeps.alloc ?_ _);refine⟨⟨some ⟨ab,ao,none⟩,tc,its,nx+1,over,waits,till⟩,s',ns'++[x],_,rfl,rfl,rfl,hlt3,rfl,m2,k2,by simp only[la',List.length_singleton];omega,?_⟩;simpa using HR.out
      case measure =>
       obtain⟨m1,k1⟩:=HS.out W HKW.out;obtain⟨m2,k2⟩:=runs_note hN m1 k1 R2.out K2.out A2.out (by repeat' first | exact Keeps.refl _ _ | refine Keeps.drew ?_ | refine Keeps.drewN ?_ _ | refine Keeps.alloc ?_ _);rw[hnx,m2.nextOf hlt];show its.length-(nx+1)<its.length-nx;omega
    ·have bh0:(d==0)=false:=by simpa using h0
     by_cases h3:d=3
     ·subst h3
      go_wp2
      go_region
      all_goals
       go_wp2
       go_roundw
       case rel =>
        obtain⟨m1,k1⟩:=HS.out W HKW.out;obtain⟨m2,k2⟩:=runs_sum (x:=x) hN m1 k1 (Keeps.refl _ _);refine⟨⟨some ⟨ab,ao,none⟩,tc,its,nx+1,over,waits,till⟩,wrap64 (s'+x),ns',_,rfl,rfl,rfl,hlt3,rfl,(runs_none hN m2 k2 (by repeat' first | exact Keeps.refl _ _ | refine Keeps.drew ?_ | refine Keeps.drewN ?_ _ | refine Keeps.alloc ?_ _)).1,(runs_none hN m2 k2 (by repeat' first | exact Keeps.refl _ _ | refine Keeps.drew ?_ | refine Keeps.drewN ?_ _ | refine Keeps.alloc ?_ _)).2,by simp only;omega,?_⟩;simpa using HR.out
       case measure =>
        obtain⟨m1,k1⟩:=HS.out W HKW.out;obtain⟨m2,k2⟩:=runs_sum (x:=x) hN m1 k1 (Keeps.refl _ _);have e:∀ X,Keeps [] _ X→nextOf X gt i=nx+1:=fun X kx=>(m2.keeps kx).nextOf hlt;rw[hnx,e]
        ·omega
        ·repeat' first | exact Keeps.refl _ _ | refine Keeps.drew ?_ | refine Keeps.drewN ?_ _ | refine Keeps.alloc ?_ _
     ·have bh3:(d==3)=false:=by simpa using h3
      by_cases h5:d=5
      ·subst h5
       go_wp2_with (refine wpList_rep_append rfl (.tmp 74) (.tmp 76) 39 rfl (.int .i64 0) 8 Try.underlying39 info3 rfl (by decide) (.slice gn ns'.length cn) ns' rfl (HRN.out _ (by repeat' first | exact Keeps.refl _ _ | refine Keeps.drew ?_ | refine Keeps.drewN ?_ _ | refine Keeps.alloc ?_ _ | refine Keeps.setCell ?_ _ _ (fun _=>mc'))) (fun _=>rfl) ⟨W.heap.size+1,0,none⟩ 1 1 [(i:Int)] rfl rfl (HC.out _ _ (by simp[wz'])) (by simp[Value.oneCell']) (by decide) (by unfold maxLen;omega) (by omega) ?_;intro g2 cap2 w2 r2 k2 a2 lg2 q2;have b9:=k2.blk (HB.out _ (by repeat' first | exact Keeps.refl _ _ | refine Keeps.drew ?_ | refine Keeps.drewN ?_ _ | refine Keeps.alloc ?_ _ | refine Keeps.setCell ?_ _ _ (fun _=>mc'))) HD.out;have c9:=b9.cell 2;have f9:=b9.frozen 2;have R2:=Lib.hid r2;have K2:=Lib.hid k2;have A2:=Lib.hid a2;clear r2 k2 a2 b9)
       go_roundw
       case rel =>
        obtain⟨m1,k1⟩:=HS.out W HKW.out;obtain⟨m2,k2⟩:=runs_note hN m1 k1 R2.out K2.out A2.out (by repeat' first | exact Keeps.refl _ _ | refine Keeps.drew ?_ | refine Keeps.drewN ?_ _ | refine Keeps.alloc ?_ _);refine⟨⟨some ⟨ab,ao,none⟩,tc,its,nx+1,over,waits,till⟩,s',ns'++[(i:Int)],_,rfl,rfl,rfl,hlt3,rfl,m2,k2,by simp only[la',List.length_singleton];omega,?_⟩;simpa using HR.out
       case measure =>
        obtain⟨m1,k1⟩:=HS.out W HKW.out;obtain⟨m2,k2⟩:=runs_note hN m1 k1 R2.out K2.out A2.out (by repeat' first | exact Keeps.refl _ _ | refine Keeps.drew ?_ | refine Keeps.drewN ?_ _ | refine Keeps.alloc ?_ _);rw[hnx,m2.nextOf hlt];show its.length-(nx+1)<its.length-nx;omega
      ·have bh5:(d==5)=false:=by simpa using h5
       by_cases h6:d=6
       ·subst h6
        have hw6:IntKind.i64.wrap ((acts.length:Int)-1)=(acts.length:Int)-1:=wrap_pred _ hal0 hal1
        go_wp2
        go_region_law (refine step_rep_append rfl (.tmp 86) (.tmp 93) 39 rfl (.int .i64 0) 8 Try.underlying39 info3 rfl (by decide) (.slice gn ns'.length cn) ns' (by simp[Act.eval,Act.put]) (HRN.out _ (by repeat' first | exact Keeps.refl _ _ | refine Keeps.drew ?_ | refine Keeps.drewN ?_ _ | refine Keeps.alloc ?_ _ | refine Keeps.setCell ?_ _ _ (fun _=>mc'))) (fun _=>rfl) ⟨W.heap.size+1,0,none⟩ 1 1 [(acts.length:Int)-1] (by simp[Act.eval,Act.put]) rfl (HC.out _ _ (by simp[wz'])) (by simp[Value.oneCell']) (by decide) (by unfold maxLen;omega) (by omega) ?_;intro g2 cap2 w2 r2 k2 a2 lg2 q2;have b9:=k2.blk (HB.out _ (by repeat' first | exact Keeps.refl _ _ | refine Keeps.drew ?_ | refine Keeps.drewN ?_ _ | refine Keeps.alloc ?_ _ | refine Keeps.setCell ?_ _ _ (fun _=>mc'))) HD.out;have c9:=b9.cell 2;have f9:=b9.frozen 2;have R2:=Lib.hid r2;have K2:=Lib.hid k2;have A2:=Lib.hid a2;clear r2 k2 a2 b9)
        all_goals
         go_wp2
         go_roundw
         case rel =>
          obtain⟨m1,k1⟩:=HS.out W HKW.out;obtain⟨m2,k2⟩:=runs_note hN m1 k1 R2.out K2.out A2.out (by repeat' first | exact Keeps.refl _ _ | refine Keeps.drew ?_ | refine Keeps.drewN ?_ _ | refine Keeps.alloc ?_ _);refine⟨⟨some ⟨ab,ao,none⟩,tc,its,nx+1,over,waits,till⟩,s',ns'++[(acts.length:Int)-1],_,rfl,rfl,rfl,hlt3,rfl,m2,k2,by simp only[la',List.length_singleton];omega,?_⟩;simpa using HR.out
         case measure =>
          obtain⟨m1,k1⟩:=HS.out W HKW.out;obtain⟨m2,k2⟩:=runs_note hN m1 k1 R2.out K2.out A2.out (by repeat' first | exact Keeps.refl _ _ | refine Keeps.drew ?_ | refine Keeps.drewN ?_ _ | refine Keeps.alloc ?_ _);rw[hnx,m2.nextOf hlt];show its.length-(nx+1)<its.length-nx;omega
       ·have bh6:(d==6)=false:=by simpa using h6
        by_cases h1:d=1
        ·subst h1
         have r9:=HR.out;simp at r9;have HR9:=Lib.hid r9;clear r9
         go_wp2
         (try simp only[Exit.inBlock,Exit.then])
         refine bodyPost_ret (results_none rfl _ _ _) rfl ⟨rfl,?_⟩;obtain⟨m1,k1⟩:=HS.out W HKW.out;rw[HQ.out,← HR9.out];exact(runs_stop hN hlt m1 k1).keeps hN (by repeat' first | exact Keeps.refl _ _ | refine Keeps.drew ?_ | refine Keeps.drewN ?_ _ | refine Keeps.alloc ?_ _)
        ·have bh1:(d==1)=false:=by simpa using h1
         by_cases h4:d=4
         ·subst h4
          have r9:=HR.out;simp at r9;have HR9:=Lib.hid r9;clear r9
          go_wp2
          (try simp only[Exit.inBlock,Exit.then])
          refine bodyPost_ret (results_none rfl _ _ _) rfl ⟨rfl,?_⟩;obtain⟨m1,k1⟩:=HS.out W HKW.out;rw[HQ.out,← HR9.out];exact(runs_stop hN hlt m1 k1).keeps hN (by repeat' first | exact Keeps.refl _ _ | refine Keeps.drew ?_ | refine Keeps.drewN ?_ _ | refine Keeps.alloc ?_ _)
         ·have bh4:(d==4)=false:=by simpa using h4
          by_cases h2:d=2
          ·subst h2
           have r9:=HR.out;simp at r9;have HR9:=Lib.hid r9;clear r9
           go_wp2
           (try simp only[Exit.inBlock,Exit.then])
           refine bodyPost_ret (results_none rfl _ _ _) rfl ⟨rfl,?_⟩;obtain⟨m1,k1⟩:=HS.out W HKW.out;rw[HQ.out,← HR9.out];exact(runs_stop hN hlt m1 k1).keeps hN (by repeat' first | exact Keeps.refl _ _ | refine Keeps.drew ?_ | refine Keeps.drewN ?_ _ | refine Keeps.alloc ?_ _)
          ·have bh2:(d==2)=false:=by simpa using h2
           go_wp2
           go_roundw
           case rel =>
            obtain⟨m1,k1⟩:=HS.out W HKW.out;refine⟨⟨some ⟨ab,ao,none⟩,tc,its,nx+1,over,waits,till⟩,s',ns',_,rfl,rfl,rfl,hlt3,rfl,(runs_none hN m1 k1 (by repeat' first | exact Keeps.refl _ _ | refine Keeps.drew ?_ | refine Keeps.drewN ?_ _ | refine Keeps.alloc ?_ _)).1,(runs_none hN m1 k1 (by repeat' first | exact Keeps.refl _ _ | refine Keeps.drew ?_ | refine Keeps.drewN ?_ _ | refine Keeps.alloc ?_ _)).2,by simp only;omega,?_⟩;have r:=HR.out;rw[if_neg h0,if_neg h3,if_neg h5,if_neg h6,if_neg (by omega)] at r;exact r
           case measure =>
            obtain⟨m1,k1⟩:=HS.out W HKW.out;have e:∀ X,Keeps [] _ X→nextOf X gt i=nx+1:=fun X kx=>(m1.keeps kx).nextOf hlt;rw[hnx,e]
            ·omega
            ·repeat' first | exact Keeps.refl _ _ | refine Keeps.drew ?_ | refine Keeps.drewN ?_ _ | refine Keeps.alloc ?_ _
  ·obtain rfl:its.length=nx:=by omega
   have HF:Hid (∀ q,Q ((wr.drewN q).setCell ⟨gt,i*5+2,none⟩ (.bool true))):=Lib.hid fun q=>by
    rw[HQ.out,← HR.out,List.drop_length];have m1:=(HM.out.keeps ((Keeps.refl [] wr).drewN q));rw[← hl2] at m1;have m2:=m1.setT (t':=⟨tg,tc,its,its.length,true,waits,till⟩) HI2.out (c:=2) (u:=.bool true) (by decide) rfl;rw[hl2,List.set_set] at m2;exact⟨_,m2,HKN.out.trans (KN.of (F:=[gt]) (Keeps.setCell ((Keeps.refl _ _).drewN q) _ _ (fun _=>by simp)) (hN.mono HKN.out.size) (fun x hx=>by rw[List.mem_singleton.1 hx];exact(HM.out.ht gt (by simp[fp,Value.ownBlock])).1))⟩
   go_wp2
   go_quiet (fail)
   go_wp2
   (try simp only[Exit.inBlock,Exit.then])
   refine bodyPost_end (results_none rfl _ _ _) rfl ⟨rfl,?_⟩;exact HF.out _
def badM (n:Nat)(most:Int)(p:Nat):Int:=if n=0∨8<n∨most<0 then 2 else if 65536<p then 4 else 0
theorem docrun_bad (w:World)(N:Nat→Prop)(r:Nat)(ths:List Th)(sum:Int)(notes:List Int)(acts:List Nat)(vt vn va:Value)(h:Mach N r ths sum notes acts vt vn va w)(gp:Option Addr)(p cp:Nat)(most:Int)(wt:Bool)(bh bump:Int)(hlen:ths.length<1048576)(hp:p<1099511627776)(hbad:badM ths.length most p≠0) :
  Calls Try.prog 8 #[ptr r,.slice gp p cp,.int .i64 most,.bool wt,.int .i64 bh,.int .i64 bump] w fun e w'=>e=.returned (.tuple #[repV (.slice none 0 0) (.slice none 0 0) 0,.int .i64 (badM ths.length most p)])∧Keeps [] w w':=by
 obtain⟨gt,ct,rfl,_⟩:=h.t.form;have c0:w.cell? ⟨r,0,none⟩=some (.slice gt ths.length ct):=h.b.cell 0;have hrl:=h.b.lt;clear h;unfold badM at *;generalize ths.length=n at *;unfold repV;have HB:=Lib.hid (Blk.new w [.slice none 0 0,.slice none 0 0,.int .i64 0] 30);by_cases h0:n=0
 ·subst h0
  simp only[true_or,if_true];clear hbad
  go_enter Try.func8,Try.ntmps8
  go_wp2
  refine bodyPost_ret (results_c30 rfl rfl HB.out) rfl ⟨rfl,(Keeps.refl _ _).alloc _⟩
 by_cases h8:8<n
 ·have e:(if n=0∨8<n∨most<0 then (2:Int) else if 65536<p then 4 else 0)=2:=if_pos (.inr (.inl h8))
  rw[e];clear hbad e
  go_enter Try.func8,Try.ntmps8
  go_wp2
  refine bodyPost_ret (results_c30 rfl rfl HB.out) rfl ⟨rfl,(Keeps.refl _ _).alloc _⟩
 by_cases hm:most<0
 ·have e:(if n=0∨8<n∨most<0 then (2:Int) else if 65536<p then 4 else 0)=2:=if_pos (.inr (.inr hm))
  rw[e];clear hbad e
  go_enter Try.func8,Try.ntmps8
  go_wp2
  refine bodyPost_ret (results_c30 rfl rfl HB.out) rfl ⟨rfl,(Keeps.refl _ _).alloc _⟩
 have e0:¬(n=0∨8<n∨most<0):=by omega
 rw[if_neg e0] at hbad ⊢;by_cases hq:65536<p
 ·rw[if_pos hq]
  clear hbad e0;have l1:((n:Int)==0)=false:=by rw[beq_eq_false_iff_ne];omega
  have l2:decide ((8:Int)<n)=false:=decide_eq_false (by omega);have l3:decide (most<0)=false:=decide_eq_false (by omega)
  go_enter Try.func8,Try.ntmps8
  go_wp2
  refine bodyPost_ret (results_c30 rfl rfl HB.out) rfl ⟨rfl,(Keeps.refl _ _).alloc _⟩
 ·rw[if_neg hq] at hbad
  exact absurd rfl hbad
open Go.ConcN (sumTo upd sumTo_upd upd_ne upd_same)
theorem chosen_drop {rs acts picks:List Nat}{u:Nat}:(chosen rs acts (picks.drop u)).2=picks.drop (if u<picks.length then u+1 else u):=by
 by_cases h:u<picks.length
 ·rw[List.drop_eq_getElem_cons h,if_pos h]
  rfl
 ·rw[if_neg h,List.drop_eq_nil_of_le (by omega)]
  unfold chosen;cases acts.getLast?<;>rfl
def behD (wt:Bool)(bh bump:Int)(a:ShA):ShA:=if wt then { sum:=wrap64 (a.sum+bump),notes:=a.notes++[bh],due:=0} else a
theorem runItems_pot (i n len:Nat):∀ (l:List (Int × Int)) (k:Nat) (a:ShA),l.length=len-k→(runItems i n l k a).1.notes.length+remE len (toT (runItems i n l k a).2)≤a.notes.length+l.length
 | [],_,_,_=>by simp[runItems,toT,remE]
 | (d,x)::l,k,a,h=>by
  rw[List.length_cons] at h ⊢;have st:∀ a:ShA,_:=fun a=>runItems_pot i n len l (k+1) a (by omega);unfold runItems
  repeat' split
  all_goals first
   | (refine Nat.le_trans (st _) ?_;simp only[la',List.length_singleton];omega)
   | (refine Nat.le_trans (st _) ?_;(try dsimp only);omega)
   | (show a.notes.length+(len-(k+1)+1)≤_;omega)
theorem go_pot (Q:ShC){i n:Nat}{t:ES ItL}(a:ShA)(ht:t≠.done):(Q.go i t a n).1.notes.length+remE (Q.its i).length (toT (Q.go i t a n).2)+1≤a.notes.length+remE (Q.its i).length t∧(Q.go i t a n).1.due=1:=by
 cases t with
 | fresh =>
  refine⟨?_,runItems_due _ _ _ _ _⟩;have:=runItems_pot i n (Q.its i).length (Q.its i) 0 { a with due:=1} rfl;show _≤a.notes.length+((Q.its i).length+1);exact Nat.succ_le_succ this
 | susp l =>
  refine⟨?_,runItems_due _ _ _ _ _⟩;have:=runItems_pot i n (Q.its i).length ((Q.its i).drop l.next) l.next { a with due:=1} (List.length_drop ..);rw[List.length_drop] at this;show _≤a.notes.length+((Q.its i).length-l.next+1);exact Nat.succ_le_succ this
 | done=>exact absurd rfl ht
theorem sum_updE (Q:ShC)(st:Nat→ES ItL){i:Nat}(hi:i<Q.n)(t:ES ItL):sumTo Q.n (fun j=>remE (Q.its j).length (updE st i t j))+remE (Q.its i).length (st i)=sumTo Q.n (fun j=>remE (Q.its j).length (st j))+remE (Q.its i).length t:=by
 have h1:=sumTo_upd (fun j=>remE (Q.its j).length (st j)) (remE (Q.its i).length t) id hi;simp only[id] at h1;have h3:sumTo Q.n (fun j=>remE (Q.its j).length (updE st i t j))=sumTo Q.n (fun a=>upd (fun j=>remE (Q.its j).length (st j)) i (remE (Q.its i).length t) a):=by
  refine Go.ConcN.sumTo_congr fun j _=>?_;unfold updE;by_cases e:j=i
  ·subst e
   rw[upd_same,if_pos rfl]
  ·rw[upd_ne _ _ e,if_neg e]
 rw[h3];omega
theorem behD_pot (wt:Bool)(bh bump:Int)(a:ShA)(h:a.due=1):(behD wt bh bump a).notes.length+(behD wt bh bump a).due=a.notes.length+1:=by
 unfold behD;cases wt
 ·simp[h]
 ·simp
theorem act_pot (Q:ShC)(C:WC)(wt:Bool)(bh bump:Int){x:RunSt ItL ShA}{i:Nat}(left:List Nat)(hi:i<Q.n)(ht:x.st i≠.done)(h:Q.pot x.a x.st):Q.pot (oneAct (Q.bods C) (behD wt bh bump) x i left).a (oneAct (Q.bods C) (behD wt bh bump) x i left).st:=by
 unfold ShC.pot at *;obtain⟨h1,h2⟩:=go_pot Q (n:=x.acts.length+1) (i:=i) x.a ht;have h3:=behD_pot wt bh bump _ h2;have h4:=sum_updE Q x.st hi (toT (Q.go i (x.st i) x.a (x.acts.length+1)).2);show(behD wt bh bump (Q.go i (x.st i) x.a (x.acts.length+1)).1).notes.length+(behD wt bh bump (Q.go i (x.st i) x.a (x.acts.length+1)).1).due+sumTo Q.n (fun j=>remE (Q.its j).length (updE x.st i (toT (Q.go i (x.st i) x.a (x.acts.length+1)).2) j))≤Q.M;omega
def ShC.out (Q:ShC)(C:WC)(wt:Bool)(bh bump:Int)(most:Int)(picks:List Nat):RunSt ItL ShA:=runF (Q.bods C) Q.n (behD wt bh bump) most.toNat ⟨fun _=>.fresh,⟨0,[],0⟩,[],picks⟩
def lowH (N:Nat→Prop)(H:Nat)(b:Nat):Prop:=N b∨b=H∨b=H+1
structure DocM (N:Nat→Prop)(w0:World)(H r gt ct n:Nat)(ths:List Th)(sum:Int)(notes:List Int)(acts:List Nat)(vn va:Value)(u:Nat)(wr:World):Prop where
 mc:Mach (lowH N H) r ths sum notes acts (.slice (some ⟨gt,0,none⟩) n ct) vn va wr
 low:LowN N w0
 kn:KN N w0 wr
 h0:∀ x,N x→x<H
 b0:Blk wr H [.slice none 0 0,.slice none 0 0,.int .i64 0] 30
 b1:Blk wr (H+1) [.slice none 0 0,.slice none 0 0,.int .i64 u] 30
section
variable {N:Nat→Prop}{w0:World}{H r gt ct n:Nat}{ths:List Th}{sum:Int}{notes:List Int}{acts:List Nat}{vn va:Value}{u:Nat}{wr w1:World}
theorem DocM.lowH (h:DocM N w0 H r gt ct n ths sum notes acts vn va u wr):LowN (lowH N H) wr:=fun x hx=>by
 have h1:=h.b1.lt;rcases hx with q | q | q
 ·exact Nat.lt_trans (h.h0 x q) (by omega)
 ·omega
 ·omega
theorem DocM.keeps (h:DocM N w0 H r gt ct n ths sum notes acts vn va u wr)(k:Keeps [] wr w1):DocM N w0 H r gt ct n ths sum notes acts vn va u w1 :=
 ⟨h.mc.keeps k,h.low,h.kn.trans (KN.of k (h.low.mono h.kn.size) (by simp)),h.h0,k.blk h.b0 (by simp),k.blk h.b1 (by simp)⟩
theorem Mach.frame {N:Nat→Prop}{vt:Value}{F:List Nat}(h:Mach N r ths sum notes acts vt vn va wr)(k:Keeps F wr w1)(hf:∀ b∈F,N b):Mach N r ths sum notes acts vt vn va w1 :=
 ⟨k.blk h.b fun hm=>h.hr (hf _ hm),h.t.keeps k fun b hb hm=>(h.ht b hb).1 (hf _ hm),h.n.keeps k fun b hb hm=>(h.hn b hb).1 (hf _ hm),h.a.keeps k fun b hb hm=>(h.ha b hb).1 (hf _ hm),h.hr,h.ht,h.hn,h.ha⟩
theorem DocM.setU (h:DocM N w0 H r gt ct n ths sum notes acts vn va u wr)(u':Nat):DocM N w0 H r gt ct n ths sum notes acts vn va u' (wr.setCell ⟨H+1,2,none⟩ (.int .i64 u')):=by
 have k:Keeps [H+1] wr (wr.setCell ⟨H+1,2,none⟩ (.int .i64 u')):=Keeps.setCell (Keeps.refl _ _) _ _ (fun _=>by simp);refine⟨h.mc.frame k fun b hb=>.inr (.inr (List.mem_singleton.1 hb)),h.low,h.kn.trans (KN.of k (h.low.mono h.kn.size) fun x hx hn=>?_),h.h0,k.blk h.b0 (by simp),h.b1.set 2 _⟩;have:=h.h0 x hn;rw[List.mem_singleton.1 hx] at this;omega
theorem lowH_kn {a b:World}(k:KN (Lift.lowH N H) a b):KN N a b:=⟨k.size,fun x hx=>k.block x (.inl hx)⟩
theorem DocM.of_kn {sum':Int}{notes':List Int}{acts':List Nat}{ths':List Th}{vn' va':Value}(h:DocM N w0 H r gt ct n ths sum notes acts vn va u wr)(k:KN (Lift.lowH N H) wr w1)(m:Mach (Lift.lowH N H) r ths' sum' notes' acts' (.slice (some ⟨gt,0,none⟩) n ct) vn' va' w1):DocM N w0 H r gt ct n ths' sum' notes' acts' vn' va' u w1 :=
 ⟨m,h.low,h.kn.trans (lowH_kn k),h.h0,(k.block H (.inr (.inl rfl))).trans h.b0,(k.block (H+1) (.inr (.inr rfl))).trans h.b1⟩
theorem DocM.act {X w2:World}{g2 m c2 y:Nat}(h:DocM N w0 H r gt ct n ths sum notes acts vn va u wr)(kx:Keeps [] wr X)(r2:RepU w2 (.slice (some ⟨g2,0,none⟩) m c2) (acts++[y]))(k2:Keeps (fp va) X w2)(a2:g2∈fp va∨g2=X.heap.size) :
  DocM N w0 H r gt ct n ths sum notes (acts++[y]) vn (.slice (some ⟨g2,0,none⟩) m c2) u (w2.setCell ⟨r,3,none⟩ (.slice (some ⟨g2,0,none⟩) m c2)):=by
 have hX:=h.keeps kx;refine hX.of_kn ((KN.of k2 hX.lowH fun x hx=>(hX.mc.ha x hx).1).trans (KN.of (F:=[r]) (Keeps.setCell (Keeps.refl _ _) _ _ (fun _=>by simp)) (hX.lowH.mono k2.size) fun x hx=>by rw[List.mem_singleton.1 hx];exact hX.mc.hr)) (hX.mc.setA hX.lowH r2 k2 a2)
theorem DocM.note {X w2:World}{g2 m c2:Nat}{y:Int}(h:DocM N w0 H r gt ct n ths sum notes acts vn va u wr)(kx:Keeps [] wr X)(r2:RepI w2 (.slice (some ⟨g2,0,none⟩) m c2) (notes++[y]))(k2:Keeps (fp vn) X w2)(a2:g2∈fp vn∨g2=X.heap.size) :
  DocM N w0 H r gt ct n ths sum (notes++[y]) acts (.slice (some ⟨g2,0,none⟩) m c2) va u (w2.setCell ⟨r,2,none⟩ (.slice (some ⟨g2,0,none⟩) m c2)):=by
 have hX:=h.keeps kx;refine hX.of_kn ((KN.of k2 hX.lowH fun x hx=>(hX.mc.hn x hx).1).trans (KN.of (F:=[r]) (Keeps.setCell (Keeps.refl _ _) _ _ (fun _=>by simp)) (hX.lowH.mono k2.size) fun x hx=>by rw[List.mem_singleton.1 hx];exact hX.mc.hr)) (hX.mc.setN hX.lowH r2 k2 a2)
theorem DocM.setS (h:DocM N w0 H r gt ct n ths sum notes acts vn va u wr)(s:Int):DocM N w0 H r gt ct n ths s notes acts vn va u (wr.setCell ⟨r,1,none⟩ (.int .i64 s)) :=
 h.of_kn (KN.of (F:=[r]) (Keeps.setCell (Keeps.refl _ _) _ _ (fun _=>by simp)) h.lowH fun x hx=>by rw[List.mem_singleton.1 hx];exact h.mc.hr) (h.mc.setS s)
end
def actsOf (w:World)(r:Nat):Nat:=match w.cell? ⟨r,3,none⟩ with
 | some (.slice _ n _)=>n
 | _=>0
theorem Mach.actsOf {N:Nat→Prop}{r:Nat}{ths:List Th}{sum:Int}{notes:List Int}{acts:List Nat}{vt vn va:Value}{w:World}(h:Mach N r ths sum notes acts vt vn va w):Lift.actsOf w r=acts.length:=by
 obtain⟨g,c,rfl,_⟩:=h.a.form;have:w.cell? ⟨r,3,none⟩=some (.slice g acts.length c):=h.b.cell 3;unfold Lift.actsOf;rw[this]
structure DocI (Q:ShC)(C:WC)(N:Nat→Prop)(w0:World)(H r gt ct:Nat)(picks:List Nat)(most:Int)(wt:Bool)(bh bump:Int)(y:RunSt ItL ShA)(wr:World)(x:RunSt ItL ShA)(ths:List Th)(vn va:Value)(u k:Nat):Prop where
 m:MOf Q x ths
 mem:DocM N w0 H r gt ct Q.n ths x.a.sum x.a.notes x.acts vn va u wr
 ul:u≤picks.length
 xl:x.left=picks.drop u
 kk:(k:Int)=most-x.acts.length
 run:runF (Q.bods C) Q.n (behD wt bh bump) k x=y
 al:∀ i∈x.acts,i<Q.n
 pot:Q.pot x.a x.st
section
variable {Q:ShC}{C:WC}{N:Nat→Prop}{w0:World}{H r gt ct:Nat}{picks:List Nat}{most:Int}{wt:Bool}{bh bump:Int}{y:RunSt ItL ShA}{wr:World}{x:RunSt ItL ShA}{ths:List Th}{vn va:Value}{u k:Nat}
theorem DocI.used (h:DocI Q C N w0 H r gt ct picks most wt bh bump y wr x ths vn va u k):picks.length-x.left.length=u:=by
 rw[h.xl,List.length_drop];have:=h.ul;omega
theorem DocI.acts (h:DocI Q C N w0 H r gt ct picks most wt bh bump y wr x ths vn va u k):x.acts.length≤y.acts.length:=h.run▸runF_acts k x
theorem DocI.stuck (h:DocI Q C N w0 H r gt ct picks most wt bh bump y wr x ths vn va u k)(hs:(x.acts.length:Int)<most→readies (Q.bods C) Q.n x=[]):y=x:=by
 rw[← h.run];cases k with
 | zero=>rfl
 | succ k =>
  have:=h.kk;unfold runF;rw[if_pos (hs (by omega))]
theorem DocI.next (h:DocI Q C N w0 H r gt ct picks most wt bh bump y wr x ths vn va u k)(hne:readies (Q.bods C) Q.n x≠[])(hlt:(x.acts.length:Int)<most){i:Nat}(hi:i=(chosen (readies (Q.bods C) Q.n x) x.acts (picks.drop u)).1) :
  i<Q.n∧x.st i≠.done∧∃ k',k=k'+1∧((k':Int)=most-(x.acts.length+1:Nat))∧runF (Q.bods C) Q.n (behD wt bh bump) k' (oneAct (Q.bods C) (behD wt bh bump) x i (picks.drop (if u<picks.length then u+1 else u)))=y∧x.acts.length+1≤y.acts.length:=by
 rw[← h.xl] at hi;obtain⟨h1,h2⟩:=readies_lt (chosen_mem (left:=x.left) (acts:=x.acts) hne);rw[← hi] at h1 h2;refine⟨h1,h2,?_⟩;cases k with
 | zero=>have:=h.kk;omega
 | succ k =>
  have hk:=h.kk;have hr:=h.run;unfold runF at hr;rw[if_neg hne,h.xl,chosen_drop,← h.xl,← hi] at hr;refine⟨k,rfl,by omega,hr,?_⟩;have:=runF_acts (B:=Q.bods C) (n:=Q.n) (beh:=behD wt bh bump) k (oneAct (Q.bods C) (behD wt bh bump) x i (picks.drop (if u<picks.length then u+1 else u)));rw[hr] at this;refine Nat.le_trans (Nat.le_of_eq ?_) this;show _=(x.acts++[i]).length;simp
theorem DocI.done (h:DocI Q C N w0 H r gt ct picks most wt bh bump y wr x ths vn va u k)(hne:readies (Q.bods C) Q.n x≠[])(hlt:(x.acts.length:Int)<most){i:Nat}(hi:i=(chosen (readies (Q.bods C) Q.n x) x.acts (picks.drop u)).1){t:Th}(ht:ths[i]?=some t){u':Nat}(hu:u'=if u<picks.length then u+1 else u)
  {ths':List Th} {out:Th × Int × List Int} (hout:out=runTh (x.acts.length+1) i (t.its.drop t.next) { t with waits:=false} x.a.sum x.a.notes) (hths:ths'=ths.set i out.1) {sum':Int} {notes':List Int} {vn' va':Value} {w1:World}
  (hs:sum'=if wt then wrap64 (out.2.1+bump) else out.2.1) (hn:notes'=if wt then out.2.2++[bh] else out.2.2) (hm:DocM N w0 H r gt ct Q.n ths' sum' notes' (x.acts++[i]) vn' va' u' w1) :
  ∃ x' k',DocI Q C N w0 H r gt ct picks most wt bh bump y w1 x' ths' vn' va' u' k'∧x'.acts=x.acts++[i]:=by
 obtain⟨p1,p2,k',rfl,p3,p4,p5⟩:=h.next hne hlt hi;obtain⟨t',h1,h2,h3,h4,h5⟩:=h.m.at_ i p1;rw[ht] at h1;cases h1;obtain⟨q1,q2,_⟩:=runTh_go h2 Q i (x.acts.length+1) h3 p2 x.a;rw[← hout] at q1 q2;have ma:=h.m.act C (behD wt bh bump) (picks.drop u') p1 p2 ht;rw[← hout,← hths] at ma;refine⟨oneAct (Q.bods C) (behD wt bh bump) x i (picks.drop u'),k',⟨ma,?_,by rw[hu];have:=h.ul;split<;>omega,rfl,?_,by rw[hu];exact p4,fun j hj=>?_,act_pot Q C wt bh bump _ p1 p2 h.pot⟩,rfl⟩
 ·have e1:(oneAct (Q.bods C) (behD wt bh bump) x i (picks.drop u')).a.sum=sum':=by
   show(behD wt bh bump (Q.go i (x.st i) x.a (x.acts.length+1)).1).sum=_;rw[hs,q1];unfold behD;cases wt<;>rfl
  have e2:(oneAct (Q.bods C) (behD wt bh bump) x i (picks.drop u')).a.notes=notes':=by
   show(behD wt bh bump (Q.go i (x.st i) x.a (x.acts.length+1)).1).notes=_;rw[hn,q2];unfold behD;cases wt<;>rfl
  rw[e1,e2];exact hm
 ·show(k':Int)=most-((x.acts++[i]).length:Nat)
  rw[la'];exact p3
 ·rcases List.mem_append.1 hj with q | q
  ·exact h.al j q
  ·rw[List.mem_singleton.1 q];exact p1
theorem DocI.keeps (h:DocI Q C N w0 H r gt ct picks most wt bh bump y wr x ths vn va u k){w1:World}(kx:Keeps [] wr w1):DocI Q C N w0 H r gt ct picks most wt bh bump y w1 x ths vn va u k:=⟨h.m,h.mem.keeps kx,h.ul,h.xl,h.kk,h.run,h.al,h.pot⟩
theorem DocI.notes (h:DocI Q C N w0 H r gt ct picks most wt bh bump y wr x ths vn va u k):x.a.notes.length≤Q.M:=by
 have:=h.pot;unfold ShC.pot at this;omega
end
theorem doc_ready {Q:ShC}{C:WC}{N:Nat→Prop}{w0:World}{H r gt ct:Nat}{picks:List Nat}{most:Int}{wt:Bool}{bh bump:Int}{y:RunSt ItL ShA}{wr:World}{x:RunSt ItL ShA}{ths:List Th}{vn va:Value}{u k:Nat}(h:DocI Q C N w0 H r gt ct picks most wt bh bump y wr x ths vn va u k)(hn:Q.n≤8) :
  Calls Try.prog 23 #[ptr r] wr fun e w'=>∃ gr cr,e=.returned (.slice gr (readies (Q.bods C) Q.n x).length cr)∧RepI w' (.slice gr (readies (Q.bods C) Q.n x).length cr) ((readies (Q.bods C) Q.n x).map fun x:Nat=>(x:Int))∧Keeps [] wr w':=by
 refine(ready_calls wr _ r ths x.a.sum x.a.notes x.acts _ _ _ h.mem.mc (by rw[h.m.len];omega)).mono ?_;rintro e w' ⟨v,rfl,h1,_,h3⟩;rw[h.m.len,h.m.rdy C] at h1;obtain⟨gr,cr,rfl,_⟩:=h1.form;rw[List.length_map] at h1 ⊢;exact⟨gr,cr,rfl,h1,h3⟩
theorem doc_chosen {Q:ShC}{C:WC}{N:Nat→Prop}{w0:World}{H r gt ct:Nat}{picks:List Nat}{most:Int}{wt:Bool}{bh bump:Int}{y:RunSt ItL ShA}{wr:World}{x:RunSt ItL ShA}{ths:List Th}{vn va:Value}{u k:Nat}(h:DocI Q C N w0 H r gt ct picks most wt bh bump y wr x ths vn va u k)(hn:Q.n≤8){gr:Option Addr}{cr:Nat}
  (hr:RepI wr (.slice gr (readies (Q.bods C) Q.n x).length cr) ((readies (Q.bods C) Q.n x).map fun x:Nat=>(x:Int))) {pv:Value} {pb:Nat} (hp:Bytes pb wr pv picks) (hne:readies (Q.bods C) Q.n x≠[]) (hpl:picks.length≤65536) (hac:x.acts.length<4294967295) :
  Calls Try.prog 24 #[ptr r,.slice gr (readies (Q.bods C) Q.n x).length cr,pv,.int .i64 u] wr fun e w'=>e=.returned (.int .i64 (chosen (readies (Q.bods C) Q.n x) x.acts (picks.drop u)).1)∧∃ n,w'=wr.drewN n:=by
 have h8:(readies (Q.bods C) Q.n x).length≤8:=Nat.le_trans (Nat.le_trans (List.length_filter_le _ _) (by simp)) hn;exact chosen_calls wr _ r ths x.a.sum x.a.notes x.acts _ _ _ h.mem.mc _ pv _ picks u hr hp.rd hne h8 (fun a ha=>by have:=h.al a ha;omega) (by omega) (by obtain⟨_,_,_,_,_,q,_⟩:=hp;exact q) (by omega) h.ul
theorem doc_runs {N:Nat→Prop}{w0:World}{H r gt ct n i:Nat}{ths:List Th}{sum:Int}{notes:List Int}{acts:List Nat}{vn va:Value}{u:Nat}{wr:World}{t:Th}(h:DocM N w0 H r gt ct n ths sum notes acts vn va u wr)(hn:ths.length=n)(hn8:n≤8)(hi:ths[i]?=some t)(hits:ItsAt (Lift.lowH N H) wr t.g t.its)(hil:t.its.length<4294967296)(hnl:notes.length+t.its.length<1099511627776)(hal:0<acts.length∧acts.length<1099511627776)(hk:t.next≤t.its.length) :
  Calls Try.prog 25 #[ptr r,.int .i64 i] wr fun e w'=>e=.returned (.tuple #[])∧∃ gn' cn',DocM N w0 H r gt ct n (ths.set i (runTh acts.length i (t.its.drop t.next) { t with waits:=false} sum notes).1) (runTh acts.length i (t.its.drop t.next) { t with waits:=false} sum notes).2.1 (runTh acts.length i (t.its.drop t.next) { t with waits:=false} sum notes).2.2 acts
   (.slice gn' (runTh acts.length i (t.its.drop t.next) { t with waits:=false} sum notes).2.2.length cn') va u w':=by
 subst hn;refine(runs_calls wr _ r gt ct i ths sum notes acts vn va t h.mc h.lowH hi hits (by omega) hil hnl hal hk).mono ?_;rintro e w' ⟨rfl,vn',h1,h2⟩;obtain⟨gn',cn',rfl,_⟩:=h1.n.form;exact⟨rfl,gn',cn',h.of_kn h2 h1⟩
theorem doc_rel {wb wr w2 w3:World}{n j H u g2 cap2 ev:Nat}{va ve:Value}{ds:List Bool}{cut d lb:Bool}(hlt:j<n)(ht:ds.take (j+1)=ds.take j++[d])(hev:ev=if d then 1 else if cut then 4 else 3)(hlb:lb=((ds.take j).any not||!d))(hb1:Blk wr (H+1) [va,ve,.int .i64 u] 30)(hH:H+1<wb.heap.size)(hfr:∀ b∈fp ve,wb.heap.size≤b)(hkp:Keeps [H+1] wb wr)
  (k1:Keeps [] wr w2) (r2:RepE w3 (.slice (some ⟨g2,0,none⟩) ((endsM cut (ds.take j)).length+1) cap2) (endsM cut (ds.take j)++[ev])) (k2:Keeps (fp ve) w2 w3) (a2:g2∈fp ve∨g2=w2.heap.size) {W:World} (hW:W=w3.setCell ⟨H+1,1,none⟩ (.slice (some ⟨g2,0,none⟩) ((endsM cut (ds.take j)).length+1) cap2)) :
  ∃ (j':Nat) (ve':Value),j'≤n∧Value.int .i64 ((j:Int)+1)=.int .i64 j'∧Value.bool lb=.bool ((ds.take j').any not)∧RepE W ve' (endsM cut (ds.take j'))∧Blk W (H+1) [va,ve',.int .i64 u] 30∧(∀ b∈fp ve',wb.heap.size≤b)∧Keeps [H+1] wb W:=by
 subst hW;have hend:endsM cut (ds.take (j+1))=endsM cut (ds.take j)++[ev]:=by rw[ht,hev];simp[endsM]
 have hl1:=hb1.lt;have hsz:=k1.size;have hsb:=hkp.size;have n1:H+1∉fp ve:=fun h=>by have:=hfr _ h;omega
 have hg:wb.heap.size≤g2:=by
  rcases a2 with q | q
  ·exact hfr _ q
  ·omega
 have kc:Keeps [H+1] w3 (w3.setCell ⟨H+1,1,none⟩ (.slice (some ⟨g2,0,none⟩) ((endsM cut (ds.take j)).length+1) cap2)):=Keeps.setCell (Keeps.refl _ _) _ _ (fun _=>by simp);have b1:Blk w3 (H+1) _ 30:=k2.blk (k1.blk hb1 (by simp)) n1;refine⟨j+1,.slice (some ⟨g2,0,none⟩) ((endsM cut (ds.take j)).length+1) cap2,by omega,by simp,?_,?_,b1.set 1 _,?_,?_⟩
 ·rw[ht,hlb,List.any_append];simp
 ·rw[hend]
  exact r2.keeps kc (by intro b hb;simp[fp,Value.ownBlock] at hb ⊢;omega)
 ·intro b hb
  obtain rfl:b=g2:=by simpa[fp,Value.ownBlock] using hb
  exact hg
 ·refine(((hkp.trans (k1.mono (by simp)) fun _ h _=>h).trans k2 fun x hx hlt=>?_).trans kc fun _ h _=>h)
  have:=hfr x hx;omega
structure DocT (N:Nat→Prop)(w0:World)(H r gt ct n:Nat)(ths:List Th)(sum:Int)(notes:List Int)(acts:List Nat)(vn va va':Value)(u:Nat)(wb:World):Prop where
 mc:Mach (lowH N H) r ths sum notes acts (.slice (some ⟨gt,0,none⟩) n ct) vn va wb
 low:LowN N w0
 kn:KN N w0 wb
 h0:∀ x,N x→x<H
 hH:H+1<wb.heap.size
 b0:Blk wb H [.slice none 0 0,.slice none 0 0,.int .i64 0] 30
 b1:Blk wb (H+1) [va',.slice none 0 0,.int .i64 u] 30
 ra:RepU wb va' acts
 fa:∀ b∈fp va',b≠H∧b≠H+1
section
variable {N:Nat→Prop}{w0:World}{H r gt ct n:Nat}{ths:List Th}{sum:Int}{notes:List Int}{acts:List Nat}{vn va va':Value}{u:Nat}{wb wq:World}
theorem DocT.mach (h:DocT N w0 H r gt ct n ths sum notes acts vn va va' u wb)(k:Keeps [H,H+1] wb wq):Mach (lowH N H) r ths sum notes acts (.slice (some ⟨gt,0,none⟩) n ct) vn va wq:=h.mc.frame k fun b hb=>by
 simp only[List.mem_cons,List.mem_singleton,List.not_mem_nil,or_false] at hb;exact .inr hb
theorem DocT.repa (h:DocT N w0 H r gt ct n ths sum notes acts vn va va' u wb)(k:Keeps [H,H+1] wb wq):RepU wq va' acts:=h.ra.keeps k fun b hb hm=>by
 have:=h.fa b hb;simp only[List.mem_cons,List.mem_singleton,List.not_mem_nil,or_false] at hm;omega
theorem DocT.knq (h:DocT N w0 H r gt ct n ths sum notes acts vn va va' u wb)(k:Keeps [H,H+1] wb wq):KN N w0 wq:=h.kn.trans (KN.of k (h.low.mono h.kn.size) fun b hb hn=>by
 have:=h.h0 b hn;simp only[List.mem_cons,List.mem_singleton,List.not_mem_nil,or_false] at hb;omega)
theorem DocT.nil (h:DocM N w0 H r gt ct n ths sum notes [] vn va u wb){W:World}(k:Keeps [] wb wq)(hW:W=wq.setCell ⟨H+1,0,none⟩ (.slice none 0 0)):DocT N w0 H r gt ct n ths sum notes [] vn va (.slice none 0 0) u W:=by
 subst hW;have k2:Keeps [H+1] wq (wq.setCell ⟨H+1,0,none⟩ (.slice none 0 0)):=Keeps.setCell (Keeps.refl _ _) _ _ (fun _=>by simp);have h2:=h.keeps k;refine⟨h2.mc.frame k2 fun b hb=>.inr (.inr (List.mem_singleton.1 hb)),h.low,h2.kn.trans (KN.of k2 (h2.low.mono h2.kn.size) fun x hx hn=>?_),h.h0,nl' h2.b1.lt k2.size,k2.blk h2.b0 (by simp),h2.b1.set 0 _,Rep.nil,by simp[fp,Value.ownBlock]⟩;have:=h.h0 x hn;rw[List.mem_singleton.1 hx] at this;omega
theorem DocT.grown (h:DocM N w0 H r gt ct n ths sum notes acts vn va u wb){W w2:World}{g2 m cap2:Nat}(k:Keeps [] wb wq)(r2:RepU w2 (.slice (some ⟨g2,0,none⟩) m cap2) acts)(k2:Keeps [] wq w2)(a2:g2=wq.heap.size)(hW:W=w2.setCell ⟨H+1,0,none⟩ (.slice (some ⟨g2,0,none⟩) m cap2)):DocT N w0 H r gt ct n ths sum notes acts vn va (.slice (some ⟨g2,0,none⟩) m cap2) u W:=by
 subst hW;have k3:Keeps [H+1] w2 (w2.setCell ⟨H+1,0,none⟩ (.slice (some ⟨g2,0,none⟩) m cap2)):=Keeps.setCell (Keeps.refl _ _) _ _ (fun _=>by simp);have h1:=h.keeps k;have h2:=h1.keeps k2;have hl:=h1.b1.lt;have hf:∀ b∈fp (.slice (some ⟨g2,0,none⟩) m cap2),b=g2:=fun b hb=>by simpa[fp,Value.ownBlock] using hb
 refine⟨h2.mc.frame k3 fun b hb=>.inr (.inr (List.mem_singleton.1 hb)),h.low,h2.kn.trans (KN.of k3 (h2.low.mono h2.kn.size) fun x hx hn=>?_),h.h0,nl' h2.b1.lt k3.size,k3.blk h2.b0 (by simp),h2.b1.set 0 _,r2.keeps k3 fun b hb=>?_,fun b hb=>?_⟩
 ·have:=h.h0 x hn
  rw[List.mem_singleton.1 hx] at this;omega
 ·rw[hf b hb,List.mem_singleton]
  omega
 ·rw[hf b hb]
  omega
end
section
variable {Post:Value→World→Prop}{S:SC}{cl:Frame}{cs:List Frame}
theorem watch_bad (hcl:cl.mode=.run){g0:Option Addr}{c0:Nat}{vs:List Value}{v1 bh:Value}{left:List Nat}{most:Int}{pb:Nat}(hv:∀ u∈vs,u=.nilFunc∨∃ f cap,u=.func (.func f) #[] cap)
  (hc:vs≠[]→∃ b o,g0=some ⟨b,o,none⟩∧b<S.w.heap.size∧∀ (j:Nat) (u:Value),vs[j]?=some u→S.w.cell? ⟨b,o+j,none⟩=some u) (hl:Bytes pb S.w v1 left) (hpb:pb<S.w.heap.size) (he:fitsM vs most left.length≠0)
  (h:∀ w',Kp [] S.w w'→Sound Try.prog link.tWg Post 0 { S with w:=w'} (gs (cl.finish (.tuple #[.agg #[.slice none 0 0,.slice none 0 0,.int .i64 0],.int .i64 (fitsM vs most left.length)])) cs)) :
  Sound Try.prog link.tWg Post 0 S (gs (Frame.enter Try.prog 27 #[.slice g0 vs.length c0,v1,.int .i64 most,bh] .normal) (cl::cs)):=by
 have hK:=clS (Post:=Post) S;refine ks (S:=S) (wat_enter hK.det ?_) rfl;have k1:=Kp.alloc [] S.w (.cells #[.slice none 0 0,.slice none 0 0,.int .i64 0] 30);have bo1:Pl.Blk (S.w.alloc (.cells #[.slice none 0 0,.slice none 0 0,.int .i64 0] 30)) S.w.heap.size [.slice none 0 0,.slice none 0 0,.int .i64 0] 30:=Pl.Blk.new S.w [.slice none 0 0,.slice none 0 0,.int .i64 0] 30;generalize S.w.alloc (.cells #[.slice none 0 0,.slice none 0 0,.int .i64 0] 30)=w1 at k1 bo1 ⊢;refine hK.call fits shut (f:=35) rfl (R:=fun v' w'=>v'=.int .i64 (fitsM vs most left.length)∧Kp [] w1 w') (fun v' w' τ d ⟨h1,h2⟩=>⟨h1,⟨h2.size,h2.block⟩⟩) (fun τ d=>?_) ?_
 ·refine(fits_calls (Lift.re w1 τ d) g0 c0 vs v1 left most hv (fun hne=>?_) (pb:=pb) (hl.same (k1.block pb hpb (by simp)))).mono fun e w' h=>⟨_,h.1,rfl,?_⟩
  ·obtain⟨b,o,h1,h2,h3⟩:=hc hne
   exact⟨b,o,h1,fun j u hj=>(k1.cell h2).trans (h3 j u hj)⟩
  ·rw[h.2];exact⟨Nat.le_refl _,fun _ _ _=>rfl⟩
 ·rintro _ w2 ⟨rfl,k2⟩
  have bo2:Pl.Blk w2 S.w.heap.size _ 30:=k2.blk bo1 (by simp);refine wat_bad hK.det hcl he bo2 fun w3 h3 h4=>h w3 ⟨?_,fun b hb _=>?_⟩
  ·have:=k1.size;have:=k2.size;omega
  ·rw[h3 b (by omega)]
   exact(k1.trans k2).block b hb (by simp)
end
section
variable {K:Goroutine→World→Prop}{m:Bool}{w:World}{cs:List Frame}{cl:Frame}{vf vp vt:Value}{most bump:Int}{ob:Nat}
theorem pu_ext {a:Act}{oo:Oper}{w:World}{x:Operand}{j:Nat}{vs:Array Value}{v:Value}(h:oo.op=.extract x j)(hx:a.eval x=.tuple vs)(hv:vs[j]?=some v):(execOp a.eval oo).run Try.prog w=.ok (.value v) w:=by
 unfold execOp;rw[h];generalize a.eval=ρ at hx ⊢;simp[hx,hv,go_sem]
theorem al34:∀ w:World,(Instr.alloc 34 true (.tuple #[])).run Try.prog w=.ok (ptr w.heap.size) (w.alloc (.cells #[.pointer none] 34)):=fun w=>by
 simp[go_sem,Try.underlying34,Try.runUnderlying34,Try.sizeOf34,Try.isAgg34,Try.zeroValue34]
theorem st34 {w:World}{b s:Nat}{x0:Value}(hb:Pl.Blk w b [x0] 34):(Instr.storeAt 34 (ptr b) (ptr s)).run Try.prog w=.ok () (w.setCell ⟨b,0,none⟩ (ptr s)):=by
 have c0:=hb.cell 0;have f0:=hb.frozen 0;simp only[List.getElem?_cons_zero] at c0;simp[go_sem,c0,f0,Try.underlying34,Try.runUnderlying34,Try.sizeOf34,Try.isAgg34]
theorem bx25 {bump most:Int}{vt vp:Value}{wt:Bool}{g1 g2:Option Addr}{n1 c1 n2 c2:Nat}(h1:vt=.slice g1 n1 c1)(h2:vp=.slice g2 n2 c2):∀ w:World,(Instr.box 25 (.agg #[.int .i64 bump,vt,vp,.int .i64 most,.bool wt])).run Try.prog w=.ok (ptr w.heap.size) (w.alloc (.cells #[.int .i64 bump,vt,vp,.int .i64 most,.bool wt] 25)):=fun w=>by
 subst h1 h2;simp[go_sem,Try.underlying25,Try.runUnderlying25,Try.sizeOf25,Try.isAgg25]
theorem bx41:∀ w:World,(Instr.box 41 (.agg #[.int .i64 0,.slice none 0 0])).run Try.prog w=.ok (ptr w.heap.size) (w.alloc (.cells #[.int .i64 0,.slice none 0 0] 41)):=fun w=>by
 simp[go_sem,Try.underlying41,Try.runUnderlying41,Try.sizeOf41,Try.isAgg41]
theorem pu_build41 {a:Act}{oo:Oper}{w:World}(h:oo.op=.build 41 #[]):(execOp a.eval oo).run Try.prog w=.ok (.value (.agg #[.int .i64 0,.slice none 0 0])) w:=by
 unfold execOp;rw[h];exact run_vv (by simp[go_sem,Try.underlying41,Try.runUnderlying41,Try.sizeOf41,Try.zeroValue41])
theorem fld25 {b f:Nat}(hf:f<5):∀ w,(Instr.fieldAt 25 (.pointer (some ⟨b,0,none⟩)) f).run Try.prog w=.ok (.pointer (some ⟨b,f,none⟩)) w:=fun w=>by
 obtain rfl | rfl | rfl | rfl | rfl:f=0∨f=1∨f=2∨f=3∨f=4:=by omega
 all_goals simp[go_sem,Try.underlying25,Try.runUnderlying25,Try.sizeOf25,Try.isAgg25,Try.sizeOf3,Try.sizeOf22,Try.sizeOf23,Try.sizeOf4]
theorem ld22 {w:World}{a:Addr}{v:Value}(hc:w.cell? a=some v):(Instr.loadAt 22 (.pointer (some a))).run Try.prog w=.ok v w:=by simp[go_sem,hc,Try.underlying22,Try.runUnderlying22,Try.sizeOf22,Try.isAgg22]
theorem enter14:Frame.enter Try.prog 14 #[vf,vp,.int .i64 most] .normal=(base 14).at ⟨#[vf,vp,.int .i64 most,uu,uu,uu,uu,uu,uu,uu,uu,uu,uu,uu],[]⟩ [.code c14]:=enter_lit Try.func14 rfl rfl
def runC (vf vp:Value)(most:Int)(ob:Nat):Frame:=(base 14).at ⟨#[vf,vp,.int .i64 most,uu,uu,uu,ptr ob,.int .i64 0,vf,vp,.int .i64 most,uu,uu,uu],[]⟩ [.inRegion (sO (sL (sR c14))) [3,4,5,6,7],.code (sR (sR c14))]
theorem run_enter (hD:Det Try.prog m fun _=>K)(h:K (gs (Frame.enter Try.prog 27 #[vf,vp,.int .i64 most,.nilFunc] .normal) (runC vf vp most w.heap.size::cs)) (w.alloc (.cells #[.slice none 0 0,.slice none 0 0,.int .i64 0] 30))):K (gs (Frame.enter Try.prog 14 #[vf,vp,.int .i64 most] .normal) cs) w:=by
 rw[enter14];have hk:(base 14).kind≠.early:=nofun;refine hD.s0 ?_;refine hD.r0 ?_;obtain⟨ob,hob⟩:∃ ob,ob=w.heap.size:=⟨_,rfl⟩;rw[← hob] at h;refine hD.alloc (n:=0) hk rfl ⟨rfl,rfl,rfl,(by decide +kernel),nofun⟩ al30 ?_;rw[← hob];refine hD.as (.int .i64 0) hk ?_;simp only[Act.put,n1',n2',n3'];refine hD.e0 ?_;refine hD.s0 ?_;refine hD.r0 ?_;refine hD.mv vf hk ?_;refine hD.mv vp hk ?_;simp only[Act.put,n1',n2',n3'];refine hD.mv (.int .i64 most) hk ?_;simp only[Act.put,n1',n2',n3'];refine hD.cf #[vf,vp,.int .i64 most,.nilFunc] hk Try.func27 ?_;exact h
theorem run_back {ga ge:Option Addr}{na ca ne ce:Nat}{u e:Int}(hD:Det Try.prog m fun _=>K)(hcl:cl.mode=.run)(hob:Blk w ob [.slice none 0 0,.slice none 0 0,.int .i64 0] 30)(h:∀ w',(∀ b,b≠ob→w'.heap[b]?=w.heap[b]?)→w'.heap.size=w.heap.size→K (gs (cl.finish (.tuple #[.agg #[.slice ga na ca,.slice ge ne ce,.int .i64 u],.int .i64 e])) cs) w'):K (gs ((runC vf vp most ob).finish (.tuple #[.agg #[.slice ga na ca,.slice ge ne ce,.int .i64 u],.int .i64 e])) (cl::cs)) w:=by
 have hk:(base 14).kind≠.early:=nofun;unfold runC;refine fin0 (some 11) ?_;refine hD.pu (.agg #[.slice ga na ca,.slice ge ne ce,.int .i64 u]) hk (fun w=>pu_ext rfl rfl rfl) ?_;refine hD.pu (.int .i64 e) hk (fun w=>pu_ext rfl rfl rfl) ?_;simp only[Act.put,n1',n2',n3'];refine hD.store (n:=0) (u:=(ptr ob)) (z:=(.agg #[.slice ga na ca,.slice ge ne ce,.int .i64 u])) hk rfl ⟨rfl,rfl,rfl,rfl,nofun⟩ rfl rfl (fun τ d=>((st30 (w:=re w τ d) hob).trans (congrArg (Result.ok ()) re_set3))) (Nat.le_of_eq set3_size.symm) ?_;have bo2:Blk (set3 w ob (.slice ga na ca) (.slice ge ne ce) (.int .i64 u)) ob _ 30:=set3_blk hob;have k2:∀ b,b≠ob→(set3 w ob (.slice ga na ca) (.slice ge ne ce) (.int .i64 u)).heap[b]?=w.heap[b]?:=fun b hb=>set3_frame hb;have s2:(set3 w ob (.slice ga na ca) (.slice ge ne ce) (.int .i64 u)).heap.size=w.heap.size:=set3_size;generalize set3 w ob (.slice ga na ca) (.slice ge ne ce) (.int .i64 u)=w2 at bo2 k2 s2 ⊢;refine hD.as (.int .i64 e) hk ?_;simp only[Act.put,n1',n2',n3'];refine hD.e0 ?_;refine hD.ret (n:=0) ?_;refine hD.leave (n:=0) (b:=base 14) (a:=⟨#[vf,vp,.int .i64 most,uu,uu,uu,ptr ob,.int .i64 e,vf,vp,.int .i64 most,.tuple #[(.agg #[.slice ga na ca,.slice ge ne ce,.int .i64 u]),.int .i64 e],.agg #[.slice ga na ca,.slice ge ne ce,.int .i64 u],.int .i64 e],[]⟩) (v:=.tuple #[.agg #[.slice ga na ca,.slice ge ne ce,.int .i64 u],.int .i64 e]) rfl rfl Try.func14 (fun τ d=>results_c30 (fn:=Try.f14) (a:=6) (t:=7) (tmps:=#[vf,vp,.int .i64 most,uu,uu,uu,ptr ob,.int .i64 e,vf,vp,.int .i64 most,.tuple #[(.agg #[.slice ga na ca,.slice ge ne ce,.int .i64 u]),.int .i64 e],.agg #[.slice ga na ca,.slice ge ne ce,.int .i64 u],.int .i64 e]) (w:=re w2 τ d) rfl rfl bo2) hcl ?_;exact h w2 k2 s2
theorem enter9 {wt:Bool}:Frame.enter Try.prog 9 #[.agg #[.int .i64 bump,vt,vp,.int .i64 most,.bool wt]] .normal=(base 9).at ⟨(List.toArray ((.agg #[.int .i64 bump,vt,vp,.int .i64 most,.bool wt])::(ur 46))),[]⟩ [.code c9]:=enter_lit Try.func9 rfl rfl
def p9Lent (bump:Int)(vt vp:Value)(most:Int)(wt:Bool)(bx ao s sb:Nat):Frame:=(base 9).at ⟨(List.toArray ((.agg #[.int .i64 bump,vt,vp,.int .i64 most,.bool wt])::ptr bx::(.pointer none)::ptr ao::.int .i64 0::.bool false::ptr sb::uu::uu::uu::.agg #[.int .i64 0,.slice none 0 0]::ptr s::ptrAt bx 2::vp::(ur 33))),[]⟩ [.inRegion (sO (sL (sR (sR c9)))) [2,3],.code (sR (sR (sR c9)))]
theorem played_enter {wt:Bool}{g1 g2:Option Addr}{n1 c1 n2 c2:Nat}(hD:Det Try.prog m fun _=>K)(h1:vt=.slice g1 n1 c1)(h2:vp=.slice g2 n2 c2)(h:∀ bx ao s sb w',w.heap.size≤bx→bx<ao→ao<s→s<sb→Kp [] w w'→Blk w' bx [.int .i64 bump,vt,vp,.int .i64 most,.bool wt] 25→Blk w' ao [.slice none 0 0,.slice none 0 0,.int .i64 0] 30→Blk w' s [.int .i64 0,.slice none 0 0] 41→Blk w' sb [ptr s] 34→K (gs (Frame.enter Try.prog 26 #[vp] .normal) (p9Lent bump vt vp most wt bx ao s sb::cs)) w'):K (gs (Frame.enter Try.prog 9 #[.agg #[.int .i64 bump,vt,vp,.int .i64 most,.bool wt]] .normal) cs) w:=by
 rw[enter9];have hk:(base 9).kind≠.early:=nofun;refine hD.s0 ?_;refine hD.r0 ?_;have kb:=Kp.alloc [] w (.cells #[.int .i64 bump,vt,vp,.int .i64 most,.bool wt] 25);have bb:Blk (w.alloc (.cells #[.int .i64 bump,vt,vp,.int .i64 most,.bool wt] 25)) w.heap.size [.int .i64 bump,vt,vp,.int .i64 most,.bool wt] 25:=Blk.new _ _ _;have zb:(w.alloc (.cells #[.int .i64 bump,vt,vp,.int .i64 most,.bool wt] 25)).heap.size=w.heap.size+1:=wz' _ _;refine hD.box (n:=0) (u:=(.agg #[.int .i64 bump,vt,vp,.int .i64 most,.bool wt])) hk rfl ⟨rfl,rfl,rfl,rfl,nofun⟩ rfl (bx25 h1 h2) ?_;obtain⟨bx,hbx⟩:∃ bx,bx=w.heap.size:=⟨_,rfl⟩;rw[← hbx] at bb ⊢;generalize w.alloc (.cells #[.int .i64 bump,vt,vp,.int .i64 most,.bool wt] 25)=w1 at kb bb zb ⊢;refine hD.as (.pointer none) hk ?_;refine norm0 (a':=⟨(List.toArray ((.agg #[.int .i64 bump,vt,vp,.int .i64 most,.bool wt])::ptr bx::(.pointer none)::(ur 44))),[]⟩) ?_;have kao:=Kp.alloc [] w1 (.cells #[.slice none 0 0,.slice none 0 0,.int .i64 0] 30);have bao:Blk (w1.alloc (.cells #[.slice none 0 0,.slice none 0 0,.int .i64 0] 30)) w1.heap.size [.slice none 0 0,.slice none 0 0,.int .i64 0] 30:=Blk.new _ _ _;have zao:(w1.alloc (.cells #[.slice none 0 0,.slice none 0 0,.int .i64 0] 30)).heap.size=w1.heap.size+1:=wz' _ _;refine hD.alloc (n:=0) hk rfl ⟨rfl,rfl,rfl,(by decide +kernel),nofun⟩ al30 ?_;obtain⟨ao,hao⟩:∃ x,x=w1.heap.size:=⟨_,rfl⟩;rw[← hao] at bao ⊢;generalize w1.alloc (.cells #[.slice none 0 0,.slice none 0 0,.int .i64 0] 30)=w2 at kao bao zao ⊢;refine hD.as (.int .i64 0) hk ?_;refine hD.as (.bool false) hk ?_;refine norm0 (a':=⟨(List.toArray ((.agg #[.int .i64 bump,vt,vp,.int .i64 most,.bool wt])::ptr bx::(.pointer none)::ptr ao::.int .i64 0::.bool false::(ur 41))),[]⟩) ?_;refine hD.e0 ?_;refine hD.s0 ?_;refine hD.r0 ?_;refine hD.pu (.agg #[.int .i64 0,.slice none 0 0]) hk (fun w=>pu_build41 rfl) ?_;refine norm0 (a':=⟨(List.toArray ((.agg #[.int .i64 bump,vt,vp,.int .i64 most,.bool wt])::ptr bx::(.pointer none)::ptr ao::.int .i64 0::.bool false::(ur 4++(.agg #[.int .i64 0,.slice none 0 0])::(ur 36)))),[]⟩) ?_;have ks:=Kp.alloc [] w2 (.cells #[.int .i64 0,.slice none 0 0] 41);have bs:Blk (w2.alloc (.cells #[.int .i64 0,.slice none 0 0] 41)) w2.heap.size [.int .i64 0,.slice none 0 0] 41:=Blk.new _ _ _;have zs:(w2.alloc (.cells #[.int .i64 0,.slice none 0 0] 41)).heap.size=w2.heap.size+1:=wz' _ _;refine hD.box (n:=0) (u:=(.agg #[.int .i64 0,.slice none 0 0])) hk rfl ⟨rfl,rfl,rfl,rfl,nofun⟩ rfl bx41 ?_;obtain⟨s,hs⟩:∃ x,x=w2.heap.size:=⟨_,rfl⟩;rw[← hs] at bs ⊢;generalize w2.alloc (.cells #[.int .i64 0,.slice none 0 0] 41)=w3 at ks bs zs ⊢;refine norm0 (a':=⟨(List.toArray ((.agg #[.int .i64 bump,vt,vp,.int .i64 most,.bool wt])::ptr bx::(.pointer none)::ptr ao::.int .i64 0::.bool false::(ur 4++(.agg #[.int .i64 0,.slice none 0 0])::ptr s::(ur 35)))),[]⟩) ?_;have ksb:=Kp.alloc [] w3 (.cells #[.pointer none] 34);have bsb:Blk (w3.alloc (.cells #[.pointer none] 34)) w3.heap.size [.pointer none] 34:=Blk.new _ _ _;have zsb:(w3.alloc (.cells #[.pointer none] 34)).heap.size=w3.heap.size+1:=wz' _ _
 refine hD.alloc (n:=0) hk rfl ⟨rfl,rfl,rfl,(by decide +kernel),nofun⟩ al34 ?_;obtain⟨sb,hsb⟩:∃ x,x=w3.heap.size:=⟨_,rfl⟩;rw[← hsb] at bsb ⊢;generalize w3.alloc (.cells #[.pointer none] 34)=w4 at ksb bsb zsb ⊢;refine norm0 (a':=⟨(List.toArray ((.agg #[.int .i64 bump,vt,vp,.int .i64 most,.bool wt])::ptr bx::(.pointer none)::ptr ao::.int .i64 0::.bool false::ptr sb::uu::uu::uu::.agg #[.int .i64 0,.slice none 0 0]::ptr s::(ur 35))),[]⟩) ?_;refine hD.store (n:=0) (u:=(ptr sb)) (z:=(ptr s)) hk rfl ⟨rfl,rfl,rfl,rfl,nofun⟩ rfl rfl (fun τ d=>((st34 (w:=re w4 τ d) bsb).trans (congrArg (Result.ok ()) re_setCell))) (Nat.le_of_eq (World.size_setCell ..).symm) ?_;have k5:Kp [sb] w4 (w4.setCell ⟨sb,0,none⟩ (ptr s)):=⟨Nat.le_of_eq (World.size_setCell ..).symm,fun b _ hn=>setCell_frame (by simpa using hn)⟩;have b5:Blk (w4.setCell ⟨sb,0,none⟩ (ptr s)) sb [ptr s] 34:=bsb.set 0 (ptr s);have z5:(w4.setCell ⟨sb,0,none⟩ (ptr s)).heap.size=w4.heap.size:=World.size_setCell ..;generalize w4.setCell ⟨sb,0,none⟩ (ptr s)=w5 at k5 b5 z5 ⊢;refine hD.e0 ?_;refine hD.s0 ?_;refine hD.r0 ?_;have bb5:Blk w5 bx _ 25:=k5.blk (ksb.blk (ks.blk (kao.blk bb (by simp)) (by simp)) (by simp)) (by have:=bb.lt;simp;omega);have bo5:Blk w5 ao _ 30:=k5.blk (ksb.blk (ks.blk bao (by simp)) (by simp)) (by simp;omega);have bs5:Blk w5 s _ 41:=k5.blk (ksb.blk bs (by simp)) (by simp;omega);refine hD.fd (ptrAt bx 2) hk (fld25 (by omega)) ?_;refine hD.ld vp hk (fun τ d=>ld23 (bb5.cell 2)) ?_;refine norm0 (a':=⟨(List.toArray ((.agg #[.int .i64 bump,vt,vp,.int .i64 most,.bool wt])::ptr bx::(.pointer none)::ptr ao::.int .i64 0::.bool false::ptr sb::uu::uu::uu::.agg #[.int .i64 0,.slice none 0 0]::ptr s::ptrAt bx 2::vp::(ur 33))),[]⟩) ?_;refine hD.cf #[vp] hk Try.func26 ?_;refine h bx ao s sb w5 (by omega) (by omega) (by omega) (by omega) ⟨by omega,fun b hb _=>?_⟩ bb5 bo5 bs5 b5;rw[k5.block b (by omega) (by simp;omega),ksb.block b (by omega) (by simp),ks.block b (by omega) (by simp),kao.block b (by omega) (by simp),kb.block b hb (by simp)]
def p9Tm (bump:Int)(vt vp:Value)(most:Int)(wt:Bool)(bx ao s sb:Nat)(vl:Value)(rb:Nat):Array Value:=(List.toArray ((.agg #[.int .i64 bump,vt,vp,.int .i64 most,.bool wt])::ptr bx::(.pointer none)::ptr ao::.int .i64 0::.bool false::ptr sb::vl::ptr rb::.int .i64 0::.agg #[.int .i64 0,.slice none 0 0]::ptr s::ptrAt bx 2::vp::vl::ptrAt bx 4::.bool wt::(ur 30)))
theorem played_mid {wt:Bool}{bx ao s sb:Nat}{vl:Value}(hD:Det Try.prog m fun _=>K)(hb:Blk w bx [.int .i64 bump,vt,vp,.int .i64 most,.bool wt] 25)(h:∀ rb w',rb=w.heap.size→Kp [] w w'→Blk w' rb [.slice none 0 0,.slice none 0 0,.int .i64 0] 30→K (gs ((base 9).at ⟨p9Tm bump vt vp most wt bx ao s sb vl rb,[]⟩ [.code (if wt then (sT (sR (sL (sR (sR (sR (sR (sR c9)))))))) else (sF (sR (sL (sR (sR (sR (sR (sR c9))))))))),.code (sR (sR (sR (sR (sR (sR c9))))))]) cs) w'):K (gs ((p9Lent bump vt vp most wt bx ao s sb).finish vl) cs) w:=by
 have hk:(base 9).kind≠.early:=nofun;unfold p9Lent;refine fin0 (some 14) ?_;refine hD.as vl hk ?_;simp only[Act.put,n1',n2',n3'];refine hD.e0 ?_;refine hD.s0 ?_;refine hD.r0 ?_;have krb:=Kp.alloc [] w (.cells #[.slice none 0 0,.slice none 0 0,.int .i64 0] 30);have brb:Blk (w.alloc (.cells #[.slice none 0 0,.slice none 0 0,.int .i64 0] 30)) w.heap.size [.slice none 0 0,.slice none 0 0,.int .i64 0] 30:=Blk.new _ _ _;have zrb:(w.alloc (.cells #[.slice none 0 0,.slice none 0 0,.int .i64 0] 30)).heap.size=w.heap.size+1:=wz' _ _;refine hD.alloc (n:=0) hk rfl ⟨rfl,rfl,rfl,(by decide +kernel),nofun⟩ al30 ?_;obtain⟨rb,hrb⟩:∃ x,x=w.heap.size:=⟨_,rfl⟩;rw[← hrb] at brb ⊢;generalize w.alloc (.cells #[.slice none 0 0,.slice none 0 0,.int .i64 0] 30)=w1 at krb brb zrb ⊢;simp only[Act.put,n1',n2',n3'];refine hD.e0 ?_;refine hD.s0 ?_;refine hD.r0 ?_;refine hD.as (.int .i64 0) hk ?_;simp only[Act.put,n1',n2',n3'];refine hD.e0 ?_;refine hD.s0 ?_;refine hD.s0 ?_;refine hD.r0 ?_;have bb1:Blk w1 bx _ 25:=krb.blk hb (by simp);refine hD.fd (ptrAt bx 4) hk (fld25 (by omega)) ?_;refine hD.ld (.bool wt) hk (fun τ d=>ld4 (bb1.cell 4)) ?_;simp only[Act.put,n1',n2',n3'];refine hD.e0 ?_;refine hD.cond (n:=0) wt rfl rfl ?_;exact h rb w1 hrb krb brb
end
theorem ex_ext {P:Program}{a:Act}{o:Oper}{x:Operand}{j:Nat}{vs:Array Value}{v:Value}{w:World}(F:o.op=.extract x j)(hx:a.eval x=.tuple vs)(hv:vs[j]?=some v):(execOp a.eval o).run P w=.ok (.value v) w:=by
 unfold execOp;rw[F];generalize a.eval=ρ at hx ⊢;simp[hx,hv,go_sem]
theorem ex_assign {P:Program}{a:Act}{o:Oper}{x:Operand}{v:Value}{w:World}(F:o.op=.assign x)(hx:a.eval x=v):(execOp a.eval o).run P w=.ok (.value v) w:=by unfold execOp;rw[F];simp only[hx];rfl
theorem getD_up {l:Array Bool}{i j:Nat}{b:Bool}(h:l.getD j false=b)(hij:i≠j):(l.setIfInBounds i true).getD j false=b:=(set_other hij).trans h
theorem rep_false {n i:Nat}:(Array.replicate n false).getD i false=false:=by
 rw[gd',Array.getElem?_replicate];split<;>rfl
def p6ops:Array Oper:=sO (sT (sR (sL (sR (sR (sR (sR (sR c9))))))))
def p6sp (i:Nat):Bool:=i==3||i==8||i==12
def p6fin (bump:Int)(vt vp:Value)(most:Int)(wt:Bool)(bx ao s sb:Nat)(vl:Value)(rb:Nat)(f21 ag e:Value):Array Value:=(List.toArray ((.agg #[.int .i64 bump,vt,vp,.int .i64 most,.bool wt])::ptr bx::(.pointer none)::ptr ao::.int .i64 0::.bool false::ptr sb::vl::ptr rb::e::.agg #[.int .i64 0,.slice none 0 0]::ptr s::ptrAt bx 2::vp::vl::ptrAt bx 4::.bool wt::.tuple #[ag,e]::ptr s::ptrAt bx 1::vt::f21::vl::ptrAt bx 3::.int .i64 most::(.func (.func 29) #[] #[ptr sb,ptr bx])::.tuple #[ag,e]::ag::e::(ur 18)))
theorem p6_good {bump most:Int}{vt vp vl f21 ag e:Value}{wt:Bool}{bx ao s sb rb:Nat}{w:World}(hsb:Cel w sb [ptr s] 34)(hbx:Cel w bx [.int .i64 bump,vt,vp,.int .i64 most,.bool wt] 25):OrdG Try.prog p6ops (p6fin bump vt vp most wt bx ao s sb vl rb f21 ag e) [] p6sp w:=by
 refine⟨fun i o ho hs=>?_,fun i o g b ho hg=>?_⟩
 ·match i,ho,hs with
  | 0,ho,_ =>
   obtain rfl:=so' ho;exact⟨18,⟨rfl,(by decide +kernel),nofun⟩,(show 18<47 by decide),fun a h τ δ=>ex_load (v:=(ptr s)) rfl (h _ m0') (ld34 (hsb.cell 0))⟩
  | 1,ho,_ =>
   obtain rfl:=so' ho;exact⟨19,⟨rfl,(by decide +kernel),nofun⟩,(show 19<47 by decide),fun a h τ δ=>ex_field (v:=(ptrAt bx 1)) rfl (h _ m0') (fld25 (by omega))⟩
  | 2,ho,_ =>
   obtain rfl:=so' ho;exact⟨20,⟨rfl,(by decide +kernel),nofun⟩,(show 20<47 by decide),fun a h τ δ=>ex_load (v:=vt) rfl (h _ m0') (ld22 (hbx.cell 1))⟩
  | 3,_,hs=>cases hs
  | 4,ho,_ =>
   obtain rfl:=so' ho;exact⟨22,⟨rfl,(by decide +kernel),nofun⟩,(show 22<47 by decide),fun a h τ δ=>ex_move rfl (h _ m0')⟩
  | 5,ho,_ =>
   obtain rfl:=so' ho;exact⟨23,⟨rfl,(by decide +kernel),nofun⟩,(show 23<47 by decide),fun a h τ δ=>ex_field (v:=(ptrAt bx 3)) rfl (h _ m0') (fld25 (by omega))⟩
  | 6,ho,_ =>
   obtain rfl:=so' ho;exact⟨24,⟨rfl,(by decide +kernel),nofun⟩,(show 24<47 by decide),fun a h τ δ=>ex_load (v:=(.int .i64 most)) rfl (h _ m0') (ld3 (hbx.cell 3))⟩
  | 7,ho,_ =>
   obtain rfl:=so' ho;exact⟨25,⟨rfl,(by decide +kernel),nofun⟩,(show 25<47 by decide),fun a h τ δ=>pu_mkf rfl (h _ m0') (h _ m1')⟩
  | 8,_,hs=>cases hs
  | 9,ho,_ =>
   obtain rfl:=so' ho;exact⟨17,⟨rfl,(by decide +kernel),nofun⟩,(show 17<47 by decide),fun a h τ δ=>ex_move rfl (h _ m0')⟩
  | 10,ho,_ =>
   obtain rfl:=so' ho;exact⟨27,⟨rfl,(by decide +kernel),nofun⟩,(show 27<47 by decide),fun a h τ δ=>ex_ext rfl (h _ m0') rfl⟩
  | 11,ho,_ =>
   obtain rfl:=so' ho;exact⟨28,⟨rfl,(by decide +kernel),nofun⟩,(show 28<47 by decide),fun a h τ δ=>ex_ext rfl (h _ m0') rfl⟩
  | 12,_,hs=>cases hs
  | 13,ho,_ =>
   obtain rfl:=so' ho;exact⟨9,⟨rfl,(by decide +kernel),nofun⟩,(show 9<47 by decide),fun a h τ δ=>ex_assign rfl (h _ m0')⟩
  | n+14,ho,_ =>
   have:=lt_of_op ho;exact absurd this (by show ¬ n+14<14;omega)
 ·match i,ho with
  | 0,ho =>
   obtain rfl:=so' ho;cases hg
  | 1,ho =>
   obtain rfl:=so' ho;cases hg
  | 2,ho =>
   obtain rfl:=so' ho;cases hg
  | 3,ho =>
   obtain rfl:=so' ho;cases hg
  | 4,ho =>
   obtain rfl:=so' ho;cases hg
  | 5,ho =>
   obtain rfl:=so' ho;cases hg
  | 6,ho =>
   obtain rfl:=so' ho;cases hg
  | 7,ho =>
   obtain rfl:=so' ho;cases hg
  | 8,ho =>
   obtain rfl:=so' ho;cases hg
  | 9,ho =>
   obtain rfl:=so' ho;cases hg
  | 10,ho =>
   obtain rfl:=so' ho;cases hg
  | 11,ho =>
   obtain rfl:=so' ho;cases hg
  | 12,ho =>
   obtain rfl:=so' ho;cases hg
  | 13,ho =>
   obtain rfl:=so' ho;cases hg
  | n+14,ho =>
   have:=lt_of_op ho;exact absurd this (by show ¬ n+14<14;omega)
def p6J (bump:Int)(vt vp:Value)(most:Int)(wt:Bool)(bx ao s sb:Nat)(vl:Value)(rb:Nat)(S0:SC)(P28:Value→World→Prop)(P27:SC→Value→Int→Prop)(fin:Array Value)(li:Array Bool)(S:SC):Prop :=
 (fin=(p6fin bump vt vp most wt bx ao s sb vl rb undef (.agg #[.slice none 0 0,.slice none 0 0,.int .i64 0]) (.int .i64 0))∧S=S0∧li.getD 3 false=false∧li.getD 8 false=false∧li.getD 12 false=false) ∨
 (∃ vf w1,fin=(p6fin bump vt vp most wt bx ao s sb vl rb vf (.agg #[.slice none 0 0,.slice none 0 0,.int .i64 0]) (.int .i64 0))∧S={S0 with w:=w1}∧P28 vf w1∧li.getD 3 false=true∧li.getD 8 false=false∧li.getD 12 false=false) ∨
 (∃ vf ga na ca ge ne ce u e,fin=(p6fin bump vt vp most wt bx ao s sb vl rb vf (.agg #[.slice ga na ca,.slice ge ne ce,.int .i64 u]) (.int .i64 e))∧P27 S (.agg #[.slice ga na ca,.slice ge ne ce,.int .i64 u]) e∧li.getD 3 false=true∧li.getD 8 false=true∧li.getD 12 false=false) ∨
 (∃ vf S1 ga na ca ge ne ce u e,fin=(p6fin bump vt vp most wt bx ao s sb vl rb vf (.agg #[.slice ga na ca,.slice ge ne ce,.int .i64 u]) (.int .i64 e))∧P27 S1 (.agg #[.slice ga na ca,.slice ge ne ce,.int .i64 u]) e∧S={S1 with w:=set3 S1.w rb (.slice ga na ca) (.slice ge ne ce) (.int .i64 u)}∧li.getD 3 false=true∧li.getD 8 false=true∧li.getD 12 false=true)
theorem p6_runs {Post:Value→World→Prop}{bump most:Int}{vt vp vl:Value}{wt:Bool}{bx ao s sb rb:Nat}{cs:List Frame}{S0:SC}(P28:Value→World→Prop)(P27:SC→Value→Int→Prop)
  (hA:Cel S0.w sb [ptr s] 34∧Cel S0.w bx [.int .i64 bump,vt,vp,.int .i64 most,.bool wt] 25) (hB:∀ vf w1,P28 vf w1→Cel w1 sb [ptr s] 34∧Cel w1 bx [.int .i64 bump,vt,vp,.int .i64 most,.bool wt] 25) (hC:∀ S1 ag e,P27 S1 ag e→Cel S1.w sb [ptr s] 34∧Cel S1.w bx [.int .i64 bump,vt,vp,.int .i64 most,.bool wt] 25∧Blk S1.w rb [.slice none 0 0,.slice none 0 0,.int .i64 0] 30) (hrs:rb≠sb) (hrx:rb≠bx)
  (hP28:∀ v w τ d,P28 v w→P28 v (re w τ d)) (h28:∀ τ d,Calls Try.prog 28 #[ptr s,vt] (re S0.w τ d) fun e w'=>∃ v,e=.returned v∧P28 v w')
  (h27:∀ (cl:Frame) (cs':List Frame),cl.mode=.run→∀ vf w1,P28 vf w1→(∀ S1 ga na ca ge ne ce u e,P27 S1 (.agg #[.slice ga na ca,.slice ge ne ce,.int .i64 u]) e→Sound Try.prog link.tWg Post 0 S1 (gs (cl.finish (.tuple #[.agg #[.slice ga na ca,.slice ge ne ce,.int .i64 u],.int .i64 e])) cs'))→Sound Try.prog link.tWg Post 0 { S0 with w:=w1} (gs (Frame.enter Try.prog 27 #[vf,vl,.int .i64 most,(.func (.func 29) #[] #[ptr sb,ptr bx])] .normal) (cl::cs')))
  (h:∀ vf S1 ga na ca ge ne ce u e,P27 S1 (.agg #[.slice ga na ca,.slice ge ne ce,.int .i64 u]) e→Sound Try.prog link.tWg Post 0 { S1 with w:=set3 S1.w rb (.slice ga na ca) (.slice ge ne ce) (.int .i64 u)} (gs ((base 9).at ⟨(p6fin bump vt vp most wt bx ao s sb vl rb vf (.agg #[.slice ga na ca,.slice ge ne ce,.int .i64 u]) (.int .i64 e)),[]⟩ [.code (sR (sR (sR (sR (sR (sR c9))))))]) cs)) :
  Sound Try.prog link.tWg Post 0 S0 (gs ((base 9).at ⟨p9Tm bump vt vp most wt bx ao s sb vl rb,[]⟩ [.code (sT (sR (sL (sR (sR (sR (sR (sR c9)))))))),.code (sR (sR (sR (sR (sR (sR c9))))))]) cs):=by
 have hk:(base 9).kind≠.early:=nofun;show Sound Try.prog link.tWg Post 0 S0 (gs ((base 9).at ⟨p9Tm bump vt vp most wt bx ao s sb vl rb,[]⟩ (.code (.region 6 p6ops true)::[.code (sR (sR (sR (sR (sR (sR c9))))))])) cs);refine ord_begin fits mixed fun t=>?_;refine ord_run (sp:=p6sp) fits hk (by decide +kernel) (by decide +kernel) (by decide +kernel) (by decide +kernel) (p6J bump vt vp most wt bx ao s sb vl rb S0 P28 P27) (fun fin li S hJ=>?_) (fun fin li S i hJ hr hs=>?_) (fun fin li tm S i o rest hJ hI hr hs ho hw hev hgo=>?_) (fun fin li S hJ hall=>?_) _ t _ _ _ S0 (.inl ⟨rfl,rfl,rep_false,rep_false,rep_false⟩) (OInv.init [(18,ptr s),(19,ptrAt bx 1),(20,vt),(22,vl),(23,ptrAt bx 3),(24,.int .i64 most),(25,(.func (.func 29) #[] #[ptr sb,ptr bx])),(26,.tuple #[.agg #[.slice none 0 0,.slice none 0 0,.int .i64 0],.int .i64 0]),(17,.tuple #[.agg #[.slice none 0 0,.slice none 0 0,.int .i64 0],.int .i64 0]),(27,(.agg #[.slice none 0 0,.slice none 0 0,.int .i64 0])),(28,.int .i64 0)] (by simp[p6fin,p9Tm]) (show([18,19,20,22,23,24,25,26,17,27,28]:List Tmp).all (fun d=>p6ops.any fun o=>o.dst==some d)=true by decide +kernel)) leftN_init
 ·rcases hJ with⟨rfl,rfl,_⟩ | ⟨vf,w1,rfl,rfl,hp,_⟩ | ⟨vf,ga,na,ca,ge,ne,ce,u,e,rfl,hp,_⟩ | ⟨vf,S1,ga,na,ca,ge,ne,ce,u,e,rfl,hp,rfl,_⟩
  ·exact p6_good hA.1 hA.2
  ·obtain⟨p1,p2⟩:=hB _ _ hp
   exact p6_good p1 p2
  ·obtain⟨p1,p2,_⟩:=hC _ _ _ hp
   exact p6_good p1 p2
  ·obtain⟨p1,p2,_⟩:=hC _ _ _ hp
   exact p6_good (p1.same (set3_frame hrs.symm)) (p2.same (set3_frame hrx.symm))
 ·have n3:i≠3:=fun e=>by subst e;cases hs
  have n8:i≠8:=fun e=>by subst e;cases hs
  have n12:i≠12:=fun e=>by subst e;cases hs
  rcases hJ with⟨h1,h2,l1,l2,l3⟩ | ⟨vf,w1,h1,h2,hp,l1,l2,l3⟩ | ⟨vf,ga,na,ca,ge,ne,ce,u,e,h1,hp,l1,l2,l3⟩ | ⟨vf,S1,ga,na,ca,ge,ne,ce,u,e,h1,hp,h2,l1,l2,l3⟩
  ·exact .inl ⟨h1,h2,getD_up l1 n3,getD_up l2 n8,getD_up l3 n12⟩
  ·exact .inr (.inl ⟨vf,w1,h1,h2,hp,getD_up l1 n3,getD_up l2 n8,getD_up l3 n12⟩)
  ·exact .inr (.inr (.inl ⟨vf,ga,na,ca,ge,ne,ce,u,e,h1,hp,getD_up l1 n3,getD_up l2 n8,getD_up l3 n12⟩))
  ·exact .inr (.inr (.inr ⟨vf,S1,ga,na,ca,ge,ne,ce,u,e,h1,hp,h2,getD_up l1 n3,getD_up l2 n8,getD_up l3 n12⟩))
 ·have hu:=ready_unl hr hI.lsize
  have hcase:i=3∨i=8∨i=12:=by
   simp only[p6sp,Bool.or_eq_true,beq_iff_eq] at hs;omega
  rcases hcase with rfl | rfl | rfl
  ·
   rcases hJ with⟨rfl,rfl,l1,l2,l3⟩ | ⟨vf,w1,h1,h2,hp,l1,l2,l3⟩ | ⟨vf,ga,na,ca,ge,ne,ce,u,e,h1,hp,l1,l2,l3⟩ | ⟨vf,S1,ga,na,ca,ge,ne,ce,u,e,h1,hp,h2,l1,l2,l3⟩
   ·have hoo:=ho
    obtain rfl:=oj' (show some _=some o from hoo);have e1:Act.eval ⟨tm,[]⟩ (.tmp 18)=ptr s:=hev _ (show Operand.tmp 18∈(#[Operand.func 28,Operand.tmp 18,Operand.tmp 20]:Array Operand) by simp);have e2:Act.eval ⟨tm,[]⟩ (.tmp 20)=vt:=hev _ (show Operand.tmp 20∈(#[Operand.func 28,Operand.tmp 18,Operand.tmp 20]:Array Operand) by simp);refine sound_enter fits hk ho hw (by decide +kernel) nofun (fun w=>x_call (args:=#[ptr s,vt]) rfl rfl Try.func28 rfl rfl (by show [Act.eval ⟨tm,[]⟩ (.tmp 18),Act.eval ⟨tm,[]⟩ (.tmp 20)]++[]=_;rw[e1,e2];rfl)) ?_;refine ks (S:=S) ((clS (Post:=Post) S).call fits shut2 (f:=28) rfl (R:=P28) hP28 h28 fun vf w1 hp=>?_) rfl;refine fin_at (Kn:=fun _=>KS Try.prog link.tWg Post 0 S) (n:=0) ho rfl ?_;refine hgo _ _ { S with w:=w1} (hI.putv (v:=vf) (by decide +kernel) ho rfl (show(21:Nat)<47 by decide) hr) (.inr (.inl ⟨vf,w1,rfl,rfl,hp,set_same (by rw[hI.lsize];exact lt_of_op ho),getD_up l2 (by decide),getD_up l3 (by decide)⟩))
   all_goals (rw[l1] at hu;cases hu)
  ·have h3:=ready_after (j:=3) hr (by decide +kernel)
   rcases hJ with⟨_,_,l1,l2,l3⟩ | ⟨vf,w1,rfl,rfl,hp,l1,l2,l3⟩ | ⟨vf,ga,na,ca,ge,ne,ce,u,e,h1,hp,l1,l2,l3⟩ | ⟨vf,S1,ga,na,ca,ge,ne,ce,u,e,h1,hp,h2,l1,l2,l3⟩
   ·rw[l1] at h3;cases h3
   ·have hoo:=ho
    obtain rfl:=oj' (show some _=some o from hoo);have a0:Act.eval ⟨tm,[]⟩ (.tmp 21)=vf:=hev _ (show Operand.tmp 21∈(#[Operand.func 27,Operand.tmp 21,Operand.tmp 22,Operand.tmp 24,Operand.tmp 25]:Array Operand) by simp);have a1:Act.eval ⟨tm,[]⟩ (.tmp 22)=vl:=hev _ (show Operand.tmp 22∈(#[Operand.func 27,Operand.tmp 21,Operand.tmp 22,Operand.tmp 24,Operand.tmp 25]:Array Operand) by simp);have a2:Act.eval ⟨tm,[]⟩ (.tmp 24)=.int .i64 most:=hev _ (show Operand.tmp 24∈(#[Operand.func 27,Operand.tmp 21,Operand.tmp 22,Operand.tmp 24,Operand.tmp 25]:Array Operand) by simp);have a3:Act.eval ⟨tm,[]⟩ (.tmp 25)=(.func (.func 29) #[] #[ptr sb,ptr bx]):=hev _ (show Operand.tmp 25∈(#[Operand.func 27,Operand.tmp 21,Operand.tmp 22,Operand.tmp 24,Operand.tmp 25]:Array Operand) by simp);refine sound_enter fits hk ho hw (by decide +kernel) nofun (fun w=>x_call (args:=#[vf,vl,.int .i64 most,(.func (.func 29) #[] #[ptr sb,ptr bx])]) rfl rfl Try.func27 rfl rfl (by show [Act.eval ⟨tm,[]⟩ (.tmp 21),Act.eval ⟨tm,[]⟩ (.tmp 22),Act.eval ⟨tm,[]⟩ (.tmp 24),Act.eval ⟨tm,[]⟩ (.tmp 25)]++[]=_;rw[a0,a1,a2,a3];rfl)) ?_;refine h27 _ cs rfl vf w1 hp fun S1 ga na ca ge ne ce u e hp1=>?_;refine ks (S:=S1) (fin_at (Kn:=fun _=>KS Try.prog link.tWg Post 0 S1) (n:=0) ho rfl ?_) rfl;have q9:=hI.unl hu (j:=9) (by decide +kernel);have q10:=hI.unl q9 (j:=10) (by decide +kernel);have q11:=hI.unl q9 (j:=11) (by decide +kernel);have q13:=hI.unl q11 (j:=13) (by decide +kernel);have hI1:=((((hI.refin (by decide +kernel) (i:=9) (d:=17) (.tuple #[.agg #[.slice ga na ca,.slice ge ne ce,.int .i64 u],.int .i64 e]) rfl rfl q9).refin (by decide +kernel) (i:=10) (d:=27) (.agg #[.slice ga na ca,.slice ge ne ce,.int .i64 u]) rfl rfl q10).refin (by decide +kernel) (i:=11) (d:=28) (.int .i64 e) rfl rfl q11).refin (by decide +kernel) (i:=13) (d:=9) (.int .i64 e) rfl rfl q13).putv (v:=.tuple #[.agg #[.slice ga na ca,.slice ge ne ce,.int .i64 u],.int .i64 e]) (by decide +kernel) ho rfl (show(26:Nat)<47 by decide) hr;exact hgo _ _ S1 hI1 (.inr (.inr (.inl ⟨vf,ga,na,ca,ge,ne,ce,u,e,rfl,hp1,getD_up l1 (by decide),set_same (by rw[hI.lsize];exact lt_of_op ho),getD_up l3 (by decide)⟩)))
   all_goals (rw[l2] at hu;cases hu)
  ·have h8:=ready_after (j:=8) hr (by decide +kernel)
   rcases hJ with⟨_,_,l1,l2,l3⟩ | ⟨vf,w1,_,_,hp,l1,l2,l3⟩ | ⟨vf,ga,na,ca,ge,ne,ce,u,e,rfl,hp,l1,l2,l3⟩ | ⟨vf,S1,ga,na,ca,ge,ne,ce,u,e,h1,hp,h2,l1,l2,l3⟩
   ·rw[l2] at h8;cases h8
   ·rw[l2] at h8;cases h8
   ·have hoo:=ho
    obtain rfl:=oj' (show some _=some o from hoo);have e1:Act.eval ⟨tm,[]⟩ (.tmp 8)=ptr rb:=hev _ (show Operand.tmp 8∈(#[Operand.tmp 8,Operand.tmp 27]:Array Operand) by simp);have e2:Act.eval ⟨tm,[]⟩ (.tmp 27)=(.agg #[.slice ga na ca,.slice ge ne ce,.int .i64 u]):=hev _ (show Operand.tmp 27∈(#[Operand.tmp 8,Operand.tmp 27]:Array Operand) by simp);obtain⟨_,_,hbk⟩:=hC _ _ _ hp;refine ks (S:=S) (((clS (Post:=Post) S).det).store (n:=0) (u:=ptr rb) (z:=(.agg #[.slice ga na ca,.slice ge ne ce,.int .i64 u])) hk ho ⟨rfl,rfl,rfl,rfl,nofun⟩ e1 e2 (fun τ d=>((st30 (w:=re S.w τ d) hbk).trans (congrArg (Result.ok ()) re_set3))) (Nat.le_of_eq set3_size.symm) ?_) rfl;exact hgo _ _ { S with w:=set3 S.w rb (.slice ga na ca) (.slice ge ne ce) (.int .i64 u)} (hI.list hr fun o' d ho' hd=>by rw[ho] at ho';cases ho';cases hd) (.inr (.inr (.inr ⟨vf,S,ga,na,ca,ge,ne,ce,u,e,rfl,hp,rfl,getD_up l1 (by decide),getD_up l2 (by decide),set_same (by rw[hI.lsize];exact lt_of_op ho)⟩)))
   ·rw[l3] at hu;cases hu
 ·rcases hJ with⟨_,_,l1,l2,l3⟩ | ⟨vf,w1,_,_,hp,l1,l2,l3⟩ | ⟨vf,ga,na,ca,ge,ne,ce,u,e,rfl,hp,l1,l2,l3⟩ | ⟨vf,S1,ga,na,ca,ge,ne,ce,u,e,rfl,hp,rfl,l1,l2,l3⟩
  ·rw[hall 3 (by decide +kernel)] at l1;cases l1
  ·rw[hall 8 (by decide +kernel)] at l2;cases l2
  ·rw[hall 12 (by decide +kernel)] at l3;cases l3
  ·refine ks (S:={S1 with w:=set3 S1.w rb (.slice ga na ca) (.slice ge ne ce) (.int .i64 u)}) (((clS (Post:=Post) ({S1 with w:=set3 S1.w rb (.slice ga na ca) (.slice ge ne ce) (.int .i64 u)})).det).regionEnd (n:=0) ?_) rfl
   exact h vf S1 ga na ca ge ne ce u e hp
def p7ops:Array Oper:=sO (sF (sR (sL (sR (sR (sR (sR (sR c9))))))))
def p7sp (i:Nat):Bool:=i==3||i==7||i==11
def p7fin (bump:Int)(vt vp:Value)(most:Int)(wt:Bool)(bx ao s sb:Nat)(vl:Value)(rb:Nat)(f21 ag e:Value):Array Value:=(List.toArray ((.agg #[.int .i64 bump,vt,vp,.int .i64 most,.bool wt])::ptr bx::(.pointer none)::ptr ao::.int .i64 0::.bool false::ptr sb::vl::ptr rb::e::.agg #[.int .i64 0,.slice none 0 0]::ptr s::ptrAt bx 2::vp::vl::ptrAt bx 4::.bool wt::(ur 12++(.tuple #[ag,e])::ptr s::ptrAt bx 1::vt::f21::vl::ptrAt bx 3::.int .i64 most::.tuple #[ag,e]::ag::e::(ur 7))))
theorem p7_good {bump most:Int}{vt vp vl f21 ag e:Value}{wt:Bool}{bx ao s sb rb:Nat}{w:World}(hsb:Cel w sb [ptr s] 34)(hbx:Cel w bx [.int .i64 bump,vt,vp,.int .i64 most,.bool wt] 25):OrdG Try.prog p7ops (p7fin bump vt vp most wt bx ao s sb vl rb f21 ag e) [] p7sp w:=by
 refine⟨fun i o ho hs=>?_,fun i o g b ho hg=>?_⟩
 ·match i,ho,hs with
  | 0,ho,_ =>
   obtain rfl:=so' ho;exact⟨30,⟨rfl,(by decide +kernel),nofun⟩,(show 30<47 by decide),fun a h τ δ=>ex_load (v:=(ptr s)) rfl (h _ m0') (ld34 (hsb.cell 0))⟩
  | 1,ho,_ =>
   obtain rfl:=so' ho;exact⟨31,⟨rfl,(by decide +kernel),nofun⟩,(show 31<47 by decide),fun a h τ δ=>ex_field (v:=(ptrAt bx 1)) rfl (h _ m0') (fld25 (by omega))⟩
  | 2,ho,_ =>
   obtain rfl:=so' ho;exact⟨32,⟨rfl,(by decide +kernel),nofun⟩,(show 32<47 by decide),fun a h τ δ=>ex_load (v:=vt) rfl (h _ m0') (ld22 (hbx.cell 1))⟩
  | 3,_,hs=>cases hs
  | 4,ho,_ =>
   obtain rfl:=so' ho;exact⟨34,⟨rfl,(by decide +kernel),nofun⟩,(show 34<47 by decide),fun a h τ δ=>ex_move rfl (h _ m0')⟩
  | 5,ho,_ =>
   obtain rfl:=so' ho;exact⟨35,⟨rfl,(by decide +kernel),nofun⟩,(show 35<47 by decide),fun a h τ δ=>ex_field (v:=(ptrAt bx 3)) rfl (h _ m0') (fld25 (by omega))⟩
  | 6,ho,_ =>
   obtain rfl:=so' ho;exact⟨36,⟨rfl,(by decide +kernel),nofun⟩,(show 36<47 by decide),fun a h τ δ=>ex_load (v:=(.int .i64 most)) rfl (h _ m0') (ld3 (hbx.cell 3))⟩
  | 7,_,hs=>cases hs
  | 8,ho,_ =>
   obtain rfl:=so' ho;exact⟨29,⟨rfl,(by decide +kernel),nofun⟩,(show 29<47 by decide),fun a h τ δ=>ex_move rfl (h _ m0')⟩
  | 9,ho,_ =>
   obtain rfl:=so' ho;exact⟨38,⟨rfl,(by decide +kernel),nofun⟩,(show 38<47 by decide),fun a h τ δ=>ex_ext rfl (h _ m0') rfl⟩
  | 10,ho,_ =>
   obtain rfl:=so' ho;exact⟨39,⟨rfl,(by decide +kernel),nofun⟩,(show 39<47 by decide),fun a h τ δ=>ex_ext rfl (h _ m0') rfl⟩
  | 11,_,hs=>cases hs
  | 12,ho,_ =>
   obtain rfl:=so' ho;exact⟨9,⟨rfl,(by decide +kernel),nofun⟩,(show 9<47 by decide),fun a h τ δ=>ex_assign rfl (h _ m0')⟩
  | n+13,ho,_ =>
   have:=lt_of_op ho;exact absurd this (by show ¬ n+13<13;omega)
 ·match i,ho with
  | 0,ho =>
   obtain rfl:=so' ho;cases hg
  | 1,ho =>
   obtain rfl:=so' ho;cases hg
  | 2,ho =>
   obtain rfl:=so' ho;cases hg
  | 3,ho =>
   obtain rfl:=so' ho;cases hg
  | 4,ho =>
   obtain rfl:=so' ho;cases hg
  | 5,ho =>
   obtain rfl:=so' ho;cases hg
  | 6,ho =>
   obtain rfl:=so' ho;cases hg
  | 7,ho =>
   obtain rfl:=so' ho;cases hg
  | 8,ho =>
   obtain rfl:=so' ho;cases hg
  | 9,ho =>
   obtain rfl:=so' ho;cases hg
  | 10,ho =>
   obtain rfl:=so' ho;cases hg
  | 11,ho =>
   obtain rfl:=so' ho;cases hg
  | 12,ho =>
   obtain rfl:=so' ho;cases hg
  | n+13,ho =>
   have:=lt_of_op ho;exact absurd this (by show ¬ n+13<13;omega)
def p7J (bump:Int)(vt vp:Value)(most:Int)(wt:Bool)(bx ao s sb:Nat)(vl:Value)(rb:Nat)(S0:SC)(P28:Value→World→Prop)(P27:SC→Value→Int→Prop)(fin:Array Value)(li:Array Bool)(S:SC):Prop :=
 (fin=(p7fin bump vt vp most wt bx ao s sb vl rb undef (.agg #[.slice none 0 0,.slice none 0 0,.int .i64 0]) (.int .i64 0))∧S=S0∧li.getD 3 false=false∧li.getD 7 false=false∧li.getD 11 false=false) ∨
 (∃ vf w1,fin=(p7fin bump vt vp most wt bx ao s sb vl rb vf (.agg #[.slice none 0 0,.slice none 0 0,.int .i64 0]) (.int .i64 0))∧S={S0 with w:=w1}∧P28 vf w1∧li.getD 3 false=true∧li.getD 7 false=false∧li.getD 11 false=false) ∨
 (∃ vf ga na ca ge ne ce u e,fin=(p7fin bump vt vp most wt bx ao s sb vl rb vf (.agg #[.slice ga na ca,.slice ge ne ce,.int .i64 u]) (.int .i64 e))∧P27 S (.agg #[.slice ga na ca,.slice ge ne ce,.int .i64 u]) e∧li.getD 3 false=true∧li.getD 7 false=true∧li.getD 11 false=false) ∨
 (∃ vf S1 ga na ca ge ne ce u e,fin=(p7fin bump vt vp most wt bx ao s sb vl rb vf (.agg #[.slice ga na ca,.slice ge ne ce,.int .i64 u]) (.int .i64 e))∧P27 S1 (.agg #[.slice ga na ca,.slice ge ne ce,.int .i64 u]) e∧S={S1 with w:=set3 S1.w rb (.slice ga na ca) (.slice ge ne ce) (.int .i64 u)}∧li.getD 3 false=true∧li.getD 7 false=true∧li.getD 11 false=true)
theorem p7_runs {Post:Value→World→Prop}{bump most:Int}{vt vp vl:Value}{wt:Bool}{bx ao s sb rb:Nat}{cs:List Frame}{S0:SC}(P28:Value→World→Prop)(P27:SC→Value→Int→Prop)
  (hA:Cel S0.w sb [ptr s] 34∧Cel S0.w bx [.int .i64 bump,vt,vp,.int .i64 most,.bool wt] 25) (hB:∀ vf w1,P28 vf w1→Cel w1 sb [ptr s] 34∧Cel w1 bx [.int .i64 bump,vt,vp,.int .i64 most,.bool wt] 25) (hC:∀ S1 ag e,P27 S1 ag e→Cel S1.w sb [ptr s] 34∧Cel S1.w bx [.int .i64 bump,vt,vp,.int .i64 most,.bool wt] 25∧Blk S1.w rb [.slice none 0 0,.slice none 0 0,.int .i64 0] 30) (hrs:rb≠sb) (hrx:rb≠bx)
  (hP28:∀ v w τ d,P28 v w→P28 v (re w τ d)) (h28:∀ τ d,Calls Try.prog 28 #[ptr s,vt] (re S0.w τ d) fun e w'=>∃ v,e=.returned v∧P28 v w')
  (h27:∀ (cl:Frame) (cs':List Frame),cl.mode=.run→∀ vf w1,P28 vf w1→(∀ S1 ga na ca ge ne ce u e,P27 S1 (.agg #[.slice ga na ca,.slice ge ne ce,.int .i64 u]) e→Sound Try.prog link.tWg Post 0 S1 (gs (cl.finish (.tuple #[.agg #[.slice ga na ca,.slice ge ne ce,.int .i64 u],.int .i64 e])) cs'))→Sound Try.prog link.tWg Post 0 { S0 with w:=w1} (gs (Frame.enter Try.prog 14 #[vf,vl,.int .i64 most] .normal) (cl::cs')))
  (h:∀ vf S1 ga na ca ge ne ce u e,P27 S1 (.agg #[.slice ga na ca,.slice ge ne ce,.int .i64 u]) e→Sound Try.prog link.tWg Post 0 { S1 with w:=set3 S1.w rb (.slice ga na ca) (.slice ge ne ce) (.int .i64 u)} (gs ((base 9).at ⟨(p7fin bump vt vp most wt bx ao s sb vl rb vf (.agg #[.slice ga na ca,.slice ge ne ce,.int .i64 u]) (.int .i64 e)),[]⟩ [.code (sR (sR (sR (sR (sR (sR c9))))))]) cs)) :
  Sound Try.prog link.tWg Post 0 S0 (gs ((base 9).at ⟨p9Tm bump vt vp most wt bx ao s sb vl rb,[]⟩ [.code (sF (sR (sL (sR (sR (sR (sR (sR c9)))))))),.code (sR (sR (sR (sR (sR (sR c9))))))]) cs):=by
 have hk:(base 9).kind≠.early:=nofun;show Sound Try.prog link.tWg Post 0 S0 (gs ((base 9).at ⟨p9Tm bump vt vp most wt bx ao s sb vl rb,[]⟩ (.code (.region 7 p7ops true)::[.code (sR (sR (sR (sR (sR (sR c9))))))])) cs);refine ord_begin fits mixed fun t=>?_;refine ord_run (sp:=p7sp) fits hk (by decide +kernel) (by decide +kernel) (by decide +kernel) (by decide +kernel) (p7J bump vt vp most wt bx ao s sb vl rb S0 P28 P27) (fun fin li S hJ=>?_) (fun fin li S i hJ hr hs=>?_) (fun fin li tm S i o rest hJ hI hr hs ho hw hev hgo=>?_) (fun fin li S hJ hall=>?_) _ t _ _ _ S0 (.inl ⟨rfl,rfl,rep_false,rep_false,rep_false⟩) (OInv.init [(30,ptr s),(31,ptrAt bx 1),(32,vt),(34,vl),(35,ptrAt bx 3),(36,.int .i64 most),(37,.tuple #[.agg #[.slice none 0 0,.slice none 0 0,.int .i64 0],.int .i64 0]),(29,.tuple #[.agg #[.slice none 0 0,.slice none 0 0,.int .i64 0],.int .i64 0]),(38,(.agg #[.slice none 0 0,.slice none 0 0,.int .i64 0])),(39,.int .i64 0)] (by simp[p7fin,p9Tm]) (show([30,31,32,34,35,36,37,29,38,39]:List Tmp).all (fun d=>p7ops.any fun o=>o.dst==some d)=true by decide +kernel)) leftN_init
 ·rcases hJ with⟨rfl,rfl,_⟩ | ⟨vf,w1,rfl,rfl,hp,_⟩ | ⟨vf,ga,na,ca,ge,ne,ce,u,e,rfl,hp,_⟩ | ⟨vf,S1,ga,na,ca,ge,ne,ce,u,e,rfl,hp,rfl,_⟩
  ·exact p7_good hA.1 hA.2
  ·obtain⟨p1,p2⟩:=hB _ _ hp
   exact p7_good p1 p2
  ·obtain⟨p1,p2,_⟩:=hC _ _ _ hp
   exact p7_good p1 p2
  ·obtain⟨p1,p2,_⟩:=hC _ _ _ hp
   exact p7_good (p1.same (set3_frame hrs.symm)) (p2.same (set3_frame hrx.symm))
 ·have n3:i≠3:=fun e=>by subst e;cases hs
  have n8:i≠7:=fun e=>by subst e;cases hs
  have n12:i≠11:=fun e=>by subst e;cases hs
  rcases hJ with⟨h1,h2,l1,l2,l3⟩ | ⟨vf,w1,h1,h2,hp,l1,l2,l3⟩ | ⟨vf,ga,na,ca,ge,ne,ce,u,e,h1,hp,l1,l2,l3⟩ | ⟨vf,S1,ga,na,ca,ge,ne,ce,u,e,h1,hp,h2,l1,l2,l3⟩
  ·exact .inl ⟨h1,h2,getD_up l1 n3,getD_up l2 n8,getD_up l3 n12⟩
  ·exact .inr (.inl ⟨vf,w1,h1,h2,hp,getD_up l1 n3,getD_up l2 n8,getD_up l3 n12⟩)
  ·exact .inr (.inr (.inl ⟨vf,ga,na,ca,ge,ne,ce,u,e,h1,hp,getD_up l1 n3,getD_up l2 n8,getD_up l3 n12⟩))
  ·exact .inr (.inr (.inr ⟨vf,S1,ga,na,ca,ge,ne,ce,u,e,h1,hp,h2,getD_up l1 n3,getD_up l2 n8,getD_up l3 n12⟩))
 ·have hu:=ready_unl hr hI.lsize
  have hcase:i=3∨i=7∨i=11:=by
   simp only[p7sp,Bool.or_eq_true,beq_iff_eq] at hs;omega
  rcases hcase with rfl | rfl | rfl
  ·
   rcases hJ with⟨rfl,rfl,l1,l2,l3⟩ | ⟨vf,w1,h1,h2,hp,l1,l2,l3⟩ | ⟨vf,ga,na,ca,ge,ne,ce,u,e,h1,hp,l1,l2,l3⟩ | ⟨vf,S1,ga,na,ca,ge,ne,ce,u,e,h1,hp,h2,l1,l2,l3⟩
   ·have hoo:=ho
    obtain rfl:=oj' (show some _=some o from hoo);have e1:Act.eval ⟨tm,[]⟩ (.tmp 30)=ptr s:=hev _ (show Operand.tmp 30∈(#[Operand.func 28,Operand.tmp 30,Operand.tmp 32]:Array Operand) by simp);have e2:Act.eval ⟨tm,[]⟩ (.tmp 32)=vt:=hev _ (show Operand.tmp 32∈(#[Operand.func 28,Operand.tmp 30,Operand.tmp 32]:Array Operand) by simp);refine sound_enter fits hk ho hw (by decide +kernel) nofun (fun w=>x_call (args:=#[ptr s,vt]) rfl rfl Try.func28 rfl rfl (by show [Act.eval ⟨tm,[]⟩ (.tmp 30),Act.eval ⟨tm,[]⟩ (.tmp 32)]++[]=_;rw[e1,e2];rfl)) ?_;refine ks (S:=S) ((clS (Post:=Post) S).call fits shut2 (f:=28) rfl (R:=P28) hP28 h28 fun vf w1 hp=>?_) rfl;refine fin_at (Kn:=fun _=>KS Try.prog link.tWg Post 0 S) (n:=0) ho rfl ?_;refine hgo _ _ { S with w:=w1} (hI.putv (v:=vf) (by decide +kernel) ho rfl (show(33:Nat)<47 by decide) hr) (.inr (.inl ⟨vf,w1,rfl,rfl,hp,set_same (by rw[hI.lsize];exact lt_of_op ho),getD_up l2 (by decide),getD_up l3 (by decide)⟩))
   all_goals (rw[l1] at hu;cases hu)
  ·have h3:=ready_after (j:=3) hr (by decide +kernel)
   rcases hJ with⟨_,_,l1,l2,l3⟩ | ⟨vf,w1,rfl,rfl,hp,l1,l2,l3⟩ | ⟨vf,ga,na,ca,ge,ne,ce,u,e,h1,hp,l1,l2,l3⟩ | ⟨vf,S1,ga,na,ca,ge,ne,ce,u,e,h1,hp,h2,l1,l2,l3⟩
   ·rw[l1] at h3;cases h3
   ·have hoo:=ho
    obtain rfl:=oj' (show some _=some o from hoo);have a0:Act.eval ⟨tm,[]⟩ (.tmp 33)=vf:=hev _ (show Operand.tmp 33∈(#[Operand.func 14,Operand.tmp 33,Operand.tmp 34,Operand.tmp 36]:Array Operand) by simp);have a1:Act.eval ⟨tm,[]⟩ (.tmp 34)=vl:=hev _ (show Operand.tmp 34∈(#[Operand.func 14,Operand.tmp 33,Operand.tmp 34,Operand.tmp 36]:Array Operand) by simp);have a2:Act.eval ⟨tm,[]⟩ (.tmp 36)=.int .i64 most:=hev _ (show Operand.tmp 36∈(#[Operand.func 14,Operand.tmp 33,Operand.tmp 34,Operand.tmp 36]:Array Operand) by simp);refine sound_enter fits hk ho hw (by decide +kernel) nofun (fun w=>x_call (args:=#[vf,vl,.int .i64 most]) rfl rfl Try.func14 rfl rfl (by show [Act.eval ⟨tm,[]⟩ (.tmp 33),Act.eval ⟨tm,[]⟩ (.tmp 34),Act.eval ⟨tm,[]⟩ (.tmp 36)]++[]=_;rw[a0,a1,a2];rfl)) ?_;refine h27 _ cs rfl vf w1 hp fun S1 ga na ca ge ne ce u e hp1=>?_;refine ks (S:=S1) (fin_at (Kn:=fun _=>KS Try.prog link.tWg Post 0 S1) (n:=0) ho rfl ?_) rfl;have q9:=hI.unl hu (j:=8) (by decide +kernel);have q10:=hI.unl q9 (j:=9) (by decide +kernel);have q11:=hI.unl q9 (j:=10) (by decide +kernel);have q13:=hI.unl q11 (j:=12) (by decide +kernel);have hI1:=((((hI.refin (by decide +kernel) (i:=8) (d:=29) (.tuple #[.agg #[.slice ga na ca,.slice ge ne ce,.int .i64 u],.int .i64 e]) rfl rfl q9).refin (by decide +kernel) (i:=9) (d:=38) (.agg #[.slice ga na ca,.slice ge ne ce,.int .i64 u]) rfl rfl q10).refin (by decide +kernel) (i:=10) (d:=39) (.int .i64 e) rfl rfl q11).refin (by decide +kernel) (i:=12) (d:=9) (.int .i64 e) rfl rfl q13).putv (v:=.tuple #[.agg #[.slice ga na ca,.slice ge ne ce,.int .i64 u],.int .i64 e]) (by decide +kernel) ho rfl (show(37:Nat)<47 by decide) hr;exact hgo _ _ S1 hI1 (.inr (.inr (.inl ⟨vf,ga,na,ca,ge,ne,ce,u,e,rfl,hp1,getD_up l1 (by decide),set_same (by rw[hI.lsize];exact lt_of_op ho),getD_up l3 (by decide)⟩)))
   all_goals (rw[l2] at hu;cases hu)
  ·have h8:=ready_after (j:=7) hr (by decide +kernel)
   rcases hJ with⟨_,_,l1,l2,l3⟩ | ⟨vf,w1,_,_,hp,l1,l2,l3⟩ | ⟨vf,ga,na,ca,ge,ne,ce,u,e,rfl,hp,l1,l2,l3⟩ | ⟨vf,S1,ga,na,ca,ge,ne,ce,u,e,h1,hp,h2,l1,l2,l3⟩
   ·rw[l2] at h8;cases h8
   ·rw[l2] at h8;cases h8
   ·have hoo:=ho
    obtain rfl:=oj' (show some _=some o from hoo);have e1:Act.eval ⟨tm,[]⟩ (.tmp 8)=ptr rb:=hev _ (show Operand.tmp 8∈(#[Operand.tmp 8,Operand.tmp 38]:Array Operand) by simp);have e2:Act.eval ⟨tm,[]⟩ (.tmp 38)=(.agg #[.slice ga na ca,.slice ge ne ce,.int .i64 u]):=hev _ (show Operand.tmp 38∈(#[Operand.tmp 8,Operand.tmp 38]:Array Operand) by simp);obtain⟨_,_,hbk⟩:=hC _ _ _ hp;refine ks (S:=S) (((clS (Post:=Post) S).det).store (n:=0) (u:=ptr rb) (z:=(.agg #[.slice ga na ca,.slice ge ne ce,.int .i64 u])) hk ho ⟨rfl,rfl,rfl,rfl,nofun⟩ e1 e2 (fun τ d=>((st30 (w:=re S.w τ d) hbk).trans (congrArg (Result.ok ()) re_set3))) (Nat.le_of_eq set3_size.symm) ?_) rfl;exact hgo _ _ { S with w:=set3 S.w rb (.slice ga na ca) (.slice ge ne ce) (.int .i64 u)} (hI.list hr fun o' d ho' hd=>by rw[ho] at ho';cases ho';cases hd) (.inr (.inr (.inr ⟨vf,S,ga,na,ca,ge,ne,ce,u,e,rfl,hp,rfl,getD_up l1 (by decide),getD_up l2 (by decide),set_same (by rw[hI.lsize];exact lt_of_op ho)⟩)))
   ·rw[l3] at hu;cases hu
 ·rcases hJ with⟨_,_,l1,l2,l3⟩ | ⟨vf,w1,_,_,hp,l1,l2,l3⟩ | ⟨vf,ga,na,ca,ge,ne,ce,u,e,rfl,hp,l1,l2,l3⟩ | ⟨vf,S1,ga,na,ca,ge,ne,ce,u,e,rfl,hp,rfl,l1,l2,l3⟩
  ·rw[hall 3 (by decide +kernel)] at l1;cases l1
  ·rw[hall 7 (by decide +kernel)] at l2;cases l2
  ·rw[hall 11 (by decide +kernel)] at l3;cases l3
  ·refine ks (S:={S1 with w:=set3 S1.w rb (.slice ga na ca) (.slice ge ne ce) (.int .i64 u)}) (((clS (Post:=Post) ({S1 with w:=set3 S1.w rb (.slice ga na ca) (.slice ge ne ce) (.int .i64 u)})).det).regionEnd (n:=0) ?_) rfl
   exact h vf S1 ga na ca ge ne ce u e hp
def p8ops:Array Oper:=sO (sL (sR (sR (sR (sR (sR (sR c9)))))))
def p8sp (i:Nat):Bool:=i==6||i==8
def p8Tm (x:Nat→Value)(e:Int)(vl:Value)(bx ao sb rb:Nat):Array Value:=#[x 0,ptr bx,x 2,ptr ao,x 4,x 5,ptr sb,vl,ptr rb,.int .i64 e,x 10,x 11,x 12,x 13,x 14,x 15,x 16,x 17,x 18,x 19,x 20,x 21,x 22,x 23,x 24,x 25,x 26,x 27,x 28,x 29,x 30,x 31,x 32,x 33,x 34,x 35,x 36,x 37,x 38,x 39,x 40,x 41,x 42,x 43,x 44,x 45,x 46]
def p8fin (x:Nat→Value)(e u:Int)(vp vl:Value)(bx ao s sb rb:Nat)(ga ge:Option Addr)(na ca ne ce:Nat):Array Value:=#[x 0,ptr bx,ptr s,ptr ao,.int .i64 e,.bool true,ptr sb,vl,ptr rb,.int .i64 e,x 10,x 11,x 12,x 13,x 14,x 15,x 16,x 17,x 18,x 19,x 20,x 21,x 22,x 23,x 24,x 25,x 26,x 27,x 28,x 29,x 30,x 31,x 32,x 33,x 34,x 35,x 36,x 37,x 38,x 39,ptr s,.agg #[.slice ga na ca,.slice ge ne ce,.int .i64 u],.int .i64 e,vl,ptrAt bx 2,vp,.bool true]
theorem ld30' {w:World}{b:Nat}{x0 x1 x2:Value}(hb:Cel w b [x0,x1,x2] 30):(Instr.loadAt 30 (ptr b)).run Try.prog w=.ok (.agg #[x0,x1,x2]) w:=by
 have h0:=hb.cell 0;have h1:=hb.cell 1;have h2:=hb.cell 2;simp only[List.getElem?_cons_zero,List.getElem?_cons_succ] at h0 h1 h2;simp[go_sem,h0,h1,h2,Try.underlying30,Try.runUnderlying30,Try.sizeOf30,Try.isAgg30,List.range,List.range.loop]
theorem p8_good {x:Nat→Value}{bump most e u:Int}{vt vp vl:Value}{wt:Bool}{bx ao s sb rb:Nat}{ga ge:Option Addr}{na ca ne ce:Nat}{w:World}(hsb:Cel w sb [ptr s] 34)(hbx:Cel w bx [.int .i64 bump,vt,vp,.int .i64 most,.bool wt] 25)(hrb:Cel w rb [.slice ga na ca,.slice ge ne ce,.int .i64 u] 30):OrdG Try.prog p8ops (p8fin x e u vp vl bx ao s sb rb ga ge na ca ne ce) [] p8sp w:=by
 refine⟨fun i o ho hs=>?_,fun i o g b ho hg=>?_⟩
 ·match i,ho,hs with
  | 0,ho,_ =>
   obtain rfl:=so' ho;exact⟨40,⟨rfl,(by decide +kernel),nofun⟩,(show 40<47 by decide),fun a h τ δ=>ex_load (v:=(ptr s)) rfl (h _ m0') (ld34 (hsb.cell 0))⟩
  | 1,ho,_ =>
   obtain rfl:=so' ho;exact⟨41,⟨rfl,(by decide +kernel),nofun⟩,(show 41<47 by decide),fun a h τ δ=>ex_load (v:=(.agg #[.slice ga na ca,.slice ge ne ce,.int .i64 u])) rfl (h _ m0') (ld30' hrb)⟩
  | 2,ho,_ =>
   obtain rfl:=so' ho;exact⟨42,⟨rfl,(by decide +kernel),nofun⟩,(show 42<47 by decide),fun a h τ δ=>ex_move rfl (h _ m0')⟩
  | 3,ho,_ =>
   obtain rfl:=so' ho;exact⟨43,⟨rfl,(by decide +kernel),nofun⟩,(show 43<47 by decide),fun a h τ δ=>ex_move rfl (h _ m0')⟩
  | 4,ho,_ =>
   obtain rfl:=so' ho;exact⟨44,⟨rfl,(by decide +kernel),nofun⟩,(show 44<47 by decide),fun a h τ δ=>ex_field (v:=(ptrAt bx 2)) rfl (h _ m0') (fld25 (by omega))⟩
  | 5,ho,_ =>
   obtain rfl:=so' ho;exact⟨45,⟨rfl,(by decide +kernel),nofun⟩,(show 45<47 by decide),fun a h τ δ=>ex_load (v:=vp) rfl (h _ m0') (ld23 (hbx.cell 2))⟩
  | 6,_,hs=>cases hs
  | 7,ho,_ =>
   obtain rfl:=so' ho;exact⟨2,⟨rfl,(by decide +kernel),nofun⟩,(show 2<47 by decide),fun a h τ δ=>ex_assign rfl (h _ m0')⟩
  | 8,_,hs=>cases hs
  | 9,ho,_ =>
   obtain rfl:=so' ho;exact⟨4,⟨rfl,(by decide +kernel),nofun⟩,(show 4<47 by decide),fun a h τ δ=>ex_assign rfl (h _ m0')⟩
  | 10,ho,_ =>
   obtain rfl:=so' ho;exact⟨5,⟨rfl,(by decide +kernel),nofun⟩,(show 5<47 by decide),fun a h τ δ=>ex_assign rfl (h _ m0')⟩
  | n+11,ho,_ =>
   have:=lt_of_op ho;exact absurd this (by show ¬ n+11<11;omega)
 ·match i,ho with
  | 0,ho =>
   obtain rfl:=so' ho;cases hg
  | 1,ho =>
   obtain rfl:=so' ho;cases hg
  | 2,ho =>
   obtain rfl:=so' ho;cases hg
  | 3,ho =>
   obtain rfl:=so' ho;cases hg
  | 4,ho =>
   obtain rfl:=so' ho;cases hg
  | 5,ho =>
   obtain rfl:=so' ho;cases hg
  | 6,ho =>
   obtain rfl:=so' ho;cases hg
  | 7,ho =>
   obtain rfl:=so' ho;cases hg
  | 8,ho =>
   obtain rfl:=so' ho;cases hg
  | 9,ho =>
   obtain rfl:=so' ho;cases hg
  | 10,ho =>
   obtain rfl:=so' ho;cases hg
  | n+11,ho =>
   have:=lt_of_op ho;exact absurd this (by show ¬ n+11<11;omega)
def p8J (x:Nat→Value)(e u:Int)(vp vl:Value)(bx ao s sb rb:Nat)(ga ge:Option Addr)(na ca ne ce:Nat)(S0:SC)(fin:Array Value)(li:Array Bool)(S:SC):Prop :=
 fin=p8fin x e u vp vl bx ao s sb rb ga ge na ca ne ce∧((S=S0∧li.getD 8 false=false)∨(S={S0 with w:=set3 S0.w ao (.slice ga na ca) (.slice ge ne ce) (.int .i64 u)}∧li.getD 8 false=true))
theorem results9 {w:World}{t:Array Value}{s ao:Nat}{x0 x1 x2:Value}{e:Int}(h2:t.getD 2 undef=ptr s)(h3:t.getD 3 undef=ptr ao)(h4:t.getD 4 undef=.int .i64 e)(h5:t.getD 5 undef=.bool true)(hb:Blk w ao [x0,x1,x2] 30):(results Try.f9 t).run Try.prog w=.ok (.tuple #[ptr s,.agg #[x0,x1,x2],.int .i64 e,.bool true]) w:=by
 have c0:=hb.cell 0;have c1:=hb.cell 1;have c2:=hb.cell 2;simp only[List.getElem?_cons_zero,List.getElem?_cons_succ] at c0 c1 c2;unfold results;rw[show Try.f9.results=#[.tmp 2,.cell 3 30,.tmp 4,.tmp 5] from rfl];simp only[gd'] at h2 h3 h4 h5;simp[go_sem,h2,h3,h4,h5,c0,c1,c2,Result.andThen,Try.underlying30,Try.runUnderlying30,Try.sizeOf30,Try.isAgg30]
theorem p8_runs {Post:Value→World→Prop}{cl:Frame}{x:Nat→Value}{bump most e u:Int}{vt vp vl:Value}{wt:Bool}{bx ao s sb rb pb:Nat}{ga ge:Option Addr}{na ca ne ce:Nat}{cs:List Frame}{S0:SC}{picks:List Nat}(hcl:cl.mode=.run)(hsb:Cel S0.w sb [ptr s] 34)(hbx:Cel S0.w bx [.int .i64 bump,vt,vp,.int .i64 most,.bool wt] 25)(hrb:Cel S0.w rb [.slice ga na ca,.slice ge ne ce,.int .i64 u] 30)
  (hao:Blk S0.w ao [.slice none 0 0,.slice none 0 0,.int .i64 0] 30) (h1:ao≠sb) (h2:ao≠bx) (h3:ao≠rb) (hl:Lent pb S0.w vl picks) (hp:Rd u8 S0.w vp picks) (hpl:picks.length<1099511627776)
  (h:∀ w',Kp [ao] S0.w w'→Sound Try.prog link.tWg Post 0 { S0 with w:=w'} (gs (cl.finish (.tuple #[ptr s,.agg #[.slice ga na ca,.slice ge ne ce,.int .i64 u],.int .i64 e,.bool true])) cs)) :
  Sound Try.prog link.tWg Post 0 S0 (gs ((base 9).at ⟨p8Tm x e vl bx ao sb rb,[]⟩ [.code (sR (sR (sR (sR (sR (sR c9))))))]) (cl::cs)):=by
 have hk:(base 9).kind≠.early:=nofun;have hD:=(clS (Post:=Post) S0).det;refine ks (S:=S0) (hD.seq (n:=0) ?_) rfl;show Sound Try.prog link.tWg Post 0 S0 (gs ((base 9).at ⟨p8Tm x e vl bx ao sb rb,[]⟩ (.code (.region 8 p8ops true)::[.code (sR (sR (sR (sR (sR (sR (sR c9)))))))])) (cl::cs));refine ord_begin fits mixed fun t=>?_;refine ord_run (sp:=p8sp) fits hk (by decide +kernel) (by decide +kernel) (by decide +kernel) (by decide +kernel) (p8J x e u vp vl bx ao s sb rb ga ge na ca ne ce S0) (fun fin li S hJ=>?_) (fun fin li S i hJ hr hs=>?_) (fun fin li tm S i o rest hJ hI hr hs ho hw hev hgo=>?_) (fun fin li S hJ hall=>?_) _ t _ _ _ S0 ⟨rfl,.inl ⟨rfl,rep_false⟩⟩ (OInv.init [(40,(ptr s)),(41,(.agg #[.slice ga na ca,.slice ge ne ce,.int .i64 u])),(42,(.int .i64 e)),(43,vl),(44,(ptrAt bx 2)),(45,vp),(46,(.bool true)),(2,(ptr s)),(4,(.int .i64 e)),(5,(.bool true))] (by simp[p8fin,p8Tm]) (show([40,41,42,43,44,45,46,2,4,5]:List Tmp).all (fun d=>p8ops.any fun o=>o.dst==some d)=true by decide +kernel)) leftN_init
 ·obtain⟨rfl,⟨rfl,_⟩ | ⟨rfl,_⟩⟩:=hJ
  ·exact p8_good hsb hbx hrb
  ·exact p8_good (hsb.same (set3_frame h1.symm)) (hbx.same (set3_frame h2.symm)) (hrb.same (set3_frame h3.symm))
 ·have n8:i≠8:=fun e=>by subst e;cases hs
  obtain⟨h1,⟨h2,l⟩ | ⟨h2,l⟩⟩:=hJ
  ·exact⟨h1,.inl ⟨h2,getD_up l n8⟩⟩
  ·exact⟨h1,.inr ⟨h2,getD_up l n8⟩⟩
 ·have hu:=ready_unl hr hI.lsize
  have hcase:i=6∨i=8:=by
   simp only[p8sp,Bool.or_eq_true,beq_iff_eq] at hs;omega
  rcases hcase with rfl | rfl
  ·have hoo:=ho
   obtain rfl:=oj' (show some _=some o from hoo);obtain⟨rfl,hJ⟩:=hJ;have e1:Act.eval ⟨tm,[]⟩ (.tmp 43)=vl:=hev _ (show Operand.tmp 43∈(#[Operand.func 30,Operand.tmp 43,Operand.tmp 45]:Array Operand) by simp);have e2:Act.eval ⟨tm,[]⟩ (.tmp 45)=vp:=hev _ (show Operand.tmp 45∈(#[Operand.func 30,Operand.tmp 43,Operand.tmp 45]:Array Operand) by simp);obtain⟨rfl,l8⟩:=hJ.resolve_right fun hq=>by
    have q7:=hI.unl hu (j:=7) (by decide +kernel);have q8:=hI.unl q7 (j:=8) (by decide +kernel);rw[hq.2] at q8;cases q8
   refine sound_enter fits hk ho hw (by decide +kernel) nofun (fun w=>x_call (args:=#[vl,vp]) rfl rfl Try.func30 rfl rfl (by show [Act.eval ⟨tm,[]⟩ (.tmp 43),Act.eval ⟨tm,[]⟩ (.tmp 45)]++[]=_;rw[e1,e2];rfl)) ?_;have hK:=clS (Post:=Post) S;refine ks (S:=S) (hK.call fits shut (f:=30) rfl (R:=fun v w'=>v=.bool true∧∃ τ d,w'=Lift.re S.w τ d) (fun v w τ d ⟨q1,τ',d',q2⟩=>⟨q1,τ,d,by rw[q2];rfl⟩) (fun τ d=>?_) ?_) rfl
   ·exact(left_calls (Lift.re S.w τ d) vl vp pb picks (hl.same rfl) hp hpl).mono fun e w' ⟨q1,n,q2⟩=>⟨_,q1,rfl,τ,d+n,by rw[q2];rfl⟩
   ·rintro v w' ⟨rfl,τ,d,rfl⟩
    refine hK.blind _ _ _ _ ?_;refine fin_at (Kn:=fun _=>KS Try.prog link.tWg Post 0 S) (n:=0) ho rfl ?_;exact hgo _ _ S (hI.put (by decide +kernel) ho rfl (show(46:Nat)<47 by decide) hr) ⟨rfl,.inl ⟨rfl,getD_up l8 (by decide)⟩⟩
  ·have hoo:=ho
   obtain rfl:=oj' (show some _=some o from hoo);obtain⟨rfl,hJ⟩:=hJ;obtain⟨rfl,l8⟩:=hJ.resolve_right fun hq=>by rw[hq.2] at hu;cases hu
   have e1:Act.eval ⟨tm,[]⟩ (.tmp 3)=ptr ao:=hev _ (show Operand.tmp 3∈(#[Operand.tmp 3,Operand.tmp 41]:Array Operand) by simp);have e2:Act.eval ⟨tm,[]⟩ (.tmp 41)=(.agg #[.slice ga na ca,.slice ge ne ce,.int .i64 u]):=hev _ (show Operand.tmp 41∈(#[Operand.tmp 3,Operand.tmp 41]:Array Operand) by simp);refine ks (S:=S) (((clS (Post:=Post) S).det).store (n:=0) (u:=ptr ao) (z:=(.agg #[.slice ga na ca,.slice ge ne ce,.int .i64 u])) hk ho ⟨rfl,rfl,rfl,rfl,nofun⟩ e1 e2 (fun τ d=>((st30 (w:=re S.w τ d) hao).trans (congrArg (Result.ok ()) re_set3))) (Nat.le_of_eq set3_size.symm) ?_) rfl;exact hgo _ _ { S with w:=set3 S.w ao (.slice ga na ca) (.slice ge ne ce) (.int .i64 u)} (hI.list hr fun o' d ho' hd=>by rw[ho] at ho';cases ho';cases hd) ⟨rfl,.inr ⟨rfl,set_same (by rw[hI.lsize];exact lt_of_op ho)⟩⟩
 ·obtain⟨rfl,hJ⟩:=hJ
  obtain⟨rfl,_⟩:=hJ.resolve_left fun hq=>by rw[hall 8 (by decide +kernel)] at hq;cases hq.2
  have hD2:=(clS (Post:=Post) ({S0 with w:=set3 S0.w ao (.slice ga na ca) (.slice ge ne ce) (.int .i64 u)})).det;have hbo:Blk (set3 S0.w ao (.slice ga na ca) (.slice ge ne ce) (.int .i64 u)) ao _ 30:=set3_blk hao;refine ks (S:={S0 with w:=set3 S0.w ao (.slice ga na ca) (.slice ge ne ce) (.int .i64 u)}) (hD2.regionEnd (n:=0) ?_) rfl;refine hD2.ret (n:=0) ?_;refine hD2.leave (n:=0) (b:=base 9) (a:=⟨p8fin x e u vp vl bx ao s sb rb ga ge na ca ne ce,[]⟩) (v:=.tuple #[ptr s,.agg #[.slice ga na ca,.slice ge ne ce,.int .i64 u],.int .i64 e,.bool true]) rfl rfl Try.func9 (fun τ d=>results9 (w:=re _ τ d) rfl rfl rfl rfl hbo) hcl ?_;exact h _ ⟨Nat.le_of_eq set3_size.symm,fun b _ hn=>set3_frame (by simpa using hn)⟩
def C0w:WC:=wcOf 0 0 0 0 0 0 (fun _=>0) (fun _=>#[]) (fun _=>0) (fun _=>0) (fun _=>0) 0 0
def Qpl (n:Nat)(its:Nat→List (Int × Int)):ShC:={n:=n,s:=0,ib:=fun _=>0,sx:=fun _=>0,its:=its,gi:=fun _=>none,ci:=fun _=>0,watch:=false,bsb:=0,bxb:=0,bump:=0,z:=(undef,uu,uu,undef),M:=0}
def runD (n:Nat)(its:Nat→List (Int × Int))(wt:Bool)(bh bump:Int)(most:Int)(picks:List Nat):RunSt ItL ShA:=(Qpl n its).out C0w wt bh bump most picks
theorem out_eq (Q:ShC)(C:WC)(wt:Bool)(bh bump:Int)(most:Int)(picks:List Nat):Q.out C wt bh bump most picks=runD Q.n Q.its wt bh bump most picks:=runF_congr (B:=Q.bods C) (B':=(Qpl Q.n Q.its).bods C0w) rfl rfl _ _
structure PlR where
 sum:Int
 notes:List Int
 acts:List Nat
 ends:List Nat
 used:Nat
 code:Int
def playR (n:Nat)(its:Nat→List (Int × Int))(picks:List Nat)(most:Int)(wt:Bool)(bump:Int):PlR :=
 if badM n most picks.length≠0 then ⟨0,[],[],[],0,badM n most picks.length⟩ else
  let y:=runD n its wt (-77) bump most picks
  ⟨y.a.sum,y.a.notes,y.acts,endsM (decide (most≤(y.acts.length:Int))) (donesE n y.st),picks.length-y.left.length,codeM (decide (most≤(y.acts.length:Int))) (donesE n y.st)⟩
theorem runItems_rem (i n len:Nat):∀ (l:List (Int × Int)) (k:Nat) (a:ShA),l.length=len-k→remE len (toT (runItems i n l k a).2)≤l.length
 | [],_,_,_=>Nat.le_refl _
 | (d,x)::l,k,a,h=>by
  rw[List.length_cons] at h ⊢;have st:∀ a:ShA,_:=fun a=>runItems_rem i n len l (k+1) a (by omega);unfold runItems
  repeat' split
  all_goals first
   | (refine Nat.le_trans (st _) ?_;omega)
   | (show len-(k+1)+1≤_;omega)
theorem go_rem (Q:ShC){i n:Nat}{t:ES ItL}(a:ShA)(ht:t≠.done):remE (Q.its i).length (toT (Q.go i t a n).2)+1≤remE (Q.its i).length t:=by
 cases t with
 | fresh=>exact Nat.succ_le_succ (runItems_rem i n (Q.its i).length (Q.its i) 0 { a with due:=1} rfl)
 | susp l =>
  have:=runItems_rem i n (Q.its i).length ((Q.its i).drop l.next) l.next { a with due:=1} (List.length_drop ..);rw[List.length_drop] at this;exact Nat.succ_le_succ this
 | done=>exact absurd rfl ht
theorem runF_bound (Q:ShC)(C:WC)(beh:ShA→ShA):∀ (k:Nat) (x:RunSt ItL ShA),(runF (Q.bods C) Q.n beh k x).acts.length+sumTo Q.n (fun j=>remE (Q.its j).length ((runF (Q.bods C) Q.n beh k x).st j))≤x.acts.length+sumTo Q.n (fun j=>remE (Q.its j).length (x.st j))
 | 0,_=>Nat.le_refl _
 | k+1,x=>by
  unfold runF;split
  ·exact Nat.le_refl _
  ·rename_i hne
   obtain⟨h1,h2⟩:=readies_lt (chosen_mem (left:=x.left) (acts:=x.acts) hne);refine Nat.le_trans (runF_bound Q C beh k _) ?_;generalize (chosen (readies (Q.bods C) Q.n x) x.acts x.left).1=i at h1 h2 ⊢;have h4:=sum_updE Q x.st h1 (toT (Q.go i (x.st i) x.a (x.acts.length+1)).2);have h5:=go_rem Q (i:=i) (n:=x.acts.length+1) x.a h2;show(x.acts++[i]).length+sumTo Q.n (fun j=>remE (Q.its j).length (updE x.st i (toT (Q.go i (x.st i) x.a (x.acts.length+1)).2) j))≤_;rw[la'];simp only[List.length_singleton];omega
theorem runD_acts (n:Nat)(its:Nat→List (Int × Int))(wt:Bool)(bh bump:Int)(most:Int)(picks:List Nat):(runD n its wt bh bump most picks).acts.length≤sumTo n (fun j=>(its j).length+1):=by
 have:=runF_bound (Qpl n its) C0w (behD wt bh bump) most.toNat ⟨fun _=>.fresh,⟨0,[],0⟩,[],picks⟩;refine Nat.le_trans (Nat.le_add_right _ _) (Nat.le_trans this ?_);show 0+sumTo n (fun j=>(its j).length+1)≤_;omega
def IBof (n:Nat)(its:Nat→List (Int × Int))(gi:Nat→Option Addr)(b:Nat):Prop:=∃ i o,i<n∧its i≠[]∧gi i=some ⟨b,o,none⟩
theorem Rd.kp {α:Type}{f:α→Value}{w w':World}{v:Value}{xs:List α}{F:List Nat}(h:Rd f w v xs)(k:Kp F w w')(hf:∀ x∈F,w.heap.size≤x):Rd f w' v xs:=h.mono fun b _ _ hu=>(cell_same (k.block b (cell_lt hu) fun hm=>by have:=hf b hm;have:=cell_lt hu;omega)).trans hu
structure PlA (w:World)(n:Nat)(its:Nat→List (Int × Int))(gi:Nat→Option Addr)(ci:Nat→Nat)(vt vp:Value)(picks:List Nat):Prop where
 thr:Rd (fun x:Value=>x) w vt ((List.range n).map fun i=>.slice (gi i) (its i).length (ci i))
 items:∀ i,i<n→ItsAt (IBof n its gi) w (gi i) (its i)
 low:∀ b,IBof n its gi b→b<w.heap.size
 pk:∃ pb,pb<w.heap.size∧Bytes pb w vp picks
 n40:n<1048576
 len:∀ i,i<n→(its i).length<4294967295
 pkl:picks.length<1099511627776
 sum:sumTo n (fun j=>(its j).length+1)<4294967295
theorem PlA.kp {w W:World}{n:Nat}{its:Nat→List (Int × Int)}{gi:Nat→Option Addr}{ci:Nat→Nat}{vt vp:Value}{picks:List Nat}(h:PlA w n its gi ci vt vp picks){F:List Nat}(k:Kp F w W)(hf:∀ x∈F,w.heap.size≤x):PlA W n its gi ci vt vp picks:=by
 obtain⟨pb,h1,h2⟩:=h.pk;have hb:∀ b,b<w.heap.size→W.heap[b]?=w.heap[b]?:=fun b hb=>k.block b hb fun hm=>by have:=hf _ hm;omega
 refine⟨h.thr.kp k hf,fun i hi j d x hj=>?_,fun b hb=>nl' (h.low b hb) k.size,⟨pb,nl' h1 k.size,h2.same (hb pb h1)⟩,h.n40,h.len,h.pkl,h.sum⟩;obtain⟨ab,ao,h1,h2,h3,h4⟩:=h.items i hi j d x hj;exact⟨ab,ao,h1,h2,(cell_same (hb ab (h.low ab h2))).trans h3,(cell_same (hb ab (h.low ab h2))).trans h4⟩
structure PlD (N:Nat)(w:World)(s:Nat)(va ve:Value)(R:PlR):Prop where
 sh:∃ vn,Blk w s [.int .i64 R.sum,vn] 41∧RepI w vn R.notes
 acts:RepU w va R.acts
 ends:RepE w ve R.ends
 fresh:N≤s
def ibOf (bs:List (Nat × Nat))(i:Nat):Nat:=(bs[i]?.getD (0,0)).1
def sxOf (bs:List (Nat × Nat))(i:Nat):Nat:=(bs[i]?.getD (0,0)).2
theorem ibOf_get {bs:List (Nat × Nat)}{i n:Nat}(hl:bs.length=n)(hi:i<n):bs[i]?=some (ibOf bs i,sxOf bs i):=by
 have:i<bs.length:=by omega
 unfold ibOf sxOf;rw[List.getElem?_eq_getElem this];rfl
def plX (n:Nat)(its:Nat→List (Int × Int))(gi:Nat→Option Addr)(bs:List (Nat × Nat))(wt:Bool)(s sb bx:Nat)(b:Nat):Prop :=
 b=s∨IBof n its gi b∨(∃ i,i<n∧(b=ibOf bs i∨b=sxOf bs i))∨(wt=true∧(b=sb∨b=bx))
structure PlW (S4 S1:SC)(n:Nat)(its:Nat→List (Int × Int))(gi:Nat→Option Addr)(ci:Nat→Nat)(bs:List (Nat × Nat))(vt vp:Value)(picks:List Nat)(wt:Bool)(bump most:Int)(N s sb bx:Nat)(va ve:Value)(R:PlR):Prop where
 idle:Idle S1
 n0:S1.n0=S4.n0
 W0:S1.W0=S4.W0
 size:S4.w.heap.size≤S1.w.heap.size
 block:∀ b,b<S4.w.heap.size→¬plX n its gi bs wt s sb bx b→S1.w.heap[b]?=S4.w.heap[b]?
 keep:∀ b,IBof n its gi b→S1.w.heap[b]?=S4.w.heap[b]?
 data:PlD N S1.w s va ve R
 behs:wt=true→Cel S1.w sb [ptr s] 34∧Cel S1.w bx [.int .i64 bump,vt,vp,.int .i64 most,.bool wt] 25
theorem fitsM_bad {vs:List Value}{n:Nat}{most:Int}{p:Nat}(hl:vs.length=n)(hn:vs.any isNilF=false):fitsM vs most p=badM n most p:=by
 unfold fitsM badM;rw[hl,hn];simp
theorem watch_play {Post:Value→World→Prop}{S4:SC}{cl:Frame}{cs:List Frame}(hid:Idle S4)(hcl:cl.mode=.run){n:Nat}{its:Nat→List (Int × Int)}{gi:Nat→Option Addr}{ci:Nat→Nat}{vt vp vl vf bh:Value}{picks:List Nat}{most bump:Int}{wt:Bool}{bs:List (Nat × Nat)}{N N3 s sb bx lb:Nat}
  (A:PlA S4.w n its gi ci vt vp picks) (hIB:∀ b,IBof n its gi b→b<N) (hNs:N≤s) (hs3:s<N3) (hsb:N≤sb∧sb<N3∧sb≠s) (hbx:N≤bx∧bx<N3∧bx≠s) (hlb:N≤lb∧lb<N3∧lb≠s∧lb≠sb∧lb≠bx) (h34:N3≤S4.w.heap.size)
  (hvf:RepF S4.w vf (bs.map bodV)) (hbl:bs.length=n) (hmade:MadeF s N3 ((List.range n).map fun i=>.slice (gi i) (its i).length (ci i)) bs (fp vf) S4.w) (hbs:Blk S4.w s [.int .i64 0,.slice none 0 0] 41) (hl:Lent lb S4.w vl picks)
  (hbh:(wt=false∧bh=.nilFunc)∨(wt=true∧bh=.func (.func 29) #[] #[ptr sb,ptr bx]∧Cel S4.w sb [ptr s] 34∧Cel S4.w bx [.int .i64 bump,vt,vp,.int .i64 most,.bool wt] 25))
  (hnext:∀ S1 ga na ca ge ne ce,PlW S4 S1 n its gi ci bs vt vp picks wt bump most N s sb bx (.slice ga na ca) (.slice ge ne ce) (playR n its picks most wt bump) →
   Sound Try.prog link.tWg Post 0 S1 (gs (cl.finish (.tuple #[.agg #[.slice ga na ca,.slice ge ne ce,.int .i64 ((playR n its picks most wt bump).used:Nat)],.int .i64 (playR n its picks most wt bump).code])) cs)) :
  Sound Try.prog link.tWg Post 0 S4 (gs (Frame.enter Try.prog 27 #[vf,vl,.int .i64 most,bh] .normal) (cl::cs)):=by
 have hmk:∀ i,i<n→N3≤ibOf bs i∧N3≤sxOf bs i∧Cel S4.w (ibOf bs i) [.slice (gi i) (its i).length (ci i)] 51∧Cel S4.w (sxOf bs i) [ptr s] 34:=fun i hi=>by
  obtain⟨h1,h2,_,_,v,h3,h4,h5⟩:=hmade i _ _ (ibOf_get hbl hi);rw[List.getElem?_map,List.getElem?_range hi] at h3;cases h3;exact⟨h1,h2,h4,h5⟩
 have hany:(bs.map bodV).any isNilF=false:=by
  rw[List.any_eq_false];intro u hu;obtain⟨i,_,rfl⟩:=List.mem_map.1 hu;simp[isNilF,bodV]
 have hlen:(bs.map bodV).length=n:=by rw[List.length_map];exact hbl
 obtain⟨g0,c0,rfl,_⟩:=hvf.form;by_cases hbad:badM n most picks.length≠0
 ·
  have hplay:playR n its picks most wt bump=⟨0,[],[],[],0,badM n most picks.length⟩:=if_pos hbad;have hfm:=fitsM_bad (most:=most) (p:=picks.length) hlen hany;refine watch_bad hcl (fun u hu=>?_) (fun hne=>?_) hl.bytes (by omega) (by rw[hfm];exact hbad) fun w' k=>?_
  ·obtain⟨i,_,rfl⟩:=List.mem_map.1 hu
   exact .inr ⟨_,_,rfl⟩
  ·obtain⟨fb,c,e,h1,_⟩:=hvf.ex (List.length_pos_iff.2 hne)
   cases e;exact⟨fb,0,rfl,h1,fun j u hj=>by rw[Nat.zero_add];exact hvf.cell1 (u:=fun x:Value=>x) (fun _=>rfl) j u hj⟩
  ·rw[hplay] at hnext
   rw[hfm];refine hnext { S4 with w:=w'} none 0 0 none 0 0 ⟨⟨hid.roles,hid.grps,hid.pos⟩,rfl,rfl,k.size,fun b hb _=>k.block b hb (by simp),fun b hb=>k.block b (A.low b hb) (by simp),⟨⟨.slice none 0 0,k.blk hbs (by simp),Rep.nil⟩,Rep.nil,Rep.nil,hNs⟩,fun hw=>?_⟩
   ·rcases hbh with⟨h1,_⟩ | ⟨_,_,h1,h2⟩
    ·rw[hw] at h1;cases h1
    ·exact⟨k.cel h1 (by simp),k.cel h2 (by simp)⟩
 ·
  have hb0:badM n most picks.length=0:=Classical.not_not.1 hbad;have hplay:playR n its picks most wt bump=⟨(runD n its wt (-77) bump most picks).a.sum,(runD n its wt (-77) bump most picks).a.notes,(runD n its wt (-77) bump most picks).acts,endsM (decide (most≤((runD n its wt (-77) bump most picks).acts.length:Int))) (donesE n (runD n its wt (-77) bump most picks).st),picks.length-(runD n its wt (-77) bump most picks).left.length,codeM (decide (most≤((runD n its wt (-77) bump most picks).acts.length:Int))) (donesE n (runD n its wt (-77) bump most picks).st)⟩:=if_neg hbad;have hlim:0<n∧n≤8∧0≤most∧picks.length≤65536:=by
   unfold badM at hb0;split at hb0
   ·cases hb0
   ·split at hb0
    ·cases hb0
    ·omega
  obtain⟨hn0,hn8,hm0,hp0⟩:=hlim;obtain⟨fb,c,e,hfl,_⟩:=hvf.ex (by omega);cases e;rw[hlen];obtain⟨Q,hQ⟩:∃ Q:ShC,Q={n:=n,s:=s,ib:=ibOf bs,sx:=sxOf bs,its:=its,gi:=gi,ci:=ci,watch:=wt,bsb:=sb,bxb:=bx,bump:=bump,z:=(vt,vp,.int .i64 most,.bool wt),M:=sumTo n (fun j=>(its j).length+1),low:=IBof n its gi,H:=fun b=>S4.w.heap[b]?}:=⟨_,rfl⟩;have hQn:Q.n=n:=by rw[hQ]
  have hQi:Q.its=its:=by rw[hQ]
  have hQs:Q.s=s:=by rw[hQ]
  have hQM:Q.M<4294967295:=by rw[hQ];exact A.sum
  have hrun:∀ C,runF (Q.bods C) n (behD wt (-77) bump) most.toNat ⟨fun _=>.fresh,⟨0,[],0⟩,[],picks⟩=runD n its wt (-77) bump most picks:=fun C=>by
   have:=out_eq Q C wt (-77) bump most picks;rw[hQn,hQi] at this;rw[← this,← hQn];rfl
  have hIB4:∀ b,IBof n its gi b→b≠s∧b≠sb∧b≠bx∧b≠lb∧b<S4.w.heap.size∧∀ i,i<n→b≠ibOf bs i∧b≠sxOf bs i:=fun b hb=>by
   have:=hIB b hb;refine⟨by omega,by omega,by omega,by omega,by omega,fun i hi=>?_⟩;have:=hmk i hi;omega
  have hXlt:∀ b,plX n its gi bs wt s sb bx b→b<S4.w.heap.size:=fun b hb=>by
   rcases hb with rfl | hb | ⟨i,hi,rfl | rfl⟩ | ⟨_,rfl | rfl⟩
   ·omega
   ·exact(hIB4 b hb).2.2.2.2.1
   ·exact(hmk i hi).2.2.1.lt
   ·exact(hmk i hi).2.2.2.lt
   ·omega
   ·omega
  have hmem:∀ C,(Q.bods C).mem ⟨0,[],0⟩ (fun _=>.fresh) (plX n its gi bs wt s sb bx) S4.w:=fun C=>by
   refine⟨⟨fun b=>plX n its gi bs wt s sb bx b∧b≠s,none,0,?_⟩,?_⟩
   ·subst hQ
    refine⟨hbs,Rep.nil,by simp[fp,Value.ownBlock],fun b hb=>⟨hb.2,by simp[fp,Value.ownBlock],hXlt b hb.1⟩,fun b=>⟨fun hb=>?_,fun hb=>?_⟩,fun i hi=>?_,(fun i l rv _ e=>by cases e),fun hw=>?_,fun b hb=>⟨⟨.inr (.inl hb),(hIB4 b hb).1⟩,rfl⟩⟩
    ·by_cases e:b=s
     ·exact .inl e
     ·exact .inr (.inr ⟨hb,e⟩)
    ·rcases hb with e | hb | hb
     ·exact .inl e
     ·simp[fp,Value.ownBlock] at hb
     ·exact hb.1
    ·obtain⟨h1,h2,h3,h4⟩:=hmk i hi
     refine⟨⟨.inr (.inr (.inl ⟨i,hi,.inl rfl⟩)),by show ibOf bs i≠s;omega⟩,h3,⟨.inr (.inr (.inl ⟨i,hi,.inr rfl⟩)),by show sxOf bs i≠s;omega⟩,h4,fun k d x hk=>?_⟩;obtain⟨ab,ao,q1,q2,q3,q4⟩:=A.items i hi k d x hk;exact⟨ab,ao,q1,⟨.inr (.inl q2),(hIB4 ab q2).1⟩,q3,q4⟩
    ·have hw':wt=true:=hw
     rcases hbh with⟨h1,_⟩ | ⟨_,_,h1,h2⟩
     ·rw[hw'] at h1;cases h1
     ·exact⟨⟨.inr (.inr (.inr ⟨hw',.inl rfl⟩)),hsb.2.2⟩,⟨.inr (.inr (.inr ⟨hw',.inr rfl⟩)),hbx.2.2⟩,h1,h2⟩
   ·show 0+0+sumTo Q.n (fun i=>(Q.its i).length+1)≤Q.M
    subst hQ;show 0+0+sumTo n (fun i=>(its i).length+1)≤sumTo n (fun j=>(its j).length+1);omega
  have hfb:fb<S4.w.heap.size:=hfl;have hnX:¬plX n its gi bs wt s sb bx lb:=fun h=>by
   rcases h with h | h | ⟨i,hi,h⟩ | ⟨_,h⟩
   ·exact hlb.2.2.1 h
   ·exact(hIB4 lb h).2.2.2.1 rfl
   ·have:=hmk i hi;omega
   ·omega
  refine watch_runs (Bf:=fun C=>Q.bods C) (go:=Q.go) (rdy:=Q.rdy) (n:=n) (fn:=fun _=>31) (cap:=fun j=>#[ptr (ibOf bs j),ptr (sxOf bs j)]) (beh:=behD wt (-77) bump) (a0:=⟨0,[],0⟩) (X:=plX n its gi bs wt s sb bx) (pb:=lb) (fb:=fb) (fo:=0) (picks:=picks) (fun _=>rfl) (fun _=>rfl)
   (fun C hC hn hfn hcap=>sh_ok (by rw[hQn];exact hn) (fun i hi=>by rw[hfn]) (fun i hi=>by rw[hcap,hQ]) (by omega) (fun i hi=>by rw[hQi];exact A.len i (by omega))) (fun C=>?_) hid hn0 hn8 hcl hfb (fun j hj=>?_) hl.bytes (by omega) hnX hp0 hm0 hmem hXlt (fun C=>?_) fun C S' st' X' ga' ca' ge ne ce hC hCn W=>?_
  ·rcases hbh with⟨rfl,rfl⟩ | ⟨rfl,rfl,_⟩
   ·exact .inl ⟨rfl,fun a=>rfl⟩
   ·have h1:=sh_beh (Q:=Q) (C:=C) (by rw[hQ]) (by omega)
    rw[hQ] at h1 ⊢;exact h1
  ·rw[Nat.zero_add]
   have h1:(bs.map bodV)[j]?=some (bodV (ibOf bs j,sxOf bs j)):=by rw[List.getElem?_map,ibOf_get hbl hj];rfl
   exact hvf.cell1 (u:=fun x:Value=>x) (fun _=>rfl) j _ h1
  ·rw[hrun C]
   have:=runD_acts n its wt (-77) bump most picks;have:=A.sum;omega
  ·rw[hrun C] at W ⊢
   rw[hplay] at hnext;refine hnext S' _ _ _ _ _ _ ?_;obtain⟨⟨R',gn,cn,M'⟩,_⟩:=W.mem;refine⟨W.idle,W.n0,W.W0,W.size,W.block,fun b hb=>?_,⟨⟨_,?_,M'.rep⟩,W.actsv,?_,hNs⟩,fun hw=>?_⟩
   ·have h1:=(M'.keep b (by rw[hQ];exact hb)).2
    rw[hQ] at h1;exact h1
   ·have h1:=M'.sh
    rw[hQs] at h1;exact h1
   ·have h1:=W.ends
    rw[hCn] at h1;exact h1
   ·obtain⟨_,_,h3,h4⟩:=M'.behs (by rw[hQ];exact hw)
    rw[hQ] at h3 h4;exact⟨h3,h4⟩
open Go.ConcN (sumTo)
theorem rep_ne {α:Type}{w:World}{e:TypeId}{k:Nat}{f:α→List Value}{v:Value}{xs:List α}(h:Rep e k f w v xs){ob:Nat}{cs:List Value}{t:TypeId}(ho:Cel w ob cs t)(hne:e≠t):∀ b∈fp v,b≠ob:=fun b hb=>by
 obtain⟨cs',h'⟩:=fp_cel h b hb;exact cel_ne h' ho hne
theorem PlD.but {N:Nat}{w W:World}{s ob:Nat}{va ve:Value}{R:PlR}{cs:List Value}(h:PlD N w s va ve R)(ho:Cel w ob cs 30)(k:Kp [ob] w W):PlD N W s va ve R:=by
 obtain⟨vn,h1,h2⟩:=h.sh;exact⟨⟨vn,k.blk h1 (by simpa using cel_ne (Blk.cel h1) ho (by decide)),rep_same h2 k.size fun b hb=>k.block b (h2.fp_lt b hb) (by simpa using rep_ne h2 ho (by decide) b hb)⟩,rep_same h.acts k.size fun b hb=>k.block b (h.acts.fp_lt b hb) (by simpa using rep_ne h.acts ho (by decide) b hb),rep_same h.ends k.size fun b hb=>k.block b (h.ends.fp_lt b hb) (by simpa using rep_ne h.ends ho (by decide) b hb),h.fresh⟩
structure PlF (S S1:SC)(s:Nat)(va ve:Value)(R:PlR):Prop where
 idle:Idle S1
 n0:S1.n0=S.n0
 W0:S1.W0=S.W0
 out:Kp [] S.w S1.w
 data:PlD S.w.heap.size S1.w s va ve R
theorem PlF.kp {S S1:SC}{s ob:Nat}{va ve:Value}{R:PlR}{W:World}{cs:List Value}(h:PlF S S1 s va ve R)(ho:Cel S1.w ob cs 30)(k:Kp [ob] S1.w W)(hob:S.w.heap.size≤ob):PlF S { S1 with w:=W} s va ve R:=by
 refine⟨⟨h.idle.roles,h.idle.grps,h.idle.pos⟩,h.n0,h.W0,⟨Nat.le_trans h.out.size k.size,fun b hb _=>?_⟩,h.data.but ho k⟩;exact(k.block b (nl' hb h.out.size) (by simp;omega)).trans (h.out.block b hb (by simp))
structure PlE (S S1:SC)(n:Nat)(its:Nat→List (Int × Int))(gi:Nat→Option Addr)(vt vp vl:Value)(picks:List Nat)(wt:Bool)(bump most:Int)(s sb bx ao rb lb:Nat)(va ve:Value)(R:PlR):Prop where
 f:PlF S S1 s va ve R
 sb:Cel S1.w sb [ptr s] 34
 bx:Cel S1.w bx [.int .i64 bump,vt,vp,.int .i64 most,.bool wt] 25
 rb:Blk S1.w rb [.slice none 0 0,.slice none 0 0,.int .i64 0] 30
 ao:Blk S1.w ao [.slice none 0 0,.slice none 0 0,.int .i64 0] 30
 lb:Lent lb S1.w vl picks
def plP27 (S:SC)(n:Nat)(its:Nat→List (Int × Int))(gi:Nat→Option Addr)(vt vp vl:Value)(picks:List Nat)(wt:Bool)(bump most:Int)(s sb bx ao rb lb:Nat)(S1:SC)(ag:Value)(e:Int):Prop :=
 ∃ ga na ca ge ne ce,ag=.agg #[.slice ga na ca,.slice ge ne ce,.int .i64 ((playR n its picks most wt bump).used:Nat)]∧e=(playR n its picks most wt bump).code∧PlE S S1 n its gi vt vp vl picks wt bump most s sb bx ao rb lb (.slice ga na ca) (.slice ge ne ce) (playR n its picks most wt bump)
def plP28 (n:Nat)(rows:List Value)(s N3:Nat)(w3:World)(vf:Value)(w4:World):Prop:=∃ bs,RepF w4 vf (bs.map bodV)∧bs.length=n∧MadeF s N3 rows bs (fp vf) w4∧Kp [] w3 w4
theorem PlW.toE {S S4 S1:SC}{n:Nat}{its:Nat→List (Int × Int)}{gi:Nat→Option Addr}{ci:Nat→Nat}{bs:List (Nat × Nat)}{vt vp vl va ve:Value}{picks:List Nat}{wt:Bool}{bump most:Int}{s sb bx ao rb lb N3:Nat}{R:PlR}
  (W:PlW S4 S1 n its gi ci bs vt vp picks wt bump most S.w.heap.size s sb bx va ve R) (hn0:S4.n0=S.n0) (hW0:S4.W0=S.W0) (k:Kp [] S.w S4.w) (hIB:∀ b,IBof n its gi b→b<S.w.heap.size) (h3:N3≤S4.w.heap.size) (hmade:∀ i,i<n→N3≤ibOf bs i∧N3≤sxOf bs i)
  (hs:S.w.heap.size≤s∧s<N3) (hsb:S.w.heap.size≤sb∧sb<N3∧sb≠s) (hbx:S.w.heap.size≤bx∧bx<N3∧bx≠s) (hao:S.w.heap.size≤ao∧ao<N3∧ao≠s∧ao≠sb∧ao≠bx) (hrb:S.w.heap.size≤rb∧rb<N3∧rb≠s∧rb≠sb∧rb≠bx) (hlb:S.w.heap.size≤lb∧lb<N3∧lb≠s∧lb≠sb∧lb≠bx)
  (csb:Cel S4.w sb [ptr s] 34) (cbx:Cel S4.w bx [.int .i64 bump,vt,vp,.int .i64 most,.bool wt] 25) (brb:Blk S4.w rb [.slice none 0 0,.slice none 0 0,.int .i64 0] 30) (bao:Blk S4.w ao [.slice none 0 0,.slice none 0 0,.int .i64 0] 30) (hl:Lent lb S4.w vl picks) :
  PlE S S1 n its gi vt vp vl picks wt bump most s sb bx ao rb lb va ve R:=by
 have hk:∀ b,b<N3→¬IBof n its gi b→b≠s→(wt=true→b≠sb∧b≠bx)→S1.w.heap[b]?=S4.w.heap[b]?:=fun b hb hi h1 h2=>W.block b (by omega) fun h=>by
  rcases h with h | h | ⟨i,hin,h⟩ | ⟨hw,h⟩
  ·exact h1 h
  ·exact hi h
  ·have:=hmade i hin;omega
  ·have:=h2 hw;omega
 have hn:∀ b,S.w.heap.size≤b→¬IBof n its gi b:=fun b hb h=>by have:=hIB b h;omega
 refine⟨⟨W.idle,W.n0.trans hn0,W.W0.trans hW0,⟨Nat.le_trans k.size W.size,fun b hb _=>?_⟩,W.data⟩,?_,?_,(hk rb hrb.2.1 (hn _ hrb.1) hrb.2.2.1 fun _=>hrb.2.2.2).trans brb,(hk ao hao.2.1 (hn _ hao.1) hao.2.2.1 fun _=>hao.2.2.2).trans bao,hl.same (hk lb hlb.2.1 (hn _ hlb.1) hlb.2.2.1 fun _=>hlb.2.2.2)⟩
 ·by_cases hi:IBof n its gi b
  ·exact(W.keep b hi).trans (k.block b hb (by simp))
  ·exact(hk b (by omega) hi (by omega) fun _=>by omega).trans (k.block b hb (by simp))
 ·cases wt with
  | true=>exact(W.behs rfl).1
  | false=>exact csb.same (hk sb hsb.2.1 (hn _ hsb.1) hsb.2.2 fun h=>by cases h)
 ·cases wt with
  | true=>exact(W.behs rfl).2
  | false=>exact cbx.same (hk bx hbx.2.1 (hn _ hbx.1) hbx.2.2 fun h=>by cases h)
section
variable {Post:Value→World→Prop}{S:SC}{cl:Frame}{cs:List Frame}{n:Nat}{its:Nat→List (Int × Int)}{gi:Nat→Option Addr}{ci:Nat→Nat}{vt vp vl:Value}{picks:List Nat}{most bump:Int}{wt:Bool}{s sb bx ao rb lb:Nat}{va ve:Value}{w3:World}
theorem played_end {S1:SC}{x:Nat→Value}{ga ge:Option Addr}{na ca ne ce:Nat}(hcl:cl.mode=.run)(hrs:rb≠sb)(hrx:rb≠bx)(hra:rb≠ao)(has:ao≠sb)(hax:ao≠bx)(hal:lb≠rb)(hN:S.w.heap.size≤rb∧S.w.heap.size≤ao)(A:PlA S.w n its gi ci vt vp picks)
  (E:PlE S S1 n its gi vt vp vl picks wt bump most s sb bx ao rb lb (.slice ga na ca) (.slice ge ne ce) (playR n its picks most wt bump))
  (hnext:∀ S' ga na ca ge ne ce,Idle S'→S'.n0=S.n0→S'.W0=S.W0→Kp [] S.w S'.w→PlA S'.w n its gi ci vt vp picks→PlD S.w.heap.size S'.w s (.slice ga na ca) (.slice ge ne ce) (playR n its picks most wt bump) →
   Sound Try.prog link.tWg Post 0 S' (gs (cl.finish (.tuple #[ptr s,.agg #[.slice ga na ca,.slice ge ne ce,.int .i64 ((playR n its picks most wt bump).used:Nat)],.int .i64 (playR n its picks most wt bump).code,.bool true])) cs)) :
  Sound Try.prog link.tWg Post 0 { S1 with w:=set3 S1.w rb (.slice ga na ca) (.slice ge ne ce) (.int .i64 ((playR n its picks most wt bump).used:Nat))} (gs ((base 9).at ⟨p8Tm x (playR n its picks most wt bump).code vl bx ao sb rb,[]⟩ [.code (sR (sR (sR (sR (sR (sR c9))))))]) (cl::cs)):=by
 have kr:Kp [rb] S1.w (set3 S1.w rb (.slice ga na ca) (.slice ge ne ce) (.int .i64 ((playR n its picks most wt bump).used:Nat))):=⟨Nat.le_of_eq set3_size.symm,fun b _ hb=>set3_frame (by simpa using hb)⟩;have F1:=E.f.kp (Blk.cel E.rb) kr hN.1;have brb:Blk (set3 S1.w rb (.slice ga na ca) (.slice ge ne ce) (.int .i64 ((playR n its picks most wt bump).used:Nat))) rb [.slice ga na ca,.slice ge ne ce,.int .i64 ((playR n its picks most wt bump).used:Nat)] 30:=set3_blk E.rb;have csb:=kr.cel E.sb (by simpa using hrs.symm);have cbx:=kr.cel E.bx (by simpa using hrx.symm);have bao:=kr.blk E.ao (by simpa using hra.symm);have hl:=E.lb.same (set3_frame (v0:=.slice ga na ca) (v1:=.slice ge ne ce) (v2:=.int .i64 ((playR n its picks most wt bump).used:Nat)) hal);generalize set3 S1.w rb (.slice ga na ca) (.slice ge ne ce) (.int .i64 ((playR n its picks most wt bump).used:Nat))=w5 at kr F1 brb csb cbx bao hl ⊢;have A5:PlA w5 n its gi ci vt vp picks:=A.kp F1.out (by simp);obtain⟨pb,_,hpk⟩:=A5.pk;refine p8_runs (S0:={S1 with w:=w5}) (bump:=bump) (most:=most) (vt:=vt) (vp:=vp) (wt:=wt) hcl csb cbx (Blk.cel brb) bao has hax hra.symm hl hpk.rd A5.pkl fun w6 k6=>?_;have F6:=F1.kp (Blk.cel bao) k6 hN.2;exact hnext _ _ _ _ _ _ _ F6.idle F6.n0 F6.W0 F6.out (A.kp F6.out (by simp)) F6.data
theorem played_runs (hid:Idle S)(hcl:cl.mode=.run)(A:PlA S.w n its gi ci vt vp picks)
  (hnext:∀ S' s ga na ca ge ne ce,Idle S'→S'.n0=S.n0→S'.W0=S.W0→Kp [] S.w S'.w→PlA S'.w n its gi ci vt vp picks→PlD S.w.heap.size S'.w s (.slice ga na ca) (.slice ge ne ce) (playR n its picks most wt bump) →
   Sound Try.prog link.tWg Post 0 S' (gs (cl.finish (.tuple #[ptr s,.agg #[.slice ga na ca,.slice ge ne ce,.int .i64 ((playR n its picks most wt bump).used:Nat)],.int .i64 (playR n its picks most wt bump).code,.bool true])) cs)) :
  Sound Try.prog link.tWg Post 0 S (gs (Frame.enter Try.prog 9 #[.agg #[.int .i64 bump,vt,vp,.int .i64 most,.bool wt]] .normal) (cl::cs)):=by
 obtain⟨gt,ct,e1⟩:=A.thr.slice;obtain⟨pb,hpb2,hpk⟩:=A.pk;obtain⟨gp,cp,e2,_⟩:=id hpk;have hK:=clS (Post:=Post) S;refine ks (S:=S) (played_enter hK.det e1 e2 fun bx ao s sb w1 q1 q2 q3 q4 k1 bbx bao bs bsb=>?_) rfl;have A1:=A.kp k1 (by simp);refine hK.call fits shut (f:=26) rfl (R:=fun v w'=>∃ b,Lent b w' v picks∧w1.heap.size≤b∧Kp [] w1 w') (fun v w' τ d ⟨b,h1,h2,h3⟩=>⟨b,h1.same rfl,h2,⟨h3.size,h3.block⟩⟩) (fun τ d=>?_) ?_
 ·obtain⟨pb',_,hpk'⟩:=A1.pk
  have hu:∀ u∈picks,u<256:=by obtain⟨_,_,_,_,_,q,_⟩:=hpk';exact q
  refine(lent_calls (Lift.re w1 τ d) vp picks (hpk'.same rfl).rd hu A.pkl).mono fun e w' ⟨b,vl,h1,h2,h3,h4⟩=>⟨vl,h1,b,h2,h3,⟨(Keeps.kp h4).size,(Keeps.kp h4).block⟩⟩
 ·rintro vl w2 ⟨lb,hl2,hlb,k2⟩
  refine played_mid hK.det (k2.blk bbx (by simp)) fun rb w3 hrb k3 brb=>?_;have k13:Kp [] w1 w3:=k2.trans k3;have k03:Kp [] S.w w3:=k1.trans k13;have A3:=A.kp k03 (by simp);have l1:bx<w1.heap.size:=bbx.lt;have l2:sb<w1.heap.size:=bsb.lt;have l3:lb<w2.heap.size:=by
   obtain⟨c,rfl,_,_,_,_,h5⟩:=hl2;exact cell_lt (h5 picks.length (Nat.le_refl _) (by omega))
  have l4:rb<w3.heap.size:=brb.lt;have l5:=k2.size;have l6:=k3.size;have l7:=k1.size;have csb:Cel w3 sb [ptr s] 34:=Blk.cel (k13.blk bsb (by simp));have cbx:Cel w3 bx [.int .i64 bump,vt,vp,.int .i64 most,.bool wt] 25:=Blk.cel (k13.blk bbx (by simp));have bs3:=k13.blk bs (by simp);have bao3:=k13.blk bao (by simp);have hl3:Lent lb w3 vl picks:=hl2.same (k3.block lb l3 (by simp));have hrl:((List.range n).map fun i=>Value.slice (gi i) (its i).length (ci i)).length=n:=by simp
  have h28:∀ τ d,Calls Try.prog 28 #[ptr s,vt] (Lift.re w3 τ d) fun e w'=>∃ v,e=.returned v∧plP28 n ((List.range n).map fun i=>.slice (gi i) (its i).length (ci i)) s w3.heap.size w3 v w':=fun τ d=>by
   refine(bodies_calls (Lift.re w3 τ d) s vt _ A3.thr (fun v hv=>?_) (by rw[hrl];have:=A.n40;omega)).mono fun e w' ⟨vf,bs,h1,h2,h3,h4,h5,h6⟩=>⟨vf,h1,bs,h2,h3.trans hrl,h4,⟨(Keeps.kp h6).size,(Keeps.kp h6).block⟩⟩;obtain⟨i,_,rfl⟩:=List.mem_map.1 hv;exact⟨_,_,_,rfl⟩
  have hP28:∀ v w τ d,plP28 n ((List.range n).map fun i=>.slice (gi i) (its i).length (ci i)) s w3.heap.size w3 v w→plP28 n ((List.range n).map fun i=>.slice (gi i) (its i).length (ci i)) s w3.heap.size w3 v (Lift.re w τ d):=fun v w τ d ⟨bs,h1,h2,h3,h4⟩=>⟨bs,h1,h2,h3,⟨h4.size,h4.block⟩⟩;have hB:∀ vf w4,plP28 n ((List.range n).map fun i=>.slice (gi i) (its i).length (ci i)) s w3.heap.size w3 vf w4→Cel w4 sb [ptr s] 34∧Cel w4 bx [.int .i64 bump,vt,vp,.int .i64 most,.bool wt] 25:=fun vf w4 ⟨_,_,_,_,k⟩=>⟨k.cel csb (by simp),k.cel cbx (by simp)⟩;have hC:∀ S1 ag e,plP27 S n its gi vt vp vl picks wt bump most s sb bx ao rb lb S1 ag e→Cel S1.w sb [ptr s] 34∧Cel S1.w bx [.int .i64 bump,vt,vp,.int .i64 most,.bool wt] 25∧Blk S1.w rb [.slice none 0 0,.slice none 0 0,.int .i64 0] 30:=fun S1 ag e ⟨_,_,_,_,_,_,_,_,E⟩=>⟨E.sb,E.bx,E.rb⟩;have core:∀ (bh:Value) (cl:Frame) (cs':List Frame) (w4:World) (vf:Value),cl.mode=.run→(∃ bs,RepF w4 vf (bs.map bodV)∧bs.length=n∧MadeF s w3.heap.size ((List.range n).map fun i=>.slice (gi i) (its i).length (ci i)) bs (fp vf) w4∧Kp [] w3 w4)→((wt=false∧bh=.nilFunc)∨(wt=true∧bh=.func (.func 29) #[] #[ptr sb,ptr bx])) →
    (∀ S1 ga na ca ge ne ce,(∀ b cs,S.w.heap.size≤b→Cel w4 b cs 30→S1.w.heap[b]?=w4.heap[b]?)→PlE S S1 n its gi vt vp vl picks wt bump most s sb bx ao rb lb (.slice ga na ca) (.slice ge ne ce) (playR n its picks most wt bump)→Sound Try.prog link.tWg Post 0 S1 (gs (cl.finish (.tuple #[.agg #[.slice ga na ca,.slice ge ne ce,.int .i64 ((playR n its picks most wt bump).used:Nat)],.int .i64 (playR n its picks most wt bump).code])) cs')) →
    Sound Try.prog link.tWg Post 0 { S with w:=w4} (gs (Frame.enter Try.prog 27 #[vf,vl,.int .i64 most,bh] .normal) (cl::cs')):=fun bh cl cs' w4 vf hcl hp hbh hn=>by
   obtain⟨bs',h1,h2,h3,k4⟩:=hp;have csb4:=k4.cel csb (by simp);have cbx4:=k4.cel cbx (by simp);have hl4:Lent lb w4 vl picks:=hl3.same (k4.block lb (by omega) (by simp));have hmk:∀ i,i<n→w3.heap.size≤ibOf bs' i∧w3.heap.size≤sxOf bs' i∧Cel w4 (ibOf bs' i) [.slice (gi i) (its i).length (ci i)] 51∧Cel w4 (sxOf bs' i) [ptr s] 34:=fun i hi=>by
    obtain⟨q1,q2,_,_,v,q3,q4,q5⟩:=h3 i _ _ (ibOf_get h2 hi);rw[List.getElem?_map,List.getElem?_range hi] at q3;cases q3;exact⟨q1,q2,q4,q5⟩
   refine watch_play (S4:={S with w:=w4}) (N:=S.w.heap.size) (N3:=w3.heap.size) (s:=s) (sb:=sb) (bx:=bx) (lb:=lb) (bs:=bs') (vt:=vt) (vp:=vp) (bump:=bump) (wt:=wt) ⟨hid.roles,hid.grps,hid.pos⟩ hcl (A3.kp k4 (by simp)) A.low (by omega) (by omega) ⟨by omega,by omega,by omega⟩ ⟨by omega,by omega,by omega⟩ ⟨by omega,by omega,by omega,by omega,by omega⟩ k4.size h1 h2 h3 (k4.blk bs3 (by simp)) hl4 ?_ fun S1 ga na ca ge ne ce W=>?_
   ·rcases hbh with⟨p1,p2⟩ | ⟨p1,p2⟩
    ·exact .inl ⟨p1,p2⟩
    ·exact .inr ⟨p1,p2,csb4,cbx4⟩
   ·refine hn S1 ga na ca ge ne ce (fun b cs hbb hc=>W.block b hc.lt fun h=>?_) (W.toE (N3:=w3.heap.size) rfl rfl (k03.trans k4) A.low k4.size (fun i hi=>⟨(hmk i hi).1,(hmk i hi).2.1⟩) ⟨by omega,by omega⟩ ⟨by omega,by omega,by omega⟩ ⟨by omega,by omega,by omega⟩ ⟨by omega,by omega,by omega,by omega,by omega⟩ ⟨by omega,by omega,by omega,by omega,by omega⟩ ⟨by omega,by omega,by omega,by omega,by omega⟩ csb4 cbx4 (k4.blk brb (by simp)) (k4.blk bao3 (by simp)) hl4)
    rcases h with h | ⟨i,o,hi,hne,hg⟩ | ⟨i,hi,h | h⟩ | ⟨_,h | h⟩
    ·subst h;exact cel_ne hc (Blk.cel (k4.blk bs3 (by simp))) (by decide) rfl
    ·have:=A.low b ⟨i,o,hi,hne,hg⟩
     omega
    ·subst h;exact cel_ne hc (hmk i hi).2.2.1 (by decide) rfl
    ·subst h;exact cel_ne hc (hmk i hi).2.2.2 (by decide) rfl
    ·subst h;exact cel_ne hc csb4 (by decide) rfl
    ·subst h;exact cel_ne hc cbx4 (by decide) rfl
  have hrs:rb≠sb:=by omega
  have hrx:rb≠bx:=by omega
  have hra:rb≠ao:=by omega
  have fin:∀ (x:Nat→Value) S1 ga na ca ge ne ce u e,plP27 S n its gi vt vp vl picks wt bump most s sb bx ao rb lb S1 (.agg #[.slice ga na ca,.slice ge ne ce,.int .i64 u]) e→Sound Try.prog link.tWg Post 0 { S1 with w:=set3 S1.w rb (.slice ga na ca) (.slice ge ne ce) (.int .i64 u)} (gs ((base 9).at ⟨p8Tm x e vl bx ao sb rb,[]⟩ [.code (sR (sR (sR (sR (sR (sR c9))))))]) (cl::cs)):=fun x S1 ga na ca ge ne ce u e hp=>by
   obtain⟨ga',na',ca',ge',ne',ce',h1,h2,E⟩:=hp;simp only[Value.agg.injEq,Array.mk.injEq,List.cons.injEq,Value.slice.injEq,Value.int.injEq,and_true,true_and] at h1;obtain⟨⟨rfl,rfl,rfl⟩,⟨rfl,rfl,rfl⟩,rfl⟩:=h1;subst h2;exact played_end hcl hrs hrx hra (by omega) (by omega) (by omega) ⟨by omega,by omega⟩ A E fun S' ga na ca ge ne ce i1 i2 i3 i4 i5 i6=>hnext S' s ga na ca ge ne ce i1 i2 i3 i4 i5 i6
  show Sound Try.prog link.tWg Post 0 { S with w:=w3} _;cases wt with
  | true =>
   rw[if_pos rfl];refine p6_runs (S0:={S with w:=w3}) _ (plP27 S n its gi vt vp vl picks true bump most s sb bx ao rb lb) ⟨csb,cbx⟩ hB hC hrs hrx hP28 h28 (fun cl' cs' hcl' vf w4 hp hn=>core _ cl' cs' w4 vf hcl' hp (.inr ⟨rfl,rfl⟩) fun S1 ga na ca ge ne ce _ E=>hn S1 ga na ca ge ne ce _ _ ⟨_,_,_,_,_,_,rfl,rfl,E⟩) fun vf S1 ga na ca ge ne ce u e hp=>?_;exact fin (fun i=>(p6fin bump vt vp most true bx ao s sb vl rb vf (.agg #[.slice ga na ca,.slice ge ne ce,.int .i64 u]) (.int .i64 e)).getD i undef) S1 ga na ca ge ne ce u e hp
  | false =>
   rw[if_neg (by decide)];refine p7_runs (S0:={S with w:=w3}) _ (plP27 S n its gi vt vp vl picks false bump most s sb bx ao rb lb) ⟨csb,cbx⟩ hB hC hrs hrx hP28 h28 (fun cl' cs' hcl' vf w4 hp hn=>?_) fun vf S1 ga na ca ge ne ce u e hp=>?_
   ·have hK4:=clS (Post:=Post) ({S with w:=w4})
    refine ks (S:={S with w:=w4}) (run_enter hK4.det ?_) rfl;obtain⟨bs',h1,h2,h3,k4⟩:=hp;have ka:=Kp.alloc [] w4 (.cells #[.slice none 0 0,.slice none 0 0,.int .i64 0] 30);have bo:Blk (w4.alloc (.cells #[.slice none 0 0,.slice none 0 0,.int .i64 0] 30)) w4.heap.size [.slice none 0 0,.slice none 0 0,.int .i64 0] 30:=Blk.new w4 [.slice none 0 0,.slice none 0 0,.int .i64 0] 30;have hz:=k4.size;generalize w4.alloc (.cells #[.slice none 0 0,.slice none 0 0,.int .i64 0] 30)=w5 at ka bo ⊢;generalize w4.heap.size=ob at bo hz ⊢;refine core .nilFunc (runC vf vl most ob) (cl'::cs') w5 vf rfl ⟨bs',rep_same h1 ka.size fun b hb=>ka.block b (h1.fp_lt b hb) (by simp),h2,fun i x y hxy=>?_,k4.trans ka⟩ (.inl ⟨rfl,rfl⟩) fun S1 ga na ca ge ne ce hk30 E=>?_
    ·obtain⟨i1,i2,i3,i4,v,i5,i6,i7⟩:=h3 i x y hxy
     exact⟨i1,i2,i3,i4,v,i5,ka.cel i6 (by simp),ka.cel i7 (by simp)⟩
    ·have bo1:Blk S1.w ob _ 30:=(hk30 ob _ (by omega) (Blk.cel bo)).trans bo
     have hK1:=clS (Post:=Post) S1;refine ks (S:=S1) (run_back hK1.det hcl' bo1 fun w6 k6 z6=>?_) rfl;have kk:Kp [ob] S1.w w6:=⟨Nat.le_of_eq z6.symm,fun b _ hb=>k6 b (by simpa using hb)⟩;exact hn { S1 with w:=w6} ga na ca ge ne ce _ _ ⟨_,_,_,_,_,_,rfl,rfl,E.f.kp (Blk.cel bo1) kk (by omega),E.sb.same (k6 sb (by omega)),E.bx.same (k6 bx (by omega)),(k6 rb (by omega)).trans E.rb,(k6 ao (by omega)).trans E.ao,E.lb.same (k6 lb (by omega))⟩
   ·exact fin (fun i=>(p7fin bump vt vp most false bx ao s sb vl rb vf (.agg #[.slice ga na ca,.slice ge ne ce,.int .i64 u]) (.int .i64 e)).getD i undef) S1 ga na ca ge ne ce u e hp
end
theorem pu_b53 {a:Act}{oo:Oper}{w:World}{c:Int}(h:oo.op=.build 53 #[(0,.const (.int .i64 c))]):(execOp a.eval oo).run Try.prog w=.ok (.value (.agg #[.int .i64 c,.int .i64 0])) w:=by
 unfold execOp;rw[h];exact run_vv (by simp[go_sem,Act.eval,Try.underlying53,Try.runUnderlying53,Try.sizeOf53,Try.zeroValue53])
theorem x_bs51 {a:Act}{oo:Oper}{w:World}{x y z:Operand}{p0 p1 q0 q1 r0 r1:Value}(h:oo.op=.buildSlice 51 3 #[(0,x),(1,y),(2,z)])(hx:a.eval x=.agg #[p0,p1])(hy:a.eval y=.agg #[q0,q1])(hz:a.eval z=.agg #[r0,r1]) :
  (execOp a.eval oo).run Try.prog w=.ok (.value (.slice (some ⟨w.heap.size,0,none⟩) 3 3)) (w.alloc (.cells #[p0,p1,q0,q1,r0,r1] 53)):=by
 unfold execOp;rw[h];generalize a.eval=ρ at hx hy hz ⊢;simp only[Array.map_map,List.map_toArray,List.map,Function.comp,hx,hy,hz];exact run_vv (by simp[go_sem,Try.underlying51,Try.runUnderlying51,Try.sizeOf53,Try.isAgg53,Try.zeroValue53])
theorem x_bs22 {a:Act}{oo:Oper}{w:World}{x y:Operand}{g1 g2:Option Addr}{n1 c1 n2 c2:Nat}(h:oo.op=.buildSlice 22 2 #[(0,x),(1,y)])(hx:a.eval x=.slice g1 n1 c1)(hy:a.eval y=.slice g2 n2 c2) :
  (execOp a.eval oo).run Try.prog w=.ok (.value (.slice (some ⟨w.heap.size,0,none⟩) 2 2)) (w.alloc (.cells #[.slice g1 n1 c1,.slice g2 n2 c2] 51)):=by
 unfold execOp;rw[h];generalize a.eval=ρ at hx hy ⊢;simp only[Array.map_map,List.map_toArray,List.map,Function.comp,hx,hy];exact run_vv (by simp[go_sem,Try.underlying22,Try.runUnderlying22,Try.sizeOf51,Try.isAgg51,Try.zeroValue51])
theorem pu_b25 {a:Act}{oo:Oper}{w:World}{x:Operand}{g:Option Addr}{n c:Nat}{m:Int}(h:oo.op=.build 25 #[(1,x),(3,.const (.int .i64 m))])(hx:a.eval x=.slice g n c):(execOp a.eval oo).run Try.prog w=.ok (.value (.agg #[.int .i64 0,.slice g n c,.slice none 0 0,.int .i64 m,.bool false])) w:=by
 unfold execOp;rw[h];have hc:a.eval (.const (.int .i64 m))=.int .i64 m:=rfl;generalize a.eval=ρ at hx hc ⊢;simp only[Array.map_map,List.map_toArray,List.map,Function.comp,hx,hc];exact run_vv (by simp[go_sem,Try.underlying25,Try.runUnderlying25,Try.sizeOf25,Try.zeroValue25])
section
variable {K:Goroutine→World→Prop}{m:Bool}{w:World}{cs:List Frame}{cl:Frame}
theorem enter12:Frame.enter Try.prog 12 #[] .normal=(base 12).at ⟨#[undef,undef,undef,undef,undef,undef,undef,undef,undef,undef,undef,undef,undef,undef,undef,undef,undef,undef,undef,undef,undef,undef,undef,undef,undef,undef,undef,undef,undef,undef,undef,undef,undef,undef,undef,undef,undef,undef,undef,undef,undef,undef,undef],[]⟩ [.code c12]:=enter_lit Try.func12 rfl rfl
def livesC (i1 i2 ab tb:Nat):Frame:=(base 12).at ⟨#[.bool false,ptr i1,ptr i2,.slice (some ⟨ab,0,none⟩) 3 3,undef,undef,undef,undef,.agg #[.int .i64 5,.int .i64 0],.agg #[.int .i64 1,.int .i64 0],.agg #[.int .i64 5,.int .i64 0],.agg #[.int .i64 1,.int .i64 0],.agg #[.int .i64 5,.int .i64 0],.slice (some ⟨ab,0,none⟩) 3 3,undef,.slice (some ⟨ab,0,none⟩) 3 3,.slice (some ⟨ab,0,none⟩) 3 3,.slice (some ⟨tb,0,none⟩) 2 2,.agg #[.int .i64 0,.slice (some ⟨tb,0,none⟩) 2 2,.slice none 0 0,.int .i64 9,.bool false],undef,undef,undef,undef,undef,undef,undef,undef,undef,undef,undef,undef,undef,undef,undef,undef,undef,undef,undef,undef,undef,undef,undef,undef],[]⟩ [.inRegion (sO (sL (sR (sR (sR (sR c12)))))) [4,5,6,7,8,9,10,11,12,13,14],.code (sR (sR (sR (sR (sR c12)))))]
theorem lives_enter (hD:Det Try.prog m fun _=>K)(h:∀ i1 i2 ab tb w',w.heap.size≤ab→ab<tb→Kp [] w w'→Blk w' ab [.int .i64 5,.int .i64 0,.int .i64 1,.int .i64 0,.int .i64 5,.int .i64 0] 53→Blk w' tb [.slice (some ⟨ab,0,none⟩) 3 3,.slice (some ⟨ab,0,none⟩) 3 3] 51→K (gs (Frame.enter Try.prog 9 #[.agg #[.int .i64 0,.slice (some ⟨tb,0,none⟩) 2 2,.slice none 0 0,.int .i64 9,.bool false]] .normal) (livesC i1 i2 ab tb::cs)) w'):K (gs (Frame.enter Try.prog 12 #[] .normal) cs) w:=by
 rw[enter12];have hk:(base 12).kind≠.early:=nofun;refine hD.s0 ?_;refine hD.r0 ?_;refine hD.as (.bool false) hk ?_;refine norm0 (a':=⟨#[.bool false,undef,undef,undef,undef,undef,undef,undef,undef,undef,undef,undef,undef,undef,undef,undef,undef,undef,undef,undef,undef,undef,undef,undef,undef,undef,undef,undef,undef,undef,undef,undef,undef,undef,undef,undef,undef,undef,undef,undef,undef,undef,undef],[]⟩) ?_;refine hD.e0 ?_;refine hD.s0 ?_;refine hD.r0 ?_;refine hD.pu (.agg #[.int .i64 5,.int .i64 0]) hk (fun w=>pu_b53 rfl) ?_;refine norm0 (a':=⟨#[.bool false,undef,undef,undef,undef,undef,undef,undef,.agg #[.int .i64 5,.int .i64 0],undef,undef,undef,undef,undef,undef,undef,undef,undef,undef,undef,undef,undef,undef,undef,undef,undef,undef,undef,undef,undef,undef,undef,undef,undef,undef,undef,undef,undef,undef,undef,undef,undef,undef],[]⟩) ?_;have ki1:=Kp.alloc [] w (.cells #[.int .i64 0,.int .i64 0] 53);have bi1:Blk (w.alloc (.cells #[.int .i64 0,.int .i64 0] 53)) w.heap.size [.int .i64 0,.int .i64 0] 53:=Blk.new _ _ _;have zi1:(w.alloc (.cells #[.int .i64 0,.int .i64 0] 53)).heap.size=w.heap.size+1:=wz' _ _;refine hD.alloc (n:=0) hk rfl ⟨rfl,rfl,rfl,(by decide +kernel),nofun⟩ al53 ?_;obtain⟨i1,hi1⟩:∃ x,x=w.heap.size:=⟨_,rfl⟩;rw[← hi1] at bi1 ⊢;generalize w.alloc (.cells #[.int .i64 0,.int .i64 0] 53)=w1 at ki1 bi1 zi1 ⊢;refine norm0 (a':=⟨#[.bool false,ptr i1,undef,undef,undef,undef,undef,undef,.agg #[.int .i64 5,.int .i64 0],undef,undef,undef,undef,undef,undef,undef,undef,undef,undef,undef,undef,undef,undef,undef,undef,undef,undef,undef,undef,undef,undef,undef,undef,undef,undef,undef,undef,undef,undef,undef,undef,undef,undef],[]⟩) ?_;refine hD.store (n:=0) (u:=(ptr i1)) (z:=(.agg #[.int .i64 5,.int .i64 0])) hk rfl ⟨rfl,rfl,rfl,rfl,nofun⟩ rfl rfl (fun τ d=>((st53 (w:=re w1 τ d) bi1).trans (congrArg (Result.ok ()) re_set2))) (Nat.le_of_eq set2_size.symm) ?_;have kw2:Kp [i1] w1 (set2 w1 i1 (.int .i64 5) (.int .i64 0)):=⟨Nat.le_of_eq set2_size.symm,fun b _ hn=>set2_frame (by simpa using hn)⟩;have bw2:Blk (set2 w1 i1 (.int .i64 5) (.int .i64 0)) i1 [.int .i64 5,.int .i64 0] 53:=set2_blk bi1;have zw2:(set2 w1 i1 (.int .i64 5) (.int .i64 0)).heap.size=w1.heap.size:=set2_size;generalize set2 w1 i1 (.int .i64 5) (.int .i64 0)=w2 at kw2 bw2 zw2 ⊢;refine hD.e0 ?_;refine hD.s0 ?_;refine hD.r0 ?_;refine hD.pu (.agg #[.int .i64 1,.int .i64 0]) hk (fun w=>pu_b53 rfl) ?_;refine norm0 (a':=⟨#[.bool false,ptr i1,undef,undef,undef,undef,undef,undef,.agg #[.int .i64 5,.int .i64 0],.agg #[.int .i64 1,.int .i64 0],undef,undef,undef,undef,undef,undef,undef,undef,undef,undef,undef,undef,undef,undef,undef,undef,undef,undef,undef,undef,undef,undef,undef,undef,undef,undef,undef,undef,undef,undef,undef,undef,undef],[]⟩) ?_;have ki2:=Kp.alloc [] w2 (.cells #[.int .i64 0,.int .i64 0] 53);have bi2:Blk (w2.alloc (.cells #[.int .i64 0,.int .i64 0] 53)) w2.heap.size [.int .i64 0,.int .i64 0] 53:=Blk.new _ _ _;have zi2:(w2.alloc (.cells #[.int .i64 0,.int .i64 0] 53)).heap.size=w2.heap.size+1:=wz' _ _
 refine hD.alloc (n:=0) hk rfl ⟨rfl,rfl,rfl,(by decide +kernel),nofun⟩ al53 ?_;obtain⟨i2,hi2⟩:∃ x,x=w2.heap.size:=⟨_,rfl⟩;rw[← hi2] at bi2 ⊢;generalize w2.alloc (.cells #[.int .i64 0,.int .i64 0] 53)=w3 at ki2 bi2 zi2 ⊢;refine norm0 (a':=⟨#[.bool false,ptr i1,ptr i2,undef,undef,undef,undef,undef,.agg #[.int .i64 5,.int .i64 0],.agg #[.int .i64 1,.int .i64 0],undef,undef,undef,undef,undef,undef,undef,undef,undef,undef,undef,undef,undef,undef,undef,undef,undef,undef,undef,undef,undef,undef,undef,undef,undef,undef,undef,undef,undef,undef,undef,undef,undef],[]⟩) ?_;refine hD.store (n:=0) (u:=(ptr i2)) (z:=(.agg #[.int .i64 1,.int .i64 0])) hk rfl ⟨rfl,rfl,rfl,rfl,nofun⟩ rfl rfl (fun τ d=>((st53 (w:=re w3 τ d) bi2).trans (congrArg (Result.ok ()) re_set2))) (Nat.le_of_eq set2_size.symm) ?_;have kw4:Kp [i2] w3 (set2 w3 i2 (.int .i64 1) (.int .i64 0)):=⟨Nat.le_of_eq set2_size.symm,fun b _ hn=>set2_frame (by simpa using hn)⟩;have bw4:Blk (set2 w3 i2 (.int .i64 1) (.int .i64 0)) i2 [.int .i64 1,.int .i64 0] 53:=set2_blk bi2;have zw4:(set2 w3 i2 (.int .i64 1) (.int .i64 0)).heap.size=w3.heap.size:=set2_size;generalize set2 w3 i2 (.int .i64 1) (.int .i64 0)=w4 at kw4 bw4 zw4 ⊢;refine hD.e0 ?_;have bi1:Blk w4 i1 [.int .i64 5,.int .i64 0] 53:=kw4.blk (ki2.blk bw2 (by simp)) (by have:=bw2.lt;simp;omega);refine hD.s0 ?_;refine hD.r0 ?_;refine hD.ld (.agg #[.int .i64 5,.int .i64 0]) hk (fun τ d=>ld53 (bi1.cell 0) (bi1.cell 1)) ?_;refine hD.ld (.agg #[.int .i64 1,.int .i64 0]) hk (fun τ d=>ld53 (bw4.cell 0) (bw4.cell 1)) ?_;refine hD.ld (.agg #[.int .i64 5,.int .i64 0]) hk (fun τ d=>ld53 (bi1.cell 0) (bi1.cell 1)) ?_;refine norm0 (a':=⟨#[.bool false,ptr i1,ptr i2,undef,undef,undef,undef,undef,.agg #[.int .i64 5,.int .i64 0],.agg #[.int .i64 1,.int .i64 0],.agg #[.int .i64 5,.int .i64 0],.agg #[.int .i64 1,.int .i64 0],.agg #[.int .i64 5,.int .i64 0],undef,undef,undef,undef,undef,undef,undef,undef,undef,undef,undef,undef,undef,undef,undef,undef,undef,undef,undef,undef,undef,undef,undef,undef,undef,undef,undef,undef,undef,undef],[]⟩) ?_;have kab:=Kp.alloc [] w4 (.cells #[.int .i64 5,.int .i64 0,.int .i64 1,.int .i64 0,.int .i64 5,.int .i64 0] 53);have bab:Blk (w4.alloc (.cells #[.int .i64 5,.int .i64 0,.int .i64 1,.int .i64 0,.int .i64 5,.int .i64 0] 53)) w4.heap.size [.int .i64 5,.int .i64 0,.int .i64 1,.int .i64 0,.int .i64 5,.int .i64 0] 53:=Blk.new _ _ _;have zab:(w4.alloc (.cells #[.int .i64 5,.int .i64 0,.int .i64 1,.int .i64 0,.int .i64 5,.int .i64 0] 53)).heap.size=w4.heap.size+1:=wz' _ _;refine hD.opv (n:=0) (v:=.slice (some ⟨w4.heap.size,0,none⟩) 3 3) (w':=w4.alloc (.cells #[.int .i64 5,.int .i64 0,.int .i64 1,.int .i64 0,.int .i64 5,.int .i64 0] 53)) hk rfl ⟨rfl,rfl,rfl,(by decide +kernel),nofun⟩ (fun τ d=>x_bs51 rfl rfl rfl rfl) (by rw[wz'];omega) ?_;obtain⟨ab,hab⟩:∃ x,x=w4.heap.size:=⟨_,rfl⟩;rw[← hab] at bab ⊢;generalize w4.alloc (.cells #[.int .i64 5,.int .i64 0,.int .i64 1,.int .i64 0,.int .i64 5,.int .i64 0] 53)=w5 at kab bab zab ⊢;refine hD.as (.slice (some ⟨ab,0,none⟩) 3 3) hk ?_
 refine norm0 (a':=⟨#[.bool false,ptr i1,ptr i2,.slice (some ⟨ab,0,none⟩) 3 3,undef,undef,undef,undef,.agg #[.int .i64 5,.int .i64 0],.agg #[.int .i64 1,.int .i64 0],.agg #[.int .i64 5,.int .i64 0],.agg #[.int .i64 1,.int .i64 0],.agg #[.int .i64 5,.int .i64 0],.slice (some ⟨ab,0,none⟩) 3 3,undef,undef,undef,undef,undef,undef,undef,undef,undef,undef,undef,undef,undef,undef,undef,undef,undef,undef,undef,undef,undef,undef,undef,undef,undef,undef,undef,undef,undef],[]⟩) ?_;refine hD.e0 ?_;refine hD.s0 ?_;refine hD.r0 ?_;refine hD.mv (.slice (some ⟨ab,0,none⟩) 3 3) hk ?_;refine hD.mv (.slice (some ⟨ab,0,none⟩) 3 3) hk ?_;refine norm0 (a':=⟨#[.bool false,ptr i1,ptr i2,.slice (some ⟨ab,0,none⟩) 3 3,undef,undef,undef,undef,.agg #[.int .i64 5,.int .i64 0],.agg #[.int .i64 1,.int .i64 0],.agg #[.int .i64 5,.int .i64 0],.agg #[.int .i64 1,.int .i64 0],.agg #[.int .i64 5,.int .i64 0],.slice (some ⟨ab,0,none⟩) 3 3,undef,.slice (some ⟨ab,0,none⟩) 3 3,.slice (some ⟨ab,0,none⟩) 3 3,undef,undef,undef,undef,undef,undef,undef,undef,undef,undef,undef,undef,undef,undef,undef,undef,undef,undef,undef,undef,undef,undef,undef,undef,undef,undef],[]⟩) ?_;have ktb:=Kp.alloc [] w5 (.cells #[.slice (some ⟨ab,0,none⟩) 3 3,.slice (some ⟨ab,0,none⟩) 3 3] 51);have btb:Blk (w5.alloc (.cells #[.slice (some ⟨ab,0,none⟩) 3 3,.slice (some ⟨ab,0,none⟩) 3 3] 51)) w5.heap.size [.slice (some ⟨ab,0,none⟩) 3 3,.slice (some ⟨ab,0,none⟩) 3 3] 51:=Blk.new _ _ _;have ztb:(w5.alloc (.cells #[.slice (some ⟨ab,0,none⟩) 3 3,.slice (some ⟨ab,0,none⟩) 3 3] 51)).heap.size=w5.heap.size+1:=wz' _ _;refine hD.opv (n:=0) (v:=.slice (some ⟨w5.heap.size,0,none⟩) 2 2) (w':=w5.alloc (.cells #[.slice (some ⟨ab,0,none⟩) 3 3,.slice (some ⟨ab,0,none⟩) 3 3] 51)) hk rfl ⟨rfl,rfl,rfl,(by decide +kernel),nofun⟩ (fun τ d=>x_bs22 rfl rfl rfl) (by rw[wz'];omega) ?_;obtain⟨tb,htb⟩:∃ x,x=w5.heap.size:=⟨_,rfl⟩;rw[← htb] at btb ⊢;generalize w5.alloc (.cells #[.slice (some ⟨ab,0,none⟩) 3 3,.slice (some ⟨ab,0,none⟩) 3 3] 51)=w6 at ktb btb ztb ⊢;refine hD.pu (.agg #[.int .i64 0,.slice (some ⟨tb,0,none⟩) 2 2,.slice none 0 0,.int .i64 9,.bool false]) hk (fun w=>pu_b25 rfl rfl) ?_;refine norm0 (a':=⟨#[.bool false,ptr i1,ptr i2,.slice (some ⟨ab,0,none⟩) 3 3,undef,undef,undef,undef,.agg #[.int .i64 5,.int .i64 0],.agg #[.int .i64 1,.int .i64 0],.agg #[.int .i64 5,.int .i64 0],.agg #[.int .i64 1,.int .i64 0],.agg #[.int .i64 5,.int .i64 0],.slice (some ⟨ab,0,none⟩) 3 3,undef,.slice (some ⟨ab,0,none⟩) 3 3,.slice (some ⟨ab,0,none⟩) 3 3,.slice (some ⟨tb,0,none⟩) 2 2,.agg #[.int .i64 0,.slice (some ⟨tb,0,none⟩) 2 2,.slice none 0 0,.int .i64 9,.bool false],undef,undef,undef,undef,undef,undef,undef,undef,undef,undef,undef,undef,undef,undef,undef,undef,undef,undef,undef,undef,undef,undef,undef,undef],[]⟩) ?_;refine hD.cf #[.agg #[.int .i64 0,.slice (some ⟨tb,0,none⟩) 2 2,.slice none 0 0,.int .i64 9,.bool false]] hk Try.func9 ?_;refine h i1 i2 ab tb w6 (by omega) (by omega) ⟨by omega,fun b hb _=>?_⟩ (ktb.blk bab (by simp)) btb;rw[ktb.block b (by omega) (by simp),kab.block b (by omega) (by simp),kw4.block b (by omega) (by simp;omega),ki2.block b (by omega) (by simp),kw2.block b (by omega) (by simp;omega),ki1.block b hb (by simp)]
def livesTm (i1 i2 ab tb s rb:Nat)(ga:Option Addr)(na ca:Nat)(ge:Option Addr)(ne ce:Nat)(u e:Int):Array Value:=#[.bool false,ptr i1,ptr i2,.slice (some ⟨ab,0,none⟩) 3 3,ptr s,ptr rb,.int .i64 e,.bool true,.agg #[.int .i64 5,.int .i64 0],.agg #[.int .i64 1,.int .i64 0],.agg #[.int .i64 5,.int .i64 0],.agg #[.int .i64 1,.int .i64 0],.agg #[.int .i64 5,.int .i64 0],.slice (some ⟨ab,0,none⟩) 3 3,.tuple #[ptr s,(.agg #[.slice ga na ca,.slice ge ne ce,.int .i64 u]),.int .i64 e,.bool true],.slice (some ⟨ab,0,none⟩) 3 3,.slice (some ⟨ab,0,none⟩) 3 3,.slice (some ⟨tb,0,none⟩) 2 2,.agg #[.int .i64 0,.slice (some ⟨tb,0,none⟩) 2 2,.slice none 0 0,.int .i64 9,.bool false],.tuple #[ptr s,(.agg #[.slice ga na ca,.slice ge ne ce,.int .i64 u]),.int .i64 e,.bool true],ptr s,.agg #[.slice ga na ca,.slice ge ne ce,.int .i64 u],.int .i64 e,.bool true,undef,undef,undef,undef,undef,undef,undef,undef,undef,undef,undef,undef,undef,undef,undef,undef,undef,undef,undef]
theorem lives_mid {i1 i2 ab tb s:Nat}{ga:Option Addr}{na ca:Nat}{ge:Option Addr}{ne ce:Nat}{u e:Int}(hD:Det Try.prog m fun _=>K)(h:∀ rb w',Kp [] w w'→Blk w' rb [.slice ga na ca,.slice ge ne ce,.int .i64 u] 30→K (gs ((base 12).at ⟨livesTm i1 i2 ab tb s rb ga na ca ge ne ce u e,[]⟩ [.code (sL (sR (sR (sR (sR (sR c12)))))),.code (sR (sR (sR (sR (sR (sR c12))))))]) cs) w'):K (gs ((livesC i1 i2 ab tb).finish (.tuple #[ptr s,.agg #[.slice ga na ca,.slice ge ne ce,.int .i64 u],.int .i64 e,.bool true])) cs) w:=by
 have hk:(base 12).kind≠.early:=nofun;unfold livesC;refine fin0 (some 19) ?_;refine hD.mv (.tuple #[ptr s,.agg #[.slice ga na ca,.slice ge ne ce,.int .i64 u],.int .i64 e,.bool true]) hk ?_;refine hD.pu (ptr s) hk (fun w=>pu_ext rfl rfl rfl) ?_;refine hD.pu (.agg #[.slice ga na ca,.slice ge ne ce,.int .i64 u]) hk (fun w=>pu_ext rfl rfl rfl) ?_;refine norm0 (a':=⟨#[.bool false,ptr i1,ptr i2,.slice (some ⟨ab,0,none⟩) 3 3,undef,undef,undef,undef,.agg #[.int .i64 5,.int .i64 0],.agg #[.int .i64 1,.int .i64 0],.agg #[.int .i64 5,.int .i64 0],.agg #[.int .i64 1,.int .i64 0],.agg #[.int .i64 5,.int .i64 0],.slice (some ⟨ab,0,none⟩) 3 3,.tuple #[ptr s,(.agg #[.slice ga na ca,.slice ge ne ce,.int .i64 u]),.int .i64 e,.bool true],.slice (some ⟨ab,0,none⟩) 3 3,.slice (some ⟨ab,0,none⟩) 3 3,.slice (some ⟨tb,0,none⟩) 2 2,.agg #[.int .i64 0,.slice (some ⟨tb,0,none⟩) 2 2,.slice none 0 0,.int .i64 9,.bool false],.tuple #[ptr s,(.agg #[.slice ga na ca,.slice ge ne ce,.int .i64 u]),.int .i64 e,.bool true],ptr s,.agg #[.slice ga na ca,.slice ge ne ce,.int .i64 u],undef,undef,undef,undef,undef,undef,undef,undef,undef,undef,undef,undef,undef,undef,undef,undef,undef,undef,undef,undef,undef],[]⟩) ?_;refine hD.pu (.int .i64 e) hk (fun w=>pu_ext rfl rfl rfl) ?_;refine hD.pu (.bool true) hk (fun w=>pu_ext rfl rfl rfl) ?_;refine norm0 (a':=⟨#[.bool false,ptr i1,ptr i2,.slice (some ⟨ab,0,none⟩) 3 3,undef,undef,undef,undef,.agg #[.int .i64 5,.int .i64 0],.agg #[.int .i64 1,.int .i64 0],.agg #[.int .i64 5,.int .i64 0],.agg #[.int .i64 1,.int .i64 0],.agg #[.int .i64 5,.int .i64 0],.slice (some ⟨ab,0,none⟩) 3 3,.tuple #[ptr s,(.agg #[.slice ga na ca,.slice ge ne ce,.int .i64 u]),.int .i64 e,.bool true],.slice (some ⟨ab,0,none⟩) 3 3,.slice (some ⟨ab,0,none⟩) 3 3,.slice (some ⟨tb,0,none⟩) 2 2,.agg #[.int .i64 0,.slice (some ⟨tb,0,none⟩) 2 2,.slice none 0 0,.int .i64 9,.bool false],.tuple #[ptr s,(.agg #[.slice ga na ca,.slice ge ne ce,.int .i64 u]),.int .i64 e,.bool true],ptr s,.agg #[.slice ga na ca,.slice ge ne ce,.int .i64 u],.int .i64 e,.bool true,undef,undef,undef,undef,undef,undef,undef,undef,undef,undef,undef,undef,undef,undef,undef,undef,undef,undef,undef],[]⟩) ?_;have krb:=Kp.alloc [] w (.cells #[.slice none 0 0,.slice none 0 0,.int .i64 0] 30);have brb:Blk (w.alloc (.cells #[.slice none 0 0,.slice none 0 0,.int .i64 0] 30)) w.heap.size [.slice none 0 0,.slice none 0 0,.int .i64 0] 30:=Blk.new _ _ _;have zrb:(w.alloc (.cells #[.slice none 0 0,.slice none 0 0,.int .i64 0] 30)).heap.size=w.heap.size+1:=wz' _ _;refine hD.alloc (n:=0) hk rfl ⟨rfl,rfl,rfl,(by decide +kernel),nofun⟩ al30 ?_;obtain⟨rb,hrb⟩:∃ x,x=w.heap.size:=⟨_,rfl⟩;rw[← hrb] at brb ⊢;generalize w.alloc (.cells #[.slice none 0 0,.slice none 0 0,.int .i64 0] 30)=w1 at krb brb zrb ⊢;refine hD.as (ptr s) hk ?_;refine norm0 (a':=⟨#[.bool false,ptr i1,ptr i2,.slice (some ⟨ab,0,none⟩) 3 3,ptr s,ptr rb,undef,undef,.agg #[.int .i64 5,.int .i64 0],.agg #[.int .i64 1,.int .i64 0],.agg #[.int .i64 5,.int .i64 0],.agg #[.int .i64 1,.int .i64 0],.agg #[.int .i64 5,.int .i64 0],.slice (some ⟨ab,0,none⟩) 3 3,.tuple #[ptr s,(.agg #[.slice ga na ca,.slice ge ne ce,.int .i64 u]),.int .i64 e,.bool true],.slice (some ⟨ab,0,none⟩) 3 3,.slice (some ⟨ab,0,none⟩) 3 3,.slice (some ⟨tb,0,none⟩) 2 2,.agg #[.int .i64 0,.slice (some ⟨tb,0,none⟩) 2 2,.slice none 0 0,.int .i64 9,.bool false],.tuple #[ptr s,(.agg #[.slice ga na ca,.slice ge ne ce,.int .i64 u]),.int .i64 e,.bool true],ptr s,.agg #[.slice ga na ca,.slice ge ne ce,.int .i64 u],.int .i64 e,.bool true,undef,undef,undef,undef,undef,undef,undef,undef,undef,undef,undef,undef,undef,undef,undef,undef,undef,undef,undef],[]⟩) ?_
 refine hD.store (n:=0) (u:=(ptr rb)) (z:=(.agg #[.slice ga na ca,.slice ge ne ce,.int .i64 u])) hk rfl ⟨rfl,rfl,rfl,rfl,nofun⟩ rfl rfl (fun τ d=>((st30 (w:=re w1 τ d) brb).trans (congrArg (Result.ok ()) re_set3))) (Nat.le_of_eq set3_size.symm) ?_;have k2:Kp [rb] w1 (set3 w1 rb (.slice ga na ca) (.slice ge ne ce) (.int .i64 u)):=⟨Nat.le_of_eq set3_size.symm,fun b _ hn=>set3_frame (by simpa using hn)⟩;have b2:Blk (set3 w1 rb (.slice ga na ca) (.slice ge ne ce) (.int .i64 u)) rb [.slice ga na ca,.slice ge ne ce,.int .i64 u] 30:=set3_blk brb;generalize (set3 w1 rb (.slice ga na ca) (.slice ge ne ce) (.int .i64 u))=w2 at k2 b2 ⊢;refine hD.as (.int .i64 e) hk ?_;refine hD.as (.bool true) hk ?_;refine norm0 (a':=⟨#[.bool false,ptr i1,ptr i2,.slice (some ⟨ab,0,none⟩) 3 3,ptr s,ptr rb,.int .i64 e,.bool true,.agg #[.int .i64 5,.int .i64 0],.agg #[.int .i64 1,.int .i64 0],.agg #[.int .i64 5,.int .i64 0],.agg #[.int .i64 1,.int .i64 0],.agg #[.int .i64 5,.int .i64 0],.slice (some ⟨ab,0,none⟩) 3 3,.tuple #[ptr s,(.agg #[.slice ga na ca,.slice ge ne ce,.int .i64 u]),.int .i64 e,.bool true],.slice (some ⟨ab,0,none⟩) 3 3,.slice (some ⟨ab,0,none⟩) 3 3,.slice (some ⟨tb,0,none⟩) 2 2,.agg #[.int .i64 0,.slice (some ⟨tb,0,none⟩) 2 2,.slice none 0 0,.int .i64 9,.bool false],.tuple #[ptr s,(.agg #[.slice ga na ca,.slice ge ne ce,.int .i64 u]),.int .i64 e,.bool true],ptr s,.agg #[.slice ga na ca,.slice ge ne ce,.int .i64 u],.int .i64 e,.bool true,undef,undef,undef,undef,undef,undef,undef,undef,undef,undef,undef,undef,undef,undef,undef,undef,undef,undef,undef],[]⟩) ?_;refine hD.e0 ?_;refine hD.s0 ?_;exact h rb w2 ⟨by have:=krb.size;have:=k2.size;omega,fun b hb _=>by rw[k2.block b (by have:=krb.size;omega) (by simp;omega),krb.block b hb (by simp)]⟩ b2
end
theorem rd_new (w:World)(xs:List Int){v:Value}{W:World}(hv:v=.slice (some ⟨w.heap.size,0,none⟩) xs.length xs.length)(hW:W=w.alloc (.cells (xs.map fun x=>Value.int .i64 x).toArray 3)):Rd (fun x:Int=>Value.int .i64 x) W v xs:=by
 subst hv hW;refine⟨_,_,rfl,fun _=>⟨w.heap.size,0,rfl,fun j x hj=>?_⟩⟩;rw[Nat.zero_add];refine(Blk.new w (xs.map fun x=>Value.int .i64 x) 3).cell j |>.trans ?_
 rw[List.getElem?_map,hj];rfl
theorem lives_wp (w:World)(i1 i2 ab tb s rb ca:Nat)(ga ge:Option Addr)(ne ce:Nat)(u:Int)(vn:Value)(sum:Int)(hs:Blk w s [.int .i64 sum,vn] 41)(hn:RepI w vn [0,1,0,1])(hr:Blk w rb [.slice ga 4 ca,.slice ge ne ce,.int .i64 u] 30) :
  (sL (sR (sR (sR (sR (sR c12)))))).wp Try.prog (fun e a' w'=>e=.normal∧a'.defers=[]∧a'.tmps.getD 0 undef=.bool true∧Kp [] w w') ⟨livesTm i1 i2 ab tb s rb ga 4 ca ge ne ce u 0,[]⟩ w:=by
 have c0:w.cell? ⟨s,1,none⟩=some vn:=hs.cell 1;have c1:w.cell? ⟨rb,0,none⟩=some (.slice ga 4 ca):=hr.cell 0;obtain⟨gn,cn,rfl,_⟩:=hn.form;have HC:Hid (Calls Try.prog 11 #[.slice gn 4 cn,.slice (some ⟨w.heap.size,0,none⟩) 4 4] (w.alloc (.cells #[.int .i64 0,.int .i64 1,.int .i64 0,.int .i64 1] 3)) fun e w'=>e=.returned (.bool true)∧∃ n,w'=(w.alloc (.cells #[.int .i64 0,.int .i64 1,.int .i64 0,.int .i64 1] 3)).drewN n) :=
  Lib.hid (ints_calls _ _ _ [0,1,0,1] [0,1,0,1] (rep_rd (hn.keeps ((Keeps.refl [] w).alloc _) (by simp))) (rd_new w [0,1,0,1] rfl rfl) (by decide) (by decide))
 clear hs hn hr;simp only[c12,Try.f12,Option.getD_some,sL,sR,sB,sT,sF,livesTm]
 go_wp2_with (go_at_call 11;refine(HC.out).mono ?_;rintro e w' ⟨rfl,n,rfl⟩)
 exact Keeps.kp (((Keeps.refl _ _).alloc _).drewN _)
def livesI:Nat→List (Int × Int):=fun _=>[(5,0),(1,0),(5,0)]
theorem livesR:playR 2 livesI [] 9 false 0=⟨0,[0,1,0,1],[0,1,0,1],[1,1],0,0⟩:=rfl
theorem lives_args {w:World}{ab tb:Nat}(hlt:ab<tb)(ba:Blk w ab [.int .i64 5,.int .i64 0,.int .i64 1,.int .i64 0,.int .i64 5,.int .i64 0] 53)(bt:Blk w tb [.slice (some ⟨ab,0,none⟩) 3 3,.slice (some ⟨ab,0,none⟩) 3 3] 51):PlA w 2 livesI (fun _=>some ⟨ab,0,none⟩) (fun _=>3) (.slice (some ⟨tb,0,none⟩) 2 2) (.slice none 0 0) []:=by
 have hIB:∀ b,IBof 2 livesI (fun _=>some ⟨ab,0,none⟩) b→b=ab:=fun b ⟨i,o,_,_,h⟩=>by cases h;rfl
 refine⟨⟨_,_,rfl,fun _=>⟨tb,0,rfl,fun j x hj=>?_⟩⟩,fun i _ k d x hk=>?_,fun b hb=>by rw[hIB b hb];exact ba.lt,⟨tb,bt.lt,none,0,rfl,Nat.le_refl _,by decide,by simp,fun h=>absurd rfl h⟩,by decide,fun i _=>(show 3<4294967295 by decide),by decide,by decide⟩
 ·rw[Nat.zero_add]
  exact(bt.cell j).trans hj
 ·have hib:IBof 2 livesI (fun _=>some ⟨ab,0,none⟩) ab:=⟨0,0,by decide,by decide,rfl⟩
  refine⟨ab,0,rfl,hib,?_⟩;rw[Nat.zero_add]
  match k,hk with
  | 0,hk=>cases hk;exact⟨ba.cell 0,ba.cell 1⟩
  | 1,hk=>cases hk;exact⟨ba.cell 2,ba.cell 3⟩
  | 2,hk=>cases hk;exact⟨ba.cell 4,ba.cell 5⟩
theorem lives_runs {Post:Value→World→Prop}{S:SC}{cl:Frame}{cs:List Frame}(hid:Idle S)(hcl:cl.mode=.run)(hnext:∀ S',Idle S'→S'.n0=S.n0→S'.W0=S.W0→Kp [] S.w S'.w→Sound Try.prog link.tWg Post 0 S' (gs (cl.finish (.bool true)) cs)):Sound Try.prog link.tWg Post 0 S (gs (Frame.enter Try.prog 12 #[] .normal) (cl::cs)):=by
 have hK:=clS (Post:=Post) S;refine ks (S:=S) (lives_enter hK.det fun i1 i2 ab tb w1 h1 h2 k1 ba bt=>?_) rfl;show Sound Try.prog link.tWg Post 0 { S with w:=w1} _;refine played_runs (S:={S with w:=w1}) ⟨hid.roles,hid.grps,hid.pos⟩ rfl (lives_args h2 ba bt) fun S2 s ga na ca ge ne ce j1 j2 j3 j4 _ D=>?_;have hR:playR 2 livesI [] 9 false 0=⟨0,[0,1,0,1],[0,1,0,1],[1,1],0,0⟩:=livesR;rw[hR] at D ⊢;have k2:Kp [] S.w S2.w:=k1.trans j4;obtain⟨vn,d1,d2⟩:=D.sh;have hna:na=4:=by
  obtain⟨_,_,e,_⟩:=D.acts.form;cases e;rfl
 subst hna;have hK2:=clS (Post:=Post) S2;refine ks (S:=S2) (lives_mid hK2.det fun rb w3 k3 br=>?_) rfl;have hs3:=k3.blk d1 (by simp);have hn3:RepI w3 vn [0,1,0,1]:=rep_same d2 k3.size fun b hb=>k3.block b (d2.fp_lt b hb) (by simp);refine hK2.seg fits shut (b:=base 12) ⟨_,Try.func12⟩ nofun (c:=(sL (sR (sR (sR (sR (sR c12))))))) (by decide +kernel) (Q:=fun t w'=>t.getD 0 undef=.bool true∧Kp [] w3 w') (fun t w' τ d ⟨q1,q2⟩=>⟨q1,⟨q2.size,q2.block⟩⟩) (fun τ d=>?_) fun t w4 ⟨q1,q2⟩=>?_
 ·exact Code.wp_mono (fun e a w' ⟨q1,q2,q3,q4⟩=>⟨q1,q2,q3,⟨q4.size,q4.block⟩⟩) (lives_wp (re w3 τ d) i1 i2 ab tb s rb ca ga ge ne ce _ vn 0 hs3 hn3 br)
 ·refine hK2.det.ret (n:=0) ?_
  refine hK2.det.leave (n:=0) (b:=base 12) (a:=⟨t,[]⟩) (v:=.bool true) rfl rfl Try.func12 (fun τ d=>?_) hcl ?_
  ·unfold results
   rw[show Try.f12.results=#[.tmp 0] from rfl];simp only[gd'] at q1;simp[go_sem,q1,Result.andThen]
  ·exact hnext { S2 with w:=w4} ⟨j1.roles,j1.grps,j1.pos⟩ j2 j3 (k2.trans (k3.trans q2))
theorem Mach.lowH {N:Nat→Prop}{r:Nat}{ths:List Th}{sum:Int}{notes:List Int}{acts:List Nat}{vt vn va:Value}{w:World}(h:Mach N r ths sum notes acts vt vn va w):Mach (Lift.lowH N w.heap.size) r ths sum notes acts vt vn va w:=by
 have no:∀ b,b<w.heap.size→¬N b→¬Lift.lowH N w.heap.size b:=fun b hb hn hm=>by
  rcases hm with q | q | q
  ·exact hn q
  ·omega
  ·omega
 exact⟨h.b,h.t,h.n,h.a,no _ h.b.lt h.hr,fun b hb=>⟨no b (h.t.fp_lt b hb) (h.ht b hb).1,(h.ht b hb).2⟩,fun b hb=>⟨no b (h.n.fp_lt b hb) (h.hn b hb).1,(h.hn b hb).2⟩,fun b hb=>⟨no b (h.a.fp_lt b hb) (h.ha b hb).1,(h.ha b hb).2⟩⟩
theorem Mach.unlow {N:Nat→Prop}{H r:Nat}{ths:List Th}{sum:Int}{notes:List Int}{acts:List Nat}{vt vn va:Value}{w:World}(h:Mach (Lift.lowH N H) r ths sum notes acts vt vn va w):Mach N r ths sum notes acts vt vn va w:=by
 have no:∀ b,¬Lift.lowH N H b→¬N b:=fun b hb hn=>hb (.inl hn);exact⟨h.b,h.t,h.n,h.a,no _ h.hr,fun b hb=>⟨no b (h.ht b hb).1,(h.ht b hb).2⟩,fun b hb=>⟨no b (h.hn b hb).1,(h.hn b hb).2⟩,fun b hb=>⟨no b (h.ha b hb).1,(h.ha b hb).2⟩⟩
theorem results_c30v {fn:Func}{a t:Tmp}{tmps:Array Value}{w:World}{b:Nat}{x0 x1 x2 v:Value}(h:fn.results=#[.cell a 30,.tmp t])(ha:tmps.getD a undef=ptr b)(hv:tmps.getD t undef=v)(hb:Blk w b [x0,x1,x2] 30):(results fn tmps).run Try.prog w=.ok (.tuple #[.agg #[x0,x1,x2],v]) w:=hv▸results_c30 h ha hb
theorem DocT.later {N:Nat→Prop}{w0:World}{H r gt ct n:Nat}{ths:List Th}{sum:Int}{notes:List Int}{acts:List Nat}{vn va va':Value}{u:Nat}{wb:World}(h:DocT N w0 H r gt ct n ths sum notes acts vn va va' u wb):DocT N w0 H r gt ct n ths sum notes acts vn va va' u wb.drew :=
 have k:Keeps [] wb wb.drew:=(Keeps.refl _ _).drew
 ⟨h.mc.keeps k,h.low,h.kn.trans (KN.of k (h.low.mono h.kn.size) (by simp)),h.h0,h.hH,k.blk h.b0 (by simp),k.blk h.b1 (by simp),h.ra.keeps k (by simp),h.fa⟩
theorem readies_fresh (Q:ShC)(C:WC)(hn0:0<Q.n){a:ShA}{l:List Nat}:readies (Q.bods C) Q.n ⟨fun _=>.fresh,a,[],l⟩≠[]:=by
 intro h;have:(0:Nat)∈readies (Q.bods C) Q.n ⟨fun _=>.fresh,a,[],l⟩:=List.mem_filter.2 ⟨List.mem_range.2 hn0,rfl⟩;rw[h] at this;cases this
def DocQ (Q:ShC)(C:WC)(N:Nat→Prop)(w:World)(r gt ct:Nat)(picks:List Nat)(most:Int)(wt:Bool)(bh bump:Int)(y:RunSt ItL ShA)(e:Ending)(w':World):Prop :=
 ∃ v1 v2 ths vn va,e=.returned (.tuple #[repV v1 v2 ((picks.length-y.left.length:Nat):Int),.int .i64 (codeM (decide (most≤(y.acts.length:Int))) (donesE Q.n y.st))])∧RepU w' v1 y.acts∧RepE w' v2 (endsM (decide (most≤(y.acts.length:Int))) (donesE Q.n y.st)) ∧
  Mach N r ths y.a.sum y.a.notes y.acts (.slice (some ⟨gt,0,none⟩) Q.n ct) vn va w'∧KN N w w'
theorem over_done {t:Th}{e:ES ItL}(h:ThOf t e):t.over=isDoneE e:=by
 cases e with
 | fresh=>exact h.2.1
 | susp l=>exact h.2.1
 | done=>exact h
theorem docrun_calls (Q:ShC)(C:WC)(w:World)(N:Nat→Prop)(r gt ct:Nat)(picks:List Nat)(ths:List Th)(vn va:Value)(hM0:MOf Q ⟨fun _=>.fresh,⟨0,[],0⟩,[],picks⟩ ths)(h:Mach N r ths 0 [] [] (.slice (some ⟨gt,0,none⟩) Q.n ct) vn va w)(hN:LowN N w)(hits:∀ i,i<Q.n→ItsAt N w (Q.gi i) (Q.its i))
  (pv:Value) (pb:Nat) (hpb:N pb) (hpv:Bytes pb w pv picks) (hn8:Q.n≤8) (hn0:0<Q.n) (most:Int) (hm0:0≤most) (wt:Bool) (bh bump:Int) (hpl:picks.length≤65536) (hlen:∀ i,i<Q.n→(Q.its i).length<4294967296) (hpot:Q.pot ⟨0,[],0⟩ (fun _=>.fresh)) (hMb:Q.M+4294967296<1099511627776)
  (hfin:(Q.out C wt bh bump most picks).acts.length<4294967295) :
  Calls Try.prog 8 #[ptr r,pv,.int .i64 most,.bool wt,.int .i64 bh,.int .i64 bump] w fun e w'=>DocQ Q C N w r gt ct picks most wt bh bump (Q.out C wt bh bump most picks) e w':=by
 obtain⟨gp,cp,rfl,hcp,hmp,hp8,_⟩:=id hpv;generalize hy:Q.out C wt bh bump most picks=y at *;have htl:ths.length=Q.n:=hM0.len;have HPB:=Lib.hid hpb;have HPV:Hid (∀ W,KN N w W→Bytes pb W (.slice gp picks.length cp) picks):=Lib.hid fun W k=>hpv.same (k.block pb hpb);have HIT:Hid (∀ W,KN N w W→∀ i,i<Q.n→ItsAt (Lift.lowH N w.heap.size) W (Q.gi i) (Q.its i)):=Lib.hid fun W k i hi=>by
  have:=(hits i hi).kn k;intro a b c hq;obtain⟨ab,ao,q1,q2,q3⟩:=this a b c hq;exact⟨ab,ao,q1,.inl q2,q3⟩
 have HL:=Lib.hid hlen;have HP8:=Lib.hid hp8;have HD0:Hid (∀ W,Keeps [] w W→Blk W w.heap.size [.slice none 0 0,.slice none 0 0,.int .i64 0] 30→Blk W (w.heap.size+1) [.slice none 0 0,.slice none 0 0,.int .i64 0] 30→DocI Q C N w w.heap.size r gt ct picks most wt bh bump y W ⟨fun _=>.fresh,⟨0,[],0⟩,[],picks⟩ ths vn va 0 most.toNat):=Lib.hid fun W k q0 q1 =>
  ⟨hM0,⟨h.lowH.keeps k,hN,KN.of k hN (by simp),hN,q0,q1⟩,Nat.zero_le _,rfl,by simp;omega,hy,by simp,hpot⟩
 have d1:((Q.n:Int)==0)=false:=by rw[beq_eq_false_iff_ne];omega
 have d2:decide ((8:Int)<Q.n)=false:=decide_eq_false (by omega);have d3:decide (most<0)=false:=decide_eq_false (by omega);have d4:decide ((65536:Int)<picks.length)=false:=decide_eq_false (by omega);have c0:w.cell? ⟨r,0,none⟩=some (.slice (some ⟨gt,0,none⟩) Q.n ct):=h.b.cell 0;have hrl:=h.b.lt;clear h hM0 hN hits hpv hp8 hpb hlen hpot hy htl
 go_enter Try.func8,Try.ntmps8
 go_wp2
 go_loopw [15] (fun sv wr=>∃ (st:Bool) (x:RunSt ItL ShA) (ths:List Th) (vn va:Value) (u k:Nat),sv=.bool st∧DocI Q C N w w.heap.size r gt ct picks most wt bh bump y wr x ths vn va u k∧(st=true→readies (Q.bods C) Q.n x=[])∧(x.acts=[]→readies (Q.bods C) Q.n x≠[])) (fun sv wr=>2*(most.toNat-actsOf wr r)+(match sv with | .bool true=>0 | _=>1))
 case atStart =>
  refine⟨false,_,_,_,_,_,_,rfl,HD0.out _ (((Keeps.refl _ _).alloc _).alloc _) ((Blk.new w [.slice none 0 0,.slice none 0 0,.int .i64 0] 30).alloc _) ?_,(fun e=>by cases e),fun _=>readies_fresh Q C hn0⟩;have:=Blk.new (w.alloc (.cells #[Value.slice none 0 0,Value.slice none 0 0,Value.int IntKind.i64 0] 30)) [.slice none 0 0,.slice none 0 0,.int .i64 0] 30;rw[wz'] at this;exact this
 case round =>
  obtain⟨st,x,ths,vn,va,u,k,rfl,hd,hst,hst2⟩:=hrel;have hfa:=hd.acts;obtain⟨gn,cn,rfl,_⟩:=hd.mem.mc.n.form;obtain⟨ga,ca,rfl,_⟩:=hd.mem.mc.a.form;have hul:=hd.ul;have hnl:=hd.notes;have e3:wr.cell? ⟨r,3,none⟩=some (.slice ga x.acts.length ca):=hd.mem.mc.b.cell 3;have hrl2:r<wr.heap.size:=hd.mem.mc.b.lt;have hao:actsOf wr r=x.acts.length:=hd.mem.mc.actsOf;have hrne:r≠w.heap.size+1:=fun e=>hd.mem.mc.hr (.inr (.inr e));have hrne2:w.heap.size+1≠r:=fun e=>hd.mem.mc.hr (.inr (.inr e.symm));have HD:=Lib.hid hd;have HST:=Lib.hid hst;have HST2:=Lib.hid hst2;clear hd hst hst2;by_cases hgo:st=false∧(x.acts.length:Int)<most
  ·obtain⟨rfl,hlt⟩:=hgo
   have dl:decide ((x.acts.length:Int)<most)=true:=decide_eq_true hlt;by_cases h0:readies (Q.bods C) Q.n x=[]
   ·have l0:(readies (Q.bods C) Q.n x).length=0:=by rw[h0];rfl
    have HRC:=Lib.hid (doc_ready HD.out hn8);rw[l0] at HRC
    go_wp2_with (go_at_call 23;refine(HRC.out).mono ?_;rintro e w1 ⟨gr,cr,rfl,rr,k1⟩;have HD1:=Lib.hid (HD.out.keeps k1);clear rr k1)
    go_roundw
    case rel=>exact⟨true,x,ths,_,_,u,k,rfl,HD1.out,(fun _=>h0),HST2.out⟩
    case measure=>rw[HD1.out.mem.mc.actsOf,hao];simp
   ·have l0:(((readies (Q.bods C) Q.n x).length:Int)==0)=false:=by rw[beq_eq_false_iff_ne];have:=List.length_pos_iff.2 h0;omega
    obtain⟨i,hie⟩:∃ i,i=(chosen (readies (Q.bods C) Q.n x) x.acts (picks.drop u)).1:=⟨_,rfl⟩;obtain⟨p1,p2,k',rfl,p3,p4,p5⟩:=HD.out.next h0 hlt hie;obtain⟨t,hti,ht2,ht3,ht4,hk5⟩:=HD.out.m.at_ i p1;have hil:t.its.length<4294967296:=ht3▸HL.out i p1;have hac:x.acts.length<4294967295:=by omega
    have hi8:i<8:=by omega
    have HTI:=Lib.hid hti;have HLT:=Lib.hid HD.out.m.len;have HITS:Hid (∀ W,KN N w W→ItsAt (Lift.lowH N w.heap.size) W t.g t.its):=Lib.hid fun W k=>ht4▸ht3▸HIT.out W k i p1;obtain⟨out,hout⟩:∃ out,out=runTh (x.acts.length+1) i (t.its.drop t.next) { t with waits:=false} x.a.sum x.a.notes:=⟨_,rfl⟩;have hol:out.2.2.length≤x.a.notes.length+t.its.length:=by
     rw[hout];refine Nat.le_trans (runTh_notes _ _ _ _ _ _) ?_;rw[List.length_drop];omega
    have HOUT:Hid (out=runTh (x.acts++[i]).length i (t.its.drop t.next) { t with waits:=false} x.a.sum x.a.notes):=Lib.hid (by rw[la'];exact hout);have HRC:=Lib.hid (doc_ready HD.out hn8);have HOUT0:=Lib.hid hout;have HIE:=Lib.hid hie;clear hti ht2 ht3 ht4 p2 p3 p4 hout hie
    go_wp2_with (go_at_call 23;refine(HRC.out).mono ?_;rintro e w1 ⟨gr,cr,rfl,rr,k1⟩;have HD1:=Lib.hid (HD.out.keeps k1);have RR:=Lib.hid rr;obtain⟨c3,c4,c5⟩:w1.cell? ⟨w.heap.size+1,2,none⟩=some (.int .i64 u)∧w.heap.size+1<w1.heap.size∧r<w1.heap.size:=⟨(HD.out.keeps k1).mem.b1.cell 2,(HD.out.keeps k1).mem.b1.lt,(HD.out.keeps k1).mem.mc.b.lt⟩;clear rr k1)
    by_cases hup:u<picks.length
    ·have du:decide ((u:Int)<(picks.length:Int))=true:=decide_eq_true (by omega)
     cases wt
     ·have HM2:Hid (∀ W,Keeps [] w1 W→DocM N w w.heap.size r gt ct Q.n ths x.a.sum x.a.notes x.acts (.slice gn x.a.notes.length cn) (.slice ga x.acts.length ca) u W):=Lib.hid fun W k=>(HD1.out.keeps k).mem
      have HCL:Hid (∀ W,Keeps [] w1 W→W.cell? ⟨w.heap.size+1,2,none⟩=some (.int .i64 u)∧W.frozen? ⟨w.heap.size+1,2,none⟩=false∧W.cell? ⟨r,3,none⟩=some (.slice ga x.acts.length ca)∧W.frozen? ⟨r,3,none⟩=false∧w.heap.size+1<W.heap.size∧r<W.heap.size):=Lib.hid fun W k=>⟨(HM2.out W k).b1.cell 2,(HM2.out W k).b1.frozen 2,(HM2.out W k).mc.b.cell 3,(HM2.out W k).mc.b.frozen 3,(HM2.out W k).b1.lt,(HM2.out W k).mc.b.lt⟩
      go_wp2_with (first | (go_at_call 24;refine(doc_chosen HD1.out hn8 RR.out (HPV.out _ HD1.out.mem.kn) h0 hpl hac).mono ?_;rintro e w2 ⟨rfl,nd,rfl⟩;obtain⟨p0,p1,p2,p3,p4,p5⟩:=HCL.out _ ((Keeps.refl _ _).drewN nd);have HK2:Hid (Keeps [] w1 (w1.drewN nd)):=Lib.hid ((Keeps.refl _ _).drewN nd);generalize w1.drewN nd=W2 at *;rw[← HIE.out]) | (at_builtin;refine wpList_rep_append rfl (.tmp 80) (.tmp 83) 23 rfl (.int .u8 0) 1 Try.underlying23 info5 rfl (by decide) (.slice ga x.acts.length ca) x.acts rfl ((((HM2.out W2 HK2.out).setU (u+1))).keeps ((Keeps.refl _ _).alloc _)).mc.a (fun _=>rfl) ⟨W2.heap.size,0,none⟩ 1 1 [i] rfl rfl (cell_one_at _ _ _ (by simp)) (by simp[Value.oneCell']) (by decide) (by unfold maxLen;omega) (by omega) ?_;intro g2 cap2 w3 r2 k2 a2 lg q2;have HM4:=Lib.hid ((((HM2.out W2 HK2.out).setU (u+1))).act ((Keeps.refl _ _).alloc _) r2 k2 a2);have p6:=((k2.blk ((((HM2.out W2 HK2.out).setU (u+1))).keeps ((Keeps.refl _ _).alloc _)).mc.b (fun hm=>((((HM2.out W2 HK2.out).setU (u+1))).mc.ha _ hm).2 rfl)).frozen 3);have p7:=((k2.blk ((((HM2.out W2 HK2.out).setU (u+1))).keeps ((Keeps.refl _ _).alloc _)).mc.b (fun hm=>((((HM2.out W2 HK2.out).setU (u+1))).mc.ha _ hm).2 rfl)).cell 3);have p8:=((k2.blk ((((HM2.out W2 HK2.out).setU (u+1))).keeps ((Keeps.refl _ _).alloc _)).mc.b (fun hm=>((((HM2.out W2 HK2.out).setU (u+1))).mc.ha _ hm).2 rfl)).lt);clear r2 k2 a2) | (go_at_call 25;refine(doc_runs HM4.out HLT.out hn8 HTI.out (HITS.out _ HM4.out.kn) hil (by omega) (by simp;omega) hk5).mono ?_;rintro e w5 ⟨rfl,gn5,cn5,hm5⟩;rw[← HOUT.out] at hm5;obtain⟨q0,q1,q2,q3,q4⟩:w5.cell? ⟨r,2,none⟩=some (.slice gn5 out.2.2.length cn5)∧w5.cell? ⟨r,1,none⟩=some (.int .i64 out.2.1)∧w5.frozen? ⟨r,1,none⟩=false∧w5.frozen? ⟨r,2,none⟩=false∧r<w5.heap.size:=⟨hm5.mc.b.cell 2,hm5.mc.b.cell 1,hm5.mc.b.frozen 1,hm5.mc.b.frozen 2,hm5.mc.b.lt⟩;have HM5:=Lib.hid hm5;clear hm5))
      go_roundw
      case rel =>
       obtain⟨x',k',hd',hxa⟩:=HD1.out.done h0 hlt HIE.out HTI.out (u':=u+1) (by rw[if_pos (by omega)]) HOUT0.out rfl (sum':=out.2.1) (notes':=out.2.2) (by simp) (by simp) HM5.out;exact⟨false,x',_,_,_,_,k',rfl,hd',(fun e=>by cases e),fun e=>by rw[hxa] at e;exact absurd e (by simp)⟩
      case measure =>
       have e1:actsOf _ r=_:=HM5.out.mc.actsOf;rw[e1,hao,la'];simp;omega
     ·have HM2:Hid (∀ W,Keeps [] w1 W→DocM N w w.heap.size r gt ct Q.n ths x.a.sum x.a.notes x.acts (.slice gn x.a.notes.length cn) (.slice ga x.acts.length ca) u W):=Lib.hid fun W k=>(HD1.out.keeps k).mem
      have HCL:Hid (∀ W,Keeps [] w1 W→W.cell? ⟨w.heap.size+1,2,none⟩=some (.int .i64 u)∧W.frozen? ⟨w.heap.size+1,2,none⟩=false∧W.cell? ⟨r,3,none⟩=some (.slice ga x.acts.length ca)∧W.frozen? ⟨r,3,none⟩=false∧w.heap.size+1<W.heap.size∧r<W.heap.size):=Lib.hid fun W k=>⟨(HM2.out W k).b1.cell 2,(HM2.out W k).b1.frozen 2,(HM2.out W k).mc.b.cell 3,(HM2.out W k).mc.b.frozen 3,(HM2.out W k).b1.lt,(HM2.out W k).mc.b.lt⟩
      go_wp2_with (first | (go_at_call 24;refine(doc_chosen HD1.out hn8 RR.out (HPV.out _ HD1.out.mem.kn) h0 hpl hac).mono ?_;rintro e w2 ⟨rfl,nd,rfl⟩;obtain⟨p0,p1,p2,p3,p4,p5⟩:=HCL.out _ ((Keeps.refl _ _).drewN nd);have HK2:Hid (Keeps [] w1 (w1.drewN nd)):=Lib.hid ((Keeps.refl _ _).drewN nd);generalize w1.drewN nd=W2 at *;rw[← HIE.out]) | (at_builtin;refine wpList_rep_append rfl (.tmp 80) (.tmp 83) 23 rfl (.int .u8 0) 1 Try.underlying23 info5 rfl (by decide) (.slice ga x.acts.length ca) x.acts rfl ((((HM2.out W2 HK2.out).setU (u+1))).keeps ((Keeps.refl _ _).alloc _)).mc.a (fun _=>rfl) ⟨W2.heap.size,0,none⟩ 1 1 [i] rfl rfl (cell_one_at _ _ _ (by simp)) (by simp[Value.oneCell']) (by decide) (by unfold maxLen;omega) (by omega) ?_;intro g2 cap2 w3 r2 k2 a2 lg q2;have HM4:=Lib.hid ((((HM2.out W2 HK2.out).setU (u+1))).act ((Keeps.refl _ _).alloc _) r2 k2 a2);have p6:=((k2.blk ((((HM2.out W2 HK2.out).setU (u+1))).keeps ((Keeps.refl _ _).alloc _)).mc.b (fun hm=>((((HM2.out W2 HK2.out).setU (u+1))).mc.ha _ hm).2 rfl)).frozen 3);have p7:=((k2.blk ((((HM2.out W2 HK2.out).setU (u+1))).keeps ((Keeps.refl _ _).alloc _)).mc.b (fun hm=>((((HM2.out W2 HK2.out).setU (u+1))).mc.ha _ hm).2 rfl)).cell 3);have p8:=((k2.blk ((((HM2.out W2 HK2.out).setU (u+1))).keeps ((Keeps.refl _ _).alloc _)).mc.b (fun hm=>((((HM2.out W2 HK2.out).setU (u+1))).mc.ha _ hm).2 rfl)).lt);clear r2 k2 a2) | (go_at_call 25;refine(doc_runs HM4.out HLT.out hn8 HTI.out (HITS.out _ HM4.out.kn) hil (by omega) (by simp;omega) hk5).mono ?_;rintro e w5 ⟨rfl,gn5,cn5,hm5⟩;rw[← HOUT.out] at hm5;obtain⟨q0,q1,q2,q3,q4⟩:w5.cell? ⟨r,2,none⟩=some (.slice gn5 out.2.2.length cn5)∧w5.cell? ⟨r,1,none⟩=some (.int .i64 out.2.1)∧w5.frozen? ⟨r,1,none⟩=false∧w5.frozen? ⟨r,2,none⟩=false∧r<w5.heap.size:=⟨hm5.mc.b.cell 2,hm5.mc.b.cell 1,hm5.mc.b.frozen 1,hm5.mc.b.frozen 2,hm5.mc.b.lt⟩;have HM5:=Lib.hid hm5;clear hm5) | (at_builtin;refine wpList_rep_append rfl (.tmp 95) (.tmp 97) 39 rfl (.int .i64 0) 8 Try.underlying39 info3 rfl (by decide) (.slice gn5 out.2.2.length cn5) out.2.2 rfl (HM5.out.keeps ((Keeps.refl _ _).alloc _)).mc.n (fun _=>rfl) ⟨w5.heap.size,0,none⟩ 1 1 [bh] rfl rfl (cell_one_new _ _ _) (by simp[Value.oneCell']) (by decide) (by unfold maxLen;omega) (by omega) ?_;intro g6 cap6 w6 r6 k6 a6 lg6 q6;have HM6:=Lib.hid (HM5.out.note ((Keeps.refl _ _).alloc _) r6 k6 a6);have z1:=(k6.blk (HM5.out.keeps ((Keeps.refl _ _).alloc _)).mc.b (fun hm=>(HM5.out.mc.hn _ hm).2.1 rfl)).frozen 2;have z2:=(k6.blk (HM5.out.keeps ((Keeps.refl _ _).alloc _)).mc.b (fun hm=>(HM5.out.mc.hn _ hm).2.1 rfl)).frozen 1;have z3:=(k6.blk (HM5.out.keeps ((Keeps.refl _ _).alloc _)).mc.b (fun hm=>(HM5.out.mc.hn _ hm).2.1 rfl)).lt;have z4:w6.cell? ⟨r,1,none⟩=some (.int .i64 out.2.1):=(k6.blk (HM5.out.keeps ((Keeps.refl _ _).alloc _)).mc.b (fun hm=>(HM5.out.mc.hn _ hm).2.1 rfl)).cell 1;have z5:=(k6.blk (HM5.out.keeps ((Keeps.refl _ _).alloc _)).mc.b (fun hm=>(HM5.out.mc.hn _ hm).2.1 rfl)).cell 2;clear r6 k6 a6))
      go_roundw
      case rel =>
       obtain⟨x',k',hd',hxa⟩:=HD1.out.done h0 hlt HIE.out HTI.out (u':=u+1) (by rw[if_pos (by omega)]) HOUT0.out rfl (sum':=wrap64 (out.2.1+bump)) (notes':=out.2.2++[bh]) (by simp) (by simp) (HM6.out.setS (wrap64 (out.2.1+bump)));exact⟨false,x',_,_,_,_,k',rfl,hd',(fun e=>by cases e),fun e=>by rw[hxa] at e;exact absurd e (by simp)⟩
      case measure =>
       have e1:actsOf _ r=_:=(HM6.out.setS (wrap64 (out.2.1+bump))).mc.actsOf;rw[e1,hao,la'];simp;omega
    ·have du:decide ((u:Int)<(picks.length:Int))=false:=decide_eq_false (by omega)
     cases wt
     ·have HM2:Hid (∀ W,Keeps [] w1 W→DocM N w w.heap.size r gt ct Q.n ths x.a.sum x.a.notes x.acts (.slice gn x.a.notes.length cn) (.slice ga x.acts.length ca) u W):=Lib.hid fun W k=>(HD1.out.keeps k).mem
      have HCL:Hid (∀ W,Keeps [] w1 W→W.cell? ⟨w.heap.size+1,2,none⟩=some (.int .i64 u)∧W.frozen? ⟨w.heap.size+1,2,none⟩=false∧W.cell? ⟨r,3,none⟩=some (.slice ga x.acts.length ca)∧W.frozen? ⟨r,3,none⟩=false∧w.heap.size+1<W.heap.size∧r<W.heap.size):=Lib.hid fun W k=>⟨(HM2.out W k).b1.cell 2,(HM2.out W k).b1.frozen 2,(HM2.out W k).mc.b.cell 3,(HM2.out W k).mc.b.frozen 3,(HM2.out W k).b1.lt,(HM2.out W k).mc.b.lt⟩
      go_wp2_with (first | (go_at_call 24;refine(doc_chosen HD1.out hn8 RR.out (HPV.out _ HD1.out.mem.kn) h0 hpl hac).mono ?_;rintro e w2 ⟨rfl,nd,rfl⟩;obtain⟨p0,p1,p2,p3,p4,p5⟩:=HCL.out _ ((Keeps.refl _ _).drewN nd);have HK2:Hid (Keeps [] w1 (w1.drewN nd)):=Lib.hid ((Keeps.refl _ _).drewN nd);generalize w1.drewN nd=W2 at *;rw[← HIE.out]) | (at_builtin;refine wpList_rep_append rfl (.tmp 80) (.tmp 83) 23 rfl (.int .u8 0) 1 Try.underlying23 info5 rfl (by decide) (.slice ga x.acts.length ca) x.acts rfl (((HM2.out W2 HK2.out)).keeps ((Keeps.refl _ _).alloc _)).mc.a (fun _=>rfl) ⟨W2.heap.size,0,none⟩ 1 1 [i] rfl rfl (cell_one_at _ _ _ (by simp)) (by simp[Value.oneCell']) (by decide) (by unfold maxLen;omega) (by omega) ?_;intro g2 cap2 w3 r2 k2 a2 lg q2;have HM4:=Lib.hid (((HM2.out W2 HK2.out)).act ((Keeps.refl _ _).alloc _) r2 k2 a2);have p6:=((k2.blk (((HM2.out W2 HK2.out)).keeps ((Keeps.refl _ _).alloc _)).mc.b (fun hm=>(((HM2.out W2 HK2.out)).mc.ha _ hm).2 rfl)).frozen 3);have p7:=((k2.blk (((HM2.out W2 HK2.out)).keeps ((Keeps.refl _ _).alloc _)).mc.b (fun hm=>(((HM2.out W2 HK2.out)).mc.ha _ hm).2 rfl)).cell 3);have p8:=((k2.blk (((HM2.out W2 HK2.out)).keeps ((Keeps.refl _ _).alloc _)).mc.b (fun hm=>(((HM2.out W2 HK2.out)).mc.ha _ hm).2 rfl)).lt);clear r2 k2 a2) | (go_at_call 25;refine(doc_runs HM4.out HLT.out hn8 HTI.out (HITS.out _ HM4.out.kn) hil (by omega) (by simp;omega) hk5).mono ?_;rintro e w5 ⟨rfl,gn5,cn5,hm5⟩;rw[← HOUT.out] at hm5;obtain⟨q0,q1,q2,q3,q4⟩:w5.cell? ⟨r,2,none⟩=some (.slice gn5 out.2.2.length cn5)∧w5.cell? ⟨r,1,none⟩=some (.int .i64 out.2.1)∧w5.frozen? ⟨r,1,none⟩=false∧w5.frozen? ⟨r,2,none⟩=false∧r<w5.heap.size:=⟨hm5.mc.b.cell 2,hm5.mc.b.cell 1,hm5.mc.b.frozen 1,hm5.mc.b.frozen 2,hm5.mc.b.lt⟩;have HM5:=Lib.hid hm5;clear hm5))
      go_roundw
      case rel =>
       obtain⟨x',k',hd',hxa⟩:=HD1.out.done h0 hlt HIE.out HTI.out (u':=u) (by rw[if_neg (by omega)]) HOUT0.out rfl (sum':=out.2.1) (notes':=out.2.2) (by simp) (by simp) HM5.out;exact⟨false,x',_,_,_,_,k',rfl,hd',(fun e=>by cases e),fun e=>by rw[hxa] at e;exact absurd e (by simp)⟩
      case measure =>
       have e1:actsOf _ r=_:=HM5.out.mc.actsOf;rw[e1,hao,la'];simp;omega
     ·have HM2:Hid (∀ W,Keeps [] w1 W→DocM N w w.heap.size r gt ct Q.n ths x.a.sum x.a.notes x.acts (.slice gn x.a.notes.length cn) (.slice ga x.acts.length ca) u W):=Lib.hid fun W k=>(HD1.out.keeps k).mem
      have HCL:Hid (∀ W,Keeps [] w1 W→W.cell? ⟨w.heap.size+1,2,none⟩=some (.int .i64 u)∧W.frozen? ⟨w.heap.size+1,2,none⟩=false∧W.cell? ⟨r,3,none⟩=some (.slice ga x.acts.length ca)∧W.frozen? ⟨r,3,none⟩=false∧w.heap.size+1<W.heap.size∧r<W.heap.size):=Lib.hid fun W k=>⟨(HM2.out W k).b1.cell 2,(HM2.out W k).b1.frozen 2,(HM2.out W k).mc.b.cell 3,(HM2.out W k).mc.b.frozen 3,(HM2.out W k).b1.lt,(HM2.out W k).mc.b.lt⟩
      go_wp2_with (first | (go_at_call 24;refine(doc_chosen HD1.out hn8 RR.out (HPV.out _ HD1.out.mem.kn) h0 hpl hac).mono ?_;rintro e w2 ⟨rfl,nd,rfl⟩;obtain⟨p0,p1,p2,p3,p4,p5⟩:=HCL.out _ ((Keeps.refl _ _).drewN nd);have HK2:Hid (Keeps [] w1 (w1.drewN nd)):=Lib.hid ((Keeps.refl _ _).drewN nd);generalize w1.drewN nd=W2 at *;rw[← HIE.out]) | (at_builtin;refine wpList_rep_append rfl (.tmp 80) (.tmp 83) 23 rfl (.int .u8 0) 1 Try.underlying23 info5 rfl (by decide) (.slice ga x.acts.length ca) x.acts rfl (((HM2.out W2 HK2.out)).keeps ((Keeps.refl _ _).alloc _)).mc.a (fun _=>rfl) ⟨W2.heap.size,0,none⟩ 1 1 [i] rfl rfl (cell_one_at _ _ _ (by simp)) (by simp[Value.oneCell']) (by decide) (by unfold maxLen;omega) (by omega) ?_;intro g2 cap2 w3 r2 k2 a2 lg q2;have HM4:=Lib.hid (((HM2.out W2 HK2.out)).act ((Keeps.refl _ _).alloc _) r2 k2 a2);have p6:=((k2.blk (((HM2.out W2 HK2.out)).keeps ((Keeps.refl _ _).alloc _)).mc.b (fun hm=>(((HM2.out W2 HK2.out)).mc.ha _ hm).2 rfl)).frozen 3);have p7:=((k2.blk (((HM2.out W2 HK2.out)).keeps ((Keeps.refl _ _).alloc _)).mc.b (fun hm=>(((HM2.out W2 HK2.out)).mc.ha _ hm).2 rfl)).cell 3);have p8:=((k2.blk (((HM2.out W2 HK2.out)).keeps ((Keeps.refl _ _).alloc _)).mc.b (fun hm=>(((HM2.out W2 HK2.out)).mc.ha _ hm).2 rfl)).lt);clear r2 k2 a2) | (go_at_call 25;refine(doc_runs HM4.out HLT.out hn8 HTI.out (HITS.out _ HM4.out.kn) hil (by omega) (by simp;omega) hk5).mono ?_;rintro e w5 ⟨rfl,gn5,cn5,hm5⟩;rw[← HOUT.out] at hm5;obtain⟨q0,q1,q2,q3,q4⟩:w5.cell? ⟨r,2,none⟩=some (.slice gn5 out.2.2.length cn5)∧w5.cell? ⟨r,1,none⟩=some (.int .i64 out.2.1)∧w5.frozen? ⟨r,1,none⟩=false∧w5.frozen? ⟨r,2,none⟩=false∧r<w5.heap.size:=⟨hm5.mc.b.cell 2,hm5.mc.b.cell 1,hm5.mc.b.frozen 1,hm5.mc.b.frozen 2,hm5.mc.b.lt⟩;have HM5:=Lib.hid hm5;clear hm5) | (at_builtin;refine wpList_rep_append rfl (.tmp 95) (.tmp 97) 39 rfl (.int .i64 0) 8 Try.underlying39 info3 rfl (by decide) (.slice gn5 out.2.2.length cn5) out.2.2 rfl (HM5.out.keeps ((Keeps.refl _ _).alloc _)).mc.n (fun _=>rfl) ⟨w5.heap.size,0,none⟩ 1 1 [bh] rfl rfl (cell_one_new _ _ _) (by simp[Value.oneCell']) (by decide) (by unfold maxLen;omega) (by omega) ?_;intro g6 cap6 w6 r6 k6 a6 lg6 q6;have HM6:=Lib.hid (HM5.out.note ((Keeps.refl _ _).alloc _) r6 k6 a6);have z1:=(k6.blk (HM5.out.keeps ((Keeps.refl _ _).alloc _)).mc.b (fun hm=>(HM5.out.mc.hn _ hm).2.1 rfl)).frozen 2;have z2:=(k6.blk (HM5.out.keeps ((Keeps.refl _ _).alloc _)).mc.b (fun hm=>(HM5.out.mc.hn _ hm).2.1 rfl)).frozen 1;have z3:=(k6.blk (HM5.out.keeps ((Keeps.refl _ _).alloc _)).mc.b (fun hm=>(HM5.out.mc.hn _ hm).2.1 rfl)).lt;have z4:w6.cell? ⟨r,1,none⟩=some (.int .i64 out.2.1):=(k6.blk (HM5.out.keeps ((Keeps.refl _ _).alloc _)).mc.b (fun hm=>(HM5.out.mc.hn _ hm).2.1 rfl)).cell 1;have z5:=(k6.blk (HM5.out.keeps ((Keeps.refl _ _).alloc _)).mc.b (fun hm=>(HM5.out.mc.hn _ hm).2.1 rfl)).cell 2;clear r6 k6 a6))
      go_roundw
      case rel =>
       obtain⟨x',k',hd',hxa⟩:=HD1.out.done h0 hlt HIE.out HTI.out (u':=u) (by rw[if_neg (by omega)]) HOUT0.out rfl (sum':=wrap64 (out.2.1+bump)) (notes':=out.2.2++[bh]) (by simp) (by simp) (HM6.out.setS (wrap64 (out.2.1+bump)));exact⟨false,x',_,_,_,_,k',rfl,hd',(fun e=>by cases e),fun e=>by rw[hxa] at e;exact absurd e (by simp)⟩
      case measure =>
       have e1:actsOf _ r=_:=(HM6.out.setS (wrap64 (out.2.1+bump))).mc.actsOf;rw[e1,hao,la'];simp;omega
  ·have hyx:y=x:=HD.out.stuck fun hlt=>by
    cases st with
    | true=>exact HST.out rfl
    | false=>exact absurd ⟨rfl,hlt⟩ hgo
   subst hyx;have htn:ths.length=Q.n:=HD.out.m.len;have HOVER:Hid (∀ j,j<Q.n→∃ t,ths[j]?=some t∧t.over=isDoneE (y.st j)):=Lib.hid fun j hj=>by
    obtain⟨t,h1,h2,_⟩:=HD.out.m.at_ j hj;exact⟨t,h1,over_done h2⟩
   obtain⟨ds,hds⟩:∃ ds,ds=donesE Q.n y.st:=⟨_,rfl⟩;have HDJ:Hid (∀ j,j<Q.n→ds[j]?=some (isDoneE (y.st j))):=Lib.hid fun j hj=>by rw[hds];simp[donesE,hj]
   have HDL:Hid (ds.length=Q.n):=Lib.hid (by rw[hds];simp[donesE]);obtain⟨cut,hcut⟩:∃ cut,cut=decide (most≤(y.acts.length:Int)):=⟨_,rfl⟩;have HPOST:Hid (∀ (v2 va':Value) (wb wq W:World),DocT N w w.heap.size r gt ct Q.n ths y.a.sum y.a.notes y.acts (.slice gn y.a.notes.length cn) (.slice ga y.acts.length ca) va' u wb→Keeps [w.heap.size+1] wb wq→RepE wq v2 (endsM cut ds)→(∀ b∈fp v2,wb.heap.size≤b)→Keeps [w.heap.size] wq W →
     DocQ Q C N w r gt ct picks most wt bh bump y (.returned (.tuple #[.agg #[va',v2,.int .i64 u],.int .i64 (codeM cut ds)])) W):=Lib.hid fun v2 va' wb wq W T k1 r2 f2 k2=>by
    have k:Keeps [w.heap.size,w.heap.size+1] wb W:=(k1.mono (by simp)).trans (k2.mono (by simp)) fun _ h _=>h;refine⟨va',v2,ths,_,_,?_,T.repa k,?_,(T.mach k).unlow,T.knq k⟩
    ·show _=Ending.returned (.tuple #[.agg #[va',v2,.int .i64 ((picks.length-y.left.length:Nat):Int)],.int .i64 (codeM (decide (most≤(y.acts.length:Int))) (donesE Q.n y.st))])
     rw[HD.out.used,← hcut,← hds]
    ·rw[← hcut,← hds]
     exact r2.keeps k2 fun b hb hm=>by have h1:=f2 b hb;have h2:=T.hH;rw[List.mem_singleton.1 hm] at h1;omega
   have HCUT:=Lib.hid hcut;have p0:wr.cell? ⟨w.heap.size+1,0,none⟩=some (.slice none 0 0):=HD.out.mem.b1.cell 0;have p1:=HD.out.mem.b1.frozen 0;have p2:=HD.out.mem.b1.lt;have hal:y.acts.length<4294967295:=hfin;have hac2:∀ (W:World),Keeps [] wr W→RepU W (.slice ga y.acts.length ca) y.acts:=fun W k=>(HD.out.mem.keeps k).mc.a;have HAC:=Lib.hid hac2;have HM:Hid (DocM N w w.heap.size r gt ct Q.n ths y.a.sum y.a.notes y.acts (.slice gn y.a.notes.length cn) (.slice ga y.acts.length ca) u wr):=Lib.hid HD.out.mem;have hcase:(st=true∧decide ((y.acts.length:Int)<most)=true)∨(st=true∧decide ((y.acts.length:Int)<most)=false)∨st=false∧decide ((y.acts.length:Int)<most)=false:=by
    cases st with
    | true=>exact(Decidable.em ((y.acts.length:Int)<most)).elim (fun h=>.inl ⟨rfl,decide_eq_true h⟩) fun h=>.inr (.inl ⟨rfl,decide_eq_false h⟩)
    | false=>exact .inr (.inr ⟨rfl,decide_eq_false fun h=>hgo ⟨rfl,h⟩⟩)
   clear HD hds hcut hac2 hgo HPB HPV HIT HL HP8 HD0 d1 d2 d3 d4 c0 hcp hmp hpl hMb hao hfa hul hnl;by_cases hx:y.acts=[]
   ·obtain⟨rfl,dl⟩:st=false∧decide ((y.acts.length:Int)<most)=false:=(hcase.resolve_left fun e=>HST2.out hx (HST.out e.1)).resolve_left fun e=>HST2.out hx (HST.out e.1)
    clear HST HST2 hcase;have hx0:y.acts.length=0:=by rw[hx];rfl
    rw[hx0] at e3 dl HPOST HCUT HM hal;obtain rfl:most=0:=by
     have h1:=of_decide_eq_false dl;omega
    obtain rfl:cut=true:=by
     rw[HCUT.out];rfl
    cases ga with
    | none =>
     go_wp2
     go_region
     have T:DocT N w w.heap.size r gt ct Q.n ths y.a.sum y.a.notes y.acts (.slice gn y.a.notes.length cn) (.slice none 0 ca) (.slice none 0 0) u (wr.setCell ⟨w.heap.size+1,0,none⟩ (.slice none 0 0)):=by
      have h1:=HM.out;rw[hx] at h1 ⊢;exact DocT.nil h1 (Keeps.refl _ _) rfl
     have T:=DocT.later T;generalize (wr.setCell ⟨w.heap.size+1,0,none⟩ (.slice none 0 0)).drew=wb at T ⊢;have HT:=Lib.hid T;clear T
     go_wp2
     go_loopw [18,19] (fun lv iv wq=>∃ (j:Nat) (ve:Value),j≤Q.n∧iv=.int .i64 j∧lv=.bool ((ds.take j).any not)∧RepE wq ve (endsM true (ds.take j))∧Blk wq (w.heap.size+1) [.slice none 0 0,ve,.int .i64 u] 30∧(∀ b∈fp ve,wb.heap.size≤b)∧Keeps [w.heap.size+1] wb wq) (fun _ iv _=>Q.n-(intOf iv).toNat)
     case atStart=>exact⟨0,_,by omega,rfl,rfl,Rep.nil,HT.out.b1,by simp[fp,Value.ownBlock],Keeps.refl _ _⟩
     case round =>
      obtain⟨j,ve,hj,rfl,rfl,hrep,hb1,hfr,hkp⟩:=hrel;have hkk:Keeps [w.heap.size,w.heap.size+1] wb wr:=hkp.mono (by simp);have HMQ:=Lib.hid (HT.out.mach hkk);obtain⟨ae,ce,rfl,_,_,_⟩:=hrep.form;have z0:wr.cell? ⟨r,0,none⟩=some (.slice (some ⟨gt,0,none⟩) Q.n ct):=HMQ.out.b.cell 0;have z1:wr.cell? ⟨r,3,none⟩=some (.slice none 0 ca):=HMQ.out.b.cell 3;have z2:r<wr.heap.size:=HMQ.out.b.lt;have z3:=hb1.cell 1;have z4:=hb1.frozen 1;have z5:=hb1.lt;simp only[List.getElem?_cons_zero,List.getElem?_cons_succ] at z3;have HKP:=Lib.hid hkp;have HR:=Lib.hid (fun(W:World) (k:Keeps [] wr W)=>hrep.keeps k (by simp));have HF:=Lib.hid hfr;have HB1:=Lib.hid hb1;have hlen:(endsM true (ds.take j)).length≤8:=by unfold endsM;rw[List.length_map];exact Nat.le_trans (List.length_take_le _ _) (by omega)
      by_cases hlt:j<Q.n
      ·have hdj:=HDJ.out j hlt
       obtain⟨t,ht1,ht2⟩:=HOVER.out j hlt;have HM3:=HMQ.out;rw[← htn] at HM3;obtain⟨gt',ct',et,y1,_,y2,y3,y4,y5,y6⟩:=HM3.cells ht1;cases et;rw[ht2] at y4;generalize isDoneE (y.st j)=d at y4 hdj;have ht:ds.take (j+1)=ds.take j++[d]:=by rw[List.take_add_one,hdj];rfl
       have HTK:=Lib.hid ht;clear hkp hrep hfr hb1 ht hdj HM3 y2 y3 y5 y6 hkk ht1 ht2;cases d
       ·skip
        ·skip
         go_wp2_with (at_builtin;refine wpList_rep_append rfl (.tmp 143) (.tmp 145) 28 rfl (.int .u8 0) 1 Try.underlying28 info69 rfl (by decide) (.slice ae (endsM true (ds.take j)).length ce) (endsM true (ds.take j)) rfl (HR.out _ ((Keeps.refl _ _).alloc _)) (fun _=>rfl) ⟨wr.heap.size,0,none⟩ 1 1 [4] rfl rfl (cell_one_at _ _ _ rfl) (by simp[Value.oneCell']) (by decide) (by unfold maxLen;omega) (by omega) ?_;intro g2 cap2 w3 r3 k3 a3 lg3 q3;have b9:=k3.blk (HB1.out.alloc _) (fun hm=>by have h1:=HF.out _ hm;have h2:=HT.out.hH;omega);have x1:=b9.cell 1;have x2:=b9.frozen 1;have x3:=b9.lt;have R3:=Lib.hid r3;have K3:=Lib.hid k3;have A3:=Lib.hid a3;clear r3 k3 a3 b9)
         go_roundw
         case rel=>exact doc_rel (d:=false) (cut:=true) (ev:=4) hlt HTK.out rfl (by simp) HB1.out HT.out.hH HF.out HKP.out ((Keeps.refl _ _).alloc _) R3.out K3.out A3.out rfl
         case measure=>simp[intOf];omega
       ·go_wp2_with (at_builtin;refine wpList_rep_append rfl (.tmp 143) (.tmp 145) 28 rfl (.int .u8 0) 1 Try.underlying28 info69 rfl (by decide) (.slice ae (endsM true (ds.take j)).length ce) (endsM true (ds.take j)) rfl (HR.out _ ((Keeps.refl _ _).alloc _)) (fun _=>rfl) ⟨wr.heap.size,0,none⟩ 1 1 [1] rfl rfl (cell_one_at _ _ _ rfl) (by simp[Value.oneCell']) (by decide) (by unfold maxLen;omega) (by omega) ?_;intro g2 cap2 w3 r3 k3 a3 lg3 q3;have b9:=k3.blk (HB1.out.alloc _) (fun hm=>by have h1:=HF.out _ hm;have h2:=HT.out.hH;omega);have x1:=b9.cell 1;have x2:=b9.frozen 1;have x3:=b9.lt;have R3:=Lib.hid r3;have K3:=Lib.hid k3;have A3:=Lib.hid a3;clear r3 k3 a3 b9)
        go_roundw
        case rel=>exact doc_rel (d:=true) (cut:=true) (ev:=1) hlt HTK.out rfl (by simp) HB1.out HT.out.hH HF.out HKP.out ((Keeps.refl _ _).alloc _) R3.out K3.out A3.out rfl
        case measure=>simp[intOf];omega
      ·obtain rfl:j=Q.n:=by omega
       have hta:ds.take Q.n=ds:=List.take_of_length_le (by have:=HDL.out;omega);rw[hta] at hrep hb1 hfr ⊢;clear HR HF HB1 z3 hlen;generalize hle:(endsM true ds).length=le at *;have HLE:=Lib.hid hle;clear hle;have hb0:=hkp.blk HT.out.b0 (by simp);have c0:=hb1.cell 0;have c1:=hb1.cell 1;have c2:=hb1.cell 2;have f0:=hb0.frozen 0;have f1:=hb0.frozen 1;have f2:=hb0.frozen 2;have y0:=hb0.cell 0;have y1:=hb0.cell 1;have y2:=hb0.cell 2;have l0:=hb0.lt;have l1:=hb1.lt;simp only[List.getElem?_cons_zero,List.getElem?_cons_succ] at c0 c1 c2 y0 y1 y2;have hall:=any_not_all ds;have HA:=Lib.hid hall;have HB0:=Lib.hid hb0;have HRR:=Lib.hid hrep;have HFF:=Lib.hid hfr;have HPP:Hid (∀ W,Keeps [w.heap.size] wr W→DocQ Q C N w r gt ct picks 0 wt bh bump y (.returned (.tuple #[.agg #[.slice none 0 0,.slice ae le ce,.int .i64 u],.int .i64 (codeM true ds)])) W):=Lib.hid fun W k=>HPOST.out _ _ wb wr W HT.out HKP.out hrep hfr k;have HCM:Hid (codeM true ds=if ds.all id then 0 else if true then 81 else 80):=rfl;clear hta hall hb0 hb1 hrep hfr hkp hkk;rw[HA.out];generalize ds.all id=al at *;cases al
       ·skip
        ·skip
         have hcd:codeM true ds=81:=HCM.out;rw[hcd] at HPP
         go_wp2
         (try simp only[Exit.inBlock,Exit.then])
         refine bodyPost_ret (results_c30v (v:=.int .i64 81) rfl rfl rfl (((HB0.out.set 0 _).set 1 _).set 2 _)) rfl ?_;refine HPP.out _ ?_;refine Keeps.setCell ?_ _ _ (fun _=>by simp);refine Keeps.setCell ?_ _ _ (fun _=>by simp);refine Keeps.setCell ?_ _ _ (fun _=>by simp);exact Keeps.refl _ _
       ·have hcd:codeM true ds=0:=HCM.out
        rw[hcd] at HPP
        go_wp2
        (try simp only[Exit.inBlock,Exit.then])
        refine bodyPost_ret (results_c30v (v:=.int .i64 0) rfl rfl rfl (((HB0.out.set 0 _).set 1 _).set 2 _)) rfl ?_;refine HPP.out _ ?_;refine Keeps.setCell ?_ _ _ (fun _=>by simp);refine Keeps.setCell ?_ _ _ (fun _=>by simp);refine Keeps.setCell ?_ _ _ (fun _=>by simp);exact Keeps.refl _ _
    | some ga =>
     go_wp2
     go_region
     have T:DocT N w w.heap.size r gt ct Q.n ths y.a.sum y.a.notes y.acts (.slice gn y.a.notes.length cn) (.slice (some ga) 0 ca) (.slice none 0 0) u (wr.setCell ⟨w.heap.size+1,0,none⟩ (.slice none 0 0)):=by
      have h1:=HM.out;rw[hx] at h1 ⊢;exact DocT.nil h1 (Keeps.refl _ _) rfl
     have T:=DocT.later T;generalize (wr.setCell ⟨w.heap.size+1,0,none⟩ (.slice none 0 0)).drew=wb at T ⊢;have HT:=Lib.hid T;clear T
     go_wp2
     go_loopw [18,19] (fun lv iv wq=>∃ (j:Nat) (ve:Value),j≤Q.n∧iv=.int .i64 j∧lv=.bool ((ds.take j).any not)∧RepE wq ve (endsM true (ds.take j))∧Blk wq (w.heap.size+1) [.slice none 0 0,ve,.int .i64 u] 30∧(∀ b∈fp ve,wb.heap.size≤b)∧Keeps [w.heap.size+1] wb wq) (fun _ iv _=>Q.n-(intOf iv).toNat)
     case atStart=>exact⟨0,_,by omega,rfl,rfl,Rep.nil,HT.out.b1,by simp[fp,Value.ownBlock],Keeps.refl _ _⟩
     case round =>
      obtain⟨j,ve,hj,rfl,rfl,hrep,hb1,hfr,hkp⟩:=hrel;have hkk:Keeps [w.heap.size,w.heap.size+1] wb wr:=hkp.mono (by simp);have HMQ:=Lib.hid (HT.out.mach hkk);obtain⟨ae,ce,rfl,_,_,_⟩:=hrep.form;have z0:wr.cell? ⟨r,0,none⟩=some (.slice (some ⟨gt,0,none⟩) Q.n ct):=HMQ.out.b.cell 0;have z1:wr.cell? ⟨r,3,none⟩=some (.slice (some ga) 0 ca):=HMQ.out.b.cell 3;have z2:r<wr.heap.size:=HMQ.out.b.lt;have z3:=hb1.cell 1;have z4:=hb1.frozen 1;have z5:=hb1.lt;simp only[List.getElem?_cons_zero,List.getElem?_cons_succ] at z3;have HKP:=Lib.hid hkp;have HR:=Lib.hid (fun(W:World) (k:Keeps [] wr W)=>hrep.keeps k (by simp));have HF:=Lib.hid hfr;have HB1:=Lib.hid hb1;have hlen:(endsM true (ds.take j)).length≤8:=by unfold endsM;rw[List.length_map];exact Nat.le_trans (List.length_take_le _ _) (by omega)
      by_cases hlt:j<Q.n
      ·have hdj:=HDJ.out j hlt
       obtain⟨t,ht1,ht2⟩:=HOVER.out j hlt;have HM3:=HMQ.out;rw[← htn] at HM3;obtain⟨gt',ct',et,y1,_,y2,y3,y4,y5,y6⟩:=HM3.cells ht1;cases et;rw[ht2] at y4;generalize isDoneE (y.st j)=d at y4 hdj;have ht:ds.take (j+1)=ds.take j++[d]:=by rw[List.take_add_one,hdj];rfl
       have HTK:=Lib.hid ht;clear hkp hrep hfr hb1 ht hdj HM3 y2 y3 y5 y6 hkk ht1 ht2;cases d
       ·skip
        ·skip
         go_wp2_with (at_builtin;refine wpList_rep_append rfl (.tmp 143) (.tmp 145) 28 rfl (.int .u8 0) 1 Try.underlying28 info69 rfl (by decide) (.slice ae (endsM true (ds.take j)).length ce) (endsM true (ds.take j)) rfl (HR.out _ ((Keeps.refl _ _).alloc _)) (fun _=>rfl) ⟨wr.heap.size,0,none⟩ 1 1 [4] rfl rfl (cell_one_at _ _ _ rfl) (by simp[Value.oneCell']) (by decide) (by unfold maxLen;omega) (by omega) ?_;intro g2 cap2 w3 r3 k3 a3 lg3 q3;have b9:=k3.blk (HB1.out.alloc _) (fun hm=>by have h1:=HF.out _ hm;have h2:=HT.out.hH;omega);have x1:=b9.cell 1;have x2:=b9.frozen 1;have x3:=b9.lt;have R3:=Lib.hid r3;have K3:=Lib.hid k3;have A3:=Lib.hid a3;clear r3 k3 a3 b9)
         go_roundw
         case rel=>exact doc_rel (d:=false) (cut:=true) (ev:=4) hlt HTK.out rfl (by simp) HB1.out HT.out.hH HF.out HKP.out ((Keeps.refl _ _).alloc _) R3.out K3.out A3.out rfl
         case measure=>simp[intOf];omega
       ·go_wp2_with (at_builtin;refine wpList_rep_append rfl (.tmp 143) (.tmp 145) 28 rfl (.int .u8 0) 1 Try.underlying28 info69 rfl (by decide) (.slice ae (endsM true (ds.take j)).length ce) (endsM true (ds.take j)) rfl (HR.out _ ((Keeps.refl _ _).alloc _)) (fun _=>rfl) ⟨wr.heap.size,0,none⟩ 1 1 [1] rfl rfl (cell_one_at _ _ _ rfl) (by simp[Value.oneCell']) (by decide) (by unfold maxLen;omega) (by omega) ?_;intro g2 cap2 w3 r3 k3 a3 lg3 q3;have b9:=k3.blk (HB1.out.alloc _) (fun hm=>by have h1:=HF.out _ hm;have h2:=HT.out.hH;omega);have x1:=b9.cell 1;have x2:=b9.frozen 1;have x3:=b9.lt;have R3:=Lib.hid r3;have K3:=Lib.hid k3;have A3:=Lib.hid a3;clear r3 k3 a3 b9)
        go_roundw
        case rel=>exact doc_rel (d:=true) (cut:=true) (ev:=1) hlt HTK.out rfl (by simp) HB1.out HT.out.hH HF.out HKP.out ((Keeps.refl _ _).alloc _) R3.out K3.out A3.out rfl
        case measure=>simp[intOf];omega
      ·obtain rfl:j=Q.n:=by omega
       have hta:ds.take Q.n=ds:=List.take_of_length_le (by have:=HDL.out;omega);rw[hta] at hrep hb1 hfr ⊢;clear HR HF HB1 z3 hlen;generalize hle:(endsM true ds).length=le at *;have HLE:=Lib.hid hle;clear hle;have hb0:=hkp.blk HT.out.b0 (by simp);have c0:=hb1.cell 0;have c1:=hb1.cell 1;have c2:=hb1.cell 2;have f0:=hb0.frozen 0;have f1:=hb0.frozen 1;have f2:=hb0.frozen 2;have y0:=hb0.cell 0;have y1:=hb0.cell 1;have y2:=hb0.cell 2;have l0:=hb0.lt;have l1:=hb1.lt;simp only[List.getElem?_cons_zero,List.getElem?_cons_succ] at c0 c1 c2 y0 y1 y2;have hall:=any_not_all ds;have HA:=Lib.hid hall;have HB0:=Lib.hid hb0;have HRR:=Lib.hid hrep;have HFF:=Lib.hid hfr;have HPP:Hid (∀ W,Keeps [w.heap.size] wr W→DocQ Q C N w r gt ct picks 0 wt bh bump y (.returned (.tuple #[.agg #[.slice none 0 0,.slice ae le ce,.int .i64 u],.int .i64 (codeM true ds)])) W):=Lib.hid fun W k=>HPOST.out _ _ wb wr W HT.out HKP.out hrep hfr k;have HCM:Hid (codeM true ds=if ds.all id then 0 else if true then 81 else 80):=rfl;clear hta hall hb0 hb1 hrep hfr hkp hkk;rw[HA.out];generalize ds.all id=al at *;cases al
       ·skip
        ·skip
         have hcd:codeM true ds=81:=HCM.out;rw[hcd] at HPP
         go_wp2
         (try simp only[Exit.inBlock,Exit.then])
         refine bodyPost_ret (results_c30v (v:=.int .i64 81) rfl rfl rfl (((HB0.out.set 0 _).set 1 _).set 2 _)) rfl ?_;refine HPP.out _ ?_;refine Keeps.setCell ?_ _ _ (fun _=>by simp);refine Keeps.setCell ?_ _ _ (fun _=>by simp);refine Keeps.setCell ?_ _ _ (fun _=>by simp);exact Keeps.refl _ _
       ·have hcd:codeM true ds=0:=HCM.out
        rw[hcd] at HPP
        go_wp2
        (try simp only[Exit.inBlock,Exit.then])
        refine bodyPost_ret (results_c30v (v:=.int .i64 0) rfl rfl rfl (((HB0.out.set 0 _).set 1 _).set 2 _)) rfl ?_;refine HPP.out _ ?_;refine Keeps.setCell ?_ _ _ (fun _=>by simp);refine Keeps.setCell ?_ _ _ (fun _=>by simp);refine Keeps.setCell ?_ _ _ (fun _=>by simp);exact Keeps.refl _ _
   ·clear HST HST2
    rcases hcase with⟨rfl,dl⟩ | ⟨rfl,dl⟩ | ⟨rfl,dl⟩
    all_goals
     have hxl:=List.length_pos_iff.2 hx;obtain⟨gA,cA,eA,hgA,_⟩:=(HM.out.mc.a).ex hxl;cases eA;have HNW:Hid (∀ (W:World),Keeps [] wr W→∀ (j:Nat) (u:Value),(y.acts.flatMap fun x:Nat=>[Value.int .u8 x])[j]?=some u→W.cell? ((⟨gA,0,none⟩:Addr).add j)=some u):=Lib.hid fun W k=>row_news fun j u hu=>by
      rw[Nat.zero_add];exact(HAC.out W k).cell1 (u:=fun x:Nat=>Value.int .u8 x) (fun _=>rfl) j u hu
     go_wp2
     go_region_law (refine step_rep_append rfl (.tmp 110) (.tmp 114) 23 rfl (.int .u8 0) 1 Try.underlying23 info5 rfl (by decide) (.slice none 0 0) [] (by simp[Act.eval,Act.put]) Rep.nil (fun _=>rfl) ⟨gA,0,none⟩ y.acts.length ca y.acts (by simp[Act.eval,Act.put]) rfl (HNW.out _ (by repeat' first | exact Keeps.refl _ _ | refine Keeps.drew ?_ | refine Keeps.drewN ?_ _)) row_ones (by omega) (by unfold maxLen;simp only[List.length_nil];omega) (by simp only[List.length_nil];omega) ?_;intro g2 cap2 w2 r2 k2 a2 lg q2;have b9:=k2.blk ((HM.out.keeps (by repeat' first | exact Keeps.refl _ _ | refine Keeps.drew ?_ | refine Keeps.drewN ?_ _)).b1) (by simp[fp,Value.ownBlock]);have x1:=b9.cell 0;have x2:=b9.frozen 0;have x3:=b9.lt;clear b9)
     all_goals
      have HT:Hid (∀ W,W=w2.setCell ⟨w.heap.size+1,0,none⟩ (.slice (some ⟨g2,0,none⟩) y.acts.length cap2)→DocT N w w.heap.size r gt ct Q.n ths y.a.sum y.a.notes y.acts (.slice gn y.a.notes.length cn) (.slice (some ⟨gA,0,none⟩) y.acts.length ca) (.slice (some ⟨g2,0,none⟩) y.acts.length cap2) u W):=Lib.hid fun W hW=>DocT.grown HM.out (by repeat' first | exact Keeps.refl _ _ | refine Keeps.drew ?_ | refine Keeps.drewN ?_ _) (by simpa using r2) (k2.mono (by simp[fp,Value.ownBlock])) (by simpa[fp,Value.ownBlock] using a2) hW;clear r2 k2 a2 q2;have T:=HT.out _ rfl;clear HT x1 x2;generalize w2.setCell ⟨w.heap.size+1,0,none⟩ (.slice (some ⟨g2,0,none⟩) y.acts.length cap2)=wb at T ⊢;have HT:=Lib.hid T;clear T
      go_wp2
      go_loopw [18,19] (fun lv iv wq=>∃ (j:Nat) (ve:Value),j≤Q.n∧iv=.int .i64 j∧lv=.bool ((ds.take j).any not)∧RepE wq ve (endsM cut (ds.take j))∧Blk wq (w.heap.size+1) [.slice (some ⟨g2,0,none⟩) y.acts.length cap2,ve,.int .i64 u] 30∧(∀ b∈fp ve,wb.heap.size≤b)∧Keeps [w.heap.size+1] wb wq) (fun _ iv _=>Q.n-(intOf iv).toNat)
      case atStart=>exact⟨0,_,by omega,rfl,rfl,Rep.nil,HT.out.b1,by simp[fp,Value.ownBlock],Keeps.refl _ _⟩
      case round =>
       obtain⟨j,ve,hj,rfl,rfl,hrep,hb1,hfr,hkp⟩:=hrel;have hkk:Keeps [w.heap.size,w.heap.size+1] wb wr:=hkp.mono (by simp);have HMQ:=Lib.hid (HT.out.mach hkk);obtain⟨ae,ce,rfl,_,_,_⟩:=hrep.form;have z0:wr.cell? ⟨r,0,none⟩=some (.slice (some ⟨gt,0,none⟩) Q.n ct):=HMQ.out.b.cell 0;have z1:wr.cell? ⟨r,3,none⟩=some (.slice (some ⟨gA,0,none⟩) y.acts.length ca):=HMQ.out.b.cell 3;have z2:r<wr.heap.size:=HMQ.out.b.lt;have z3:=hb1.cell 1;have z4:=hb1.frozen 1;have z5:=hb1.lt;simp only[List.getElem?_cons_zero,List.getElem?_cons_succ] at z3;have HKP:=Lib.hid hkp;have HR:=Lib.hid (fun(W:World) (k:Keeps [] wr W)=>hrep.keeps k (by simp));have HF:=Lib.hid hfr;have HB1:=Lib.hid hb1;have hlen:(endsM cut (ds.take j)).length≤8:=by unfold endsM;rw[List.length_map];exact Nat.le_trans (List.length_take_le _ _) (by omega)
       by_cases hlt:j<Q.n
       ·have hdj:=HDJ.out j hlt
        obtain⟨t,ht1,ht2⟩:=HOVER.out j hlt;have HM3:=HMQ.out;rw[← htn] at HM3;obtain⟨gt',ct',et,y1,_,y2,y3,y4,y5,y6⟩:=HM3.cells ht1;cases et;rw[ht2] at y4;generalize isDoneE (y.st j)=d at y4 hdj;have ht:ds.take (j+1)=ds.take j++[d]:=by rw[List.take_add_one,hdj];rfl
        have HTK:=Lib.hid ht;clear hkp hrep hfr hb1 ht hdj HM3 y2 y3 y5 y6 hkk ht1 ht2;cases d
        ·cases cut
         ·have dc:decide (most≤(y.acts.length:Int))=false:=HCUT.out.symm
          go_wp2_with (at_builtin;refine wpList_rep_append rfl (.tmp 143) (.tmp 145) 28 rfl (.int .u8 0) 1 Try.underlying28 info69 rfl (by decide) (.slice ae (endsM false (ds.take j)).length ce) (endsM false (ds.take j)) rfl (HR.out _ ((Keeps.refl _ _).alloc _)) (fun _=>rfl) ⟨wr.heap.size,0,none⟩ 1 1 [3] rfl rfl (cell_one_at _ _ _ rfl) (by simp[Value.oneCell']) (by decide) (by unfold maxLen;omega) (by omega) ?_;intro g2 cap2 w3 r3 k3 a3 lg3 q3;have b9:=k3.blk (HB1.out.alloc _) (fun hm=>by have h1:=HF.out _ hm;have h2:=HT.out.hH;omega);have x1:=b9.cell 1;have x2:=b9.frozen 1;have x3:=b9.lt;have R3:=Lib.hid r3;have K3:=Lib.hid k3;have A3:=Lib.hid a3;clear r3 k3 a3 b9)
          go_roundw
          case rel=>exact doc_rel (d:=false) (cut:=false) (ev:=3) hlt HTK.out rfl (by simp) HB1.out HT.out.hH HF.out HKP.out ((Keeps.refl _ _).alloc _) R3.out K3.out A3.out rfl
          case measure=>simp[intOf];omega
         ·have dc:decide (most≤(y.acts.length:Int))=true:=HCUT.out.symm
          go_wp2_with (at_builtin;refine wpList_rep_append rfl (.tmp 143) (.tmp 145) 28 rfl (.int .u8 0) 1 Try.underlying28 info69 rfl (by decide) (.slice ae (endsM true (ds.take j)).length ce) (endsM true (ds.take j)) rfl (HR.out _ ((Keeps.refl _ _).alloc _)) (fun _=>rfl) ⟨wr.heap.size,0,none⟩ 1 1 [4] rfl rfl (cell_one_at _ _ _ rfl) (by simp[Value.oneCell']) (by decide) (by unfold maxLen;omega) (by omega) ?_;intro g2 cap2 w3 r3 k3 a3 lg3 q3;have b9:=k3.blk (HB1.out.alloc _) (fun hm=>by have h1:=HF.out _ hm;have h2:=HT.out.hH;omega);have x1:=b9.cell 1;have x2:=b9.frozen 1;have x3:=b9.lt;have R3:=Lib.hid r3;have K3:=Lib.hid k3;have A3:=Lib.hid a3;clear r3 k3 a3 b9)
          go_roundw
          case rel=>exact doc_rel (d:=false) (cut:=true) (ev:=4) hlt HTK.out rfl (by simp) HB1.out HT.out.hH HF.out HKP.out ((Keeps.refl _ _).alloc _) R3.out K3.out A3.out rfl
          case measure=>simp[intOf];omega
        ·go_wp2_with (at_builtin;refine wpList_rep_append rfl (.tmp 143) (.tmp 145) 28 rfl (.int .u8 0) 1 Try.underlying28 info69 rfl (by decide) (.slice ae (endsM cut (ds.take j)).length ce) (endsM cut (ds.take j)) rfl (HR.out _ ((Keeps.refl _ _).alloc _)) (fun _=>rfl) ⟨wr.heap.size,0,none⟩ 1 1 [1] rfl rfl (cell_one_at _ _ _ rfl) (by simp[Value.oneCell']) (by decide) (by unfold maxLen;omega) (by omega) ?_;intro g2 cap2 w3 r3 k3 a3 lg3 q3;have b9:=k3.blk (HB1.out.alloc _) (fun hm=>by have h1:=HF.out _ hm;have h2:=HT.out.hH;omega);have x1:=b9.cell 1;have x2:=b9.frozen 1;have x3:=b9.lt;have R3:=Lib.hid r3;have K3:=Lib.hid k3;have A3:=Lib.hid a3;clear r3 k3 a3 b9)
         go_roundw
         case rel=>exact doc_rel (d:=true) (cut:=cut) (ev:=1) hlt HTK.out rfl (by simp) HB1.out HT.out.hH HF.out HKP.out ((Keeps.refl _ _).alloc _) R3.out K3.out A3.out rfl
         case measure=>simp[intOf];omega
       ·obtain rfl:j=Q.n:=by omega
        have hta:ds.take Q.n=ds:=List.take_of_length_le (by have:=HDL.out;omega);rw[hta] at hrep hb1 hfr ⊢;clear HR HF HB1 z3 hlen;generalize hle:(endsM cut ds).length=le at *;have HLE:=Lib.hid hle;clear hle;have hb0:=hkp.blk HT.out.b0 (by simp);have c0:=hb1.cell 0;have c1:=hb1.cell 1;have c2:=hb1.cell 2;have f0:=hb0.frozen 0;have f1:=hb0.frozen 1;have f2:=hb0.frozen 2;have y0:=hb0.cell 0;have y1:=hb0.cell 1;have y2:=hb0.cell 2;have l0:=hb0.lt;have l1:=hb1.lt;simp only[List.getElem?_cons_zero,List.getElem?_cons_succ] at c0 c1 c2 y0 y1 y2;have hall:=any_not_all ds;have HA:=Lib.hid hall;have HB0:=Lib.hid hb0;have HRR:=Lib.hid hrep;have HFF:=Lib.hid hfr;have HPP:Hid (∀ W,Keeps [w.heap.size] wr W→DocQ Q C N w r gt ct picks most wt bh bump y (.returned (.tuple #[.agg #[.slice (some ⟨g2,0,none⟩) y.acts.length cap2,.slice ae le ce,.int .i64 u],.int .i64 (codeM cut ds)])) W):=Lib.hid fun W k=>HPOST.out _ _ wb wr W HT.out HKP.out hrep hfr k;have HCM:Hid (codeM cut ds=if ds.all id then 0 else if cut then 81 else 80):=rfl;clear hta hall hb0 hb1 hrep hfr hkp hkk;rw[HA.out];generalize ds.all id=al at *;cases al
        ·cases cut
         ·have dc:decide (most≤(y.acts.length:Int))=false:=HCUT.out.symm
          have hcd:codeM false ds=80:=HCM.out;rw[hcd] at HPP
          go_wp2
          (try simp only[Exit.inBlock,Exit.then])
          refine bodyPost_ret (results_c30v (v:=.int .i64 80) rfl rfl rfl (((HB0.out.set 0 _).set 1 _).set 2 _)) rfl ?_;refine HPP.out _ ?_;refine Keeps.setCell ?_ _ _ (fun _=>by simp);refine Keeps.setCell ?_ _ _ (fun _=>by simp);refine Keeps.setCell ?_ _ _ (fun _=>by simp);exact Keeps.refl _ _
         ·have dc:decide (most≤(y.acts.length:Int))=true:=HCUT.out.symm
          have hcd:codeM true ds=81:=HCM.out;rw[hcd] at HPP
          go_wp2
          (try simp only[Exit.inBlock,Exit.then])
          refine bodyPost_ret (results_c30v (v:=.int .i64 81) rfl rfl rfl (((HB0.out.set 0 _).set 1 _).set 2 _)) rfl ?_;refine HPP.out _ ?_;refine Keeps.setCell ?_ _ _ (fun _=>by simp);refine Keeps.setCell ?_ _ _ (fun _=>by simp);refine Keeps.setCell ?_ _ _ (fun _=>by simp);exact Keeps.refl _ _
        ·have hcd:codeM cut ds=0:=HCM.out
         rw[hcd] at HPP
         go_wp2
         (try simp only[Exit.inBlock,Exit.then])
         refine bodyPost_ret (results_c30v (v:=.int .i64 0) rfl rfl rfl (((HB0.out.set 0 _).set 1 _).set 2 _)) rfl ?_;refine HPP.out _ ?_;refine Keeps.setCell ?_ _ _ (fun _=>by simp);refine Keeps.setCell ?_ _ _ (fun _=>by simp);refine Keeps.setCell ?_ _ _ (fun _=>by simp);exact Keeps.refl _ _
end Go.Proofs.Ytkoehgfebipkkaa.Lift
