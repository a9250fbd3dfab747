/- Qd Rb Qe Rc Ra Rd Re -/
import Derived.Test.YtgapgmigmlideaaMd
set_option linter.unusedVariables false
set_option linter.unusedSimpArgs false
set_option maxRecDepth 100000
set_option maxHeartbeats 6400000
noncomputable section
namespace Go.Proofs.Ytgapgmigmlideaa.Lift
open Go Go.Conc Go.RowKit Pl
theorem oq28 {mb:Nat}{C:WC}{i:Nat}{w:World}{x:Nat→Value}(e0:x 0=(ptr mb))(e1:x 1=(ptr (C.bt i)))  : OrdOk Try.prog (sO (sL (sR (sR q28)))) (fg 34 (up (up (up (up (up (up (up (up x 16 (ptr mb)) 17 (ptr mb)) 18 (ptr mb)) 19 (ptr (C.bt i))) 20 (ptr mb)) 21 (ptr mb)) 22 (ptr mb)) 23 (.func (.func 34) #[ptr mb] #[]))) [] (fun j=>decide (8≤j)) w:=by
 refine⟨fun q9 o ho hs=>?_,by decide +kernel,by decide +kernel⟩
 match q9,ho,hs with
 | 0,ho,_ =>
  obtain rfl:=so' ho;exact⟨16,⟨rfl,rfl,rfl,(by decide +kernel),nofun⟩,(show 16<34 by decide),fun a h τ δ=>ex_move rfl (show a.eval (.tmp 0)=(ptr mb) from(h _ (show Operand.tmp 0∈(#[Operand.tmp 0]:Array Operand) by simp)).trans e0)⟩
 | 1,ho,_ =>
  obtain rfl:=so' ho;exact⟨17,⟨rfl,rfl,rfl,(by decide +kernel),nofun⟩,(show 17<34 by decide),fun a h τ δ=>ex_nilc rfl (show a.eval (.tmp 16)=(ptr mb) from(h _ (show Operand.tmp 16∈(#[Operand.tmp 16]:Array Operand) by simp)))⟩
 | 2,ho,_ =>
  obtain rfl:=so' ho;exact⟨18,⟨rfl,rfl,rfl,(by decide +kernel),nofun⟩,(show 18<34 by decide),fun a h τ δ=>ex_field (v:=(ptr mb)) rfl (show a.eval (.tmp 17)=(ptr mb) from(h _ (show Operand.tmp 17∈(#[Operand.tmp 17]:Array Operand) by simp))) fa91_0⟩
 | 3,ho,_ =>
  obtain rfl:=so' ho;exact⟨19,⟨rfl,rfl,rfl,(by decide +kernel),nofun⟩,(show 19<34 by decide),fun a h τ δ=>ex_move rfl (show a.eval (.tmp 1)=(ptr (C.bt i)) from(h _ (show Operand.tmp 1∈(#[Operand.tmp 1]:Array Operand) by simp)).trans e1)⟩
 | 4,ho,_ =>
  obtain rfl:=so' ho;exact⟨20,⟨rfl,rfl,rfl,(by decide +kernel),nofun⟩,(show 20<34 by decide),fun a h τ δ=>ex_move rfl (show a.eval (.tmp 0)=(ptr mb) from(h _ (show Operand.tmp 0∈(#[Operand.tmp 0]:Array Operand) by simp)).trans e0)⟩
 | 5,ho,_ =>
  obtain rfl:=so' ho;exact⟨21,⟨rfl,rfl,rfl,(by decide +kernel),nofun⟩,(show 21<34 by decide),fun a h τ δ=>ex_nilc rfl (show a.eval (.tmp 20)=(ptr mb) from(h _ (show Operand.tmp 20∈(#[Operand.tmp 20]:Array Operand) by simp)))⟩
 | 6,ho,_ =>
  obtain rfl:=so' ho;exact⟨22,⟨rfl,rfl,rfl,(by decide +kernel),nofun⟩,(show 22<34 by decide),fun a h τ δ=>ex_field (v:=(ptr mb)) rfl (show a.eval (.tmp 21)=(ptr mb) from(h _ (show Operand.tmp 21∈(#[Operand.tmp 21]:Array Operand) by simp))) fa91_0⟩
 | 7,ho,_ =>
  obtain rfl:=so' ho;exact⟨23,⟨rfl,rfl,rfl,(by decide +kernel),nofun⟩,(show 23<34 by decide),fun a h τ δ=>w_mk1_0 rfl (show a.eval (.tmp 22)=(ptr mb) from(h _ (show Operand.tmp 22∈(#[Operand.tmp 22]:Array Operand) by simp)))⟩
 | 8,_,hs=>cases hs
 | 9,_,hs=>cases hs
 | n+10,ho,_ =>
  have:=lt_of_op ho;exact absurd this (by show ¬ n+10<10;omega)
theorem oq38 (w:World)(x:Nat→Value)(hb b:Nat)(by1:Int)(i:Nat)(c1:w.cell? ⟨hb,1,none⟩=some (.int .i64 by1))(hw:∀ w',Keeps [] w w'→Calls Try.prog 37 #[ptr b] w' fun e w2=>e=.returned (.int .i64 i)∧w2=w')(h0:x 0=ptr hb)(h1:x 1=ptr b) :
  (sL (sL (sR (sR (sR q38))))).wp Try.prog (fun e a' w'=>e=.normal∧a'.defers=[]∧lQ 26 (fun x=>x 0=ptr hb∧x 1=ptr b∧x 22=.bool (decide (by1≠i))) w a'.tmps w') ⟨fg 26 x,[]⟩ w:=by
 have HQ:Hid (∀ (t:Array Value) (w':World),lQ 26 (fun x=>x 0=ptr hb∧x 1=ptr b∧x 22=.bool (decide (by1≠i))) w t w'→lQ 26 (fun x=>x 0=ptr hb∧x 1=ptr b∧x 22=.bool (decide (by1≠i))) w t w'):=Lib.hid fun _ _ h=>h;generalize hG:lQ 26 (fun x=>x 0=ptr hb∧x 1=ptr b∧x 22=.bool (decide (by1≠i))) w=G at HQ ⊢;have HG:=Lib.hid hG;clear hG;rw[show fg 26 x=#[x 0,x 1,x 2,x 3,x 4,x 5,x 6,x 7,x 8,x 9,x 10,x 11,x 12,x 13,x 14,x 15,x 16,x 17,x 18,x 19,x 20,x 21,x 22,x 23,x 24,x 25] from rfl];simp only[q38,Try.f38,Option.getD_some,sL,sR,sB,sT,sF,h0,h1];have HW:=Lib.hid hw;clear hw
 go_wp2
 go_quiet (first | (go_at_call 37;exact Calls.quiet_of_same (HW.out _ ((Keeps.refl _ _).drewN _))))
 go_wp2
 refine HQ.out _ _ ?_;rw[← HG.out];exact lQ_mk rfl ⟨rfl,rfl,congrArg Value.bool (bne_dec _ _)⟩ ((Keeps.refl _ _).drewN _)
section
variable {L A:Type}{p:Plan L A}{C:WC}{k i n:Nat}{K:Goroutine→World→Prop}{F c:Frame}{cs rest:List Frame}{st:Nat→TS L}{X:Nat→Prop}{w:World}{a:A}{l:L}{g:List Nat}{P:A × Option L}
theorem held_wait {h rv:Value}(T:Th p C (k+1) i K F cs st X w n (a,some l))(hc:∀ f∈c::rest,OkFr f)(hrv:isFn rv)(hm:p.mem a (updT st i (.susp (l,g) rv)) X w)(hres:∀ K F cs st X w n a,Th p C k i K F cs st X w n (p.go i (.susp l) a n)→(∃ rv,st i=.susp (l,g) rv)→p.mem a st X w→K (gs (c.finish (.int .i64 0)) (rest++F::cs)) w):K (gs (Frame.enter Try.prog 58 #[h,ptr (C.bt i),rv] .normal) (c::(rest++F::cs))) w:=by
 have hk:(base 58).kind≠.early:=nofun;have hK:=T.cl;have hD:=hK.det;rw[show(#[h,ptr (C.bt i),rv]:Array Value)=[h,ptr (C.bt i),rv].toArray from rfl,enter_fg (n:=17) (c:=q58) Try.func58 rfl rfl rfl];refine hD.sr (hD.asn (.int .i64 0) ?_);refine hD.e0 (hD.s0 (hD.sr (hD.mvn (ptr (C.bt i)) ?_)));refine hD.pun (.bool false) (fun w=>w_eql28_p rfl rfl) ?_;refine hD.mvn (.bool false) ?_;refine hD.gun ?_;refine hD.gun ?_;refine hD.gun ?_;refine hD.pun (.bool false) (fun w=>pu_pick (t:=false) rfl rfl rfl) ?_;refine hD.e0 (hD.cc false (hD.k0 (hD.sr (hD.mvn (ptr (C.bt i)) ?_))));refine hD.mvn rv ?_;refine hD.cf #[ptr (C.bt i),rv] hk Try.func35 ?_;refine T.wait (rest:=c::rest) hrv (fun f hf=>by rcases List.mem_cons.1 hf with rfl | hf;exact⟨rfl,rfl,_,Try.func58⟩;exact hc f hf) hm fun K F cs st X w n a T h1 h2=>?_;have hK:=T.cl;have hD:=hK.det;refine finn 16 ?_;refine hD.z0 (hD.asn (.int .i64 0) ?_);refine hD.e0 (hD.ret (n:=0) ?_);exact hD.leave (n:=0) (b:=base 58) (v:=.int .i64 0) rfl rfl Try.func58 (fun τ d=>res1v rfl rfl) (hc c (by simp)).1 (hres K F cs st X w n a T h1 h2)
theorem mutex_lock {mb:Nat}{by0:Int}(T:Th p C (k+1) i K F cs st X w n (a,some l))(hc:∀ f∈c::rest,OkFr f)(hmb:Cel w mb [.bool true,.int .i64 by0] 91)(hm:p.mem a (updT st i (.susp (l,g) (.func (.func 34) #[ptr mb] #[]))) X w)(hres:∀ K F cs st X w n a,Th p C k i K F cs st X w n (p.go i (.susp l) a n)→(∃ rv,st i=.susp (l,g) rv)→p.mem a st X w→∃ by1,Blk w mb [.bool true,.int .i64 by1] 91∧X mb∧∀ w',Kp [mb] w w'→Blk w' mb [.bool true,.int .i64 i] 91→Th p C k i K F cs st X w' n (p.go i (.susp l) a n)→K (gs (c.finish (.int .i64 0)) (rest++F::cs)) w'):K (gs (Frame.enter Try.prog 28 #[ptr mb,ptr (C.bt i)] .normal) (c::(rest++F::cs))) w:=by
 have hk:(base 28).kind≠.early:=nofun;have hK:=T.cl;have hD:=hK.det;rw[show(#[ptr mb,ptr (C.bt i)]:Array Value)=[ptr mb,ptr (C.bt i)].toArray from rfl,enter_fg (n:=34) (c:=q28) Try.func28 rfl rfl rfl];refine hD.sr (hD.asn (.int .i64 0) ?_);refine hD.e0 (hD.s0 (hD.sr (hD.mvn (ptr mb) ?_)));refine hD.pun (.bool false) (fun w=>w_eql48_p rfl rfl) ?_;refine hD.mvn (.bool false) ?_;refine hD.gwn (ptr mb) rfl (fun τ d=>ex_move rfl rfl) ?_;refine hD.gwn (ptr mb) rfl (fun τ d=>ex_nilc rfl rfl) ?_;refine hD.gwn (ptr mb) rfl (fun τ d=>ex_field (v:=(ptr mb)) rfl rfl fa91_0) ?_;refine hD.gwn (ptr mb) rfl (fun τ d=>ex_field (v:=(ptr mb)) rfl rfl fa86_0) ?_;refine hD.gwn (.bool true) rfl (fun τ d=>ex_load rfl rfl (l_4 (hmb.cell 0))) ?_;refine hD.gwn (.bool false) rfl (fun τ d=>pu_not (y:=true) rfl rfl) ?_;refine hD.pun (.bool false) (fun w=>pu_pick (t:=false) rfl rfl rfl) ?_;refine hD.e0 (hD.cc false (hD.k0 (hD.s0 ?_)));refine draw_call (s:=8) hK [(16,(ptr mb)),(17,(ptr mb)),(18,(ptr mb)),(19,(ptr (C.bt i))),(20,(ptr mb)),(21,(ptr mb)),(22,(ptr mb)),(23,(.func (.func 34) #[ptr mb] #[]))] rfl mixed (oq28 rfl rfl) (by decide +kernel) (by decide +kernel) (by decide +kernel)
  [(0,(ptr mb)),(1,(ptr (C.bt i))),(4,(.int .i64 0)),(6,(ptr mb)),(7,(.bool false)),(8,(.bool false)),(9,(ptr mb)),(10,(ptr mb)),(11,(ptr mb)),(12,(ptr mb)),(13,(.bool true)),(14,(.bool false)),(15,(.bool false)),(16,(ptr mb)),(17,(ptr mb)),(18,(ptr mb)),(19,(ptr (C.bt i))),(20,(ptr mb)),(21,(ptr mb)),(22,(ptr mb)),(23,(.func (.func 34) #[ptr mb] #[]))] ⟨⟨(show 0<34 by decide),(show freeOf (sO (sL (sR (sR q28)))) 8 0=true by decide +kernel),rfl⟩,⟨(show 1<34 by decide),(show freeOf (sO (sL (sR (sR q28)))) 8 1=true by decide +kernel),rfl⟩,⟨(show 4<34 by decide),(show freeOf (sO (sL (sR (sR q28)))) 8 4=true by decide +kernel),rfl⟩,⟨(show 6<34 by decide),(show freeOf (sO (sL (sR (sR q28)))) 8 6=true by decide +kernel),rfl⟩,⟨(show 7<34 by decide),(show freeOf (sO (sL (sR (sR q28)))) 8 7=true by decide +kernel),rfl⟩,⟨(show 8<34 by decide),(show freeOf (sO (sL (sR (sR q28)))) 8 8=true by decide +kernel),rfl⟩,⟨(show 9<34 by decide),(show freeOf (sO (sL (sR (sR q28)))) 8 9=true by decide +kernel),rfl⟩,⟨(show 10<34 by decide),(show freeOf (sO (sL (sR (sR q28)))) 8 10=true by decide +kernel),rfl⟩,⟨(show 11<34 by decide),(show freeOf (sO (sL (sR (sR q28)))) 8 11=true by decide +kernel),rfl⟩,⟨(show 12<34 by decide),(show freeOf (sO (sL (sR (sR q28)))) 8 12=true by decide +kernel),rfl⟩,⟨(show 13<34 by decide),(show freeOf (sO (sL (sR (sR q28)))) 8 13=true by decide +kernel),rfl⟩,⟨(show 14<34 by decide),(show freeOf (sO (sL (sR (sR q28)))) 8 14=true by decide +kernel),rfl⟩,⟨(show 15<34 by decide),(show freeOf (sO (sL (sR (sR q28)))) 8 15=true by decide +kernel),rfl⟩,⟨(show 16<34 by decide),(show freeOf (sO (sL (sR (sR q28)))) 8 16=true by decide +kernel),rfl⟩,⟨(show 17<34 by decide),(show freeOf (sO (sL (sR (sR q28)))) 8 17=true by decide +kernel),rfl⟩,⟨(show 18<34 by decide),(show freeOf (sO (sL (sR (sR q28)))) 8 18=true by decide +kernel),rfl⟩,⟨(show 19<34 by decide),(show freeOf (sO (sL (sR (sR q28)))) 8 19=true by decide +kernel),rfl⟩,⟨(show 20<34 by decide),(show freeOf (sO (sL (sR (sR q28)))) 8 20=true by decide +kernel),rfl⟩,⟨(show 21<34 by decide),(show freeOf (sO (sL (sR (sR q28)))) 8 21=true by decide +kernel),rfl⟩,⟨(show 22<34 by decide),(show freeOf (sO (sL (sR (sR q28)))) 8 22=true by decide +kernel),rfl⟩,⟨(show 23<34 by decide),(show freeOf (sO (sL (sR (sR q28)))) 8 23=true by decide +kernel),rfl⟩,trivial⟩ (fun x2 fu te hfu=>?_) (show(([16,17,18,19,20,21,22,23]:List Nat).all fun d=>(sO (sL (sR (sR q28)))).any fun o=>o.dst==some d)=true by decide +kernel)
 refine hD.cf #[ptr mb,ptr (C.bt i),(.func (.func 34) #[ptr mb] #[])] hk Try.func58 ?_;refine held_wait (rest:=c::rest) T (fun f hf=>by rcases List.mem_cons.1 hf with rfl | hf;exact⟨rfl,rfl,_,Try.func28⟩;exact hc f hf) (.inr ⟨_,_,_,rfl⟩) hm fun K F cs st X w n a T h1 h2=>?_;have hK:=T.cl;have hD:=hK.det;obtain⟨by1,hb1,hX,hnext⟩:=hres K F cs st X w n a T h1 h2;refine finn 24 ?_;refine lin_last (by decide +kernel) (by decide +kernel) (by decide +kernel) hfu ?_;refine hD.asn (.int .i64 0) ?_;refine hD.e0 (hD.s0 (hD.sr (hD.mvn (.int .i64 0) ?_)));refine hD.pun (.bool (decide ((0:Int)=0))) (fun w=>w_eql35 rfl rfl rfl) ?_;refine hD.e0 (hD.cc true (hD.r0 (hD.mvn (ptr mb) ?_)));refine hD.mvn (ptr (C.bt i)) ?_;refine hD.cf #[ptr (C.bt i)] hk Try.func37 ?_;obtain⟨ba,sa,ck,ga,ca,hrn⟩:=T.rn;refine hK.callp fits shut (f:=37) rfl (v:=.int .i64 i) (fun τ d=>who_calls _ _ _ _ _ _ _ _ _ _ T.bt hrn) ?_;refine finn 29 ?_;refine hD.ncn ⟨mb,0,none⟩ ?_;refine hD.fdn (ptr mb) fa91_0 ?_;refine hD.fdn (ptrAt mb 1) fa86_1 ?_;refine hD.store (n:=0) (u:=(ptrAt mb 1)) (z:=(.int .i64 (i:Int))) hk rfl ⟨rfl,rfl,rfl,rfl,nofun⟩ rfl rfl (fun τ d=>((s_3 (w:=re w τ d) (hb1.cell 1) (hb1.frozen 1)).trans (congrArg (Result.ok ()) re_setCell))) (Nat.le_of_eq (World.size_setCell _ _ _).symm) ?_;obtain⟨w1,hsw1⟩:∃ z,z=w.setCell ⟨mb,1,none⟩ (.int .i64 (i:Int)):=⟨_,rfl⟩;have ksw1:Kp [mb] w w1:=by rw[hsw1];exact⟨Nat.le_of_eq (World.size_setCell _ _ _).symm,fun c hc hn=>setCell_frame (by simpa using hn)⟩
 have bw1:Blk w1 mb [.bool true,.int .i64 (i:Int)] 91:=by rw[hsw1];exact hb1.set 1 _
 rw[← hsw1];clear hsw1;refine hD.z0 (hD.mvn (.int .i64 0) ?_);refine hD.asn (.int .i64 0) ?_;refine hD.e0 (hD.ret (n:=0) ?_);exact hD.leave (n:=0) (b:=base 28) (v:=.int .i64 0) rfl rfl Try.func28 (fun τ d=>res1v rfl rfl) (hc c (by simp)).1 (hnext _ ksw1 bw1 (T.kp1 (Blk.cel hb1) (by decide) (by decide) hX ksw1))
theorem held_unlock {hb:Nat}{by0:Int}  (T:Th p C (k+1) i K F cs st X w n (a,some l))(hc:∀ f∈c::rest,OkFr f)(hmb:Cel w hb [.bool true,.int .i64 by0] 91)(hm:p.mem a (updT st i (.susp (l,g) .nilFunc)) X w)(hres:∀ K F cs st X w n a,Th p C k i K F cs st X w n (p.go i (.susp l) a n)→(∃ rv,st i=.susp (l,g) rv)→p.mem a st X w→∃ by1 ,Blk w hb [.bool true,.int .i64 by1] 91∧X hb∧(by1≠(i:Int)→∀ w',Kp [] w w'→Blk w' hb [.bool true,.int .i64 by1] 91→Th p C k i K F cs st X w' n (p.go i (.susp l) a n)→K (gs (c.finish (.int .i64 90)) (rest++F::cs)) w')∧(by1=(i:Int)→∀ w',Kp [hb] w w'→Blk w' hb [.bool true,.int .i64 (-1)] 91→Th p C k i K F cs st X w' n (p.go i (.susp l) a n)→K (gs (c.finish (.int .i64 0)) (rest++F::cs)) w')):K (gs (Frame.enter Try.prog 38 #[ptr hb,ptr (C.bt i)] .normal) (c::(rest++F::cs))) w:=by
 have hk:(base 38).kind≠.early:=nofun;have hK:=T.cl;have hD:=hK.det;rw[show(#[ptr hb,ptr (C.bt i)]:Array Value)=[ptr hb,ptr (C.bt i)].toArray from rfl,enter_fg (n:=26) (c:=q38) Try.func38 rfl rfl rfl];refine hD.sr (hD.asn (.int .i64 0) ?_);refine hD.e0 (hD.s0 (hD.sr (hD.mvn (ptr hb) ?_)));refine hD.pun (.bool false) (fun w=>w_eql139_p rfl rfl) ?_;refine hD.mvn (.bool false) ?_;refine hD.gwn (ptr hb) rfl (fun τ d=>ex_move rfl rfl) ?_;refine hD.gwn (ptr hb) rfl (fun τ d=>ex_nilc rfl rfl) ?_;refine hD.gwn (ptr hb) rfl (fun τ d=>ex_field (v:=(ptr hb)) rfl rfl fa86_0) ?_;refine hD.gwn (.bool true) rfl (fun τ d=>ex_load rfl rfl (l_4 (hmb.cell 0))) ?_;refine hD.gwn (.bool false) rfl (fun τ d=>pu_not (y:=true) rfl rfl) ?_;refine hD.pun (.bool false) (fun w=>pu_pick (t:=false) rfl rfl rfl) ?_;refine hD.e0 (hD.cc false (hD.k0 (hD.sr (hD.mvn (ptr (C.bt i)) ?_))));refine hD.cf #[ptr (C.bt i)] hk Try.func29 ?_;refine T.step (rest:=c::rest) (fun f hf=>by rcases List.mem_cons.1 hf with rfl | hf;exact⟨rfl,rfl,_,Try.func38⟩;exact hc f hf) hm fun K F cs st X w n a T h1 h2=>?_;have hK:=T.cl;have hD:=hK.det;obtain⟨by1,hb1,hX,hne,heq⟩:=hres K F cs st X w n a T h1 h2;refine finn 15 ?_;refine hD.e0 (hD.s0 (hD.s0 ?_));obtain⟨ba,sa,ck,ga,ca,hrn⟩:=T.rn;refine hK.seg fits shut (b:=base 38) ⟨_,Try.func38⟩ nofun (c:=(sL (sL (sR (sR (sR q38)))))) (by decide +kernel) (Q:=lQ 26 (fun x=>x 0=ptr hb∧x 1=ptr (C.bt i)∧x 22=.bool (decide (by1≠i))) w) (fun t w' τ d h=>lQ_re h τ d) (fun τ d=>Code.wp_mono (fun e a w' ⟨h1,h2,h3⟩=>⟨h1,h2,lQ_un h3⟩) (oq38 (re w τ d) _ hb (C.bt i) by1 i (hb1.cell 1) (fun w' k=>who_calls w' _ _ _ _ _ _ _ _ _ ((Keeps.kp k).cel (re_cel T.bt) (by simp)) ((Keeps.kp k).cel (re_cel hrn) (by simp))) rfl rfl)) fun t w1 ⟨x',ex',⟨g0,g1,g22⟩,ksw1⟩=>?_;subst ex';rw[allK.self (x:=x') (l:=[(0,ptr hb),(1,ptr (C.bt i)),(22,.bool (decide (by1≠i)))]) ⟨g0,g1,g22,trivial⟩];have hb1':=ksw1.blk hb1 (by simp);have T:=T.kp ksw1;by_cases hbi:by1=i
 ·refine hD.cond (n:=0) false (show Value.bool (decide (by1≠(i:Int)))=_ by rw[decide_eq_false (fun h=>h hbi)]) rfl ?_
  refine hD.k0 (hD.sr (hD.mvn (ptr hb) ?_));refine hD.ncn ⟨hb,0,none⟩ ?_;refine hD.fdn (ptrAt hb 1) fa86_1 ?_;refine hD.store (n:=0) (u:=(ptrAt hb 1)) (z:=(.int .i64 (-1))) hk rfl ⟨rfl,rfl,rfl,rfl,nofun⟩ rfl rfl (fun τ d=>((s_3 (w:=re w1 τ d) (hb1'.cell 1) (hb1'.frozen 1)).trans (congrArg (Result.ok ()) re_setCell))) (Nat.le_of_eq (World.size_setCell _ _ _).symm) ?_;obtain⟨w2,hsw2⟩:∃ z,z=w1.setCell ⟨hb,1,none⟩ (.int .i64 (-1)):=⟨_,rfl⟩;have ksw2:Kp [hb] w1 w2:=by rw[hsw2];exact⟨Nat.le_of_eq (World.size_setCell _ _ _).symm,fun c hc hn=>setCell_frame (by simpa using hn)⟩
  have bw2:Blk w2 hb [.bool true,.int .i64 (-1)] 91:=by rw[hsw2];exact hb1'.set 1 _
  rw[← hsw2];clear hsw2;refine hD.z0 (hD.asn (.int .i64 0) ?_);refine hD.e0 (hD.ret (n:=0) ?_);exact hD.leave (n:=0) (b:=base 38) (v:=.int .i64 0) rfl rfl Try.func38 (fun τ d=>res1v rfl rfl) (hc c (by simp)).1 (heq hbi _ (ksw1.kp1 ksw2) bw2 (T.kp1 (Blk.cel hb1') (by decide) (by decide) hX ksw2))
 ·refine hD.cond (n:=0) true (show Value.bool (decide (by1≠(i:Int)))=_ by rw[decide_eq_true hbi]) rfl ?_
  refine hD.sr (hD.asn (.int .i64 90) ?_);refine hD.e0 (hD.ret (n:=0) ?_);exact hD.leave (n:=0) (b:=base 38) (v:=.int .i64 90) rfl rfl Try.func38 (fun τ d=>res1v rfl rfl) (hc c (by simp)).1 (hne hbi _ ksw1 hb1' T)
theorem mutex_unlock {hb:Nat}{by0:Int}  (T:Th p C (k+1) i K F cs st X w n (a,some l))(hc:∀ f∈c::rest,OkFr f)(hmb:Cel w hb [.bool true,.int .i64 by0] 91)(hm:p.mem a (updT st i (.susp (l,g) .nilFunc)) X w)(hres:∀ K F cs st X w n a,Th p C k i K F cs st X w n (p.go i (.susp l) a n)→(∃ rv,st i=.susp (l,g) rv)→p.mem a st X w→∃ by1 ,Blk w hb [.bool true,.int .i64 by1] 91∧X hb∧(by1≠(i:Int)→∀ w',Kp [] w w'→Blk w' hb [.bool true,.int .i64 by1] 91→Th p C k i K F cs st X w' n (p.go i (.susp l) a n)→K (gs (c.finish (.int .i64 90)) (rest++F::cs)) w')∧(by1=(i:Int)→∀ w',Kp [hb] w w'→Blk w' hb [.bool true,.int .i64 (-1)] 91→Th p C k i K F cs st X w' n (p.go i (.susp l) a n)→K (gs (c.finish (.int .i64 0)) (rest++F::cs)) w')):K (gs (Frame.enter Try.prog 30 #[ptr hb,ptr (C.bt i)] .normal) (c::(rest++F::cs))) w:=by
 have hk:(base 30).kind≠.early:=nofun;have hK:=T.cl;have hD:=hK.det;rw[show(#[ptr hb,ptr (C.bt i)]:Array Value)=[ptr hb,ptr (C.bt i)].toArray from rfl,enter_fg (n:=12) (c:=q30) Try.func30 rfl rfl rfl];refine hD.sr (hD.asn (.int .i64 0) ?_);refine hD.e0 (hD.s0 (hD.sr (hD.mvn (ptr hb) ?_)));refine hD.pun (.bool false) (fun w=>w_eql48_p rfl rfl) ?_;refine hD.e0 (hD.cc false (hD.k0 (hD.sr (hD.mvn (ptr hb) ?_))));refine hD.ncn ⟨hb,0,none⟩ ?_;refine hD.fdn (ptr hb) fa91_0 ?_;refine hD.mvn (ptr (C.bt i)) ?_;refine hD.cf #[ptr hb,ptr (C.bt i)] hk Try.func38 ?_;refine held_unlock (rest:=c::rest) T (fun f hf=>by rcases List.mem_cons.1 hf with rfl | hf;exact⟨rfl,rfl,_,Try.func30⟩;exact hc f hf) hmb hm fun K F cs st X w n a T h1 h2=>?_;obtain⟨by1,hb1,hX,hne,heq⟩:=hres K F cs st X w n a T h1 h2;refine⟨by1,hb1,hX,fun e w k1 b1 T=>?_,fun e w k1 b1 T=>?_⟩
 ·have hK:=T.cl
  have hD:=hK.det;refine finn 11 ?_;refine hD.asn (.int .i64 90) ?_;refine hD.e0 (hD.ret (n:=0) ?_);exact hD.leave (n:=0) (b:=base 30) (v:=.int .i64 90) rfl rfl Try.func30 (fun τ d=>res1v rfl rfl) (hc c (by simp)).1 (hne e _ k1 b1 T)
 ·have hK:=T.cl
  have hD:=hK.det;refine finn 11 ?_;refine hD.asn (.int .i64 0) ?_;refine hD.e0 (hD.ret (n:=0) ?_);exact hD.leave (n:=0) (b:=base 30) (v:=.int .i64 0) rfl rfl Try.func30 (fun τ d=>res1v rfl rfl) (hc c (by simp)).1 (heq e _ k1 b1 T)
end
theorem l_48 {w:World}{a:Addr}{v:Value}(hc:w.cell? a=some v):(Instr.loadAt 48 (.pointer (some a))).run Try.prog w=.ok v w:=by simp[go_sem,hc,Try.underlying48,Try.runUnderlying48,Try.sizeOf48,Try.isAgg48]
inductive WkL
 | lock
 | step
 | unlock
structure WkA where
 by':Int
 n:Int
def wkGo (i:Nat)(t:ES WkL)(a:WkA)(_:Nat):WkA × Option WkL:=match t with
 | .fresh=>(a,some .lock)
 | .susp .lock=>(⟨i,wrap64 (a.n+1)⟩,some .step)
 | .susp .step=>(a,some .unlock)
 | .susp .unlock=>if a.by'=i then (⟨-1,a.n⟩,none) else (a,none)
 | .done=>(a,none)
def wkRdy (_:Nat)(l:WkL)(a:WkA):Bool:=match l with
 | .lock=>decide (a.by' = -1)
 | _=>true
def wkRv (mb:Nat):WkL→Value
 | .lock=>.func (.func 34) #[ptr mb] #[]
 | _=>.nilFunc
structure WkM (mx mb nb:Nat)(a:WkA)(st:Nat→TS WkL)(X:Nat→Prop)(w:World):Prop where
 x:∀ b,X b↔b=mx∨b=mb∨b=nb
 m:Blk w mx [ptr mb] 48
 l:Blk w mb [.bool true,.int .i64 a.by'] 91
 n:Blk w nb [.int .i64 a.n] 3
 rv:∀ i l rv,st i=.susp l rv→rv=wkRv mb l.1
def wkPlan (mx mb nb:Nat):Plan WkL WkA:=⟨WkM mx mb nb,wkGo,wkRdy⟩
theorem WkM.up {mx mb nb:Nat}{a a':WkA}{st:Nat→TS WkL}{X:Nat→Prop}{w w':World}(h:WkM mx mb nb a st X w)(i:Nat)(l:WkL)(hm:Blk w' mx [ptr mb] 48)(hl:Blk w' mb [.bool true,.int .i64 a'.by'] 91)(hn:Blk w' nb [.int .i64 a'.n] 3):WkM mx mb nb a' (updT st i (.susp (l,[]) (wkRv mb l))) X w' :=
 ⟨h.x,hm,hl,hn,fun j l' rv e=>by
  unfold updT at e;split at e
  ·cases e;rfl
  ·exact h.rv j l' rv e⟩
theorem WkM.over {mx mb nb:Nat}{a a':WkA}{st:Nat→TS WkL}{X:Nat→Prop}{w w':World}(h:WkM mx mb nb a st X w)(i:Nat)(hm:Blk w' mx [ptr mb] 48)(hl:Blk w' mb [.bool true,.int .i64 a'.by'] 91)(hn:Blk w' nb [.int .i64 a'.n] 3):WkM mx mb nb a' (updT st i .done) X w' :=
 ⟨h.x,hm,hl,hn,fun j l' rv e=>by
  unfold updT at e;split at e
  ·cases e
  ·exact h.rv j l' rv e⟩
theorem wk_body {C:WC}{i n:Nat}{K:Goroutine→World→Prop}{F:Frame}{cs:List Frame}{st:Nat→TS WkL}{X:Nat→Prop}{w:World}{a:WkA}{mx mb nb:Nat}(T:Th (wkPlan mx mb nb) C 3 i K F cs st X w n (a,some .lock))(hm:(wkPlan mx mb nb).mem a st X w):K (gs (Frame.enter Try.prog 27 #[ptr (C.bt i),ptr mx,ptr nb] .normal) (F::cs)) w:=by
 obtain⟨hx,b1,b2,b3,hw⟩:=id hm;have hk:(base 27).kind≠.early:=nofun;have hK:=T.cl;have hD:=hK.det;rw[show(#[ptr (C.bt i),ptr mx,ptr nb]:Array Value)=[ptr (C.bt i),ptr mx,ptr nb].toArray from rfl,enter_fg (n:=15) (c:=q27) Try.func27 rfl rfl rfl];refine hD.sr (hD.ldn (ptr mb) (fun τ d=>l_48 (b1.cell 0)) ?_);refine hD.mvn (ptr (C.bt i)) ?_;refine hD.cf #[ptr mb,ptr (C.bt i)] hk Try.func28 ?_;refine mutex_lock (rest:=[]) T (fun f hf=>by rcases List.mem_cons.1 hf with rfl | hf;exact⟨rfl,rfl,_,Try.func27⟩;exact absurd hf (by simp)) (Blk.cel b2) (hm.up i .lock b1 b2 b3) fun K F cs st X w n a T h1 hm=>?_;obtain⟨hx,b1,b2,b3,hw⟩:=id hm;refine⟨a.by',b2,(hx _).2 (.inr (.inl rfl)),fun w1 k1 b2' T=>?_⟩;have hK:=T.cl;have hD:=hK.det;have b1:=k1.blk b1 (by simpa using cel_ne (Blk.cel b1) (Blk.cel b2) (by decide));have b3:=k1.blk b3 (by simpa using cel_ne (Blk.cel b3) (Blk.cel b2) (by decide));clear b2;refine finn 6 ?_;refine hD.pun (.bool (decide ((0:Int)=0))) (fun w=>w_eql35 rfl rfl rfl) ?_;refine hD.e0 (hD.cc true (hD.sr (hD.ldn (.int .i64 a.n) (fun τ d=>l_3 (b3.cell 0)) ?_)));refine hD.pun (.int .i64 (wrap64 (a.n+1))) (fun w=>w_add3 rfl rfl rfl) ?_;refine hD.store (n:=0) (u:=(ptr nb)) (z:=(.int .i64 (wrap64 (a.n+1)))) hk rfl ⟨rfl,rfl,rfl,rfl,nofun⟩ rfl rfl (fun τ d=>((s_3 (w:=re w1 τ d) (b3.cell 0) (b3.frozen 0)).trans (congrArg (Result.ok ()) re_setCell))) (Nat.le_of_eq (World.size_setCell _ _ _).symm) ?_;obtain⟨w2,hsw2⟩:∃ z,z=w1.setCell ⟨nb,0,none⟩ (.int .i64 (wrap64 (a.n+1))):=⟨_,rfl⟩;have ksw2:Kp [nb] w1 w2:=by rw[hsw2];exact⟨Nat.le_of_eq (World.size_setCell _ _ _).symm,fun c hc hn=>setCell_frame (by simpa using hn)⟩
 have bw2:Blk w2 nb [.int .i64 (wrap64 (a.n+1))] 3:=by rw[hsw2];exact b3.set 0 _
 rw[← hsw2];clear hsw2;have b1':=ksw2.blk b1 (by simpa using (cel_ne (Blk.cel b1) (Blk.cel b3) (by decide)));have b2'':=ksw2.blk b2' (by simpa using (cel_ne (Blk.cel b2') (Blk.cel b3) (by decide)));have T:=T.kp1 (Blk.cel b3) (by decide) (by decide) ((hm.x _).2 (.inr (.inr rfl))) ksw2;refine hD.z0 (hD.mvn (ptr (C.bt i)) ?_);refine hD.cf #[ptr (C.bt i)] hk Try.func29 ?_;refine ThR.step (a:=(⟨i,wrap64 (a.n+1)⟩:WkA)) (l:=WkL.step) (rest:=[]) T (fun f hf=>by rcases List.mem_cons.1 hf with rfl | hf;exact⟨rfl,rfl,_,Try.func27⟩;exact absurd hf (by simp)) (hm.up i .step b1' b2'' bw2) fun K F cs st X w n a T h1 hm=>?_;obtain⟨hx,b1,b2,b3,hw⟩:=id hm;have hK:=T.cl;have hD:=hK.det;refine finn 11 ?_;refine hD.e0 (hD.r0 (hD.ldn (ptr mb) (fun τ d=>l_48 (b1.cell 0)) ?_));refine hD.mvn (ptr (C.bt i)) ?_;refine hD.cf #[ptr mb,ptr (C.bt i)] hk Try.func30 ?_;refine mutex_unlock (a:=a) (l:=WkL.unlock) (rest:=[]) T (fun f hf=>by rcases List.mem_cons.1 hf with rfl | hf;exact⟨rfl,rfl,_,Try.func27⟩;exact absurd hf (by simp)) (Blk.cel b2) (hm.up i .unlock b1 b2 b3) fun K F cs st X w n a T h1 hm=>?_;obtain⟨hx,b1,b2,b3,hw⟩:=id hm;refine⟨a.by',b2,(hx _).2 (.inr (.inl rfl)),fun e w1 k1 b2' T=>?_,fun e w1 k1 b2' T=>?_⟩
 ·have hK:=T.cl
  have hD:=hK.det;have b1:=k1.blk b1 (by simp);have b3:=k1.blk b3 (by simp);refine finn 14 ?_;refine hD.e0 (hD.end (n:=0) ?_);exact hD.leave (n:=0) (b:=base 27) (v:=.tuple #[]) rfl rfl Try.func27 (fun τ d=>res0 rfl) T.fm (T.hd a X w1 (if_neg e) (hm.over (a':=a) i b1 b2' b3) (Kx.refl' X w1))
 ·have hK:=T.cl
  have hD:=hK.det;have b1:=k1.blk b1 (by simpa using cel_ne (Blk.cel b1) (Blk.cel b2) (by decide));have b3:=k1.blk b3 (by simpa using cel_ne (Blk.cel b3) (Blk.cel b2) (by decide));refine finn 14 ?_;refine hD.e0 (hD.end (n:=0) ?_);exact hD.leave (n:=0) (b:=base 27) (v:=.tuple #[]) rfl rfl Try.func27 (fun τ d=>res0 rfl) T.fm (T.hd ⟨-1,a.n⟩ X w1 (if_pos e) (hm.over (a':=⟨-1,a.n⟩) i b1 b2' b3) (Kx.refl' X w1))
theorem wk_ok {C:WC}{mx mb nb:Nat}(hfn:∀ i,i<C.n→C.fn i=27)(hcap:∀ i,i<C.n→C.cap i=#[ptr mx,ptr nb]):BOk ((wkPlan mx mb nb).bods C) C:=by
 refine Plan.ok (fun {a st X w b} h hb=>?_) (fun {a st X w w'} h hb hs=>?_) (fun {a st X w i l rv} h hi e=>?_) (fun {i} hi=>?_) (fun i hi=>⟨3,fun K F cs st X w n a args T e hm ha=>?_⟩)
 ·rcases (h.x b).1 hb with rfl | rfl | rfl
  ·exact h.m.lt
  ·exact h.l.lt
  ·exact h.n.lt
 ·exact⟨h.x,(hb _ ((h.x _).2 (.inl rfl))).trans h.m,(hb _ ((h.x _).2 (.inr (.inl rfl)))).trans h.l,(hb _ ((h.x _).2 (.inr (.inr rfl)))).trans h.n,h.rv⟩
 ·have hr:=h.rv i l rv e
  obtain⟨l,gh⟩:=l;cases l with
  | lock =>
   refine .inr ⟨34,#[ptr mb],#[],_,_,hr,Try.func34,rfl,rfl,fun m K hK c cs w1 hc k1 hk=>?_⟩;refine hK.callp fits shut (f:=34) rfl (v:=.bool (decide (a.by' = -1))) (fun τ d=>free_calls _ mb ((k1.blk h.l (by simp)).cell 1)) ?_;exact hk w1 ⟨Nat.le_refl _,fun _ _ _=>rfl⟩
  | step=>exact .inl ⟨hr,rfl⟩
  | unlock=>exact .inl ⟨hr,rfl⟩
 ·rw[hfn i hi];exact⟨_,_,Try.func27,rfl,rfl⟩
 ·obtain rfl:args=#[ptr (C.bt i),ptr mx,ptr nb]:=by
   rw[hcap i hi] at ha;exact Array.ext' ha.symm
  rw[hfn i hi];exact wk_body T hm
def wkB:Bods WkL WkA:=⟨fun _ _ _ _=>True,fun _ _ _=>True,wkGo,wkRdy,fun _=>True⟩
theorem wkB_run:(runF wkB 2 (fun a=>a) (50:Int).toNat ⟨fun _=>.fresh,⟨-1,0⟩,[],[]⟩).a=⟨-1,2⟩∧(runF wkB 2 (fun a=>a) (50:Int).toNat ⟨fun _=>.fresh,⟨-1,0⟩,[],[]⟩).st 0=.done∧(runF wkB 2 (fun a=>a) (50:Int).toNat ⟨fun _=>.fresh,⟨-1,0⟩,[],[]⟩).st 1=.done∧(runF wkB 2 (fun a=>a) (50:Int).toNat ⟨fun _=>.fresh,⟨-1,0⟩,[],[]⟩).acts.length=8:=by
 refine⟨?_,?_,?_,?_⟩<;>kernel_rfl
theorem wk_run {B:Bods WkL WkA}(hg:B.go=wkGo)(hr:B.rdy=wkRdy):(runF B 2 (fun a=>a) (50:Int).toNat ⟨fun _=>.fresh,⟨-1,0⟩,[],[]⟩).a=⟨-1,2⟩∧(runF B 2 (fun a=>a) (50:Int).toNat ⟨fun _=>.fresh,⟨-1,0⟩,[],[]⟩).st 0=.done∧(runF B 2 (fun a=>a) (50:Int).toNat ⟨fun _=>.fresh,⟨-1,0⟩,[],[]⟩).st 1=.done∧(runF B 2 (fun a=>a) (50:Int).toNat ⟨fun _=>.fresh,⟨-1,0⟩,[],[]⟩).acts.length=8:=by
 rw[runF_congr (B':=wkB) hg hr];exact wkB_run
theorem fp_cel {α:Type}{w:World}{e:TypeId}{k:Nat}{f:α→List Value}{v:Value}{xs:List α}(h:Rep e k f w v xs):∀ b∈fp v,∃ cs,Cel w b cs e:=by
 intro b hb;rcases h.2 with⟨h0,_⟩ | ⟨g,cap,cur,h0,_,h1,_⟩
 ·rw[h0] at hb;simp[fp,Value.ownBlock] at hb
 ·rw[h0] at hb
  obtain rfl:b=g:=by simpa[fp,Value.ownBlock] using hb
  exact⟨cur.toList,_,h1⟩
theorem runF_acts_le {L A:Type}{B:Bods L A}{n:Nat}{beh:A→A}:∀ k (x:RunSt L A),(runF B n beh k x).acts.length≤x.acts.length+k
 | 0,x=>Nat.le_refl _
 | k+1,x=>by
  unfold runF;split
  ·omega
  ·refine Nat.le_trans (runF_acts_le k _) ?_
   show(x.acts++[_]).length+k≤_;rw[la',List.length_singleton];omega
def Plan.run {L A:Type}(p:Plan L A)(n:Nat)(most:Int)(a0:A)(picks:List Nat):RunSt L A:=runF (⟨fun _ _ _ _=>True,fun _ _ _=>True,p.go,p.rdy,fun _=>True⟩:Bods L A) n (fun a=>a) most.toNat ⟨fun _=>.fresh,a0,[],picks⟩
structure Ran {L A:Type}(p:Plan L A)(n:Nat)(most:Int)(y:RunSt L A)(S S':SC)(X:Nat→Prop)(va ve:Value):Prop where
 idle:Idle S'
 n0:S'.n0=S.n0
 W0:S'.W0=S.W0
 size:S.w.heap.size≤S'.w.heap.size
 block:∀ b,b<S.w.heap.size→¬ X b→S'.w.heap[b]?=S.w.heap[b]?
 mem:∃ st X',p.mem y.a st X' S'.w∧(∀ b,X' b→X b∨S.w.heap.size≤b)∧∀ i,er (st i)=y.st i
 acts:RepU S'.w va y.acts
 ends:RepE S'.w ve (endsM (decide (most≤(y.acts.length:Int))) (donesE n y.st))
section
variable {L A:Type}{p:Plan L A}{Post:Value→World→Prop}{S:SC}{cl:Frame}{cs:List Frame}{n c0:Nat}{vp:Value}{most:Int}{picks:List Nat}{X:Nat→Prop}{a0:A}{fb fo pb:Nat}{fn:Nat→FuncId}{cap:Nat→Array Value}
theorem run_planK (hok:∀ C:WC,C.n=n→C.fn=fn→C.cap=cap→BOk (p.bods C) C)(hfr:∀ {a st X w w'},p.mem a st X w→(∀ b,X b→w'.heap[b]?=w.heap[b]?)→w.heap.size≤w'.heap.size→p.mem a st X w')(hid:Idle S)(hn:0<n)(hn8:n≤8)(hcl:cl.mode=.run)
  (hfb:fb<S.w.heap.size) (hfv:∀ j,j<n→S.w.cell? ⟨fb,fo+j,none⟩=some (.func (.func (fn j)) #[] (cap j))) (hpk:Bytes pb S.w vp picks) (hpb:pb<S.w.heap.size) (hpx:¬ X pb∨∃ bo,∀ a st X w,p.mem a st X w→w.heap[pb]?=bo) (hpl:picks.length≤65536) (hm0:0≤most) (hm1:most<4294967295)
  (hmem:p.mem a0 (fun _=>.fresh) X S.w) (hXl:∀ b,X b→b<S.w.heap.size)
  (hnext:∀ S' ga ca ge ne ce,Ran p n most (p.run n most a0 picks) S S' X (.slice ga (p.run n most a0 picks).acts.length ca) (.slice ge ne ce) →
   Sound Try.prog link.tWg Post 0 S' (gs (cl.finish (.tuple #[.agg #[.slice ga (p.run n most a0 picks).acts.length ca,.slice ge ne ce,.int .i64 ((picks.length-(p.run n most a0 picks).left.length:Nat):Int)],.int .i64 (codeM (decide (most≤((p.run n most a0 picks).acts.length:Int))) (donesE n (p.run n most a0 picks).st))])) cs)) :
  Sound Try.prog link.tWg Post 0 S (gs (Frame.enter Try.prog 12 #[.slice (some ⟨fb,fo,none⟩) n c0,vp,.int .i64 most] .normal) (cl::cs)):=by
 have hK:=clS (Post:=Post) S;refine ks (S:=S) (run_enter hK.det ?_) rfl;have kob:=Kp.alloc [] S.w (.cells #[.slice none 0 0,.slice none 0 0,.int .i64 0] 34);have bob:Blk (S.w.alloc (.cells #[.slice none 0 0,.slice none 0 0,.int .i64 0] 34)) S.w.heap.size [.slice none 0 0,.slice none 0 0,.int .i64 0] 34:=Blk.new _ _ _;obtain⟨ob,hob⟩:∃ ob,ob=S.w.heap.size:=⟨_,rfl⟩;rw[← hob] at bob ⊢;generalize S.w.alloc (.cells #[.slice none 0 0,.slice none 0 0,.int .i64 0] 34)=w1 at kob bob ⊢;have s1:=kob.size;have hbob:=bob.lt;have hrun:∀ C,runF (p.bods C) n (fun a=>a) most.toNat ⟨fun _=>.fresh,a0,[],picks⟩=p.run n most a0 picks:=fun C=>by unfold Plan.run;exact runF_congr (B:=p.bods C) (B':=⟨fun _ _ _ _=>True,fun _ _ _=>True,p.go,p.rdy,fun _=>True⟩) rfl rfl _ _
 show Sound Try.prog link.tWg Post 0 { S with w:=w1} _;refine watch_runs (S:={S with w:=w1}) (Bf:=fun C=>p.bods C) (go:=p.go) (rdy:=p.rdy) (n:=n) (c0:=c0) (most:=most) (fn:=fn) (cap:=cap) (beh:=fun a=>a) (a0:=a0) (X:=X) (pb:=pb) (fb:=fb) (fo:=fo) (picks:=picks) (fun _=>rfl) (fun _=>rfl)
  (fun C _ h1 h2 h3=>hok C h1 h2 h3) (fun C=>.inl ⟨rfl,fun _=>rfl⟩) ⟨hid.roles,hid.grps,hid.pos⟩ hn hn8 rfl (nl' hfb s1) (fun j hj=>(kob.cell hfb).trans (hfv j hj)) (hpk.same (kob.block pb hpb (by simp))) (nl' hpb s1) (hpx.imp id fun⟨bo,h⟩=>⟨bo,fun _=>h⟩) hpl hm0
  (fun C=>hfr hmem (fun b hb=>kob.block b (hXl b hb) (by simp)) s1) (fun b hb=>nl' (hXl b hb) s1) (fun C=>?_) fun C S6 st' X' ga ca ge ne ce hC hCn W=>?_
 ·rw[hrun C]
  have:=runF_acts_le (B:=(⟨fun _ _ _ _=>True,fun _ _ _=>True,p.go,p.rdy,fun _=>True⟩:Bods L A)) (n:=n) (beh:=fun a=>a) most.toNat ⟨fun _=>.fresh,a0,[],picks⟩;have h0:([]:List Nat).length=0:=rfl;show(Plan.run p n most a0 picks).acts.length<_;unfold Plan.run;dsimp only at this;rw[h0] at this;omega
 rw[hrun C] at W ⊢;have hobX:¬ X ob:=fun h=>by have:=hXl ob h;omega
 have bob6:Blk S6.w ob [.slice none 0 0,.slice none 0 0,.int .i64 0] 34:=(W.block ob hbob hobX).trans bob;have s6:w1.heap.size≤S6.w.heap.size:=W.size;have hK6:=clS (Post:=Post) S6;refine ks (S:=S6) (run_back hK6.det hcl bob6 fun w7 f7 s7=>?_) rfl;have hX'ob:¬ X' ob:=fun h=>by
  rcases W.own ob h with h | h
  ·exact hobX h
  ·have:w1.heap.size≤ob:=h
   omega
 show Sound Try.prog link.tWg Post 0 { S6 with w:=w7} _;refine hnext { S6 with w:=w7} ga ca ge ne ce ⟨⟨W.idle.roles,W.idle.grps,W.idle.pos⟩,W.n0,W.W0,?_,fun b hb hX=>?_,⟨st',X',hfr W.mem (fun b hb=>f7 b fun e=>hX'ob (e▸hb)) (Nat.le_of_eq s7.symm),fun b hb=>?_,W.erased⟩,?_,?_⟩
 ·show S.w.heap.size≤w7.heap.size
  omega
 ·show w7.heap[b]?=S.w.heap[b]?
  rw[f7 b (by omega),W.block b (show b<w1.heap.size by omega) hX,kob.block b hb (by simp)]
 ·rcases W.own b hb with h | h
  ·exact .inl h
  ·have:w1.heap.size≤b:=h
   exact .inr (by omega)
 ·exact rep_same W.actsv (Nat.le_of_eq s7.symm) fun b hb=>f7 b fun e=>by
   subst e;obtain⟨c,h⟩:=fp_cel W.actsv b hb;exact cel_ne h (Blk.cel bob6) (by decide) rfl
 ·have h:=W.ends
  rw[hCn] at h;exact rep_same h (Nat.le_of_eq s7.symm) fun b hb=>f7 b fun e=>by
   subst e;obtain⟨c,h⟩:=fp_cel h b hb;exact cel_ne h (Blk.cel bob6) (by decide) rfl
theorem run_plan (hok:∀ C:WC,C.n=n→C.fn=fn→C.cap=cap→BOk (p.bods C) C)(hfr:∀ {a st X w w'},p.mem a st X w→(∀ b,X b→w'.heap[b]?=w.heap[b]?)→w.heap.size≤w'.heap.size→p.mem a st X w')(hid:Idle S)(hn:0<n)(hn8:n≤8)(hcl:cl.mode=.run)
  (hfb:fb<S.w.heap.size) (hfv:∀ j,j<n→S.w.cell? ⟨fb,fo+j,none⟩=some (.func (.func (fn j)) #[] (cap j))) (hpk:Bytes pb S.w vp picks) (hpb:pb<S.w.heap.size) (hpx:¬ X pb) (hpl:picks.length≤65536) (hm0:0≤most) (hm1:most<4294967295)
  (hmem:p.mem a0 (fun _=>.fresh) X S.w) (hXl:∀ b,X b→b<S.w.heap.size)
  (hnext:∀ S' ga ca ge ne ce,Ran p n most (p.run n most a0 picks) S S' X (.slice ga (p.run n most a0 picks).acts.length ca) (.slice ge ne ce) →
   Sound Try.prog link.tWg Post 0 S' (gs (cl.finish (.tuple #[.agg #[.slice ga (p.run n most a0 picks).acts.length ca,.slice ge ne ce,.int .i64 ((picks.length-(p.run n most a0 picks).left.length:Nat):Int)],.int .i64 (codeM (decide (most≤((p.run n most a0 picks).acts.length:Int))) (donesE n (p.run n most a0 picks).st))])) cs)) :
  Sound Try.prog link.tWg Post 0 S (gs (Frame.enter Try.prog 12 #[.slice (some ⟨fb,fo,none⟩) n c0,vp,.int .i64 most] .normal) (cl::cs)) :=
 run_planK hok hfr hid hn hn8 hcl hfb hfv hpk hpb (.inl hpx) hpl hm0 hm1 hmem hXl hnext
end
theorem Kp.new {F:List Nat}{w w' w'':World}(h:Kp [] w w')(k:Kp F w' w'')(hF:∀ b∈F,w.heap.size≤b):Kp [] w w'' :=
 ⟨Nat.le_trans h.size k.size,fun b hb _=>(k.block b (nl' hb h.size) fun hm=>absurd hb (Nat.not_lt.2 (hF b hm))).trans (h.block b hb (by simp))⟩
theorem Ran.kp {L A:Type}{p:Plan L A}{n:Nat}{most:Int}{y:RunSt L A}{S S':SC}{X:Nat→Prop}{va ve:Value}(R:Ran p n most y S S' X va ve){w:World}(k:Kp [] w S.w)(hX:∀ b,X b→w.heap.size≤b):Kp [] w S'.w :=
 ⟨Nat.le_trans k.size R.size,fun b hb _=>(R.block b (nl' hb k.size) fun h=>absurd hb (Nat.not_lt.2 (hX b h))).trans (k.block b hb (by simp))⟩
theorem call_new {m:Bool}{K:Goroutine→World→Prop}(hK:Cl Try.prog m K){f:FuncId}{args:Array Value}{cells:List Value}{t:TypeId}{w:World}{c:Frame}{low:List Frame}(hf:fam f=true)(hc:∀ w,Calls Try.prog f args w fun e w'=>e=.returned (ptr w.heap.size)∧w'=w.alloc (.cells cells.toArray t))
  (h:∀ w' b,b=w.heap.size→Kp [] w w'→Blk w' b cells t→K (gs (c.finish (ptr b)) low) w'):K (gs (Frame.enter Try.prog f args .normal) (c::low)) w:=by
 refine hK.call fits shut hf (R:=fun v w'=>v=ptr w.heap.size∧Kp [] w w'∧Blk w' w.heap.size cells t) (fun v w' τ d ⟨h1,h2,h3⟩=>⟨h1,⟨h2.size,h2.block⟩,h3⟩) (fun τ d=>(hc (re w τ d)).mono fun e w' ⟨h1,h2⟩=>⟨_,h1,rfl,?_,?_⟩) ?_
 ·subst h2
  have:=Kp.alloc [] (re w τ d) (.cells cells.toArray t);exact⟨this.size,this.block⟩
 ·subst h2
  exact Blk.new (re w τ d) cells t
 ·rintro v w' ⟨rfl,k,b⟩
  exact h w' _ rfl k b
theorem mutex_new (w:World):Calls Try.prog 18 #[] w fun e w'=>e=.returned (ptr w.heap.size)∧w'=w.alloc (.cells [.bool true,.int .i64 (-1)].toArray 91):=by
 go_enter Try.func18,Try.ntmps18
 go_wp2
 go_ret
 exact⟨rfl,rfl⟩
theorem fair_new (w:World):Calls Try.prog 13 #[] w fun e w'=>e=.returned (ptr w.heap.size)∧w'=w.alloc (.cells [.bool true,.int .i64 (-1),.int .i64 0,.int .i64 0].toArray 88):=by
 go_enter Try.func13,Try.ntmps13
 go_wp2
 go_ret
 exact⟨rfl,rfl⟩
theorem rw_new (w:World):Calls Try.prog 19 #[] w fun e w'=>e=.returned (ptr w.heap.size)∧w'=w.alloc (.cells [.bool true,.int .i64 (-1),.int .i64 0,.int .i64 0].toArray 93):=by
 go_enter Try.func19,Try.ntmps19
 go_wp2
 go_ret
 exact⟨rfl,rfl⟩
theorem holder_calls (w:World)(mb:Nat){by0:Int}(h0:w.cell? ⟨mb,0,none⟩=some (.bool true))(h1:w.cell? ⟨mb,1,none⟩=some (.int .i64 by0)):Calls Try.prog 31 #[ptr mb] w fun e w'=>e=.returned (.int .i64 by0)∧w'=w:=by
 go_enter Try.func31,Try.ntmps31
 go_wp2
 go_ret
 exact⟨rfl,rfl⟩
def q7:Code:=Try.f7.body.getD .skip
theorem al_48:∀ w:World,(Instr.alloc 48 true (.tuple #[])).run Try.prog w=.ok (ptr w.heap.size) (w.alloc (.cells #[.pointer none] 48)):=fun w=>by
 simp[go_sem,Try.underlying48,Try.runUnderlying48,Try.sizeOf48,Try.isAgg48,Try.zeroValue48]
theorem s_48 {w:World}{a:Addr}{x:Value}{y:Option Addr}(hc:w.cell? a=some x)(hf:w.frozen? a=false):(Instr.storeAt 48 (.pointer (some a)) (.pointer y)).run Try.prog w=.ok () (w.setCell a (.pointer y)):=by simp[go_sem,hc,hf,Try.underlying48,Try.runUnderlying48,Try.sizeOf48,Try.isAgg48]
theorem al_3:∀ w:World,(Instr.alloc 3 true (.tuple #[])).run Try.prog w=.ok (ptr w.heap.size) (w.alloc (.cells #[.int .i64 0] 3)):=fun w=>by
 simp[go_sem,Try.underlying3,Try.runUnderlying3,Try.sizeOf3,Try.isAgg3,Try.zeroValue3]
theorem w_mk0_2 {a:Act}{oo:Oper}{w:World}{y0 y1:Operand}{u0 u1:Value}{ff:FuncId}(h:oo.op=.makeFunc (.func ff) #[] #[y0,y1])(hy0:a.eval y0=u0)(hy1:a.eval y1=u1):(execOp a.eval oo).run Try.prog w=.ok (.value (.func (.func ff) #[] #[u0,u1])) w:=by
 unfold execOp;rw[h];exact run_vv (by simp only[List.map_toArray,List.map_cons,List.map_nil,hy0,hy1];simp[go_sem])
theorem x_bs27_2 {a:Act}{oo:Oper}{w:World}{x0 x1:Operand}{f0 f1:FuncId}{d0 c0 d1 c1:Array Value}(h:oo.op=.buildSlice 27 2 #[(0,x0),(1,x1)])(h0:a.eval x0=.func (.func f0) d0 c0)(h1:a.eval x1=.func (.func f1) d1 c1):(execOp a.eval oo).run Try.prog w=.ok (.value (.slice (some ⟨w.heap.size,0,none⟩) 2 2)) (w.alloc (.cells #[.func (.func f0) d0 c0,.func (.func f1) d1 c1] 31)):=by
 unfold execOp;rw[h];generalize a.eval=ρ at h0 h1 ⊢;simp only[Array.map_map,List.map_toArray,List.map,Function.comp,h0,h1];exact run_vv (by simp[go_sem,Try.underlying27,Try.runUnderlying27,Try.sizeOf31,Try.isAgg31,Try.zeroValue31])
theorem al_34:∀ w:World,(Instr.alloc 34 true (.tuple #[])).run Try.prog w=.ok (ptr w.heap.size) (w.alloc (.cells #[.slice none 0 0,.slice none 0 0,.int .i64 0] 34)):=fun w=>by
 simp[go_sem,Try.underlying34,Try.runUnderlying34,Try.sizeOf34,Try.isAgg34,Try.zeroValue34]
theorem wk5 (w:World)(x:Nat→Value)(mx mb nb:Nat)(c1:w.cell? ⟨mx,0,none⟩=some (ptr mb))(c2:w.cell? ⟨nb,0,none⟩=some (.int .i64 2))(hh:Calls Try.prog 31 #[ptr mb] w fun e w'=>e=.returned (.int .i64 (-1))∧w'=w)(h1:x 1=ptr mx)(h2:x 2=ptr nb)(h5:x 5=.int .i64 0) :
  (sL (sR (sR (sR (sR (sR q7)))))).wp Try.prog (fun e a' w'=>e=.normal∧a'.defers=[]∧lQ 30 (fun x=>x 0=.bool true) w a'.tmps w') ⟨fg 30 x,[]⟩ w:=by
 have HQ:Hid (∀ (t:Array Value) (w':World),lQ 30 (fun x=>x 0=.bool true) w t w'→lQ 30 (fun x=>x 0=.bool true) w t w'):=Lib.hid fun _ _ h=>h;generalize hG:lQ 30 (fun x=>x 0=.bool true) w=G at HQ ⊢;have HG:=Lib.hid hG;clear hG;rw[show fg 30 x=#[x 0,x 1,x 2,x 3,x 4,x 5,x 6,x 7,x 8,x 9,x 10,x 11,x 12,x 13,x 14,x 15,x 16,x 17,x 18,x 19,x 20,x 21,x 22,x 23,x 24,x 25,x 26,x 27,x 28,x 29] from rfl];simp only[q7,Try.f7,Option.getD_some,sL,sR,sB,sT,sF,h1,h2,h5];have HH:=Lib.hid hh;clear hh
 go_wp2_with (go_at_call 31;refine(HH.out).mono ?_;rintro e w' ⟨rfl,rfl⟩)
 refine HQ.out _ _ ?_;rw[← HG.out];exact lQ_mk rfl rfl (Keeps.refl _ _)
theorem works_runs {Post:Value→World→Prop}{S:SC}{cl:Frame}{cs:List Frame}(hid:Idle S)(hcl:cl.mode=.run)(hnext:∀ S',Idle S'→S'.n0=S.n0→S'.W0=S.W0→Kp [] S.w S'.w→Sound Try.prog link.tWg Post 0 S' (gs (cl.finish (.bool true)) cs)):Sound Try.prog link.tWg Post 0 S (gs (Frame.enter Try.prog 7 #[] .normal) (cl::cs)):=by
 have hk:(base 7).kind≠.early:=nofun;have hK:=clS (Post:=Post) S;have hD:=hK.det;refine ks (S:=S) ?_ rfl;obtain⟨w,hw⟩:∃ w,w=S.w:=⟨_,rfl⟩;rw[← hw];have kk:Kp [] w w:=⟨Nat.le_refl _,fun _ _ _=>rfl⟩;rw[show(#[]:Array Value)=([]:List Value).toArray from rfl,enter_fg (n:=30) (c:=q7) Try.func7 rfl rfl rfl];refine hD.sr (hD.asn (.bool false) ?_);refine hD.z0 (hD.cf #[] hk Try.func18 ?_);refine call_new hK (f:=18) rfl (fun w=>mutex_new w) fun w1 nw1 hnw1 ksw1 bw1=>?_;have genw1:w.heap.size≤nw1:=by rw[hnw1];exact kk.size
 have kk:=kk.trans ksw1;refine fin_at (Kn:=fun _=>KS Try.prog link.tWg Post 0 S) (n:=0) (dst:=some 6) rfl rfl ?_;refine nm rfl ?_;refine hD.alloc (n:=0) (ob:=.cells #[.pointer none] 48) hk rfl ⟨rfl,rfl,rfl,(by decide +kernel),nofun⟩ al_48 ?_;obtain⟨w2,hsw2⟩:∃ z,z=w1.alloc (.cells #[.pointer none] 48):=⟨_,rfl⟩;obtain⟨nw2,hnw2⟩:∃ z,z=w1.heap.size:=⟨_,rfl⟩;have ksw2:Kp [] w1 w2:=by rw[hsw2];exact Kp.alloc [] _ _
 have bw2:Blk w2 nw2 [.pointer none] 48:=by rw[hsw2,hnw2];exact Blk.new _ _ _
 rw[← hsw2,← hnw2];clear hsw2;have genw2:w.heap.size≤nw2:=by rw[hnw2];exact kk.size
 have bw1':=ksw2.blk bw1 (by simp);have kk:=kk.trans ksw2;refine nm rfl ?_;refine hD.store (n:=0) (u:=(ptr nw2)) (z:=(ptr nw1)) hk rfl ⟨rfl,rfl,rfl,rfl,nofun⟩ rfl rfl (fun τ d=>((s_48 (w:=re w2 τ d) (bw2.cell 0) (bw2.frozen 0)).trans (congrArg (Result.ok ()) re_setCell))) (Nat.le_of_eq (World.size_setCell _ _ _).symm) ?_;obtain⟨w3,hsw3⟩:∃ z,z=w2.setCell ⟨nw2,0,none⟩ (ptr nw1):=⟨_,rfl⟩;have ksw3:Kp [nw2] w2 w3:=by rw[hsw3];exact⟨Nat.le_of_eq (World.size_setCell _ _ _).symm,fun c hc hn=>setCell_frame (by simpa using hn)⟩
 have bw3:Blk w3 nw2 [ptr nw1] 48:=by rw[hsw3];exact bw2.set 0 _
 rw[← hsw3];clear hsw3;have bw1'':=ksw3.blk bw1' (by simpa using (cel_ne (Blk.cel bw1') (Blk.cel bw2) (by decide)));have kk:=kk.new ksw3 (by simpa using genw2);refine hD.z0 (hD.alloc (n:=0) (ob:=.cells #[.int .i64 0] 3) hk rfl ⟨rfl,rfl,rfl,(by decide +kernel),nofun⟩ al_3 ?_);obtain⟨w4,hsw4⟩:∃ z,z=w3.alloc (.cells #[.int .i64 0] 3):=⟨_,rfl⟩;obtain⟨nw4,hnw4⟩:∃ z,z=w3.heap.size:=⟨_,rfl⟩;have ksw4:Kp [] w3 w4:=by rw[hsw4];exact Kp.alloc [] _ _
 have bw4:Blk w4 nw4 [.int .i64 0] 3:=by rw[hsw4,hnw4];exact Blk.new _ _ _
 rw[← hsw4,← hnw4];clear hsw4;have genw4:w.heap.size≤nw4:=by rw[hnw4];exact kk.size
 have bw1''':=ksw4.blk bw1'' (by simp);have bw3':=ksw4.blk bw3 (by simp);have kk:=kk.trans ksw4;refine nm rfl ?_;refine hD.store (n:=0) (u:=(ptr nw4)) (z:=(.int .i64 0)) hk rfl ⟨rfl,rfl,rfl,rfl,nofun⟩ rfl rfl (fun τ d=>((s_3 (w:=re w4 τ d) (bw4.cell 0) (bw4.frozen 0)).trans (congrArg (Result.ok ()) re_setCell))) (Nat.le_of_eq (World.size_setCell _ _ _).symm) ?_;obtain⟨w5,hsw5⟩:∃ z,z=w4.setCell ⟨nw4,0,none⟩ (.int .i64 0):=⟨_,rfl⟩;have ksw5:Kp [nw4] w4 w5:=by rw[hsw5];exact⟨Nat.le_of_eq (World.size_setCell _ _ _).symm,fun c hc hn=>setCell_frame (by simpa using hn)⟩
 have bw5:Blk w5 nw4 [.int .i64 0] 3:=by rw[hsw5];exact bw4.set 0 _
 rw[← hsw5];clear hsw5;have bw1'''':=ksw5.blk bw1''' (by simpa using (cel_ne (Blk.cel bw1''') (Blk.cel bw4) (by decide)));have bw3'':=ksw5.blk bw3' (by simpa using (cel_ne (Blk.cel bw3') (Blk.cel bw4) (by decide)));have kk:=kk.new ksw5 (by simpa using genw4);refine hD.z0 (hD.pun (.func (.func 27) #[] #[ptr nw2,ptr nw4]) (fun w=>w_mk0_2 rfl rfl rfl) ?_);refine hD.asn (.func (.func 27) #[] #[ptr nw2,ptr nw4]) ?_;refine hD.z0 (hD.mvn (.func (.func 27) #[] #[ptr nw2,ptr nw4]) ?_);refine hD.mvn (.func (.func 27) #[] #[ptr nw2,ptr nw4]) ?_;refine hD.opv (n:=0) (w':=w5.alloc (.cells #[(.func (.func 27) #[] #[ptr nw2,ptr nw4]),(.func (.func 27) #[] #[ptr nw2,ptr nw4])] 31)) (v:=(.slice (some ⟨w5.heap.size,0,none⟩) 2 2)) hk rfl ⟨rfl,rfl,rfl,(by decide +kernel),nofun⟩ (fun τ d=>x_bs27_2 rfl rfl rfl) (by rw[wz'];omega) ?_;obtain⟨w6,hsw6⟩:∃ z,z=w5.alloc (.cells #[(.func (.func 27) #[] #[ptr nw2,ptr nw4]),(.func (.func 27) #[] #[ptr nw2,ptr nw4])] 31):=⟨_,rfl⟩;obtain⟨nw6,hnw6⟩:∃ z,z=w5.heap.size:=⟨_,rfl⟩;have ksw6:Kp [] w5 w6:=by rw[hsw6];exact Kp.alloc [] _ _
 have bw6:Blk w6 nw6 [(.func (.func 27) #[] #[ptr nw2,ptr nw4]),(.func (.func 27) #[] #[ptr nw2,ptr nw4])] 31:=by rw[hsw6,hnw6];exact Blk.new _ _ _
 rw[← hsw6,← hnw6];clear hsw6;have genw6:w.heap.size≤nw6:=by rw[hnw6];exact kk.size
 have bw1''''':=ksw6.blk bw1'''' (by simp);have bw3''':=ksw6.blk bw3'' (by simp);have bw5':=ksw6.blk bw5 (by simp);have kk:=kk.trans ksw6;refine nm rfl ?_;refine hD.cf #[.slice (some ⟨nw6,0,none⟩) 2 2,.slice none 0 0,.int .i64 50] hk Try.func12 ?_;have ne1:nw2≠nw1:=cel_ne (Blk.cel bw3''') (Blk.cel bw1''''') (by decide);have nf1:nw6≠nw2:=cel_ne (Blk.cel bw6) (Blk.cel bw3''') (by decide);have nf2:nw6≠nw1:=cel_ne (Blk.cel bw6) (Blk.cel bw1''''') (by decide);have nf3:nw6≠nw4:=cel_ne (Blk.cel bw6) (Blk.cel bw5') (by decide);show Sound Try.prog link.tWg Post 0 { S with w:=w6} _;obtain⟨r1,r2,r3,r4⟩:=wk_run (B:=(⟨fun _ _ _ _=>True,fun _ _ _=>True,wkGo,wkRdy,fun _=>True⟩:Bods WkL WkA)) rfl rfl;obtain⟨y,hy⟩:∃ y,y=(wkPlan nw2 nw1 nw4).run 2 50 ⟨-1,0⟩ []:=⟨_,rfl⟩;have hy':y=runF (⟨fun _ _ _ _=>True,fun _ _ _=>True,wkGo,wkRdy,fun _=>True⟩:Bods WkL WkA) 2 (fun a=>a) (50:Int).toNat ⟨fun _=>.fresh,⟨-1,0⟩,[],[]⟩:=hy;rw[← hy'] at r1 r2 r3 r4;clear hy';have hfv:∀ j,j<2→w6.cell? ⟨nw6,0+j,none⟩=some (.func (.func 27) #[] #[ptr nw2,ptr nw4]):=fun j hj=>by
  obtain rfl | rfl:j=0∨j=1:=by omega
  ·exact bw6.cell 0
  ·exact bw6.cell 1
 have hpx:¬ (nw6=nw2∨nw6=nw1∨nw6=nw4):=fun e=>by
  rcases e with e | e | e
  ·exact nf1 e
  ·exact nf2 e
  ·exact nf3 e
 have hXl:∀ b,b=nw2∨b=nw1∨b=nw4→b<w6.heap.size:=fun b hb=>by
  rcases hb with rfl | rfl | rfl
  ·exact bw3'''.lt
  ·exact bw1'''''.lt
  ·exact bw5'.lt
 refine run_plan (S:={S with w:=w6}) (p:=wkPlan nw2 nw1 nw4) (n:=2) (most:=50) (picks:=[]) (X:=fun b=>b=nw2∨b=nw1∨b=nw4) (a0:=⟨-1,0⟩) (fb:=nw6) (fo:=0) (pb:=nw6) (fn:=fun _=>27) (cap:=fun _=>#[ptr nw2,ptr nw4])
  (fun C _ h1 h2=>wk_ok (fun i _=>by rw[h1]) (fun i _=>by rw[h2])) (fun h hb hs=>⟨h.x,(hb _ ((h.x _).2 (.inl rfl))).trans h.m,(hb _ ((h.x _).2 (.inr (.inl rfl)))).trans h.l,(hb _ ((h.x _).2 (.inr (.inr rfl)))).trans h.n,h.rv⟩) ⟨hid.roles,hid.grps,hid.pos⟩ (by decide) (by decide) rfl bw6.lt
  hfv ⟨none,0,rfl,Nat.le_refl _,Nat.zero_le _,(fun u hu=>by cases hu),fun h=>absurd rfl h⟩ bw6.lt hpx (by decide) (by decide) (by decide)
  ⟨fun _=>Iff.rfl,bw3''',bw1''''',bw5',fun i l rv e=>by cases e⟩ hXl fun S6 ga ca ge ne ce R=>?_
 rw[← hy] at R ⊢;obtain⟨st',X',hm,hX',_⟩:=R.mem;have c1:=hm.m;have c2:=hm.l;have c3:=hm.n;rw[r1] at c2 c3;have hdn:donesE 2 y.st=List.replicate 2 true:=by
  show [isDoneE (y.st 0),isDoneE (y.st 1)]=_;rw[r2,r3];rfl
 rw[hdn,codeM_done,r4];have hK6:=clS (Post:=Post) S6;refine ks (S:=S6) ?_ rfl;have hK:=hK6;have hD:=hK.det;obtain⟨w6,hw6⟩:∃ w,w=S6.w:=⟨_,rfl⟩;have kk:Kp [] w w6:=by
  rw[hw6];exact R.kp (w:=w) kk fun b hb=>by
   rcases hb with rfl | rfl | rfl
   ·exact genw2
   ·exact genw1
   ·exact genw4
 rw[← hw6] at c1 c2 c3 ⊢;refine fin_at (Kn:=fun _=>KS Try.prog link.tWg Post 0 S6) (n:=0) (dst:=some 12) rfl rfl ?_;refine nm rfl ?_;refine hD.mvn (.tuple #[.agg #[.slice ga 8 ca,.slice ge ne ce,.int .i64 (([]:List Nat).length-y.left.length:Nat)],.int .i64 0]) ?_;refine hD.pun (.agg #[.slice ga 8 ca,.slice ge ne ce,.int .i64 (([]:List Nat).length-y.left.length:Nat)]) (fun w=>pu_ext rfl rfl rfl) ?_;refine hD.pun (.int .i64 0) (fun w=>pu_ext rfl rfl rfl) ?_;refine hD.alloc (n:=0) (ob:=.cells #[.slice none 0 0,.slice none 0 0,.int .i64 0] 34) hk rfl ⟨rfl,rfl,rfl,(by decide +kernel),nofun⟩ al_34 ?_;obtain⟨w7,hsw7⟩:∃ z,z=w6.alloc (.cells #[.slice none 0 0,.slice none 0 0,.int .i64 0] 34):=⟨_,rfl⟩;obtain⟨nw7,hnw7⟩:∃ z,z=w6.heap.size:=⟨_,rfl⟩;have ksw7:Kp [] w6 w7:=by rw[hsw7];exact Kp.alloc [] _ _
 have bw7:Blk w7 nw7 [.slice none 0 0,.slice none 0 0,.int .i64 0] 34:=by rw[hsw7,hnw7];exact Blk.new _ _ _
 rw[← hsw7,← hnw7];clear hsw7;have genw7:w.heap.size≤nw7:=by rw[hnw7];exact kk.size
 have c1':=ksw7.blk c1 (by simp);have c2':=ksw7.blk c2 (by simp);have c3':=ksw7.blk c3 (by simp);have kk:=kk.trans ksw7;refine nm rfl ?_;refine hD.store (n:=0) (u:=(ptr nw7)) (z:=(.agg #[.slice ga 8 ca,.slice ge ne ce,.int .i64 (([]:List Nat).length-y.left.length:Nat)])) hk rfl ⟨rfl,rfl,rfl,rfl,nofun⟩ rfl rfl (fun τ d=>((st30 (w:=re w7 τ d) bw7).trans (congrArg (Result.ok ()) re_set3))) (Nat.le_of_eq set3_size.symm) ?_;obtain⟨w8,hsw8⟩:∃ z,z=set3 w7 nw7 (.slice ga 8 ca) (.slice ge ne ce) (.int .i64 (([]:List Nat).length-y.left.length:Nat)):=⟨_,rfl⟩;have ksw8:Kp [nw7] w7 w8:=by rw[hsw8];exact⟨Nat.le_of_eq set3_size.symm,fun c hc hn=>set3_frame (by simpa using hn)⟩
 have bw8:Blk w8 nw7 [.slice ga 8 ca,.slice ge ne ce,.int .i64 (([]:List Nat).length-y.left.length:Nat)] 34:=by rw[hsw8];exact set3_blk bw7
 rw[← hsw8];clear hsw8;have c1'':=ksw8.blk c1' (by simpa using (cel_ne (Blk.cel c1') (Blk.cel bw7) (by decide)));have c2'':=ksw8.blk c2' (by simpa using (cel_ne (Blk.cel c2') (Blk.cel bw7) (by decide)));have c3'':=ksw8.blk c3' (by simpa using (cel_ne (Blk.cel c3') (Blk.cel bw7) (by decide)));have kk:=kk.new ksw8 (by simpa using genw7);refine hD.asn (.int .i64 0) ?_;refine hD.e0 (hD.s0 (hK.seg fits shut (b:=base 7) ⟨_,Try.func7⟩ nofun (c:=(sL (sR (sR (sR (sR (sR q7))))))) (by decide +kernel) (Q:=lQ 30 (fun x=>x 0=.bool true) w8) (fun t w' τ d h=>lQ_re h τ d) (fun τ d=>Code.wp_mono (fun e a w' ⟨h1,h2,h3⟩=>⟨h1,h2,lQ_un h3⟩) (wk5 (re w8 τ d) _ nw2 nw1 nw4 (c1''.cell 0) (c3''.cell 0) (holder_calls _ _ (c2''.cell 0) (c2''.cell 1)) rfl rfl rfl)) fun t w9 ⟨x',ex',g0,ksw9⟩=>?_));subst ex';rw[allK.self (x:=x') (l:=[(0,.bool true)]) ⟨g0,trivial⟩];have c1''':=ksw9.blk c1'' (by simp);have c2''':=ksw9.blk c2'' (by simp);have c3''':=ksw9.blk c3'' (by simp);have bw8':=ksw9.blk bw8 (by simp);have kk:=kk.trans ksw9;refine hD.ret (n:=0) ?_;exact hD.leave (n:=0) (b:=base 7) (v:=.bool true) rfl rfl Try.func7 (fun τ d=>res1v rfl rfl) hcl (hnext { S6 with w:=w9} ⟨R.idle.roles,R.idle.grps,R.idle.pos⟩ R.n0 R.W0 (hw▸kk))
open Go.ConcN (sumTo upd sumTo_upd upd_ne upd_same)
inductive CeL
 | load (j t:Nat)
 | cas (j t:Nat) (v:Int)
def ceNext (k j:Nat)(v:Int):Int × Option CeL:=if j+1<k then (v,some (.load (j+1) 0)) else (v,none)
def ceGo (k:Nat→Nat)(i:Nat)(t:ES CeL)(a:Int)(_n:Nat):Int × Option CeL:=match t with
 | .fresh=>if 0<k i then (a,some (.load 0 0)) else (a,none)
 | .susp (.load j t)=>(a,some (.cas j t a))
 | .susp (.cas j t v)=>if a=v then ceNext (k i) j (wrap64 (v+1)) else if t+1<500 then (a,some (.load j (t+1))) else ceNext (k i) j a
 | .done=>(a,none)
section
variable {n:Nat}{k:Nat→Nat}{from':Int}{B:Bods CeL Int}
end
theorem w_lss3 {a:Act}{oo:Oper}{w:World}{x y:Operand}{i j:Int}(h:oo.op=.binOp .lss 3 x y 3)(hx:a.eval x=.int .i64 i)(hy:a.eval y=.int .i64 j):(execOp a.eval oo).run Try.prog w=.ok (.value (.bool (decide (i<j)))) w:=by
 unfold execOp;rw[h];simp only[hx,hy];exact run_vv (by simp[go_sem,Try.underlying3,Try.runUnderlying3])
theorem l_25 {w:World}{a:Addr}{v:Value}(hc:w.cell? a=some v):(Instr.loadAt 25 (.pointer (some a))).run Try.prog w=.ok v w:=by simp[go_sem,hc,Try.underlying25,Try.runUnderlying25,Try.sizeOf25,Try.isAgg25]
structure CeM (n:Nat)(kx:Nat→Nat)(cx cb:Nat)(k:Nat→Nat)(a:Int)(st:Nat→TS CeL)(X:Nat→Prop)(w:World):Prop where
 x:∀ b,X b↔b=cx∨b=cb∨∃ i,i<n∧b=kx i
 ks:∀ i,i<n→Blk w (kx i) [.int .i64 (k i:Int)] 3
 cx:Blk w cx [ptr cb] 25
 cb:∃ m,Blk w cb [.bool true,.int .i64 a,.int .i64 m] 82
 rv:∀ i l rv,st i=.susp l rv→rv=.nilFunc
def cePlan (n:Nat)(kx:Nat→Nat)(cx cb:Nat)(k:Nat→Nat):Plan CeL Int:=⟨CeM n kx cx cb k,ceGo k,fun _ _ _=>true⟩
section
variable {n:Nat}{kx:Nat→Nat}{cx cb:Nat}{k:Nat→Nat}{a a':Int}{st:Nat→TS CeL}{X:Nat→Prop}{w w':World}
end
structure ceOut (n0:Nat)(kx:Nat→Nat)(cx cb:Nat)(k:Nat→Nat)(C:WC)(fu:Nat):Prop where
 h:∀ {i j n:Nat} {K:Goroutine→World→Prop} {F:Frame} {cs:List Frame} {st:Nat→TS CeL} {X:Nat→Prop} {w:World} {a:Int} {x:Nat→Value},i<n0→k i≤5→1000*(k i-j)≤fu→j≤k i→Th (cePlan n0 kx cx cb k) C fu i K F cs st X w n (if j<k i then (a,some (.load j 0)) else (a,none))→CeM n0 kx cx cb k a st X w→x 0=ptr (C.bt i)→x 1=ptr (kx i)→x 2=ptr cx→x 4=.int .i64 (j:Int)→K (gs ((base 9).at ⟨fg 25 x,[]⟩ [.code (sB (sB (sR q9))),.inLoop (sB (sB (sR q9))),.inBlock 0]) (F::cs)) w
structure ceIn (n0:Nat)(kx:Nat→Nat)(cx cb:Nat)(k:Nat→Nat)(C:WC)(fu:Nat):Prop where
 h:∀ {i j t n:Nat} {K:Goroutine→World→Prop} {F:Frame} {cs:List Frame} {st:Nat→TS CeL} {X:Nat→Prop} {w:World} {a:Int} {x:Nat→Value},i<n0→k i≤5→t<500→j<k i→1000*(k i-j)-2*t≤fu→Th (cePlan n0 kx cx cb k) C fu i K F cs st X w n (a,some (.load j t))→CeM n0 kx cx cb k a st X w→x 0=ptr (C.bt i)→x 1=ptr (kx i)→x 2=ptr cx→x 4=.int .i64 (j:Int)→x 5=.int .i64 (t:Int)→K (gs ((base 9).at ⟨fg 25 x,[]⟩ [.code (sB (sB (sR (sB (sL (sR (sB (sB (sR q9))))))))),.inLoop (sB (sB (sR (sB (sL (sR (sB (sB (sR q9))))))))),.inBlock 2,.inBlock 1,.code (sR (sR (sB (sB (sR q9))))),.inLoop (sB (sB (sR q9))),.inBlock 0]) (F::cs)) w
def q3:Code:=Try.f3.body.getD .skip
theorem Kp.cells {w w':World}(h:Kp [] w w')(b o:Nat)(v:Value)(hc:w.cell? ⟨b,o,none⟩=some v):w'.cell? ⟨b,o,none⟩=some v:=by
 have hl:b<w.heap.size:=by
  unfold World.cell? at hc;cases e:w.heap[b]? with
  | none=>rw[e] at hc;simp at hc
  | some x=>exact(aq' e).1
 exact(cell_same (h.block b hl (by simp))).trans hc
section
variable {P:Program}{m:Bool}{Kn:Nat→Goroutine→World→Prop}{b:Frame}{a:Act}{k:List Item}{cs:List Frame}{w:World}{n:Nat}{ops:Array Oper}{i:Nat}{rest:List Nat}{o:Oper}
theorem Det.entg (hK:Det P m Kn){f:FuncId}{args:Array Value}(hk:b.kind≠.early)(ho:ops[i]?=some o)(hw:Region.wanted o (yielded ops a.tmps)=true)(hok:okOp P o.op=true)(hnp:∀ x,o.op≠.panic x)(hr:∀ τ d,(execOp a.eval o).run P (re w τ d)=.ok (.enter f args) (re w τ d))
  (h:Kn n (gs (Frame.enter P f args .normal) (b.at a (.inRegion ops (i::rest)::k)::cs)) w):Kn (n+1) (gs (b.at a (.inRegion ops (i::rest)::k)) cs) w :=
 hK _ _ _ _ _ rfl ⟨fun _=>okHd_op ho hok hnp,fun τ d=>⟨_,stepG_enter ho hw hk (hr τ d)⟩,⟨rfl,rfl⟩,Nat.le_refl _⟩ h
end
theorem step_nil {m:Bool}{K:Goroutine→World→Prop}{w:World}{cs:List Frame}(hK:Cl Try.prog m K){cl:Frame}(hcm:cl.mode=.run)(h:∀ w',Kp [] w w'→K (gs (cl.finish (.tuple #[])) cs) w'):K (gs (Frame.enter Try.prog 29 #[.pointer none] .normal) (cl::cs)) w:=step_idle hK hcm idle_none h
section
variable {m:Bool}{K:Goroutine→World→Prop}{w:World}{cl:Frame}{cs:List Frame}{cb:Nat}{v0 n0:Int}
theorem cell_begins_nil (hK:Cl Try.prog m K)(hcm:cl.mode=.run)(hcb:Blk w cb [.bool true,.int .i64 v0,.int .i64 n0] 82)(h:∀ w',Kp [cb] w w'→Blk w' cb [.bool true,.int .i64 v0,.int .i64 (wrap64 (n0+1))] 82→K (gs (cl.finish (.bool true)) cs) w'):K (gs (Frame.enter Try.prog 32 #[ptr cb,.pointer none] .normal) (cl::cs)) w:=by
 have hk:(base 32).kind≠.early:=nofun;have hD:=hK.det;rw[show(#[ptr cb,(.pointer none)]:Array Value)=[ptr cb,(.pointer none)].toArray from rfl,enter_fg (n:=23) (c:=q32) Try.func32 rfl rfl rfl];refine hD.sr (hD.asn (.bool false) ?_);refine hD.e0 (hD.s0 (hD.sr (hD.mvn (ptr cb) ?_)));refine hD.pun (.bool false) (fun w=>w_eql25_p rfl rfl) ?_;refine hD.mvn (.bool false) ?_;refine hD.gwn (ptr cb) rfl (fun τ d=>ex_move rfl rfl) ?_;refine hD.gwn (ptr cb) rfl (fun τ d=>ex_nilc rfl rfl) ?_;refine hD.gwn (ptr cb) rfl (fun τ d=>ex_field (v:=(ptr cb)) rfl rfl fa82_0) ?_;refine hD.gwn (.bool true) rfl (fun τ d=>ex_load rfl rfl (l_4 (hcb.cell 0))) ?_;refine hD.gwn (.bool false) rfl (fun τ d=>pu_not (y:=true) rfl rfl) ?_;refine hD.pun (.bool false) (fun w=>pu_pick (t:=false) rfl rfl rfl) ?_;refine hD.e0 (hD.cc false (hD.k0 (hD.sr (hD.mvn (.pointer none) ?_))));refine hD.cf #[(.pointer none)] hk Try.func29 ?_;refine step_nil hK rfl fun w1 k1=>?_;have hcb':=k1.blk hcb (by simp);refine finn 15 ?_;refine hD.z0 (hD.mvn (ptr cb) ?_);refine hD.ncn ⟨cb,0,none⟩ ?_;refine hD.fdn (ptrAt cb 2) fa82_2 ?_;refine hD.ldn (.int .i64 n0) (fun τ d=>l_3 (hcb'.cell 2)) ?_;refine hD.pun (.int .i64 (wrap64 (n0+1))) (fun w=>w_add3 rfl rfl rfl) ?_;refine hD.ncn ⟨cb,0,none⟩ ?_;refine hD.fdn (ptrAt cb 2) fa82_2 ?_;refine hD.store (n:=0) (u:=(ptrAt cb 2)) (z:=(.int .i64 (wrap64 (n0+1)))) hk rfl ⟨rfl,rfl,rfl,rfl,nofun⟩ rfl rfl (fun τ d=>((s_3 (w:=re w1 τ d) (hcb'.cell 2) (hcb'.frozen 2)).trans (congrArg (Result.ok ()) re_setCell))) (Nat.le_of_eq (World.size_setCell _ _ _).symm) ?_;obtain⟨w2,hsw2⟩:∃ z,z=w1.setCell ⟨cb,2,none⟩ (.int .i64 (wrap64 (n0+1))):=⟨_,rfl⟩;have ksw2:Kp [cb] w1 w2:=by rw[hsw2];exact⟨Nat.le_of_eq (World.size_setCell _ _ _).symm,fun c hc hn=>setCell_frame (by simpa using hn)⟩
 have bw2:Blk w2 cb [.bool true,.int .i64 v0,.int .i64 (wrap64 (n0+1))] 82:=by rw[hsw2];exact hcb'.set 2 _
 rw[← hsw2];clear hsw2;refine hD.z0 (hD.asn (.bool true) ?_);refine hD.e0 (hD.ret (n:=0) ?_);exact hD.leave (n:=0) (b:=base 32) (v:=.bool true) rfl rfl Try.func32 (fun τ d=>res1v rfl rfl) hcm (h _ (k1.kp1 ksw2) bw2)
end
def addsOf (xs:List Int)(i:Nat):Nat:=(((xs.getD i 0).tmod 6+6).tmod 6).toNat
def ceV (cx:Nat)(b:Nat):Value:=.func (.func 9) #[] #[ptr b,ptr cx]
structure CeB (w:World)(xs:List Int)(cx N j:Nat)(bs:List Nat)(v:Value):Prop where
 len:bs.length=j
 rep:RepF w v (bs.map (ceV cx))
 fresh:∀ b∈fp v,N≤b
 made:∀ i b,bs[i]?=some b→N≤b∧b∉fp v∧Blk w b [.int .i64 (addsOf xs i:Int)] 3
end Go.Proofs.Ytgapgmigmlideaa.Lift
