/- Sa Ta Ua Va Ub Uc Ud Ue Uf Vb Rg Vc -/
import Derived.Deep.RegionWith
import Derived.Test.YtgapgmigmlideaaRows
import Derived.WalkKit
import Derived.ProofKit
import Derived.OpenShut
import Derived.JoinedCond
import Derived.Deep.Slices
import Derived.Deep.Fields
import Derived.ChangeSame
import Derived.Conc.Holds
import Derived.Conc.LeavingOf
import Derived.Test.YtgapgmigmlideaaMe
set_option linter.unusedVariables false
set_option linter.unusedSimpArgs false
set_option maxRecDepth 100000
set_option maxHeartbeats 6400000
noncomputable section
namespace Go.Proofs.Ytgapgmigmlideaa.Lift
open Go Go.Conc Go.RowKit Pl
def q15:Code:=Try.f15.body.getD .skip
theorem bx_39 {p:Option Addr}:∀ w:World,(Instr.box 39 (.pointer p)).run Try.prog w=.ok (ptr w.heap.size) (w.alloc (.cells #[.pointer p] 39)):=fun w=>by
 simp[go_sem,Try.underlying39,Try.runUnderlying39,Try.sizeOf39,Try.isAgg39,Try.zeroValue39]
theorem l_39 {w:World}{a:Addr}{v:Value}(hc:w.cell? a=some v):(Instr.loadAt 39 (.pointer (some a))).run Try.prog w=.ok v w:=by simp[go_sem,hc,Try.underlying39,Try.runUnderlying39,Try.sizeOf39,Try.isAgg39]
theorem fa88_1 {b o:Nat}:∀ w,(Instr.fieldAt 88 (.pointer (some ⟨b,o,none⟩)) 1).run Try.prog w=.ok (.pointer (some ⟨b,o+2,none⟩)) w:=fun w=>by
 simp[go_sem,Try.underlying88,Try.runUnderlying88,Try.sizeOf88,Try.isAgg88,Try.sizeOf3,Try.sizeOf86]
theorem fa88_2 {b o:Nat}:∀ w,(Instr.fieldAt 88 (.pointer (some ⟨b,o,none⟩)) 2).run Try.prog w=.ok (.pointer (some ⟨b,o+3,none⟩)) w:=fun w=>by
 simp[go_sem,Try.underlying88,Try.runUnderlying88,Try.sizeOf88,Try.isAgg88,Try.sizeOf3,Try.sizeOf86]
theorem ThR.new {L A:Type}{p:Plan L A}{C:WC}{rs:L × List Nat→List Frame→Prop}{i n:Nat}{K:Goroutine→World→Prop}{F:Frame}{cs:List Frame}{st:Nat→TS L}{X:Nat→Prop}{w w':World}{P:A × Option L}(T:ThR p C rs i K F cs st X w n P)(h:Kp [] w w'){nb:Nat}(hn:w.heap.size≤nb):ThR p C rs i K F cs st (fun b=>X b∨b=nb) w' n P:=by
 obtain⟨ba,sa,ck,ga,ca,hrn⟩:=T.rn;exact T.to ⟨h.size,fun b hb _=>h.block b hb (by simp),fun b hb=>hb.imp id fun e=>by subst e;exact hn⟩ (h.block _ T.bt.lt (by simp)) (h.block _ hrn.lt (by simp))
theorem ThR.grow {L A:Type}{p:Plan L A}{C:WC}{rs:L × List Nat→List Frame→Prop}{i n:Nat}{K:Goroutine→World→Prop}{F:Frame}{cs:List Frame}{st:Nat→TS L}{X:Nat→Prop}{w w':World}{P:A × Option L}(T:ThR p C rs i K F cs st X w n P){mb:Nat}{cells:List Value}{t:TypeId}(hb:Cel w mb cells t)(h1:t≠131)(h2:t≠118)(hX:X mb)(h:Kp [mb] w w'){nb:Nat}(hn:w.heap.size≤nb):ThR p C rs i K F cs st (fun b=>X b∨b=nb) w' n P:=by
 obtain⟨ba,sa,ck,ga,ca,hrn⟩:=T.rn;refine T.to ⟨h.size,fun b hb' hnx=>h.block b hb' fun hm=>hnx ?_,fun b hb=>hb.imp id fun e=>by subst e;exact hn⟩ (h.block _ T.bt.lt (by simpa using cel_ne T.bt hb (Ne.symm h1))) (h.block _ hrn.lt (by simpa using cel_ne hrn hb (Ne.symm h2)));rw[List.mem_singleton.1 hm];exact hX
def sQ (n:Nat)(Pr:(Nat→Value)→Prop)(b:Nat)(cells:List Value)(ty:TypeId)(w:World)(t:Array Value)(w':World):Prop:=∃ x,t=fg n x∧Pr x∧Kp [b] w w'∧Blk w' b cells ty
theorem sQ_mk {n:Nat}{Pr:(Nat→Value)→Prop}{w w':World}{t:Array Value}{b:Nat}{cells:List Value}{ty:TypeId}(hs:t.size=n)(h:Pr fun q=>t.getD q undef)(k:Kp [b] w w')(hb:Blk w' b cells ty):sQ n Pr b cells ty w t w':=⟨_,t_fg hs,h,k,hb⟩
theorem sQ_re {n:Nat}{Pr:(Nat→Value)→Prop}{w w':World}{t:Array Value}{b:Nat}{cells:List Value}{ty:TypeId}(h:sQ n Pr b cells ty w t w')(τ:Nat→Question→Nat)(d:Nat):sQ n Pr b cells ty w t (re w' τ d):=let ⟨x,h1,h2,h3,h4⟩:=h;⟨x,h1,h2,⟨h3.size,h3.block⟩,h4⟩
theorem sQ_un {n:Nat}{Pr:(Nat→Value)→Prop}{w w':World}{t:Array Value}{b:Nat}{cells:List Value}{ty:TypeId}{τ:Nat→Question→Nat}{d:Nat}(h:sQ n Pr b cells ty (re w τ d) t w'):sQ n Pr b cells ty w t w':=let ⟨x,h1,h2,h3,h4⟩:=h;⟨x,h1,h2,⟨h3.size,h3.block⟩,h4⟩
theorem Kp.kp1' {b:Nat}{w w' w'':World}(h:Kp [b] w w')(k:Kp [b] w' w''):Kp [b] w w'':=h.trans k
theorem oq15a (w:World)(x:Nat→Value)(mb bb b:Nat)(h0:x 0=ptr mb)(h1:x 1=ptr b)(h2:x 2=ptr bb)(h4:x 4=.int .i64 0) :
  (sL (sL (sR (sR q15)))).wp Try.prog (fun e a' w'=>e=.normal∧a'.defers=[]∧lQ 65 (fun x=>x 0=ptr mb∧x 1=ptr b∧x 2=ptr bb∧x 4=.int .i64 0∧x 35=.bool false) w a'.tmps w') ⟨fg 65 x,[]⟩ w:=by
 have HQ:Hid (∀ (t:Array Value) (w':World),lQ 65 (fun x=>x 0=ptr mb∧x 1=ptr b∧x 2=ptr bb∧x 4=.int .i64 0∧x 35=.bool false) w t w'→lQ 65 (fun x=>x 0=ptr mb∧x 1=ptr b∧x 2=ptr bb∧x 4=.int .i64 0∧x 35=.bool false) w t w'):=Lib.hid fun _ _ h=>h;generalize hG:lQ 65 (fun x=>x 0=ptr mb∧x 1=ptr b∧x 2=ptr bb∧x 4=.int .i64 0∧x 35=.bool false) w=G at HQ ⊢;have HG:=Lib.hid hG;clear hG;rw[show fg 65 x=#[x 0,x 1,x 2,x 3,x 4,x 5,x 6,x 7,x 8,x 9,x 10,x 11,x 12,x 13,x 14,x 15,x 16,x 17,x 18,x 19,x 20,x 21,x 22,x 23,x 24,x 25,x 26,x 27,x 28,x 29,x 30,x 31,x 32,x 33,x 34,x 35,x 36,x 37,x 38,x 39,x 40,x 41,x 42,x 43,x 44,x 45,x 46,x 47,x 48,x 49,x 50,x 51,x 52,x 53,x 54,x 55,x 56,x 57,x 58,x 59,x 60,x 61,x 62,x 63,x 64] from rfl];simp only[q15,Try.f15,Option.getD_some,sL,sR,sB,sT,sF,h0,h1,h2,h4]
 go_wp2
 go_quiet (fail)
 go_wp2
 refine HQ.out _ _ ?_;rw[← HG.out];exact lQ_mk rfl ⟨rfl,rfl,rfl,rfl,rfl⟩ ((Keeps.refl _ _).drewN _)
theorem oq15b (w:World)(x:Nat→Value)(mb bb b i:Nat)(by0 as0 ha0:Int)(hm:Blk w mb [.bool true,.int .i64 by0,.int .i64 as0,.int .i64 ha0] 88)(hbb:Blk w bb [ptr mb] 39)(hw:∀ w',Keeps [] w w'→Calls Try.prog 37 #[ptr b] w' fun e w2=>e=.returned (.int .i64 i)∧w2=w')(h0:x 0=ptr mb)(h1:x 1=ptr b)(h2:x 2=ptr bb) :
  (sL (sR (sR (sR (sR (sR (sR (sR (sR q15))))))))).wp Try.prog (fun e a' w'=>e=.normal∧a'.defers=[]∧sQ 65 (fun x=>x 0=ptr mb∧x 1=ptr b) mb [.bool true,.int .i64 i,.int .i64 as0,.int .i64 ha0] 88 w a'.tmps w') ⟨fg 65 x,[]⟩ w:=by
 have HQ:Hid (∀ (t:Array Value) (w':World),sQ 65 (fun x=>x 0=ptr mb∧x 1=ptr b) mb [.bool true,.int .i64 i,.int .i64 as0,.int .i64 ha0] 88 w t w'→sQ 65 (fun x=>x 0=ptr mb∧x 1=ptr b) mb [.bool true,.int .i64 i,.int .i64 as0,.int .i64 ha0] 88 w t w'):=Lib.hid fun _ _ h=>h;generalize hG:sQ 65 (fun x=>x 0=ptr mb∧x 1=ptr b) mb [.bool true,.int .i64 i,.int .i64 as0,.int .i64 ha0] 88 w=G at HQ ⊢;have HG:=Lib.hid hG;clear hG;rw[show fg 65 x=#[x 0,x 1,x 2,x 3,x 4,x 5,x 6,x 7,x 8,x 9,x 10,x 11,x 12,x 13,x 14,x 15,x 16,x 17,x 18,x 19,x 20,x 21,x 22,x 23,x 24,x 25,x 26,x 27,x 28,x 29,x 30,x 31,x 32,x 33,x 34,x 35,x 36,x 37,x 38,x 39,x 40,x 41,x 42,x 43,x 44,x 45,x 46,x 47,x 48,x 49,x 50,x 51,x 52,x 53,x 54,x 55,x 56,x 57,x 58,x 59,x 60,x 61,x 62,x 63,x 64] from rfl];simp only[q15,Try.f15,Option.getD_some,sL,sR,sB,sT,sF,h0,h1,h2];have HW:=Lib.hid hw;have c0:=hbb.cell 0;have c1:=hm.cell 1;have z1:=hm.frozen 1;have HM:=Lib.hid hm;clear hw hbb hm;refine Code.wp_mono (Q:=fun e a' w'=>match e with | .normal=>a'.defers=[]∧G a'.tmps w' | _=>False) (fun e a' w' h=>by cases e<;>first | exact⟨rfl,h.1,h.2⟩ | exact h.elim) ?_
 go_region_with (go_at_call 37;refine(HW.out _ ?_).mono ?_;exact(Keeps.refl _ _).drewN _;rintro e w' ⟨rfl,rfl⟩)
 all_goals
  refine⟨rfl,?_⟩;refine HQ.out _ _ ?_;rw[← HG.out];exact sQ_mk rfl ⟨rfl,rfl⟩ ⟨Nat.le_of_eq (World.size_setCell _ _ _).symm,fun c hc hn=>setCell_frame (by simpa using hn)⟩ (HM.out.set 1 _)
section
variable {L A:Type}{p:Plan L A}{C:WC}{k i n:Nat}{K:Goroutine→World→Prop}{F c:Frame}{cs rest:List Frame}{st:Nat→TS L}{X:Nat→Prop}{w:World}{a:A}{l:L}{g gh:List Nat}{P:A × Option L}
theorem fair_lock {mb:Nat}{by0 as0 ha0:Int}(T:Th p C (k+2) i K F cs st X w n (a,some l))(hc:∀ f∈c::rest,OkFr f)(hmb:Cel w mb [.bool true,.int .i64 by0,.int .i64 as0,.int .i64 ha0] 88)
  (hm:∀ bb w',w.heap.size≤bb→Kp [] w w'→Blk w' bb [ptr mb] 39→p.mem a (updT st i (.susp (l,bb::gh) .nilFunc)) (fun b=>X b∨b=bb) w')
  (hres:∀ bb K F cs st X w n a,Th p C (k+1) i K F cs st X w n (p.go i (.susp l) a n)→(∃ rv,st i=.susp (l,bb::gh) rv)→p.mem a st X w→∃ a2 l2,p.go i (.susp l) a n=(a2,some l2)∧∃ by1 as1 ha1:Int,X mb∧Blk w mb [.bool true,.int .i64 by1,.int .i64 as1,.int .i64 ha1] 88∧X bb∧Blk w bb [ptr mb] 39 ∧
   (∀ nb w',w.heap.size≤nb→Kp [mb] w w'→Blk w' mb [.bool true,.int .i64 by1,.int .i64 (wrap64 (as1+1)),.int .i64 ha1] 88→Blk w' bb [ptr mb] 39→Blk w' nb [.int .i64 as1] 3→p.mem a2 (updT st i (.susp (l2,bb::gh) (.func (.func 36) #[] #[ptr bb,ptr nb]))) (fun b=>X b∨b=nb) w') ∧
   (∀ K F cs st X w n a,Th p C k i K F cs st X w n (p.go i (.susp l2) a n)→(∃ rv,st i=.susp (l2,bb::gh) rv)→p.mem a st X w→∃ by2 as2 ha2:Int,X mb∧Blk w mb [.bool true,.int .i64 by2,.int .i64 as2,.int .i64 ha2] 88∧X bb∧Blk w bb [ptr mb] 39 ∧
   ∀ w',Kp [mb] w w'→Blk w' mb [.bool true,.int .i64 i,.int .i64 as2,.int .i64 (wrap64 (ha2+1))] 88→Th p C k i K F cs st X w' n (p.go i (.susp l2) a n)→K (gs (c.finish (.int .i64 0)) (rest++F::cs)) w')):K (gs (Frame.enter Try.prog 15 #[ptr mb,ptr (C.bt i)] .normal) (c::(rest++F::cs))) w:=by
 have hk:(base 15).kind≠.early:=nofun;have hK:=T.cl;have hD:=hK.det;rw[show(#[ptr mb,ptr (C.bt i)]:Array Value)=[ptr mb,ptr (C.bt i)].toArray from rfl,enter_fg (n:=65) (c:=q15) Try.func15 rfl rfl rfl];have kk:Kp [] w w:=⟨Nat.le_refl _,fun _ _ _=>rfl⟩;refine hD.s0 ?_;refine hD.r0 ?_;refine hD.box (n:=0) (u:=(ptr mb)) (ob:=.cells #[ptr mb] 39) hk rfl ⟨rfl,rfl,rfl,rfl,nofun⟩ rfl bx_39 ?_;obtain⟨w1,hsw1⟩:∃ z,z=w.alloc (.cells #[ptr mb] 39):=⟨_,rfl⟩;obtain⟨nw1,hnw1⟩:∃ z,z=w.heap.size:=⟨_,rfl⟩;have ksw1:Kp [] w w1:=by rw[hsw1];exact Kp.alloc [] _ _
 have bw1:Blk w1 nw1 [ptr mb] 39:=by rw[hsw1,hnw1];exact Blk.new _ _ _
 rw[← hsw1,← hnw1];clear hsw1;have genw1:w.heap.size≤nw1:=by rw[hnw1];exact kk.size
 have hmb':=ksw1.cel hmb (by simp);have kk:=kk.trans ksw1;refine nm rfl ?_;refine hD.as (.int .i64 0) hk ?_;refine nm rfl ?_;refine hD.e0 ?_;refine hD.s0 ?_;refine hD.s0 ?_;refine hD.r0 ?_;refine hD.ld (ptr mb) hk (fun τ d=>l_39 (bw1.cell 0)) ?_;refine nm rfl ?_;refine hD.pu (.bool false) hk (fun w=>w_eql39_p rfl rfl) ?_;refine nm rfl ?_;refine hD.mv (.bool false) hk ?_;refine nm rfl ?_;refine hD.gv (n:=0) (v:=(ptr mb)) hk rfl rfl rfl (by decide +kernel) nofun (fun τ d=>ex_load rfl rfl (l_39 (bw1.cell 0))) ?_;refine nm rfl ?_;refine hD.gv (n:=0) (v:=(ptr mb)) hk rfl rfl rfl (by decide +kernel) nofun (fun τ d=>ex_nilc rfl rfl) ?_;refine nm rfl ?_;refine hD.gv (n:=0) (v:=(ptr mb)) hk rfl rfl rfl (by decide +kernel) nofun (fun τ d=>ex_field (v:=(ptr mb)) rfl rfl fa88_0) ?_;refine nm rfl ?_;refine hD.gv (n:=0) (v:=(ptr mb)) hk rfl rfl rfl (by decide +kernel) nofun (fun τ d=>ex_field (v:=(ptr mb)) rfl rfl fa86_0) ?_;refine nm rfl ?_;refine hD.gv (n:=0) (v:=(.bool true)) hk rfl rfl rfl (by decide +kernel) nofun (fun τ d=>ex_load rfl rfl (l_4 (hmb'.cell 0))) ?_;refine nm rfl ?_;refine hD.gv (n:=0) (v:=(.bool false)) hk rfl rfl rfl (by decide +kernel) nofun (fun τ d=>pu_not (y:=true) rfl rfl) ?_;refine nm rfl ?_;refine hD.pu (.bool false) hk (fun w=>pu_pick (t:=false) rfl rfl rfl) ?_;refine nm rfl ?_;refine hD.e0 ?_;refine hD.cond (n:=0) false rfl rfl ?_;refine hD.k0 ?_;refine hD.s0 ?_;refine hD.s0 ?_;refine hK.seg fits shut (b:=base 15) ⟨_,Try.func15⟩ nofun (c:=(sL (sL (sR (sR q15))))) (by decide +kernel) (Q:=lQ 65 (fun x=>x 0=ptr mb∧x 1=ptr (C.bt i)∧x 2=ptr nw1∧x 4=.int .i64 0∧x 35=.bool false) w1) (fun t w' τ d h=>lQ_re h τ d) (fun τ d=>Code.wp_mono (fun e a w' ⟨h1,h2,h3⟩=>⟨h1,h2,lQ_un h3⟩) (oq15a (re w1 τ d) _ mb nw1 (C.bt i) rfl rfl rfl rfl)) fun t w2 ⟨x',ex',⟨g0,g1,g2,g4,g35⟩,ksw2⟩=>?_;subst ex';rw[allK.self (x:=x') (l:=[(0,ptr mb),(1,ptr (C.bt i)),(2,ptr nw1),(4,.int .i64 0),(35,.bool false)]) ⟨g0,g1,g2,g4,g35,trivial⟩];have hmb'':=ksw2.cel hmb' (by simp);have bw1':=ksw2.blk bw1 (by simp);have kk:=kk.trans ksw2;refine hD.cond (n:=0) false rfl rfl ?_;refine hD.k0 ?_;refine hD.s0 ?_;refine hD.r0 ?_;refine hD.mv (ptr (C.bt i)) hk ?_;refine nm rfl ?_;refine hD.cf #[ptr (C.bt i)] hk Try.func29 ?_;refine ThR.step (l:=l) (g:=nw1::gh) (rest:=c::rest) (T.new kk genw1) (fun f hf=>by rcases List.mem_cons.1 hf with rfl | hf;exact⟨rfl,rfl,_,Try.func15⟩;exact hc f hf) (hm nw1 _ genw1 kk bw1') fun K F cs st X w n a T h1 h2=>?_;obtain⟨a2,l2,ego,by1,as1,ha1,hX,hb1,hXb,hbb,hm2,hres2⟩:=hres nw1 K F cs st X w n a T h1 h2;clear kk;have hK:=T.cl;have hD:=hK.det;have kk:Kp [] w w:=⟨Nat.le_refl _,fun _ _ _=>rfl⟩;refine fin0 (some 37) ?_;refine nm rfl ?_;have hmb1:=Blk.cel hb1;refine hD.e0 ?_;refine hD.s0 ?_;refine hD.r0 ?_;refine hD.ld (ptr mb) hk (fun τ d=>l_39 (hbb.cell 0)) ?_;refine nm rfl ?_;refine hD.nc ⟨mb,0,none⟩ hk ?_;refine nm rfl ?_;refine hD.field (n:=0) (v:=(ptrAt mb 2)) (u:=(ptr mb)) hk rfl ⟨rfl,rfl,rfl,rfl,nofun⟩ rfl fa88_1 ?_;refine nm rfl ?_;refine hD.ld (.int .i64 as1) hk (fun τ d=>l_3 (hb1.cell 2)) ?_
 refine nm rfl ?_;refine hD.alloc (n:=0) (ob:=.cells #[.int .i64 0] 3) hk rfl ⟨rfl,rfl,rfl,(by decide +kernel),nofun⟩ al_3 ?_;obtain⟨w11,hsw11⟩:∃ z,z=w.alloc (.cells #[.int .i64 0] 3):=⟨_,rfl⟩;obtain⟨nw11,hnw11⟩:∃ z,z=w.heap.size:=⟨_,rfl⟩;have ksw11:Kp [] w w11:=by rw[hsw11];exact Kp.alloc [] _ _
 have bw11:Blk w11 nw11 [.int .i64 0] 3:=by rw[hsw11,hnw11];exact Blk.new _ _ _
 rw[← hsw11,← hnw11];clear hsw11;have genw11:w.heap.size≤nw11:=by rw[hnw11];exact kk.size
 have hb1':=ksw11.blk hb1 (by simp);have hbb':=ksw11.blk hbb (by simp);have kk:=kk.trans ksw11;refine nm rfl ?_;refine hD.store (n:=0) (u:=(ptr nw11)) (z:=(.int .i64 as1)) hk rfl ⟨rfl,rfl,rfl,rfl,nofun⟩ rfl rfl (fun τ d=>((s_3 (w:=re w11 τ d) (bw11.cell 0) (bw11.frozen 0)).trans (congrArg (Result.ok ()) re_setCell))) (Nat.le_of_eq (World.size_setCell _ _ _).symm) ?_;obtain⟨w12,hsw12⟩:∃ z,z=w11.setCell ⟨nw11,0,none⟩ (.int .i64 as1):=⟨_,rfl⟩;have ksw12:Kp [nw11] w11 w12:=by rw[hsw12];exact⟨Nat.le_of_eq (World.size_setCell _ _ _).symm,fun c hc hn=>setCell_frame (by simpa using hn)⟩
 have bw12:Blk w12 nw11 [.int .i64 as1] 3:=by rw[hsw12];exact bw11.set 0 _
 rw[← hsw12];clear hsw12;have hb1'':=ksw12.blk hb1' (by simpa using (cel_ne (Blk.cel hb1') (Blk.cel bw11) (by decide)));have hbb'':=ksw12.blk hbb' (by simpa using (cel_ne (Blk.cel hbb') (Blk.cel bw11) (by decide)));have kk:=kk.new ksw12 (by simpa using genw11);refine hD.e0 ?_;refine hD.s0 ?_;refine hD.r0 ?_;refine hD.ld (ptr mb) hk (fun τ d=>l_39 (hbb''.cell 0)) ?_;refine nm rfl ?_;refine hD.nc ⟨mb,0,none⟩ hk ?_;refine nm rfl ?_;refine hD.field (n:=0) (v:=(ptrAt mb 2)) (u:=(ptr mb)) hk rfl ⟨rfl,rfl,rfl,rfl,nofun⟩ rfl fa88_1 ?_;refine nm rfl ?_;refine hD.ld (.int .i64 as1) hk (fun τ d=>l_3 (hb1''.cell 2)) ?_;refine nm rfl ?_;refine hD.pu (.int .i64 (wrap64 (as1+1))) hk (fun w=>w_add3 rfl rfl rfl) ?_;refine nm rfl ?_;refine hD.nc ⟨mb,0,none⟩ hk ?_;refine nm rfl ?_;refine hD.field (n:=0) (v:=(ptrAt mb 2)) (u:=(ptr mb)) hk rfl ⟨rfl,rfl,rfl,rfl,nofun⟩ rfl fa88_1 ?_;refine nm rfl ?_;refine hD.store (n:=0) (u:=(ptrAt mb 2)) (z:=(.int .i64 (wrap64 (as1+1)))) hk rfl ⟨rfl,rfl,rfl,rfl,nofun⟩ rfl rfl (fun τ d=>((s_3 (w:=re w12 τ d) (hb1''.cell 2) (hb1''.frozen 2)).trans (congrArg (Result.ok ()) re_setCell))) (Nat.le_of_eq (World.size_setCell _ _ _).symm) ?_;obtain⟨w13,hsw13⟩:∃ z,z=w12.setCell ⟨mb,2,none⟩ (.int .i64 (wrap64 (as1+1))):=⟨_,rfl⟩;have ksw13:Kp [mb] w12 w13:=by rw[hsw13];exact⟨Nat.le_of_eq (World.size_setCell _ _ _).symm,fun c hc hn=>setCell_frame (by simpa using hn)⟩
 have bw13:Blk w13 mb [.bool true,.int .i64 by1,.int .i64 (wrap64 (as1+1)),.int .i64 ha1] 88:=by rw[hsw13];exact hb1''.set 2 _
 rw[← hsw13];clear hsw13;have hbb''':=ksw13.blk hbb'' (by simpa using (cel_ne (Blk.cel hbb'') (Blk.cel hb1'') (by decide)));have bw12':=ksw13.blk bw12 (by simpa using (cel_ne (Blk.cel bw12) (Blk.cel hb1'') (by decide)));have kk:=kk.kp1 ksw13;refine hD.e0 ?_;refine hD.s0 ?_;refine hD.r0 ?_;refine hD.mv (ptr (C.bt i)) hk ?_;refine nm rfl ?_;refine hD.pu (.func (.func 36) #[] #[ptr nw1,ptr nw11]) hk (fun w=>w_mk0_2 rfl rfl rfl) ?_;refine nm rfl ?_;refine hD.cf #[ptr (C.bt i),(.func (.func 36) #[] #[ptr nw1,ptr nw11])] hk Try.func35 ?_;refine ThR.wait (l:=l2) (g:=nw1::gh) (rest:=c::rest) ((T.eqP ego).grow hmb1 (by decide) (by decide) hX kk genw11) (.inr ⟨_,_,_,rfl⟩) (fun f hf=>by rcases List.mem_cons.1 hf with rfl | hf;exact⟨rfl,rfl,_,Try.func15⟩;exact hc f hf) (hm2 nw11 _ genw11 kk bw13 hbb''' bw12') fun K F cs st X w n a T h1 h2=>?_;obtain⟨by2,as2,ha2,hX,hb2,hXb,hbb,hnext⟩:=hres2 K F cs st X w n a T h1 h2;have hK:=T.cl;have hD:=hK.det;clear kk;refine fin0 (some 51) ?_;refine nm rfl ?_;refine hD.e0 ?_;refine hD.s0 ?_;refine hD.r0 ?_;refine hD.ld (ptr mb) hk (fun τ d=>l_39 (hbb.cell 0)) ?_;refine nm rfl ?_;refine hD.nc ⟨mb,0,none⟩ hk ?_;refine nm rfl ?_;refine hD.field (n:=0) (v:=(ptrAt mb 3)) (u:=(ptr mb)) hk rfl ⟨rfl,rfl,rfl,rfl,nofun⟩ rfl fa88_2 ?_;refine nm rfl ?_;refine hD.ld (.int .i64 ha2) hk (fun τ d=>l_3 (hb2.cell 3)) ?_;refine nm rfl ?_;refine hD.pu (.int .i64 (wrap64 (ha2+1))) hk (fun w=>w_add3 rfl rfl rfl) ?_;refine nm rfl ?_;refine hD.nc ⟨mb,0,none⟩ hk ?_;refine nm rfl ?_;refine hD.field (n:=0) (v:=(ptrAt mb 3)) (u:=(ptr mb)) hk rfl ⟨rfl,rfl,rfl,rfl,nofun⟩ rfl fa88_2 ?_;refine nm rfl ?_;refine hD.store (n:=0) (u:=(ptrAt mb 3)) (z:=(.int .i64 (wrap64 (ha2+1)))) hk rfl ⟨rfl,rfl,rfl,rfl,nofun⟩ rfl rfl (fun τ d=>((s_3 (w:=re w τ d) (hb2.cell 3) (hb2.frozen 3)).trans (congrArg (Result.ok ()) re_setCell))) (Nat.le_of_eq (World.size_setCell _ _ _).symm) ?_;obtain⟨w21,hsw21⟩:∃ z,z=w.setCell ⟨mb,3,none⟩ (.int .i64 (wrap64 (ha2+1))):=⟨_,rfl⟩;have ksw21:Kp [mb] w w21:=by rw[hsw21];exact⟨Nat.le_of_eq (World.size_setCell _ _ _).symm,fun c hc hn=>setCell_frame (by simpa using hn)⟩
 have bw21:Blk w21 mb [.bool true,.int .i64 by2,.int .i64 as2,.int .i64 (wrap64 (ha2+1))] 88:=by rw[hsw21];exact hb2.set 3 _
 rw[← hsw21];clear hsw21;have hbb':=ksw21.blk hbb (by simpa using (cel_ne (Blk.cel hbb) (Blk.cel hb2) (by decide)));refine hD.e0 ?_;refine hD.s0 ?_;have hmb2:=Blk.cel hb2;have T:=T.kp1 hmb2 (by decide) (by decide) hX ksw21;obtain⟨ba,sa,ck,ga,ca,hrn⟩:=T.rn;refine hK.seg fits shut (b:=base 15) ⟨_,Try.func15⟩ nofun (c:=(sL (sR (sR (sR (sR (sR (sR (sR (sR q15)))))))))) (by decide +kernel) (Q:=sQ 65 (fun x=>x 0=ptr mb∧x 1=ptr (C.bt i)) mb [.bool true,.int .i64 i,.int .i64 as2,.int .i64 (wrap64 (ha2+1))] 88 w21) (fun t w' τ d h=>sQ_re h τ d) (fun τ d=>Code.wp_mono (fun e a w' ⟨h1,h2,h3⟩=>⟨h1,h2,sQ_un h3⟩) (oq15b (re w21 τ d) _ mb nw1 (C.bt i) i by2 as2 (wrap64 (ha2+1)) bw21 hbb' (fun w' k=>who_calls w' _ _ _ _ _ _ _ _ _ ((Keeps.kp k).cel (re_cel T.bt) (by simp)) ((Keeps.kp k).cel (re_cel hrn) (by simp))) rfl rfl rfl)) fun t w22 ⟨x',ex',⟨g0,g1⟩,ksw22,bw22⟩=>?_;subst ex';rw[allK.self (x:=x') (l:=[(0,ptr mb),(1,ptr (C.bt i))]) ⟨g0,g1,trivial⟩];have hbb'':=ksw22.blk hbb' (by simpa using (cel_ne (Blk.cel hbb') (Blk.cel bw21) (by decide)));refine hD.s0 ?_;refine hD.r0 ?_;refine hD.as (.int .i64 0) hk ?_;refine nm rfl ?_;refine hD.e0 ?_;refine hD.ret (n:=0) ?_;exact hD.leave (n:=0) (b:=base 15) (v:=.int .i64 0) rfl rfl Try.func15 (fun τ d=>res1v rfl rfl) (hc c (by simp)).1 (hnext _ (ksw21.kp1' ksw22) bw22 (T.kp1 (Blk.cel bw21) (by decide) (by decide) hX ksw22))
end
theorem rdy36 (w:World)(mb bb nb:Nat){by0 as0 ha0 nu:Int}(hm:Blk w mb [.bool true,.int .i64 by0,.int .i64 as0,.int .i64 ha0] 88)(hbb:Blk w bb [ptr mb] 39)(hnb:Blk w nb [.int .i64 nu] 3):Calls Try.prog 36 #[ptr bb,ptr nb] w fun e w'=>e=.returned (.bool (decide (by0 = -1)&&decide (ha0=nu)))∧Keeps [] w w':=by
 have c0:=hbb.cell 0;have c1:=hm.cell 1;have c3:=hm.cell 3;have c4:=hnb.cell 0;by_cases h:by0 = -1
 ·have HF:Hid (∀ m,Calls Try.prog 34 #[ptr mb] (w.drewN m) fun e w'=>e=.returned (.bool true)∧w'=w.drewN m):=Lib.hid fun m=>(free_calls (w.drewN m) mb (by0:=by0) c1).mono fun e w' ⟨h1,h2⟩=>⟨h1.trans (by rw[decide_eq_true h]),h2⟩
  rw[decide_eq_true h,Bool.true_and];clear hm hbb hnb c1 h
  go_enter Try.func36,Try.ntmps36
  go_wp2
  go_quiet (first | (go_at_call 34;exact Calls.quiet_of_same (HF.out _)))
  go_wp2
  go_ret
  exact⟨congrArg Ending.returned (congrArg Value.bool (by first | rfl | simp[BEq.beq])),(Keeps.refl _ _).drewN _⟩
 ·have HF:Hid (∀ m,Calls Try.prog 34 #[ptr mb] (w.drewN m) fun e w'=>e=.returned (.bool false)∧w'=w.drewN m):=Lib.hid fun m=>(free_calls (w.drewN m) mb (by0:=by0) c1).mono fun e w' ⟨h1,h2⟩=>⟨h1.trans (by rw[decide_eq_false h]),h2⟩
  rw[decide_eq_false h,Bool.false_and];clear hm hbb hnb c1 h
  go_enter Try.func36,Try.ntmps36
  go_wp2
  go_quiet (first | (go_at_call 34;exact Calls.quiet_of_same (HF.out _)))
  go_wp2
  go_ret
  exact⟨rfl,(Keeps.refl _ _).drewN _⟩
def q46:Code:=Try.f46.body.getD .skip
def q47:Code:=Try.f47.body.getD .skip
def q48:Code:=Try.f48.body.getD .skip
theorem bx_50 {p:Option Addr}:∀ w:World,(Instr.box 50 (.pointer p)).run Try.prog w=.ok (ptr w.heap.size) (w.alloc (.cells #[.pointer p] 50)):=fun w=>by
 simp[go_sem,Try.underlying50,Try.runUnderlying50,Try.sizeOf50,Try.isAgg50,Try.zeroValue50]
theorem l_50 {w:World}{a:Addr}{v:Value}(hc:w.cell? a=some v):(Instr.loadAt 50 (.pointer (some a))).run Try.prog w=.ok v w:=by simp[go_sem,hc,Try.underlying50,Try.runUnderlying50,Try.sizeOf50,Try.isAgg50]
theorem w_mk0_1 {a:Act}{oo:Oper}{w:World}{y0:Operand}{u0:Value}{ff:FuncId}(h:oo.op=.makeFunc (.func ff) #[] #[y0])(hy0:a.eval y0=u0):(execOp a.eval oo).run Try.prog w=.ok (.value (.func (.func ff) #[] #[u0])) w:=by
 unfold execOp;rw[h];exact run_vv (by simp only[List.map_toArray,List.map_cons,List.map_nil,hy0];simp[go_sem])
theorem fa93_1 {b o:Nat}:∀ w,(Instr.fieldAt 93 (.pointer (some ⟨b,o,none⟩)) 1).run Try.prog w=.ok (.pointer (some ⟨b,o+2,none⟩)) w:=fun w=>by
 simp[go_sem,Try.underlying93,Try.runUnderlying93,Try.sizeOf93,Try.isAgg93,Try.sizeOf3,Try.sizeOf86]
theorem w_eql3 {a:Act}{oo:Oper}{w:World}{x y:Operand}{i j:Int}(h:oo.op=.binOp .eql 3 x y 3)(hx:a.eval x=.int .i64 i)(hy:a.eval y=.int .i64 j):(execOp a.eval oo).run Try.prog w=.ok (.value (.bool (decide (i=j)))) w:=by
 unfold execOp;rw[h];simp only[hx,hy];exact run_vv (by simp[go_sem,Try.underlying3,Try.runUnderlying3]<;>rfl)
theorem w_sub3 {a:Act}{oo:Oper}{w:World}{x y:Operand}{i j:Int}(h:oo.op=.binOp .sub 3 x y 3)(hx:a.eval x=.int .i64 i)(hy:a.eval y=.int .i64 j):(execOp a.eval oo).run Try.prog w=.ok (.value (.int .i64 (wrap64 (i-j)))) w:=by
 unfold execOp;rw[h];simp only[hx,hy];exact run_vv (by simp[go_sem,Try.underlying3,Try.runUnderlying3,IntKind.wrap_i64,wrap64])
theorem fa93_2 {b o:Nat}:∀ w,(Instr.fieldAt 93 (.pointer (some ⟨b,o,none⟩)) 2).run Try.prog w=.ok (.pointer (some ⟨b,o+3,none⟩)) w:=fun w=>by
 simp[go_sem,Try.underlying93,Try.runUnderlying93,Try.sizeOf93,Try.isAgg93,Try.sizeOf3,Try.sizeOf86]
theorem there_calls (w:World)(wb:Nat){by0 rd0 wt0:Int}(h:Cel w wb [.bool true,.int .i64 by0,.int .i64 rd0,.int .i64 wt0] 93):Calls Try.prog 70 #[ptr wb] w fun e w'=>e=.returned (.bool true)∧w'=w:=by
 have c0:=h.cell 0;clear h
 go_enter Try.func70,Try.ntmps70
 go_wp2
 go_ret
 exact⟨rfl,rfl⟩
theorem rdy71 (w:World)(wb bb:Nat){by0 rd0 wt0:Int}(hw:Blk w wb [.bool true,.int .i64 by0,.int .i64 rd0,.int .i64 wt0] 93)(hbb:Blk w bb [ptr wb] 50):Calls Try.prog 71 #[ptr bb] w fun e w'=>e=.returned (.bool (decide (by0 = -1)&&decide (wt0=0)))∧w'=w:=by
 have c0:=hbb.cell 0;have c1:=hw.cell 1;have c3:=hw.cell 3;by_cases h:by0 = -1
 ·have HF:Hid (Calls Try.prog 34 #[ptr wb] w fun e w'=>e=.returned (.bool true)∧w'=w):=Lib.hid ((free_calls w wb (by0:=by0) c1).mono fun e w' ⟨h1,h2⟩=>⟨h1.trans (by rw[decide_eq_true h]),h2⟩)
  rw[decide_eq_true h,Bool.true_and];clear hw hbb c1 h
  go_enter Try.func71,Try.ntmps71
  go_wp2_with (go_at_call 34;refine(HF.out).mono ?_;rintro e w' ⟨rfl,rfl⟩)
  go_ret
  exact⟨congrArg Ending.returned (congrArg Value.bool (by first | rfl | simp[BEq.beq])),rfl⟩
 ·have HF:Hid (Calls Try.prog 34 #[ptr wb] w fun e w'=>e=.returned (.bool false)∧w'=w):=Lib.hid ((free_calls w wb (by0:=by0) c1).mono fun e w' ⟨h1,h2⟩=>⟨h1.trans (by rw[decide_eq_false h]),h2⟩)
  rw[decide_eq_false h,Bool.false_and];clear hw hbb c1 h
  go_enter Try.func71,Try.ntmps71
  go_wp2_with (go_at_call 34;refine(HF.out).mono ?_;rintro e w' ⟨rfl,rfl⟩)
  go_ret
  exact⟨rfl,rfl⟩
theorem rdy72 (w:World)(wb bb:Nat){by0 rd0 wt0:Int}(hw:Blk w wb [.bool true,.int .i64 by0,.int .i64 rd0,.int .i64 wt0] 93)(hbb:Blk w bb [ptr wb] 50):Calls Try.prog 72 #[ptr bb] w fun e w'=>e=.returned (.bool (decide (by0 = -1)&&decide (rd0=0)))∧w'=w:=by
 have c0:=hbb.cell 0;have c1:=hw.cell 1;have c3:=hw.cell 2;by_cases h:by0 = -1
 ·have HF:Hid (Calls Try.prog 34 #[ptr wb] w fun e w'=>e=.returned (.bool true)∧w'=w):=Lib.hid ((free_calls w wb (by0:=by0) c1).mono fun e w' ⟨h1,h2⟩=>⟨h1.trans (by rw[decide_eq_true h]),h2⟩)
  rw[decide_eq_true h,Bool.true_and];clear hw hbb c1 h
  go_enter Try.func72,Try.ntmps72
  go_wp2_with (go_at_call 34;refine(HF.out).mono ?_;rintro e w' ⟨rfl,rfl⟩)
  go_ret
  exact⟨congrArg Ending.returned (congrArg Value.bool (by first | rfl | simp[BEq.beq])),rfl⟩
 ·have HF:Hid (Calls Try.prog 34 #[ptr wb] w fun e w'=>e=.returned (.bool false)∧w'=w):=Lib.hid ((free_calls w wb (by0:=by0) c1).mono fun e w' ⟨h1,h2⟩=>⟨h1.trans (by rw[decide_eq_false h]),h2⟩)
  rw[decide_eq_false h,Bool.false_and];clear hw hbb c1 h
  go_enter Try.func72,Try.ntmps72
  go_wp2_with (go_at_call 34;refine(HF.out).mono ?_;rintro e w' ⟨rfl,rfl⟩)
  go_ret
  exact⟨rfl,rfl⟩
theorem oq48b (w:World)(x:Nat→Value)(wb bb b i:Nat)(by0 rd0 wt0:Int)(hm:Blk w wb [.bool true,.int .i64 by0,.int .i64 rd0,.int .i64 wt0] 93)(hbb:Blk w bb [ptr wb] 50)(hw:∀ w',Keeps [] w w'→Calls Try.prog 37 #[ptr b] w' fun e w2=>e=.returned (.int .i64 i)∧w2=w')(h0:x 0=ptr wb)(h1:x 1=ptr b)(h2:x 2=ptr bb) :
  (sL (sR (sR (sR (sR (sR (sR (sR (sR q48))))))))).wp Try.prog (fun e a' w'=>e=.normal∧a'.defers=[]∧sQ 42 (fun x=>x 0=ptr wb∧x 1=ptr b) wb [.bool true,.int .i64 i,.int .i64 rd0,.int .i64 wt0] 93 w a'.tmps w') ⟨fg 42 x,[]⟩ w:=by
 have HQ:Hid (∀ (t:Array Value) (w':World),sQ 42 (fun x=>x 0=ptr wb∧x 1=ptr b) wb [.bool true,.int .i64 i,.int .i64 rd0,.int .i64 wt0] 93 w t w'→sQ 42 (fun x=>x 0=ptr wb∧x 1=ptr b) wb [.bool true,.int .i64 i,.int .i64 rd0,.int .i64 wt0] 93 w t w'):=Lib.hid fun _ _ h=>h;generalize hG:sQ 42 (fun x=>x 0=ptr wb∧x 1=ptr b) wb [.bool true,.int .i64 i,.int .i64 rd0,.int .i64 wt0] 93 w=G at HQ ⊢;have HG:=Lib.hid hG;clear hG;rw[show fg 42 x=#[x 0,x 1,x 2,x 3,x 4,x 5,x 6,x 7,x 8,x 9,x 10,x 11,x 12,x 13,x 14,x 15,x 16,x 17,x 18,x 19,x 20,x 21,x 22,x 23,x 24,x 25,x 26,x 27,x 28,x 29,x 30,x 31,x 32,x 33,x 34,x 35,x 36,x 37,x 38,x 39,x 40,x 41] from rfl];simp only[q48,Try.f48,Option.getD_some,sL,sR,sB,sT,sF,h0,h1,h2];have HW:=Lib.hid hw;have c0:=hbb.cell 0;have c1:=hm.cell 1;have z1:=hm.frozen 1;have HM:=Lib.hid hm;clear hw hbb hm;refine Code.wp_mono (Q:=fun e a' w'=>match e with | .normal=>a'.defers=[]∧G a'.tmps w' | _=>False) (fun e a' w' h=>by cases e<;>first | exact⟨rfl,h.1,h.2⟩ | exact h.elim) ?_
 go_region_with (go_at_call 37;refine(HW.out _ ?_).mono ?_;exact(Keeps.refl _ _).drewN _;rintro e w' ⟨rfl,rfl⟩)
 all_goals
  refine⟨rfl,?_⟩;refine HQ.out _ _ ?_;rw[← HG.out];exact sQ_mk rfl ⟨rfl,rfl⟩ ⟨Nat.le_of_eq (World.size_setCell _ _ _).symm,fun c hc hn=>setCell_frame (by simpa using hn)⟩ (HM.out.set 1 _)
section
variable {L A:Type}{p:Plan L A}{C:WC}{k i n:Nat}{K:Goroutine→World→Prop}{F c:Frame}{cs rest:List Frame}{st:Nat→TS L}{X:Nat→Prop}{w:World}{a:A}{l:L}{g gh:List Nat}{P:A × Option L}
theorem rw_rlock {wb:Nat}{by0 rd0 wt0:Int}(T:Th p C (k+1) i K F cs st X w n (a,some l))(hc:∀ f∈c::rest,OkFr f)(hwb:Cel w wb [.bool true,.int .i64 by0,.int .i64 rd0,.int .i64 wt0] 93)
  (hm:∀ bb w',w.heap.size≤bb→Kp [] w w'→Blk w' bb [ptr wb] 50→p.mem a (updT st i (.susp (l,bb::gh) (.func (.func 71) #[] #[ptr bb]))) (fun b=>X b∨b=bb) w')
  (hres:∀ bb K F cs st X w n a,Th p C k i K F cs st X w n (p.go i (.susp l) a n)→(∃ rv,st i=.susp (l,bb::gh) rv)→p.mem a st X w→∃ by1 rd1 wt1:Int,X wb∧Blk w wb [.bool true,.int .i64 by1,.int .i64 rd1,.int .i64 wt1] 93∧X bb∧Blk w bb [ptr wb] 50 ∧
   ∀ w',Kp [wb] w w'→Blk w' wb [.bool true,.int .i64 by1,.int .i64 (wrap64 (rd1+1)),.int .i64 wt1] 93→Th p C k i K F cs st X w' n (p.go i (.susp l) a n)→K (gs (c.finish (.int .i64 0)) (rest++F::cs)) w'):K (gs (Frame.enter Try.prog 46 #[ptr wb,ptr (C.bt i)] .normal) (c::(rest++F::cs))) w:=by
 have hk:(base 46).kind≠.early:=nofun;have hK:=T.cl;have hD:=hK.det;rw[show(#[ptr wb,ptr (C.bt i)]:Array Value)=[ptr wb,ptr (C.bt i)].toArray from rfl,enter_fg (n:=25) (c:=q46) Try.func46 rfl rfl rfl];have kk:Kp [] w w:=⟨Nat.le_refl _,fun _ _ _=>rfl⟩;refine hD.s0 ?_;refine hD.r0 ?_;refine hD.box (n:=0) (u:=(ptr wb)) (ob:=.cells #[ptr wb] 50) hk rfl ⟨rfl,rfl,rfl,rfl,nofun⟩ rfl bx_50 ?_;obtain⟨w1,hsw1⟩:∃ z,z=w.alloc (.cells #[ptr wb] 50):=⟨_,rfl⟩;obtain⟨nw1,hnw1⟩:∃ z,z=w.heap.size:=⟨_,rfl⟩;have ksw1:Kp [] w w1:=by rw[hsw1];exact Kp.alloc [] _ _
 have bw1:Blk w1 nw1 [ptr wb] 50:=by rw[hsw1,hnw1];exact Blk.new _ _ _
 rw[← hsw1,← hnw1];clear hsw1;have genw1:w.heap.size≤nw1:=by rw[hnw1];exact kk.size
 have hwb':=ksw1.cel hwb (by simp);have kk:=kk.trans ksw1;refine nm rfl ?_;refine hD.as (.int .i64 0) hk ?_;refine nm rfl ?_;refine hD.e0 ?_;refine hD.s0 ?_;refine hD.s0 ?_;refine hD.r0 ?_;refine hD.ld (ptr wb) hk (fun τ d=>l_50 (bw1.cell 0)) ?_;refine nm rfl ?_;refine hD.cf #[ptr wb] hk Try.func70 ?_;refine hK.callp fits shut (f:=70) rfl (v:=.bool true) (fun τ d=>there_calls (re w1 τ d) wb (re_cel hwb')) ?_;refine fin0 (some 7) ?_;refine nm rfl ?_;refine hD.pu (.bool false) hk (fun w=>pu_not (y:=true) rfl rfl) ?_;refine nm rfl ?_;refine hD.e0 ?_;refine hD.cond (n:=0) false rfl rfl ?_;refine hD.k0 ?_;refine hD.s0 ?_;refine hD.r0 ?_;refine hD.ld (ptr wb) hk (fun τ d=>l_50 (bw1.cell 0)) ?_;refine nm rfl ?_;refine hD.nc ⟨wb,0,none⟩ hk ?_;refine nm rfl ?_;refine hD.field (n:=0) (v:=(ptr wb)) (u:=(ptr wb)) hk rfl ⟨rfl,rfl,rfl,rfl,nofun⟩ rfl fa93_0 ?_;refine nm rfl ?_;refine hD.mv (ptr (C.bt i)) hk ?_;refine nm rfl ?_;refine hD.pu (.func (.func 71) #[] #[ptr nw1]) hk (fun w=>w_mk0_1 rfl rfl) ?_;refine nm rfl ?_;refine hD.cf #[ptr wb,ptr (C.bt i),(.func (.func 71) #[] #[ptr nw1])] hk Try.func58 ?_;refine held_wait (l:=l) (g:=nw1::gh) (rest:=c::rest) (T.new kk genw1) (fun f hf=>by rcases List.mem_cons.1 hf with rfl | hf;exact⟨rfl,rfl,_,Try.func46⟩;exact hc f hf) (.inr ⟨_,_,_,rfl⟩) (hm nw1 _ genw1 kk bw1) fun K F cs st X w n a T h1 h2=>?_;obtain⟨by1,rd1,wt1,hX,hb1,hXb,hbb,hnext⟩:=hres nw1 K F cs st X w n a T h1 h2;clear kk;have hK:=T.cl;have hD:=hK.det;refine fin0 (some 14) ?_;refine nm rfl ?_;refine hD.as (.int .i64 0) hk ?_;refine nm rfl ?_;refine hD.e0 ?_;refine hD.s0 ?_;refine hD.s0 ?_;refine hD.r0 ?_;refine hD.mv (.int .i64 0) hk ?_;refine nm rfl ?_;refine hD.pu (.bool true) hk (fun w=>w_eql35 (i:=0) (j:=0) rfl rfl rfl) ?_;refine nm rfl ?_;refine hD.e0 ?_;refine hD.cond (n:=0) true rfl rfl ?_;refine hD.r0 ?_;refine hD.ld (ptr wb) hk (fun τ d=>l_50 (hbb.cell 0)) ?_;refine nm rfl ?_;refine hD.nc ⟨wb,0,none⟩ hk ?_;refine nm rfl ?_;refine hD.field (n:=0) (v:=(ptrAt wb 2)) (u:=(ptr wb)) hk rfl ⟨rfl,rfl,rfl,rfl,nofun⟩ rfl fa93_1 ?_;refine nm rfl ?_;refine hD.ld (.int .i64 rd1) hk (fun τ d=>l_3 (hb1.cell 2)) ?_;refine nm rfl ?_;refine hD.pu (.int .i64 (wrap64 (rd1+1))) hk (fun w=>w_add3 rfl rfl rfl) ?_;refine nm rfl ?_;refine hD.nc ⟨wb,0,none⟩ hk ?_;refine nm rfl ?_;refine hD.field (n:=0) (v:=(ptrAt wb 2)) (u:=(ptr wb)) hk rfl ⟨rfl,rfl,rfl,rfl,nofun⟩ rfl fa93_1 ?_;refine nm rfl ?_;refine hD.store (n:=0) (u:=(ptrAt wb 2)) (z:=(.int .i64 (wrap64 (rd1+1)))) hk rfl ⟨rfl,rfl,rfl,rfl,nofun⟩ rfl rfl (fun τ d=>((s_3 (w:=re w τ d) (hb1.cell 2) (hb1.frozen 2)).trans (congrArg (Result.ok ()) re_setCell))) (Nat.le_of_eq (World.size_setCell _ _ _).symm) ?_;obtain⟨w11,hsw11⟩:∃ z,z=w.setCell ⟨wb,2,none⟩ (.int .i64 (wrap64 (rd1+1))):=⟨_,rfl⟩;have ksw11:Kp [wb] w w11:=by rw[hsw11];exact⟨Nat.le_of_eq (World.size_setCell _ _ _).symm,fun c hc hn=>setCell_frame (by simpa using hn)⟩
 have bw11:Blk w11 wb [.bool true,.int .i64 by1,.int .i64 (wrap64 (rd1+1)),.int .i64 wt1] 93:=by rw[hsw11];exact hb1.set 2 _
 rw[← hsw11];clear hsw11;have hbb':=ksw11.blk hbb (by simpa using (cel_ne (Blk.cel hbb) (Blk.cel hb1) (by decide)));refine hD.e0 ?_;refine hD.s0 ?_;refine hD.r0 ?_;refine hD.mv (.int .i64 0) hk ?_;refine nm rfl ?_;refine hD.as (.int .i64 0) hk ?_;refine nm rfl ?_;refine hD.e0 ?_;refine hD.ret (n:=0) ?_;exact hD.leave (n:=0) (b:=base 46) (v:=.int .i64 0) rfl rfl Try.func46 (fun τ d=>res1v rfl rfl) (hc c (by simp)).1 (hnext _ ksw11 bw11 (T.kp1 (Blk.cel hb1) (by decide) (by decide) hX ksw11))
theorem rw_runlock {wb:Nat}{by0 rd0 wt0:Int}(T:Th p C (k+1) i K F cs st X w n (a,some l))(hc:∀ f∈c::rest,OkFr f)(hwb:Cel w wb [.bool true,.int .i64 by0,.int .i64 rd0,.int .i64 wt0] 93)(hm:p.mem a (updT st i (.susp (l,g) .nilFunc)) X w)
  (hres:∀ K F cs st X w n a,Th p C k i K F cs st X w n (p.go i (.susp l) a n)→(∃ rv,st i=.susp (l,g) rv)→p.mem a st X w→∃ by1 rd1 wt1:Int,X wb∧Blk w wb [.bool true,.int .i64 by1,.int .i64 rd1,.int .i64 wt1] 93 ∧
   (rd1=0→Th p C k i K F cs st X w n (p.go i (.susp l) a n)→K (gs (c.finish (.int .i64 90)) (rest++F::cs)) w) ∧
   (rd1≠0→∀ w',Kp [wb] w w'→Blk w' wb [.bool true,.int .i64 by1,.int .i64 (wrap64 (rd1-1)),.int .i64 wt1] 93→Th p C k i K F cs st X w' n (p.go i (.susp l) a n)→K (gs (c.finish (.int .i64 0)) (rest++F::cs)) w')):K (gs (Frame.enter Try.prog 47 #[ptr wb,ptr (C.bt i)] .normal) (c::(rest++F::cs))) w:=by
 have hk:(base 47).kind≠.early:=nofun;have hK:=T.cl;have hD:=hK.det;rw[show(#[ptr wb,ptr (C.bt i)]:Array Value)=[ptr wb,ptr (C.bt i)].toArray from rfl,enter_fg (n:=22) (c:=q47) Try.func47 rfl rfl rfl];refine hD.s0 ?_;refine hD.r0 ?_;refine hD.as (.int .i64 0) hk ?_;refine nm rfl ?_;refine hD.e0 ?_;refine hD.s0 ?_;refine hD.s0 ?_;refine hD.r0 ?_;refine hD.mv (ptr wb) hk ?_;refine nm rfl ?_;refine hD.cf #[ptr wb] hk Try.func70 ?_;refine hK.callp fits shut (f:=70) rfl (v:=.bool true) (fun τ d=>there_calls (re w τ d) wb (re_cel hwb)) ?_;refine fin0 (some 6) ?_;refine nm rfl ?_;refine hD.pu (.bool false) hk (fun w=>pu_not (y:=true) rfl rfl) ?_;refine nm rfl ?_;refine hD.e0 ?_;refine hD.cond (n:=0) false rfl rfl ?_;refine hD.k0 ?_;refine hD.s0 ?_;refine hD.r0 ?_;refine hD.mv (ptr (C.bt i)) hk ?_;refine nm rfl ?_;refine hD.cf #[ptr (C.bt i)] hk Try.func29 ?_;refine T.step (l:=l) (g:=g) (rest:=c::rest) (fun f hf=>by rcases List.mem_cons.1 hf with rfl | hf;exact⟨rfl,rfl,_,Try.func47⟩;exact hc f hf) hm fun K F cs st X w n a T h1 h2=>?_;have hK:=T.cl;have hD:=hK.det;obtain⟨by1,rd1,wt1,hX,hb1,hz,hnext⟩:=hres K F cs st X w n a T h1 h2;refine fin0 (some 9) ?_;refine nm rfl ?_;refine hD.e0 ?_;refine hD.s0 ?_;refine hD.s0 ?_;refine hD.r0 ?_;refine hD.mv (ptr wb) hk ?_;refine nm rfl ?_;refine hD.nc ⟨wb,0,none⟩ hk ?_;refine nm rfl ?_;refine hD.field (n:=0) (v:=(ptrAt wb 2)) (u:=(ptr wb)) hk rfl ⟨rfl,rfl,rfl,rfl,nofun⟩ rfl fa93_1 ?_;refine nm rfl ?_;refine hD.ld (.int .i64 rd1) hk (fun τ d=>l_3 (hb1.cell 2)) ?_;refine nm rfl ?_;refine hD.pu (.bool (decide (rd1=0))) hk (fun w=>w_eql3 rfl rfl rfl) ?_;refine nm rfl ?_;refine hD.e0 ?_;by_cases hrd:rd1=0
 ·refine hD.cond (n:=0) true (show Value.bool (decide (rd1=0))=_ by rw[decide_eq_true hrd]) rfl ?_
  refine hD.s0 ?_;refine hD.r0 ?_;refine hD.as (.int .i64 90) hk ?_;refine nm rfl ?_;refine hD.e0 ?_;refine hD.ret (n:=0) ?_;exact hD.leave (n:=0) (b:=base 47) (v:=.int .i64 90) rfl rfl Try.func47 (fun τ d=>res1v rfl rfl) (hc c (by simp)).1 (hz hrd T)
 ·refine hD.cond (n:=0) false (show Value.bool (decide (rd1=0))=_ by rw[decide_eq_false hrd]) rfl ?_
  refine hD.k0 ?_;refine hD.s0 ?_;refine hD.r0 ?_;refine hD.mv (ptr wb) hk ?_;refine nm rfl ?_;refine hD.nc ⟨wb,0,none⟩ hk ?_;refine nm rfl ?_;refine hD.field (n:=0) (v:=(ptrAt wb 2)) (u:=(ptr wb)) hk rfl ⟨rfl,rfl,rfl,rfl,nofun⟩ rfl fa93_1 ?_;refine nm rfl ?_;refine hD.ld (.int .i64 rd1) hk (fun τ d=>l_3 (hb1.cell 2)) ?_;refine nm rfl ?_;refine hD.pu (.int .i64 (wrap64 (rd1-1))) hk (fun w=>w_sub3 rfl rfl rfl) ?_;refine nm rfl ?_;refine hD.nc ⟨wb,0,none⟩ hk ?_;refine nm rfl ?_;refine hD.field (n:=0) (v:=(ptrAt wb 2)) (u:=(ptr wb)) hk rfl ⟨rfl,rfl,rfl,rfl,nofun⟩ rfl fa93_1 ?_;refine nm rfl ?_;refine hD.store (n:=0) (u:=(ptrAt wb 2)) (z:=(.int .i64 (wrap64 (rd1-1)))) hk rfl ⟨rfl,rfl,rfl,rfl,nofun⟩ rfl rfl (fun τ d=>((s_3 (w:=re w τ d) (hb1.cell 2) (hb1.frozen 2)).trans (congrArg (Result.ok ()) re_setCell))) (Nat.le_of_eq (World.size_setCell _ _ _).symm) ?_;obtain⟨w11,hsw11⟩:∃ z,z=w.setCell ⟨wb,2,none⟩ (.int .i64 (wrap64 (rd1-1))):=⟨_,rfl⟩;have ksw11:Kp [wb] w w11:=by rw[hsw11];exact⟨Nat.le_of_eq (World.size_setCell _ _ _).symm,fun c hc hn=>setCell_frame (by simpa using hn)⟩
  have bw11:Blk w11 wb [.bool true,.int .i64 by1,.int .i64 (wrap64 (rd1-1)),.int .i64 wt1] 93:=by rw[hsw11];exact hb1.set 2 _
  rw[← hsw11];clear hsw11;refine hD.e0 ?_;refine hD.s0 ?_;refine hD.r0 ?_;refine hD.as (.int .i64 0) hk ?_;refine nm rfl ?_;refine hD.e0 ?_;refine hD.ret (n:=0) ?_;exact hD.leave (n:=0) (b:=base 47) (v:=.int .i64 0) rfl rfl Try.func47 (fun τ d=>res1v rfl rfl) (hc c (by simp)).1 (hnext hrd _ ksw11 bw11 (T.kp1 (Blk.cel hb1) (by decide) (by decide) hX ksw11))
theorem rw_lock {wb:Nat}{by0 rd0 wt0:Int}(T:Th p C (k+2) i K F cs st X w n (a,some l))(hc:∀ f∈c::rest,OkFr f)(hwb:Cel w wb [.bool true,.int .i64 by0,.int .i64 rd0,.int .i64 wt0] 93)
  (hm:∀ bb w',w.heap.size≤bb→Kp [] w w'→Blk w' bb [ptr wb] 50→p.mem a (updT st i (.susp (l,bb::gh) .nilFunc)) (fun b=>X b∨b=bb) w')
  (hres:∀ bb K F cs st X w n a,Th p C (k+1) i K F cs st X w n (p.go i (.susp l) a n)→(∃ rv,st i=.susp (l,bb::gh) rv)→p.mem a st X w→∃ a2 l2,p.go i (.susp l) a n=(a2,some l2)∧∃ by1 rd1 wt1:Int,X wb∧Blk w wb [.bool true,.int .i64 by1,.int .i64 rd1,.int .i64 wt1] 93∧X bb∧Blk w bb [ptr wb] 50 ∧
   (∀ w',Kp [wb] w w'→Blk w' wb [.bool true,.int .i64 by1,.int .i64 rd1,.int .i64 (wrap64 (wt1+1))] 93→Blk w' bb [ptr wb] 50→p.mem a2 (updT st i (.susp (l2,bb::gh) (.func (.func 72) #[] #[ptr bb]))) X w') ∧
   (∀ K F cs st X w n a,Th p C k i K F cs st X w n (p.go i (.susp l2) a n)→(∃ rv,st i=.susp (l2,bb::gh) rv)→p.mem a st X w→∃ by2 rd2 wt2:Int,X wb∧Blk w wb [.bool true,.int .i64 by2,.int .i64 rd2,.int .i64 wt2] 93∧X bb∧Blk w bb [ptr wb] 50 ∧
   ∀ w',Kp [wb] w w'→Blk w' wb [.bool true,.int .i64 i,.int .i64 rd2,.int .i64 (wrap64 (wt2-1))] 93→Th p C k i K F cs st X w' n (p.go i (.susp l2) a n)→K (gs (c.finish (.int .i64 0)) (rest++F::cs)) w')):K (gs (Frame.enter Try.prog 48 #[ptr wb,ptr (C.bt i)] .normal) (c::(rest++F::cs))) w:=by
 have hk:(base 48).kind≠.early:=nofun;have hK:=T.cl;have hD:=hK.det;rw[show(#[ptr wb,ptr (C.bt i)]:Array Value)=[ptr wb,ptr (C.bt i)].toArray from rfl,enter_fg (n:=42) (c:=q48) Try.func48 rfl rfl rfl];have kk:Kp [] w w:=⟨Nat.le_refl _,fun _ _ _=>rfl⟩;refine hD.s0 ?_;refine hD.r0 ?_;refine hD.box (n:=0) (u:=(ptr wb)) (ob:=.cells #[ptr wb] 50) hk rfl ⟨rfl,rfl,rfl,rfl,nofun⟩ rfl bx_50 ?_;obtain⟨w1,hsw1⟩:∃ z,z=w.alloc (.cells #[ptr wb] 50):=⟨_,rfl⟩;obtain⟨nw1,hnw1⟩:∃ z,z=w.heap.size:=⟨_,rfl⟩;have ksw1:Kp [] w w1:=by rw[hsw1];exact Kp.alloc [] _ _
 have bw1:Blk w1 nw1 [ptr wb] 50:=by rw[hsw1,hnw1];exact Blk.new _ _ _
 rw[← hsw1,← hnw1];clear hsw1;have genw1:w.heap.size≤nw1:=by rw[hnw1];exact kk.size
 have hwb':=ksw1.cel hwb (by simp);have kk:=kk.trans ksw1;refine nm rfl ?_;refine hD.as (.int .i64 0) hk ?_;refine nm rfl ?_;refine hD.e0 ?_;refine hD.s0 ?_;refine hD.s0 ?_;refine hD.r0 ?_;refine hD.ld (ptr wb) hk (fun τ d=>l_50 (bw1.cell 0)) ?_;refine nm rfl ?_;refine hD.cf #[ptr wb] hk Try.func70 ?_;refine hK.callp fits shut (f:=70) rfl (v:=.bool true) (fun τ d=>there_calls (re w1 τ d) wb (re_cel hwb')) ?_;refine fin0 (some 7) ?_;refine nm rfl ?_;refine hD.pu (.bool false) hk (fun w=>pu_not (y:=true) rfl rfl) ?_;refine nm rfl ?_;refine hD.e0 ?_;refine hD.cond (n:=0) false rfl rfl ?_;refine hD.k0 ?_;refine hD.s0 ?_;refine hD.r0 ?_;refine hD.pu (.func (.func 72) #[] #[ptr nw1]) hk (fun w=>w_mk0_1 rfl rfl) ?_;refine nm rfl ?_;refine hD.as (.func (.func 72) #[] #[ptr nw1]) hk ?_;refine nm rfl ?_;refine hD.e0 ?_;refine hD.s0 ?_;refine hD.s0 ?_;refine hD.r0 ?_;refine hD.mv (ptr (C.bt i)) hk ?_;refine nm rfl ?_;refine hD.pu (.bool false) hk (fun w=>w_eql28_p rfl rfl) ?_;refine nm rfl ?_;refine hD.mv (.bool false) hk ?_;refine nm rfl ?_;refine hD.gu (n:=0) rfl rfl rfl (by decide +kernel) nofun ?_;refine nm rfl ?_;refine hD.gu (n:=0) rfl rfl rfl (by decide +kernel) nofun ?_;refine nm rfl ?_;refine hD.gu (n:=0) rfl rfl rfl (by decide +kernel) nofun ?_;refine nm rfl ?_;refine hD.pu (.bool false) hk (fun w=>pu_pick (t:=false) rfl rfl rfl) ?_;refine nm rfl ?_;refine hD.e0 ?_;refine hD.cond (n:=0) false rfl rfl ?_;refine hD.k0 ?_;refine hD.s0 ?_;refine hD.r0 ?_;refine hD.mv (ptr (C.bt i)) hk ?_;refine nm rfl ?_;refine hD.cf #[ptr (C.bt i)] hk Try.func29 ?_;refine ThR.step (l:=l) (g:=nw1::gh) (rest:=c::rest) (T.new kk genw1) (fun f hf=>by rcases List.mem_cons.1 hf with rfl | hf;exact⟨rfl,rfl,_,Try.func48⟩;exact hc f hf) (hm nw1 _ genw1 kk bw1) fun K F cs st X w n a T h1 h2=>?_;obtain⟨a2,l2,ego,by1,rd1,wt1,hX,hb1,hXb,hbb,hm2,hres2⟩:=hres nw1 K F cs st X w n a T h1 h2;clear kk;have hK:=T.cl;have hD:=hK.det;have kk:Kp [] w w:=⟨Nat.le_refl _,fun _ _ _=>rfl⟩;refine fin0 (some 18) ?_;refine nm rfl ?_;have hmb1:=Blk.cel hb1;refine hD.e0 ?_;refine hD.s0 ?_;refine hD.r0 ?_;refine hD.ld (ptr wb) hk (fun τ d=>l_50 (hbb.cell 0)) ?_;refine nm rfl ?_;refine hD.nc ⟨wb,0,none⟩ hk ?_;refine nm rfl ?_;refine hD.field (n:=0) (v:=(ptrAt wb 3)) (u:=(ptr wb)) hk rfl ⟨rfl,rfl,rfl,rfl,nofun⟩ rfl fa93_2 ?_;refine nm rfl ?_;refine hD.ld (.int .i64 wt1) hk (fun τ d=>l_3 (hb1.cell 3)) ?_;refine nm rfl ?_;refine hD.pu (.int .i64 (wrap64 (wt1+1))) hk (fun w=>w_add3 rfl rfl rfl) ?_;refine nm rfl ?_;refine hD.nc ⟨wb,0,none⟩ hk ?_;refine nm rfl ?_;refine hD.field (n:=0) (v:=(ptrAt wb 3)) (u:=(ptr wb)) hk rfl ⟨rfl,rfl,rfl,rfl,nofun⟩ rfl fa93_2 ?_;refine nm rfl ?_;refine hD.store (n:=0) (u:=(ptrAt wb 3)) (z:=(.int .i64 (wrap64 (wt1+1)))) hk rfl ⟨rfl,rfl,rfl,rfl,nofun⟩ rfl rfl (fun τ d=>((s_3 (w:=re w τ d) (hb1.cell 3) (hb1.frozen 3)).trans (congrArg (Result.ok ()) re_setCell))) (Nat.le_of_eq (World.size_setCell _ _ _).symm) ?_;obtain⟨w11,hsw11⟩:∃ z,z=w.setCell ⟨wb,3,none⟩ (.int .i64 (wrap64 (wt1+1))):=⟨_,rfl⟩
 have ksw11:Kp [wb] w w11:=by rw[hsw11];exact⟨Nat.le_of_eq (World.size_setCell _ _ _).symm,fun c hc hn=>setCell_frame (by simpa using hn)⟩
 have bw11:Blk w11 wb [.bool true,.int .i64 by1,.int .i64 rd1,.int .i64 (wrap64 (wt1+1))] 93:=by rw[hsw11];exact hb1.set 3 _
 rw[← hsw11];clear hsw11;have hbb':=ksw11.blk hbb (by simpa using (cel_ne (Blk.cel hbb) (Blk.cel hb1) (by decide)));have kk:=kk.kp1 ksw11;refine hD.e0 ?_;refine hD.s0 ?_;refine hD.r0 ?_;refine hD.mv (ptr (C.bt i)) hk ?_;refine nm rfl ?_;refine hD.mv (.func (.func 72) #[] #[ptr nw1]) hk ?_;refine nm rfl ?_;refine hD.cf #[ptr (C.bt i),(.func (.func 72) #[] #[ptr nw1])] hk Try.func35 ?_;refine ThR.wait (l:=l2) (g:=nw1::gh) (rest:=c::rest) ((T.eqP ego).kp1 hmb1 (by decide) (by decide) hX kk) (.inr ⟨_,_,_,rfl⟩) (fun f hf=>by rcases List.mem_cons.1 hf with rfl | hf;exact⟨rfl,rfl,_,Try.func48⟩;exact hc f hf) (hm2 _ kk bw11 hbb') fun K F cs st X w n a T h1 h2=>?_;obtain⟨by2,rd2,wt2,hX,hb2,hXb,hbb,hnext⟩:=hres2 K F cs st X w n a T h1 h2;have hK:=T.cl;have hD:=hK.det;clear kk;refine fin0 (some 28) ?_;refine nm rfl ?_;refine hD.e0 ?_;refine hD.s0 ?_;refine hD.r0 ?_;refine hD.ld (ptr wb) hk (fun τ d=>l_50 (hbb.cell 0)) ?_;refine nm rfl ?_;refine hD.nc ⟨wb,0,none⟩ hk ?_;refine nm rfl ?_;refine hD.field (n:=0) (v:=(ptrAt wb 3)) (u:=(ptr wb)) hk rfl ⟨rfl,rfl,rfl,rfl,nofun⟩ rfl fa93_2 ?_;refine nm rfl ?_;refine hD.ld (.int .i64 wt2) hk (fun τ d=>l_3 (hb2.cell 3)) ?_;refine nm rfl ?_;refine hD.pu (.int .i64 (wrap64 (wt2-1))) hk (fun w=>w_sub3 rfl rfl rfl) ?_;refine nm rfl ?_;refine hD.nc ⟨wb,0,none⟩ hk ?_;refine nm rfl ?_;refine hD.field (n:=0) (v:=(ptrAt wb 3)) (u:=(ptr wb)) hk rfl ⟨rfl,rfl,rfl,rfl,nofun⟩ rfl fa93_2 ?_;refine nm rfl ?_;refine hD.store (n:=0) (u:=(ptrAt wb 3)) (z:=(.int .i64 (wrap64 (wt2-1)))) hk rfl ⟨rfl,rfl,rfl,rfl,nofun⟩ rfl rfl (fun τ d=>((s_3 (w:=re w τ d) (hb2.cell 3) (hb2.frozen 3)).trans (congrArg (Result.ok ()) re_setCell))) (Nat.le_of_eq (World.size_setCell _ _ _).symm) ?_;obtain⟨w21,hsw21⟩:∃ z,z=w.setCell ⟨wb,3,none⟩ (.int .i64 (wrap64 (wt2-1))):=⟨_,rfl⟩;have ksw21:Kp [wb] w w21:=by rw[hsw21];exact⟨Nat.le_of_eq (World.size_setCell _ _ _).symm,fun c hc hn=>setCell_frame (by simpa using hn)⟩
 have bw21:Blk w21 wb [.bool true,.int .i64 by2,.int .i64 rd2,.int .i64 (wrap64 (wt2-1))] 93:=by rw[hsw21];exact hb2.set 3 _
 rw[← hsw21];clear hsw21;have hbb':=ksw21.blk hbb (by simpa using (cel_ne (Blk.cel hbb) (Blk.cel hb2) (by decide)));refine hD.e0 ?_;refine hD.s0 ?_;have hmb2:=Blk.cel hb2;have T:=T.kp1 hmb2 (by decide) (by decide) hX ksw21;obtain⟨ba,sa,ck,ga,ca,hrn⟩:=T.rn;refine hK.seg fits shut (b:=base 48) ⟨_,Try.func48⟩ nofun (c:=(sL (sR (sR (sR (sR (sR (sR (sR (sR q48)))))))))) (by decide +kernel) (Q:=sQ 42 (fun x=>x 0=ptr wb∧x 1=ptr (C.bt i)) wb [.bool true,.int .i64 i,.int .i64 rd2,.int .i64 (wrap64 (wt2-1))] 93 w21) (fun t w' τ d h=>sQ_re h τ d) (fun τ d=>Code.wp_mono (fun e a w' ⟨h1,h2,h3⟩=>⟨h1,h2,sQ_un h3⟩) (oq48b (re w21 τ d) _ wb nw1 (C.bt i) i by2 rd2 (wrap64 (wt2-1)) bw21 hbb' (fun w' k=>who_calls w' _ _ _ _ _ _ _ _ _ ((Keeps.kp k).cel (re_cel T.bt) (by simp)) ((Keeps.kp k).cel (re_cel hrn) (by simp))) rfl rfl rfl)) fun t w22 ⟨x',ex',⟨g0,g1⟩,ksw22,bw22⟩=>?_;subst ex';rw[allK.self (x:=x') (l:=[(0,ptr wb),(1,ptr (C.bt i))]) ⟨g0,g1,trivial⟩];have hbb'':=ksw22.blk hbb' (by simpa using (cel_ne (Blk.cel hbb') (Blk.cel bw21) (by decide)));refine hD.s0 ?_;refine hD.r0 ?_;refine hD.as (.int .i64 0) hk ?_;refine nm rfl ?_;refine hD.e0 ?_;refine hD.ret (n:=0) ?_;exact hD.leave (n:=0) (b:=base 48) (v:=.int .i64 0) rfl rfl Try.func48 (fun τ d=>res1v rfl rfl) (hc c (by simp)).1 (hnext _ (ksw21.kp1' ksw22) bw22 (T.kp1 (Blk.cel bw21) (by decide) (by decide) hX ksw22))
end
structure ExA where
 mby:Int
 fby:Int
 fas:Int
 fha:Int
 wby:Int
 wrd:Int
 wwt:Int
 i0:Int
 i1:Int
 i2:Int
 i3:Int
 bad:Bool
 fin:Int
def ExA.ins (a:ExA):Nat→Int
 | 0=>a.i0
 | 1=>a.i1
 | 2=>a.i2
 | _=>a.i3
def ExA.setIn (a:ExA)(what:Nat)(v:Int):ExA:=match what with
 | 0=>{a with i0:=v}
 | 1=>{a with i1:=v}
 | 2=>{a with i2:=v}
 | _=>{a with i3:=v}
def ExA.looks (a:ExA):ExA:={a with bad:=a.bad||decide (1<a.i0)||decide (1<a.i1)||decide (1<a.i3)||(decide (a.i3=1)&&decide (0<a.i2))}
inductive ExL
 | take0 (s:Nat)
 | ask1 (s:Nat)
 | wait1 (s:Nat) (num:Int)
 | take2 (s:Nat)
 | ask3 (s:Nat)
 | wait3 (s:Nat)
 | look (s t:Nat)
 | leave (s:Nat)
def exStart (ks:List (Nat × Nat))(s:Nat)(a:ExA):ExA × Option ExL:=match ks[s]? with
 | none=>(a,none)
 | some (0,_)=>(a,some (.take0 s))
 | some (1,_)=>(a,some (.ask1 s))
 | some (2,_)=>(a,some (.take2 s))
 | some _=>(a,some (.ask3 s))
def exLook (ks:List (Nat × Nat))(s t:Nat)(a:ExA):ExA × Option ExL:=if t<(ks.getD s (0,0)).2 then (a,some (.look s t)) else (a.setIn (ks.getD s (0,0)).1 (wrap64 (a.ins (ks.getD s (0,0)).1-1)),some (.leave s))
def exIn (ks:List (Nat × Nat))(s:Nat)(a:ExA):ExA × Option ExL :=
 let k:=(ks.getD s (0,0)).1
 exLook ks s 0 (a.setIn k (wrap64 (a.ins k+1))).looks
def exOut (ks:List (Nat × Nat))(s:Nat)(err:Bool)(a:ExA):ExA × Option ExL:=exStart ks (s+1) { a with bad:=err||a.bad,fin:=wrap64 (a.fin+1)}
def exGo (ks:Nat→List (Nat × Nat))(i:Nat)(t:ES ExL)(a:ExA)(_:Nat):ExA × Option ExL:=match t with
 | .fresh=>exStart (ks i) 0 a
 | .susp (.take0 s)=>exIn (ks i) s { a with mby:=i}
 | .susp (.ask1 s)=>({a with fas:=wrap64 (a.fas+1)},some (.wait1 s a.fas))
 | .susp (.wait1 s _)=>exIn (ks i) s { a with fby:=i,fha:=wrap64 (a.fha+1)}
 | .susp (.take2 s)=>exIn (ks i) s { a with wrd:=wrap64 (a.wrd+1)}
 | .susp (.ask3 s)=>({a with wwt:=wrap64 (a.wwt+1)},some (.wait3 s))
 | .susp (.wait3 s)=>exIn (ks i) s { a with wby:=i,wwt:=wrap64 (a.wwt-1)}
 | .susp (.look s t)=>exLook (ks i) s (t+1) a.looks
 | .susp (.leave s)=>match ((ks i).getD s (0,0)).1 with
  | 0=>if a.mby=i then exOut (ks i) s false { a with mby:=-1} else exOut (ks i) s true a
  | 1=>if a.fby=i then exOut (ks i) s false { a with fby:=-1} else exOut (ks i) s true a
  | 2=>if a.wrd=0 then exOut (ks i) s true a else exOut (ks i) s false { a with wrd:=wrap64 (a.wrd-1)}
  | _=>if a.wby=i then exOut (ks i) s false { a with wby:=-1} else exOut (ks i) s true a
 | .done=>(a,none)
def exRdy (_:Nat)(l:ExL)(a:ExA):Bool:=match l with
 | .take0 _=>decide (a.mby = -1)
 | .wait1 _ num=>decide (a.fby = -1)&&decide (a.fha=num)
 | .take2 _=>decide (a.wby = -1)&&decide (a.wwt=0)
 | .wait3 _=>decide (a.wby = -1)&&decide (a.wrd=0)
 | _=>true
section
variable {ks:Nat→List (Nat × Nat)}{i s n:Nat}{a:ExA}
theorem exGo_l0 (h:((ks i).getD s (0,0)).1=0):exGo ks i (.susp (.leave s)) a n=if a.mby=i then exOut (ks i) s false { a with mby:=-1} else exOut (ks i) s true a:=by unfold exGo;dsimp only;rw[h];rfl
theorem exGo_l1 (h:((ks i).getD s (0,0)).1=1):exGo ks i (.susp (.leave s)) a n=if a.fby=i then exOut (ks i) s false { a with fby:=-1} else exOut (ks i) s true a:=by unfold exGo;dsimp only;rw[h];rfl
theorem exGo_l2 (h:((ks i).getD s (0,0)).1=2):exGo ks i (.susp (.leave s)) a n=if a.wrd=0 then exOut (ks i) s true a else exOut (ks i) s false { a with wrd:=wrap64 (a.wrd-1)}:=by unfold exGo;dsimp only;rw[h];rfl
theorem exGo_l3 (h:((ks i).getD s (0,0)).1=3):exGo ks i (.susp (.leave s)) a n=if a.wby=i then exOut (ks i) s false { a with wby:=-1} else exOut (ks i) s true a:=by unfold exGo;dsimp only;rw[h];rfl
end
open Go.ConcN (sumTo upd sumTo_upd upd_ne upd_same)
theorem runF_ind {L A:Type}{B:Bods L A}{n:Nat}{beh:A→A}{I:RunSt L A→Prop}{φ:RunSt L A→Nat}
  (hstep:∀ x i left,i<n→rdyE B i (x.st i) x.a=true→I x→I (oneAct B beh x i left)∧φ (oneAct B beh x i left)<φ x):∀ k x,I x→φ x≤k→I (runF B n beh k x)∧readies B n (runF B n beh k x)=[]
 | 0,x,hI,hk=>by
  refine⟨hI,?_⟩;show readies B n x=[];cases e:readies B n x with
  | nil=>rfl
  | cons i l =>
   have hm:i∈readies B n x:=by rw[e];exact mc'
   unfold readies at hm;obtain⟨h1,h2⟩:=List.mem_filter.1 hm;have:=(hstep x i [] (List.mem_range.1 h1) h2 hI).2;omega
 | k+1,x,hI,hk=>by
  unfold runF;by_cases e:readies B n x=[]
  ·rw[if_pos e];exact⟨hI,e⟩
  ·rw[if_neg e]
   have hm:=chosen_mem (acts:=x.acts) (left:=x.left) e;generalize (chosen (readies B n x) x.acts x.left).1=i at hm ⊢;generalize (chosen (readies B n x) x.acts x.left).2=left;unfold readies at hm;obtain⟨h1,h2⟩:=List.mem_filter.1 hm;obtain⟨h3,h4⟩:=hstep x i left (List.mem_range.1 h1) h2 hI;exact runF_ind hstep k (oneAct B beh x i left) h3 (Nat.le_of_lt_succ (nl' h4 hk))
theorem sumTo_zero:∀ n,sumTo n (fun _=>0)=0
 | 0=>rfl
 | n+1=>by show sumTo n _+0=0;rw[sumTo_zero n]
abbrev kdOf (ks:List (Nat × Nat))(s:Nat):Nat:=(ks.getD s (0,0)).1
abbrev spOf (ks:List (Nat × Nat))(s:Nat):Nat:=(ks.getD s (0,0)).2
def exHold (k:Nat)(ks:List (Nat × Nat)):ES ExL→Nat
 | .susp (.look s _)=>if kdOf ks s=k then 1 else 0
 | .susp (.leave s)=>if kdOf ks s=k then 1 else 0
 | _=>0
def exInn (k:Nat)(ks:List (Nat × Nat)):ES ExL→Nat
 | .susp (.look s _)=>if kdOf ks s=k then 1 else 0
 | _=>0
def exWt:ES ExL→Nat
 | .susp (.wait3 _)=>1
 | _=>0
def exTick:ES ExL→Option Int
 | .susp (.wait1 _ num)=>some num
 | _=>none
def exFin (ks:List (Nat × Nat)):ES ExL→Nat
 | .fresh=>0
 | .susp (.take0 s)=>s
 | .susp (.ask1 s)=>s
 | .susp (.wait1 s _)=>s
 | .susp (.take2 s)=>s
 | .susp (.ask3 s)=>s
 | .susp (.wait3 s)=>s
 | .susp (.look s _)=>s
 | .susp (.leave s)=>s
 | .done=>ks.length
def exPhi (ks:List (Nat × Nat)):ES ExL→Nat
 | .fresh=>7*ks.length+1
 | .susp (.take0 s)=>7*(ks.length-s)
 | .susp (.ask1 s)=>7*(ks.length-s)
 | .susp (.wait1 s _)=>7*(ks.length-s)-1
 | .susp (.take2 s)=>7*(ks.length-s)
 | .susp (.ask3 s)=>7*(ks.length-s)
 | .susp (.wait3 s)=>7*(ks.length-s)-1
 | .susp (.look s t)=>7*(ks.length-s)-2-t
 | .susp (.leave s)=>7*(ks.length-s)-6
 | .done=>0
def exOwn (ks:List (Nat × Nat)):ES ExL→Prop
 | .susp (.take0 s)=>s<ks.length∧kdOf ks s=0
 | .susp (.ask1 s)=>s<ks.length∧kdOf ks s=1
 | .susp (.wait1 s _)=>s<ks.length∧kdOf ks s=1
 | .susp (.take2 s)=>s<ks.length∧kdOf ks s=2
 | .susp (.ask3 s)=>s<ks.length∧kdOf ks s=3
 | .susp (.wait3 s)=>s<ks.length∧kdOf ks s=3
 | .susp (.look s t)=>s<ks.length∧t≤spOf ks s
 | .susp (.leave s)=>s<ks.length
 | _=>True
structure LkI (n:Nat)(c:Nat→Nat)(b:Int):Prop where
 own:∀ j,j<n→c j≠0→b=j
 sum:sumTo n c=if b = -1 then 0 else 1
def Had (i:Nat)(b b':Int)(c c':Nat):Prop:=(b'=b∧c'=c)∨(b = -1∧b'=i∧c=0∧c'=1)∨(b=i∧b' = -1∧c=1∧c'=0)
theorem LkI.upd {n:Nat}{c c':Nat→Nat}{b b':Int}{i:Nat}(h:LkI n c b)(hi:i<n)(ho:∀ j,j≠i→c' j=c j)(hd:Had i b b' (c i) (c' i)):LkI n c' b':=by
 have hs:=sumTo_one (n:=n) (f:=c') (g:=c) hi fun j _ hne=>ho j hne;have h1:=h.sum;rcases hd with⟨rfl,e⟩ | ⟨rfl,rfl,e1,e2⟩ | ⟨rfl,rfl,e1,e2⟩
 ·refine⟨fun j hj hc=>?_,by omega⟩
  by_cases e':j=i
  ·subst e';exact h.own j hj (by omega)
  ·exact h.own j hj (by rw[← ho j e'];exact hc)
 ·rw[if_pos rfl] at h1
  refine⟨fun j hj hc=>?_,?_⟩
  ·by_cases e':j=i
   ·rw[e']
   ·have:=h.own j hj (by rw[← ho j e'];exact hc)
    omega
  ·rw[if_neg (by omega)];omega
 ·rw[if_neg (by omega)] at h1
  refine⟨fun j hj hc=>?_,?_⟩
  ·by_cases e':j=i
   ·subst e';exact absurd e2 hc
   ·have:=h.own j hj (by rw[← ho j e'];exact hc)
    omega
  ·rw[if_pos rfl];omega
structure TkI (n:Nat)(c:Nat→Option Int)(had all:Int):Prop where
 zero:0≤had
 le:had≤all
 own:∀ j,j<n→∀ q,c j=some q→had≤q∧q<all
 one:∀ i j q,i<n→j<n→c i=some q→c j=some q→i=j
 wt:∀ q,had≤q→q<all→∃ i,i<n∧c i=some q
def Tk (had had' all all':Int)(c c':Option Int):Prop:=(had'=had∧all'=all∧c'=c)∨(had'=had∧all'=all+1∧c=none∧c'=some all)∨(had'=had+1∧all'=all∧c=some had∧c'=none)
theorem TkI.upd {n:Nat}{c c':Nat→Option Int}{had had' all all':Int}{i:Nat}(h:TkI n c had all)(hi:i<n)(ho:∀ j,j≠i→c' j=c j)(hd:Tk had had' all all' (c i) (c' i)):TkI n c' had' all':=by
 obtain⟨h0,hle,hown,hone,hwt⟩:=h;rcases hd with⟨rfl,rfl,e⟩ | ⟨rfl,rfl,e1,e2⟩ | ⟨rfl,rfl,e1,e2⟩
 ·have:c'=c:=funext fun j=>by
   by_cases e':j=i
   ·subst e';exact e
   ·exact ho j e'
  subst this;exact⟨h0,hle,hown,hone,hwt⟩
 ·have A:∀ j,j<n→∀ q,c' j=some q→(j=i∧q=all)∨(j≠i∧c j=some q):=fun j hj q hq=>by
   by_cases e':j=i
   ·subst e';rw[e2] at hq;exact .inl ⟨rfl,(oj' hq).symm⟩
   ·exact .inr ⟨e',by rw[← ho j e'];exact hq⟩
  refine⟨h0,by omega,fun j hj q hq=>?_,fun j k q hj hk hq hr=>?_,fun q h1 h2=>?_⟩
  ·rcases A j hj q hq with⟨_,rfl⟩ | ⟨_,h3⟩
   ·omega
   ·have:=hown j hj q h3;omega
  ·rcases A j hj q hq with⟨rfl,rfl⟩ | ⟨_,h3⟩
   ·rcases A k hk _ hr with⟨rfl,_⟩ | ⟨_,h4⟩
    ·rfl
    ·have:=hown k hk _ h4;omega
   ·rcases A k hk q hr with⟨rfl,rfl⟩ | ⟨_,h4⟩
    ·have:=hown j hj _ h3;omega
    ·exact hone j k q hj hk h3 h4
  ·by_cases e:q=all
   ·exact⟨i,hi,by rw[e2,e]⟩
   ·obtain⟨j,hj,h3⟩:=hwt q h1 (by omega)
    exact⟨j,hj,by rw[ho j (by rintro rfl;rw[e1] at h3;cases h3)];exact h3⟩
 ·have A:∀ j,j<n→∀ q,c' j=some q→j≠i∧c j=some q:=fun j hj q hq=>by
   by_cases e':j=i
   ·subst e';rw[e2] at hq;cases hq
   ·exact⟨e',by rw[← ho j e'];exact hq⟩
  have hlt:=hown i hi _ e1;refine⟨by omega,by omega,fun j hj q hq=>?_,fun j k q hj hk hq hr=>hone j k q hj hk (A j hj q hq).2 (A k hk q hr).2,fun q h1 h2=>?_⟩
  ·obtain⟨h3,h4⟩:=A j hj q hq
   have:=hown j hj q h4;by_cases e:q=had
   ·subst e;exact absurd (hone j i _ hj hi h4 e1) h3
   ·omega
  ·obtain⟨j,hj,h3⟩:=hwt q (by omega) h2
   refine⟨j,hj,?_⟩;rw[ho j (by
    rintro rfl;rw[e1] at h3;have:=oj' h3;omega)]
   exact h3
structure ExI (n:Nat)(ks:Nat→List (Nat × Nat))(st:Nat→ES ExL)(a:ExA)(m:Nat):Prop where
 own:∀ i,i<n→exOwn (ks i) (st i)
 hm:LkI n (fun i=>exHold 0 (ks i) (st i)) a.mby
 hf:LkI n (fun i=>exHold 1 (ks i) (st i)) a.fby
 hw:LkI n (fun i=>exHold 3 (ks i) (st i)) a.wby
 hr:((sumTo n fun i=>exHold 2 (ks i) (st i):Nat):Int)=a.wrd
 hwt:((sumTo n fun i=>exWt (st i):Nat):Int)=a.wwt
 hin:∀ k,k<4→((sumTo n fun i=>exInn k (ks i) (st i):Nat):Int)=a.ins k
 ex:a.wby = -1∨a.wrd=0
 bad:a.bad=false
 fin:((sumTo n fun i=>exFin (ks i) (st i):Nat):Int)=a.fin
 tk:TkI n (fun i=>exTick (st i)) a.fha a.fas
 max:a.fas≤m
section
variable {n:Nat}{ks:Nat→List (Nat × Nat)}{st:Nat→ES ExL}{a a':ExA}{m m':Nat}{i:Nat}{t':ES ExL}
theorem ex_sum (F:Nat→ES ExL→Nat)(hi:i<n):sumTo n (fun j=>F j (updE st i t' j))+F i (st i)=sumTo n (fun j=>F j (st j))+F i t':=by
 have:=sumTo_one (n:=n) (f:=fun j=>F j (updE st i t' j)) (g:=fun j=>F j (st j)) hi fun j _ hne=>by
  show F j (updE st i t' j)=_;rw[updE_ne hne]
 have e:updE st i t' i=t':=updE_self _ _ _;rw[e] at this;exact this
theorem ExI.upd (h:ExI n ks st a m)(hi:i<n)(own:exOwn (ks i) t')(hm:Had i a.mby a'.mby (exHold 0 (ks i) (st i)) (exHold 0 (ks i) t'))(hf:Had i a.fby a'.fby (exHold 1 (ks i) (st i)) (exHold 1 (ks i) t'))(hw:Had i a.wby a'.wby (exHold 3 (ks i) (st i)) (exHold 3 (ks i) t'))
  (hr:(exHold 2 (ks i) t':Int)+a.wrd=exHold 2 (ks i) (st i)+a'.wrd) (hwt:(exWt t':Int)+a.wwt=exWt (st i)+a'.wwt) (hin:∀ k,k<4→(exInn k (ks i) t':Int)+a.ins k=exInn k (ks i) (st i)+a'.ins k)
  (ex:a'.wby = -1∨a'.wrd=0) (bad:a'.bad=false) (fin:(exFin (ks i) t':Int)+a.fin=exFin (ks i) (st i)+a'.fin) (tk:Tk a.fha a'.fha a.fas a'.fas (exTick (st i)) (exTick t')) (max:a'.fas≤m'):ExI n ks (updE st i t') a' m':=by
 have es:updE st i t' i=t':=updE_self _ _ _;have en:∀ j,j≠i→updE st i t' j=st j:=fun j hj=>updE_ne hj;refine⟨fun j hj=>?_,h.hm.upd hi (fun j hj=>by show exHold 0 (ks j) (updE st i t' j)=_;rw[en j hj]) (by show Had i _ _ _ (exHold 0 (ks i) (updE st i t' i));rw[es];exact hm),h.hf.upd hi (fun j hj=>by show exHold 1 (ks j) (updE st i t' j)=_;rw[en j hj]) (by show Had i _ _ _ (exHold 1 (ks i) (updE st i t' i));rw[es];exact hf),
  h.hw.upd hi (fun j hj=>by show exHold 3 (ks j) (updE st i t' j)=_;rw[en j hj]) (by show Had i _ _ _ (exHold 3 (ks i) (updE st i t' i));rw[es];exact hw),?_,?_,fun k hk=>?_,ex,bad,?_,h.tk.upd hi (fun j hj=>by show exTick (updE st i t' j)=_;rw[en j hj]) (by show Tk _ _ _ _ _ (exTick (updE st i t' i));rw[es];exact tk),max⟩
 ·by_cases e:j=i
  ·subst e;rw[es];exact own
  ·rw[en j e];exact h.own j hj
 ·have:=ex_sum (st:=st) (t':=t') (fun j=>exHold 2 (ks j)) hi;have:=h.hr;omega
 ·have:=ex_sum (st:=st) (t':=t') (fun _=>exWt) hi;have:=h.hwt;omega
 ·have:=ex_sum (st:=st) (t':=t') (fun j=>exInn k (ks j)) hi;have:=h.hin k hk;have:=hin k hk;omega
 ·have:=ex_sum (st:=st) (t':=t') (fun j=>exFin (ks j)) hi;have:=h.fin;omega
theorem exInn_le (k:Nat)(l:List (Nat × Nat))(t:ES ExL):exInn k l t≤exHold k l t:=by
 match t with
 | .fresh=>exact Nat.zero_le _
 | .susp (.take0 _)=>exact Nat.zero_le _
 | .susp (.ask1 _)=>exact Nat.zero_le _
 | .susp (.wait1 _ _)=>exact Nat.zero_le _
 | .susp (.take2 _)=>exact Nat.zero_le _
 | .susp (.ask3 _)=>exact Nat.zero_le _
 | .susp (.wait3 _)=>exact Nat.zero_le _
 | .susp (.look _ _)=>exact Nat.le_refl _
 | .susp (.leave _)=>exact Nat.zero_le _
 | .done=>exact Nat.zero_le _
theorem exHold_le (k:Nat)(l:List (Nat × Nat))(t:ES ExL):exHold k l t≤1:=by
 unfold exHold;split<;>first | (split<;>omega) | omega
theorem LkI.le_one {c:Nat→Nat}{b:Int}(h:LkI n c b):sumTo n c≤1:=by
 rw[h.sum];split<;>omega
theorem sumTo_at {f:Nat→Nat}{i:Nat}:∀ {n:Nat},i<n→f i≤sumTo n f
 | 0,h=>absurd h (Nat.not_lt_zero i)
 | n+1,h=>by
  have h2:sumTo (n+1) f=sumTo n f+f n:=rfl;by_cases e:i=n
  ·subst e;omega
  ·have:=sumTo_at (f:=f) (i:=i) (n:=n) (by omega);omega
theorem sumTo_le1 {f:Nat→Nat}(h:∀ i,f i≤1):sumTo n f≤n:=by
 induction n with
 | zero=>exact Nat.le_refl _
 | succ n ih =>
  have:=h n;have h2:sumTo (n+1) f=sumTo n f+f n:=rfl;omega
theorem ExI.looks (h:ExI n ks st a m):a.looks=a:=by
 have hb:=h.bad;have M:∀ k,sumTo n (fun i=>exInn k (ks i) (st i))≤sumTo n (fun i=>exHold k (ks i) (st i)):=fun k=>sumTo_mono fun j _=>exInn_le k (ks j) (st j);have e0:((sumTo n fun i=>exInn 0 (ks i) (st i):Nat):Int)=a.i0:=h.hin 0 (by omega);have e1:((sumTo n fun i=>exInn 1 (ks i) (st i):Nat):Int)=a.i1:=h.hin 1 (by omega);have e2:((sumTo n fun i=>exInn 2 (ks i) (st i):Nat):Int)=a.i2:=h.hin 2 (by omega);have e3:((sumTo n fun i=>exInn 3 (ks i) (st i):Nat):Int)=a.i3:=h.hin 3 (by omega);have m0:=M 0;have m1:=M 1;have m2:=M 2;have m3:=M 3;have l0:=h.hm.le_one;have l1:=h.hf.le_one;have l3:=h.hw.le_one;have hr:=h.hr;have hw:=h.hw.sum;have q0:¬ 1<a.i0:=by omega
 have q1:¬ 1<a.i1:=by omega
 have q3:¬ 1<a.i3:=by omega
 have q2:¬ (a.i3=1∧0<a.i2):=fun⟨x1,x2⟩=>by
  rcases h.ex with e | e
  ·rw[if_pos e] at hw;omega
  ·omega
 obtain⟨mby,fby,fas,fha,wby,wrd,wwt,i0,i1,i2,i3,bd,fin⟩:=a;unfold ExA.looks;dsimp only at *;subst hb;by_cases x1:i3=1
 ·have x2:¬ 0<i2:=fun x2=>q2 ⟨x1,x2⟩
  simp[q0,q1,q3,x2]
 ·simp[q0,q1,q3,x1]
theorem ExA.ins_setIn {a:ExA}{k k':Nat}{v:Int}(hk:k<4)(hk':k'<4):(a.setIn k v).ins k'=if k=k' then v else a.ins k':=by
 obtain _ | _ | _ | _ | k:=k<;>obtain _ | _ | _ | _ | k':=k'<;>first | rfl | omega
theorem ExA.setIn_same {a:ExA}{k:Nat}{v:Int}:(a.setIn k v).mby=a.mby∧(a.setIn k v).fby=a.fby∧(a.setIn k v).fas=a.fas∧(a.setIn k v).fha=a.fha∧(a.setIn k v).wby=a.wby∧(a.setIn k v).wrd=a.wrd∧(a.setIn k v).wwt=a.wwt∧(a.setIn k v).bad=a.bad∧(a.setIn k v).fin=a.fin:=by
 obtain _ | _ | _ | k:=k<;>exact⟨rfl,rfl,rfl,rfl,rfl,rfl,rfl,rfl,rfl⟩
theorem updE_updE {L:Type}(st:Nat→ES L)(i:Nat)(t t':ES L):updE (updE st i t) i t'=updE st i t':=by
 funext j;by_cases e:j=i
 ·subst e;rw[updE_self,updE_self]
 ·rw[updE_ne e,updE_ne e,updE_ne e]
theorem updE_same {L:Type}(st:Nat→ES L)(i:Nat):updE st i (st i)=st:=by
 funext j;by_cases e:j=i
 ·subst e;rw[updE_self]
 ·rw[updE_ne e]
theorem ks_at {l:List (Nat × Nat)}(h4:∀ p∈l,p.1<4∧p.2<4)(s:Nat):kdOf l s<4∧spOf l s<4:=by
 unfold kdOf spOf;rw[List.getD_eq_getElem?_getD];by_cases h:s<l.length
 ·rw[List.getElem?_eq_getElem h]
  exact h4 _ (List.getElem_mem h)
 ·rw[List.getElem?_eq_none (by omega)]
  exact⟨by decide,by decide⟩
theorem ExI.ins_ge (h:ExI n ks st a m)(hn:n≤8){k:Nat}(hk:k<4):0≤a.ins k∧a.ins k≤8:=by
 have h1:=h.hin k hk;have h2:sumTo n (fun i=>exInn k (ks i) (st i))≤n:=sumTo_le1 fun j=>Nat.le_trans (exInn_le _ _ _) (exHold_le _ _ _);omega
theorem ExI.look {s t0 t:Nat}(h:ExI n ks (updE st i (.susp (.look s t0))) a m)(hn:n≤8)(h4:∀ p∈ks i,p.1<4∧p.2<4)(hi:i<n)(ht:t≤4)(hm:m≤m'):ExI n ks (updE st i (toT (exLook (ks i) s t a).2)) (exLook (ks i) s t a).1 m'∧exPhi (ks i) (toT (exLook (ks i) s t a).2)≤7*((ks i).length-s)-2-t:=by
 have ho:=h.own i hi;rw[updE_self] at ho;obtain⟨hs,_⟩:=ho;obtain⟨h5,h6⟩:=ks_at h4 s;unfold exLook;by_cases e:t<((ks i).getD s (0,0)).2
 ·rw[if_pos e]
  refine⟨?_,Nat.le_refl _⟩;rw[← updE_updE st i (.susp (.look s t0))];refine h.upd hi ⟨hs,Nat.le_of_lt e⟩ (.inl ⟨rfl,by rw[updE_self];rfl⟩) (.inl ⟨rfl,by rw[updE_self];rfl⟩) (.inl ⟨rfl,by rw[updE_self];rfl⟩) (by rw[updE_self];rfl) (by rw[updE_self];rfl) (fun k hk=>by rw[updE_self];rfl) h.ex h.bad (by rw[updE_self];rfl) (.inl ⟨rfl,rfl,by rw[updE_self];rfl⟩) (show a.fas≤_ by have:=h.max;omega)
 ·rw[if_neg e]
  obtain⟨g0,g1⟩:=h.ins_ge hn h5;have ge:1≤a.ins (kdOf (ks i) s):=by
   have h1:=h.hin _ h5;have h2:exInn (kdOf (ks i) s) (ks i) (updE st i (.susp (.look s t0)) i)≤sumTo n (fun j=>exInn (kdOf (ks i) s) (ks j) (updE st i (.susp (.look s t0)) j)):=sumTo_at (f:=fun j=>exInn (kdOf (ks i) s) (ks j) (updE st i (.susp (.look s t0)) j)) hi;rw[updE_self] at h2;have h3:exInn (kdOf (ks i) s) (ks i) (.susp (.look s t0))=1:=if_pos rfl;omega
  have hw:wrap64 (a.ins (kdOf (ks i) s)-1)=a.ins (kdOf (ks i) s)-1:=IntWalk.wrap64_in _ (by omega);show ExI n ks (updE st i (.susp (.leave s))) (a.setIn (kdOf (ks i) s) (wrap64 (a.ins (kdOf (ks i) s)-1))) m'∧7*((ks i).length-s)-6≤_;refine⟨?_,by omega⟩;rw[hw,← updE_updE st i (.susp (.look s t0))];obtain⟨s1,s2,s3,s4,s5,s6,s7,s8,s9⟩:=ExA.setIn_same (a:=a) (k:=kdOf (ks i) s) (v:=a.ins (kdOf (ks i) s)-1);refine h.upd hi hs (.inl ⟨s1,by rw[updE_self];rfl⟩) (.inl ⟨s2,by rw[updE_self];rfl⟩) (.inl ⟨s5,by rw[updE_self];rfl⟩) (by rw[updE_self,s6];rfl) (by rw[updE_self,s7];rfl) (fun k hk=>?_) (by rw[s5,s6];exact h.ex) (by rw[s8];exact h.bad) (by rw[updE_self,s9];rfl) (.inl ⟨s4,s3,by rw[updE_self];rfl⟩) (by rw[s3];have:=h.max;omega);rw[updE_self,ExA.ins_setIn h5 hk];show((0:Nat):Int)+a.ins k=((if kdOf (ks i) s=k then 1 else 0:Nat):Int)+_;by_cases e2:kdOf (ks i) s=k
  ·rw[if_pos e2,if_pos e2,e2];omega
  ·rw[if_neg e2,if_neg e2]
theorem ExI.enter {s:Nat}{t:ES ExL}(h:ExI n ks st a m)(hn:n≤8)(h4:∀ p∈ks i,p.1<4∧p.2<4)(hi:i<n)(hst:st i=t)(hs:s<(ks i).length)(hf:exFin (ks i) t=s)(hi0:∀ k,exInn k (ks i) t=0)
  (ei:∀ k,a'.ins k=a.ins k) (hm:Had i a.mby a'.mby (exHold 0 (ks i) t) (exHold 0 (ks i) (.susp (.look s 0)))) (hf':Had i a.fby a'.fby (exHold 1 (ks i) t) (exHold 1 (ks i) (.susp (.look s 0)))) (hw:Had i a.wby a'.wby (exHold 3 (ks i) t) (exHold 3 (ks i) (.susp (.look s 0))))
  (hr:(exHold 2 (ks i) (.susp (.look s 0)):Int)+a.wrd=exHold 2 (ks i) t+a'.wrd) (hwt:a.wwt=exWt t+a'.wwt) (ex:a'.wby = -1∨a'.wrd=0) (bad:a'.bad=a.bad) (fin:a'.fin=a.fin) (tk:Tk a.fha a'.fha a.fas a'.fas (exTick t) none) (max:a'.fas≤m') :
  ExI n ks (updE st i (toT (exIn (ks i) s a').2)) (exIn (ks i) s a').1 m'∧exPhi (ks i) (toT (exIn (ks i) s a').2)≤7*((ks i).length-s)-2:=by
 subst hst;obtain⟨h5,h6⟩:=ks_at h4 s;obtain⟨g0,g1⟩:=h.ins_ge hn h5;obtain⟨s1,s2,s3,s4,s5,s6,s7,s8,s9⟩:=ExA.setIn_same (a:=a') (k:=kdOf (ks i) s) (v:=a'.ins (kdOf (ks i) s)+1);have hwr:wrap64 (a'.ins (kdOf (ks i) s)+1)=a'.ins (kdOf (ks i) s)+1:=IntWalk.wrap64_in _ (by rw[ei];omega);have H:ExI n ks (updE st i (.susp (.look s 0))) (a'.setIn (kdOf (ks i) s) (wrap64 (a'.ins (kdOf (ks i) s)+1))) m':=by
  rw[hwr];refine h.upd hi ⟨hs,Nat.zero_le _⟩ (by rw[s1];exact hm) (by rw[s2];exact hf') (by rw[s5];exact hw) (by rw[s6];exact hr) (by rw[s7];show((0:Nat):Int)+_=_;omega) (fun k hk=>?_) (by rw[s5,s6];exact ex) (by rw[s8,bad];exact h.bad) (by rw[s9,fin,hf];rfl) (by rw[s3,s4];exact tk) (by rw[s3];exact max);rw[ExA.ins_setIn h5 hk,hi0 k];show((if kdOf (ks i) s=k then 1 else 0:Nat):Int)+_=((0:Nat):Int)+_;by_cases e2:kdOf (ks i) s=k
  ·rw[if_pos e2,if_pos e2,ei,e2];omega
  ·rw[if_neg e2,if_neg e2,ei]
 show ExI n ks (updE st i (toT (exLook (ks i) s 0 (a'.setIn (kdOf (ks i) s) (wrap64 (a'.ins (kdOf (ks i) s)+1))).looks).2)) (exLook (ks i) s 0 (a'.setIn (kdOf (ks i) s) (wrap64 (a'.ins (kdOf (ks i) s)+1))).looks).1 m'∧exPhi (ks i) (toT (exLook (ks i) s 0 (a'.setIn (kdOf (ks i) s) (wrap64 (a'.ins (kdOf (ks i) s)+1))).looks).2)≤_;rw[H.looks];exact H.look hn h4 hi (Nat.zero_le _) (Nat.le_refl _)
theorem exStart_cases {l:List (Nat × Nat)}(h4:∀ p∈l,p.1<4∧p.2<4){s:Nat}(hs:s≤l.length)(a:ExA):(exStart l s a).1=a∧exOwn l (toT (exStart l s a).2)∧(∀ k,exHold k l (toT (exStart l s a).2)=0)∧(∀ k,exInn k l (toT (exStart l s a).2)=0)∧exWt (toT (exStart l s a).2)=0 ∧
  exTick (toT (exStart l s a).2)=none∧exFin l (toT (exStart l s a).2)=s∧exPhi l (toT (exStart l s a).2)=7*(l.length-s):=by
 unfold exStart;by_cases h:s<l.length
 ·have e:l[s]?=some (l.getD s (0,0)):=by
   rw[List.getD_eq_getElem?_getD,List.getElem?_eq_getElem h];rfl
  have hk:=(ks_at h4 s).1;have hkd:kdOf l s=(l.getD s (0,0)).1:=rfl;rw[e];generalize l.getD s (0,0)=p at hkd;obtain⟨k,z⟩:=p;have hkd:kdOf l s=k:=hkd;rw[hkd] at hk;obtain _ | _ | _ | _ | k:=k
  ·exact⟨rfl,⟨h,hkd⟩,fun _=>rfl,fun _=>rfl,rfl,rfl,rfl,rfl⟩
  ·exact⟨rfl,⟨h,hkd⟩,fun _=>rfl,fun _=>rfl,rfl,rfl,rfl,rfl⟩
  ·exact⟨rfl,⟨h,hkd⟩,fun _=>rfl,fun _=>rfl,rfl,rfl,rfl,rfl⟩
  ·exact⟨rfl,⟨h,hkd⟩,fun _=>rfl,fun _=>rfl,rfl,rfl,rfl,rfl⟩
  ·omega
 ·have e:l[s]?=none:=List.getElem?_eq_none (by omega)
  obtain rfl:s=l.length:=by omega
  rw[e];exact⟨rfl,trivial,fun _=>rfl,fun _=>rfl,rfl,rfl,rfl,by show 0=_;omega⟩
theorem ExI.out {s:Nat}(h:ExI n ks st a m)(h4:∀ p∈ks i,p.1<4∧p.2<4)(hi:i<n)(hst:st i=.susp (.leave s))(hbig:a.fin<2 ^ 60)
  (ei:∀ k,a'.ins k=a.ins k) (hm:Had i a.mby a'.mby (exHold 0 (ks i) (.susp (.leave s))) 0) (hf:Had i a.fby a'.fby (exHold 1 (ks i) (.susp (.leave s))) 0) (hw:Had i a.wby a'.wby (exHold 3 (ks i) (.susp (.leave s))) 0)
  (hr:a.wrd=exHold 2 (ks i) (.susp (.leave s))+a'.wrd) (hwt:a'.wwt=a.wwt) (ex:a'.wby = -1∨a'.wrd=0) (bad:a'.bad=a.bad) (fin:a'.fin=a.fin) (fas:a'.fas=a.fas) (fha:a'.fha=a.fha) (mm:m≤m') :
  ExI n ks (updE st i (toT (exOut (ks i) s false a').2)) (exOut (ks i) s false a').1 m'∧exPhi (ks i) (toT (exOut (ks i) s false a').2)≤7*((ks i).length-s)-7:=by
 have ho:=h.own i hi;rw[hst] at ho;have hs:s<(ks i).length:=ho;have hfin:=h.fin;have hw64:wrap64 (a'.fin+1)=a'.fin+1:=IntWalk.wrap64_in _ (by rw[fin];omega);unfold exOut;obtain⟨c1,c2,c3,c4,c5,c6,c7,c8⟩:=exStart_cases h4 (s:=s+1) (by omega) { a' with bad:=false||a'.bad,fin:=wrap64 (a'.fin+1)};refine⟨?_,by rw[c8];omega⟩;rw[c1];refine h.upd hi c2 (by rw[hst,c3];exact hm) (by rw[hst,c3];exact hf) (by rw[hst,c3];exact hw) (by rw[hst,c3];show((0:Nat):Int)+a.wrd=((exHold 2 (ks i) (.susp (.leave s)):Nat):Int)+a'.wrd;omega) (by rw[hst,c5];show _=((0:Nat):Int)+_;rw[hwt]) (fun k hk=>by rw[hst,c4];show((0:Nat):Int)+_=((0:Nat):Int)+_;have:({a' with bad:=false||a'.bad,fin:=wrap64 (a'.fin+1)}:ExA).ins k=a'.ins k:=(by obtain _ | _ | _ | k:=k<;>rfl);rw[this,ei]) ex (by show(false||a'.bad)=false;rw[bad,h.bad];rfl)
  (by rw[hst,c7];show((s+1:Nat):Int)+a.fin=(s:Int)+wrap64 (a'.fin+1);rw[hw64,fin];omega) (.inl ⟨fha,fas,by rw[hst,c6];rfl⟩) (by rw[fas];have:=h.max;omega)
end
section
variable {n:Nat}{ks:Nat→List (Nat × Nat)}{B:Bods ExL ExA}
theorem ex_step (h4':∀ i,i<n→∀ p∈ks i,p.1<4∧p.2<4)(hn:n≤8)(hg:B.go=exGo ks)(hr:B.rdy=exRdy)(x:RunSt ExL ExA)(i:Nat)(left:List Nat)(hi:i<n)(hrd:rdyE B i (x.st i) x.a=true)(h:ExI n ks x.st x.a x.acts.length)(hb:x.a.fin<2 ^ 60)(hmx:x.acts.length<2 ^ 60) :
  ExI n ks (oneAct B (fun a=>a) x i left).st (oneAct B (fun a=>a) x i left).a (oneAct B (fun a=>a) x i left).acts.length∧exPhi (ks i) ((oneAct B (fun a=>a) x i left).st i)<exPhi (ks i) (x.st i):=by
 have h4:=h4' i hi;have ho:=h.own i hi;have hl:(x.acts++[i]).length=x.acts.length+1:=by rw[la',List.length_singleton]
 have hmax:=h.max
 suffices H:ExI n ks (updE x.st i (toT (exGo ks i (x.st i) x.a (x.acts.length+1)).2)) (exGo ks i (x.st i) x.a (x.acts.length+1)).1 (x.acts.length+1)∧exPhi (ks i) (toT (exGo ks i (x.st i) x.a (x.acts.length+1)).2)<exPhi (ks i) (x.st i) by
  unfold oneAct;rw[hg];refine⟨?_,?_⟩
  ·show ExI n ks (updE x.st i (toT (exGo ks i (x.st i) x.a (x.acts.length+1)).2)) (exGo ks i (x.st i) x.a (x.acts.length+1)).1 (x.acts++[i]).length
   rw[hl];exact H.1
  ·show exPhi (ks i) (updE x.st i (toT (exGo ks i (x.st i) x.a (x.acts.length+1)).2) i)<_
   rw[updE_self];exact H.2
 have F0:∀ k k' s t,kdOf (ks i) s=k→k≠k'→exHold k' (ks i) (.susp (.look s t))=0:=fun k k' s t e ne=>if_neg (by rw[e];exact ne);have F1:∀ k s t,kdOf (ks i) s=k→exHold k (ks i) (.susp (.look s t))=1:=fun k s t e=>if_pos e;have L0:∀ k k' s,kdOf (ks i) s=k→k≠k'→exHold k' (ks i) (.susp (.leave s))=0:=fun k k' s e ne=>if_neg (by rw[e];exact ne);have L1:∀ k s,kdOf (ks i) s=k→exHold k (ks i) (.susp (.leave s))=1:=fun k s e=>if_pos e;have hrd':∀ l,x.st i=.susp l→exRdy i l x.a=true:=fun l e=>by
  rw[e] at hrd;rw[← hr];exact hrd
 match hs:x.st i with
 | .fresh =>
  obtain⟨c1,c2,c3,c4,c5,c6,c7,c8⟩:=exStart_cases h4 (s:=0) (Nat.zero_le _) x.a;show ExI n ks (updE x.st i (toT (exStart (ks i) 0 x.a).2)) (exStart (ks i) 0 x.a).1 _∧exPhi (ks i) (toT (exStart (ks i) 0 x.a).2)<7*(ks i).length+1;rw[c1];refine⟨h.upd hi c2 (.inl ⟨rfl,by rw[hs,c3];rfl⟩) (.inl ⟨rfl,by rw[hs,c3];rfl⟩) (.inl ⟨rfl,by rw[hs,c3];rfl⟩) (by rw[hs,c3];rfl) (by rw[hs,c5];rfl) (fun k hk=>by rw[hs,c4];rfl) h.ex h.bad (by rw[hs,c7];rfl) (.inl ⟨rfl,rfl,by rw[hs,c6];rfl⟩) (by omega),by rw[c8];omega⟩
 | .susp (.take0 s) =>
  rw[hs] at ho;obtain⟨hl,hk⟩:=ho;have hb0:x.a.mby = -1:=of_decide_eq_true (hrd' _ hs);obtain⟨g1,g2⟩:=h.enter (a':={x.a with mby:=i}) (m':=x.acts.length+1) (s:=s) hn h4 hi hs hl rfl (fun _=>rfl) (fun k=>by obtain _ | _ | _ | _ | k:=k<;>rfl) (.inr (.inl ⟨hb0,rfl,rfl,F1 _ _ _ hk⟩)) (.inl ⟨rfl,F0 _ _ _ _ hk (by decide)⟩) (.inl ⟨rfl,F0 _ _ _ _ hk (by decide)⟩) (by rw[F0 _ _ _ _ hk (by decide)];rfl) (by show x.a.wwt=((0:Nat):Int)+x.a.wwt;omega) h.ex rfl rfl (.inl ⟨rfl,rfl,rfl⟩) (by show x.a.fas≤_;omega);exact⟨g1,Nat.lt_of_le_of_lt g2 (by show _<7*((ks i).length-s);omega)⟩
 | .susp (.ask1 s) =>
  rw[hs] at ho;obtain⟨hl,hk⟩:=ho;have hz:=h.tk.zero;have hle:=h.tk.le;have hw:wrap64 (x.a.fas+1)=x.a.fas+1:=IntWalk.wrap64_in _ (by omega);show ExI n ks (updE x.st i (.susp (.wait1 s x.a.fas))) { x.a with fas:=wrap64 (x.a.fas+1)} _∧7*((ks i).length-s)-1<7*((ks i).length-s);rw[hw];refine⟨h.upd hi ⟨hl,hk⟩ (.inl ⟨rfl,by rw[hs];rfl⟩) (.inl ⟨rfl,by rw[hs];rfl⟩) (.inl ⟨rfl,by rw[hs];rfl⟩) (by rw[hs];rfl) (by rw[hs];rfl) (fun k hk=>by rw[hs];obtain _ | _ | _ | _ | k:=k<;>rfl) h.ex h.bad (by rw[hs];rfl) (.inr (.inl ⟨rfl,rfl,by rw[hs];rfl,rfl⟩)) (by show x.a.fas+1≤_;omega),by omega⟩
 | .susp (.wait1 s num) =>
  rw[hs] at ho;obtain⟨hl,hk⟩:=ho;have hrd2:(decide (x.a.fby = -1)&&decide (x.a.fha=num))=true:=hrd' _ hs;obtain⟨hb0,hb1⟩:=(Bool.and_eq_true _ _).mp hrd2;have hb0:=of_decide_eq_true hb0;have hb1:=of_decide_eq_true hb1;have hz:=h.tk.zero;have hlt:=h.tk.own i hi num (by show exTick (x.st i)=_;rw[hs];rfl);have hw:wrap64 (x.a.fha+1)=x.a.fha+1:=IntWalk.wrap64_in _ (by omega);show ExI n ks (updE x.st i (toT (exIn (ks i) s { x.a with fby:=i,fha:=wrap64 (x.a.fha+1)}).2)) (exIn (ks i) s { x.a with fby:=i,fha:=wrap64 (x.a.fha+1)}).1 _∧exPhi (ks i) (toT (exIn (ks i) s { x.a with fby:=i,fha:=wrap64 (x.a.fha+1)}).2)<_;rw[hw];obtain⟨g1,g2⟩:=h.enter (a':={x.a with fby:=i,fha:=x.a.fha+1}) (m':=x.acts.length+1) (s:=s) hn h4 hi hs hl rfl (fun _=>rfl) (fun k=>by obtain _ | _ | _ | _ | k:=k<;>rfl) (.inl ⟨rfl,F0 _ _ _ _ hk (by decide)⟩) (.inr (.inl ⟨hb0,rfl,rfl,F1 _ _ _ hk⟩)) (.inl ⟨rfl,F0 _ _ _ _ hk (by decide)⟩) (by rw[F0 _ _ _ _ hk (by decide)];rfl) (by show x.a.wwt=((0:Nat):Int)+x.a.wwt;omega) h.ex rfl rfl (.inr (.inr ⟨rfl,rfl,by rw[hb1];rfl,rfl⟩)) (by show x.a.fas≤_;omega);exact⟨g1,Nat.lt_of_le_of_lt g2 (by show _<7*((ks i).length-s)-1;omega)⟩
 | .susp (.take2 s) =>
  rw[hs] at ho;obtain⟨hl,hk⟩:=ho;have hrd2:(decide (x.a.wby = -1)&&decide (x.a.wwt=0))=true:=hrd' _ hs;obtain⟨hb0,hb1⟩:=(Bool.and_eq_true _ _).mp hrd2;have hb0:=of_decide_eq_true hb0;have hr0:=h.hr;have hle:sumTo n (fun i=>exHold 2 (ks i) (x.st i))≤n:=sumTo_le1 fun j=>exHold_le _ _ _;have hw:wrap64 (x.a.wrd+1)=x.a.wrd+1:=IntWalk.wrap64_in _ (by omega);show ExI n ks (updE x.st i (toT (exIn (ks i) s { x.a with wrd:=wrap64 (x.a.wrd+1)}).2)) (exIn (ks i) s { x.a with wrd:=wrap64 (x.a.wrd+1)}).1 _∧exPhi (ks i) (toT (exIn (ks i) s { x.a with wrd:=wrap64 (x.a.wrd+1)}).2)<_;rw[hw];obtain⟨g1,g2⟩:=h.enter (a':={x.a with wrd:=x.a.wrd+1}) (m':=x.acts.length+1) (s:=s) hn h4 hi hs hl rfl (fun _=>rfl) (fun k=>by obtain _ | _ | _ | _ | k:=k<;>rfl) (.inl ⟨rfl,F0 _ _ _ _ hk (by decide)⟩) (.inl ⟨rfl,F0 _ _ _ _ hk (by decide)⟩) (.inl ⟨rfl,F0 _ _ _ _ hk (by decide)⟩) (by rw[F1 _ _ _ hk];show((1:Nat):Int)+x.a.wrd=((0:Nat):Int)+(x.a.wrd+1);omega) (by show x.a.wwt=((0:Nat):Int)+x.a.wwt;omega) (.inl hb0) rfl rfl (.inl ⟨rfl,rfl,rfl⟩) (by show x.a.fas≤_;omega);exact⟨g1,Nat.lt_of_le_of_lt g2 (by show _<7*((ks i).length-s);omega)⟩
 | .susp (.ask3 s) =>
  rw[hs] at ho;obtain⟨hl,hk⟩:=ho;have hr0:=h.hwt;have hle:sumTo n (fun i=>exWt (x.st i))≤n:=sumTo_le1 fun j=>by unfold exWt;split<;>omega
  have hw:wrap64 (x.a.wwt+1)=x.a.wwt+1:=IntWalk.wrap64_in _ (by omega);show ExI n ks (updE x.st i (.susp (.wait3 s))) { x.a with wwt:=wrap64 (x.a.wwt+1)} _∧7*((ks i).length-s)-1<7*((ks i).length-s);rw[hw];refine⟨h.upd hi ⟨hl,hk⟩ (.inl ⟨rfl,by rw[hs];rfl⟩) (.inl ⟨rfl,by rw[hs];rfl⟩) (.inl ⟨rfl,by rw[hs];rfl⟩) (by rw[hs];rfl) (by rw[hs];show((1:Nat):Int)+x.a.wwt=((0:Nat):Int)+(x.a.wwt+1);omega) (fun k hk=>by rw[hs];obtain _ | _ | _ | _ | k:=k<;>rfl) h.ex h.bad (by rw[hs];rfl) (.inl ⟨rfl,rfl,by rw[hs];rfl⟩) (by show x.a.fas≤_;omega),by omega⟩
 | .susp (.wait3 s) =>
  rw[hs] at ho;obtain⟨hl,hk⟩:=ho;have hrd2:(decide (x.a.wby = -1)&&decide (x.a.wrd=0))=true:=hrd' _ hs;obtain⟨hb0,hb1⟩:=(Bool.and_eq_true _ _).mp hrd2;have hb0:=of_decide_eq_true hb0;have hb1:=of_decide_eq_true hb1;have hr0:=h.hwt;have hle:sumTo n (fun i=>exWt (x.st i))≤n:=sumTo_le1 fun j=>by unfold exWt;split<;>omega
  have hge:1≤sumTo n (fun i=>exWt (x.st i)):=by
   have:=sumTo_at (f:=fun i=>exWt (x.st i)) hi;rw[hs] at this;exact this
  have hw:wrap64 (x.a.wwt-1)=x.a.wwt-1:=IntWalk.wrap64_in _ (by omega);show ExI n ks (updE x.st i (toT (exIn (ks i) s { x.a with wby:=i,wwt:=wrap64 (x.a.wwt-1)}).2)) (exIn (ks i) s { x.a with wby:=i,wwt:=wrap64 (x.a.wwt-1)}).1 _∧exPhi (ks i) (toT (exIn (ks i) s { x.a with wby:=i,wwt:=wrap64 (x.a.wwt-1)}).2)<_;rw[hw];obtain⟨g1,g2⟩:=h.enter (a':={x.a with wby:=i,wwt:=x.a.wwt-1}) (m':=x.acts.length+1) (s:=s) hn h4 hi hs hl rfl (fun _=>rfl) (fun k=>by obtain _ | _ | _ | _ | k:=k<;>rfl) (.inl ⟨rfl,F0 _ _ _ _ hk (by decide)⟩) (.inl ⟨rfl,F0 _ _ _ _ hk (by decide)⟩) (.inr (.inl ⟨hb0,rfl,rfl,F1 _ _ _ hk⟩)) (by rw[F0 _ _ _ _ hk (by decide)];rfl) (by show x.a.wwt=((1:Nat):Int)+(x.a.wwt-1);omega) (.inr hb1) rfl rfl (.inl ⟨rfl,rfl,rfl⟩) (by show x.a.fas≤_;omega);exact⟨g1,Nat.lt_of_le_of_lt g2 (by show _<7*((ks i).length-s)-1;omega)⟩
 | .susp (.look s t) =>
  rw[hs] at ho;obtain⟨hl,hk⟩:=ho;have h6:=(ks_at h4 s).2;show ExI n ks (updE x.st i (toT (exLook (ks i) s (t+1) x.a.looks).2)) (exLook (ks i) s (t+1) x.a.looks).1 _∧exPhi (ks i) (toT (exLook (ks i) s (t+1) x.a.looks).2)<7*((ks i).length-s)-2-t;rw[h.looks];have h':ExI n ks (updE x.st i (.susp (.look s t))) x.a x.acts.length:=by rw[← hs,updE_same];exact h
  obtain⟨g1,g2⟩:=h'.look (t:=t+1) (m':=x.acts.length+1) hn h4 hi (by omega) (by omega);exact⟨g1,by omega⟩
 | .susp (.leave s) =>
  rw[hs] at ho;have hl:s<(ks i).length:=ho;have h5:=(ks_at h4 s).1;have O:∀ k,exHold k (ks i) (x.st i)=if kdOf (ks i) s=k then 1 else 0:=fun k=>by rw[hs];rfl
  show ExI n ks (updE x.st i (toT (exGo ks i (.susp (.leave s)) x.a (x.acts.length+1)).2)) (exGo ks i (.susp (.leave s)) x.a (x.acts.length+1)).1 _∧exPhi (ks i) (toT (exGo ks i (.susp (.leave s)) x.a (x.acts.length+1)).2)<7*((ks i).length-s)-6;have hkd:kdOf (ks i) s=((ks i).getD s (0,0)).1:=rfl;have C:∀ k,kdOf (ks i) s=k→((ks i).getD s (0,0)).1=k:=fun k e=>e;by_cases k0:kdOf (ks i) s=0
  ·have hby:x.a.mby=i:=h.hm.own i hi (by show exHold 0 (ks i) (x.st i)≠0;rw[O,if_pos k0];decide)
   rw[exGo_l0 (C _ k0),if_pos hby];obtain⟨g1,g2⟩:=h.out (a':={x.a with mby:=-1}) (m':=x.acts.length+1) h4 hi hs hb (fun k=>by obtain _ | _ | _ | _ | k:=k<;>rfl) (.inr (.inr ⟨hby,rfl,L1 _ _ k0,rfl⟩)) (.inl ⟨rfl,(L0 _ _ _ k0 (by decide)).symm⟩) (.inl ⟨rfl,(L0 _ _ _ k0 (by decide)).symm⟩) (by rw[L0 _ _ _ k0 (by decide)];show x.a.wrd=((0:Nat):Int)+x.a.wrd;omega) rfl h.ex rfl rfl rfl rfl (by omega);exact⟨g1,Nat.lt_of_le_of_lt g2 (by omega)⟩
  by_cases k1:kdOf (ks i) s=1
  ·have hby:x.a.fby=i:=h.hf.own i hi (by show exHold 1 (ks i) (x.st i)≠0;rw[O,if_pos k1];decide)
   rw[exGo_l1 (C _ k1),if_pos hby];obtain⟨g1,g2⟩:=h.out (a':={x.a with fby:=-1}) (m':=x.acts.length+1) h4 hi hs hb (fun k=>by obtain _ | _ | _ | _ | k:=k<;>rfl) (.inl ⟨rfl,(L0 _ _ _ k1 (by decide)).symm⟩) (.inr (.inr ⟨hby,rfl,L1 _ _ k1,rfl⟩)) (.inl ⟨rfl,(L0 _ _ _ k1 (by decide)).symm⟩) (by rw[L0 _ _ _ k1 (by decide)];show x.a.wrd=((0:Nat):Int)+x.a.wrd;omega) rfl h.ex rfl rfl rfl rfl (by omega);exact⟨g1,Nat.lt_of_le_of_lt g2 (by omega)⟩
  by_cases k2:kdOf (ks i) s=2
  ·have hge:1≤sumTo n (fun i=>exHold 2 (ks i) (x.st i)):=by
    have:=sumTo_at (f:=fun i=>exHold 2 (ks i) (x.st i)) hi;rw[O,if_pos k2] at this;exact this
   have hle:sumTo n (fun i=>exHold 2 (ks i) (x.st i))≤n:=sumTo_le1 fun j=>exHold_le _ _ _;have hr0:=h.hr;have hw:wrap64 (x.a.wrd-1)=x.a.wrd-1:=IntWalk.wrap64_in _ (by omega);rw[exGo_l2 (C _ k2),if_neg (by omega),hw];have hex:x.a.wby = -1:=by
    rcases h.ex with e | e
    ·exact e
    ·omega
   obtain⟨g1,g2⟩:=h.out (a':={x.a with wrd:=x.a.wrd-1}) (m':=x.acts.length+1) h4 hi hs hb (fun k=>by obtain _ | _ | _ | _ | k:=k<;>rfl) (.inl ⟨rfl,(L0 _ _ _ k2 (by decide)).symm⟩) (.inl ⟨rfl,(L0 _ _ _ k2 (by decide)).symm⟩) (.inl ⟨rfl,(L0 _ _ _ k2 (by decide)).symm⟩) (by rw[L1 _ _ k2];show x.a.wrd=((1:Nat):Int)+(x.a.wrd-1);omega) rfl (.inl hex) rfl rfl rfl rfl (by omega);exact⟨g1,Nat.lt_of_le_of_lt g2 (by omega)⟩
  have k3:kdOf (ks i) s=3:=by omega
  have hby:x.a.wby=i:=h.hw.own i hi (by show exHold 3 (ks i) (x.st i)≠0;rw[O,if_pos k3];decide);rw[exGo_l3 (C _ k3),if_pos hby];obtain⟨g1,g2⟩:=h.out (a':={x.a with wby:=-1}) (m':=x.acts.length+1) h4 hi hs hb (fun k=>by obtain _ | _ | _ | _ | k:=k<;>rfl) (.inl ⟨rfl,(L0 _ _ _ k3 (by decide)).symm⟩) (.inl ⟨rfl,(L0 _ _ _ k3 (by decide)).symm⟩) (.inr (.inr ⟨hby,rfl,L1 _ _ k3,rfl⟩)) (by rw[L0 _ _ _ k3 (by decide)];show x.a.wrd=((0:Nat):Int)+x.a.wrd;omega) rfl (.inl rfl) rfl rfl rfl rfl (by omega);exact⟨g1,Nat.lt_of_le_of_lt g2 (by omega)⟩
 | .done =>
  rw[hs] at hrd;exact absurd hrd (by show ¬ false=true;decide)
def ex0:ExA:=⟨-1,-1,0,0,-1,0,0,0,0,0,0,false,0⟩
theorem sumTo_mul (c:Nat)(f:Nat→Nat):∀ n,sumTo n (fun i=>c*f i)=c*sumTo n f
 | 0=>rfl
 | n+1=>by
  show sumTo n (fun i=>c*f i)+c*f n=c*(sumTo n f+f n);rw[sumTo_mul c f n,Nat.mul_add]
theorem sumTo_nil {f:Nat→Nat}(h:∀ i,i<n→f i=0):sumTo n f=0:=by
 rw[sumTo_ext (g:=fun _=>0) h,sumTo_zero]
theorem exFin_le {l:List (Nat × Nat)}{t:ES ExL}(h:exOwn l t):exFin l t≤l.length:=by
 match t,h with
 | .fresh,_=>exact Nat.zero_le _
 | .susp (.take0 _),h=>exact Nat.le_of_lt h.1
 | .susp (.ask1 _),h=>exact Nat.le_of_lt h.1
 | .susp (.wait1 _ _),h=>exact Nat.le_of_lt h.1
 | .susp (.take2 _),h=>exact Nat.le_of_lt h.1
 | .susp (.ask3 _),h=>exact Nat.le_of_lt h.1
 | .susp (.wait3 _),h=>exact Nat.le_of_lt h.1
 | .susp (.look _ _),h=>exact Nat.le_of_lt h.1
 | .susp (.leave s),h=>exact Nat.le_of_lt (show s<l.length from h)
 | .done,_=>exact Nat.le_refl _
theorem ex_first (picks:List Nat):ExI n ks (fun _=>.fresh) ex0 0:=by
 refine⟨fun _ _=>trivial,⟨fun j _ h=>absurd rfl h,?_⟩,⟨fun j _ h=>absurd rfl h,?_⟩,⟨fun j _ h=>absurd rfl h,?_⟩,?_,?_,fun k hk=>?_,.inl rfl,rfl,?_,⟨Int.le_refl _,Int.le_refl _,fun j _ q h=>(by cases h),fun i j q _ _ h _=>(by cases h),fun q h1 h2=>absurd h2 (by show ¬ q<0;have:(0:Int)≤q:=h1;omega)⟩,Int.le_refl _⟩
 ·exact sumTo_zero n
 ·exact sumTo_zero n
 ·exact sumTo_zero n
 ·show((sumTo n fun _=>0:Nat):Int)=0;rw[sumTo_zero];rfl
 ·show((sumTo n fun _=>0:Nat):Int)=0;rw[sumTo_zero];rfl
 ·show((sumTo n fun _=>0:Nat):Int)=_;rw[sumTo_zero];obtain _ | _ | _ | _ | k:=k<;>rfl
 ·show((sumTo n fun _=>0:Nat):Int)=0;rw[sumTo_zero];rfl
theorem ex_run (h4:∀ i,i<n→∀ p∈ks i,p.1<4∧p.2<4)(hn:n≤8)(hg:B.go=exGo ks)(hr:B.rdy=exRdy)(hN:sumTo n (fun i=>(ks i).length)≤2 ^ 30)(picks:List Nat)(y:RunSt ExL ExA)(hy:y=runF B n (fun a=>a) (9*sumTo n (fun i=>(ks i).length)+20) ⟨fun _=>.fresh,ex0,[],picks⟩) :
  (∀ i,i<n→y.st i=.done)∧y.a.bad=false∧y.a.fin=(sumTo n (fun i=>(ks i).length):Nat)∧y.acts.length<9*sumTo n (fun i=>(ks i).length)+20:=by
 have hfin:∀ x:RunSt ExL ExA,ExI n ks x.st x.a x.acts.length→x.a.fin≤(sumTo n (fun i=>(ks i).length):Nat):=fun x h=>by
  have h1:=h.fin;have h2:sumTo n (fun i=>exFin (ks i) (x.st i))≤sumTo n (fun i=>(ks i).length):=sumTo_mono fun j hj=>exFin_le (h.own j hj);omega
 have hphi:sumTo n (fun i=>exPhi (ks i) .fresh)=7*sumTo n (fun i=>(ks i).length)+1*n:=by
  show sumTo n (fun i=>7*(ks i).length+1)=_;rw[sumTo_plus,sumTo_mul]
 obtain⟨⟨h,hb⟩,h5⟩:=runF_ind (B:=B) (n:=n) (beh:=fun a=>a) (I:=fun x=>ExI n ks x.st x.a x.acts.length∧x.acts.length+sumTo n (fun i=>exPhi (ks i) (x.st i))≤7*sumTo n (fun i=>(ks i).length)+1*n) (φ:=fun x=>sumTo n (fun i=>exPhi (ks i) (x.st i))) (fun x i left hi hrd ⟨h,hb⟩=>by
  have hf:=hfin x h;obtain⟨g1,g2⟩:=ex_step h4 hn hg hr x i left hi hrd h (by omega) (by omega);have hs:=sumTo_one (n:=n) (f:=fun j=>exPhi (ks j) ((oneAct B (fun a=>a) x i left).st j)) (g:=fun j=>exPhi (ks j) (x.st j)) hi fun j _ hne=>by
   show exPhi (ks j) (updE x.st i _ j)=_;rw[updE_ne hne]
  have hl:(oneAct B (fun a=>a) x i left).acts.length=x.acts.length+1:=by
   show(x.acts++[i]).length=_;rw[la',List.length_singleton]
  exact⟨⟨g1,by omega⟩,by omega⟩) (9*sumTo n (fun i=>(ks i).length)+20) ⟨fun _=>.fresh,ex0,[],picks⟩ ⟨ex_first picks,by show 0+sumTo n (fun i=>exPhi (ks i) .fresh)≤_;omega⟩ (by show sumTo n (fun i=>exPhi (ks i) .fresh)≤_;omega)
 rw[← hy] at h hb h5;have hne:∀ i,i<n→¬ rdyE B i (y.st i) y.a=true:=fun i hi hrd=>by
  have:i∉readies B n y:=by rw[h5];simp
  unfold readies at this;rw[List.mem_filter] at this;exact this ⟨List.mem_range.2 hi,hrd⟩
 have hne':∀ i,i<n→∀ l,y.st i=.susp l→¬ exRdy i l y.a=true:=fun i hi l e hrd=>hne i hi (by rw[e];show B.rdy i l y.a=true;rw[hr];exact hrd);have hz:∀ k i,i<n→exHold k (ks i) (y.st i)=0:=fun k i hi=>by
  match hs:y.st i with
  | .fresh=>rfl
  | .susp (.take0 _)=>rfl
  | .susp (.ask1 _)=>rfl
  | .susp (.wait1 _ _)=>rfl
  | .susp (.take2 _)=>rfl
  | .susp (.ask3 _)=>rfl
  | .susp (.wait3 _)=>rfl
  | .susp (.look _ _)=>exact absurd rfl (hne' i hi _ hs)
  | .susp (.leave _)=>exact absurd rfl (hne' i hi _ hs)
  | .done=>rfl
 have free:∀ {c:Nat→Nat} {b:Int},LkI n c b→(∀ i,i<n→c i=0)→b = -1:=fun {c b} hl hc=>by
  have h1:=hl.sum;rw[sumTo_nil hc] at h1;by_cases e:b = -1
  ·exact e
  ·rw[if_neg e] at h1;omega
 have m0:=free h.hm (hz 0);have f0:=free h.hf (hz 1);have w0:=free h.hw (hz 3);have r0:y.a.wrd=0:=by
  have:=h.hr;rw[sumTo_nil (hz 2)] at this;omega
 have n3:∀ i,i<n→∀ s,y.st i≠.susp (.wait3 s):=fun i hi s e=>hne' i hi _ e (by show(decide (y.a.wby = -1)&&decide (y.a.wrd=0))=true;rw[w0,r0];rfl);have t0:y.a.wwt=0:=by
  have:=h.hwt;rw[sumTo_nil (f:=fun i=>exWt (y.st i)) fun i hi=>by
   match hs:y.st i with
   | .fresh=>rfl
   | .susp (.take0 _)=>rfl
   | .susp (.ask1 _)=>rfl
   | .susp (.wait1 _ _)=>rfl
   | .susp (.take2 _)=>rfl
   | .susp (.ask3 _)=>rfl
   | .susp (.wait3 _)=>exact absurd hs (n3 i hi _)
   | .susp (.look _ _)=>rfl
   | .susp (.leave _)=>rfl
   | .done=>rfl] at this
  omega
 have hd:∀ i,i<n→y.st i=.done:=fun i hi=>by
  match hs:y.st i with
  | .fresh=>exact absurd (by rw[hs];rfl) (hne i hi)
  | .susp (.take0 s)=>exact absurd (show decide (y.a.mby = -1)=true by rw[m0];rfl) (hne' i hi _ hs)
  | .susp (.ask1 _)=>exact absurd rfl (hne' i hi _ hs)
  | .susp (.wait1 s num) =>
   have h1:=h.tk.own i hi num (by show exTick (y.st i)=_;rw[hs];rfl);obtain⟨j,hj,h2⟩:=h.tk.wt y.a.fha (Int.le_refl _) (by omega);have h2:exTick (y.st j)=some y.a.fha:=h2
   match hsj:y.st j with
   | .fresh=>rw[hsj] at h2;cases h2
   | .susp (.take0 _)=>rw[hsj] at h2;cases h2
   | .susp (.ask1 _)=>rw[hsj] at h2;cases h2
   | .susp (.wait1 s' num') =>
    rw[hsj] at h2;obtain rfl:num'=y.a.fha:=oj' h2;exact absurd (show(decide (y.a.fby = -1)&&decide (y.a.fha=y.a.fha))=true by rw[f0];simp) (hne' j hj _ hsj)
   | .susp (.take2 _)=>rw[hsj] at h2;cases h2
   | .susp (.ask3 _)=>rw[hsj] at h2;cases h2
   | .susp (.wait3 _)=>rw[hsj] at h2;cases h2
   | .susp (.look _ _)=>rw[hsj] at h2;cases h2
   | .susp (.leave _)=>rw[hsj] at h2;cases h2
   | .done=>rw[hsj] at h2;cases h2
  | .susp (.take2 _)=>exact absurd (show(decide (y.a.wby = -1)&&decide (y.a.wwt=0))=true by rw[w0,t0];rfl) (hne' i hi _ hs)
  | .susp (.ask3 _)=>exact absurd rfl (hne' i hi _ hs)
  | .susp (.wait3 s)=>exact absurd hs (n3 i hi s)
  | .susp (.look _ _)=>exact absurd rfl (hne' i hi _ hs)
  | .susp (.leave _)=>exact absurd rfl (hne' i hi _ hs)
  | .done=>rfl
 refine⟨hd,h.bad,?_,by omega⟩;have:=h.fin;rw[sumTo_ext (g:=fun i=>(ks i).length) fun i hi=>by rw[hd i hi];rfl] at this;exact this.symm
end
def q40:Code:=Try.f40.body.getD .skip
def q42:Code:=Try.f42.body.getD .skip
theorem fa54_0 {b o:Nat}:∀ w,(Instr.fieldAt 54 (.pointer (some ⟨b,o,none⟩)) 0).run Try.prog w=.ok (.pointer (some ⟨b,o+0,none⟩)) w:=fun w=>by
 simp[go_sem,Try.underlying54,Try.runUnderlying54,Try.sizeOf54,Try.isAgg54,Try.sizeOf48]
theorem fa54_1 {b o:Nat}:∀ w,(Instr.fieldAt 54 (.pointer (some ⟨b,o,none⟩)) 1).run Try.prog w=.ok (.pointer (some ⟨b,o+1,none⟩)) w:=fun w=>by
 simp[go_sem,Try.underlying54,Try.runUnderlying54,Try.sizeOf54,Try.isAgg54,Try.sizeOf39,Try.sizeOf48]
theorem fa54_2 {b o:Nat}:∀ w,(Instr.fieldAt 54 (.pointer (some ⟨b,o,none⟩)) 2).run Try.prog w=.ok (.pointer (some ⟨b,o+2,none⟩)) w:=fun w=>by
 simp[go_sem,Try.underlying54,Try.runUnderlying54,Try.sizeOf54,Try.isAgg54,Try.sizeOf39,Try.sizeOf48,Try.sizeOf50]
section
variable {L A:Type}{p:Plan L A}{C:WC}{k i n:Nat}{K:Goroutine→World→Prop}{F c:Frame}{cs rest:List Frame}{st:Nat→TS L}{X:Nat→Prop}{w:World}{a:A}{l:L}{g gh:List Nat}{P:A × Option L}
theorem takes0 {yb mb fb wb:Nat}{i0 i1 i2 i3 dn:Int}{bd:Bool}{by0:Int}(T:Th p C (k+1) i K F cs st X w n (a,some l))(hc:∀ f∈c::rest,OkFr f)(hyb:Blk w yb [ptr mb,ptr fb,ptr wb,.int .i64 i0,.int .i64 i1,.int .i64 i2,.int .i64 i3,.bool bd,.int .i64 dn] 54)(hmb:Cel w mb [.bool true,.int .i64 by0] 91)(hm:p.mem a (updT st i (.susp (l,g) (.func (.func 34) #[ptr mb] #[]))) X w)(hres:∀ K F cs st X w n a,Th p C k i K F cs st X w n (p.go i (.susp l) a n)→(∃ rv,st i=.susp (l,g) rv)→p.mem a st X w→∃ by1,Blk w mb [.bool true,.int .i64 by1] 91∧X mb∧∀ w',Kp [mb] w w'→Blk w' mb [.bool true,.int .i64 i] 91→Th p C k i K F cs st X w' n (p.go i (.susp l) a n)→K (gs (c.finish (.int .i64 0)) (rest++F::cs)) w'):K (gs (Frame.enter Try.prog 40 #[ptr yb,ptr (C.bt i),.int .i64 0] .normal) (c::(rest++F::cs))) w:=by
 have hk:(base 40).kind≠.early:=nofun;have hK:=T.cl;have hD:=hK.det;rw[show(#[ptr yb,ptr (C.bt i),.int .i64 0]:Array Value)=[ptr yb,ptr (C.bt i),.int .i64 0].toArray from rfl,enter_fg (n:=38) (c:=q40) Try.func40 rfl rfl rfl];refine hD.s0 ?_;refine hD.r0 ?_;refine hD.as (.int .i64 0) hk ?_;refine nm rfl ?_;refine hD.e0 ?_;refine hD.s0 ?_;refine hD.s0 ?_;refine hD.r0 ?_;refine hD.mv (.int .i64 0) hk ?_;refine nm rfl ?_;refine hD.e0 ?_;refine hD.block (n:=0) ?_;refine hD.s0 ?_;refine hD.r0 ?_;refine hD.pu (.bool true) hk (fun w=>w_eql3 (i:=0) (j:=0) rfl rfl rfl) ?_;refine nm rfl ?_;refine hD.as (.bool true) hk ?_;refine nm rfl ?_;refine hD.e0 ?_;refine hD.cond (n:=0) true rfl rfl ?_;refine hD.s0 ?_;refine hD.r0 ?_;refine hD.mv (ptr yb) hk ?_;refine nm rfl ?_;refine hD.nc ⟨yb,0,none⟩ hk ?_;refine nm rfl ?_;refine hD.field (n:=0) (v:=(ptr yb)) (u:=(ptr yb)) hk rfl ⟨rfl,rfl,rfl,rfl,nofun⟩ rfl fa54_0 ?_;refine nm rfl ?_;refine hD.ld (ptr mb) hk (fun τ d=>l_48 (hyb.cell 0)) ?_;refine nm rfl ?_;refine hD.mv (ptr (C.bt i)) hk ?_;refine nm rfl ?_;refine hD.cf #[ptr mb,ptr (C.bt i)] hk Try.func28 ?_;refine mutex_lock (rest:=c::rest) T (fun f hf=>by rcases List.mem_cons.1 hf with rfl | hf;exact⟨rfl,rfl,_,Try.func40⟩;exact hc f hf) hmb hm fun K F cs st X w n a T h1 h2=>?_;obtain⟨by1,hb1,hX,hnext⟩:=hres K F cs st X w n a T h1 h2;refine⟨by1,hb1,hX,fun w1 k1 b1 T=>?_⟩;have hK:=T.cl;have hD:=hK.det;refine fin0 (some 15) ?_;refine nm rfl ?_;refine hD.as (.int .i64 0) hk ?_;refine nm rfl ?_;refine hD.e0 ?_;refine hD.ret (n:=0) ?_;exact hD.leave (n:=0) (b:=base 40) (v:=.int .i64 0) rfl rfl Try.func40 (fun τ d=>res1v rfl rfl) (hc c (by simp)).1 (hnext _ k1 b1 T)
theorem takes1 {yb mb fb wb:Nat}{i0 i1 i2 i3 dn:Int}{bd:Bool}(hyb:Blk w yb [ptr mb,ptr fb,ptr wb,.int .i64 i0,.int .i64 i1,.int .i64 i2,.int .i64 i3,.bool bd,.int .i64 dn] 54)  {by0 as0 ha0:Int}(T:Th p C (k+2) i K F cs st X w n (a,some l))(hc:∀ f∈c::rest,OkFr f)(hmb:Cel w fb [.bool true,.int .i64 by0,.int .i64 as0,.int .i64 ha0] 88)
  (hm:∀ bb w',w.heap.size≤bb→Kp [] w w'→Blk w' bb [ptr fb] 39→p.mem a (updT st i (.susp (l,bb::gh) .nilFunc)) (fun b=>X b∨b=bb) w')
  (hres:∀ bb K F cs st X w n a,Th p C (k+1) i K F cs st X w n (p.go i (.susp l) a n)→(∃ rv,st i=.susp (l,bb::gh) rv)→p.mem a st X w→∃ a2 l2,p.go i (.susp l) a n=(a2,some l2)∧∃ by1 as1 ha1:Int,X fb∧Blk w fb [.bool true,.int .i64 by1,.int .i64 as1,.int .i64 ha1] 88∧X bb∧Blk w bb [ptr fb] 39 ∧
   (∀ nb w',w.heap.size≤nb→Kp [fb] w w'→Blk w' fb [.bool true,.int .i64 by1,.int .i64 (wrap64 (as1+1)),.int .i64 ha1] 88→Blk w' bb [ptr fb] 39→Blk w' nb [.int .i64 as1] 3→p.mem a2 (updT st i (.susp (l2,bb::gh) (.func (.func 36) #[] #[ptr bb,ptr nb]))) (fun b=>X b∨b=nb) w') ∧
   (∀ K F cs st X w n a,Th p C k i K F cs st X w n (p.go i (.susp l2) a n)→(∃ rv,st i=.susp (l2,bb::gh) rv)→p.mem a st X w→∃ by2 as2 ha2:Int,X fb∧Blk w fb [.bool true,.int .i64 by2,.int .i64 as2,.int .i64 ha2] 88∧X bb∧Blk w bb [ptr fb] 39 ∧
   ∀ w',Kp [fb] w w'→Blk w' fb [.bool true,.int .i64 i,.int .i64 as2,.int .i64 (wrap64 (ha2+1))] 88→Th p C k i K F cs st X w' n (p.go i (.susp l2) a n)→K (gs (c.finish (.int .i64 0)) (rest++F::cs)) w')):K (gs (Frame.enter Try.prog 40 #[ptr yb,ptr (C.bt i),.int .i64 1] .normal) (c::(rest++F::cs))) w:=by
 have hk:(base 40).kind≠.early:=nofun;have hK:=T.cl;have hD:=hK.det;rw[show(#[ptr yb,ptr (C.bt i),.int .i64 1]:Array Value)=[ptr yb,ptr (C.bt i),.int .i64 1].toArray from rfl,enter_fg (n:=38) (c:=q40) Try.func40 rfl rfl rfl];refine hD.s0 ?_;refine hD.r0 ?_;refine hD.as (.int .i64 0) hk ?_;refine nm rfl ?_;refine hD.e0 ?_;refine hD.s0 ?_;refine hD.s0 ?_;refine hD.r0 ?_;refine hD.mv (.int .i64 1) hk ?_;refine nm rfl ?_;refine hD.e0 ?_;refine hD.block (n:=0) ?_;refine hD.s0 ?_;refine hD.r0 ?_;refine hD.pu (.bool false) hk (fun w=>w_eql3 (i:=1) (j:=0) rfl rfl rfl) ?_;refine nm rfl ?_;refine hD.as (.bool false) hk ?_;refine nm rfl ?_;refine hD.e0 ?_;refine hD.cond (n:=0) false rfl rfl ?_;refine hD.s0 ?_;refine hD.r0 ?_;refine hD.pu (.bool true) hk (fun w=>w_eql3 (i:=1) (j:=1) rfl rfl rfl) ?_;refine nm rfl ?_;refine hD.as (.bool true) hk ?_;refine nm rfl ?_;refine hD.e0 ?_;refine hD.cond (n:=0) true rfl rfl ?_;refine hD.s0 ?_;refine hD.r0 ?_;refine hD.mv (ptr yb) hk ?_;refine nm rfl ?_;refine hD.nc ⟨yb,0,none⟩ hk ?_;refine nm rfl ?_;refine hD.field (n:=0) (v:=(ptrAt yb 1)) (u:=(ptr yb)) hk rfl ⟨rfl,rfl,rfl,rfl,nofun⟩ rfl fa54_1 ?_;refine nm rfl ?_;refine hD.ld (ptr fb) hk (fun τ d=>l_39 (hyb.cell 1)) ?_;refine nm rfl ?_;refine hD.mv (ptr (C.bt i)) hk ?_;refine nm rfl ?_;refine hD.cf #[ptr fb,ptr (C.bt i)] hk Try.func15 ?_;refine fair_lock (rest:=c::rest) T (fun f hf=>by rcases List.mem_cons.1 hf with rfl | hf;exact⟨rfl,rfl,_,Try.func40⟩;exact hc f hf) hmb hm fun bb K F cs st X w n a T h1 h2=>?_;obtain⟨a2,l2,ego,by1,as1,ha1,hX,hb1,hXb,hbb,hm2,hres2⟩:=hres bb K F cs st X w n a T h1 h2;refine⟨a2,l2,ego,by1,as1,ha1,hX,hb1,hXb,hbb,hm2,fun K F cs st X w n a T h1 h2=>?_⟩;obtain⟨by2,as2,ha2,hX,hb2,hXb,hbb,hnext⟩:=hres2 K F cs st X w n a T h1 h2;refine⟨by2,as2,ha2,hX,hb2,hXb,hbb,fun w1 k1 b1 T=>?_⟩;have hK:=T.cl;have hD:=hK.det;refine fin0 (some 23) ?_;refine nm rfl ?_;refine hD.as (.int .i64 0) hk ?_;refine nm rfl ?_;refine hD.e0 ?_;refine hD.ret (n:=0) ?_;exact hD.leave (n:=0) (b:=base 40) (v:=.int .i64 0) rfl rfl Try.func40 (fun τ d=>res1v rfl rfl) (hc c (by simp)).1 (hnext _ k1 b1 T)
theorem takes2 {yb mb fb wb:Nat}{i0 i1 i2 i3 dn:Int}{bd:Bool}(hyb:Blk w yb [ptr mb,ptr fb,ptr wb,.int .i64 i0,.int .i64 i1,.int .i64 i2,.int .i64 i3,.bool bd,.int .i64 dn] 54)  {by0 rd0 wt0:Int}(T:Th p C (k+1) i K F cs st X w n (a,some l))(hc:∀ f∈c::rest,OkFr f)(hwb:Cel w wb [.bool true,.int .i64 by0,.int .i64 rd0,.int .i64 wt0] 93)
  (hm:∀ bb w',w.heap.size≤bb→Kp [] w w'→Blk w' bb [ptr wb] 50→p.mem a (updT st i (.susp (l,bb::gh) (.func (.func 71) #[] #[ptr bb]))) (fun b=>X b∨b=bb) w')
  (hres:∀ bb K F cs st X w n a,Th p C k i K F cs st X w n (p.go i (.susp l) a n)→(∃ rv,st i=.susp (l,bb::gh) rv)→p.mem a st X w→∃ by1 rd1 wt1:Int,X wb∧Blk w wb [.bool true,.int .i64 by1,.int .i64 rd1,.int .i64 wt1] 93∧X bb∧Blk w bb [ptr wb] 50 ∧
   ∀ w',Kp [wb] w w'→Blk w' wb [.bool true,.int .i64 by1,.int .i64 (wrap64 (rd1+1)),.int .i64 wt1] 93→Th p C k i K F cs st X w' n (p.go i (.susp l) a n)→K (gs (c.finish (.int .i64 0)) (rest++F::cs)) w'):K (gs (Frame.enter Try.prog 40 #[ptr yb,ptr (C.bt i),.int .i64 2] .normal) (c::(rest++F::cs))) w:=by
 have hk:(base 40).kind≠.early:=nofun;have hK:=T.cl;have hD:=hK.det;rw[show(#[ptr yb,ptr (C.bt i),.int .i64 2]:Array Value)=[ptr yb,ptr (C.bt i),.int .i64 2].toArray from rfl,enter_fg (n:=38) (c:=q40) Try.func40 rfl rfl rfl];refine hD.s0 ?_;refine hD.r0 ?_;refine hD.as (.int .i64 0) hk ?_;refine nm rfl ?_;refine hD.e0 ?_;refine hD.s0 ?_;refine hD.s0 ?_;refine hD.r0 ?_;refine hD.mv (.int .i64 2) hk ?_;refine nm rfl ?_;refine hD.e0 ?_;refine hD.block (n:=0) ?_;refine hD.s0 ?_;refine hD.r0 ?_;refine hD.pu (.bool false) hk (fun w=>w_eql3 (i:=2) (j:=0) rfl rfl rfl) ?_;refine nm rfl ?_;refine hD.as (.bool false) hk ?_;refine nm rfl ?_;refine hD.e0 ?_;refine hD.cond (n:=0) false rfl rfl ?_;refine hD.s0 ?_;refine hD.r0 ?_;refine hD.pu (.bool false) hk (fun w=>w_eql3 (i:=2) (j:=1) rfl rfl rfl) ?_;refine nm rfl ?_;refine hD.as (.bool false) hk ?_;refine nm rfl ?_;refine hD.e0 ?_;refine hD.cond (n:=0) false rfl rfl ?_;refine hD.s0 ?_;refine hD.r0 ?_;refine hD.pu (.bool true) hk (fun w=>w_eql3 (i:=2) (j:=2) rfl rfl rfl) ?_;refine nm rfl ?_;refine hD.as (.bool true) hk ?_;refine nm rfl ?_;refine hD.e0 ?_;refine hD.cond (n:=0) true rfl rfl ?_;refine hD.s0 ?_;refine hD.r0 ?_;refine hD.mv (ptr yb) hk ?_;refine nm rfl ?_;refine hD.nc ⟨yb,0,none⟩ hk ?_;refine nm rfl ?_;refine hD.field (n:=0) (v:=(ptrAt yb 2)) (u:=(ptr yb)) hk rfl ⟨rfl,rfl,rfl,rfl,nofun⟩ rfl fa54_2 ?_;refine nm rfl ?_;refine hD.ld (ptr wb) hk (fun τ d=>l_50 (hyb.cell 2)) ?_;refine nm rfl ?_;refine hD.mv (ptr (C.bt i)) hk ?_;refine nm rfl ?_;refine hD.cf #[ptr wb,ptr (C.bt i)] hk Try.func46 ?_;refine rw_rlock (rest:=c::rest) T (fun f hf=>by rcases List.mem_cons.1 hf with rfl | hf;exact⟨rfl,rfl,_,Try.func40⟩;exact hc f hf) hwb hm fun bb K F cs st X w n a T h1 h2=>?_;obtain⟨by1,rd1,wt1,hX,hb1,hXb,hbb,hnext⟩:=hres bb K F cs st X w n a T h1 h2;refine⟨by1,rd1,wt1,hX,hb1,hXb,hbb,fun w1 k1 b1 T=>?_⟩;have hK:=T.cl;have hD:=hK.det;refine fin0 (some 31) ?_;refine nm rfl ?_;refine hD.as (.int .i64 0) hk ?_;refine nm rfl ?_;refine hD.e0 ?_;refine hD.ret (n:=0) ?_;exact hD.leave (n:=0) (b:=base 40) (v:=.int .i64 0) rfl rfl Try.func40 (fun τ d=>res1v rfl rfl) (hc c (by simp)).1 (hnext _ k1 b1 T)
theorem takes3 {yb mb fb wb:Nat}{i0 i1 i2 i3 dn:Int}{bd:Bool}(hyb:Blk w yb [ptr mb,ptr fb,ptr wb,.int .i64 i0,.int .i64 i1,.int .i64 i2,.int .i64 i3,.bool bd,.int .i64 dn] 54)  {by0 rd0 wt0:Int}(T:Th p C (k+2) i K F cs st X w n (a,some l))(hc:∀ f∈c::rest,OkFr f)(hwb:Cel w wb [.bool true,.int .i64 by0,.int .i64 rd0,.int .i64 wt0] 93)
  (hm:∀ bb w',w.heap.size≤bb→Kp [] w w'→Blk w' bb [ptr wb] 50→p.mem a (updT st i (.susp (l,bb::gh) .nilFunc)) (fun b=>X b∨b=bb) w')
  (hres:∀ bb K F cs st X w n a,Th p C (k+1) i K F cs st X w n (p.go i (.susp l) a n)→(∃ rv,st i=.susp (l,bb::gh) rv)→p.mem a st X w→∃ a2 l2,p.go i (.susp l) a n=(a2,some l2)∧∃ by1 rd1 wt1:Int,X wb∧Blk w wb [.bool true,.int .i64 by1,.int .i64 rd1,.int .i64 wt1] 93∧X bb∧Blk w bb [ptr wb] 50 ∧
   (∀ w',Kp [wb] w w'→Blk w' wb [.bool true,.int .i64 by1,.int .i64 rd1,.int .i64 (wrap64 (wt1+1))] 93→Blk w' bb [ptr wb] 50→p.mem a2 (updT st i (.susp (l2,bb::gh) (.func (.func 72) #[] #[ptr bb]))) X w') ∧
   (∀ K F cs st X w n a,Th p C k i K F cs st X w n (p.go i (.susp l2) a n)→(∃ rv,st i=.susp (l2,bb::gh) rv)→p.mem a st X w→∃ by2 rd2 wt2:Int,X wb∧Blk w wb [.bool true,.int .i64 by2,.int .i64 rd2,.int .i64 wt2] 93∧X bb∧Blk w bb [ptr wb] 50 ∧
   ∀ w',Kp [wb] w w'→Blk w' wb [.bool true,.int .i64 i,.int .i64 rd2,.int .i64 (wrap64 (wt2-1))] 93→Th p C k i K F cs st X w' n (p.go i (.susp l2) a n)→K (gs (c.finish (.int .i64 0)) (rest++F::cs)) w')):K (gs (Frame.enter Try.prog 40 #[ptr yb,ptr (C.bt i),.int .i64 3] .normal) (c::(rest++F::cs))) w:=by
 have hk:(base 40).kind≠.early:=nofun;have hK:=T.cl;have hD:=hK.det;rw[show(#[ptr yb,ptr (C.bt i),.int .i64 3]:Array Value)=[ptr yb,ptr (C.bt i),.int .i64 3].toArray from rfl,enter_fg (n:=38) (c:=q40) Try.func40 rfl rfl rfl];refine hD.s0 ?_;refine hD.r0 ?_;refine hD.as (.int .i64 0) hk ?_;refine nm rfl ?_;refine hD.e0 ?_;refine hD.s0 ?_;refine hD.s0 ?_;refine hD.r0 ?_;refine hD.mv (.int .i64 3) hk ?_;refine nm rfl ?_;refine hD.e0 ?_;refine hD.block (n:=0) ?_;refine hD.s0 ?_;refine hD.r0 ?_;refine hD.pu (.bool false) hk (fun w=>w_eql3 (i:=3) (j:=0) rfl rfl rfl) ?_;refine nm rfl ?_;refine hD.as (.bool false) hk ?_;refine nm rfl ?_;refine hD.e0 ?_;refine hD.cond (n:=0) false rfl rfl ?_;refine hD.s0 ?_;refine hD.r0 ?_;refine hD.pu (.bool false) hk (fun w=>w_eql3 (i:=3) (j:=1) rfl rfl rfl) ?_;refine nm rfl ?_;refine hD.as (.bool false) hk ?_;refine nm rfl ?_;refine hD.e0 ?_;refine hD.cond (n:=0) false rfl rfl ?_;refine hD.s0 ?_;refine hD.r0 ?_;refine hD.pu (.bool false) hk (fun w=>w_eql3 (i:=3) (j:=2) rfl rfl rfl) ?_;refine nm rfl ?_;refine hD.as (.bool false) hk ?_;refine nm rfl ?_;refine hD.e0 ?_;refine hD.cond (n:=0) false rfl rfl ?_;refine hD.k0 ?_;refine hD.inBlock (n:=0) ?_;refine hD.s0 ?_;refine hD.r0 ?_;refine hD.mv (ptr yb) hk ?_;refine nm rfl ?_;refine hD.nc ⟨yb,0,none⟩ hk ?_;refine nm rfl ?_;refine hD.field (n:=0) (v:=(ptrAt yb 2)) (u:=(ptr yb)) hk rfl ⟨rfl,rfl,rfl,rfl,nofun⟩ rfl fa54_2 ?_;refine nm rfl ?_;refine hD.ld (ptr wb) hk (fun τ d=>l_50 (hyb.cell 2)) ?_;refine nm rfl ?_;refine hD.mv (ptr (C.bt i)) hk ?_;refine nm rfl ?_;refine hD.cf #[ptr wb,ptr (C.bt i)] hk Try.func48 ?_;refine rw_lock (rest:=c::rest) T (fun f hf=>by rcases List.mem_cons.1 hf with rfl | hf;exact⟨rfl,rfl,_,Try.func40⟩;exact hc f hf) hwb hm fun bb K F cs st X w n a T h1 h2=>?_;obtain⟨a2,l2,ego,by1,as1,ha1,hX,hb1,hXb,hbb,hm2,hres2⟩:=hres bb K F cs st X w n a T h1 h2;refine⟨a2,l2,ego,by1,as1,ha1,hX,hb1,hXb,hbb,hm2,fun K F cs st X w n a T h1 h2=>?_⟩;obtain⟨by2,as2,ha2,hX,hb2,hXb,hbb,hnext⟩:=hres2 K F cs st X w n a T h1 h2;refine⟨by2,as2,ha2,hX,hb2,hXb,hbb,fun w1 k1 b1 T=>?_⟩;have hK:=T.cl;have hD:=hK.det;refine fin0 (some 37) ?_;refine nm rfl ?_;refine hD.as (.int .i64 0) hk ?_;refine nm rfl ?_;refine hD.e0 ?_;refine hD.ret (n:=0) ?_;exact hD.leave (n:=0) (b:=base 40) (v:=.int .i64 0) rfl rfl Try.func40 (fun τ d=>res1v rfl rfl) (hc c (by simp)).1 (hnext _ k1 b1 T)
theorem leaves0 {yb mb fb wb:Nat}{i0 i1 i2 i3 dn:Int}{bd:Bool}(hyb:Blk w yb [ptr mb,ptr fb,ptr wb,.int .i64 i0,.int .i64 i1,.int .i64 i2,.int .i64 i3,.bool bd,.int .i64 dn] 54)  {by0:Int}  (T:Th p C (k+1) i K F cs st X w n (a,some l))(hc:∀ f∈c::rest,OkFr f)(hmb:Cel w mb [.bool true,.int .i64 by0] 91)(hm:p.mem a (updT st i (.susp (l,g) .nilFunc)) X w)(hres:∀ K F cs st X w n a,Th p C k i K F cs st X w n (p.go i (.susp l) a n)→(∃ rv,st i=.susp (l,g) rv)→p.mem a st X w→∃ by1 ,Blk w mb [.bool true,.int .i64 by1] 91∧X mb∧(by1≠(i:Int)→∀ w',Kp [] w w'→Blk w' mb [.bool true,.int .i64 by1] 91→Th p C k i K F cs st X w' n (p.go i (.susp l) a n)→K (gs (c.finish (.int .i64 90)) (rest++F::cs)) w')∧(by1=(i:Int)→∀ w',Kp [mb] w w'→Blk w' mb [.bool true,.int .i64 (-1)] 91→Th p C k i K F cs st X w' n (p.go i (.susp l) a n)→K (gs (c.finish (.int .i64 0)) (rest++F::cs)) w')):K (gs (Frame.enter Try.prog 42 #[ptr yb,ptr (C.bt i),.int .i64 0] .normal) (c::(rest++F::cs))) w:=by
 have hk:(base 42).kind≠.early:=nofun;have hK:=T.cl;have hD:=hK.det;rw[show(#[ptr yb,ptr (C.bt i),.int .i64 0]:Array Value)=[ptr yb,ptr (C.bt i),.int .i64 0].toArray from rfl,enter_fg (n:=38) (c:=q42) Try.func42 rfl rfl rfl];refine hD.s0 ?_;refine hD.r0 ?_;refine hD.as (.int .i64 0) hk ?_;refine nm rfl ?_;refine hD.e0 ?_;refine hD.s0 ?_;refine hD.s0 ?_;refine hD.r0 ?_;refine hD.mv (.int .i64 0) hk ?_;refine nm rfl ?_;refine hD.e0 ?_;refine hD.block (n:=0) ?_;refine hD.s0 ?_;refine hD.r0 ?_;refine hD.pu (.bool true) hk (fun w=>w_eql3 (i:=0) (j:=0) rfl rfl rfl) ?_;refine nm rfl ?_;refine hD.as (.bool true) hk ?_;refine nm rfl ?_;refine hD.e0 ?_;refine hD.cond (n:=0) true rfl rfl ?_;refine hD.s0 ?_;refine hD.r0 ?_;refine hD.mv (ptr yb) hk ?_;refine nm rfl ?_;refine hD.nc ⟨yb,0,none⟩ hk ?_;refine nm rfl ?_;refine hD.field (n:=0) (v:=(ptr yb)) (u:=(ptr yb)) hk rfl ⟨rfl,rfl,rfl,rfl,nofun⟩ rfl fa54_0 ?_;refine nm rfl ?_;refine hD.ld (ptr mb) hk (fun τ d=>l_48 (hyb.cell 0)) ?_;refine nm rfl ?_;refine hD.mv (ptr (C.bt i)) hk ?_;refine nm rfl ?_;refine hD.cf #[ptr mb,ptr (C.bt i)] hk Try.func30 ?_;refine mutex_unlock (rest:=c::rest) T (fun f hf=>by rcases List.mem_cons.1 hf with rfl | hf;exact⟨rfl,rfl,_,Try.func42⟩;exact hc f hf) hmb hm fun K F cs st X w n a T h1 h2=>?_;obtain⟨by1,hb1,hX,hne,heq⟩:=hres K F cs st X w n a T h1 h2;refine⟨by1,hb1,hX,fun e w1 k1 b1 T=>?_,fun e w1 k1 b1 T=>?_⟩
 ·have hK:=T.cl
  have hD:=hK.det;refine fin0 (some 15) ?_;refine nm rfl ?_;refine hD.as (.int .i64 90) hk ?_;refine nm rfl ?_;refine hD.e0 ?_;refine hD.ret (n:=0) ?_;exact hD.leave (n:=0) (b:=base 42) (v:=.int .i64 90) rfl rfl Try.func42 (fun τ d=>res1v rfl rfl) (hc c (by simp)).1 (hne e _ k1 b1 T)
 ·have hK:=T.cl
  have hD:=hK.det;refine fin0 (some 15) ?_;refine nm rfl ?_;refine hD.as (.int .i64 0) hk ?_;refine nm rfl ?_;refine hD.e0 ?_;refine hD.ret (n:=0) ?_;exact hD.leave (n:=0) (b:=base 42) (v:=.int .i64 0) rfl rfl Try.func42 (fun τ d=>res1v rfl rfl) (hc c (by simp)).1 (heq e _ k1 b1 T)
theorem leaves1 {yb mb fb wb:Nat}{i0 i1 i2 i3 dn:Int}{bd:Bool}(hyb:Blk w yb [ptr mb,ptr fb,ptr wb,.int .i64 i0,.int .i64 i1,.int .i64 i2,.int .i64 i3,.bool bd,.int .i64 dn] 54)  {by0:Int}{as0:Int}{ha0:Int}(T:Th p C (k+1) i K F cs st X w n (a,some l))(hc:∀ f∈c::rest,OkFr f)(hmb:Cel w fb [.bool true,.int .i64 by0,.int .i64 as0,.int .i64 ha0] 88)(hm:p.mem a (updT st i (.susp (l,g) .nilFunc)) X w)(hres:∀ K F cs st X w n a,Th p C k i K F cs st X w n (p.go i (.susp l) a n)→(∃ rv,st i=.susp (l,g) rv)→p.mem a st X w→∃ by1 as1 ha1,Blk w fb [.bool true,.int .i64 by1,.int .i64 as1,.int .i64 ha1] 88∧X fb∧(by1≠(i:Int)→∀ w',Kp [] w w'→Blk w' fb [.bool true,.int .i64 by1,.int .i64 as1,.int .i64 ha1] 88→Th p C k i K F cs st X w' n (p.go i (.susp l) a n)→K (gs (c.finish (.int .i64 90)) (rest++F::cs)) w')∧(by1=(i:Int)→∀ w',Kp [fb] w w'→Blk w' fb [.bool true,.int .i64 (-1),.int .i64 as1,.int .i64 ha1] 88→Th p C k i K F cs st X w' n (p.go i (.susp l) a n)→K (gs (c.finish (.int .i64 0)) (rest++F::cs)) w')):K (gs (Frame.enter Try.prog 42 #[ptr yb,ptr (C.bt i),.int .i64 1] .normal) (c::(rest++F::cs))) w:=by
 have hk:(base 42).kind≠.early:=nofun;have hK:=T.cl;have hD:=hK.det;rw[show(#[ptr yb,ptr (C.bt i),.int .i64 1]:Array Value)=[ptr yb,ptr (C.bt i),.int .i64 1].toArray from rfl,enter_fg (n:=38) (c:=q42) Try.func42 rfl rfl rfl];refine hD.s0 ?_;refine hD.r0 ?_;refine hD.as (.int .i64 0) hk ?_;refine nm rfl ?_;refine hD.e0 ?_;refine hD.s0 ?_;refine hD.s0 ?_;refine hD.r0 ?_;refine hD.mv (.int .i64 1) hk ?_;refine nm rfl ?_;refine hD.e0 ?_;refine hD.block (n:=0) ?_;refine hD.s0 ?_;refine hD.r0 ?_;refine hD.pu (.bool false) hk (fun w=>w_eql3 (i:=1) (j:=0) rfl rfl rfl) ?_;refine nm rfl ?_;refine hD.as (.bool false) hk ?_;refine nm rfl ?_;refine hD.e0 ?_;refine hD.cond (n:=0) false rfl rfl ?_;refine hD.s0 ?_;refine hD.r0 ?_;refine hD.pu (.bool true) hk (fun w=>w_eql3 (i:=1) (j:=1) rfl rfl rfl) ?_;refine nm rfl ?_;refine hD.as (.bool true) hk ?_;refine nm rfl ?_;refine hD.e0 ?_;refine hD.cond (n:=0) true rfl rfl ?_;refine hD.s0 ?_;refine hD.r0 ?_;refine hD.mv (ptr yb) hk ?_;refine nm rfl ?_;refine hD.nc ⟨yb,0,none⟩ hk ?_;refine nm rfl ?_;refine hD.field (n:=0) (v:=(ptrAt yb 1)) (u:=(ptr yb)) hk rfl ⟨rfl,rfl,rfl,rfl,nofun⟩ rfl fa54_1 ?_;refine nm rfl ?_;refine hD.ld (ptr fb) hk (fun τ d=>l_39 (hyb.cell 1)) ?_;refine nm rfl ?_;refine hD.mv (ptr (C.bt i)) hk ?_;refine nm rfl ?_;refine hD.cf #[ptr fb,ptr (C.bt i)] hk Try.func16 ?_;refine fair_unlock (rest:=c::rest) T (fun f hf=>by rcases List.mem_cons.1 hf with rfl | hf;exact⟨rfl,rfl,_,Try.func42⟩;exact hc f hf) hmb hm fun K F cs st X w n a T h1 h2=>?_;obtain⟨by1,as1,ha1,hb1,hX,hne,heq⟩:=hres K F cs st X w n a T h1 h2;refine⟨by1,as1,ha1,hb1,hX,fun e w1 k1 b1 T=>?_,fun e w1 k1 b1 T=>?_⟩
 ·have hK:=T.cl
  have hD:=hK.det;refine fin0 (some 23) ?_;refine nm rfl ?_;refine hD.as (.int .i64 90) hk ?_;refine nm rfl ?_;refine hD.e0 ?_;refine hD.ret (n:=0) ?_;exact hD.leave (n:=0) (b:=base 42) (v:=.int .i64 90) rfl rfl Try.func42 (fun τ d=>res1v rfl rfl) (hc c (by simp)).1 (hne e _ k1 b1 T)
 ·have hK:=T.cl
  have hD:=hK.det;refine fin0 (some 23) ?_;refine nm rfl ?_;refine hD.as (.int .i64 0) hk ?_;refine nm rfl ?_;refine hD.e0 ?_;refine hD.ret (n:=0) ?_;exact hD.leave (n:=0) (b:=base 42) (v:=.int .i64 0) rfl rfl Try.func42 (fun τ d=>res1v rfl rfl) (hc c (by simp)).1 (heq e _ k1 b1 T)
theorem leaves2 {yb mb fb wb:Nat}{i0 i1 i2 i3 dn:Int}{bd:Bool}(hyb:Blk w yb [ptr mb,ptr fb,ptr wb,.int .i64 i0,.int .i64 i1,.int .i64 i2,.int .i64 i3,.bool bd,.int .i64 dn] 54)  {by0 rd0 wt0:Int}(T:Th p C (k+1) i K F cs st X w n (a,some l))(hc:∀ f∈c::rest,OkFr f)(hwb:Cel w wb [.bool true,.int .i64 by0,.int .i64 rd0,.int .i64 wt0] 93)(hm:p.mem a (updT st i (.susp (l,g) .nilFunc)) X w)
  (hres:∀ K F cs st X w n a,Th p C k i K F cs st X w n (p.go i (.susp l) a n)→(∃ rv,st i=.susp (l,g) rv)→p.mem a st X w→∃ by1 rd1 wt1:Int,X wb∧Blk w wb [.bool true,.int .i64 by1,.int .i64 rd1,.int .i64 wt1] 93 ∧
   (rd1=0→Th p C k i K F cs st X w n (p.go i (.susp l) a n)→K (gs (c.finish (.int .i64 90)) (rest++F::cs)) w) ∧
   (rd1≠0→∀ w',Kp [wb] w w'→Blk w' wb [.bool true,.int .i64 by1,.int .i64 (wrap64 (rd1-1)),.int .i64 wt1] 93→Th p C k i K F cs st X w' n (p.go i (.susp l) a n)→K (gs (c.finish (.int .i64 0)) (rest++F::cs)) w')):K (gs (Frame.enter Try.prog 42 #[ptr yb,ptr (C.bt i),.int .i64 2] .normal) (c::(rest++F::cs))) w:=by
 have hk:(base 42).kind≠.early:=nofun;have hK:=T.cl;have hD:=hK.det;rw[show(#[ptr yb,ptr (C.bt i),.int .i64 2]:Array Value)=[ptr yb,ptr (C.bt i),.int .i64 2].toArray from rfl,enter_fg (n:=38) (c:=q42) Try.func42 rfl rfl rfl];refine hD.s0 ?_;refine hD.r0 ?_;refine hD.as (.int .i64 0) hk ?_;refine nm rfl ?_;refine hD.e0 ?_;refine hD.s0 ?_;refine hD.s0 ?_;refine hD.r0 ?_;refine hD.mv (.int .i64 2) hk ?_;refine nm rfl ?_;refine hD.e0 ?_;refine hD.block (n:=0) ?_;refine hD.s0 ?_;refine hD.r0 ?_;refine hD.pu (.bool false) hk (fun w=>w_eql3 (i:=2) (j:=0) rfl rfl rfl) ?_;refine nm rfl ?_;refine hD.as (.bool false) hk ?_;refine nm rfl ?_;refine hD.e0 ?_;refine hD.cond (n:=0) false rfl rfl ?_;refine hD.s0 ?_;refine hD.r0 ?_;refine hD.pu (.bool false) hk (fun w=>w_eql3 (i:=2) (j:=1) rfl rfl rfl) ?_;refine nm rfl ?_;refine hD.as (.bool false) hk ?_;refine nm rfl ?_;refine hD.e0 ?_;refine hD.cond (n:=0) false rfl rfl ?_;refine hD.s0 ?_;refine hD.r0 ?_;refine hD.pu (.bool true) hk (fun w=>w_eql3 (i:=2) (j:=2) rfl rfl rfl) ?_;refine nm rfl ?_;refine hD.as (.bool true) hk ?_;refine nm rfl ?_;refine hD.e0 ?_;refine hD.cond (n:=0) true rfl rfl ?_;refine hD.s0 ?_;refine hD.r0 ?_;refine hD.mv (ptr yb) hk ?_;refine nm rfl ?_;refine hD.nc ⟨yb,0,none⟩ hk ?_;refine nm rfl ?_;refine hD.field (n:=0) (v:=(ptrAt yb 2)) (u:=(ptr yb)) hk rfl ⟨rfl,rfl,rfl,rfl,nofun⟩ rfl fa54_2 ?_;refine nm rfl ?_;refine hD.ld (ptr wb) hk (fun τ d=>l_50 (hyb.cell 2)) ?_;refine nm rfl ?_;refine hD.mv (ptr (C.bt i)) hk ?_;refine nm rfl ?_;refine hD.cf #[ptr wb,ptr (C.bt i)] hk Try.func47 ?_;refine rw_runlock (rest:=c::rest) T (fun f hf=>by rcases List.mem_cons.1 hf with rfl | hf;exact⟨rfl,rfl,_,Try.func42⟩;exact hc f hf) hwb hm fun K F cs st X w n a T h1 h2=>?_;obtain⟨by1,rd1,wt1,hX,hb1,hz,hnext⟩:=hres K F cs st X w n a T h1 h2;refine⟨by1,rd1,wt1,hX,hb1,fun e T=>?_,fun e w1 k1 b1 T=>?_⟩
 ·have hK:=T.cl
  have hD:=hK.det;refine fin0 (some 31) ?_;refine nm rfl ?_;refine hD.as (.int .i64 90) hk ?_;refine nm rfl ?_;refine hD.e0 ?_;refine hD.ret (n:=0) ?_;exact hD.leave (n:=0) (b:=base 42) (v:=.int .i64 90) rfl rfl Try.func42 (fun τ d=>res1v rfl rfl) (hc c (by simp)).1 (hz e T)
 ·have hK:=T.cl
  have hD:=hK.det;refine fin0 (some 31) ?_;refine nm rfl ?_;refine hD.as (.int .i64 0) hk ?_;refine nm rfl ?_;refine hD.e0 ?_;refine hD.ret (n:=0) ?_;exact hD.leave (n:=0) (b:=base 42) (v:=.int .i64 0) rfl rfl Try.func42 (fun τ d=>res1v rfl rfl) (hc c (by simp)).1 (hnext e _ k1 b1 T)
theorem leaves3 {yb mb fb wb:Nat}{i0 i1 i2 i3 dn:Int}{bd:Bool}(hyb:Blk w yb [ptr mb,ptr fb,ptr wb,.int .i64 i0,.int .i64 i1,.int .i64 i2,.int .i64 i3,.bool bd,.int .i64 dn] 54)  {by0:Int}{rd0:Int}{wt0:Int}(T:Th p C (k+1) i K F cs st X w n (a,some l))(hc:∀ f∈c::rest,OkFr f)(hmb:Cel w wb [.bool true,.int .i64 by0,.int .i64 rd0,.int .i64 wt0] 93)(hm:p.mem a (updT st i (.susp (l,g) .nilFunc)) X w)(hres:∀ K F cs st X w n a,Th p C k i K F cs st X w n (p.go i (.susp l) a n)→(∃ rv,st i=.susp (l,g) rv)→p.mem a st X w→∃ by1 rd1 wt1,Blk w wb [.bool true,.int .i64 by1,.int .i64 rd1,.int .i64 wt1] 93∧X wb∧(by1≠(i:Int)→∀ w',Kp [] w w'→Blk w' wb [.bool true,.int .i64 by1,.int .i64 rd1,.int .i64 wt1] 93→Th p C k i K F cs st X w' n (p.go i (.susp l) a n)→K (gs (c.finish (.int .i64 90)) (rest++F::cs)) w')∧(by1=(i:Int)→∀ w',Kp [wb] w w'→Blk w' wb [.bool true,.int .i64 (-1),.int .i64 rd1,.int .i64 wt1] 93→Th p C k i K F cs st X w' n (p.go i (.susp l) a n)→K (gs (c.finish (.int .i64 0)) (rest++F::cs)) w')):K (gs (Frame.enter Try.prog 42 #[ptr yb,ptr (C.bt i),.int .i64 3] .normal) (c::(rest++F::cs))) w:=by
 have hk:(base 42).kind≠.early:=nofun;have hK:=T.cl;have hD:=hK.det;rw[show(#[ptr yb,ptr (C.bt i),.int .i64 3]:Array Value)=[ptr yb,ptr (C.bt i),.int .i64 3].toArray from rfl,enter_fg (n:=38) (c:=q42) Try.func42 rfl rfl rfl];refine hD.s0 ?_;refine hD.r0 ?_;refine hD.as (.int .i64 0) hk ?_;refine nm rfl ?_;refine hD.e0 ?_;refine hD.s0 ?_;refine hD.s0 ?_;refine hD.r0 ?_;refine hD.mv (.int .i64 3) hk ?_;refine nm rfl ?_;refine hD.e0 ?_;refine hD.block (n:=0) ?_;refine hD.s0 ?_;refine hD.r0 ?_;refine hD.pu (.bool false) hk (fun w=>w_eql3 (i:=3) (j:=0) rfl rfl rfl) ?_;refine nm rfl ?_;refine hD.as (.bool false) hk ?_;refine nm rfl ?_;refine hD.e0 ?_;refine hD.cond (n:=0) false rfl rfl ?_;refine hD.s0 ?_;refine hD.r0 ?_;refine hD.pu (.bool false) hk (fun w=>w_eql3 (i:=3) (j:=1) rfl rfl rfl) ?_;refine nm rfl ?_;refine hD.as (.bool false) hk ?_;refine nm rfl ?_;refine hD.e0 ?_;refine hD.cond (n:=0) false rfl rfl ?_;refine hD.s0 ?_;refine hD.r0 ?_;refine hD.pu (.bool false) hk (fun w=>w_eql3 (i:=3) (j:=2) rfl rfl rfl) ?_;refine nm rfl ?_;refine hD.as (.bool false) hk ?_;refine nm rfl ?_;refine hD.e0 ?_;refine hD.cond (n:=0) false rfl rfl ?_;refine hD.k0 ?_;refine hD.inBlock (n:=0) ?_;refine hD.s0 ?_;refine hD.r0 ?_;refine hD.mv (ptr yb) hk ?_;refine nm rfl ?_;refine hD.nc ⟨yb,0,none⟩ hk ?_;refine nm rfl ?_;refine hD.field (n:=0) (v:=(ptrAt yb 2)) (u:=(ptr yb)) hk rfl ⟨rfl,rfl,rfl,rfl,nofun⟩ rfl fa54_2 ?_;refine nm rfl ?_;refine hD.ld (ptr wb) hk (fun τ d=>l_50 (hyb.cell 2)) ?_;refine nm rfl ?_;refine hD.mv (ptr (C.bt i)) hk ?_;refine nm rfl ?_;refine hD.cf #[ptr wb,ptr (C.bt i)] hk Try.func49 ?_;refine rw_unlock (rest:=c::rest) T (fun f hf=>by rcases List.mem_cons.1 hf with rfl | hf;exact⟨rfl,rfl,_,Try.func42⟩;exact hc f hf) hmb hm fun K F cs st X w n a T h1 h2=>?_;obtain⟨by1,rd1,wt1,hb1,hX,hne,heq⟩:=hres K F cs st X w n a T h1 h2;refine⟨by1,rd1,wt1,hb1,hX,fun e w1 k1 b1 T=>?_,fun e w1 k1 b1 T=>?_⟩
 ·have hK:=T.cl
  have hD:=hK.det;refine fin0 (some 37) ?_;refine nm rfl ?_;refine hD.as (.int .i64 90) hk ?_;refine nm rfl ?_;refine hD.e0 ?_;refine hD.ret (n:=0) ?_;exact hD.leave (n:=0) (b:=base 42) (v:=.int .i64 90) rfl rfl Try.func42 (fun τ d=>res1v rfl rfl) (hc c (by simp)).1 (hne e _ k1 b1 T)
 ·have hK:=T.cl
  have hD:=hK.det;refine fin0 (some 37) ?_;refine nm rfl ?_;refine hD.as (.int .i64 0) hk ?_;refine nm rfl ?_;refine hD.e0 ?_;refine hD.ret (n:=0) ?_;exact hD.leave (n:=0) (b:=base 42) (v:=.int .i64 0) rfl rfl Try.func42 (fun τ d=>res1v rfl rfl) (hc c (by simp)).1 (heq e _ k1 b1 T)
end
theorem looks_calls (w:World)(yb mb fb wb:Nat)(i0 i1 i2 i3 dn:Int)(bd:Bool)(hy:Blk w yb [ptr mb,ptr fb,ptr wb,.int .i64 i0,.int .i64 i1,.int .i64 i2,.int .i64 i3,.bool bd,.int .i64 dn] 54):Calls Try.prog 41 #[ptr yb] w fun e w'=>e=.returned (.tuple #[])∧Keeps [yb] w w'∧Blk w' yb [ptr mb,ptr fb,ptr wb,.int .i64 i0,.int .i64 i1,.int .i64 i2,.int .i64 i3,.bool (bd||decide (1<i0)||decide (1<i1)||decide (1<i3)||(decide (i3=1)&&decide (0<i2))),.int .i64 dn] 54:=by
 have c3:=hy.cell 3;have c4:=hy.cell 4;have c5:=hy.cell 5;have c6:=hy.cell 6;have c7:=hy.cell 7;have f7:=hy.frozen 7;have HB:=Lib.hid (fun v=>hy.set 7 v);clear hy;obtain⟨r,hr⟩:∃ r,r=(bd||decide (1<i0)||decide (1<i1)||decide (1<i3)||(decide (i3=1)&&decide (0<i2))):=⟨_,rfl⟩;rw[← hr];have HR:=Lib.hid hr;clear hr;have fin:∀ v,v=r→(Keeps [yb] w (w.setCell ⟨yb,7,none⟩ (.bool v))∧Blk (w.setCell ⟨yb,7,none⟩ (.bool v)) yb [ptr mb,ptr fb,ptr wb,.int .i64 i0,.int .i64 i1,.int .i64 i2,.int .i64 i3,.bool r,.int .i64 dn] 54):=fun v e=>by
  subst e;exact⟨(Keeps.refl [yb] w).setCell _ _ (fun _=>by simp),HB.out _⟩
 have HF:=Lib.hid fin;clear fin
 go_enter Try.func41,Try.ntmps41
 cases bd with
 | true =>
  go_wp2
  go_end0
  exact⟨rfl,HF.out true (by rw[HR.out];simp)⟩
 | false =>
  by_cases q0:1<i0
  ·go_wp2
   go_end0
   exact⟨rfl,HF.out true (by rw[HR.out];simp[q0])⟩
  by_cases q1:1<i1
  ·go_wp2
   go_end0
   exact⟨rfl,HF.out true (by rw[HR.out];simp[q1])⟩
  by_cases q3:1<i3
  ·go_wp2
   go_end0
   exact⟨rfl,HF.out true (by rw[HR.out];simp[q3])⟩
  by_cases q4:i3=1
  ·subst q4
   by_cases q2:0<i2
   ·go_wp2
    go_end0
    exact⟨rfl,HF.out true (by rw[HR.out];simp[q2])⟩
   ·go_wp2
    go_end0
    exact⟨rfl,HF.out false (by rw[HR.out];simp[q0,q1,q2])⟩
  ·go_wp2
   go_end0
   exact⟨rfl,HF.out false (by rw[HR.out];simp[q0,q1,q3,q4])⟩
def fourN (v:Int):Nat:=(BitVec.ofInt 64 v&&&BitVec.ofInt 64 3).toNat
theorem fourN_lt (v:Int):fourN v<4:=by
 have h:fourN v≤3:=by
  unfold fourN;rw[show BitVec.ofInt 64 3=BitVec.ofNat 64 3 from rfl,BitVec.toNat_and,BitVec.toNat_ofNat,Nat.mod_eq_of_lt (by omega)];exact Nat.and_le_right
 omega
theorem four_bits (v:Int):bits BinOp.and IntKind.i64 v 3=(fourN v:Int):=by
 have hlt:=fourN_lt v;have hw:IntKind.i64.wrap (fourN v:Int)=(fourN v:Int):=by rw[IntKind.wrap_i64];omega
 rw[← hw];rfl
theorem RsK.up {L A:Type}{p:Plan L A}{C:WC}{i:Nat}:∀ (k:Nat) {l:L × List Nat} {fs:List Frame},RsK p C i k l fs→RsK p C i (k+1) l fs
 | 0,_,_,h=>h.elim
 | k+1,_,_,h=>⟨h.1,fun c rest e K F cs st X w n a T h1 h2=>h.2 c rest e K F cs st X w n a ⟨T.cl,T.fm,T.hi,T.n0,T.n4,T.bt,T.rn,fun a' l' rv c rest X' w' e1 e2=>T.hy a' l' rv c rest X' w' e1 (RsK.up k e2),T.hd⟩ h1 h2⟩
theorem ThR.down {L A:Type}{p:Plan L A}{C:WC}{k i n:Nat}{K:Goroutine→World→Prop}{F:Frame}{cs:List Frame}{st:Nat→TS L}{X:Nat→Prop}{w:World}{P:A × Option L}(T:Th p C (k+1) i K F cs st X w n P):Th p C k i K F cs st X w n P :=
 ⟨T.cl,T.fm,T.hi,T.n0,T.n4,T.bt,T.rn,fun a' l' rv c rest X' w' e1 e2=>T.hy a' l' rv c rest X' w' e1 (RsK.up k e2),T.hd⟩
theorem ThR.le {L A:Type}{p:Plan L A}{C:WC}{k i n:Nat}{K:Goroutine→World→Prop}{F:Frame}{cs:List Frame}{st:Nat→TS L}{X:Nat→Prop}{w:World}{P:A × Option L}:∀ (d:Nat),Th p C (k+d) i K F cs st X w n P→Th p C k i K F cs st X w n P
 | 0,T=>T
 | d+1,T=>ThR.le d (ThR.down (k:=k+d) T)
structure ExQ where
 n:Nat
 lx:Nat→Nat
 yx:Nat
 yb:Nat
 mb:Nat
 fb:Nat
 wb:Nat
 lo:Nat
 pb:Nat
 ob:Option Obj
 av:Nat→Value
 acts:Nat→List (Int × Int)
def exK (l:List (Int × Int)):List (Nat × Nat):=l.map fun z=>(fourN z.1,fourN z.2)
def ExQ.ks (Q:ExQ)(i:Nat):List (Nat × Nat):=exK (Q.acts i)
theorem exK_at {l:List (Int × Int)}{s:Nat}{z:Int × Int}(h:l[s]?=some z):(exK l)[s]?=some (fourN z.1,fourN z.2)∧(exK l).getD s (0,0)=(fourN z.1,fourN z.2):=by
 have e:(exK l)[s]?=some (fourN z.1,fourN z.2):=by unfold exK;rw[List.getElem?_map,h];rfl
 exact⟨e,by rw[List.getD_eq_getElem?_getD,e];rfl⟩
theorem exK_4 {l:List (Int × Int)}:∀ p∈exK l,p.1<4∧p.2<4:=fun p hp=>by
 unfold exK at hp;obtain⟨z,_,rfl⟩:=List.mem_map.1 hp;exact⟨fourN_lt _,fourN_lt _⟩
structure ActsAt (lo:Nat)(X:Nat→Prop)(w:World)(v:Value)(l:List (Int × Int)):Prop where
 form:∃ p c,v=.slice p l.length c
 get:∀ j z,l[j]?=some z→∃ b o c,v=.slice (some ⟨b,o,none⟩) l.length c∧b<lo∧X b∧w.cell? ⟨b,o+2*j,none⟩=some (.int .i64 z.1)∧w.cell? ⟨b,o+2*j+1,none⟩=some (.int .i64 z.2)
def exBox (Q:ExQ)(i s:Nat)(X:Nat→Prop)(w:World)(ab:Nat):Prop:=X ab∧∃ z,(Q.acts i)[s]?=some z∧Blk w ab [.int .i64 z.1,.int .i64 z.2] 58
def exSus (Q:ExQ)(i:Nat)(X:Nat→Prop)(w:World)(l:ExL)(g:List Nat)(rv:Value):Prop:=match l with
 | .take0 s=>rv=.func (.func 34) #[ptr Q.mb] #[]∧∃ ab,g=[ab]∧exBox Q i s X w ab
 | .ask1 s=>rv=.nilFunc∧∃ bb ab,g=[bb,ab]∧X bb∧Blk w bb [ptr Q.fb] 39∧exBox Q i s X w ab
 | .wait1 s num=>∃ bb nb ab,g=[bb,ab]∧rv=.func (.func 36) #[] #[ptr bb,ptr nb]∧X bb∧X nb∧Blk w bb [ptr Q.fb] 39∧Blk w nb [.int .i64 num] 3∧exBox Q i s X w ab
 | .take2 s=>∃ bb ab,g=[bb,ab]∧rv=.func (.func 71) #[] #[ptr bb]∧X bb∧Blk w bb [ptr Q.wb] 50∧exBox Q i s X w ab
 | .ask3 s=>rv=.nilFunc∧∃ bb ab,g=[bb,ab]∧X bb∧Blk w bb [ptr Q.wb] 50∧exBox Q i s X w ab
 | .wait3 s=>∃ bb ab,g=[bb,ab]∧rv=.func (.func 72) #[] #[ptr bb]∧X bb∧Blk w bb [ptr Q.wb] 50∧exBox Q i s X w ab
 | .look s _=>rv=.nilFunc∧∃ ab,g=[ab]∧exBox Q i s X w ab
 | .leave _=>rv=.nilFunc
abbrev exCells (Q:ExQ)(a:ExA):List Value:=[ptr Q.mb,ptr Q.fb,ptr Q.wb,.int .i64 a.i0,.int .i64 a.i1,.int .i64 a.i2,.int .i64 a.i3,.bool a.bad,.int .i64 a.fin]
structure ExM (Q:ExQ)(a:ExA)(st:Nat→TS ExL)(X:Nat→Prop)(w:World):Prop where
 lt:∀ b,X b→b<w.heap.size
 xl:∀ i,i<Q.n→X (Q.lx i)
 xy:X Q.yx
 xb:X Q.yb
 xm:X Q.mb
 xf:X Q.fb
 xw:X Q.wb
 xp:X Q.pb
 pl:Q.pb<Q.lo
 pk:w.heap[Q.pb]?=Q.ob
 lo:Q.lo≤Q.yb∧Q.lo≤Q.mb∧Q.lo≤Q.fb∧Q.lo≤Q.wb
 ls:∀ i,i<Q.n→Blk w (Q.lx i) [Q.av i] 55
 ac:∀ i,i<Q.n→ActsAt Q.lo X w (Q.av i) (Q.acts i)
 cy:Blk w Q.yx [ptr Q.yb] 47
 cb:Blk w Q.yb (exCells Q a) 54
 cm:Blk w Q.mb [.bool true,.int .i64 a.mby] 91
 cf:Blk w Q.fb [.bool true,.int .i64 a.fby,.int .i64 a.fas,.int .i64 a.fha] 88
 cw:Blk w Q.wb [.bool true,.int .i64 a.wby,.int .i64 a.wrd,.int .i64 a.wwt] 93
 sus:∀ i l g rv,st i=.susp (l,g) rv→exSus Q i X w l g rv
def exPlan (Q:ExQ):Plan ExL ExA:=⟨ExM Q,exGo Q.ks,exRdy⟩
section
variable {Q:ExQ}{i s:Nat}{a a':ExA}{st:Nat→TS ExL}{X X':Nat→Prop}{w w':World}{F:List Nat}{l:ExL}{g:List Nat}{rv v:Value}
theorem exBox.mono {ab:Nat}(h:exBox Q i s X w ab)(hX:∀ b,X b→X' b)(hw:∀ b c t,X b→t≠54→t≠88→t≠91→t≠93→Blk w b c t→Blk w' b c t):exBox Q i s X' w' ab:=by
 obtain⟨h1,z,h2,h3⟩:=h;exact⟨hX _ h1,z,h2,hw _ _ _ h1 (by decide) (by decide) (by decide) (by decide) h3⟩
theorem exSus.mono (h:exSus Q i X w l g rv)(hX:∀ b,X b→X' b)(hw:∀ b c t,X b→t≠54→t≠88→t≠91→t≠93→Blk w b c t→Blk w' b c t):exSus Q i X' w' l g rv:=by
 cases l with
 | take0 s=>obtain⟨h1,ab,h2,h3⟩:=h;exact⟨h1,ab,h2,h3.mono hX hw⟩
 | ask1 s=>obtain⟨h1,bb,ab,h2,h3,h4,h5⟩:=h;exact⟨h1,bb,ab,h2,hX _ h3,hw _ _ _ h3 (by decide) (by decide) (by decide) (by decide) h4,h5.mono hX hw⟩
 | wait1 s num=>obtain⟨bb,nb,ab,h1,h2,h3,h4,h5,h6,h7⟩:=h;exact⟨bb,nb,ab,h1,h2,hX _ h3,hX _ h4,hw _ _ _ h3 (by decide) (by decide) (by decide) (by decide) h5,hw _ _ _ h4 (by decide) (by decide) (by decide) (by decide) h6,h7.mono hX hw⟩
 | take2 s=>obtain⟨bb,ab,h1,h2,h3,h4,h5⟩:=h;exact⟨bb,ab,h1,h2,hX _ h3,hw _ _ _ h3 (by decide) (by decide) (by decide) (by decide) h4,h5.mono hX hw⟩
 | ask3 s=>obtain⟨h1,bb,ab,h2,h3,h4,h5⟩:=h;exact⟨h1,bb,ab,h2,hX _ h3,hw _ _ _ h3 (by decide) (by decide) (by decide) (by decide) h4,h5.mono hX hw⟩
 | wait3 s=>obtain⟨bb,ab,h1,h2,h3,h4,h5⟩:=h;exact⟨bb,ab,h1,h2,hX _ h3,hw _ _ _ h3 (by decide) (by decide) (by decide) (by decide) h4,h5.mono hX hw⟩
 | look s t=>obtain⟨h1,ab,h2,h3⟩:=h;exact⟨h1,ab,h2,h3.mono hX hw⟩
 | leave s=>exact h
theorem ActsAt.mono {lo:Nat}{ll:List (Int × Int)}(h:ActsAt lo X w v ll)(hX:∀ b,X b→X' b)(hw:∀ b,b<lo→X b→w'.heap[b]?=w.heap[b]?):ActsAt lo X' w' v ll:=by
 refine⟨h.form,fun j z hj=>?_⟩;obtain⟨b,o,c,h1,h2,h3,h4,h5⟩:=h.get j z hj;have e:∀ q,w'.cell? ⟨b,q,none⟩=w.cell? ⟨b,q,none⟩:=fun q=>by
  unfold World.cell?;rw[hw b h2 h3]
 exact⟨b,o,c,h1,h2,hX _ h3,by rw[e];exact h4,by rw[e];exact h5⟩
theorem ExM.go (h:ExM Q a st X w)(kp:Kp F w w')(hF:∀ b∈F,b=Q.yb∨b=Q.mb∨b=Q.fb∨b=Q.wb)(hX:∀ b,X b→X' b)(hl:∀ b,X' b→b<w'.heap.size)(cb:Blk w' Q.yb (exCells Q a') 54)(cm:Blk w' Q.mb [.bool true,.int .i64 a'.mby] 91)
  (cf:Blk w' Q.fb [.bool true,.int .i64 a'.fby,.int .i64 a'.fas,.int .i64 a'.fha] 88) (cw:Blk w' Q.wb [.bool true,.int .i64 a'.wby,.int .i64 a'.wrd,.int .i64 a'.wwt] 93) (i:Nat) (t:TS ExL) (ht:∀ l g rv,t=.susp (l,g) rv→exSus Q i X' w' l g rv):ExM Q a' (updT st i t) X' w':=by
 have hw:∀ b c t,X b→t≠54→t≠88→t≠91→t≠93→Blk w b c t→Blk w' b c t:=fun b c t hb n1 n2 n3 n4 hB=>kp.blk hB fun hm=>by
  rcases hF b hm with rfl | rfl | rfl | rfl
  ·exact cel_ne (Blk.cel hB) (Blk.cel h.cb) n1 rfl
  ·exact cel_ne (Blk.cel hB) (Blk.cel h.cm) n3 rfl
  ·exact cel_ne (Blk.cel hB) (Blk.cel h.cf) n2 rfl
  ·exact cel_ne (Blk.cel hB) (Blk.cel h.cw) n4 rfl
 have hlo:∀ b,b<Q.lo→X b→w'.heap[b]?=w.heap[b]?:=fun b hb hx=>kp.block b (h.lt b hx) fun hm=>by
  obtain⟨l1,l2,l3,l4⟩:=h.lo;rcases hF b hm with rfl | rfl | rfl | rfl<;>omega
 refine⟨hl,fun j hj=>hX _ (h.xl j hj),hX _ h.xy,hX _ h.xb,hX _ h.xm,hX _ h.xf,hX _ h.xw,hX _ h.xp,h.pl,(hlo _ h.pl h.xp).trans h.pk,h.lo,fun j hj=>hw _ _ _ (h.xl j hj) (by decide) (by decide) (by decide) (by decide) (h.ls j hj),fun j hj=>(h.ac j hj).mono hX hlo,hw _ _ _ h.xy (by decide) (by decide) (by decide) (by decide) h.cy,cb,cm,cf,cw,fun j l g rv e=>?_⟩;unfold updT at e;split at e
 ·rename_i e'
  have:=ht l g rv e
  rwa [e']
 ·exact(h.sus j l g rv e).mono hX hw
theorem ExM.frame (h:ExM Q a st X w)(hb:∀ b,X b→w'.heap[b]?=w.heap[b]?)(hs:w.heap.size≤w'.heap.size):ExM Q a st X w' :=
 ⟨fun b hx=>nl' (h.lt b hx) hs,h.xl,h.xy,h.xb,h.xm,h.xf,h.xw,h.xp,h.pl,(hb _ h.xp).trans h.pk,h.lo,fun j hj=>(hb _ (h.xl j hj)).trans (h.ls j hj),fun j hj=>(h.ac j hj).mono (fun _ h=>h) fun b _ hx=>hb b hx,(hb _ h.xy).trans h.cy,(hb _ h.xb).trans h.cb,(hb _ h.xm).trans h.cm,(hb _ h.xf).trans h.cf,(hb _ h.xw).trans h.cw,fun j l g rv e=>(h.sus j l g rv e).mono (fun _ h=>h) fun b c t hx _ _ _ _ hB=>(hb b hx).trans hB⟩
theorem ExM.kp (h:ExM Q a st X w)(kp:Kp [] w w'):ExM Q a st X w':=h.frame (fun b hx=>kp.block b (h.lt b hx) (by simp)) kp.size
theorem ExM.put (h:ExM Q a st X w)(hX:∀ b,X b→X' b)(hl:∀ b,X' b→b<w.heap.size)(i:Nat)(t:TS ExL)(ht:∀ l g rv,t=.susp (l,g) rv→exSus Q i X' w l g rv):ExM Q a (updT st i t) X' w :=
 h.go (F:=[]) ⟨Nat.le_refl _,fun _ _ _=>rfl⟩ (fun b hb=>by cases hb) hX hl h.cb h.cm h.cf h.cw i t ht
theorem updT_id {L:Type}(st:Nat→TS L)(i:Nat):updT st i (st i)=st:=by
 funext j;unfold updT;split
 ·rename_i e;rw[e]
 ·rfl
theorem ExM.same (h:ExM Q a st X w)(kp:Kp F w w')(hF:∀ b∈F,b=Q.yb∨b=Q.mb∨b=Q.fb∨b=Q.wb)(cb:Blk w' Q.yb (exCells Q a') 54)(cm:Blk w' Q.mb [.bool true,.int .i64 a'.mby] 91)
  (cf:Blk w' Q.fb [.bool true,.int .i64 a'.fby,.int .i64 a'.fas,.int .i64 a'.fha] 88) (cw:Blk w' Q.wb [.bool true,.int .i64 a'.wby,.int .i64 a'.wrd,.int .i64 a'.wwt] 93):ExM Q a' st X w':=by
 have hw:∀ b c t,X b→t≠54→t≠88→t≠91→t≠93→Blk w b c t→Blk w' b c t:=fun b c t hb n1 n2 n3 n4 hB=>kp.blk hB fun hm=>by
  rcases hF b hm with rfl | rfl | rfl | rfl
  ·exact cel_ne (Blk.cel hB) (Blk.cel h.cb) n1 rfl
  ·exact cel_ne (Blk.cel hB) (Blk.cel h.cm) n3 rfl
  ·exact cel_ne (Blk.cel hB) (Blk.cel h.cf) n2 rfl
  ·exact cel_ne (Blk.cel hB) (Blk.cel h.cw) n4 rfl
 have:=h.go kp hF (fun _ h=>h) (fun b hb=>nl' (h.lt b hb) kp.size) cb cm cf cw 0 (st 0) (fun l g rv e=>(h.sus 0 l g rv e).mono (fun _ h=>h) hw)
 rwa [updT_id] at this
theorem ExM.wide (h:ExM Q a st X w)(hX:∀ b,X b→X' b)(hl:∀ b,X' b→b<w.heap.size):ExM Q a st X' w:=by
 have:=h.put hX hl 0 (st 0) (fun l g rv e=>(h.sus 0 l g rv e).mono hX fun _ _ _ _ _ _ _ _ h=>h)
 rwa [updT_id] at this
theorem ExM.toY (h:ExM Q a st X w)(kp:Kp [Q.yb] w w')(cb:Blk w' Q.yb (exCells Q a') 54)(e1:a'.mby=a.mby)(e2:a'.fby=a.fby)(e3:a'.fas=a.fas)(e4:a'.fha=a.fha)(e5:a'.wby=a.wby)(e6:a'.wrd=a.wrd)(e7:a'.wwt=a.wwt):ExM Q a' st X w' :=
 h.same kp (fun b hb=>.inl (by simpa using hb)) cb (by rw[e1];exact kp.blk h.cm (by simpa using cel_ne (Blk.cel h.cm) (Blk.cel h.cb) (by decide))) (by rw[e2,e3,e4];exact kp.blk h.cf (by simpa using cel_ne (Blk.cel h.cf) (Blk.cel h.cb) (by decide))) (by rw[e5,e6,e7];exact kp.blk h.cw (by simpa using cel_ne (Blk.cel h.cw) (Blk.cel h.cb) (by decide)))
theorem ExM.toM {v:Int}(h:ExM Q a st X w)(kp:Kp [Q.mb] w w')(cm:Blk w' Q.mb [.bool true,.int .i64 v] 91):ExM Q { a with mby:=v} st X w' :=
 h.same (a':={a with mby:=v}) kp (fun b hb=>.inr (.inl (by simpa using hb))) (kp.blk h.cb (by simpa using cel_ne (Blk.cel h.cb) (Blk.cel h.cm) (by decide))) cm (kp.blk h.cf (by simpa using cel_ne (Blk.cel h.cf) (Blk.cel h.cm) (by decide))) (kp.blk h.cw (by simpa using cel_ne (Blk.cel h.cw) (Blk.cel h.cm) (by decide)))
theorem ExM.toF {v1 v2 v3:Int}(h:ExM Q a st X w)(kp:Kp [Q.fb] w w')(cf:Blk w' Q.fb [.bool true,.int .i64 v1,.int .i64 v2,.int .i64 v3] 88):ExM Q { a with fby:=v1,fas:=v2,fha:=v3} st X w' :=
 h.same (a':={a with fby:=v1,fas:=v2,fha:=v3}) kp (fun b hb=>.inr (.inr (.inl (by simpa using hb)))) (kp.blk h.cb (by simpa using cel_ne (Blk.cel h.cb) (Blk.cel h.cf) (by decide))) (kp.blk h.cm (by simpa using cel_ne (Blk.cel h.cm) (Blk.cel h.cf) (by decide))) cf (kp.blk h.cw (by simpa using cel_ne (Blk.cel h.cw) (Blk.cel h.cf) (by decide)))
theorem ExM.toW {v1 v2 v3:Int}(h:ExM Q a st X w)(kp:Kp [Q.wb] w w')(cw:Blk w' Q.wb [.bool true,.int .i64 v1,.int .i64 v2,.int .i64 v3] 93):ExM Q { a with wby:=v1,wrd:=v2,wwt:=v3} st X w' :=
 h.same (a':={a with wby:=v1,wrd:=v2,wwt:=v3}) kp (fun b hb=>.inr (.inr (.inr (by simpa using hb)))) (kp.blk h.cb (by simpa using cel_ne (Blk.cel h.cb) (Blk.cel h.cw) (by decide))) (kp.blk h.cm (by simpa using cel_ne (Blk.cel h.cm) (Blk.cel h.cw) (by decide))) (kp.blk h.cf (by simpa using cel_ne (Blk.cel h.cf) (Blk.cel h.cw) (by decide))) cw
end
def q21:Code:=Try.f21.body.getD .skip
theorem fa58_0 {b o:Nat}:∀ w,(Instr.fieldAt 58 (.pointer (some ⟨b,o,none⟩)) 0).run Try.prog w=.ok (.pointer (some ⟨b,o+0,none⟩)) w:=fun w=>by
 simp[go_sem,Try.underlying58,Try.runUnderlying58,Try.sizeOf58,Try.isAgg58,Try.sizeOf3]
theorem fa54_4 {b o:Nat}:∀ w,(Instr.fieldAt 54 (.pointer (some ⟨b,o,none⟩)) 4).run Try.prog w=.ok (.pointer (some ⟨b,o+7,none⟩)) w:=fun w=>by
 simp[go_sem,Try.underlying54,Try.runUnderlying54,Try.sizeOf54,Try.isAgg54,Try.sizeOf4,Try.sizeOf39,Try.sizeOf48,Try.sizeOf50,Try.sizeOf52]
theorem s_4 {w:World}{a:Addr}{x:Value}{y:Bool}(hc:w.cell? a=some x)(hf:w.frozen? a=false):(Instr.storeAt 4 (.pointer (some a)) (.bool y)).run Try.prog w=.ok () (w.setCell a (.bool y)):=by simp[go_sem,hc,hf,Try.underlying4,Try.runUnderlying4,Try.sizeOf4,Try.isAgg4]
theorem fa58_1 {b o:Nat}:∀ w,(Instr.fieldAt 58 (.pointer (some ⟨b,o,none⟩)) 1).run Try.prog w=.ok (.pointer (some ⟨b,o+1,none⟩)) w:=fun w=>by
 simp[go_sem,Try.underlying58,Try.runUnderlying58,Try.sizeOf58,Try.isAgg58,Try.sizeOf3]
theorem fa54_5 {b o:Nat}:∀ w,(Instr.fieldAt 54 (.pointer (some ⟨b,o,none⟩)) 5).run Try.prog w=.ok (.pointer (some ⟨b,o+8,none⟩)) w:=fun w=>by
 simp[go_sem,Try.underlying54,Try.runUnderlying54,Try.sizeOf54,Try.isAgg54,Try.sizeOf3,Try.sizeOf4,Try.sizeOf39,Try.sizeOf48,Try.sizeOf50,Try.sizeOf52]
theorem w_neq35 {a:Act}{oo:Oper}{w:World}{x y:Operand}{i j:Int}(h:oo.op=.binOp .neq 35 x y 35)(hx:a.eval x=.int .i64 i)(hy:a.eval y=.int .i64 j):(execOp a.eval oo).run Try.prog w=.ok (.value (.bool (decide (i≠j)))) w:=by
 unfold execOp;rw[h];simp only[hx,hy];exact run_vv (by simp[go_sem,Try.underlying35,Try.runUnderlying35,bne,BEq.beq])
theorem bx_58 {a b:Int}:∀ w:World,(Instr.box 58 (.agg #[.int .i64 a,.int .i64 b])).run Try.prog w=.ok (ptr w.heap.size) (w.alloc (.cells #[.int .i64 a,.int .i64 b] 58)):=fun w=>by
 simp[go_sem,Try.underlying58,Try.runUnderlying58,Try.sizeOf58,Try.isAgg58,Try.sizeOf3]
theorem four_calls (w:World)(v:Int):Calls Try.prog 39 #[.int .i64 v] w fun e w'=>e=.returned (.int .i64 (fourN v:Int))∧w'=w:=by
 have e:=four_bits v;generalize (fourN v:Int)=r at e ⊢;subst e
 go_enter Try.func39,Try.ntmps39
 go_wp2
 go_ret
 exact⟨rfl,rfl⟩
theorem ex_looks {m:Bool}{Q:ExQ}{a:ExA}{st:Nat→TS ExL}{X:Nat→Prop}{w:World}{K:Goroutine→World→Prop}(hK:Cl Try.prog m K)(hm:ExM Q a st X w){c:Frame}{low:List Frame}(h:∀ w',Kp [Q.yb] w w'→Blk w' Q.yb (exCells Q a.looks) 54→K (gs (c.finish (.tuple #[])) low) w'):K (gs (Frame.enter Try.prog 41 #[ptr Q.yb] .normal) (c::low)) w:=by
 refine hK.call fits shut (f:=41) rfl (R:=fun v w'=>v=.tuple #[]∧Kp [Q.yb] w w'∧Blk w' Q.yb (exCells Q a.looks) 54) (fun v w' τ d ⟨h1,h2,h3⟩=>⟨h1,⟨h2.size,h2.block⟩,h3⟩) (fun τ d=>(looks_calls (re w τ d) Q.yb Q.mb Q.fb Q.wb a.i0 a.i1 a.i2 a.i3 a.fin a.bad hm.cb).mono fun e w' ⟨h1,h2,h3⟩=>⟨_,h1,rfl,⟨(Keeps.kp h2).size,(Keeps.kp h2).block⟩,h3⟩) ?_;rintro v w' ⟨rfl,h2,h3⟩;exact h w' h2 h3
theorem exBox.kpY {Q:ExQ}{i s ab:Nat}{a:ExA}{st:Nat→TS ExL}{X:Nat→Prop}{w w':World}(h:exBox Q i s X w ab)(hm:ExM Q a st X w)(k:Kp [Q.yb] w w'):exBox Q i s X w' ab :=
 h.mono (fun _ h=>h) fun b c t hb n1 _ _ _ hB=>k.blk hB (by simpa using cel_ne (Blk.cel hB) (Blk.cel hm.cb) n1)
theorem exBox.kp1 {Q:ExQ}{i s ab b:Nat}{cells:List Value}{t:TypeId}{X:Nat→Prop}{w w':World}(h:exBox Q i s X w ab)(hb:Cel w b cells t)(ht:(58:Nat)≠t)(k:Kp [b] w w'):exBox Q i s X w' ab:=by
 obtain⟨h1,z,h2,h3⟩:=h;exact⟨h1,z,h2,k.blk h3 (by simpa using cel_ne (Blk.cel h3) hb ht)⟩
theorem exStart_k {Q:ExQ}{i s:Nat}{z:Int × Int}{a:ExA}(hz:(Q.acts i)[s]?=some z):exStart (Q.ks i) s a=match fourN z.1 with | 0=>(a,some (.take0 s)) | 1=>(a,some (.ask1 s)) | 2=>(a,some (.take2 s)) | _=>(a,some (.ask3 s)):=by
 show exStart (exK (Q.acts i)) s a=_;unfold exStart;rw[(exK_at hz).1];generalize fourN z.1=q;obtain _ | _ | _ | q:=q<;>rfl
theorem oq21c0 (w:World)(x:Nat→Value)(yb mb fb wb b ab:Nat)(i0 i1 i2 i3 dn:Int)(bd:Bool)(hm:Blk w yb [ptr mb,ptr fb,ptr wb,.int .i64 i0,.int .i64 i1,.int .i64 i2,.int .i64 i3,.bool bd,.int .i64 dn] 54)(h0:x 0=ptr yb)(h1:x 1=ptr b)(h5:x 5=ptr ab)(h6:x 6=.int .i64 0) :
  (sL (sR (sR (sR q21)))).wp Try.prog (fun e a' w'=>e=.normal∧a'.defers=[]∧sQ 79 (fun x=>x 0=ptr yb∧x 1=ptr b∧x 5=ptr ab∧x 6=.int .i64 0) yb [ptr mb,ptr fb,ptr wb,.int .i64 (wrap64 (i0+1)),.int .i64 i1,.int .i64 i2,.int .i64 i3,.bool bd,.int .i64 dn] 54 w a'.tmps w') ⟨fg 79 x,[]⟩ w:=by
 have HQ:Hid (∀ (t:Array Value) (w':World),sQ 79 (fun x=>x 0=ptr yb∧x 1=ptr b∧x 5=ptr ab∧x 6=.int .i64 0) yb [ptr mb,ptr fb,ptr wb,.int .i64 (wrap64 (i0+1)),.int .i64 i1,.int .i64 i2,.int .i64 i3,.bool bd,.int .i64 dn] 54 w t w'→sQ 79 (fun x=>x 0=ptr yb∧x 1=ptr b∧x 5=ptr ab∧x 6=.int .i64 0) yb [ptr mb,ptr fb,ptr wb,.int .i64 (wrap64 (i0+1)),.int .i64 i1,.int .i64 i2,.int .i64 i3,.bool bd,.int .i64 dn] 54 w t w'):=Lib.hid fun _ _ h=>h;generalize hG:sQ 79 (fun x=>x 0=ptr yb∧x 1=ptr b∧x 5=ptr ab∧x 6=.int .i64 0) yb [ptr mb,ptr fb,ptr wb,.int .i64 (wrap64 (i0+1)),.int .i64 i1,.int .i64 i2,.int .i64 i3,.bool bd,.int .i64 dn] 54 w=G at HQ ⊢;have HG:=Lib.hid hG;clear hG;rw[show fg 79 x=#[x 0,x 1,x 2,x 3,x 4,x 5,x 6,x 7,x 8,x 9,x 10,x 11,x 12,x 13,x 14,x 15,x 16,x 17,x 18,x 19,x 20,x 21,x 22,x 23,x 24,x 25,x 26,x 27,x 28,x 29,x 30,x 31,x 32,x 33,x 34,x 35,x 36,x 37,x 38,x 39,x 40,x 41,x 42,x 43,x 44,x 45,x 46,x 47,x 48,x 49,x 50,x 51,x 52,x 53,x 54,x 55,x 56,x 57,x 58,x 59,x 60,x 61,x 62,x 63,x 64,x 65,x 66,x 67,x 68,x 69,x 70,x 71,x 72,x 73,x 74,x 75,x 76,x 77,x 78] from rfl];simp only[q21,Try.f21,Option.getD_some,sL,sR,sB,sT,sF,h0,h1,h5,h6];have c0:=hm.cell 3;have z0:=hm.frozen 3;have HM:=Lib.hid hm;clear hm;refine Code.wp_mono (Q:=fun e a' w'=>match e with | .normal=>a'.defers=[]∧G a'.tmps w' | _=>False) (fun e a' w' h=>by cases e<;>first | exact⟨rfl,h.1,h.2⟩ | exact h.elim) ?_
 go_region_with (fail)
 all_goals
  refine⟨rfl,?_⟩;refine HQ.out _ _ ?_;rw[← HG.out,show IntKind.i64.wrap (i0+1)=wrap64 (i0+1) from by simp only[IntKind.wrap_i64,wrap64]];exact sQ_mk rfl ⟨rfl,rfl,rfl,rfl⟩ ⟨Nat.le_of_eq (World.size_setCell _ _ _).symm,fun c hc hn=>setCell_frame (by simpa using hn)⟩ (show Blk (w.setCell ⟨yb,3,none⟩ (.int .i64 (wrap64 (i0+1)))) yb _ 54 from HM.out.set 3 _)
theorem oq21d0 (w:World)(x:Nat→Value)(yb mb fb wb b ab:Nat)(i0 i1 i2 i3 dn:Int)(bd:Bool)(hm:Blk w yb [ptr mb,ptr fb,ptr wb,.int .i64 i0,.int .i64 i1,.int .i64 i2,.int .i64 i3,.bool bd,.int .i64 dn] 54)(h0:x 0=ptr yb)(h1:x 1=ptr b)(h5:x 5=ptr ab)(h6:x 6=.int .i64 0) :
  (sL (sR (sR (sR (sR (sR (sR q21))))))).wp Try.prog (fun e a' w'=>e=.normal∧a'.defers=[]∧sQ 79 (fun x=>x 0=ptr yb∧x 1=ptr b∧x 5=ptr ab∧x 6=.int .i64 0) yb [ptr mb,ptr fb,ptr wb,.int .i64 (wrap64 (i0-1)),.int .i64 i1,.int .i64 i2,.int .i64 i3,.bool bd,.int .i64 dn] 54 w a'.tmps w') ⟨fg 79 x,[]⟩ w:=by
 have HQ:Hid (∀ (t:Array Value) (w':World),sQ 79 (fun x=>x 0=ptr yb∧x 1=ptr b∧x 5=ptr ab∧x 6=.int .i64 0) yb [ptr mb,ptr fb,ptr wb,.int .i64 (wrap64 (i0-1)),.int .i64 i1,.int .i64 i2,.int .i64 i3,.bool bd,.int .i64 dn] 54 w t w'→sQ 79 (fun x=>x 0=ptr yb∧x 1=ptr b∧x 5=ptr ab∧x 6=.int .i64 0) yb [ptr mb,ptr fb,ptr wb,.int .i64 (wrap64 (i0-1)),.int .i64 i1,.int .i64 i2,.int .i64 i3,.bool bd,.int .i64 dn] 54 w t w'):=Lib.hid fun _ _ h=>h;generalize hG:sQ 79 (fun x=>x 0=ptr yb∧x 1=ptr b∧x 5=ptr ab∧x 6=.int .i64 0) yb [ptr mb,ptr fb,ptr wb,.int .i64 (wrap64 (i0-1)),.int .i64 i1,.int .i64 i2,.int .i64 i3,.bool bd,.int .i64 dn] 54 w=G at HQ ⊢;have HG:=Lib.hid hG;clear hG;rw[show fg 79 x=#[x 0,x 1,x 2,x 3,x 4,x 5,x 6,x 7,x 8,x 9,x 10,x 11,x 12,x 13,x 14,x 15,x 16,x 17,x 18,x 19,x 20,x 21,x 22,x 23,x 24,x 25,x 26,x 27,x 28,x 29,x 30,x 31,x 32,x 33,x 34,x 35,x 36,x 37,x 38,x 39,x 40,x 41,x 42,x 43,x 44,x 45,x 46,x 47,x 48,x 49,x 50,x 51,x 52,x 53,x 54,x 55,x 56,x 57,x 58,x 59,x 60,x 61,x 62,x 63,x 64,x 65,x 66,x 67,x 68,x 69,x 70,x 71,x 72,x 73,x 74,x 75,x 76,x 77,x 78] from rfl];simp only[q21,Try.f21,Option.getD_some,sL,sR,sB,sT,sF,h0,h1,h5,h6];have c0:=hm.cell 3;have z0:=hm.frozen 3;have HM:=Lib.hid hm;clear hm;refine Code.wp_mono (Q:=fun e a' w'=>match e with | .normal=>a'.defers=[]∧G a'.tmps w' | _=>False) (fun e a' w' h=>by cases e<;>first | exact⟨rfl,h.1,h.2⟩ | exact h.elim) ?_
 go_region_with (fail)
 all_goals
  refine⟨rfl,?_⟩;refine HQ.out _ _ ?_;rw[← HG.out,show IntKind.i64.wrap (i0-1)=wrap64 (i0-1) from by simp only[IntKind.wrap_i64,wrap64]];exact sQ_mk rfl ⟨rfl,rfl,rfl,rfl⟩ ⟨Nat.le_of_eq (World.size_setCell _ _ _).symm,fun c hc hn=>setCell_frame (by simpa using hn)⟩ (show Blk (w.setCell ⟨yb,3,none⟩ (.int .i64 (wrap64 (i0-1)))) yb _ 54 from HM.out.set 3 _)
theorem oq21c1 (w:World)(x:Nat→Value)(yb mb fb wb b ab:Nat)(i0 i1 i2 i3 dn:Int)(bd:Bool)(hm:Blk w yb [ptr mb,ptr fb,ptr wb,.int .i64 i0,.int .i64 i1,.int .i64 i2,.int .i64 i3,.bool bd,.int .i64 dn] 54)(h0:x 0=ptr yb)(h1:x 1=ptr b)(h5:x 5=ptr ab)(h6:x 6=.int .i64 1) :
  (sL (sR (sR (sR q21)))).wp Try.prog (fun e a' w'=>e=.normal∧a'.defers=[]∧sQ 79 (fun x=>x 0=ptr yb∧x 1=ptr b∧x 5=ptr ab∧x 6=.int .i64 1) yb [ptr mb,ptr fb,ptr wb,.int .i64 i0,.int .i64 (wrap64 (i1+1)),.int .i64 i2,.int .i64 i3,.bool bd,.int .i64 dn] 54 w a'.tmps w') ⟨fg 79 x,[]⟩ w:=by
 have HQ:Hid (∀ (t:Array Value) (w':World),sQ 79 (fun x=>x 0=ptr yb∧x 1=ptr b∧x 5=ptr ab∧x 6=.int .i64 1) yb [ptr mb,ptr fb,ptr wb,.int .i64 i0,.int .i64 (wrap64 (i1+1)),.int .i64 i2,.int .i64 i3,.bool bd,.int .i64 dn] 54 w t w'→sQ 79 (fun x=>x 0=ptr yb∧x 1=ptr b∧x 5=ptr ab∧x 6=.int .i64 1) yb [ptr mb,ptr fb,ptr wb,.int .i64 i0,.int .i64 (wrap64 (i1+1)),.int .i64 i2,.int .i64 i3,.bool bd,.int .i64 dn] 54 w t w'):=Lib.hid fun _ _ h=>h;generalize hG:sQ 79 (fun x=>x 0=ptr yb∧x 1=ptr b∧x 5=ptr ab∧x 6=.int .i64 1) yb [ptr mb,ptr fb,ptr wb,.int .i64 i0,.int .i64 (wrap64 (i1+1)),.int .i64 i2,.int .i64 i3,.bool bd,.int .i64 dn] 54 w=G at HQ ⊢;have HG:=Lib.hid hG;clear hG;rw[show fg 79 x=#[x 0,x 1,x 2,x 3,x 4,x 5,x 6,x 7,x 8,x 9,x 10,x 11,x 12,x 13,x 14,x 15,x 16,x 17,x 18,x 19,x 20,x 21,x 22,x 23,x 24,x 25,x 26,x 27,x 28,x 29,x 30,x 31,x 32,x 33,x 34,x 35,x 36,x 37,x 38,x 39,x 40,x 41,x 42,x 43,x 44,x 45,x 46,x 47,x 48,x 49,x 50,x 51,x 52,x 53,x 54,x 55,x 56,x 57,x 58,x 59,x 60,x 61,x 62,x 63,x 64,x 65,x 66,x 67,x 68,x 69,x 70,x 71,x 72,x 73,x 74,x 75,x 76,x 77,x 78] from rfl];simp only[q21,Try.f21,Option.getD_some,sL,sR,sB,sT,sF,h0,h1,h5,h6];have c0:=hm.cell 4;have z0:=hm.frozen 4;have HM:=Lib.hid hm;clear hm;refine Code.wp_mono (Q:=fun e a' w'=>match e with | .normal=>a'.defers=[]∧G a'.tmps w' | _=>False) (fun e a' w' h=>by cases e<;>first | exact⟨rfl,h.1,h.2⟩ | exact h.elim) ?_
 go_region_with (fail)
 all_goals
  refine⟨rfl,?_⟩;refine HQ.out _ _ ?_;rw[← HG.out,show IntKind.i64.wrap (i1+1)=wrap64 (i1+1) from by simp only[IntKind.wrap_i64,wrap64]];exact sQ_mk rfl ⟨rfl,rfl,rfl,rfl⟩ ⟨Nat.le_of_eq (World.size_setCell _ _ _).symm,fun c hc hn=>setCell_frame (by simpa using hn)⟩ (show Blk (w.setCell ⟨yb,4,none⟩ (.int .i64 (wrap64 (i1+1)))) yb _ 54 from HM.out.set 4 _)
theorem oq21d1 (w:World)(x:Nat→Value)(yb mb fb wb b ab:Nat)(i0 i1 i2 i3 dn:Int)(bd:Bool)(hm:Blk w yb [ptr mb,ptr fb,ptr wb,.int .i64 i0,.int .i64 i1,.int .i64 i2,.int .i64 i3,.bool bd,.int .i64 dn] 54)(h0:x 0=ptr yb)(h1:x 1=ptr b)(h5:x 5=ptr ab)(h6:x 6=.int .i64 1) :
  (sL (sR (sR (sR (sR (sR (sR q21))))))).wp Try.prog (fun e a' w'=>e=.normal∧a'.defers=[]∧sQ 79 (fun x=>x 0=ptr yb∧x 1=ptr b∧x 5=ptr ab∧x 6=.int .i64 1) yb [ptr mb,ptr fb,ptr wb,.int .i64 i0,.int .i64 (wrap64 (i1-1)),.int .i64 i2,.int .i64 i3,.bool bd,.int .i64 dn] 54 w a'.tmps w') ⟨fg 79 x,[]⟩ w:=by
 have HQ:Hid (∀ (t:Array Value) (w':World),sQ 79 (fun x=>x 0=ptr yb∧x 1=ptr b∧x 5=ptr ab∧x 6=.int .i64 1) yb [ptr mb,ptr fb,ptr wb,.int .i64 i0,.int .i64 (wrap64 (i1-1)),.int .i64 i2,.int .i64 i3,.bool bd,.int .i64 dn] 54 w t w'→sQ 79 (fun x=>x 0=ptr yb∧x 1=ptr b∧x 5=ptr ab∧x 6=.int .i64 1) yb [ptr mb,ptr fb,ptr wb,.int .i64 i0,.int .i64 (wrap64 (i1-1)),.int .i64 i2,.int .i64 i3,.bool bd,.int .i64 dn] 54 w t w'):=Lib.hid fun _ _ h=>h;generalize hG:sQ 79 (fun x=>x 0=ptr yb∧x 1=ptr b∧x 5=ptr ab∧x 6=.int .i64 1) yb [ptr mb,ptr fb,ptr wb,.int .i64 i0,.int .i64 (wrap64 (i1-1)),.int .i64 i2,.int .i64 i3,.bool bd,.int .i64 dn] 54 w=G at HQ ⊢;have HG:=Lib.hid hG;clear hG;rw[show fg 79 x=#[x 0,x 1,x 2,x 3,x 4,x 5,x 6,x 7,x 8,x 9,x 10,x 11,x 12,x 13,x 14,x 15,x 16,x 17,x 18,x 19,x 20,x 21,x 22,x 23,x 24,x 25,x 26,x 27,x 28,x 29,x 30,x 31,x 32,x 33,x 34,x 35,x 36,x 37,x 38,x 39,x 40,x 41,x 42,x 43,x 44,x 45,x 46,x 47,x 48,x 49,x 50,x 51,x 52,x 53,x 54,x 55,x 56,x 57,x 58,x 59,x 60,x 61,x 62,x 63,x 64,x 65,x 66,x 67,x 68,x 69,x 70,x 71,x 72,x 73,x 74,x 75,x 76,x 77,x 78] from rfl];simp only[q21,Try.f21,Option.getD_some,sL,sR,sB,sT,sF,h0,h1,h5,h6];have c0:=hm.cell 4;have z0:=hm.frozen 4;have HM:=Lib.hid hm;clear hm;refine Code.wp_mono (Q:=fun e a' w'=>match e with | .normal=>a'.defers=[]∧G a'.tmps w' | _=>False) (fun e a' w' h=>by cases e<;>first | exact⟨rfl,h.1,h.2⟩ | exact h.elim) ?_
 go_region_with (fail)
 all_goals
  refine⟨rfl,?_⟩;refine HQ.out _ _ ?_;rw[← HG.out,show IntKind.i64.wrap (i1-1)=wrap64 (i1-1) from by simp only[IntKind.wrap_i64,wrap64]];exact sQ_mk rfl ⟨rfl,rfl,rfl,rfl⟩ ⟨Nat.le_of_eq (World.size_setCell _ _ _).symm,fun c hc hn=>setCell_frame (by simpa using hn)⟩ (show Blk (w.setCell ⟨yb,4,none⟩ (.int .i64 (wrap64 (i1-1)))) yb _ 54 from HM.out.set 4 _)
theorem oq21c2 (w:World)(x:Nat→Value)(yb mb fb wb b ab:Nat)(i0 i1 i2 i3 dn:Int)(bd:Bool)(hm:Blk w yb [ptr mb,ptr fb,ptr wb,.int .i64 i0,.int .i64 i1,.int .i64 i2,.int .i64 i3,.bool bd,.int .i64 dn] 54)(h0:x 0=ptr yb)(h1:x 1=ptr b)(h5:x 5=ptr ab)(h6:x 6=.int .i64 2) :
  (sL (sR (sR (sR q21)))).wp Try.prog (fun e a' w'=>e=.normal∧a'.defers=[]∧sQ 79 (fun x=>x 0=ptr yb∧x 1=ptr b∧x 5=ptr ab∧x 6=.int .i64 2) yb [ptr mb,ptr fb,ptr wb,.int .i64 i0,.int .i64 i1,.int .i64 (wrap64 (i2+1)),.int .i64 i3,.bool bd,.int .i64 dn] 54 w a'.tmps w') ⟨fg 79 x,[]⟩ w:=by
 have HQ:Hid (∀ (t:Array Value) (w':World),sQ 79 (fun x=>x 0=ptr yb∧x 1=ptr b∧x 5=ptr ab∧x 6=.int .i64 2) yb [ptr mb,ptr fb,ptr wb,.int .i64 i0,.int .i64 i1,.int .i64 (wrap64 (i2+1)),.int .i64 i3,.bool bd,.int .i64 dn] 54 w t w'→sQ 79 (fun x=>x 0=ptr yb∧x 1=ptr b∧x 5=ptr ab∧x 6=.int .i64 2) yb [ptr mb,ptr fb,ptr wb,.int .i64 i0,.int .i64 i1,.int .i64 (wrap64 (i2+1)),.int .i64 i3,.bool bd,.int .i64 dn] 54 w t w'):=Lib.hid fun _ _ h=>h;generalize hG:sQ 79 (fun x=>x 0=ptr yb∧x 1=ptr b∧x 5=ptr ab∧x 6=.int .i64 2) yb [ptr mb,ptr fb,ptr wb,.int .i64 i0,.int .i64 i1,.int .i64 (wrap64 (i2+1)),.int .i64 i3,.bool bd,.int .i64 dn] 54 w=G at HQ ⊢;have HG:=Lib.hid hG;clear hG;rw[show fg 79 x=#[x 0,x 1,x 2,x 3,x 4,x 5,x 6,x 7,x 8,x 9,x 10,x 11,x 12,x 13,x 14,x 15,x 16,x 17,x 18,x 19,x 20,x 21,x 22,x 23,x 24,x 25,x 26,x 27,x 28,x 29,x 30,x 31,x 32,x 33,x 34,x 35,x 36,x 37,x 38,x 39,x 40,x 41,x 42,x 43,x 44,x 45,x 46,x 47,x 48,x 49,x 50,x 51,x 52,x 53,x 54,x 55,x 56,x 57,x 58,x 59,x 60,x 61,x 62,x 63,x 64,x 65,x 66,x 67,x 68,x 69,x 70,x 71,x 72,x 73,x 74,x 75,x 76,x 77,x 78] from rfl];simp only[q21,Try.f21,Option.getD_some,sL,sR,sB,sT,sF,h0,h1,h5,h6];have c0:=hm.cell 5;have z0:=hm.frozen 5;have HM:=Lib.hid hm;clear hm;refine Code.wp_mono (Q:=fun e a' w'=>match e with | .normal=>a'.defers=[]∧G a'.tmps w' | _=>False) (fun e a' w' h=>by cases e<;>first | exact⟨rfl,h.1,h.2⟩ | exact h.elim) ?_
 go_region_with (fail)
 all_goals
  refine⟨rfl,?_⟩;refine HQ.out _ _ ?_;rw[← HG.out,show IntKind.i64.wrap (i2+1)=wrap64 (i2+1) from by simp only[IntKind.wrap_i64,wrap64]];exact sQ_mk rfl ⟨rfl,rfl,rfl,rfl⟩ ⟨Nat.le_of_eq (World.size_setCell _ _ _).symm,fun c hc hn=>setCell_frame (by simpa using hn)⟩ (show Blk (w.setCell ⟨yb,5,none⟩ (.int .i64 (wrap64 (i2+1)))) yb _ 54 from HM.out.set 5 _)
theorem oq21d2 (w:World)(x:Nat→Value)(yb mb fb wb b ab:Nat)(i0 i1 i2 i3 dn:Int)(bd:Bool)(hm:Blk w yb [ptr mb,ptr fb,ptr wb,.int .i64 i0,.int .i64 i1,.int .i64 i2,.int .i64 i3,.bool bd,.int .i64 dn] 54)(h0:x 0=ptr yb)(h1:x 1=ptr b)(h5:x 5=ptr ab)(h6:x 6=.int .i64 2) :
  (sL (sR (sR (sR (sR (sR (sR q21))))))).wp Try.prog (fun e a' w'=>e=.normal∧a'.defers=[]∧sQ 79 (fun x=>x 0=ptr yb∧x 1=ptr b∧x 5=ptr ab∧x 6=.int .i64 2) yb [ptr mb,ptr fb,ptr wb,.int .i64 i0,.int .i64 i1,.int .i64 (wrap64 (i2-1)),.int .i64 i3,.bool bd,.int .i64 dn] 54 w a'.tmps w') ⟨fg 79 x,[]⟩ w:=by
 have HQ:Hid (∀ (t:Array Value) (w':World),sQ 79 (fun x=>x 0=ptr yb∧x 1=ptr b∧x 5=ptr ab∧x 6=.int .i64 2) yb [ptr mb,ptr fb,ptr wb,.int .i64 i0,.int .i64 i1,.int .i64 (wrap64 (i2-1)),.int .i64 i3,.bool bd,.int .i64 dn] 54 w t w'→sQ 79 (fun x=>x 0=ptr yb∧x 1=ptr b∧x 5=ptr ab∧x 6=.int .i64 2) yb [ptr mb,ptr fb,ptr wb,.int .i64 i0,.int .i64 i1,.int .i64 (wrap64 (i2-1)),.int .i64 i3,.bool bd,.int .i64 dn] 54 w t w'):=Lib.hid fun _ _ h=>h;generalize hG:sQ 79 (fun x=>x 0=ptr yb∧x 1=ptr b∧x 5=ptr ab∧x 6=.int .i64 2) yb [ptr mb,ptr fb,ptr wb,.int .i64 i0,.int .i64 i1,.int .i64 (wrap64 (i2-1)),.int .i64 i3,.bool bd,.int .i64 dn] 54 w=G at HQ ⊢;have HG:=Lib.hid hG;clear hG;rw[show fg 79 x=#[x 0,x 1,x 2,x 3,x 4,x 5,x 6,x 7,x 8,x 9,x 10,x 11,x 12,x 13,x 14,x 15,x 16,x 17,x 18,x 19,x 20,x 21,x 22,x 23,x 24,x 25,x 26,x 27,x 28,x 29,x 30,x 31,x 32,x 33,x 34,x 35,x 36,x 37,x 38,x 39,x 40,x 41,x 42,x 43,x 44,x 45,x 46,x 47,x 48,x 49,x 50,x 51,x 52,x 53,x 54,x 55,x 56,x 57,x 58,x 59,x 60,x 61,x 62,x 63,x 64,x 65,x 66,x 67,x 68,x 69,x 70,x 71,x 72,x 73,x 74,x 75,x 76,x 77,x 78] from rfl];simp only[q21,Try.f21,Option.getD_some,sL,sR,sB,sT,sF,h0,h1,h5,h6];have c0:=hm.cell 5;have z0:=hm.frozen 5;have HM:=Lib.hid hm;clear hm;refine Code.wp_mono (Q:=fun e a' w'=>match e with | .normal=>a'.defers=[]∧G a'.tmps w' | _=>False) (fun e a' w' h=>by cases e<;>first | exact⟨rfl,h.1,h.2⟩ | exact h.elim) ?_
 go_region_with (fail)
 all_goals
  refine⟨rfl,?_⟩;refine HQ.out _ _ ?_;rw[← HG.out,show IntKind.i64.wrap (i2-1)=wrap64 (i2-1) from by simp only[IntKind.wrap_i64,wrap64]];exact sQ_mk rfl ⟨rfl,rfl,rfl,rfl⟩ ⟨Nat.le_of_eq (World.size_setCell _ _ _).symm,fun c hc hn=>setCell_frame (by simpa using hn)⟩ (show Blk (w.setCell ⟨yb,5,none⟩ (.int .i64 (wrap64 (i2-1)))) yb _ 54 from HM.out.set 5 _)
theorem oq21c3 (w:World)(x:Nat→Value)(yb mb fb wb b ab:Nat)(i0 i1 i2 i3 dn:Int)(bd:Bool)(hm:Blk w yb [ptr mb,ptr fb,ptr wb,.int .i64 i0,.int .i64 i1,.int .i64 i2,.int .i64 i3,.bool bd,.int .i64 dn] 54)(h0:x 0=ptr yb)(h1:x 1=ptr b)(h5:x 5=ptr ab)(h6:x 6=.int .i64 3) :
  (sL (sR (sR (sR q21)))).wp Try.prog (fun e a' w'=>e=.normal∧a'.defers=[]∧sQ 79 (fun x=>x 0=ptr yb∧x 1=ptr b∧x 5=ptr ab∧x 6=.int .i64 3) yb [ptr mb,ptr fb,ptr wb,.int .i64 i0,.int .i64 i1,.int .i64 i2,.int .i64 (wrap64 (i3+1)),.bool bd,.int .i64 dn] 54 w a'.tmps w') ⟨fg 79 x,[]⟩ w:=by
 have HQ:Hid (∀ (t:Array Value) (w':World),sQ 79 (fun x=>x 0=ptr yb∧x 1=ptr b∧x 5=ptr ab∧x 6=.int .i64 3) yb [ptr mb,ptr fb,ptr wb,.int .i64 i0,.int .i64 i1,.int .i64 i2,.int .i64 (wrap64 (i3+1)),.bool bd,.int .i64 dn] 54 w t w'→sQ 79 (fun x=>x 0=ptr yb∧x 1=ptr b∧x 5=ptr ab∧x 6=.int .i64 3) yb [ptr mb,ptr fb,ptr wb,.int .i64 i0,.int .i64 i1,.int .i64 i2,.int .i64 (wrap64 (i3+1)),.bool bd,.int .i64 dn] 54 w t w'):=Lib.hid fun _ _ h=>h;generalize hG:sQ 79 (fun x=>x 0=ptr yb∧x 1=ptr b∧x 5=ptr ab∧x 6=.int .i64 3) yb [ptr mb,ptr fb,ptr wb,.int .i64 i0,.int .i64 i1,.int .i64 i2,.int .i64 (wrap64 (i3+1)),.bool bd,.int .i64 dn] 54 w=G at HQ ⊢;have HG:=Lib.hid hG;clear hG;rw[show fg 79 x=#[x 0,x 1,x 2,x 3,x 4,x 5,x 6,x 7,x 8,x 9,x 10,x 11,x 12,x 13,x 14,x 15,x 16,x 17,x 18,x 19,x 20,x 21,x 22,x 23,x 24,x 25,x 26,x 27,x 28,x 29,x 30,x 31,x 32,x 33,x 34,x 35,x 36,x 37,x 38,x 39,x 40,x 41,x 42,x 43,x 44,x 45,x 46,x 47,x 48,x 49,x 50,x 51,x 52,x 53,x 54,x 55,x 56,x 57,x 58,x 59,x 60,x 61,x 62,x 63,x 64,x 65,x 66,x 67,x 68,x 69,x 70,x 71,x 72,x 73,x 74,x 75,x 76,x 77,x 78] from rfl];simp only[q21,Try.f21,Option.getD_some,sL,sR,sB,sT,sF,h0,h1,h5,h6];have c0:=hm.cell 6;have z0:=hm.frozen 6;have HM:=Lib.hid hm;clear hm;refine Code.wp_mono (Q:=fun e a' w'=>match e with | .normal=>a'.defers=[]∧G a'.tmps w' | _=>False) (fun e a' w' h=>by cases e<;>first | exact⟨rfl,h.1,h.2⟩ | exact h.elim) ?_
 go_region_with (fail)
 all_goals
  refine⟨rfl,?_⟩;refine HQ.out _ _ ?_;rw[← HG.out,show IntKind.i64.wrap (i3+1)=wrap64 (i3+1) from by simp only[IntKind.wrap_i64,wrap64]];exact sQ_mk rfl ⟨rfl,rfl,rfl,rfl⟩ ⟨Nat.le_of_eq (World.size_setCell _ _ _).symm,fun c hc hn=>setCell_frame (by simpa using hn)⟩ (show Blk (w.setCell ⟨yb,6,none⟩ (.int .i64 (wrap64 (i3+1)))) yb _ 54 from HM.out.set 6 _)
theorem oq21d3 (w:World)(x:Nat→Value)(yb mb fb wb b ab:Nat)(i0 i1 i2 i3 dn:Int)(bd:Bool)(hm:Blk w yb [ptr mb,ptr fb,ptr wb,.int .i64 i0,.int .i64 i1,.int .i64 i2,.int .i64 i3,.bool bd,.int .i64 dn] 54)(h0:x 0=ptr yb)(h1:x 1=ptr b)(h5:x 5=ptr ab)(h6:x 6=.int .i64 3) :
  (sL (sR (sR (sR (sR (sR (sR q21))))))).wp Try.prog (fun e a' w'=>e=.normal∧a'.defers=[]∧sQ 79 (fun x=>x 0=ptr yb∧x 1=ptr b∧x 5=ptr ab∧x 6=.int .i64 3) yb [ptr mb,ptr fb,ptr wb,.int .i64 i0,.int .i64 i1,.int .i64 i2,.int .i64 (wrap64 (i3-1)),.bool bd,.int .i64 dn] 54 w a'.tmps w') ⟨fg 79 x,[]⟩ w:=by
 have HQ:Hid (∀ (t:Array Value) (w':World),sQ 79 (fun x=>x 0=ptr yb∧x 1=ptr b∧x 5=ptr ab∧x 6=.int .i64 3) yb [ptr mb,ptr fb,ptr wb,.int .i64 i0,.int .i64 i1,.int .i64 i2,.int .i64 (wrap64 (i3-1)),.bool bd,.int .i64 dn] 54 w t w'→sQ 79 (fun x=>x 0=ptr yb∧x 1=ptr b∧x 5=ptr ab∧x 6=.int .i64 3) yb [ptr mb,ptr fb,ptr wb,.int .i64 i0,.int .i64 i1,.int .i64 i2,.int .i64 (wrap64 (i3-1)),.bool bd,.int .i64 dn] 54 w t w'):=Lib.hid fun _ _ h=>h;generalize hG:sQ 79 (fun x=>x 0=ptr yb∧x 1=ptr b∧x 5=ptr ab∧x 6=.int .i64 3) yb [ptr mb,ptr fb,ptr wb,.int .i64 i0,.int .i64 i1,.int .i64 i2,.int .i64 (wrap64 (i3-1)),.bool bd,.int .i64 dn] 54 w=G at HQ ⊢;have HG:=Lib.hid hG;clear hG;rw[show fg 79 x=#[x 0,x 1,x 2,x 3,x 4,x 5,x 6,x 7,x 8,x 9,x 10,x 11,x 12,x 13,x 14,x 15,x 16,x 17,x 18,x 19,x 20,x 21,x 22,x 23,x 24,x 25,x 26,x 27,x 28,x 29,x 30,x 31,x 32,x 33,x 34,x 35,x 36,x 37,x 38,x 39,x 40,x 41,x 42,x 43,x 44,x 45,x 46,x 47,x 48,x 49,x 50,x 51,x 52,x 53,x 54,x 55,x 56,x 57,x 58,x 59,x 60,x 61,x 62,x 63,x 64,x 65,x 66,x 67,x 68,x 69,x 70,x 71,x 72,x 73,x 74,x 75,x 76,x 77,x 78] from rfl];simp only[q21,Try.f21,Option.getD_some,sL,sR,sB,sT,sF,h0,h1,h5,h6];have c0:=hm.cell 6;have z0:=hm.frozen 6;have HM:=Lib.hid hm;clear hm;refine Code.wp_mono (Q:=fun e a' w'=>match e with | .normal=>a'.defers=[]∧G a'.tmps w' | _=>False) (fun e a' w' h=>by cases e<;>first | exact⟨rfl,h.1,h.2⟩ | exact h.elim) ?_
 go_region_with (fail)
 all_goals
  refine⟨rfl,?_⟩;refine HQ.out _ _ ?_;rw[← HG.out,show IntKind.i64.wrap (i3-1)=wrap64 (i3-1) from by simp only[IntKind.wrap_i64,wrap64]];exact sQ_mk rfl ⟨rfl,rfl,rfl,rfl⟩ ⟨Nat.le_of_eq (World.size_setCell _ _ _).symm,fun c hc hn=>setCell_frame (by simpa using hn)⟩ (show Blk (w.setCell ⟨yb,6,none⟩ (.int .i64 (wrap64 (i3-1)))) yb _ 54 from HM.out.set 6 _)
theorem ex_tail0 {Q:ExQ}{C:WC}{k i n s:Nat}{K:Goroutine→World→Prop}{F c:Frame}{cs rest:List Frame}{st:Nat→TS ExL}{X:Nat→Prop}{w:World}{a:ExA}{x:Nat→Value}(hc:∀ f∈c::rest,OkFr f)(T:Th (exPlan Q) C (k) i K F cs st X w n (exOut (Q.ks i) s false a))(hm:ExM Q a st X w)(hnext:∀ {K F cs st X w n a},Th (exPlan Q) C k i K F cs st X w n (exStart (Q.ks i) (s+1) a)→ExM Q a st X w→K (gs (c.finish (.tuple #[])) (rest++F::cs)) w)(h0:x 0=ptr Q.yb)(h58:x 58=ptr Q.yb)(h62:x 62=.int .i64 0):K (gs ((base 21).at ⟨fg 79 x,[]⟩ [.inRegion (sO (sL (sR (sR (sR (sR (sR (sR (sR q21))))))))) [5,6,7,8,9,10,11,12,13,14],.code (sR (sR (sR (sR (sR (sR (sR (sR q21))))))))]) (c::(rest++F::cs))) w:=by
 have hk:(base 21).kind≠.early:=nofun;have hK:=T.cl;have hD:=hK.det;have hyb:Blk w Q.yb [ptr Q.mb,ptr Q.fb,ptr Q.wb,.int .i64 a.i0,.int .i64 a.i1,.int .i64 a.i2,.int .i64 a.i3,.bool a.bad,.int .i64 a.fin] 54:=hm.cb;refine hD.pure (v:=(.bool false)) (n:=0) hk rfl ⟨rfl,rfl,rfl,(by decide +kernel),nofun⟩ (fun w=>w_neq35 (i:=0) (j:=0) rfl h62 rfl) ?_;refine nm rfl ?_;refine hD.mv (.bool false) hk ?_;refine nm rfl ?_;refine hD.gv (n:=0) (v:=(ptr Q.yb)) hk rfl rfl rfl (by decide +kernel) nofun (fun τ d=>ex_move rfl h0) ?_;refine nm rfl ?_;refine hD.gv (n:=0) (v:=(ptr Q.yb)) hk rfl rfl rfl (by decide +kernel) nofun (fun τ d=>ex_nilc rfl rfl) ?_;refine nm rfl ?_;refine hD.gv (n:=0) (v:=(ptrAt Q.yb 7)) hk rfl rfl rfl (by decide +kernel) nofun (fun τ d=>ex_field (v:=(ptrAt Q.yb 7)) rfl rfl fa54_4) ?_;refine nm rfl ?_;refine hD.gv (n:=0) (v:=(.bool a.bad)) hk rfl rfl rfl (by decide +kernel) nofun (fun τ d=>ex_load rfl rfl (l_4 (hyb.cell 7))) ?_;refine nm rfl ?_;refine hD.pu (.bool a.bad) hk (fun w=>pu_pick (t:=false) rfl rfl rfl) ?_;refine nm rfl ?_;refine hD.nilc (n:=0) hk rfl ⟨rfl,rfl,rfl,rfl,nofun⟩ (show _=(ptr Q.yb) from h58) ?_;refine nm rfl ?_;refine hD.field (n:=0) (v:=(ptrAt Q.yb 7)) (u:=(ptr Q.yb)) hk rfl ⟨rfl,rfl,rfl,rfl,nofun⟩ rfl fa54_4 ?_;refine nm rfl ?_;refine hD.store (n:=0) (u:=(ptrAt Q.yb 7)) (z:=(.bool a.bad)) hk rfl ⟨rfl,rfl,rfl,rfl,nofun⟩ rfl rfl (fun τ d=>((s_4 (w:=re w τ d) (hyb.cell 7) (hyb.frozen 7)).trans (congrArg (Result.ok ()) re_setCell))) (Nat.le_of_eq (World.size_setCell _ _ _).symm) ?_;obtain⟨w1,hsw1⟩:∃ z9,z9=w.setCell ⟨Q.yb,7,none⟩ (.bool a.bad):=⟨_,rfl⟩;have ksw1:Kp [Q.yb] w w1:=by rw[hsw1];exact⟨Nat.le_of_eq (World.size_setCell _ _ _).symm,fun c hc hn=>setCell_frame (by simpa using hn)⟩
 have bw1:Blk w1 Q.yb [ptr Q.mb,ptr Q.fb,ptr Q.wb,.int .i64 a.i0,.int .i64 a.i1,.int .i64 a.i2,.int .i64 a.i3,.bool a.bad,.int .i64 a.fin] 54:=by rw[hsw1];exact hyb.set 7 _
 rw[← hsw1];clear hsw1;refine hD.e0 ?_;refine hD.r0 ?_;refine hD.move (n:=0) (v:=(ptr Q.yb)) hk rfl ⟨rfl,rfl,rfl,rfl,nofun⟩ h0 ?_;refine nm rfl ?_;refine hD.nilc (n:=0) hk rfl ⟨rfl,rfl,rfl,rfl,nofun⟩ (show _=(ptr Q.yb) from rfl) ?_;refine nm rfl ?_;refine hD.field (n:=0) (v:=(ptrAt Q.yb 8)) (u:=(ptr Q.yb)) hk rfl ⟨rfl,rfl,rfl,rfl,nofun⟩ rfl fa54_5 ?_;refine nm rfl ?_;refine hD.ld (.int .i64 a.fin) hk (fun τ d=>l_3 (bw1.cell 8)) ?_;refine nm rfl ?_;refine hD.pu (.int .i64 (wrap64 (a.fin+1))) hk (fun w=>w_add3 rfl rfl rfl) ?_;refine nm rfl ?_;refine hD.nilc (n:=0) hk rfl ⟨rfl,rfl,rfl,rfl,nofun⟩ (show _=(ptr Q.yb) from rfl) ?_;refine nm rfl ?_;refine hD.field (n:=0) (v:=(ptrAt Q.yb 8)) (u:=(ptr Q.yb)) hk rfl ⟨rfl,rfl,rfl,rfl,nofun⟩ rfl fa54_5 ?_;refine nm rfl ?_;refine hD.store (n:=0) (u:=(ptrAt Q.yb 8)) (z:=(.int .i64 (wrap64 (a.fin+1)))) hk rfl ⟨rfl,rfl,rfl,rfl,nofun⟩ rfl rfl (fun τ d=>((s_3 (w:=re w1 τ d) (bw1.cell 8) (bw1.frozen 8)).trans (congrArg (Result.ok ()) re_setCell))) (Nat.le_of_eq (World.size_setCell _ _ _).symm) ?_;obtain⟨w2,hsw2⟩:∃ z9,z9=w1.setCell ⟨Q.yb,8,none⟩ (.int .i64 (wrap64 (a.fin+1))):=⟨_,rfl⟩;have ksw2:Kp [Q.yb] w1 w2:=by rw[hsw2];exact⟨Nat.le_of_eq (World.size_setCell _ _ _).symm,fun c hc hn=>setCell_frame (by simpa using hn)⟩
 have bw2:Blk w2 Q.yb [ptr Q.mb,ptr Q.fb,ptr Q.wb,.int .i64 a.i0,.int .i64 a.i1,.int .i64 a.i2,.int .i64 a.i3,.bool a.bad,.int .i64 (wrap64 (a.fin+1))] 54:=by rw[hsw2];exact bw1.set 8 _
 rw[← hsw2];clear hsw2;refine hD.e0 ?_;refine hD.end (n:=0) ?_;exact hD.leave (n:=0) (b:=base 21) (v:=.tuple #[]) rfl rfl Try.func21 (fun τ d=>res0 rfl) (hc c (by simp)).1 (hnext (T.kp1 (Blk.cel hyb) (by decide) (by decide) hm.xb (ksw1.trans ksw2)) (hm.toY (a':={a with bad:=false||a.bad,fin:=wrap64 (a.fin+1)}) (ksw1.trans ksw2) bw2 rfl rfl rfl rfl rfl rfl rfl))
theorem ex_tail90 {Q:ExQ}{C:WC}{k i n s:Nat}{K:Goroutine→World→Prop}{F c:Frame}{cs rest:List Frame}{st:Nat→TS ExL}{X:Nat→Prop}{w:World}{a:ExA}{x:Nat→Value}(hc:∀ f∈c::rest,OkFr f)(T:Th (exPlan Q) C (k) i K F cs st X w n (exOut (Q.ks i) s true a))(hm:ExM Q a st X w)(hnext:∀ {K F cs st X w n a},Th (exPlan Q) C k i K F cs st X w n (exStart (Q.ks i) (s+1) a)→ExM Q a st X w→K (gs (c.finish (.tuple #[])) (rest++F::cs)) w)(h0:x 0=ptr Q.yb)(h58:x 58=ptr Q.yb)(h62:x 62=.int .i64 90):K (gs ((base 21).at ⟨fg 79 x,[]⟩ [.inRegion (sO (sL (sR (sR (sR (sR (sR (sR (sR q21))))))))) [5,6,7,8,9,10,11,12,13,14],.code (sR (sR (sR (sR (sR (sR (sR (sR q21))))))))]) (c::(rest++F::cs))) w:=by
 have hk:(base 21).kind≠.early:=nofun;have hK:=T.cl;have hD:=hK.det;have hyb:Blk w Q.yb [ptr Q.mb,ptr Q.fb,ptr Q.wb,.int .i64 a.i0,.int .i64 a.i1,.int .i64 a.i2,.int .i64 a.i3,.bool a.bad,.int .i64 a.fin] 54:=hm.cb;refine hD.pure (v:=(.bool true)) (n:=0) hk rfl ⟨rfl,rfl,rfl,(by decide +kernel),nofun⟩ (fun w=>w_neq35 (i:=90) (j:=0) rfl h62 rfl) ?_;refine nm rfl ?_;refine hD.mv (.bool true) hk ?_;refine nm rfl ?_;refine hD.gu (n:=0) rfl rfl rfl (by decide +kernel) nofun ?_;refine nm rfl ?_;refine hD.gu (n:=0) rfl rfl rfl (by decide +kernel) nofun ?_;refine nm rfl ?_;refine hD.gu (n:=0) rfl rfl rfl (by decide +kernel) nofun ?_;refine nm rfl ?_;refine hD.gu (n:=0) rfl rfl rfl (by decide +kernel) nofun ?_;refine nm rfl ?_;refine hD.pu (.bool true) hk (fun w=>pu_pick (t:=true) rfl rfl rfl) ?_;refine nm rfl ?_;refine hD.nilc (n:=0) hk rfl ⟨rfl,rfl,rfl,rfl,nofun⟩ (show _=(ptr Q.yb) from h58) ?_;refine nm rfl ?_;refine hD.field (n:=0) (v:=(ptrAt Q.yb 7)) (u:=(ptr Q.yb)) hk rfl ⟨rfl,rfl,rfl,rfl,nofun⟩ rfl fa54_4 ?_;refine nm rfl ?_;refine hD.store (n:=0) (u:=(ptrAt Q.yb 7)) (z:=(.bool true)) hk rfl ⟨rfl,rfl,rfl,rfl,nofun⟩ rfl rfl (fun τ d=>((s_4 (w:=re w τ d) (hyb.cell 7) (hyb.frozen 7)).trans (congrArg (Result.ok ()) re_setCell))) (Nat.le_of_eq (World.size_setCell _ _ _).symm) ?_;obtain⟨w1,hsw1⟩:∃ z9,z9=w.setCell ⟨Q.yb,7,none⟩ (.bool true):=⟨_,rfl⟩;have ksw1:Kp [Q.yb] w w1:=by rw[hsw1];exact⟨Nat.le_of_eq (World.size_setCell _ _ _).symm,fun c hc hn=>setCell_frame (by simpa using hn)⟩
 have bw1:Blk w1 Q.yb [ptr Q.mb,ptr Q.fb,ptr Q.wb,.int .i64 a.i0,.int .i64 a.i1,.int .i64 a.i2,.int .i64 a.i3,.bool true,.int .i64 a.fin] 54:=by rw[hsw1];exact hyb.set 7 _
 rw[← hsw1];clear hsw1;refine hD.e0 ?_;refine hD.r0 ?_;refine hD.move (n:=0) (v:=(ptr Q.yb)) hk rfl ⟨rfl,rfl,rfl,rfl,nofun⟩ h0 ?_;refine nm rfl ?_;refine hD.nilc (n:=0) hk rfl ⟨rfl,rfl,rfl,rfl,nofun⟩ (show _=(ptr Q.yb) from rfl) ?_;refine nm rfl ?_;refine hD.field (n:=0) (v:=(ptrAt Q.yb 8)) (u:=(ptr Q.yb)) hk rfl ⟨rfl,rfl,rfl,rfl,nofun⟩ rfl fa54_5 ?_;refine nm rfl ?_;refine hD.ld (.int .i64 a.fin) hk (fun τ d=>l_3 (bw1.cell 8)) ?_;refine nm rfl ?_;refine hD.pu (.int .i64 (wrap64 (a.fin+1))) hk (fun w=>w_add3 rfl rfl rfl) ?_;refine nm rfl ?_;refine hD.nilc (n:=0) hk rfl ⟨rfl,rfl,rfl,rfl,nofun⟩ (show _=(ptr Q.yb) from rfl) ?_;refine nm rfl ?_;refine hD.field (n:=0) (v:=(ptrAt Q.yb 8)) (u:=(ptr Q.yb)) hk rfl ⟨rfl,rfl,rfl,rfl,nofun⟩ rfl fa54_5 ?_;refine nm rfl ?_;refine hD.store (n:=0) (u:=(ptrAt Q.yb 8)) (z:=(.int .i64 (wrap64 (a.fin+1)))) hk rfl ⟨rfl,rfl,rfl,rfl,nofun⟩ rfl rfl (fun τ d=>((s_3 (w:=re w1 τ d) (bw1.cell 8) (bw1.frozen 8)).trans (congrArg (Result.ok ()) re_setCell))) (Nat.le_of_eq (World.size_setCell _ _ _).symm) ?_;obtain⟨w2,hsw2⟩:∃ z9,z9=w1.setCell ⟨Q.yb,8,none⟩ (.int .i64 (wrap64 (a.fin+1))):=⟨_,rfl⟩;have ksw2:Kp [Q.yb] w1 w2:=by rw[hsw2];exact⟨Nat.le_of_eq (World.size_setCell _ _ _).symm,fun c hc hn=>setCell_frame (by simpa using hn)⟩
 have bw2:Blk w2 Q.yb [ptr Q.mb,ptr Q.fb,ptr Q.wb,.int .i64 a.i0,.int .i64 a.i1,.int .i64 a.i2,.int .i64 a.i3,.bool true,.int .i64 (wrap64 (a.fin+1))] 54:=by rw[hsw2];exact bw1.set 8 _
 rw[← hsw2];clear hsw2;refine hD.e0 ?_;refine hD.end (n:=0) ?_;exact hD.leave (n:=0) (b:=base 21) (v:=.tuple #[]) rfl rfl Try.func21 (fun τ d=>res0 rfl) (hc c (by simp)).1 (hnext (T.kp1 (Blk.cel hyb) (by decide) (by decide) hm.xb (ksw1.trans ksw2)) (hm.toY (a':={a with bad:=true||a.bad,fin:=wrap64 (a.fin+1)}) (ksw1.trans ksw2) bw2 rfl rfl rfl rfl rfl rfl rfl))
theorem ex_leave0 {Q:ExQ}{C:WC}{k i n s:Nat}{K:Goroutine→World→Prop}{F c:Frame}{cs rest:List Frame}{st:Nat→TS ExL}{X:Nat→Prop}{w:World}{a:ExA}{x:Nat→Value}{ab:Nat}(hc:∀ f∈c::rest,OkFr f)(hkd:((Q.ks i).getD s (0,0)).1=0)(T:Th (exPlan Q) C (k+1) i K F cs st X w n (a.setIn 0 (wrap64 (a.ins 0-1)),some (.leave s)))(hm:ExM Q a st X w)(hnext:∀ {K F cs st X w n a},Th (exPlan Q) C k i K F cs st X w n (exStart (Q.ks i) (s+1) a)→ExM Q a st X w→K (gs (c.finish (.tuple #[])) (rest++F::cs)) w)(h0:x 0=ptr Q.yb)(h1:x 1=ptr (C.bt i))(h5:x 5=ptr ab)(h6:x 6=.int .i64 0):K (gs ((base 21).at ⟨fg 79 x,[]⟩ [.code (sL (sR (sR (sR (sR (sR (sR q21))))))),.code (sR (sR (sR (sR (sR (sR (sR q21)))))))]) (c::(rest++F::cs))) w:=by
 have hk:(base 21).kind≠.early:=nofun;have hK:=T.cl;have hD:=hK.det;have hyb:Blk w Q.yb [ptr Q.mb,ptr Q.fb,ptr Q.wb,.int .i64 a.i0,.int .i64 a.i1,.int .i64 a.i2,.int .i64 a.i3,.bool a.bad,.int .i64 a.fin] 54:=hm.cb;refine hK.seg fits shut (b:=base 21) ⟨_,Try.func21⟩ nofun (c:=(sL (sR (sR (sR (sR (sR (sR q21)))))))) (by decide +kernel) (Q:=sQ 79 (fun x=>x 0=ptr Q.yb∧x 1=ptr (C.bt i)∧x 5=ptr ab∧x 6=.int .i64 0) Q.yb [ptr Q.mb,ptr Q.fb,ptr Q.wb,.int .i64 (wrap64 (a.i0-1)),.int .i64 a.i1,.int .i64 a.i2,.int .i64 a.i3,.bool a.bad,.int .i64 a.fin] 54 w) (fun t w' τ d h=>sQ_re h τ d) (fun τ d=>Code.wp_mono (fun e a w' ⟨h1,h2,h3⟩=>⟨h1,h2,sQ_un h3⟩) (oq21d0 (re w τ d) _ Q.yb Q.mb Q.fb Q.wb (C.bt i) ab a.i0 a.i1 a.i2 a.i3 a.fin a.bad hyb h0 h1 h5 h6)) fun t w1 ⟨x',ex',⟨g0,g1,g5,g6⟩,ksw1,bw1⟩=>?_;subst ex';rw[allK.self (x:=x') (l:=[(0,ptr Q.yb),(1,ptr (C.bt i)),(5,ptr ab),(6,.int .i64 0)]) ⟨g0,g1,g5,g6,trivial⟩];have T:=T.kp1 (Blk.cel hyb) (by decide) (by decide) hm.xb ksw1;have hm:=hm.toY (a':={a with i0:=wrap64 (a.i0-1)}) ksw1 bw1 rfl rfl rfl rfl rfl rfl rfl;refine hD.s0 ?_;refine hD.r0 ?_;refine hD.mv (ptr Q.yb) hk ?_;refine nm rfl ?_;refine hD.mv (ptr Q.yb) hk ?_;refine nm rfl ?_;refine hD.mv (ptr (C.bt i)) hk ?_;refine nm rfl ?_;refine hD.mv (.int .i64 0) hk ?_;refine nm rfl ?_;refine hD.cf #[ptr Q.yb,ptr (C.bt i),.int .i64 0] hk Try.func42 ?_;refine leaves0 (p:=exPlan Q) (l:=ExL.leave s) (g:=[]) (rest:=c::rest) bw1 T (fun f hf=>by rcases List.mem_cons.1 hf with rfl | hf;exact⟨rfl,rfl,_,Try.func21⟩;exact hc f hf) (Blk.cel hm.cm) (hm.put (fun _ h=>h) hm.lt i _ fun l g rv e=>by cases e;rfl) fun K F cs st X w n a T q1 hm=>?_;refine⟨a.mby,hm.cm,hm.xm,fun e w1 k1 b1 T=>?_,fun e w1 k1 b1 T=>?_⟩
 ·have hK:=T.cl
  have hD:=hK.det;refine fin0 (some 62) ?_;refine nm rfl ?_;exact ex_tail90 hc (T.eqP ((exGo_l0 (a:=a) (n:=n) hkd).trans (if_neg e))) (hm.kp k1) hnext rfl rfl rfl
 ·have hK:=T.cl
  have hD:=hK.det;refine fin0 (some 62) ?_;refine nm rfl ?_;exact ex_tail0 hc (T.eqP ((exGo_l0 (a:=a) (n:=n) hkd).trans (if_pos e))) (hm.toM k1 b1) hnext rfl rfl rfl
theorem ex_leave1 {Q:ExQ}{C:WC}{k i n s:Nat}{K:Goroutine→World→Prop}{F c:Frame}{cs rest:List Frame}{st:Nat→TS ExL}{X:Nat→Prop}{w:World}{a:ExA}{x:Nat→Value}{ab:Nat}(hc:∀ f∈c::rest,OkFr f)(hkd:((Q.ks i).getD s (0,0)).1=1)(T:Th (exPlan Q) C (k+1) i K F cs st X w n (a.setIn 1 (wrap64 (a.ins 1-1)),some (.leave s)))(hm:ExM Q a st X w)(hnext:∀ {K F cs st X w n a},Th (exPlan Q) C k i K F cs st X w n (exStart (Q.ks i) (s+1) a)→ExM Q a st X w→K (gs (c.finish (.tuple #[])) (rest++F::cs)) w)(h0:x 0=ptr Q.yb)(h1:x 1=ptr (C.bt i))(h5:x 5=ptr ab)(h6:x 6=.int .i64 1):K (gs ((base 21).at ⟨fg 79 x,[]⟩ [.code (sL (sR (sR (sR (sR (sR (sR q21))))))),.code (sR (sR (sR (sR (sR (sR (sR q21)))))))]) (c::(rest++F::cs))) w:=by
 have hk:(base 21).kind≠.early:=nofun;have hK:=T.cl;have hD:=hK.det;have hyb:Blk w Q.yb [ptr Q.mb,ptr Q.fb,ptr Q.wb,.int .i64 a.i0,.int .i64 a.i1,.int .i64 a.i2,.int .i64 a.i3,.bool a.bad,.int .i64 a.fin] 54:=hm.cb;refine hK.seg fits shut (b:=base 21) ⟨_,Try.func21⟩ nofun (c:=(sL (sR (sR (sR (sR (sR (sR q21)))))))) (by decide +kernel) (Q:=sQ 79 (fun x=>x 0=ptr Q.yb∧x 1=ptr (C.bt i)∧x 5=ptr ab∧x 6=.int .i64 1) Q.yb [ptr Q.mb,ptr Q.fb,ptr Q.wb,.int .i64 a.i0,.int .i64 (wrap64 (a.i1-1)),.int .i64 a.i2,.int .i64 a.i3,.bool a.bad,.int .i64 a.fin] 54 w) (fun t w' τ d h=>sQ_re h τ d) (fun τ d=>Code.wp_mono (fun e a w' ⟨h1,h2,h3⟩=>⟨h1,h2,sQ_un h3⟩) (oq21d1 (re w τ d) _ Q.yb Q.mb Q.fb Q.wb (C.bt i) ab a.i0 a.i1 a.i2 a.i3 a.fin a.bad hyb h0 h1 h5 h6)) fun t w1 ⟨x',ex',⟨g0,g1,g5,g6⟩,ksw1,bw1⟩=>?_;subst ex';rw[allK.self (x:=x') (l:=[(0,ptr Q.yb),(1,ptr (C.bt i)),(5,ptr ab),(6,.int .i64 1)]) ⟨g0,g1,g5,g6,trivial⟩];have T:=T.kp1 (Blk.cel hyb) (by decide) (by decide) hm.xb ksw1;have hm:=hm.toY (a':={a with i1:=wrap64 (a.i1-1)}) ksw1 bw1 rfl rfl rfl rfl rfl rfl rfl;refine hD.s0 ?_;refine hD.r0 ?_;refine hD.mv (ptr Q.yb) hk ?_;refine nm rfl ?_;refine hD.mv (ptr Q.yb) hk ?_;refine nm rfl ?_;refine hD.mv (ptr (C.bt i)) hk ?_;refine nm rfl ?_;refine hD.mv (.int .i64 1) hk ?_;refine nm rfl ?_;refine hD.cf #[ptr Q.yb,ptr (C.bt i),.int .i64 1] hk Try.func42 ?_;refine leaves1 (p:=exPlan Q) (l:=ExL.leave s) (g:=[]) (rest:=c::rest) bw1 T (fun f hf=>by rcases List.mem_cons.1 hf with rfl | hf;exact⟨rfl,rfl,_,Try.func21⟩;exact hc f hf) (Blk.cel hm.cf) (hm.put (fun _ h=>h) hm.lt i _ fun l g rv e=>by cases e;rfl) fun K F cs st X w n a T q1 hm=>?_;refine⟨a.fby,a.fas,a.fha,hm.cf,hm.xf,fun e w1 k1 b1 T=>?_,fun e w1 k1 b1 T=>?_⟩
 ·have hK:=T.cl
  have hD:=hK.det;refine fin0 (some 62) ?_;refine nm rfl ?_;exact ex_tail90 hc (T.eqP ((exGo_l1 (a:=a) (n:=n) hkd).trans (if_neg e))) (hm.kp k1) hnext rfl rfl rfl
 ·have hK:=T.cl
  have hD:=hK.det;refine fin0 (some 62) ?_;refine nm rfl ?_;exact ex_tail0 hc (T.eqP ((exGo_l1 (a:=a) (n:=n) hkd).trans (if_pos e))) (hm.toF k1 b1) hnext rfl rfl rfl
theorem ex_leave2 {Q:ExQ}{C:WC}{k i n s:Nat}{K:Goroutine→World→Prop}{F c:Frame}{cs rest:List Frame}{st:Nat→TS ExL}{X:Nat→Prop}{w:World}{a:ExA}{x:Nat→Value}{ab:Nat}(hc:∀ f∈c::rest,OkFr f)(hkd:((Q.ks i).getD s (0,0)).1=2)(T:Th (exPlan Q) C (k+1) i K F cs st X w n (a.setIn 2 (wrap64 (a.ins 2-1)),some (.leave s)))(hm:ExM Q a st X w)(hnext:∀ {K F cs st X w n a},Th (exPlan Q) C k i K F cs st X w n (exStart (Q.ks i) (s+1) a)→ExM Q a st X w→K (gs (c.finish (.tuple #[])) (rest++F::cs)) w)(h0:x 0=ptr Q.yb)(h1:x 1=ptr (C.bt i))(h5:x 5=ptr ab)(h6:x 6=.int .i64 2):K (gs ((base 21).at ⟨fg 79 x,[]⟩ [.code (sL (sR (sR (sR (sR (sR (sR q21))))))),.code (sR (sR (sR (sR (sR (sR (sR q21)))))))]) (c::(rest++F::cs))) w:=by
 have hk:(base 21).kind≠.early:=nofun;have hK:=T.cl;have hD:=hK.det;have hyb:Blk w Q.yb [ptr Q.mb,ptr Q.fb,ptr Q.wb,.int .i64 a.i0,.int .i64 a.i1,.int .i64 a.i2,.int .i64 a.i3,.bool a.bad,.int .i64 a.fin] 54:=hm.cb;refine hK.seg fits shut (b:=base 21) ⟨_,Try.func21⟩ nofun (c:=(sL (sR (sR (sR (sR (sR (sR q21)))))))) (by decide +kernel) (Q:=sQ 79 (fun x=>x 0=ptr Q.yb∧x 1=ptr (C.bt i)∧x 5=ptr ab∧x 6=.int .i64 2) Q.yb [ptr Q.mb,ptr Q.fb,ptr Q.wb,.int .i64 a.i0,.int .i64 a.i1,.int .i64 (wrap64 (a.i2-1)),.int .i64 a.i3,.bool a.bad,.int .i64 a.fin] 54 w) (fun t w' τ d h=>sQ_re h τ d) (fun τ d=>Code.wp_mono (fun e a w' ⟨h1,h2,h3⟩=>⟨h1,h2,sQ_un h3⟩) (oq21d2 (re w τ d) _ Q.yb Q.mb Q.fb Q.wb (C.bt i) ab a.i0 a.i1 a.i2 a.i3 a.fin a.bad hyb h0 h1 h5 h6)) fun t w1 ⟨x',ex',⟨g0,g1,g5,g6⟩,ksw1,bw1⟩=>?_;subst ex';rw[allK.self (x:=x') (l:=[(0,ptr Q.yb),(1,ptr (C.bt i)),(5,ptr ab),(6,.int .i64 2)]) ⟨g0,g1,g5,g6,trivial⟩];have T:=T.kp1 (Blk.cel hyb) (by decide) (by decide) hm.xb ksw1;have hm:=hm.toY (a':={a with i2:=wrap64 (a.i2-1)}) ksw1 bw1 rfl rfl rfl rfl rfl rfl rfl;refine hD.s0 ?_;refine hD.r0 ?_;refine hD.mv (ptr Q.yb) hk ?_;refine nm rfl ?_;refine hD.mv (ptr Q.yb) hk ?_;refine nm rfl ?_;refine hD.mv (ptr (C.bt i)) hk ?_;refine nm rfl ?_;refine hD.mv (.int .i64 2) hk ?_;refine nm rfl ?_;refine hD.cf #[ptr Q.yb,ptr (C.bt i),.int .i64 2] hk Try.func42 ?_;refine leaves2 (p:=exPlan Q) (l:=ExL.leave s) (g:=[]) (rest:=c::rest) bw1 T (fun f hf=>by rcases List.mem_cons.1 hf with rfl | hf;exact⟨rfl,rfl,_,Try.func21⟩;exact hc f hf) (Blk.cel hm.cw) (hm.put (fun _ h=>h) hm.lt i _ fun l g rv e=>by cases e;rfl) fun K F cs st X w n a T q1 hm=>?_;refine⟨a.wby,a.wrd,a.wwt,hm.xw,hm.cw,fun e T=>?_,fun e w1 k1 b1 T=>?_⟩
 ·have hK:=T.cl
  have hD:=hK.det;refine fin0 (some 62) ?_;refine nm rfl ?_;exact ex_tail90 hc (T.eqP ((exGo_l2 (a:=a) (n:=n) hkd).trans (if_pos e))) (hm) hnext rfl rfl rfl
 ·have hK:=T.cl
  have hD:=hK.det;refine fin0 (some 62) ?_;refine nm rfl ?_;exact ex_tail0 hc (T.eqP ((exGo_l2 (a:=a) (n:=n) hkd).trans (if_neg e))) (hm.toW k1 b1) hnext rfl rfl rfl
theorem ex_leave3 {Q:ExQ}{C:WC}{k i n s:Nat}{K:Goroutine→World→Prop}{F c:Frame}{cs rest:List Frame}{st:Nat→TS ExL}{X:Nat→Prop}{w:World}{a:ExA}{x:Nat→Value}{ab:Nat}(hc:∀ f∈c::rest,OkFr f)(hkd:((Q.ks i).getD s (0,0)).1=3)(T:Th (exPlan Q) C (k+1) i K F cs st X w n (a.setIn 3 (wrap64 (a.ins 3-1)),some (.leave s)))(hm:ExM Q a st X w)(hnext:∀ {K F cs st X w n a},Th (exPlan Q) C k i K F cs st X w n (exStart (Q.ks i) (s+1) a)→ExM Q a st X w→K (gs (c.finish (.tuple #[])) (rest++F::cs)) w)(h0:x 0=ptr Q.yb)(h1:x 1=ptr (C.bt i))(h5:x 5=ptr ab)(h6:x 6=.int .i64 3):K (gs ((base 21).at ⟨fg 79 x,[]⟩ [.code (sL (sR (sR (sR (sR (sR (sR q21))))))),.code (sR (sR (sR (sR (sR (sR (sR q21)))))))]) (c::(rest++F::cs))) w:=by
 have hk:(base 21).kind≠.early:=nofun;have hK:=T.cl;have hD:=hK.det;have hyb:Blk w Q.yb [ptr Q.mb,ptr Q.fb,ptr Q.wb,.int .i64 a.i0,.int .i64 a.i1,.int .i64 a.i2,.int .i64 a.i3,.bool a.bad,.int .i64 a.fin] 54:=hm.cb;refine hK.seg fits shut (b:=base 21) ⟨_,Try.func21⟩ nofun (c:=(sL (sR (sR (sR (sR (sR (sR q21)))))))) (by decide +kernel) (Q:=sQ 79 (fun x=>x 0=ptr Q.yb∧x 1=ptr (C.bt i)∧x 5=ptr ab∧x 6=.int .i64 3) Q.yb [ptr Q.mb,ptr Q.fb,ptr Q.wb,.int .i64 a.i0,.int .i64 a.i1,.int .i64 a.i2,.int .i64 (wrap64 (a.i3-1)),.bool a.bad,.int .i64 a.fin] 54 w) (fun t w' τ d h=>sQ_re h τ d) (fun τ d=>Code.wp_mono (fun e a w' ⟨h1,h2,h3⟩=>⟨h1,h2,sQ_un h3⟩) (oq21d3 (re w τ d) _ Q.yb Q.mb Q.fb Q.wb (C.bt i) ab a.i0 a.i1 a.i2 a.i3 a.fin a.bad hyb h0 h1 h5 h6)) fun t w1 ⟨x',ex',⟨g0,g1,g5,g6⟩,ksw1,bw1⟩=>?_;subst ex';rw[allK.self (x:=x') (l:=[(0,ptr Q.yb),(1,ptr (C.bt i)),(5,ptr ab),(6,.int .i64 3)]) ⟨g0,g1,g5,g6,trivial⟩];have T:=T.kp1 (Blk.cel hyb) (by decide) (by decide) hm.xb ksw1;have hm:=hm.toY (a':={a with i3:=wrap64 (a.i3-1)}) ksw1 bw1 rfl rfl rfl rfl rfl rfl rfl;refine hD.s0 ?_;refine hD.r0 ?_;refine hD.mv (ptr Q.yb) hk ?_;refine nm rfl ?_;refine hD.mv (ptr Q.yb) hk ?_;refine nm rfl ?_;refine hD.mv (ptr (C.bt i)) hk ?_;refine nm rfl ?_;refine hD.mv (.int .i64 3) hk ?_;refine nm rfl ?_;refine hD.cf #[ptr Q.yb,ptr (C.bt i),.int .i64 3] hk Try.func42 ?_;refine leaves3 (p:=exPlan Q) (l:=ExL.leave s) (g:=[]) (rest:=c::rest) bw1 T (fun f hf=>by rcases List.mem_cons.1 hf with rfl | hf;exact⟨rfl,rfl,_,Try.func21⟩;exact hc f hf) (Blk.cel hm.cw) (hm.put (fun _ h=>h) hm.lt i _ fun l g rv e=>by cases e;rfl) fun K F cs st X w n a T q1 hm=>?_;refine⟨a.wby,a.wrd,a.wwt,hm.cw,hm.xw,fun e w1 k1 b1 T=>?_,fun e w1 k1 b1 T=>?_⟩
 ·have hK:=T.cl
  have hD:=hK.det;refine fin0 (some 62) ?_;refine nm rfl ?_;exact ex_tail90 hc (T.eqP ((exGo_l3 (a:=a) (n:=n) hkd).trans (if_neg e))) (hm.kp k1) hnext rfl rfl rfl
 ·have hK:=T.cl
  have hD:=hK.det;refine fin0 (some 62) ?_;refine nm rfl ?_;exact ex_tail0 hc (T.eqP ((exGo_l3 (a:=a) (n:=n) hkd).trans (if_pos e))) (hm.toW k1 b1) hnext rfl rfl rfl
theorem ex_loop {Q:ExQ}{C:WC}{k i s:Nat}{c:Frame}{rest:List Frame}{z:Int × Int}{v6:Value}(hc:∀ f∈c::rest,OkFr f)(hz:(Q.acts i)[s]?=some z)(hi:i<Q.n)(hleave:∀ {K F cs st X w n a} {x:Nat→Value} {ab:Nat},Th (exPlan Q) C (k+1) i K F cs st X w n (a.setIn (fourN z.1) (wrap64 (a.ins (fourN z.1)-1)),some (.leave s))→ExM Q a st X w→x 0=ptr Q.yb→x 1=ptr (C.bt i)→x 5=ptr ab→x 6=v6→K (gs ((base 21).at ⟨fg 79 x,[]⟩ [.code (sL (sR (sR (sR (sR (sR (sR q21))))))),.code (sR (sR (sR (sR (sR (sR (sR q21)))))))]) (c::(rest++F::cs))) w):∀ (d:Nat) {t n:Nat} {K:Goroutine→World→Prop} {F:Frame} {cs:List Frame} {st:Nat→TS ExL} {X:Nat→Prop} {w:World} {a:ExA} {x:Nat→Value} {ab:Nat},fourN z.2=t+d→Th (exPlan Q) C (k+1+d) i K F cs st X w n (exLook (Q.ks i) s t a)→ExM Q a st X w→exBox Q i s X w ab→x 0=ptr Q.yb→x 1=ptr (C.bt i)→x 5=ptr ab→x 6=v6→x 7=.int .i64 (t:Int)→K (gs ((base 21).at ⟨fg 79 x,[]⟩ [.code (sB (sB (sR (sL (sR (sR (sR (sR (sR q21))))))))),.inLoop (sB (sB (sR (sL (sR (sR (sR (sR (sR q21))))))))),.inBlock 0,.code (sR (sR (sR (sR (sR (sR q21))))))]) (c::(rest++F::cs))) w
 | d,t,n,K,F,cs,st,X,w,a,x,ab,hd,T,hm,hbox,h0,h1,h5,h6,h7=>by
  have hks:(Q.ks i).getD s (0,0)=(fourN z.1,fourN z.2):=(exK_at hz).2;have hk:(base 21).kind≠.early:=nofun;have hK:=T.cl;have hD:=hK.det;have hyb:Blk w Q.yb [ptr Q.mb,ptr Q.fb,ptr Q.wb,.int .i64 a.i0,.int .i64 a.i1,.int .i64 a.i2,.int .i64 a.i3,.bool a.bad,.int .i64 a.fin] 54:=hm.cb;have hzb:=hbox.2;obtain⟨z',hz',hab⟩:=hzb;obtain rfl:z=z':=oj' (hz.symm.trans hz');refine hD.s0 ?_;refine hD.s0 ?_;refine hD.r0 ?_;refine hD.move (n:=0) (v:=(.int .i64 (t:Int))) hk rfl ⟨rfl,rfl,rfl,rfl,nofun⟩ h7 ?_;refine nm rfl ?_;refine hD.field (n:=0) (v:=(ptrAt ab 1)) (u:=(ptr ab)) hk rfl ⟨rfl,rfl,rfl,rfl,nofun⟩ h5 fa58_1 ?_;refine nm rfl ?_;refine hD.ld (.int .i64 z.2) hk (fun τ d=>l_3 (hab.cell 1)) ?_;refine nm rfl ?_;refine hD.cf #[.int .i64 z.2] hk Try.func39 ?_;refine hK.callp fits shut (f:=39) rfl (v:=.int .i64 (fourN z.2:Int)) (fun τ d=>four_calls (re w τ d) z.2) ?_;refine fin0 (some 40) ?_;refine nm rfl ?_;refine hD.pu (.bool (decide ((t:Int)<(fourN z.2:Int)))) hk (fun w=>w_lss3 rfl rfl rfl) ?_;refine nm rfl ?_;refine hD.e0 ?_;by_cases ht:t<fourN z.2
  ·obtain⟨d',rfl⟩:∃ d',d=d'+1:=⟨d-1,by omega⟩
   have T:Th (exPlan Q) C (k+1+d'+1) i K F cs st X w n (a,some (.look s t)):=T.eqP (by unfold exLook;rw[hks];exact if_pos ht);refine hD.cond (n:=0) true (show Value.bool (decide ((t:Int)<(fourN z.2:Int)))=_ by rw[decide_eq_true (by omega)]) rfl ?_;refine hD.k0 ?_;refine hD.s0 ?_;refine hD.block (n:=0) ?_;refine hD.s0 ?_;refine hD.r0 ?_;refine hD.move (n:=0) (v:=(ptr (C.bt i))) hk rfl ⟨rfl,rfl,rfl,rfl,nofun⟩ h1 ?_;refine nm rfl ?_;refine hD.cf #[ptr (C.bt i)] hk Try.func29 ?_;refine ThR.step (p:=exPlan Q) (l:=ExL.look s t) (g:=[ab]) (rest:=c::rest) T (fun f hf=>by rcases List.mem_cons.1 hf with rfl | hf;exact⟨rfl,rfl,_,Try.func21⟩;exact hc f hf) (hm.put (fun _ h=>h) hm.lt i _ fun l g rv e=>by cases e;exact⟨rfl,ab,rfl,hbox⟩) fun K F cs st X w n a T q1 hm=>?_;obtain⟨rv,hst⟩:=q1;obtain⟨_,ab',hg,hbox⟩:=hm.sus i _ _ _ hst;obtain rfl:ab=ab':=(List.cons.inj hg).1;have hK:=T.cl;have hD:=hK.det;refine fin0 (some 45) ?_;refine nm rfl ?_;refine hD.e0 ?_;refine hD.r0 ?_;refine hD.move (n:=0) (v:=(ptr Q.yb)) hk rfl ⟨rfl,rfl,rfl,rfl,nofun⟩ h0 ?_;refine nm rfl ?_;refine hD.cf #[ptr Q.yb] hk Try.func41 ?_;refine ex_looks hK hm fun w1 k1 b1=>?_;have T:Th (exPlan Q) C (k+1+d') i K F cs st X w1 n (exLook (Q.ks i) s (t+1) a.looks):=T.kp1 (Blk.cel hm.cb) (by decide) (by decide) hm.xb k1;have hbox:=hbox.kpY hm k1;have hm:=hm.toY (a':=a.looks) k1 b1 rfl rfl rfl rfl rfl rfl rfl;refine fin0 (some 47) ?_;refine nm rfl ?_;refine hD.e0 ?_;refine hD.inBlock (n:=0) ?_;refine hD.r0 ?_;refine hD.move (n:=0) (v:=(.int .i64 (t:Int))) hk rfl ⟨rfl,rfl,rfl,rfl,nofun⟩ h7 ?_;refine nm rfl ?_;refine hD.pu (.int .i64 (wrap64 ((t:Int)+1))) hk (fun w=>w_add3 rfl rfl rfl) ?_;refine nm rfl ?_;refine hD.as (.int .i64 (wrap64 ((t:Int)+1))) hk ?_;refine nm rfl ?_;refine hD.e0 ?_;refine hD.inLoop (n:=0) ?_;exact ex_loop hc hz hi hleave d' (by omega) T hm hbox h0 h1 h5 h6 (next_nat t (by have:=fourN_lt z.2;omega))
  ·refine hD.cond (n:=0) false (show Value.bool (decide ((t:Int)<(fourN z.2:Int)))=_ by rw[decide_eq_false (by omega)]) rfl ?_
   refine hD.exit (n:=0) rfl ?_;refine hD.s0 ?_;obtain rfl:d=0:=by omega
   exact hleave (T.eqP (by unfold exLook;rw[hks];exact if_neg ht)) hm h0 h1 h5 h6
theorem ex_mid0 {Q:ExQ}{C:WC}{k i n s:Nat}{K:Goroutine→World→Prop}{F c:Frame}{cs rest:List Frame}{st:Nat→TS ExL}{X:Nat→Prop}{w:World}{a:ExA}{x:Nat→Value}{ab:Nat}{z:Int × Int}(hc:∀ f∈c::rest,OkFr f)(hi:i<Q.n)(hz:(Q.acts i)[s]?=some z)(hz1:fourN z.1=0)(T:Th (exPlan Q) C (k+5) i K F cs st X w n (exIn (Q.ks i) s a))(hm:ExM Q a st X w)(hbox:exBox Q i s X w ab)(hnext:∀ {K F cs st X w n a},Th (exPlan Q) C k i K F cs st X w n (exStart (Q.ks i) (s+1) a)→ExM Q a st X w→K (gs (c.finish (.tuple #[])) (rest++F::cs)) w)(h0:x 0=ptr Q.yb)(h1:x 1=ptr (C.bt i))(h5:x 5=ptr ab)(h6:x 6=.int .i64 0)(h11:x 11=ptr Q.yb)(h15:x 15=.int .i64 0):K (gs ((base 21).at ⟨fg 79 x,[]⟩ [.inRegion (sO (sL (sR (sR q21)))) [5,6,7,8,9,10,11,12,13,14],.code (sR (sR (sR q21)))]) (c::(rest++F::cs))) w:=by
 have hk:(base 21).kind≠.early:=nofun;have hK:=T.cl;have hD:=hK.det;have hyb:Blk w Q.yb [ptr Q.mb,ptr Q.fb,ptr Q.wb,.int .i64 a.i0,.int .i64 a.i1,.int .i64 a.i2,.int .i64 a.i3,.bool a.bad,.int .i64 a.fin] 54:=hm.cb;refine hD.pure (v:=(.bool false)) (n:=0) hk rfl ⟨rfl,rfl,rfl,(by decide +kernel),nofun⟩ (fun w=>w_neq35 (i:=0) (j:=0) rfl h15 rfl) ?_;refine nm rfl ?_;refine hD.mv (.bool false) hk ?_;refine nm rfl ?_;refine hD.gv (n:=0) (v:=(ptr Q.yb)) hk rfl rfl rfl (by decide +kernel) nofun (fun τ d=>ex_move rfl h0) ?_;refine nm rfl ?_;refine hD.gv (n:=0) (v:=(ptr Q.yb)) hk rfl rfl rfl (by decide +kernel) nofun (fun τ d=>ex_nilc rfl rfl) ?_;refine nm rfl ?_;refine hD.gv (n:=0) (v:=(ptrAt Q.yb 7)) hk rfl rfl rfl (by decide +kernel) nofun (fun τ d=>ex_field (v:=(ptrAt Q.yb 7)) rfl rfl fa54_4) ?_;refine nm rfl ?_;refine hD.gv (n:=0) (v:=(.bool a.bad)) hk rfl rfl rfl (by decide +kernel) nofun (fun τ d=>ex_load rfl rfl (l_4 (hyb.cell 7))) ?_;refine nm rfl ?_;refine hD.pu (.bool a.bad) hk (fun w=>pu_pick (t:=false) rfl rfl rfl) ?_;refine nm rfl ?_;refine hD.nilc (n:=0) hk rfl ⟨rfl,rfl,rfl,rfl,nofun⟩ (show _=(ptr Q.yb) from h11) ?_;refine nm rfl ?_;refine hD.field (n:=0) (v:=(ptrAt Q.yb 7)) (u:=(ptr Q.yb)) hk rfl ⟨rfl,rfl,rfl,rfl,nofun⟩ rfl fa54_4 ?_;refine nm rfl ?_;refine hD.store (n:=0) (u:=(ptrAt Q.yb 7)) (z:=(.bool a.bad)) hk rfl ⟨rfl,rfl,rfl,rfl,nofun⟩ rfl rfl (fun τ d=>((s_4 (w:=re w τ d) (hyb.cell 7) (hyb.frozen 7)).trans (congrArg (Result.ok ()) re_setCell))) (Nat.le_of_eq (World.size_setCell _ _ _).symm) ?_;obtain⟨w1,hsw1⟩:∃ z9,z9=w.setCell ⟨Q.yb,7,none⟩ (.bool a.bad):=⟨_,rfl⟩;have ksw1:Kp [Q.yb] w w1:=by rw[hsw1];exact⟨Nat.le_of_eq (World.size_setCell _ _ _).symm,fun c hc hn=>setCell_frame (by simpa using hn)⟩
 have bw1:Blk w1 Q.yb [ptr Q.mb,ptr Q.fb,ptr Q.wb,.int .i64 a.i0,.int .i64 a.i1,.int .i64 a.i2,.int .i64 a.i3,.bool a.bad,.int .i64 a.fin] 54:=by rw[hsw1];exact hyb.set 7 _
 rw[← hsw1];clear hsw1;refine hD.e0 ?_;refine hD.s0 ?_;have T:=T.kp1 (Blk.cel hyb) (by decide) (by decide) hm.xb ksw1;have hbox:=hbox.kpY hm ksw1;have hm:=hm.toY (a':=a) ksw1 bw1 rfl rfl rfl rfl rfl rfl rfl;refine hK.seg fits shut (b:=base 21) ⟨_,Try.func21⟩ nofun (c:=(sL (sR (sR (sR q21))))) (by decide +kernel) (Q:=sQ 79 (fun x=>x 0=ptr Q.yb∧x 1=ptr (C.bt i)∧x 5=ptr ab∧x 6=.int .i64 0) Q.yb [ptr Q.mb,ptr Q.fb,ptr Q.wb,.int .i64 (wrap64 (a.i0+1)),.int .i64 a.i1,.int .i64 a.i2,.int .i64 a.i3,.bool a.bad,.int .i64 a.fin] 54 w1) (fun t w' τ d h=>sQ_re h τ d) (fun τ d=>Code.wp_mono (fun e a w' ⟨h1,h2,h3⟩=>⟨h1,h2,sQ_un h3⟩) (oq21c0 (re w1 τ d) _ Q.yb Q.mb Q.fb Q.wb (C.bt i) ab a.i0 a.i1 a.i2 a.i3 a.fin a.bad bw1 h0 h1 h5 h6)) fun t w2 ⟨x',ex',⟨g0,g1,g5,g6⟩,ksw2,bw2⟩=>?_;subst ex';rw[allK.self (x:=x') (l:=[(0,ptr Q.yb),(1,ptr (C.bt i)),(5,ptr ab),(6,.int .i64 0)]) ⟨g0,g1,g5,g6,trivial⟩];have T:=T.kp1 (Blk.cel bw1) (by decide) (by decide) hm.xb ksw2;have hbox:=hbox.kpY hm ksw2;have hm:=hm.toY (a':=a.setIn 0 (wrap64 (a.ins 0+1))) ksw2 bw2 rfl rfl rfl rfl rfl rfl rfl;refine hD.s0 ?_;refine hD.r0 ?_;refine hD.mv (ptr Q.yb) hk ?_;refine nm rfl ?_;refine hD.cf #[ptr Q.yb] hk Try.func41 ?_;refine ex_looks hK hm fun w9 k9 b9=>?_;have T:=T.kp1 (Blk.cel hm.cb) (by decide) (by decide) hm.xb k9;have hbox:=hbox.kpY hm k9;have hm:=hm.toY (a':=(a.setIn 0 (wrap64 (a.ins 0+1))).looks) k9 b9 rfl rfl rfl rfl rfl rfl rfl;refine fin0 (some 36) ?_;refine nm rfl ?_;refine hD.e0 ?_;refine hD.s0 ?_;refine hD.s0 ?_;refine hD.r0 ?_;refine hD.as (.int .i64 0) hk ?_;refine nm rfl ?_;refine hD.e0 ?_;refine hD.block (n:=0) ?_;refine hD.loop (n:=0) ?_;have h3:=fourN_lt z.2;have hkd:((Q.ks i).getD s (0,0)).1=0:=(congrArg Prod.fst (exK_at hz).2).trans hz1;have T:Th (exPlan Q) C (k+1+fourN z.2+(4-fourN z.2)) i K F cs st X w9 n (exLook (Q.ks i) s 0 (a.setIn 0 (wrap64 (a.ins 0+1))).looks):=by
  rw[show k+1+fourN z.2+(4-fourN z.2)=k+5 by omega];exact T.eqP (by unfold exIn;rw[hkd])
 exact ex_loop (v6:=.int .i64 0) hc hz hi (fun T hm g0 g1 g5 g6=>ex_leave0 hc hkd (by rw[hz1] at T;exact T) hm hnext g0 g1 g5 g6) (fourN z.2) (t:=0) (by omega) (ThR.le _ T) hm hbox rfl rfl rfl rfl rfl
theorem ex_mid1 {Q:ExQ}{C:WC}{k i n s:Nat}{K:Goroutine→World→Prop}{F c:Frame}{cs rest:List Frame}{st:Nat→TS ExL}{X:Nat→Prop}{w:World}{a:ExA}{x:Nat→Value}{ab:Nat}{z:Int × Int}(hc:∀ f∈c::rest,OkFr f)(hi:i<Q.n)(hz:(Q.acts i)[s]?=some z)(hz1:fourN z.1=1)(T:Th (exPlan Q) C (k+5) i K F cs st X w n (exIn (Q.ks i) s a))(hm:ExM Q a st X w)(hbox:exBox Q i s X w ab)(hnext:∀ {K F cs st X w n a},Th (exPlan Q) C k i K F cs st X w n (exStart (Q.ks i) (s+1) a)→ExM Q a st X w→K (gs (c.finish (.tuple #[])) (rest++F::cs)) w)(h0:x 0=ptr Q.yb)(h1:x 1=ptr (C.bt i))(h5:x 5=ptr ab)(h6:x 6=.int .i64 1)(h11:x 11=ptr Q.yb)(h15:x 15=.int .i64 0):K (gs ((base 21).at ⟨fg 79 x,[]⟩ [.inRegion (sO (sL (sR (sR q21)))) [5,6,7,8,9,10,11,12,13,14],.code (sR (sR (sR q21)))]) (c::(rest++F::cs))) w:=by
 have hk:(base 21).kind≠.early:=nofun;have hK:=T.cl;have hD:=hK.det;have hyb:Blk w Q.yb [ptr Q.mb,ptr Q.fb,ptr Q.wb,.int .i64 a.i0,.int .i64 a.i1,.int .i64 a.i2,.int .i64 a.i3,.bool a.bad,.int .i64 a.fin] 54:=hm.cb;refine hD.pure (v:=(.bool false)) (n:=0) hk rfl ⟨rfl,rfl,rfl,(by decide +kernel),nofun⟩ (fun w=>w_neq35 (i:=0) (j:=0) rfl h15 rfl) ?_;refine nm rfl ?_;refine hD.mv (.bool false) hk ?_;refine nm rfl ?_;refine hD.gv (n:=0) (v:=(ptr Q.yb)) hk rfl rfl rfl (by decide +kernel) nofun (fun τ d=>ex_move rfl h0) ?_;refine nm rfl ?_;refine hD.gv (n:=0) (v:=(ptr Q.yb)) hk rfl rfl rfl (by decide +kernel) nofun (fun τ d=>ex_nilc rfl rfl) ?_;refine nm rfl ?_;refine hD.gv (n:=0) (v:=(ptrAt Q.yb 7)) hk rfl rfl rfl (by decide +kernel) nofun (fun τ d=>ex_field (v:=(ptrAt Q.yb 7)) rfl rfl fa54_4) ?_;refine nm rfl ?_;refine hD.gv (n:=0) (v:=(.bool a.bad)) hk rfl rfl rfl (by decide +kernel) nofun (fun τ d=>ex_load rfl rfl (l_4 (hyb.cell 7))) ?_;refine nm rfl ?_;refine hD.pu (.bool a.bad) hk (fun w=>pu_pick (t:=false) rfl rfl rfl) ?_;refine nm rfl ?_;refine hD.nilc (n:=0) hk rfl ⟨rfl,rfl,rfl,rfl,nofun⟩ (show _=(ptr Q.yb) from h11) ?_;refine nm rfl ?_;refine hD.field (n:=0) (v:=(ptrAt Q.yb 7)) (u:=(ptr Q.yb)) hk rfl ⟨rfl,rfl,rfl,rfl,nofun⟩ rfl fa54_4 ?_;refine nm rfl ?_;refine hD.store (n:=0) (u:=(ptrAt Q.yb 7)) (z:=(.bool a.bad)) hk rfl ⟨rfl,rfl,rfl,rfl,nofun⟩ rfl rfl (fun τ d=>((s_4 (w:=re w τ d) (hyb.cell 7) (hyb.frozen 7)).trans (congrArg (Result.ok ()) re_setCell))) (Nat.le_of_eq (World.size_setCell _ _ _).symm) ?_;obtain⟨w1,hsw1⟩:∃ z9,z9=w.setCell ⟨Q.yb,7,none⟩ (.bool a.bad):=⟨_,rfl⟩;have ksw1:Kp [Q.yb] w w1:=by rw[hsw1];exact⟨Nat.le_of_eq (World.size_setCell _ _ _).symm,fun c hc hn=>setCell_frame (by simpa using hn)⟩
 have bw1:Blk w1 Q.yb [ptr Q.mb,ptr Q.fb,ptr Q.wb,.int .i64 a.i0,.int .i64 a.i1,.int .i64 a.i2,.int .i64 a.i3,.bool a.bad,.int .i64 a.fin] 54:=by rw[hsw1];exact hyb.set 7 _
 rw[← hsw1];clear hsw1;refine hD.e0 ?_;refine hD.s0 ?_;have T:=T.kp1 (Blk.cel hyb) (by decide) (by decide) hm.xb ksw1;have hbox:=hbox.kpY hm ksw1;have hm:=hm.toY (a':=a) ksw1 bw1 rfl rfl rfl rfl rfl rfl rfl;refine hK.seg fits shut (b:=base 21) ⟨_,Try.func21⟩ nofun (c:=(sL (sR (sR (sR q21))))) (by decide +kernel) (Q:=sQ 79 (fun x=>x 0=ptr Q.yb∧x 1=ptr (C.bt i)∧x 5=ptr ab∧x 6=.int .i64 1) Q.yb [ptr Q.mb,ptr Q.fb,ptr Q.wb,.int .i64 a.i0,.int .i64 (wrap64 (a.i1+1)),.int .i64 a.i2,.int .i64 a.i3,.bool a.bad,.int .i64 a.fin] 54 w1) (fun t w' τ d h=>sQ_re h τ d) (fun τ d=>Code.wp_mono (fun e a w' ⟨h1,h2,h3⟩=>⟨h1,h2,sQ_un h3⟩) (oq21c1 (re w1 τ d) _ Q.yb Q.mb Q.fb Q.wb (C.bt i) ab a.i0 a.i1 a.i2 a.i3 a.fin a.bad bw1 h0 h1 h5 h6)) fun t w2 ⟨x',ex',⟨g0,g1,g5,g6⟩,ksw2,bw2⟩=>?_;subst ex';rw[allK.self (x:=x') (l:=[(0,ptr Q.yb),(1,ptr (C.bt i)),(5,ptr ab),(6,.int .i64 1)]) ⟨g0,g1,g5,g6,trivial⟩];have T:=T.kp1 (Blk.cel bw1) (by decide) (by decide) hm.xb ksw2;have hbox:=hbox.kpY hm ksw2;have hm:=hm.toY (a':=a.setIn 1 (wrap64 (a.ins 1+1))) ksw2 bw2 rfl rfl rfl rfl rfl rfl rfl;refine hD.s0 ?_;refine hD.r0 ?_;refine hD.mv (ptr Q.yb) hk ?_;refine nm rfl ?_;refine hD.cf #[ptr Q.yb] hk Try.func41 ?_;refine ex_looks hK hm fun w9 k9 b9=>?_;have T:=T.kp1 (Blk.cel hm.cb) (by decide) (by decide) hm.xb k9;have hbox:=hbox.kpY hm k9;have hm:=hm.toY (a':=(a.setIn 1 (wrap64 (a.ins 1+1))).looks) k9 b9 rfl rfl rfl rfl rfl rfl rfl;refine fin0 (some 36) ?_;refine nm rfl ?_;refine hD.e0 ?_;refine hD.s0 ?_;refine hD.s0 ?_;refine hD.r0 ?_;refine hD.as (.int .i64 0) hk ?_;refine nm rfl ?_;refine hD.e0 ?_;refine hD.block (n:=0) ?_;refine hD.loop (n:=0) ?_;have h3:=fourN_lt z.2;have hkd:((Q.ks i).getD s (0,0)).1=1:=(congrArg Prod.fst (exK_at hz).2).trans hz1;have T:Th (exPlan Q) C (k+1+fourN z.2+(4-fourN z.2)) i K F cs st X w9 n (exLook (Q.ks i) s 0 (a.setIn 1 (wrap64 (a.ins 1+1))).looks):=by
  rw[show k+1+fourN z.2+(4-fourN z.2)=k+5 by omega];exact T.eqP (by unfold exIn;rw[hkd])
 exact ex_loop (v6:=.int .i64 1) hc hz hi (fun T hm g0 g1 g5 g6=>ex_leave1 hc hkd (by rw[hz1] at T;exact T) hm hnext g0 g1 g5 g6) (fourN z.2) (t:=0) (by omega) (ThR.le _ T) hm hbox rfl rfl rfl rfl rfl
theorem ex_mid2 {Q:ExQ}{C:WC}{k i n s:Nat}{K:Goroutine→World→Prop}{F c:Frame}{cs rest:List Frame}{st:Nat→TS ExL}{X:Nat→Prop}{w:World}{a:ExA}{x:Nat→Value}{ab:Nat}{z:Int × Int}(hc:∀ f∈c::rest,OkFr f)(hi:i<Q.n)(hz:(Q.acts i)[s]?=some z)(hz1:fourN z.1=2)(T:Th (exPlan Q) C (k+5) i K F cs st X w n (exIn (Q.ks i) s a))(hm:ExM Q a st X w)(hbox:exBox Q i s X w ab)(hnext:∀ {K F cs st X w n a},Th (exPlan Q) C k i K F cs st X w n (exStart (Q.ks i) (s+1) a)→ExM Q a st X w→K (gs (c.finish (.tuple #[])) (rest++F::cs)) w)(h0:x 0=ptr Q.yb)(h1:x 1=ptr (C.bt i))(h5:x 5=ptr ab)(h6:x 6=.int .i64 2)(h11:x 11=ptr Q.yb)(h15:x 15=.int .i64 0):K (gs ((base 21).at ⟨fg 79 x,[]⟩ [.inRegion (sO (sL (sR (sR q21)))) [5,6,7,8,9,10,11,12,13,14],.code (sR (sR (sR q21)))]) (c::(rest++F::cs))) w:=by
 have hk:(base 21).kind≠.early:=nofun;have hK:=T.cl;have hD:=hK.det;have hyb:Blk w Q.yb [ptr Q.mb,ptr Q.fb,ptr Q.wb,.int .i64 a.i0,.int .i64 a.i1,.int .i64 a.i2,.int .i64 a.i3,.bool a.bad,.int .i64 a.fin] 54:=hm.cb;refine hD.pure (v:=(.bool false)) (n:=0) hk rfl ⟨rfl,rfl,rfl,(by decide +kernel),nofun⟩ (fun w=>w_neq35 (i:=0) (j:=0) rfl h15 rfl) ?_;refine nm rfl ?_;refine hD.mv (.bool false) hk ?_;refine nm rfl ?_;refine hD.gv (n:=0) (v:=(ptr Q.yb)) hk rfl rfl rfl (by decide +kernel) nofun (fun τ d=>ex_move rfl h0) ?_;refine nm rfl ?_;refine hD.gv (n:=0) (v:=(ptr Q.yb)) hk rfl rfl rfl (by decide +kernel) nofun (fun τ d=>ex_nilc rfl rfl) ?_;refine nm rfl ?_;refine hD.gv (n:=0) (v:=(ptrAt Q.yb 7)) hk rfl rfl rfl (by decide +kernel) nofun (fun τ d=>ex_field (v:=(ptrAt Q.yb 7)) rfl rfl fa54_4) ?_;refine nm rfl ?_;refine hD.gv (n:=0) (v:=(.bool a.bad)) hk rfl rfl rfl (by decide +kernel) nofun (fun τ d=>ex_load rfl rfl (l_4 (hyb.cell 7))) ?_;refine nm rfl ?_;refine hD.pu (.bool a.bad) hk (fun w=>pu_pick (t:=false) rfl rfl rfl) ?_;refine nm rfl ?_;refine hD.nilc (n:=0) hk rfl ⟨rfl,rfl,rfl,rfl,nofun⟩ (show _=(ptr Q.yb) from h11) ?_;refine nm rfl ?_;refine hD.field (n:=0) (v:=(ptrAt Q.yb 7)) (u:=(ptr Q.yb)) hk rfl ⟨rfl,rfl,rfl,rfl,nofun⟩ rfl fa54_4 ?_;refine nm rfl ?_;refine hD.store (n:=0) (u:=(ptrAt Q.yb 7)) (z:=(.bool a.bad)) hk rfl ⟨rfl,rfl,rfl,rfl,nofun⟩ rfl rfl (fun τ d=>((s_4 (w:=re w τ d) (hyb.cell 7) (hyb.frozen 7)).trans (congrArg (Result.ok ()) re_setCell))) (Nat.le_of_eq (World.size_setCell _ _ _).symm) ?_;obtain⟨w1,hsw1⟩:∃ z9,z9=w.setCell ⟨Q.yb,7,none⟩ (.bool a.bad):=⟨_,rfl⟩;have ksw1:Kp [Q.yb] w w1:=by rw[hsw1];exact⟨Nat.le_of_eq (World.size_setCell _ _ _).symm,fun c hc hn=>setCell_frame (by simpa using hn)⟩
 have bw1:Blk w1 Q.yb [ptr Q.mb,ptr Q.fb,ptr Q.wb,.int .i64 a.i0,.int .i64 a.i1,.int .i64 a.i2,.int .i64 a.i3,.bool a.bad,.int .i64 a.fin] 54:=by rw[hsw1];exact hyb.set 7 _
 rw[← hsw1];clear hsw1;refine hD.e0 ?_;refine hD.s0 ?_;have T:=T.kp1 (Blk.cel hyb) (by decide) (by decide) hm.xb ksw1;have hbox:=hbox.kpY hm ksw1;have hm:=hm.toY (a':=a) ksw1 bw1 rfl rfl rfl rfl rfl rfl rfl;refine hK.seg fits shut (b:=base 21) ⟨_,Try.func21⟩ nofun (c:=(sL (sR (sR (sR q21))))) (by decide +kernel) (Q:=sQ 79 (fun x=>x 0=ptr Q.yb∧x 1=ptr (C.bt i)∧x 5=ptr ab∧x 6=.int .i64 2) Q.yb [ptr Q.mb,ptr Q.fb,ptr Q.wb,.int .i64 a.i0,.int .i64 a.i1,.int .i64 (wrap64 (a.i2+1)),.int .i64 a.i3,.bool a.bad,.int .i64 a.fin] 54 w1) (fun t w' τ d h=>sQ_re h τ d) (fun τ d=>Code.wp_mono (fun e a w' ⟨h1,h2,h3⟩=>⟨h1,h2,sQ_un h3⟩) (oq21c2 (re w1 τ d) _ Q.yb Q.mb Q.fb Q.wb (C.bt i) ab a.i0 a.i1 a.i2 a.i3 a.fin a.bad bw1 h0 h1 h5 h6)) fun t w2 ⟨x',ex',⟨g0,g1,g5,g6⟩,ksw2,bw2⟩=>?_;subst ex';rw[allK.self (x:=x') (l:=[(0,ptr Q.yb),(1,ptr (C.bt i)),(5,ptr ab),(6,.int .i64 2)]) ⟨g0,g1,g5,g6,trivial⟩];have T:=T.kp1 (Blk.cel bw1) (by decide) (by decide) hm.xb ksw2;have hbox:=hbox.kpY hm ksw2;have hm:=hm.toY (a':=a.setIn 2 (wrap64 (a.ins 2+1))) ksw2 bw2 rfl rfl rfl rfl rfl rfl rfl;refine hD.s0 ?_;refine hD.r0 ?_;refine hD.mv (ptr Q.yb) hk ?_;refine nm rfl ?_;refine hD.cf #[ptr Q.yb] hk Try.func41 ?_;refine ex_looks hK hm fun w9 k9 b9=>?_;have T:=T.kp1 (Blk.cel hm.cb) (by decide) (by decide) hm.xb k9;have hbox:=hbox.kpY hm k9;have hm:=hm.toY (a':=(a.setIn 2 (wrap64 (a.ins 2+1))).looks) k9 b9 rfl rfl rfl rfl rfl rfl rfl;refine fin0 (some 36) ?_;refine nm rfl ?_;refine hD.e0 ?_;refine hD.s0 ?_;refine hD.s0 ?_;refine hD.r0 ?_;refine hD.as (.int .i64 0) hk ?_;refine nm rfl ?_;refine hD.e0 ?_;refine hD.block (n:=0) ?_;refine hD.loop (n:=0) ?_;have h3:=fourN_lt z.2;have hkd:((Q.ks i).getD s (0,0)).1=2:=(congrArg Prod.fst (exK_at hz).2).trans hz1;have T:Th (exPlan Q) C (k+1+fourN z.2+(4-fourN z.2)) i K F cs st X w9 n (exLook (Q.ks i) s 0 (a.setIn 2 (wrap64 (a.ins 2+1))).looks):=by
  rw[show k+1+fourN z.2+(4-fourN z.2)=k+5 by omega];exact T.eqP (by unfold exIn;rw[hkd])
 exact ex_loop (v6:=.int .i64 2) hc hz hi (fun T hm g0 g1 g5 g6=>ex_leave2 hc hkd (by rw[hz1] at T;exact T) hm hnext g0 g1 g5 g6) (fourN z.2) (t:=0) (by omega) (ThR.le _ T) hm hbox rfl rfl rfl rfl rfl
theorem ex_mid3 {Q:ExQ}{C:WC}{k i n s:Nat}{K:Goroutine→World→Prop}{F c:Frame}{cs rest:List Frame}{st:Nat→TS ExL}{X:Nat→Prop}{w:World}{a:ExA}{x:Nat→Value}{ab:Nat}{z:Int × Int}(hc:∀ f∈c::rest,OkFr f)(hi:i<Q.n)(hz:(Q.acts i)[s]?=some z)(hz1:fourN z.1=3)(T:Th (exPlan Q) C (k+5) i K F cs st X w n (exIn (Q.ks i) s a))(hm:ExM Q a st X w)(hbox:exBox Q i s X w ab)(hnext:∀ {K F cs st X w n a},Th (exPlan Q) C k i K F cs st X w n (exStart (Q.ks i) (s+1) a)→ExM Q a st X w→K (gs (c.finish (.tuple #[])) (rest++F::cs)) w)(h0:x 0=ptr Q.yb)(h1:x 1=ptr (C.bt i))(h5:x 5=ptr ab)(h6:x 6=.int .i64 3)(h11:x 11=ptr Q.yb)(h15:x 15=.int .i64 0):K (gs ((base 21).at ⟨fg 79 x,[]⟩ [.inRegion (sO (sL (sR (sR q21)))) [5,6,7,8,9,10,11,12,13,14],.code (sR (sR (sR q21)))]) (c::(rest++F::cs))) w:=by
 have hk:(base 21).kind≠.early:=nofun;have hK:=T.cl;have hD:=hK.det;have hyb:Blk w Q.yb [ptr Q.mb,ptr Q.fb,ptr Q.wb,.int .i64 a.i0,.int .i64 a.i1,.int .i64 a.i2,.int .i64 a.i3,.bool a.bad,.int .i64 a.fin] 54:=hm.cb;refine hD.pure (v:=(.bool false)) (n:=0) hk rfl ⟨rfl,rfl,rfl,(by decide +kernel),nofun⟩ (fun w=>w_neq35 (i:=0) (j:=0) rfl h15 rfl) ?_;refine nm rfl ?_;refine hD.mv (.bool false) hk ?_;refine nm rfl ?_;refine hD.gv (n:=0) (v:=(ptr Q.yb)) hk rfl rfl rfl (by decide +kernel) nofun (fun τ d=>ex_move rfl h0) ?_;refine nm rfl ?_;refine hD.gv (n:=0) (v:=(ptr Q.yb)) hk rfl rfl rfl (by decide +kernel) nofun (fun τ d=>ex_nilc rfl rfl) ?_;refine nm rfl ?_;refine hD.gv (n:=0) (v:=(ptrAt Q.yb 7)) hk rfl rfl rfl (by decide +kernel) nofun (fun τ d=>ex_field (v:=(ptrAt Q.yb 7)) rfl rfl fa54_4) ?_;refine nm rfl ?_;refine hD.gv (n:=0) (v:=(.bool a.bad)) hk rfl rfl rfl (by decide +kernel) nofun (fun τ d=>ex_load rfl rfl (l_4 (hyb.cell 7))) ?_;refine nm rfl ?_;refine hD.pu (.bool a.bad) hk (fun w=>pu_pick (t:=false) rfl rfl rfl) ?_;refine nm rfl ?_;refine hD.nilc (n:=0) hk rfl ⟨rfl,rfl,rfl,rfl,nofun⟩ (show _=(ptr Q.yb) from h11) ?_;refine nm rfl ?_;refine hD.field (n:=0) (v:=(ptrAt Q.yb 7)) (u:=(ptr Q.yb)) hk rfl ⟨rfl,rfl,rfl,rfl,nofun⟩ rfl fa54_4 ?_;refine nm rfl ?_;refine hD.store (n:=0) (u:=(ptrAt Q.yb 7)) (z:=(.bool a.bad)) hk rfl ⟨rfl,rfl,rfl,rfl,nofun⟩ rfl rfl (fun τ d=>((s_4 (w:=re w τ d) (hyb.cell 7) (hyb.frozen 7)).trans (congrArg (Result.ok ()) re_setCell))) (Nat.le_of_eq (World.size_setCell _ _ _).symm) ?_;obtain⟨w1,hsw1⟩:∃ z9,z9=w.setCell ⟨Q.yb,7,none⟩ (.bool a.bad):=⟨_,rfl⟩;have ksw1:Kp [Q.yb] w w1:=by rw[hsw1];exact⟨Nat.le_of_eq (World.size_setCell _ _ _).symm,fun c hc hn=>setCell_frame (by simpa using hn)⟩
 have bw1:Blk w1 Q.yb [ptr Q.mb,ptr Q.fb,ptr Q.wb,.int .i64 a.i0,.int .i64 a.i1,.int .i64 a.i2,.int .i64 a.i3,.bool a.bad,.int .i64 a.fin] 54:=by rw[hsw1];exact hyb.set 7 _
 rw[← hsw1];clear hsw1;refine hD.e0 ?_;refine hD.s0 ?_;have T:=T.kp1 (Blk.cel hyb) (by decide) (by decide) hm.xb ksw1;have hbox:=hbox.kpY hm ksw1;have hm:=hm.toY (a':=a) ksw1 bw1 rfl rfl rfl rfl rfl rfl rfl;refine hK.seg fits shut (b:=base 21) ⟨_,Try.func21⟩ nofun (c:=(sL (sR (sR (sR q21))))) (by decide +kernel) (Q:=sQ 79 (fun x=>x 0=ptr Q.yb∧x 1=ptr (C.bt i)∧x 5=ptr ab∧x 6=.int .i64 3) Q.yb [ptr Q.mb,ptr Q.fb,ptr Q.wb,.int .i64 a.i0,.int .i64 a.i1,.int .i64 a.i2,.int .i64 (wrap64 (a.i3+1)),.bool a.bad,.int .i64 a.fin] 54 w1) (fun t w' τ d h=>sQ_re h τ d) (fun τ d=>Code.wp_mono (fun e a w' ⟨h1,h2,h3⟩=>⟨h1,h2,sQ_un h3⟩) (oq21c3 (re w1 τ d) _ Q.yb Q.mb Q.fb Q.wb (C.bt i) ab a.i0 a.i1 a.i2 a.i3 a.fin a.bad bw1 h0 h1 h5 h6)) fun t w2 ⟨x',ex',⟨g0,g1,g5,g6⟩,ksw2,bw2⟩=>?_;subst ex';rw[allK.self (x:=x') (l:=[(0,ptr Q.yb),(1,ptr (C.bt i)),(5,ptr ab),(6,.int .i64 3)]) ⟨g0,g1,g5,g6,trivial⟩];have T:=T.kp1 (Blk.cel bw1) (by decide) (by decide) hm.xb ksw2;have hbox:=hbox.kpY hm ksw2;have hm:=hm.toY (a':=a.setIn 3 (wrap64 (a.ins 3+1))) ksw2 bw2 rfl rfl rfl rfl rfl rfl rfl;refine hD.s0 ?_;refine hD.r0 ?_;refine hD.mv (ptr Q.yb) hk ?_;refine nm rfl ?_;refine hD.cf #[ptr Q.yb] hk Try.func41 ?_;refine ex_looks hK hm fun w9 k9 b9=>?_;have T:=T.kp1 (Blk.cel hm.cb) (by decide) (by decide) hm.xb k9;have hbox:=hbox.kpY hm k9;have hm:=hm.toY (a':=(a.setIn 3 (wrap64 (a.ins 3+1))).looks) k9 b9 rfl rfl rfl rfl rfl rfl rfl;refine fin0 (some 36) ?_;refine nm rfl ?_;refine hD.e0 ?_;refine hD.s0 ?_;refine hD.s0 ?_;refine hD.r0 ?_;refine hD.as (.int .i64 0) hk ?_;refine nm rfl ?_;refine hD.e0 ?_;refine hD.block (n:=0) ?_;refine hD.loop (n:=0) ?_;have h3:=fourN_lt z.2;have hkd:((Q.ks i).getD s (0,0)).1=3:=(congrArg Prod.fst (exK_at hz).2).trans hz1;have T:Th (exPlan Q) C (k+1+fourN z.2+(4-fourN z.2)) i K F cs st X w9 n (exLook (Q.ks i) s 0 (a.setIn 3 (wrap64 (a.ins 3+1))).looks):=by
  rw[show k+1+fourN z.2+(4-fourN z.2)=k+5 by omega];exact T.eqP (by unfold exIn;rw[hkd])
 exact ex_loop (v6:=.int .i64 3) hc hz hi (fun T hm g0 g1 g5 g6=>ex_leave3 hc hkd (by rw[hz1] at T;exact T) hm hnext g0 g1 g5 g6) (fourN z.2) (t:=0) (by omega) (ThR.le _ T) hm hbox rfl rfl rfl rfl rfl
theorem ex_sec0 {Q:ExQ}{C:WC}{k i n s:Nat}{K:Goroutine→World→Prop}{F c:Frame}{cs rest:List Frame}{st:Nat→TS ExL}{X:Nat→Prop}{w:World}{a:ExA}{z:Int × Int}(hc:∀ f∈c::rest,OkFr f)(hi:i<Q.n)(hz:(Q.acts i)[s]?=some z)(hz1:fourN z.1=0)(T:Th (exPlan Q) C (k+7) i K F cs st X w n (exStart (Q.ks i) s a))(hm:ExM Q a st X w)(hnext:∀ {K F cs st X w n a},Th (exPlan Q) C k i K F cs st X w n (exStart (Q.ks i) (s+1) a)→ExM Q a st X w→K (gs (c.finish (.tuple #[])) (rest++F::cs)) w):K (gs (Frame.enter Try.prog 21 #[ptr Q.yb,ptr (C.bt i),.agg #[(.int .i64 z.1),(.int .i64 z.2)]] .normal) (c::(rest++F::cs))) w:=by
 have hk:(base 21).kind≠.early:=nofun;have hK:=T.cl;have hD:=hK.det;rw[show(#[ptr Q.yb,ptr (C.bt i),.agg #[(.int .i64 z.1),(.int .i64 z.2)]]:Array Value)=[ptr Q.yb,ptr (C.bt i),.agg #[(.int .i64 z.1),(.int .i64 z.2)]].toArray from rfl,enter_fg (n:=79) (c:=q21) Try.func21 rfl rfl rfl];refine hD.s0 ?_;refine hD.r0 ?_;refine hD.box (n:=0) (u:=(.agg #[.int .i64 z.1,.int .i64 z.2])) (ob:=.cells #[.int .i64 z.1,.int .i64 z.2] 58) hk rfl ⟨rfl,rfl,rfl,rfl,nofun⟩ rfl bx_58 ?_;obtain⟨w1,hsw1⟩:∃ z9,z9=w.alloc (.cells #[.int .i64 z.1,.int .i64 z.2] 58):=⟨_,rfl⟩;obtain⟨nw1,hnw1⟩:∃ z9,z9=w.heap.size:=⟨_,rfl⟩;have ksw1:Kp [] w w1:=by rw[hsw1];exact Kp.alloc [] _ _
 have bw1:Blk w1 nw1 [.int .i64 z.1,.int .i64 z.2] 58:=by rw[hsw1,hnw1];exact Blk.new _ _ _
 rw[← hsw1,← hnw1];clear hsw1;refine nm rfl ?_;refine hD.e0 ?_;refine hD.s0 ?_;refine hD.r0 ?_;refine hD.field (n:=0) (v:=(ptr nw1)) (u:=(ptr nw1)) hk rfl ⟨rfl,rfl,rfl,rfl,nofun⟩ rfl fa58_0 ?_;refine nm rfl ?_;refine hD.ld (.int .i64 z.1) hk (fun τ d=>l_3 (bw1.cell 0)) ?_;refine nm rfl ?_;refine hD.cf #[.int .i64 z.1] hk Try.func39 ?_;have T:=T.new ksw1 (nb:=nw1) (Nat.le_of_eq hnw1.symm);have hbox:exBox Q i s (fun b=>X b∨b=nw1) w1 nw1:=⟨.inr rfl,z,hz,bw1⟩;have hm:=(hm.kp ksw1).wide (X':=fun b=>X b∨b=nw1) (fun _ h=>.inl h) (fun b hb=>hb.elim (fun hb=>nl' (hm.lt b hb) ksw1.size) fun e=>e▸bw1.lt);generalize hX':(fun b=>X b∨b=nw1)=X' at T hm hbox;clear hX';refine hK.callp fits shut (f:=39) rfl (v:=.int .i64 0) (fun τ d=>by have h:=four_calls (re w1 τ d) z.1;rw[hz1] at h;exact h) ?_;refine fin0 (some 10) ?_;refine nm rfl ?_;refine hD.as (.int .i64 0) hk ?_;refine nm rfl ?_;refine hD.e0 ?_;refine hD.s0 ?_;refine hD.r0 ?_;refine hD.mv (ptr Q.yb) hk ?_;refine nm rfl ?_;refine hD.mv (ptr Q.yb) hk ?_;refine nm rfl ?_;refine hD.mv (ptr (C.bt i)) hk ?_;refine nm rfl ?_;refine hD.mv (.int .i64 0) hk ?_;refine nm rfl ?_;refine hD.cf #[ptr Q.yb,ptr (C.bt i),.int .i64 0] hk Try.func40 ?_;have T:Th (exPlan Q) C (k+6+1) i K F cs st X' w1 n (a,some (.take0 s)):=T.eqP ((exStart_k hz).trans (by rw[hz1];rfl));refine takes0 (p:=exPlan Q) (l:=ExL.take0 s) (g:=[nw1]) (rest:=c::rest) T (fun f hf=>by rcases List.mem_cons.1 hf with rfl | hf;exact⟨rfl,rfl,_,Try.func21⟩;exact hc f hf) hm.cb (Blk.cel hm.cm) (hm.put (fun _ h=>h) hm.lt i _ fun l g rv e=>by cases e;exact⟨rfl,nw1,rfl,hbox⟩) fun K F cs st X w n a T q1 hm=>?_;obtain⟨rv,hst⟩:=q1;obtain⟨_,ab,hg,hbox⟩:=hm.sus i _ _ _ hst;obtain rfl:nw1=ab:=(List.cons.inj hg).1;refine⟨a.mby,hm.cm,hm.xm,fun w1 k1 b1 T=>?_⟩;have hK:=T.cl;have hD:=hK.det;refine fin0 (some 15) ?_;refine nm rfl ?_;exact ex_mid0 hc hi hz hz1 (ThR.down (k:=k+5) T) (hm.toM k1 b1) (hbox.kp1 (Blk.cel hm.cm) (by decide) k1) hnext rfl rfl rfl rfl rfl rfl
theorem ex_sec1 {Q:ExQ}{C:WC}{k i n s:Nat}{K:Goroutine→World→Prop}{F c:Frame}{cs rest:List Frame}{st:Nat→TS ExL}{X:Nat→Prop}{w:World}{a:ExA}{z:Int × Int}(hc:∀ f∈c::rest,OkFr f)(hi:i<Q.n)(hz:(Q.acts i)[s]?=some z)(hz1:fourN z.1=1)(T:Th (exPlan Q) C (k+7) i K F cs st X w n (exStart (Q.ks i) s a))(hm:ExM Q a st X w)(hnext:∀ {K F cs st X w n a},Th (exPlan Q) C k i K F cs st X w n (exStart (Q.ks i) (s+1) a)→ExM Q a st X w→K (gs (c.finish (.tuple #[])) (rest++F::cs)) w):K (gs (Frame.enter Try.prog 21 #[ptr Q.yb,ptr (C.bt i),.agg #[(.int .i64 z.1),(.int .i64 z.2)]] .normal) (c::(rest++F::cs))) w:=by
 have hk:(base 21).kind≠.early:=nofun;have hK:=T.cl;have hD:=hK.det;rw[show(#[ptr Q.yb,ptr (C.bt i),.agg #[(.int .i64 z.1),(.int .i64 z.2)]]:Array Value)=[ptr Q.yb,ptr (C.bt i),.agg #[(.int .i64 z.1),(.int .i64 z.2)]].toArray from rfl,enter_fg (n:=79) (c:=q21) Try.func21 rfl rfl rfl];refine hD.s0 ?_;refine hD.r0 ?_;refine hD.box (n:=0) (u:=(.agg #[.int .i64 z.1,.int .i64 z.2])) (ob:=.cells #[.int .i64 z.1,.int .i64 z.2] 58) hk rfl ⟨rfl,rfl,rfl,rfl,nofun⟩ rfl bx_58 ?_;obtain⟨w1,hsw1⟩:∃ z9,z9=w.alloc (.cells #[.int .i64 z.1,.int .i64 z.2] 58):=⟨_,rfl⟩;obtain⟨nw1,hnw1⟩:∃ z9,z9=w.heap.size:=⟨_,rfl⟩;have ksw1:Kp [] w w1:=by rw[hsw1];exact Kp.alloc [] _ _
 have bw1:Blk w1 nw1 [.int .i64 z.1,.int .i64 z.2] 58:=by rw[hsw1,hnw1];exact Blk.new _ _ _
 rw[← hsw1,← hnw1];clear hsw1;refine nm rfl ?_;refine hD.e0 ?_;refine hD.s0 ?_;refine hD.r0 ?_;refine hD.field (n:=0) (v:=(ptr nw1)) (u:=(ptr nw1)) hk rfl ⟨rfl,rfl,rfl,rfl,nofun⟩ rfl fa58_0 ?_;refine nm rfl ?_;refine hD.ld (.int .i64 z.1) hk (fun τ d=>l_3 (bw1.cell 0)) ?_;refine nm rfl ?_;refine hD.cf #[.int .i64 z.1] hk Try.func39 ?_;have T:=T.new ksw1 (nb:=nw1) (Nat.le_of_eq hnw1.symm);have hbox:exBox Q i s (fun b=>X b∨b=nw1) w1 nw1:=⟨.inr rfl,z,hz,bw1⟩;have hm:=(hm.kp ksw1).wide (X':=fun b=>X b∨b=nw1) (fun _ h=>.inl h) (fun b hb=>hb.elim (fun hb=>nl' (hm.lt b hb) ksw1.size) fun e=>e▸bw1.lt);generalize hX':(fun b=>X b∨b=nw1)=X' at T hm hbox;clear hX';refine hK.callp fits shut (f:=39) rfl (v:=.int .i64 1) (fun τ d=>by have h:=four_calls (re w1 τ d) z.1;rw[hz1] at h;exact h) ?_;refine fin0 (some 10) ?_;refine nm rfl ?_;refine hD.as (.int .i64 1) hk ?_;refine nm rfl ?_;refine hD.e0 ?_;refine hD.s0 ?_;refine hD.r0 ?_;refine hD.mv (ptr Q.yb) hk ?_;refine nm rfl ?_;refine hD.mv (ptr Q.yb) hk ?_;refine nm rfl ?_;refine hD.mv (ptr (C.bt i)) hk ?_;refine nm rfl ?_;refine hD.mv (.int .i64 1) hk ?_;refine nm rfl ?_;refine hD.cf #[ptr Q.yb,ptr (C.bt i),.int .i64 1] hk Try.func40 ?_;have T:Th (exPlan Q) C (k+5+2) i K F cs st X' w1 n (a,some (.ask1 s)):=T.eqP ((exStart_k hz).trans (by rw[hz1];rfl));refine takes1 (p:=exPlan Q) (l:=ExL.ask1 s) (gh:=[nw1]) (k:=k+5) (rest:=c::rest) hm.cb T (fun f hf=>by rcases List.mem_cons.1 hf with rfl | hf;exact⟨rfl,rfl,_,Try.func21⟩;exact hc f hf) (Blk.cel hm.cf) (fun bb w' h1 h2 h3=>(hm.kp h2).put (fun _ h=>.inl h) (fun b hb=>?_) i _ fun l g rv e=>?_) (fun bb K F cs st X w n a T q1 hm=>?_)
 ·rcases hb with hb | rfl
  ·exact nl' (hm.lt b hb) h2.size
  ·exact h3.lt
 ·cases e
  exact⟨rfl,bb,nw1,rfl,.inr rfl,h3,hbox.mono (fun _ h=>.inl h) fun b c t _ _ _ _ _ hB=>h2.blk hB (by simp)⟩
 obtain⟨rv,hst⟩:=q1;obtain⟨_,bb',ab,hg,hXb,hbb,hbox⟩:=hm.sus i _ _ _ hst;obtain⟨hg1,hg2⟩:=List.cons.inj hg;subst hg1;obtain rfl:nw1=ab:=(List.cons.inj hg2).1;refine⟨_,_,rfl,a.fby,a.fas,a.fha,hm.xf,hm.cf,hXb,hbb,fun nb w' h1 h2 h3 h4 h5=>?_,fun K F cs st X w n a T q1 hm=>?_⟩
 ·refine(hm.toF h2 h3).put (fun _ h=>.inl h) (fun b hb=>?_) i _ fun l g rv e=>?_
  ·rcases hb with hb | rfl
   ·exact nl' (hm.lt b hb) h2.size
   ·exact h5.lt
  ·cases e
   exact⟨bb,nb,nw1,rfl,rfl,.inl hXb,.inr rfl,h4,h5,hbox.mono (fun _ h=>.inl h) fun b c t hb n1 n2 n3 n4 hB=>h2.blk hB (by simpa using cel_ne (Blk.cel hB) (Blk.cel hm.cf) n2)⟩
 obtain⟨rv,hst⟩:=q1;obtain⟨bb',nb,ab,hg,hrv,hXb,_,hbb,_,hbox⟩:=hm.sus i _ _ _ hst;obtain⟨hg1,hg2⟩:=List.cons.inj hg;subst hg1;obtain rfl:nw1=ab:=(List.cons.inj hg2).1;refine⟨a.fby,a.fas,a.fha,hm.xf,hm.cf,hXb,hbb,fun w1 k1 b1 T=>?_⟩;have hK:=T.cl;have hD:=hK.det;refine fin0 (some 15) ?_;refine nm rfl ?_;exact ex_mid1 hc hi hz hz1 T (hm.toF k1 b1) (hbox.kp1 (Blk.cel hm.cf) (by decide) k1) hnext rfl rfl rfl rfl rfl rfl
theorem ex_sec2 {Q:ExQ}{C:WC}{k i n s:Nat}{K:Goroutine→World→Prop}{F c:Frame}{cs rest:List Frame}{st:Nat→TS ExL}{X:Nat→Prop}{w:World}{a:ExA}{z:Int × Int}(hc:∀ f∈c::rest,OkFr f)(hi:i<Q.n)(hz:(Q.acts i)[s]?=some z)(hz1:fourN z.1=2)(T:Th (exPlan Q) C (k+7) i K F cs st X w n (exStart (Q.ks i) s a))(hm:ExM Q a st X w)(hnext:∀ {K F cs st X w n a},Th (exPlan Q) C k i K F cs st X w n (exStart (Q.ks i) (s+1) a)→ExM Q a st X w→K (gs (c.finish (.tuple #[])) (rest++F::cs)) w):K (gs (Frame.enter Try.prog 21 #[ptr Q.yb,ptr (C.bt i),.agg #[(.int .i64 z.1),(.int .i64 z.2)]] .normal) (c::(rest++F::cs))) w:=by
 have hk:(base 21).kind≠.early:=nofun;have hK:=T.cl;have hD:=hK.det;rw[show(#[ptr Q.yb,ptr (C.bt i),.agg #[(.int .i64 z.1),(.int .i64 z.2)]]:Array Value)=[ptr Q.yb,ptr (C.bt i),.agg #[(.int .i64 z.1),(.int .i64 z.2)]].toArray from rfl,enter_fg (n:=79) (c:=q21) Try.func21 rfl rfl rfl];refine hD.s0 ?_;refine hD.r0 ?_;refine hD.box (n:=0) (u:=(.agg #[.int .i64 z.1,.int .i64 z.2])) (ob:=.cells #[.int .i64 z.1,.int .i64 z.2] 58) hk rfl ⟨rfl,rfl,rfl,rfl,nofun⟩ rfl bx_58 ?_;obtain⟨w1,hsw1⟩:∃ z9,z9=w.alloc (.cells #[.int .i64 z.1,.int .i64 z.2] 58):=⟨_,rfl⟩;obtain⟨nw1,hnw1⟩:∃ z9,z9=w.heap.size:=⟨_,rfl⟩;have ksw1:Kp [] w w1:=by rw[hsw1];exact Kp.alloc [] _ _
 have bw1:Blk w1 nw1 [.int .i64 z.1,.int .i64 z.2] 58:=by rw[hsw1,hnw1];exact Blk.new _ _ _
 rw[← hsw1,← hnw1];clear hsw1;refine nm rfl ?_;refine hD.e0 ?_;refine hD.s0 ?_;refine hD.r0 ?_;refine hD.field (n:=0) (v:=(ptr nw1)) (u:=(ptr nw1)) hk rfl ⟨rfl,rfl,rfl,rfl,nofun⟩ rfl fa58_0 ?_;refine nm rfl ?_;refine hD.ld (.int .i64 z.1) hk (fun τ d=>l_3 (bw1.cell 0)) ?_;refine nm rfl ?_;refine hD.cf #[.int .i64 z.1] hk Try.func39 ?_;have T:=T.new ksw1 (nb:=nw1) (Nat.le_of_eq hnw1.symm);have hbox:exBox Q i s (fun b=>X b∨b=nw1) w1 nw1:=⟨.inr rfl,z,hz,bw1⟩;have hm:=(hm.kp ksw1).wide (X':=fun b=>X b∨b=nw1) (fun _ h=>.inl h) (fun b hb=>hb.elim (fun hb=>nl' (hm.lt b hb) ksw1.size) fun e=>e▸bw1.lt);generalize hX':(fun b=>X b∨b=nw1)=X' at T hm hbox;clear hX';refine hK.callp fits shut (f:=39) rfl (v:=.int .i64 2) (fun τ d=>by have h:=four_calls (re w1 τ d) z.1;rw[hz1] at h;exact h) ?_;refine fin0 (some 10) ?_;refine nm rfl ?_;refine hD.as (.int .i64 2) hk ?_;refine nm rfl ?_;refine hD.e0 ?_;refine hD.s0 ?_;refine hD.r0 ?_;refine hD.mv (ptr Q.yb) hk ?_;refine nm rfl ?_;refine hD.mv (ptr Q.yb) hk ?_;refine nm rfl ?_;refine hD.mv (ptr (C.bt i)) hk ?_;refine nm rfl ?_;refine hD.mv (.int .i64 2) hk ?_;refine nm rfl ?_;refine hD.cf #[ptr Q.yb,ptr (C.bt i),.int .i64 2] hk Try.func40 ?_;have T:Th (exPlan Q) C (k+6+1) i K F cs st X' w1 n (a,some (.take2 s)):=T.eqP ((exStart_k hz).trans (by rw[hz1];rfl));refine takes2 (p:=exPlan Q) (l:=ExL.take2 s) (gh:=[nw1]) (k:=k+6) (rest:=c::rest) hm.cb T (fun f hf=>by rcases List.mem_cons.1 hf with rfl | hf;exact⟨rfl,rfl,_,Try.func21⟩;exact hc f hf) (Blk.cel hm.cw) (fun bb w' h1 h2 h3=>(hm.kp h2).put (fun _ h=>.inl h) (fun b hb=>?_) i _ fun l g rv e=>?_) (fun bb K F cs st X w n a T q1 hm=>?_)
 ·rcases hb with hb | rfl
  ·exact nl' (hm.lt b hb) h2.size
  ·exact h3.lt
 ·cases e
  exact⟨bb,nw1,rfl,rfl,.inr rfl,h3,hbox.mono (fun _ h=>.inl h) fun b c t _ _ _ _ _ hB=>h2.blk hB (by simp)⟩
 obtain⟨rv,hst⟩:=q1;obtain⟨bb',ab,hg,hrv,hXb,hbb,hbox⟩:=hm.sus i _ _ _ hst;obtain⟨hg1,hg2⟩:=List.cons.inj hg;subst hg1;obtain rfl:nw1=ab:=(List.cons.inj hg2).1;refine⟨a.wby,a.wrd,a.wwt,hm.xw,hm.cw,hXb,hbb,fun w1 k1 b1 T=>?_⟩;have hK:=T.cl;have hD:=hK.det;refine fin0 (some 15) ?_;refine nm rfl ?_;exact ex_mid2 hc hi hz hz1 (ThR.down (k:=k+5) T) (hm.toW k1 b1) (hbox.kp1 (Blk.cel hm.cw) (by decide) k1) hnext rfl rfl rfl rfl rfl rfl
theorem ex_sec3 {Q:ExQ}{C:WC}{k i n s:Nat}{K:Goroutine→World→Prop}{F c:Frame}{cs rest:List Frame}{st:Nat→TS ExL}{X:Nat→Prop}{w:World}{a:ExA}{z:Int × Int}(hc:∀ f∈c::rest,OkFr f)(hi:i<Q.n)(hz:(Q.acts i)[s]?=some z)(hz1:fourN z.1=3)(T:Th (exPlan Q) C (k+7) i K F cs st X w n (exStart (Q.ks i) s a))(hm:ExM Q a st X w)(hnext:∀ {K F cs st X w n a},Th (exPlan Q) C k i K F cs st X w n (exStart (Q.ks i) (s+1) a)→ExM Q a st X w→K (gs (c.finish (.tuple #[])) (rest++F::cs)) w):K (gs (Frame.enter Try.prog 21 #[ptr Q.yb,ptr (C.bt i),.agg #[(.int .i64 z.1),(.int .i64 z.2)]] .normal) (c::(rest++F::cs))) w:=by
 have hk:(base 21).kind≠.early:=nofun;have hK:=T.cl;have hD:=hK.det;rw[show(#[ptr Q.yb,ptr (C.bt i),.agg #[(.int .i64 z.1),(.int .i64 z.2)]]:Array Value)=[ptr Q.yb,ptr (C.bt i),.agg #[(.int .i64 z.1),(.int .i64 z.2)]].toArray from rfl,enter_fg (n:=79) (c:=q21) Try.func21 rfl rfl rfl];refine hD.s0 ?_;refine hD.r0 ?_;refine hD.box (n:=0) (u:=(.agg #[.int .i64 z.1,.int .i64 z.2])) (ob:=.cells #[.int .i64 z.1,.int .i64 z.2] 58) hk rfl ⟨rfl,rfl,rfl,rfl,nofun⟩ rfl bx_58 ?_;obtain⟨w1,hsw1⟩:∃ z9,z9=w.alloc (.cells #[.int .i64 z.1,.int .i64 z.2] 58):=⟨_,rfl⟩;obtain⟨nw1,hnw1⟩:∃ z9,z9=w.heap.size:=⟨_,rfl⟩;have ksw1:Kp [] w w1:=by rw[hsw1];exact Kp.alloc [] _ _
 have bw1:Blk w1 nw1 [.int .i64 z.1,.int .i64 z.2] 58:=by rw[hsw1,hnw1];exact Blk.new _ _ _
 rw[← hsw1,← hnw1];clear hsw1;refine nm rfl ?_;refine hD.e0 ?_;refine hD.s0 ?_;refine hD.r0 ?_;refine hD.field (n:=0) (v:=(ptr nw1)) (u:=(ptr nw1)) hk rfl ⟨rfl,rfl,rfl,rfl,nofun⟩ rfl fa58_0 ?_;refine nm rfl ?_;refine hD.ld (.int .i64 z.1) hk (fun τ d=>l_3 (bw1.cell 0)) ?_;refine nm rfl ?_;refine hD.cf #[.int .i64 z.1] hk Try.func39 ?_;have T:=T.new ksw1 (nb:=nw1) (Nat.le_of_eq hnw1.symm);have hbox:exBox Q i s (fun b=>X b∨b=nw1) w1 nw1:=⟨.inr rfl,z,hz,bw1⟩;have hm:=(hm.kp ksw1).wide (X':=fun b=>X b∨b=nw1) (fun _ h=>.inl h) (fun b hb=>hb.elim (fun hb=>nl' (hm.lt b hb) ksw1.size) fun e=>e▸bw1.lt);generalize hX':(fun b=>X b∨b=nw1)=X' at T hm hbox;clear hX';refine hK.callp fits shut (f:=39) rfl (v:=.int .i64 3) (fun τ d=>by have h:=four_calls (re w1 τ d) z.1;rw[hz1] at h;exact h) ?_;refine fin0 (some 10) ?_;refine nm rfl ?_;refine hD.as (.int .i64 3) hk ?_;refine nm rfl ?_;refine hD.e0 ?_;refine hD.s0 ?_;refine hD.r0 ?_;refine hD.mv (ptr Q.yb) hk ?_;refine nm rfl ?_;refine hD.mv (ptr Q.yb) hk ?_;refine nm rfl ?_;refine hD.mv (ptr (C.bt i)) hk ?_;refine nm rfl ?_;refine hD.mv (.int .i64 3) hk ?_;refine nm rfl ?_;refine hD.cf #[ptr Q.yb,ptr (C.bt i),.int .i64 3] hk Try.func40 ?_;have T:Th (exPlan Q) C (k+5+2) i K F cs st X' w1 n (a,some (.ask3 s)):=T.eqP ((exStart_k hz).trans (by rw[hz1];rfl));refine takes3 (p:=exPlan Q) (l:=ExL.ask3 s) (gh:=[nw1]) (k:=k+5) (rest:=c::rest) hm.cb T (fun f hf=>by rcases List.mem_cons.1 hf with rfl | hf;exact⟨rfl,rfl,_,Try.func21⟩;exact hc f hf) (Blk.cel hm.cw) (fun bb w' h1 h2 h3=>(hm.kp h2).put (fun _ h=>.inl h) (fun b hb=>?_) i _ fun l g rv e=>?_) (fun bb K F cs st X w n a T q1 hm=>?_)
 ·rcases hb with hb | rfl
  ·exact nl' (hm.lt b hb) h2.size
  ·exact h3.lt
 ·cases e
  exact⟨rfl,bb,nw1,rfl,.inr rfl,h3,hbox.mono (fun _ h=>.inl h) fun b c t _ _ _ _ _ hB=>h2.blk hB (by simp)⟩
 obtain⟨rv,hst⟩:=q1;obtain⟨_,bb',ab,hg,hXb,hbb,hbox⟩:=hm.sus i _ _ _ hst;obtain⟨hg1,hg2⟩:=List.cons.inj hg;subst hg1;obtain rfl:nw1=ab:=(List.cons.inj hg2).1;refine⟨_,_,rfl,a.wby,a.wrd,a.wwt,hm.xw,hm.cw,hXb,hbb,fun w' h2 h3 h4=>?_,fun K F cs st X w n a T q1 hm=>?_⟩
 ·refine(hm.toW h2 h3).put (fun _ h=>h) (fun b hb=>nl' (hm.lt b hb) h2.size) i _ fun l g rv e=>?_
  cases e;exact⟨bb,nw1,rfl,rfl,hXb,h4,hbox.mono (fun _ h=>h) fun b c t hb n1 n2 n3 n4 hB=>h2.blk hB (by simpa using cel_ne (Blk.cel hB) (Blk.cel hm.cw) n4)⟩
 obtain⟨rv,hst⟩:=q1;obtain⟨bb',ab,hg,hrv,hXb,hbb,hbox⟩:=hm.sus i _ _ _ hst;obtain⟨hg1,hg2⟩:=List.cons.inj hg;subst hg1;obtain rfl:nw1=ab:=(List.cons.inj hg2).1;refine⟨a.wby,a.wrd,a.wwt,hm.xw,hm.cw,hXb,hbb,fun w1 k1 b1 T=>?_⟩;have hK:=T.cl;have hD:=hK.det;refine fin0 (some 15) ?_;refine nm rfl ?_;exact ex_mid3 hc hi hz hz1 T (hm.toW k1 b1) (hbox.kp1 (Blk.cel hm.cw) (by decide) k1) hnext rfl rfl rfl rfl rfl rfl
theorem ex_sec {Q:ExQ}{C:WC}{k i n s:Nat}{K:Goroutine→World→Prop}{F c:Frame}{cs rest:List Frame}{st:Nat→TS ExL}{X:Nat→Prop}{w:World}{a:ExA}{z:Int × Int}(hc:∀ f∈c::rest,OkFr f)(hi:i<Q.n)(hz:(Q.acts i)[s]?=some z)(T:Th (exPlan Q) C (k+7) i K F cs st X w n (exStart (Q.ks i) s a))(hm:ExM Q a st X w)(hnext:∀ {K F cs st X w n a},Th (exPlan Q) C k i K F cs st X w n (exStart (Q.ks i) (s+1) a)→ExM Q a st X w→K (gs (c.finish (.tuple #[])) (rest++F::cs)) w):K (gs (Frame.enter Try.prog 21 #[ptr Q.yb,ptr (C.bt i),.agg #[(.int .i64 z.1),(.int .i64 z.2)]] .normal) (c::(rest++F::cs))) w:=by
 have h4:=fourN_lt z.1;by_cases h0:fourN z.1=0
 ·exact ex_sec0 hc hi hz h0 T hm hnext
 by_cases h1:fourN z.1=1
 ·exact ex_sec1 hc hi hz h1 T hm hnext
 by_cases h2:fourN z.1=2
 ·exact ex_sec2 hc hi hz h2 T hm hnext
 exact ex_sec3 hc hi hz (by omega) T hm hnext
def q20:Code:=Try.f20.body.getD .skip
theorem l_55 {w:World}{a:Addr}{v:Value}(hc:w.cell? a=some v):(Instr.loadAt 55 (.pointer (some a))).run Try.prog w=.ok v w:=by simp[go_sem,hc,Try.underlying55,Try.runUnderlying55,Try.sizeOf55,Try.isAgg55]
theorem l_47 {w:World}{a:Addr}{v:Value}(hc:w.cell? a=some v):(Instr.loadAt 47 (.pointer (some a))).run Try.prog w=.ok v w:=by simp[go_sem,hc,Try.underlying47,Try.runUnderlying47,Try.sizeOf47,Try.isAgg47]
theorem ix55 {n c b o j:Nat}(hj:j<n):∀ w,(Instr.indexAt 55 (.slice (some ⟨b,o,none⟩) n c) (.int .i64 j)).run Try.prog w=.ok (.pointer (some ⟨b,o+2*j,none⟩)) w:=fun w=>by
 have h0:(0:Int)≤j:=by omega
 have h1:(j:Int)<n:=by omega
 simp[go_sem,Try.underlying55,Try.runUnderlying55,Try.sizeOf58,Try.sizeOf3,h1,Addr.add,Nat.mul_comm]
theorem ld58 {b o:Nat}{u v:Value}{w:World}(h1:w.cell? ⟨b,o,none⟩=some u)(h2:w.cell? ⟨b,o+1,none⟩=some v):(Instr.loadAt 58 (.pointer (some ⟨b,o,none⟩))).run Try.prog w=.ok (.agg #[u,v]) w:=by
 simp[go_sem,h1,h2,Try.underlying58,Try.runUnderlying58,Try.sizeOf58,Try.sizeOf3,Try.isAgg58,Addr.add]
theorem exStart_end (Q:ExQ)(i:Nat)(a:ExA):exStart (Q.ks i) (Q.acts i).length a=(a,none):=by
 show exStart (exK (Q.acts i)) _ a=_;unfold exStart;rw[List.getElem?_eq_none (by unfold exK;rw[List.length_map];exact Nat.le_refl _)]
theorem oq20 {Q:ExQ}{C:WC}{i j sb so sc:Nat}{z:Int × Int}{w:World}{x:Nat→Value}(e0:x 0=(ptr (C.bt i)))(e1:x 1=(ptr (Q.lx i)))(e2:x 2=(ptr Q.yx))(e4:x 4=(.int .i64 (j:Int)))(hlx:Blk w (Q.lx i) [Q.av i] 55)(hyx:Blk w Q.yx [ptr Q.yb] 47)(hv:Q.av i=.slice (some ⟨sb,so,none⟩) (Q.acts i).length sc)(hj:j<(Q.acts i).length)(hc1:w.cell? ⟨sb,so+2*j,none⟩=some (.int .i64 z.1))(hc2:w.cell? ⟨sb,so+2*j+1,none⟩=some (.int .i64 z.2)):OrdOk Try.prog (sO (sB (sL (sR (sB (sB (sR q20))))))) (fg 18 (up (up (up (up (up (up x 11 (ptr Q.yb)) 12 (ptr (C.bt i))) 13 (Q.av i)) 14 (.int .i64 (j:Int))) 15 (.pointer (some ⟨sb,so+2*j,none⟩))) 16 (.agg #[.int .i64 z.1,.int .i64 z.2]))) [] (fun j=>decide (6≤j)) w:=by
 refine⟨fun q9 o ho hs=>?_,by decide +kernel,by decide +kernel⟩
 match q9,ho,hs with
 | 0,ho,_ =>
  obtain rfl:=so' ho;exact⟨11,⟨rfl,rfl,rfl,(by decide +kernel),nofun⟩,(show 11<18 by decide),fun a h τ δ=>ex_load (v:=(ptr Q.yb)) rfl (show a.eval (.tmp 2)=(ptr Q.yx) from(h _ (show Operand.tmp 2∈(#[Operand.tmp 2]:Array Operand) by simp)).trans e2) (l_47 (hyx.cell 0))⟩
 | 1,ho,_ =>
  obtain rfl:=so' ho;exact⟨12,⟨rfl,rfl,rfl,(by decide +kernel),nofun⟩,(show 12<18 by decide),fun a h τ δ=>ex_move rfl (show a.eval (.tmp 0)=(ptr (C.bt i)) from(h _ (show Operand.tmp 0∈(#[Operand.tmp 0]:Array Operand) by simp)).trans e0)⟩
 | 2,ho,_ =>
  obtain rfl:=so' ho;exact⟨13,⟨rfl,rfl,rfl,(by decide +kernel),nofun⟩,(show 13<18 by decide),fun a h τ δ=>ex_load (v:=(Q.av i)) rfl (show a.eval (.tmp 1)=(ptr (Q.lx i)) from(h _ (show Operand.tmp 1∈(#[Operand.tmp 1]:Array Operand) by simp)).trans e1) (l_55 (hlx.cell 0))⟩
 | 3,ho,_ =>
  obtain rfl:=so' ho;exact⟨14,⟨rfl,rfl,rfl,(by decide +kernel),nofun⟩,(show 14<18 by decide),fun a h τ δ=>ex_move rfl (show a.eval (.tmp 4)=(.int .i64 (j:Int)) from(h _ (show Operand.tmp 4∈(#[Operand.tmp 4]:Array Operand) by simp)).trans e4)⟩
 | 4,ho,_ =>
  obtain rfl:=so' ho;exact⟨15,⟨rfl,rfl,rfl,(by decide +kernel),nofun⟩,(show 15<18 by decide),fun a h τ δ=>ex_index rfl ((show a.eval (.tmp 13)=(Q.av i) from(h _ (show Operand.tmp 13∈(#[Operand.tmp 13,Operand.tmp 14]:Array Operand) by simp))).trans hv) (show a.eval (.tmp 14)=(.int .i64 (j:Int)) from(h _ (show Operand.tmp 14∈(#[Operand.tmp 13,Operand.tmp 14]:Array Operand) by simp))) (ix55 hj)⟩
 | 5,ho,_ =>
  obtain rfl:=so' ho;exact⟨16,⟨rfl,rfl,rfl,(by decide +kernel),nofun⟩,(show 16<18 by decide),fun a h τ δ=>ex_load (v:=(.agg #[.int .i64 z.1,.int .i64 z.2])) rfl (show a.eval (.tmp 15)=(.pointer (some ⟨sb,so+2*j,none⟩)) from(h _ (show Operand.tmp 15∈(#[Operand.tmp 15]:Array Operand) by simp))) (ld58 hc1 hc2)⟩
 | 6,_,hs=>cases hs
 | n+7,ho,_ =>
  have:=lt_of_op ho;exact absurd this (by show ¬ n+7<7;omega)
theorem ex_out {Q:ExQ}{C:WC}(d:Nat){i j n:Nat}{K:Goroutine→World→Prop}{F:Frame}{cs:List Frame}{st:Nat→TS ExL}{X:Nat→Prop}{w:World}{a:ExA}{x:Nat→Value}(hi:i<Q.n)(hd:d=(Q.acts i).length-j)(hjl:j≤(Q.acts i).length)(hbig:(Q.acts i).length<1099511627776)(T:Th (exPlan Q) C (7*d) i K F cs st X w n (exStart (Q.ks i) j a))(hm:ExM Q a st X w)(h0:x 0=ptr (C.bt i))(h1:x 1=ptr (Q.lx i))(h2:x 2=ptr Q.yx)(h4:x 4=.int .i64 (j:Int)):K (gs ((base 20).at ⟨fg 18 x,[]⟩ [.code (sB (sB (sR q20))),.inLoop (sB (sB (sR q20))),.inBlock 0]) (F::cs)) w:=by
 have hk:(base 20).kind≠.early:=nofun;have hK:=T.cl;have hD:=hK.det;have hlx:=hm.ls i hi;have hyx:=hm.cy;have hac:=hm.ac i hi;obtain⟨lp,lc,hlv⟩:=hac.form;refine hD.s0 ?_;refine hD.s0 ?_;refine hD.r0 ?_;refine hD.move (n:=0) (v:=(.int .i64 (j:Int))) hk rfl ⟨rfl,rfl,rfl,rfl,nofun⟩ h4 ?_;refine nm rfl ?_;refine hD.load (n:=0) (v:=(Q.av i)) (u:=(ptr (Q.lx i))) hk rfl ⟨rfl,rfl,rfl,rfl,nofun⟩ h1 (fun τ d=>l_55 (hlx.cell 0)) ?_;refine nm rfl ?_;refine hD.pure (v:=(.int .i64 ((Q.acts i).length:Int))) (n:=0) hk rfl ⟨rfl,rfl,rfl,(by decide +kernel),nofun⟩ (fun w=>pu_len rfl hlv rfl) ?_;refine nm rfl ?_;refine hD.pu (.bool (decide ((j:Int)<((Q.acts i).length:Int)))) hk (fun w=>w_lss3 rfl rfl rfl) ?_;refine nm rfl ?_;refine hD.e0 ?_;by_cases hj:j<(Q.acts i).length
 ·obtain⟨d',rfl⟩:∃ d',d=d'+1:=⟨d-1,by omega⟩
  obtain⟨z,hz⟩:∃ z,(Q.acts i)[j]?=some z:=⟨_,List.getElem?_eq_getElem hj⟩;obtain⟨sb,so,sc,hv,hlo,hXs,hc1,hc2⟩:=hac.get j z hz;refine hD.cond (n:=0) true (show Value.bool (decide ((j:Int)<((Q.acts i).length:Int)))=_ by rw[decide_eq_true (by omega)]) rfl ?_;refine hD.k0 ?_;refine hD.s0 ?_;refine hD.block (n:=0) ?_;refine draw_call (s:=6) hK [(11,(ptr Q.yb)),(12,(ptr (C.bt i))),(13,(Q.av i)),(14,(.int .i64 (j:Int))),(15,(.pointer (some ⟨sb,so+2*j,none⟩))),(16,(.agg #[.int .i64 z.1,.int .i64 z.2]))] rfl mixed (oq20 h0 h1 h2 h4 hlx hyx hv hj hc1 hc2) (by decide +kernel) (by decide +kernel) (by decide +kernel)
   [(0,(ptr (C.bt i))),(1,(ptr (Q.lx i))),(2,(ptr Q.yx)),(4,(.int .i64 (j:Int))),(5,(.int .i64 (j:Int))),(6,(Q.av i)),(7,(.int .i64 ((Q.acts i).length:Int))),(8,(.bool true)),(11,(ptr Q.yb)),(12,(ptr (C.bt i))),(13,(Q.av i)),(14,(.int .i64 (j:Int))),(15,(.pointer (some ⟨sb,so+2*j,none⟩))),(16,(.agg #[.int .i64 z.1,.int .i64 z.2]))] ⟨⟨(show 0<18 by decide),(show freeOf (sO (sB (sL (sR (sB (sB (sR q20))))))) 6 0=true by decide +kernel),h0⟩,⟨(show 1<18 by decide),(show freeOf (sO (sB (sL (sR (sB (sB (sR q20))))))) 6 1=true by decide +kernel),h1⟩,⟨(show 2<18 by decide),(show freeOf (sO (sB (sL (sR (sB (sB (sR q20))))))) 6 2=true by decide +kernel),h2⟩,⟨(show 4<18 by decide),(show freeOf (sO (sB (sL (sR (sB (sB (sR q20))))))) 6 4=true by decide +kernel),h4⟩,⟨(show 5<18 by decide),(show freeOf (sO (sB (sL (sR (sB (sB (sR q20))))))) 6 5=true by decide +kernel),rfl⟩,⟨(show 6<18 by decide),(show freeOf (sO (sB (sL (sR (sB (sB (sR q20))))))) 6 6=true by decide +kernel),rfl⟩,⟨(show 7<18 by decide),(show freeOf (sO (sB (sL (sR (sB (sB (sR q20))))))) 6 7=true by decide +kernel),rfl⟩,⟨(show 8<18 by decide),(show freeOf (sO (sB (sL (sR (sB (sB (sR q20))))))) 6 8=true by decide +kernel),(show Value.bool (decide ((j:Int)<((Q.acts i).length:Int)))=_ by rw[decide_eq_true (by omega)])⟩,⟨(show 11<18 by decide),(show freeOf (sO (sB (sL (sR (sB (sB (sR q20))))))) 6 11=true by decide +kernel),rfl⟩,⟨(show 12<18 by decide),(show freeOf (sO (sB (sL (sR (sB (sB (sR q20))))))) 6 12=true by decide +kernel),rfl⟩,⟨(show 13<18 by decide),(show freeOf (sO (sB (sL (sR (sB (sB (sR q20))))))) 6 13=true by decide +kernel),rfl⟩,⟨(show 14<18 by decide),(show freeOf (sO (sB (sL (sR (sB (sB (sR q20))))))) 6 14=true by decide +kernel),rfl⟩,⟨(show 15<18 by decide),(show freeOf (sO (sB (sL (sR (sB (sB (sR q20))))))) 6 15=true by decide +kernel),rfl⟩,⟨(show 16<18 by decide),(show freeOf (sO (sB (sL (sR (sB (sB (sR q20))))))) 6 16=true by decide +kernel),rfl⟩,trivial⟩ (fun x2 fu te hfu=>?_) (show(([11,12,13,14,15,16]:List Nat).all fun d=>(sO (sB (sL (sR (sB (sB (sR q20))))))).any fun o=>o.dst==some d)=true by decide +kernel)
  refine hD.cf #[ptr Q.yb,ptr (C.bt i),.agg #[(.int .i64 z.1),(.int .i64 z.2)]] hk Try.func21 ?_;refine ex_sec (k:=7*d') (s:=j) (rest:=[]) (fun f hf=>by rcases List.mem_cons.1 hf with rfl | hf;exact⟨rfl,rfl,_,Try.func20⟩;exact absurd hf (by simp)) hi hz T hm fun {K F cs st X w n a} T hm=>?_;have hK:=T.cl;have hD:=hK.det;refine fin0 (some 17) ?_;refine nm rfl ?_;refine lin_none (by decide +kernel) ?_;refine hD.e0 ?_;refine hD.inBlock (n:=0) ?_;refine hD.r0 ?_;refine hD.mv (.int .i64 (j:Int)) hk ?_;refine nm rfl ?_;refine hD.pu (.int .i64 (wrap64 ((j:Int)+1))) hk (fun w=>w_add3 rfl rfl rfl) ?_;refine nm rfl ?_;refine hD.as (.int .i64 (wrap64 ((j:Int)+1))) hk ?_;refine nm rfl ?_;refine hD.e0 ?_;refine hD.inLoop (n:=0) ?_;exact ex_out d' hi (by omega) (by omega) hbig T hm rfl rfl rfl (next_nat j (by omega))
 ·have hje:j=(Q.acts i).length:=by omega
  have T:Th (exPlan Q) C (7*d) i K F cs st X w n (a,none):=T.eqP (by rw[hje];exact exStart_end Q i a);refine hD.cond (n:=0) false (show Value.bool (decide ((j:Int)<((Q.acts i).length:Int)))=_ by rw[decide_eq_false (by omega)]) rfl ?_;refine hD.exit (n:=0) rfl ?_;refine hD.end (n:=0) ?_;exact hD.leave (n:=0) (b:=base 20) (v:=.tuple #[]) rfl rfl Try.func20 (fun τ d=>res0 rfl) T.fm (T.hd a X w rfl (hm.put (fun _ h=>h) hm.lt i _ fun l g rv e=>by cases e) (Kx.refl' X w))
termination_by d
theorem ex_body {Q:ExQ}{C:WC}{i n:Nat}{K:Goroutine→World→Prop}{F:Frame}{cs:List Frame}{st:Nat→TS ExL}{X:Nat→Prop}{w:World}{a:ExA}(hi:i<Q.n)(hbig:(Q.acts i).length<1099511627776)(T:Th (exPlan Q) C (7*(Q.acts i).length) i K F cs st X w n (exStart (Q.ks i) 0 a))(hm:ExM Q a st X w):K (gs (Frame.enter Try.prog 20 #[ptr (C.bt i),ptr (Q.lx i),ptr Q.yx] .normal) (F::cs)) w:=by
 have hk:(base 20).kind≠.early:=nofun;have hK:=T.cl;have hD:=hK.det;rw[show(#[ptr (C.bt i),ptr (Q.lx i),ptr Q.yx]:Array Value)=[ptr (C.bt i),ptr (Q.lx i),ptr Q.yx].toArray from rfl,enter_fg (n:=18) (c:=q20) Try.func20 rfl rfl rfl];refine hD.s0 ?_;refine hD.r0 ?_;refine hD.as (.int .i64 0) hk ?_;refine nm rfl ?_;refine hD.e0 ?_;refine hD.block (n:=0) ?_;refine hD.loop (n:=0) ?_;exact ex_out (Q.acts i).length (j:=0) hi rfl (Nat.zero_le _) hbig T hm rfl rfl rfl rfl
theorem ex_ok {C:WC}{Q:ExQ}(hn:C.n=Q.n)(hbig:∀ i,i<Q.n→(Q.acts i).length<1099511627776)(hfn:∀ i,i<C.n→C.fn i=20)(hcap:∀ i,i<C.n→C.cap i=#[ptr (Q.lx i),ptr Q.yx]):BOk ((exPlan Q).bods C) C:=by
 refine Plan.ok (fun {a st X w b} h hb=>ExM.lt h b hb) (fun {a st X w w'} h hb hs=>ExM.frame h hb hs) (fun {a st X w i l rv} h hi e=>?_) (fun {i} hi=>?_) (fun i hi=>⟨7*(Q.acts i).length,fun K F cs st X w n a args T e hm ha=>?_⟩)
 ·obtain⟨l,gh⟩:=l
  have hs:=ExM.sus h i l gh rv e;cases l with
  | ask1 s=>exact .inl ⟨hs.1,rfl⟩
  | ask3 s=>exact .inl ⟨hs.1,rfl⟩
  | look s t=>exact .inl ⟨hs.1,rfl⟩
  | leave s=>exact .inl ⟨hs,rfl⟩
  | take0 s =>
   obtain⟨hrv,_⟩:=hs;refine .inr ⟨34,#[ptr Q.mb],#[],_,_,hrv,Try.func34,rfl,rfl,fun m K hK c cs w1 hc k1 hk=>?_⟩;have b1:=k1.blk (ExM.cm h) (by simp);refine hK.callp fits shut (f:=34) rfl (v:=.bool (exRdy i (.take0 s) a)) (fun τ d=>?_) (hk w1 ⟨Nat.le_refl _,fun _ _ _=>rfl⟩);exact free_calls (re w1 τ d) Q.mb (by0:=a.mby) (b1.cell 1)
  | wait1 s num =>
   obtain⟨bb,nb,ab,_,hrv,_,_,hbb,hnb,_⟩:=hs;refine .inr ⟨36,#[],#[ptr bb,ptr nb],_,_,hrv,Try.func36,rfl,rfl,fun m K hK c cs w1 hc k1 hk=>?_⟩;have b1:=k1.blk (ExM.cf h) (by simp);have b2:=k1.blk hbb (by simp);have b3:=k1.blk hnb (by simp);refine hK.call fits shut (f:=36) rfl (R:=fun v w'=>v=.bool (exRdy i (.wait1 s num) a)∧Kp [] w1 w') (fun v w' τ d h=>⟨h.1,⟨h.2.size,h.2.block⟩⟩) (fun τ d=>(rdy36 (re w1 τ d) Q.fb bb nb b1 b2 b3).mono fun e w' h=>⟨_,h.1,rfl,⟨(Keeps.kp h.2).size,(Keeps.kp h.2).block⟩⟩) ?_;rintro v w' ⟨rfl,k2⟩;exact hk w' k2
  | take2 s =>
   obtain⟨bb,ab,_,hrv,_,hbb,_⟩:=hs;refine .inr ⟨71,#[],#[ptr bb],_,_,hrv,Try.func71,rfl,rfl,fun m K hK c cs w1 hc k1 hk=>?_⟩;have b1:=k1.blk (ExM.cw h) (by simp);have b2:=k1.blk hbb (by simp);exact hK.callp fits shut (f:=71) rfl (v:=.bool (exRdy i (.take2 s) a)) (fun τ d=>rdy71 (re w1 τ d) Q.wb bb b1 b2) (hk w1 ⟨Nat.le_refl _,fun _ _ _=>rfl⟩)
  | wait3 s =>
   obtain⟨bb,ab,_,hrv,_,hbb,_⟩:=hs;refine .inr ⟨72,#[],#[ptr bb],_,_,hrv,Try.func72,rfl,rfl,fun m K hK c cs w1 hc k1 hk=>?_⟩;have b1:=k1.blk (ExM.cw h) (by simp);have b2:=k1.blk hbb (by simp);exact hK.callp fits shut (f:=72) rfl (v:=.bool (exRdy i (.wait3 s) a)) (fun τ d=>rdy72 (re w1 τ d) Q.wb bb b1 b2) (hk w1 ⟨Nat.le_refl _,fun _ _ _=>rfl⟩)
 ·rw[hfn i hi];exact⟨_,_,Try.func20,rfl,rfl⟩
 ·obtain rfl:args=#[ptr (C.bt i),ptr (Q.lx i),ptr Q.yx]:=by
   rw[hcap i hi] at ha;exact Array.ext' ha.symm
  rw[hfn i hi];exact ex_body (hn▸hi) (hbig i (hn▸hi)) T hm
def q5:Code:=Try.f5.body.getD .skip
theorem sumTo_upto {f:Nat→Nat}{m:Nat}:∀ {n:Nat},m≤n→Go.ConcN.sumTo m f≤Go.ConcN.sumTo n f
 | 0,h=>by obtain rfl:m=0:=Nat.le_zero.1 h;exact Nat.le_refl _
 | n+1,h=>by
  have h2:Go.ConcN.sumTo (n+1) f=Go.ConcN.sumTo n f+f n:=rfl;by_cases e:m=n+1
  ·subst e;exact Nat.le_refl _
  ·have:=sumTo_upto (f:=f) (m:=m) (n:=n) (by omega);omega
def exV (cx:Nat)(b:Nat):Value:=.func (.func 20) #[] #[ptr b,ptr cx]
structure ExB (w:World)(av:Nat→Value)(cx N j:Nat)(bs:List Nat)(v:Value):Prop where
 len:bs.length=j
 rep:RepF w v (bs.map (exV cx))
 fresh:∀ b∈fp v,N≤b
 made:∀ i b,bs[i]?=some b→N≤b∧b∉fp v∧Blk w b [av i] 55
theorem ExB.zero {w:World}{av:Nat→Value}{cx N:Nat}:ExB w av cx N 0 [] (.slice none 0 0):=⟨rfl,Rep.nil,by simp[fp,Value.ownBlock],fun i b h=>by simp at h⟩
theorem ExB.next {w W w2:World}{av:Nat→Value}{cx N j g cap kb:Nat}{bs:List Nat}{v:Value}(h:ExB w av cx N j bs v)(hN:N≤w.heap.size)(hkb:kb=w.heap.size)(k0:Kp [] w W)(b0:Blk W kb [av j] 55)
  (r:RepF w2 (.slice (some ⟨g,0,none⟩) (j+1) cap) (bs.map (exV cx)++[exV cx kb])) (k:Keeps (fp v) W w2) (a:g∈fp v∨g=W.heap.size):ExB w2 av cx N (j+1) (bs++[kb]) (.slice (some ⟨g,0,none⟩) (j+1) cap):=by
 have hf:∀ b,b∈fp (.slice (some ⟨g,0,none⟩) (j+1) cap)→b=g:=fun b hb=>by simpa[fp,Value.ownBlock] using hb
 have hgl:∀ b∈fp v,b<w.heap.size:=fun b hb=>h.rep.fp_lt b hb;have hWl:=k0.size;have hb0:=b0.lt;have hne:∀ b,b∉fp v→b<W.heap.size→b∉fp (.slice (some ⟨g,0,none⟩) (j+1) cap):=fun b hb hl hm=>by
  have e:=hf b hm;subst e;rcases a with q | q
  ·exact hb q
  ·omega
 have hkv:kb∉fp v:=fun hm=>by have:=hgl kb hm;omega
 refine⟨by rw[la',h.len];rfl,by rw[List.map_append];exact r,fun b hb=>?_,fun i b hb=>?_⟩
 ·rw[hf b hb]
  rcases a with q | q
  ·exact h.fresh g q
  ·omega
 ·by_cases hi:i<j
  ·rw[List.getElem?_append_left (by rw[h.len];exact hi)] at hb
   obtain⟨q1,q2,q3⟩:=h.made i b hb;exact⟨q1,hne b q2 (nl' q3.lt hWl),k.blk (k0.blk q3 (by simp)) q2⟩
  ·have hij:i=j:=by
    have:=(List.getElem?_eq_some_iff.1 hb).1;rw[la',h.len] at this;have h1:[kb].length=1:=rfl;omega
   subst hij;rw[List.getElem?_append_right (by rw[h.len];exact Nat.le_refl _),h.len,Nat.sub_self] at hb;obtain rfl:kb=b:=by simpa using hb
   exact⟨by omega,hne kb hkv hb0,k.blk b0 hkv⟩
def xxQ (av:Nat→Value)(ln:Nat→Nat)(n bx yx:Nat)(w:World)(t:Array Value)(w':World):Prop:=∃ x bs v,t=fg 82 x∧(x 1=ptr bx∧x 3=ptr yx∧x 4=.int .i64 (Go.ConcN.sumTo n ln:Nat)∧x 5=v)∧ExB w' av yx w.heap.size n bs v∧Kp [] w w'
theorem xxQ_mk {av:Nat→Value}{ln:Nat→Nat}{n bx yx:Nat}{w w':World}{t:Array Value}{bs:List Nat}{v:Value}(hs:t.size=82)(h:t.getD 1 undef=ptr bx∧t.getD 3 undef=ptr yx∧t.getD 4 undef=.int .i64 (Go.ConcN.sumTo n ln:Nat)∧t.getD 5 undef=v)(b:ExB w' av yx w.heap.size n bs v)(k:Keeps [] w w'):xxQ av ln n bx yx w t w':=⟨_,bs,v,t_fg hs,h,b,Keeps.kp k⟩
theorem xx1 (w:World)(x:Nat→Value)(bx:Nat)(gt gp:Option Addr)(n ct np cp:Nat)(c0:w.cell? ⟨bx,0,none⟩=some (.slice gt n ct))(c1:w.cell? ⟨bx,1,none⟩=some (.slice gp np cp))(h1:x 1=ptr bx)(h2:x 2=.bool false) :
  (sL (sL (sR q5))).wp Try.prog (fun e a' w'=>e=.normal∧a'.defers=[]∧lQ 82 (fun x=>x 1=ptr bx∧x 2=.bool false∧x 25=.bool (decide (n<1∨8<n∨65536<np))) w a'.tmps w') ⟨fg 82 x,[]⟩ w:=by
 have HQ:Hid (∀ (t:Array Value) (w':World),lQ 82 (fun x=>x 1=ptr bx∧x 2=.bool false∧x 25=.bool (decide (n<1∨8<n∨65536<np))) w t w'→lQ 82 (fun x=>x 1=ptr bx∧x 2=.bool false∧x 25=.bool (decide (n<1∨8<n∨65536<np))) w t w'):=Lib.hid fun _ _ h=>h;generalize hG:lQ 82 (fun x=>x 1=ptr bx∧x 2=.bool false∧x 25=.bool (decide (n<1∨8<n∨65536<np))) w=G at HQ ⊢;have HG:=Lib.hid hG;clear hG;rw[show fg 82 x=#[x 0,x 1,x 2,x 3,x 4,x 5,x 6,x 7,x 8,x 9,x 10,x 11,x 12,x 13,x 14,x 15,x 16,x 17,x 18,x 19,x 20,x 21,x 22,x 23,x 24,x 25,x 26,x 27,x 28,x 29,x 30,x 31,x 32,x 33,x 34,x 35,x 36,x 37,x 38,x 39,x 40,x 41,x 42,x 43,x 44,x 45,x 46,x 47,x 48,x 49,x 50,x 51,x 52,x 53,x 54,x 55,x 56,x 57,x 58,x 59,x 60,x 61,x 62,x 63,x 64,x 65,x 66,x 67,x 68,x 69,x 70,x 71,x 72,x 73,x 74,x 75,x 76,x 77,x 78,x 79,x 80,x 81] from rfl];simp only[q5,Try.f5,Option.getD_some,sL,sR,sB,sT,sF,h1,h2];by_cases q1:n<1
 ·go_wp2
  all_goals first
   | (exfalso;omega)
   | (refine HQ.out _ _ ?_;rw[← HG.out];exact lQ_mk rfl ⟨rfl,rfl,congrArg Value.bool (by rw[decide_eq_true (show(n<1∨8<n∨65536<np) by omega)];try (first | rfl | (simp only[Bool.false_or,Bool.or_eq_false_iff,decide_eq_false_iff_not];omega) | (simp only[Bool.or_eq_true,decide_eq_true_eq];omega)))⟩ (Keeps.refl _ _))
 by_cases q2:8<n
 ·go_wp2
  all_goals first
   | (exfalso;omega)
   | (refine HQ.out _ _ ?_;rw[← HG.out];exact lQ_mk rfl ⟨rfl,rfl,congrArg Value.bool (by rw[decide_eq_true (show(n<1∨8<n∨65536<np) by omega)];try (first | rfl | (simp only[Bool.false_or,Bool.or_eq_false_iff,decide_eq_false_iff_not];omega) | (simp only[Bool.or_eq_true,decide_eq_true_eq];omega)))⟩ (Keeps.refl _ _))
 by_cases q3:65536<np
 ·go_wp2
  all_goals first
   | (exfalso;omega)
   | (refine HQ.out _ _ ?_;rw[← HG.out];exact lQ_mk rfl ⟨rfl,rfl,congrArg Value.bool (by rw[decide_eq_true (show(n<1∨8<n∨65536<np) by omega)];try (first | rfl | (simp only[Bool.false_or,Bool.or_eq_false_iff,decide_eq_false_iff_not];omega) | (simp only[Bool.or_eq_true,decide_eq_true_eq];omega)))⟩ (Keeps.refl _ _))
 go_wp2
 all_goals first
  | (exfalso;omega)
  | (refine HQ.out _ _ ?_;rw[← HG.out];exact lQ_mk rfl ⟨rfl,rfl,congrArg Value.bool (by rw[decide_eq_false (show ¬ (n<1∨8<n∨65536<np) by omega)];try (first | rfl | (simp only[Bool.false_or,Bool.or_eq_false_iff,decide_eq_false_iff_not];omega) | (simp only[Bool.or_eq_true,decide_eq_true_eq];omega)))⟩ (Keeps.refl _ _))
theorem xx2 (w:World)(x:Nat→Value)(gt:Option Addr)(n ct bx yx:Nat)(gi:Nat→Option Addr)(ln ci:Nat→Nat)(av:Nat→Value)(hav:∀ j,av j=.slice (gi j) (ln j) (ci j))(hn:n≤8)(c0:w.cell? ⟨bx,0,none⟩=some (.slice gt n ct))(hx:∀ j,j<n→∃ b o,gt=some ⟨b,o,none⟩∧w.cell? ⟨b,o+j,none⟩=some (av j))(hs:Go.ConcN.sumTo n ln≤1099511627776)(hn0:0<n)(h1:x 1=ptr bx)(h3:x 3=ptr yx)(h4:x 4=.int .i64 0)(h5:x 5=.slice none 0 0)(h6:x 6=.int .i64 0) :
  (sR (sL (sR (sR (sR (sR (sR q5))))))).wp Try.prog (fun e a' w'=>e=.normal∧a'.defers=[]∧xxQ av ln n bx yx w a'.tmps w') ⟨fg 82 x,[]⟩ w:=by
 have HQ:Hid (∀ (t:Array Value) (w':World),xxQ av ln n bx yx w t w'→xxQ av ln n bx yx w t w'):=Lib.hid fun _ _ h=>h;generalize hG:xxQ av ln n bx yx w=G at HQ ⊢;have HG:=Lib.hid hG;clear hG;obtain⟨tb,to,hg⟩:∃ tb to,gt=some ⟨tb,to,none⟩:=by
  obtain⟨b,o,h,_⟩:=hx 0 hn0;exact⟨b,o,h⟩
 subst hg;have HX:=Lib.hid (fun(W:World) (q:Keeps [] w W) (j:Nat) (hj:j<n)=>(show W.cell? ⟨tb,to+j,none⟩=some (.slice (gi j) (ln j) (ci j)) by
  obtain⟨b,o,h,hc⟩:=hx j hj;cases h;rw[hav] at hc;exact(Keeps.kp q).cells _ _ _ hc))
 have HC:=Lib.hid (fun(W:World) (q:Keeps [] w W)=>(Keeps.kp q).cells _ _ _ c0);have HS:=Lib.hid hs;have HA:=Lib.hid hav;clear hx c0 hs hav;rw[show fg 82 x=#[x 0,x 1,x 2,x 3,x 4,x 5,x 6,x 7,x 8,x 9,x 10,x 11,x 12,x 13,x 14,x 15,x 16,x 17,x 18,x 19,x 20,x 21,x 22,x 23,x 24,x 25,x 26,x 27,x 28,x 29,x 30,x 31,x 32,x 33,x 34,x 35,x 36,x 37,x 38,x 39,x 40,x 41,x 42,x 43,x 44,x 45,x 46,x 47,x 48,x 49,x 50,x 51,x 52,x 53,x 54,x 55,x 56,x 57,x 58,x 59,x 60,x 61,x 62,x 63,x 64,x 65,x 66,x 67,x 68,x 69,x 70,x 71,x 72,x 73,x 74,x 75,x 76,x 77,x 78,x 79,x 80,x 81] from rfl];simp only[q5,Try.f5,Option.getD_some,sL,sR,sB,sT,sF,h1,h3,h4,h5,h6]
 go_wp2
 go_loopw [4,5,6] (fun sv lv iv wr=>∃ (j:Nat) (bs:List Nat),j≤n∧sv=.int .i64 (Go.ConcN.sumTo j ln:Nat)∧iv=.int .i64 j∧ExB wr av yx w.heap.size j bs lv∧Keeps [] w wr) (fun _ _ iv _=>n-(intOf iv).toNat)
 case atStart=>exact⟨0,[],Nat.zero_le _,rfl,rfl,ExB.zero,Keeps.refl _ _⟩
 case round =>
  obtain⟨j,bs,hj,rfl,rfl,hB,hkp⟩:=hrel;have hbl:=hB.len;have hfm:=hB.rep.form;rw[List.length_map,hbl] at hfm;obtain⟨gl,cl,rfl,_⟩:=hfm;have HB:=Lib.hid hB;have HK:=Lib.hid hkp;have hsz:=hkp.size;have cb:=HC.out wr hkp;clear hB hkp;by_cases hlt:j<n
  ·have hc:=HX.out wr HK.out j hlt
   have hS:Go.ConcN.sumTo j ln+ln j≤1099511627776:=Nat.le_trans (sumTo_upto (f:=ln) (show j+1≤n by omega)) HS.out;have hml:(bs.map (exV yx)).length=j:=by rw[List.length_map,hbl]
   have HML:=Lib.hid hml;have HO:=Lib.hid (cell_one_at (wr.alloc (.cells #[.slice (gi j) (ln j) (ci j)] 55)) (exV yx wr.heap.size) 31 (N:=wr.heap.size+1) (by rw[wz']));have HR:=Lib.hid (fun(W:World) (q:Keeps [] wr W)=>HB.out.rep.keeps q (by simp));clear hml
   go_wp2_with (refine wpList_rep_append rfl (.tmp 48) (.tmp 50) 27 rfl .nilFunc 8 Try.underlying27 info54 rfl (by decide) (.slice gl j cl) (bs.map (exV yx)) rfl (HR.out _ (((Keeps.refl _ _).alloc _).alloc _)) (fun _=>rfl) ⟨wr.heap.size+1,0,none⟩ 1 1 [exV yx wr.heap.size] rfl rfl HO.out (by simp[exV,Value.oneCell']) (by decide) (by rw[HML.out];unfold maxLen;omega) (by rw[HML.out];omega) ?_;rw[HML.out];intro g2 cap2 w2 r2 k2 a2 lg q2;have R2:=Lib.hid r2;have K2:=Lib.hid k2;have A2:=Lib.hid a2;clear r2 k2 a2)
   go_roundw
   case rel =>
    have hB2:=HB.out.next (W:=(wr.alloc (.cells #[.slice (gi j) (ln j) (ci j)] 55)).alloc (.cells #[exV yx wr.heap.size] 31)) hsz rfl ((Kp.alloc [] wr _).trans (Kp.alloc [] _ _)) (by rw[HA.out];exact(Blk.new wr [.slice (gi j) (ln j) (ci j)] 55).alloc _) R2.out K2.out A2.out;have hk2:=lent_rel (m:=j+1) (cap2:=cap2) ((HK.out.alloc _).alloc _) HB.out.fresh K2.out A2.out;exact⟨j+1,bs++[wr.heap.size],by omega,by first | rfl | go_num,by go_num,hB2,hk2.1⟩
   case measure=>simp[intOf];omega
  ·obtain rfl:j=n:=by omega
   go_wp2
   refine HQ.out _ _ ?_;rw[← HG.out];exact xxQ_mk rfl ⟨rfl,rfl,rfl,rfl⟩ HB.out HK.out
end Go.Proofs.Ytgapgmigmlideaa.Lift
namespace Go.Proofs.Ytgapgmigmlideaa.Z
open Go Go.Conc Go.ChangeShapes Go.WideShapes Go.ChangeAt Go.RowKit Go.Deep Lift
theorem laidOut:laidOutB Try.prog=true:=by kernel_rfl
theorem bulk_pos {H:Type}(d:DataW H):0<Rows.uptoBulk d:=by
 cases d<;>try (simp[Rows.uptoBulk];done)
 rename_i l;cases l<;>simp[Rows.uptoBulk]
theorem bulk_len {H:Type}:∀ l:List (DataW H),l.length≤Rows.uptoBulkAll l
 | []=>Nat.zero_le _
 | d::l=>by
  have ih:=bulk_len l;have hd:=bulk_pos d;rw[Rows.uptoBulkAll,List.length_cons];omega
theorem bulk_of {H:Type}{l:List (DataW H)}(hk:Rows.uptoSmall H l=true):Rows.uptoBulkAll l≤1048576:=by
 unfold Rows.uptoSmall at hk;exact of_decide_eq_true hk
theorem cell_spot {w:World}{a:Addr}{v:Value}(h:w.cell? a=some v):a=⟨a.block,a.off,none⟩:=by
 obtain⟨b,o,s⟩:=a;unfold World.cell? at h;split at h
 ·cases s with
  | none=>rfl
  | some x=>simp at h
 ·cases h
theorem cell_row {w:World}{a:Addr}{v:Value}(h:w.cell? a=some v):∃ c t fz,w.heap[a.block]?=some (.cells c t fz):=by
 unfold World.cell? at h;cases e:w.heap[a.block]? with
 | none=>simp[e] at h
 | some x =>
  cases x<;>simp[e] at h
  exact⟨_,_,_,rfl⟩
theorem add_at (b o j:Nat):(⟨b,o,none⟩:Addr).add j=⟨b,o+j,none⟩:=by unfold Addr.add;split<;>simp_all
theorem spot_of {w:World}{a:Addr}{n:Nat}{cs:List Value}(h:w.cells? 0 (a.add (0*n)) n=some cs)(hn:0<n):a.spot=none:=by
 obtain⟨_,hl,hat⟩:=World.cells?_some h;have h0:=hat 0 hn;rw[Nat.zero_mul,show ∀ a:Addr,a.add 0=a from fun a=>if_pos rfl,show ∀ a:Addr,a.add 0=a from fun a=>if_pos rfl,List.getElem?_eq_getElem (by omega)] at h0;exact congrArg Addr.spot (cell_spot h0)
theorem list_of {α:Type}{p:Nat→α→Prop}:∀ n,(∀ i,i<n→∃ x,p i x)→∃ l:List α,l.length=n∧∀ i x,l[i]?=some x→p i x
 | 0,_=>⟨[],rfl,fun i x h=>by simp at h⟩
 | n+1,h=>by
  obtain⟨l,hl,hp⟩:=list_of n (fun i hi=>h i (by omega));obtain⟨x,hx⟩:=h n (by omega);refine⟨l++[x],by simp[hl],fun i y hy=>?_⟩;by_cases hi:i<n
  ·rw[List.getElem?_append_left (by omega)] at hy;exact hp i y hy
  ·rw[List.getElem?_append_right (by omega),hl] at hy
   by_cases he:i=n
   ·subst he;simp at hy;subst hy;exact hx
   ·rw[List.getElem?_eq_none (by simp;omega)] at hy;cases hy
def SlOk (w:World)(g:Option Addr)(n cap:Nat):Prop:=∀ a,g=some a→(∃ c t fz,w.heap[a.block]?=some (.cells c t fz))∨n=0∧cap=0
theorem cells5:Try.prog.cellsOf 5=1:=by kernel_rfl
theorem cells3:Try.prog.cellsOf 3=1:=by kernel_rfl
def IntsIn (w:World)(vp:Value)(xs:List Int):Prop:=∃ g c,vp=.slice g xs.length c∧SlOk w g xs.length c∧∀ (j:Nat) (u:Int),xs[j]?=some u→∃ b o,g=some ⟨b,o,none⟩∧w.cell? ⟨b,o+j,none⟩=some (.int .i64 u)
section
variable {H:Type}{enc:TypeId × Value→H}{w:World}{held:Bool}{fuel:Nat}{cs:List Value}{x:DataW H × List MemPlace}
structure BytesIn (w:World)(vp:Value)(xs:List Nat):Prop where
 sl:∃ g c,vp=.slice g xs.length c∧xs.length≤c∧c≤maxLen∧SlOk w g xs.length c∧∀ (j u:Nat),xs[j]?=some u→∃ b o,g=some ⟨b,o,none⟩∧w.cell? ⟨b,o+j,none⟩=some (.int .u8 u)
 byte:∀ u∈xs,u<256
theorem open_bytes (h:DataW.trod enc Try.prog w 0 (fun _=>true) held fuel 23 cs=some x) :
  ∃ (vp:Value) (xs:List Nat),cs=[vp]∧BytesIn w vp xs∧xs.length+1≤Rows.uptoBulk x.1:=by
 rcases open_slice Try.underlying23 h with⟨rfl,rfl⟩ | ⟨a,len,cap,m,n,D,Pl,rfl,_,hle,hmx,hm,rfl,hi⟩
 ·exact⟨_,[],rfl,⟨⟨none,0,rfl,Nat.le_refl _,Nat.zero_le _,fun a ha=>by (cases ha),fun j u hj=>by simp at hj⟩,fun u hu=>by simp at hu⟩,by simp[Rows.uptoBulk]⟩
 ·rw[if_pos rfl] at hm
  subst hm;rw[cells5] at hi;have hcell:∀ i,i<m→∃ u:Nat,a.spot=none∧w.cell? ⟨a.block,a.off+i,none⟩=some (.int .u8 u)∧u<256:=by
   intro i hlt;obtain⟨cs',hc,hd⟩:=hi i hlt;obtain⟨_,hcl,hat⟩:=World.cells?_some hc;obtain⟨v,rfl,_,hw⟩:=DataW.trod_int Try.underlying5 hd;have h0:=hat 0 (by omega);have hs:a.spot=none:=spot_of (hi 0 (by omega)).choose_spec.1 (by omega);obtain⟨b,o,s⟩:=a;simp only at hs;subst hs;rw[add_at,add_at,Nat.mul_one,Nat.add_zero] at h0;have hr:0≤v∧v<256:=by
    simp[Lit.wf,IntKind.min,IntKind.max,IntKind.bits,IntKind.signed] at hw;omega
   refine⟨v.toNat,rfl,?_,by omega⟩;rw[Int.toNat_of_nonneg hr.1];exact h0
  obtain⟨xs,hl,hxs⟩:=list_of (α:=Nat) len fun i hlt=>hcell i (by omega);refine⟨_,xs,rfl,⟨⟨some a,m,by rw[hl],by omega,hmx,fun a' ha=>?_,fun j u hj=>?_⟩,fun u hu=>?_⟩,?_⟩
  ·cases ha
   by_cases h0:m=0
   ·exact .inr ⟨by omega,h0⟩
   ·obtain⟨_,_,h2,_⟩:=hcell 0 (by omega)
    exact .inl (cell_row (a:=⟨a.block,_,none⟩) h2)
  ·obtain⟨h1,h2,_⟩:=hxs j u hj
   obtain⟨b,o,s⟩:=a;simp only at h1;subst h1;exact⟨b,o,rfl,h2⟩
  ·obtain⟨j,hj⟩:=List.getElem?_of_mem hu
   exact(hxs j u hj).2.2
  ·have:=bulk_len ((List.range len).map D)
   show _+1≤Rows.uptoBulk (.slice _ _);simp only[Rows.uptoBulk];simp only[List.length_map,List.length_range] at this;omega
end
theorem post_true {H:Type}{enc:TypeId × Value→H}{f:Func}{s:ChangeSpec}{t:TypeId}{W W':World}{v0:Value}{d0:DataW H}{before:List MemPlace}(hs:s.vars=[])(hp:f.params.toList=[t])(hr:f.resultTypes=#[4])
  (hd:∀ d,s.fn H [d]={results:=[.lit (.bool true)],args:=[d]}) (ht:Try.prog.readableRec t=true) (hrow:t<Try.prog.types.size)
  (hW:DataW.Whole enc Try.prog f.params.toList s.vars false W [v0] [d0] [] before) (h0:DataW.Trod enc Try.prog W 0 (fun _=>true) true t v0 d0 before) (hb:Below W.heap.size W W') :
  s.post enc Try.prog f false true false false W #[v0] (.bool true) W':=by
 refine⟨[d0],[],before,[],before,[],hW,?_,?_,?_,hb.frame _,fun h=>by cases h⟩
 ·rw[hr,List.append_nil,hd]
  exact trodAll_mk1 (shut_bool Try.underlying4 _)
 ·rw[hp,List.append_nil,hd]
  exact trodAll_mk1 (Below.trod laidOut ht hrow h0 hb fun x hx=>hW.lt x hx)
 ·rw[hs,List.append_nil,hd]
  rfl
end Go.Proofs.Ytgapgmigmlideaa.Z
namespace Go.Proofs.Ytgapgmigmlideaa.Lift
open Go Go.Conc Go.RowKit Pl
open Z (SlOk BytesIn IntsIn)
theorem slOk_rel {W:World}{g:Option Addr}{n c:Nat}(h:SlOk W g n c):VRel (seenR W) (.slice g n c) (.slice g n c):=by
 cases g with
 | none=>exact .flat rfl
 | some a =>
  rcases h a rfl with e | ⟨rfl,rfl⟩
  ·obtain⟨b,o,s⟩:=a
   exact .slice (seenR_in e)
  ·exact .void
theorem start_idle (W:World):Idle (SC.start W):=⟨fun _=>rfl,fun _=>rfl,Nat.one_pos⟩
theorem bytes_rel {W:World}{vp:Value}{picks:List Nat}(B:BytesIn W vp picks):VRel (seenR W) vp vp:=by
 obtain⟨g,c,rfl,_,_,h,_⟩:=B.sl;exact slOk_rel h
theorem some_heap:Try.prog.globals.size<(begin Try.prog (fun _ _=>0) default).world.heap.size:=of_decide_eq_true (by kernel_rfl)
theorem own:ownKnob Try.prog.godebug=none:=by kernel_rfl
theorem bytes_seen {W:World}{vp:Value}{picks:List Nat}(B:BytesIn W vp picks)(h0:0<W.heap.size):∃ pb,pb<(seenW W).heap.size∧Bytes pb (seenW W) vp picks:=by
 obtain⟨g,c,rfl,h1,h2,_,hc⟩:=B.sl;by_cases hne:picks=[]
 ·subst hne
  exact⟨0,by rw[seenW_size];exact h0,g,c,rfl,h1,h2,B.byte,fun h=>absurd rfl h⟩
 ·obtain⟨u,l,e⟩:=List.exists_cons_of_ne_nil hne
  obtain⟨b,o,hg,h⟩:=hc 0 u (by rw[e];rfl);obtain⟨_,_,_,hh⟩:=cell_isC h;refine⟨b,by rw[seenW_size];exact(aq' hh).1,g,c,rfl,h1,h2,B.byte,fun _=>⟨o,hg,fun j u hj=>?_⟩⟩;obtain⟨b',o',hg',h'⟩:=hc j u hj;rw[hg] at hg';cases hg';exact seenW_cell h' (.flat rfl)
end Go.Proofs.Ytgapgmigmlideaa.Lift
namespace Go.Proofs.Ytgapgmigmlideaa.Lift
open Go Go.Conc Go.RowKit Pl
theorem al_47:∀ w:World,(Instr.alloc 47 true (.tuple #[])).run Try.prog w=.ok (ptr w.heap.size) (w.alloc (.cells #[.pointer none] 47)):=fun w=>by
 simp[go_sem,Try.underlying47,Try.runUnderlying47,Try.sizeOf47,Try.isAgg47,Try.zeroValue47]
theorem s_47 {w:World}{a:Addr}{x:Value}{y:Option Addr}(hc:w.cell? a=some x)(hf:w.frozen? a=false):(Instr.storeAt 47 (.pointer (some a)) (.pointer y)).run Try.prog w=.ok () (w.setCell a (.pointer y)):=by simp[go_sem,hc,hf,Try.underlying47,Try.runUnderlying47,Try.sizeOf47,Try.isAgg47]
theorem fa46_1 {b o:Nat}:∀ w,(Instr.fieldAt 46 (.pointer (some ⟨b,o,none⟩)) 1).run Try.prog w=.ok (.pointer (some ⟨b,o+1,none⟩)) w:=fun w=>by
 simp[go_sem,Try.underlying46,Try.runUnderlying46,Try.sizeOf46,Try.isAgg46,Try.sizeOf23,Try.sizeOf44]
theorem l_23 {w:World}{a:Addr}{v:Value}(hc:w.cell? a=some v):(Instr.loadAt 23 (.pointer (some a))).run Try.prog w=.ok v w:=by simp[go_sem,hc,Try.underlying23,Try.runUnderlying23,Try.sizeOf23,Try.isAgg23]
theorem w_mul3 {a:Act}{oo:Oper}{w:World}{x y:Operand}{i j:Int}(h:oo.op=.binOp .mul 3 x y 3)(hx:a.eval x=.int .i64 i)(hy:a.eval y=.int .i64 j):(execOp a.eval oo).run Try.prog w=.ok (.value (.int .i64 (wrap64 (i*j)))) w:=by
 unfold execOp;rw[h];simp only[hx,hy];exact run_vv (by simp[go_sem,Try.underlying3,Try.runUnderlying3,IntKind.wrap_i64,wrap64])
theorem bx_46 {g g':Option Addr}{n c n' c':Nat}:∀ w:World,(Instr.box 46 (.agg #[.slice g n c,.slice g' n' c'])).run Try.prog w=.ok (ptr w.heap.size) (w.alloc (.cells #[.slice g n c,.slice g' n' c'] 46)):=fun w=>by
 simp[go_sem,Try.underlying46,Try.runUnderlying46,Try.sizeOf46,Try.isAgg46,Try.sizeOf44,Try.sizeOf23]
theorem bx_54 {p q r:Option Addr}{a b c d e:Int}{t:Bool}:∀ w:World,(Instr.box 54 (.agg #[.pointer p,.pointer q,.pointer r,.int .i64 a,.int .i64 b,.int .i64 c,.int .i64 d,.bool t,.int .i64 e])).run Try.prog w=.ok (ptr w.heap.size) (w.alloc (.cells #[.pointer p,.pointer q,.pointer r,.int .i64 a,.int .i64 b,.int .i64 c,.int .i64 d,.bool t,.int .i64 e] 54)):=fun w=>by
 simp[go_sem,Try.underlying54,Try.runUnderlying54,Try.sizeOf54,Try.isAgg54,Try.sizeOf52,Try.sizeOf48,Try.sizeOf39,Try.sizeOf50,Try.sizeOf4,Try.sizeOf3]
theorem pu_build54 {a:Act}{oo:Oper}{w:World}{x y z:Operand}{p q r:Nat}(h:oo.op=.build 54 #[(0,x),(1,y),(2,z)])(hx:a.eval x=ptr p)(hy:a.eval y=ptr q)(hz:a.eval z=ptr r):(execOp a.eval oo).run Try.prog w=.ok (.value (.agg #[ptr p,ptr q,ptr r,.int .i64 0,.int .i64 0,.int .i64 0,.int .i64 0,.bool false,.int .i64 0])) w:=by
 unfold execOp;rw[h];generalize a.eval=ρ at hx hy hz ⊢;simp[hx,hy,hz,go_sem,Try.underlying54,Try.runUnderlying54,Try.zeroValue54,Try.isAgg54,Try.sizeOf54,Try.sizeOf48,Try.sizeOf39,Try.sizeOf50,Try.sizeOf52,Try.sizeOf4,Try.sizeOf3]
theorem ex_law {Post:Value→World→Prop}{S:SC}{n:Nat}{acts:Nat→List (Int × Int)}{gi:Nat→Option Addr}{ci:Nat→Nat}{gt gp:Option Addr}{ct cp:Nat}{picks:List Nat}(hid:Idle S)(hT:∀ j,j<n→∃ b o,gt=some ⟨b,o,none⟩∧S.w.cell? ⟨b,o+j,none⟩=some ((fun j=>Value.slice (gi j) (acts j).length (ci j)) j))(hA:∀ j,j<n→ActsAt S.w.heap.size (fun b=>b<S.w.heap.size) S.w ((fun j=>Value.slice (gi j) (acts j).length (ci j)) j) (acts j))(hP:∃ pb,pb<S.w.heap.size∧Bytes pb S.w (.slice gp picks.length cp) picks)(hsum:Go.ConcN.sumTo n (fun i=>(acts i).length)≤1048576)(hpost:∀ W,Go.RowKit.Below S.n0 S.W0 W→Post (.bool true) W):Sound Try.prog link.tWg Post 0 S (gs (Frame.enter Try.prog 5 #[.agg #[.slice gt n ct,.slice gp picks.length cp]] .normal) []):=by
 have hk:(base 5).kind≠.early:=nofun;obtain⟨pb,hpb,hpk⟩:=hP;have SI:=hid;obtain⟨av,hav⟩:∃ av:Nat→Value,av=fun j=>.slice (gi j) (acts j).length (ci j):=⟨_,rfl⟩;have hav1:∀ j,av j=.slice (gi j) (acts j).length (ci j):=fun j=>by rw[hav]
 rw[← hav] at hT hA;clear hav;have hK:=clS (Post:=Post) S;refine ks (S:=S) ?_ rfl;have hD:=hK.det;obtain⟨w,hw⟩:∃ w,w=S.w:=⟨_,rfl⟩;rw[← hw] at hT hA hpb hpk ⊢;have kk:Kp [] w w:=⟨Nat.le_refl _,fun _ _ _=>rfl⟩;rw[show(#[.agg #[(.slice gt n ct),(.slice gp picks.length cp)]]:Array Value)=[.agg #[(.slice gt n ct),(.slice gp picks.length cp)]].toArray from rfl,enter_fg (n:=82) (c:=q5) Try.func5 rfl rfl rfl];refine hD.s0 ?_;refine hD.r0 ?_;refine hD.box (n:=0) (u:=(.agg #[.slice gt n ct,.slice gp picks.length cp])) (ob:=.cells #[.slice gt n ct,.slice gp picks.length cp] 46) hk rfl ⟨rfl,rfl,rfl,rfl,nofun⟩ rfl bx_46 ?_;obtain⟨w1,hsw1⟩:∃ z9,z9=w.alloc (.cells #[.slice gt n ct,.slice gp picks.length cp] 46):=⟨_,rfl⟩;obtain⟨nw1,hnw1⟩:∃ z9,z9=w.heap.size:=⟨_,rfl⟩;have ksw1:Kp [] w w1:=by rw[hsw1];exact Kp.alloc [] _ _
 have bw1:Blk w1 nw1 [.slice gt n ct,.slice gp picks.length cp] 46:=by rw[hsw1,hnw1];exact Blk.new _ _ _
 rw[← hsw1,← hnw1];clear hsw1;have genw1:w.heap.size≤nw1:=by rw[hnw1];exact kk.size
 have kk:=kk.trans ksw1;refine nm rfl ?_;refine hD.as (.bool false) hk ?_;refine nm rfl ?_;refine hD.e0 ?_;refine hD.s0 ?_;refine hD.s0 ?_;refine hK.seg fits shut (b:=base 5) ⟨_,Try.func5⟩ nofun (c:=(sL (sL (sR q5)))) (by decide +kernel) (Q:=lQ 82 (fun x=>x 1=ptr nw1∧x 2=.bool false∧x 25=.bool (decide (n<1∨8<n∨65536<picks.length))) w1) (fun t w' τ d h=>lQ_re h τ d) (fun τ d=>Code.wp_mono (fun e a w' ⟨h1,h2,h3⟩=>⟨h1,h2,lQ_un h3⟩) (xx1 (re w1 τ d) _ nw1 gt gp n ct picks.length cp (bw1.cell 0) (bw1.cell 1) rfl rfl)) fun t w2 ⟨x',ex',⟨g1,g2,g25⟩,ksw2⟩=>?_;subst ex';rw[allK.self (x:=x') (l:=[(1,ptr nw1),(2,.bool false),(25,.bool (decide (n<1∨8<n∨65536<picks.length)))]) ⟨g1,g2,g25,trivial⟩];have bw1':=ksw2.blk bw1 (by simp);have kk:=kk.trans ksw2;by_cases hbad:n<1∨8<n∨65536<picks.length
 ·refine hD.cond (n:=0) true (show Value.bool (decide (n<1∨8<n∨65536<picks.length))=_ by rw[decide_eq_true hbad]) rfl ?_
  refine hD.s0 ?_;refine hD.r0 ?_;refine hD.cf #[] hk Try.func7 ?_;show Sound Try.prog link.tWg Post 0 { S with w:=w2} _;refine works_runs (S:={S with w:=w2}) ⟨SI.roles,SI.grps,SI.pos⟩ rfl fun S7 S7I n7 z7 k7=>?_;have kk:=kk.trans k7;have hK:=clS (Post:=Post) S7;refine ks (S:=S7) ?_ rfl;have hD:=hK.det;obtain⟨w70,hw70⟩:∃ w,w=S7.w:=⟨_,rfl⟩;rw[← hw70] at kk ⊢;have ksw70:Kp [] w2 w70:=by rw[hw70];exact k7
  have bw1'':=ksw70.blk bw1' (by simp);refine fin_at (Kn:=fun _=>KS Try.prog link.tWg Post 0 S7) (n:=0) (dst:=some 26) rfl rfl ?_;refine nm rfl ?_;refine hD.as (.bool true) hk ?_;refine nm rfl ?_;refine hD.e0 ?_;refine hD.ret (n:=0) ?_;exact sound_true (S:={S7 with w:=w70}) ⟨S7I.roles,S7I.grps,S7I.pos⟩ Try.func5 (by decide +kernel) rfl rfl (fun W hB=>hpost W (by rw[n7,z7] at hB;exact hB))
 ·refine hD.cond (n:=0) false (show Value.bool (decide (n<1∨8<n∨65536<picks.length))=_ by rw[decide_eq_false hbad]) rfl ?_
  refine hD.k0 ?_;refine hD.s0 ?_;refine hD.r0 ?_;refine hD.cf #[] hk Try.func18 ?_;refine call_new hK (f:=18) rfl (fun w=>mutex_new w) fun w3 nw3 hnw3 ksw3 bw3=>?_;have genw3:w.heap.size≤nw3:=by rw[hnw3];exact kk.size
  have bw1'':=ksw3.blk bw1' (by simp);have kk:=kk.trans ksw3;refine fin_at (Kn:=fun _=>KS Try.prog link.tWg Post 0 S) (n:=0) (dst:=some 27) rfl rfl ?_;refine nm rfl ?_;refine hD.cf #[] hk Try.func13 ?_;refine call_new hK (f:=13) rfl (fun w=>fair_new w) fun w4 nw4 hnw4 ksw4 bw4=>?_;have genw4:w.heap.size≤nw4:=by rw[hnw4];exact kk.size
  have bw1''':=ksw4.blk bw1'' (by simp);have bw3':=ksw4.blk bw3 (by simp);have kk:=kk.trans ksw4;refine fin_at (Kn:=fun _=>KS Try.prog link.tWg Post 0 S) (n:=0) (dst:=some 28) rfl rfl ?_;refine nm rfl ?_;refine hD.cf #[] hk Try.func19 ?_;refine call_new hK (f:=19) rfl (fun w=>rw_new w) fun w5 nw5 hnw5 ksw5 bw5=>?_;have genw5:w.heap.size≤nw5:=by rw[hnw5];exact kk.size
  have bw1'''':=ksw5.blk bw1''' (by simp);have bw3'':=ksw5.blk bw3' (by simp);have bw4':=ksw5.blk bw4 (by simp);have kk:=kk.trans ksw5;refine fin_at (Kn:=fun _=>KS Try.prog link.tWg Post 0 S) (n:=0) (dst:=some 29) rfl rfl ?_;refine nm rfl ?_;refine hD.pu (.agg #[ptr nw3,ptr nw4,ptr nw5,.int .i64 0,.int .i64 0,.int .i64 0,.int .i64 0,.bool false,.int .i64 0]) hk (fun w=>pu_build54 rfl rfl rfl rfl) ?_;refine nm rfl ?_;refine hD.box (n:=0) (u:=(.agg #[ptr nw3,ptr nw4,ptr nw5,.int .i64 0,.int .i64 0,.int .i64 0,.int .i64 0,.bool false,.int .i64 0])) (ob:=.cells #[ptr nw3,ptr nw4,ptr nw5,.int .i64 0,.int .i64 0,.int .i64 0,.int .i64 0,.bool false,.int .i64 0] 54) hk rfl ⟨rfl,rfl,rfl,rfl,nofun⟩ rfl bx_54 ?_;obtain⟨w6,hsw6⟩:∃ z9,z9=w5.alloc (.cells #[ptr nw3,ptr nw4,ptr nw5,.int .i64 0,.int .i64 0,.int .i64 0,.int .i64 0,.bool false,.int .i64 0] 54):=⟨_,rfl⟩;obtain⟨nw6,hnw6⟩:∃ z9,z9=w5.heap.size:=⟨_,rfl⟩;have ksw6:Kp [] w5 w6:=by rw[hsw6];exact Kp.alloc [] _ _
  have bw6:Blk w6 nw6 [ptr nw3,ptr nw4,ptr nw5,.int .i64 0,.int .i64 0,.int .i64 0,.int .i64 0,.bool false,.int .i64 0] 54:=by rw[hsw6,hnw6];exact Blk.new _ _ _
  rw[← hsw6,← hnw6];clear hsw6;have genw6:w.heap.size≤nw6:=by rw[hnw6];exact kk.size
  have bw1''''':=ksw6.blk bw1'''' (by simp);have bw3''':=ksw6.blk bw3'' (by simp);have bw4'':=ksw6.blk bw4' (by simp);have bw5':=ksw6.blk bw5 (by simp);have kk:=kk.trans ksw6;refine nm rfl ?_;refine hD.alloc (n:=0) (ob:=.cells #[.pointer none] 47) hk rfl ⟨rfl,rfl,rfl,(by decide +kernel),nofun⟩ al_47 ?_;obtain⟨w7,hsw7⟩:∃ z9,z9=w6.alloc (.cells #[.pointer none] 47):=⟨_,rfl⟩;obtain⟨nw7,hnw7⟩:∃ z9,z9=w6.heap.size:=⟨_,rfl⟩;have ksw7:Kp [] w6 w7:=by rw[hsw7];exact Kp.alloc [] _ _
  have bw7:Blk w7 nw7 [.pointer none] 47:=by rw[hsw7,hnw7];exact Blk.new _ _ _
  rw[← hsw7,← hnw7];clear hsw7;have genw7:w.heap.size≤nw7:=by rw[hnw7];exact kk.size
  have bw1'''''':=ksw7.blk bw1''''' (by simp);have bw3'''':=ksw7.blk bw3''' (by simp);have bw4''':=ksw7.blk bw4'' (by simp);have bw5'':=ksw7.blk bw5' (by simp);have bw6':=ksw7.blk bw6 (by simp);have kk:=kk.trans ksw7;refine nm rfl ?_;refine hD.store (n:=0) (u:=(ptr nw7)) (z:=(ptr nw6)) hk rfl ⟨rfl,rfl,rfl,rfl,nofun⟩ rfl rfl (fun τ d=>((s_47 (w:=re w7 τ d) (bw7.cell 0) (bw7.frozen 0)).trans (congrArg (Result.ok ()) re_setCell))) (Nat.le_of_eq (World.size_setCell _ _ _).symm) ?_;obtain⟨w8,hsw8⟩:∃ z9,z9=w7.setCell ⟨nw7,0,none⟩ (ptr nw6):=⟨_,rfl⟩;have ksw8:Kp [nw7] w7 w8:=by rw[hsw8];exact⟨Nat.le_of_eq (World.size_setCell _ _ _).symm,fun c hc hn=>setCell_frame (by simpa using hn)⟩
  have bw8:Blk w8 nw7 [ptr nw6] 47:=by rw[hsw8];exact bw7.set 0 _
  rw[← hsw8];clear hsw8;have bw1''''''':=ksw8.blk bw1'''''' (by simpa using (cel_ne (Blk.cel bw1'''''') (Blk.cel bw7) (by decide)));have bw3''''':=ksw8.blk bw3'''' (by simpa using (cel_ne (Blk.cel bw3'''') (Blk.cel bw7) (by decide)));have bw4'''':=ksw8.blk bw4''' (by simpa using (cel_ne (Blk.cel bw4''') (Blk.cel bw7) (by decide)));have bw5''':=ksw8.blk bw5'' (by simpa using (cel_ne (Blk.cel bw5'') (Blk.cel bw7) (by decide)));have bw6'':=ksw8.blk bw6' (by simpa using (cel_ne (Blk.cel bw6') (Blk.cel bw7) (by decide)));have kk:=kk.new ksw8 (by simpa using genw7);refine hD.e0 ?_;refine hD.s0 ?_;refine hD.r0 ?_;refine hD.as (.int .i64 0) hk ?_;refine nm rfl ?_;refine hD.e0 ?_;refine hD.s0 ?_;refine hD.r0 ?_;refine hD.as (.slice none 0 0) hk ?_;refine nm rfl ?_;refine hD.e0 ?_;refine hD.s0 ?_;refine hD.s0 ?_;refine hD.r0 ?_;refine hD.as (.int .i64 0) hk ?_;refine nm rfl ?_;refine hD.e0 ?_;have hn0:0<n:=by omega
  have hn8:n≤8:=by omega
  obtain⟨ln,hln⟩:∃ ln:Nat→Nat,ln=fun i=>(acts i).length:=⟨_,rfl⟩;have hav2:∀ j,av j=.slice (gi j) (ln j) (ci j):=fun j=>by rw[hav1,hln]
  obtain⟨N,hN⟩:∃ N,N=Go.ConcN.sumTo n ln:=⟨_,rfl⟩;have hN30:N≤1048576:=by rw[hN,hln];exact hsum
  have hx1:∀ j,j<n→∃ b o,gt=some ⟨b,o,none⟩∧w8.cell? ⟨b,o+j,none⟩=some (av j):=fun j hj=>by
   obtain⟨b,o,h1,h2⟩:=hT j hj;exact⟨b,o,h1,kk.cells _ _ _ h2⟩
  have hge5:w.heap.size≤w8.heap.size:=kk.size;refine hK.seg fits shut (b:=base 5) ⟨_,Try.func5⟩ nofun (c:=(sR (sL (sR (sR (sR (sR (sR q5)))))))) (by decide +kernel) (Q:=xxQ av ln n nw1 nw7 w8) (fun t w' τ d ⟨x,bs,v,h1,h2,h3,h4⟩=>⟨x,bs,v,h1,h2,⟨h3.len,h3.rep,h3.fresh,h3.made⟩,⟨h4.size,h4.block⟩⟩) (fun τ d=>Code.wp_mono (fun e a w' ⟨h1,h2,x,bs,v,h3,h4,h5,h6⟩=>⟨h1,h2,x,bs,v,h3,h4,⟨h5.len,h5.rep,h5.fresh,h5.made⟩,⟨h6.size,h6.block⟩⟩) (xx2 (re w8 τ d) _ gt n ct nw1 nw7 gi ln ci av hav2 hn8 (bw1'''''''.cell 0) hx1 (by rw[← hN];omega) hn0 rfl rfl rfl rfl rfl)) fun t w5 ⟨x',bs,v,ex',⟨g1,g3,g4,g5⟩,hB,ksw5⟩=>?_;subst ex';rw[← hN] at g4;rw[allK.self (x:=x') (l:=[(1,ptr nw1),(3,ptr nw7),(4,.int .i64 (N:Nat)),(5,v)]) ⟨g1,g3,g4,g5,trivial⟩];have bw1'''''''':=ksw5.blk bw1''''''' (by simp);have bw3'''''':=ksw5.blk bw3''''' (by simp);have bw4''''':=ksw5.blk bw4'''' (by simp);have bw5'''':=ksw5.blk bw5''' (by simp);have bw6''':=ksw5.blk bw6'' (by simp);have bw8':=ksw5.blk bw8 (by simp);have kk:=kk.trans ksw5;refine hD.s0 ?_;refine hD.r0 ?_;refine hD.mv v hk ?_;refine nm rfl ?_;refine hD.field (n:=0) (v:=(ptrAt nw1 1)) (u:=(ptr nw1)) hk rfl ⟨rfl,rfl,rfl,rfl,nofun⟩ rfl fa46_1 ?_;refine nm rfl ?_;refine hD.ld (.slice gp picks.length cp) hk (fun τ d=>l_23 (bw1''''''''.cell 1)) ?_;refine nm rfl ?_;refine hD.mv (.int .i64 (N:Int)) hk ?_;refine nm rfl ?_;refine hD.pu (.int .i64 (wrap64 ((9:Int)*(N:Int)))) hk (fun w=>w_mul3 rfl rfl rfl) ?_;refine nm rfl ?_;refine hD.pu (.int .i64 (wrap64 ((wrap64 ((9:Int)*(N:Int)))+20))) hk (fun w=>w_add3 rfl rfl rfl) ?_;refine nm rfl ?_;refine hD.cf #[v,.slice gp picks.length cp,.int .i64 (wrap64 ((wrap64 ((9:Int)*(N:Int)))+20))] hk Try.func12 ?_;have hmost:wrap64 (wrap64 ((9:Int)*(N:Int))+20)=((9*N+20:Nat):Int):=by
   rw[IntWalk.wrap64_in ((9:Int)*(N:Int)) (by omega),IntWalk.wrap64_in _ (by omega)];omega
  rw[hmost];obtain⟨lb,c0,ev,hfl,_⟩:=hB.rep.ex (by rw[List.length_map,hB.len];exact hn0);rw[List.length_map,hB.len] at ev;subst ev;obtain⟨lx,hlx⟩:∃ lx:Nat→Nat,lx=fun i=>bs.getD i 0:=⟨_,rfl⟩;have hlxb:∀ i,i<n→bs[i]?=some (lx i):=fun i hi=>by
   rw[hlx];have:i<bs.length:=by rw[hB.len];exact hi
   show bs[i]?=some (bs.getD i 0);rw[List.getD_eq_getElem?_getD,List.getElem?_eq_getElem this];rfl
  have hlm:∀ i,i<n→w8.heap.size≤lx i∧Blk w5 (lx i) [av i] 55:=fun i hi=>by
   obtain⟨h1,_,h3⟩:=hB.made i _ (hlxb i hi);exact⟨h1,h3⟩
  have hpk5:Bytes pb w5 (.slice gp picks.length cp) picks:=hpk.same (kk.block pb hpb (by simp));have hfv:∀ j,j<n→w5.cell? ⟨lb,0+j,none⟩=some (.func (.func 20) #[] #[ptr (lx j),ptr nw7]):=fun j hj=>by
   rw[Nat.zero_add];exact hB.rep.cell1 (u:=fun x:Value=>x) (fun _=>rfl) j _ (by rw[List.getElem?_map,hlxb j hj];rfl)
  have hXl:∀ b,(fun b=>b=nw7∨b=nw6∨b=nw3∨b=nw4∨b=nw5∨(∃ i,i<n∧b=lx i)∨b<w.heap.size) b→b<w5.heap.size:=fun b hb=>by
   rcases hb with rfl | rfl | rfl | rfl | rfl | ⟨i,hi,rfl⟩ | hb
   ·exact bw8'.lt
   ·exact bw6'''.lt
   ·exact bw3''''''.lt
   ·exact bw4'''''.lt
   ·exact bw5''''.lt
   ·exact(hlm i hi).2.lt
   ·exact nl' hb kk.size
  obtain⟨Q,hQ⟩:∃ Q:ExQ,Q=⟨n,lx,nw7,nw6,nw3,nw4,nw5,w.heap.size,pb,w.heap[pb]?,av,acts⟩:=⟨_,rfl⟩;have hks:∀ i,(Q.ks i).length=(acts i).length:=fun i=>by rw[hQ];exact List.length_map _
  have hks4:∀ i,i<n→∀ p∈Q.ks i,p.1<4∧p.2<4:=fun i _=>exK_4;have hNs:Go.ConcN.sumTo n (fun i=>(Q.ks i).length)=N:=by rw[hN,hln];exact congrArg _ (funext hks)
  have hlen:∀ i,i<n→(acts i).length<1099511627776:=fun i hi=>by
   have h1:=sumTo_at (f:=ln) hi;have h2:ln i=(acts i).length:=by rw[hln]
   omega
  obtain⟨y,hy⟩:∃ y,y=(exPlan Q).run n ((9*N+20:Nat):Int) ex0 picks:=⟨_,rfl⟩;have hrun:=ex_run (n:=n) (ks:=Q.ks) (B:=(⟨fun _ _ _ _=>True,fun _ _ _=>True,exGo Q.ks,exRdy,fun _=>True⟩:Bods ExL ExA)) hks4 hn8 rfl rfl (by rw[hNs];omega) picks y (by rw[hNs];exact hy);rw[hNs] at hrun;obtain⟨r1,r2,r3,r4⟩:=hrun;show Sound Try.prog link.tWg Post 0 { S with w:=w5} _;refine run_planK (S:={S with w:=w5}) (p:=exPlan Q) (n:=n) (c0:=c0) (most:=((9*N+20:Nat):Int)) (picks:=picks) (X:=fun b=>b=nw7∨b=nw6∨b=nw3∨b=nw4∨b=nw5∨(∃ i,i<n∧b=lx i)∨b<w.heap.size) (a0:=ex0) (fb:=lb) (fo:=0) (pb:=pb) (fn:=fun _=>20) (cap:=fun i=>#[ptr (lx i),ptr nw7])
   (fun C h0 h1 h2=>ex_ok (by rw[h0,hQ]) (fun i hi=>by rw[hQ] at hi ⊢;exact hlen i hi) (fun i _=>by rw[h1]) (fun i _=>by rw[h2,hQ])) (fun h hb hs=>ExM.frame h hb hs) ⟨SI.roles,SI.grps,SI.pos⟩ hn0 hn8 rfl hfl hfv hpk5 (nl' hpb kk.size) (.inr ⟨Q.ob,fun a st X w hm=>by have h:=ExM.pk hm;rw[hQ] at h ⊢;exact h⟩) (by omega) (by omega) (by omega)
   (by
    rw[hQ];exact⟨hXl,fun i hi=>.inr (.inr (.inr (.inr (.inr (.inl ⟨i,hi,rfl⟩))))),.inl rfl,.inr (.inl rfl),.inr (.inr (.inl rfl)),.inr (.inr (.inr (.inl rfl))),.inr (.inr (.inr (.inr (.inl rfl)))),.inr (.inr (.inr (.inr (.inr (.inr hpb))))),hpb,kk.block pb hpb (by simp),⟨genw6,genw3,genw4,genw5⟩,fun i hi=>(hlm i hi).2,fun i hi=>(hA i hi).mono (fun b hb=>.inr (.inr (.inr (.inr (.inr (.inr hb)))))) (fun b hb _=>kk.block b hb (by simp)),bw8',bw6''',bw3'''''',bw4''''',bw5'''',fun i l g rv e=>by cases e⟩) hXl fun S6 ga ca ge ne ce R=>?_
  rw[← hy] at R ⊢;obtain⟨st',X',hm,_,_⟩:=R.mem;have c1:Blk S6.w nw7 [ptr nw6] 47:=by have h:=hm.cy;rw[hQ] at h;exact h
  have c2:Blk S6.w nw6 [ptr nw3,ptr nw4,ptr nw5,.int .i64 y.a.i0,.int .i64 y.a.i1,.int .i64 y.a.i2,.int .i64 y.a.i3,.bool y.a.bad,.int .i64 y.a.fin] 54:=by have h:=hm.cb;rw[hQ] at h;exact h
  rw[r2,r3] at c2;have hdn:donesE n y.st=List.replicate n true:=by
   refine List.ext_getElem (by simp[donesE]) fun i h1 h2=>?_;have hi:i<n:=by simpa[donesE] using h1
   simp[donesE,r1 i hi,isDoneE]
  rw[hdn,codeM_done];have S6I:=R.idle;have hK:=clS (Post:=Post) S6;refine ks (S:=S6) ?_ rfl;have hD:=hK.det;obtain⟨w6,hw6⟩:∃ w,w=S6.w:=⟨_,rfl⟩;rw[← hw6] at c1 c2 ⊢;have kk:Kp [] w6 w6:=⟨Nat.le_refl _,fun _ _ _=>rfl⟩;refine fin_at (Kn:=fun _=>KS Try.prog link.tWg Post 0 S6) (n:=0) (dst:=some 59) rfl rfl ?_;refine nm rfl ?_;refine hD.mv (.tuple #[.agg #[.slice ga y.acts.length ca,.slice ge ne ce,.int .i64 (picks.length-y.left.length:Nat)],.int .i64 0]) hk ?_;refine nm rfl ?_;refine hD.pu (.agg #[.slice ga y.acts.length ca,.slice ge ne ce,.int .i64 (picks.length-y.left.length:Nat)]) hk (fun w=>pu_ext rfl rfl rfl) ?_;refine nm rfl ?_;refine hD.pu (.int .i64 0) hk (fun w=>pu_ext rfl rfl rfl) ?_;refine nm rfl ?_;refine hD.alloc (n:=0) (ob:=.cells #[.slice none 0 0,.slice none 0 0,.int .i64 0] 34) hk rfl ⟨rfl,rfl,rfl,(by decide +kernel),nofun⟩ al_34 ?_;obtain⟨w61,hsw61⟩:∃ z9,z9=w6.alloc (.cells #[.slice none 0 0,.slice none 0 0,.int .i64 0] 34):=⟨_,rfl⟩;obtain⟨nw61,hnw61⟩:∃ z9,z9=w6.heap.size:=⟨_,rfl⟩;have ksw61:Kp [] w6 w61:=by rw[hsw61];exact Kp.alloc [] _ _
  have bw61:Blk w61 nw61 [.slice none 0 0,.slice none 0 0,.int .i64 0] 34:=by rw[hsw61,hnw61];exact Blk.new _ _ _
  rw[← hsw61,← hnw61];clear hsw61;have genw61:w6.heap.size≤nw61:=by rw[hnw61];exact kk.size
  have c1':=ksw61.blk c1 (by simp);have c2':=ksw61.blk c2 (by simp);have kk:=kk.trans ksw61;refine nm rfl ?_;refine hD.store (n:=0) (u:=(ptr nw61)) (z:=(.agg #[.slice ga y.acts.length ca,.slice ge ne ce,.int .i64 (picks.length-y.left.length:Nat)])) hk rfl ⟨rfl,rfl,rfl,rfl,nofun⟩ rfl rfl (fun τ d=>((st30 (w:=re w61 τ d) bw61).trans (congrArg (Result.ok ()) re_set3))) (Nat.le_of_eq set3_size.symm) ?_;obtain⟨w62,hsw62⟩:∃ z9,z9=set3 w61 nw61 (.slice ga y.acts.length ca) (.slice ge ne ce) (.int .i64 (picks.length-y.left.length:Nat)):=⟨_,rfl⟩;have ksw62:Kp [nw61] w61 w62:=by rw[hsw62];exact⟨Nat.le_of_eq set3_size.symm,fun c hc hn=>set3_frame (by simpa using hn)⟩
  have bw62:Blk w62 nw61 [.slice ga y.acts.length ca,.slice ge ne ce,.int .i64 (picks.length-y.left.length:Nat)] 34:=by rw[hsw62];exact set3_blk bw61
  rw[← hsw62];clear hsw62;have c1'':=ksw62.blk c1' (by simpa using (cel_ne (Blk.cel c1') (Blk.cel bw61) (by decide)));have c2'':=ksw62.blk c2' (by simpa using (cel_ne (Blk.cel c2') (Blk.cel bw61) (by decide)));have kk:=kk.new ksw62 (by simpa using genw61);refine hD.as (.int .i64 0) hk ?_;refine nm rfl ?_;refine hD.e0 ?_;refine hD.s0 ?_;refine hD.r0 ?_;refine hD.mv (.int .i64 0) hk ?_;refine nm rfl ?_;refine hD.pu (.bool true) hk (fun w=>w_eql35 (i:=0) (j:=0) rfl rfl rfl) ?_;refine nm rfl ?_;refine hD.mv (.bool true) hk ?_;refine nm rfl ?_;refine hD.gv (n:=0) (v:=(ptr nw6)) hk rfl rfl rfl (by decide +kernel) nofun (fun τ d=>ex_load rfl rfl (l_47 (c1''.cell 0))) ?_;refine nm rfl ?_;refine hD.gv (n:=0) (v:=(ptr nw6)) hk rfl rfl rfl (by decide +kernel) nofun (fun τ d=>ex_nilc rfl rfl) ?_;refine nm rfl ?_;refine hD.gv (n:=0) (v:=(ptrAt nw6 7)) hk rfl rfl rfl (by decide +kernel) nofun (fun τ d=>ex_field (v:=(ptrAt nw6 7)) rfl rfl fa54_4) ?_;refine nm rfl ?_;refine hD.gv (n:=0) (v:=(.bool false)) hk rfl rfl rfl (by decide +kernel) nofun (fun τ d=>ex_load rfl rfl (l_4 (c2''.cell 7))) ?_;refine nm rfl ?_;refine hD.gv (n:=0) (v:=(.bool true)) hk rfl rfl rfl (by decide +kernel) nofun (fun τ d=>pu_not (y:=false) rfl rfl) ?_;refine nm rfl ?_;refine hD.pu (.bool true) hk (fun w=>pu_pick (t:=true) rfl rfl rfl) ?_;refine nm rfl ?_;refine hD.mv (.bool true) hk ?_;refine nm rfl ?_;refine hD.gv (n:=0) (v:=(ptr nw6)) hk rfl rfl rfl (by decide +kernel) nofun (fun τ d=>ex_load rfl rfl (l_47 (c1''.cell 0))) ?_;refine nm rfl ?_;refine hD.gv (n:=0) (v:=(ptr nw6)) hk rfl rfl rfl (by decide +kernel) nofun (fun τ d=>ex_nilc rfl rfl) ?_;refine nm rfl ?_;refine hD.gv (n:=0) (v:=(ptrAt nw6 8)) hk rfl rfl rfl (by decide +kernel) nofun (fun τ d=>ex_field (v:=(ptrAt nw6 8)) rfl rfl fa54_5) ?_;refine nm rfl ?_;refine hD.gv (n:=0) (v:=(.int .i64 (N:Nat))) hk rfl rfl rfl (by decide +kernel) nofun (fun τ d=>ex_load rfl rfl (l_3 (c2''.cell 8))) ?_;refine nm rfl ?_;refine hD.gv (n:=0) (v:=(.int .i64 (N:Int))) hk rfl rfl rfl (by decide +kernel) nofun (fun τ d=>ex_move rfl rfl) ?_;refine nm rfl ?_;refine hD.gv (n:=0) (v:=(.bool true)) hk rfl rfl rfl (by decide +kernel) nofun (fun τ d=>(w_eql3 (i:=(N:Int)) (j:=(N:Int)) rfl rfl rfl).trans (by rw[decide_eq_true rfl])) ?_;refine nm rfl ?_;refine hD.pu (.bool true) hk (fun w=>pu_pick (t:=true) rfl rfl rfl) ?_;refine nm rfl ?_;refine hD.mv (.bool true) hk ?_;refine nm rfl ?_;refine hD.entg (n:=0) hk rfl rfl (by decide +kernel) nofun (fun τ d=>x_call rfl rfl Try.func7 rfl rfl rfl) ?_;show Sound Try.prog link.tWg Post 0 { S6 with w:=w62} _;refine works_runs (S:={S6 with w:=w62}) ⟨S6I.roles,S6I.grps,S6I.pos⟩ rfl fun S8 S8I n8 z8 k8=>?_;have kk:=kk.trans k8;have hK:=clS (Post:=Post) S8;refine ks (S:=S8) ?_ rfl;have hD:=hK.det;obtain⟨w80,hw80⟩:∃ w,w=S8.w:=⟨_,rfl⟩;rw[← hw80] at kk ⊢;have ksw80:Kp [] w62 w80:=by rw[hw80];exact k8
  refine fin_at (Kn:=fun _=>KS Try.prog link.tWg Post 0 S8) (n:=0) (dst:=some 80) rfl rfl ?_;refine nm rfl ?_;refine hD.pu (.bool true) hk (fun w=>pu_pick (t:=true) rfl rfl rfl) ?_;refine nm rfl ?_;refine hD.as (.bool true) hk ?_;refine nm rfl ?_;refine hD.e0 ?_;refine hD.ret (n:=0) ?_;exact sound_true (S:={S8 with w:=w80}) ⟨S8I.roles,S8I.grps,S8I.pos⟩ Try.func5 (by decide +kernel) rfl rfl (fun W hB=>hpost W (by rw[n8,z8] at hB;exact(R.n0▸R.W0▸hB)))
end Go.Proofs.Ytgapgmigmlideaa.Lift
