/- LockFair, whatever comes in: true, and what came in reads as it did. -/
import Derived.Deep.RegionWith
import Derived.Test.YtgapgmigmlideaaRows
import Derived.WalkKit
import Derived.ProofKit
import Derived.OpenShut
import Derived.JoinedCond
import Derived.Deep.Slices
import Derived.Deep.Fields
import Derived.ChangeSame
import Derived.Conc.Holds
import Derived.Conc.LeavingOf
import Derived.Test.YtgapgmigmlideaaMe
set_option linter.unusedVariables false
set_option linter.unusedSimpArgs false
set_option maxRecDepth 100000
set_option maxHeartbeats 6400000
noncomputable section
namespace Go.Proofs.Ytgapgmigmlideaa.Lift
open Go Go.Conc Go.RowKit Pl
def q15:Code:=Try.f15.body.getD .skip
theorem bx_39 {p:Option Addr}:∀ w:World,(Instr.box 39 (.pointer p)).run Try.prog w=.ok (ptr w.heap.size) (w.alloc (.cells #[.pointer p] 39)):=fun w=>by
 simp[go_sem,Try.underlying39,Try.runUnderlying39,Try.sizeOf39,Try.isAgg39,Try.zeroValue39]
theorem l_39 {w:World}{a:Addr}{v:Value}(hc:w.cell? a=some v):(Instr.loadAt 39 (.pointer (some a))).run Try.prog w=.ok v w:=by simp[go_sem,hc,Try.underlying39,Try.runUnderlying39,Try.sizeOf39,Try.isAgg39]
theorem fa88_1 {b o:Nat}:∀ w,(Instr.fieldAt 88 (.pointer (some ⟨b,o,none⟩)) 1).run Try.prog w=.ok (.pointer (some ⟨b,o+2,none⟩)) w:=fun w=>by
 simp[go_sem,Try.underlying88,Try.runUnderlying88,Try.sizeOf88,Try.isAgg88,Try.sizeOf3,Try.sizeOf86]
theorem fa88_2 {b o:Nat}:∀ w,(Instr.fieldAt 88 (.pointer (some ⟨b,o,none⟩)) 2).run Try.prog w=.ok (.pointer (some ⟨b,o+3,none⟩)) w:=fun w=>by
 simp[go_sem,Try.underlying88,Try.runUnderlying88,Try.sizeOf88,Try.isAgg88,Try.sizeOf3,Try.sizeOf86]
theorem ThR.new {L A:Type}{p:Plan L A}{C:WC}{rs:L × List Nat→List Frame→Prop}{i n:Nat}{K:Goroutine→World→Prop}{F:Frame}{cs:List Frame}{st:Nat→TS L}{X:Nat→Prop}{w w':World}{P:A × Option L}(T:ThR p C rs i K F cs st X w n P)(h:Kp [] w w'){nb:Nat}(hn:w.heap.size≤nb):ThR p C rs i K F cs st (fun b=>X b∨b=nb) w' n P:=by
 obtain⟨ba,sa,ck,ga,ca,hrn⟩:=T.rn;exact T.to ⟨h.size,fun b hb _=>h.block b hb (by simp),fun b hb=>hb.imp id fun e=>by subst e;exact hn⟩ (h.block _ T.bt.lt (by simp)) (h.block _ hrn.lt (by simp))
theorem ThR.grow {L A:Type}{p:Plan L A}{C:WC}{rs:L × List Nat→List Frame→Prop}{i n:Nat}{K:Goroutine→World→Prop}{F:Frame}{cs:List Frame}{st:Nat→TS L}{X:Nat→Prop}{w w':World}{P:A × Option L}(T:ThR p C rs i K F cs st X w n P){mb:Nat}{cells:List Value}{t:TypeId}(hb:Cel w mb cells t)(h1:t≠131)(h2:t≠118)(hX:X mb)(h:Kp [mb] w w'){nb:Nat}(hn:w.heap.size≤nb):ThR p C rs i K F cs st (fun b=>X b∨b=nb) w' n P:=by
 obtain⟨ba,sa,ck,ga,ca,hrn⟩:=T.rn;refine T.to ⟨h.size,fun b hb' hnx=>h.block b hb' fun hm=>hnx ?_,fun b hb=>hb.imp id fun e=>by subst e;exact hn⟩ (h.block _ T.bt.lt (by simpa using cel_ne T.bt hb (Ne.symm h1))) (h.block _ hrn.lt (by simpa using cel_ne hrn hb (Ne.symm h2)));rw[List.mem_singleton.1 hm];exact hX
def sQ (n:Nat)(Pr:(Nat→Value)→Prop)(b:Nat)(cells:List Value)(ty:TypeId)(w:World)(t:Array Value)(w':World):Prop:=∃ x,t=fg n x∧Pr x∧Kp [b] w w'∧Blk w' b cells ty
theorem sQ_mk {n:Nat}{Pr:(Nat→Value)→Prop}{w w':World}{t:Array Value}{b:Nat}{cells:List Value}{ty:TypeId}(hs:t.size=n)(h:Pr fun q=>t.getD q undef)(k:Kp [b] w w')(hb:Blk w' b cells ty):sQ n Pr b cells ty w t w':=⟨_,t_fg hs,h,k,hb⟩
theorem sQ_re {n:Nat}{Pr:(Nat→Value)→Prop}{w w':World}{t:Array Value}{b:Nat}{cells:List Value}{ty:TypeId}(h:sQ n Pr b cells ty w t w')(τ:Nat→Question→Nat)(d:Nat):sQ n Pr b cells ty w t (re w' τ d):=let ⟨x,h1,h2,h3,h4⟩:=h;⟨x,h1,h2,⟨h3.size,h3.block⟩,h4⟩
theorem sQ_un {n:Nat}{Pr:(Nat→Value)→Prop}{w w':World}{t:Array Value}{b:Nat}{cells:List Value}{ty:TypeId}{τ:Nat→Question→Nat}{d:Nat}(h:sQ n Pr b cells ty (re w τ d) t w'):sQ n Pr b cells ty w t w':=let ⟨x,h1,h2,h3,h4⟩:=h;⟨x,h1,h2,⟨h3.size,h3.block⟩,h4⟩
theorem Kp.kp1' {b:Nat}{w w' w'':World}(h:Kp [b] w w')(k:Kp [b] w' w''):Kp [b] w w'':=h.trans k
theorem oq15a (w:World)(x:Nat→Value)(mb bb b:Nat)(h0:x 0=ptr mb)(h1:x 1=ptr b)(h2:x 2=ptr bb)(h4:x 4=.int .i64 0) :
  (sL (sL (sR (sR q15)))).wp Try.prog (fun e a' w'=>e=.normal∧a'.defers=[]∧lQ 65 (fun x=>x 0=ptr mb∧x 1=ptr b∧x 2=ptr bb∧x 4=.int .i64 0∧x 35=.bool false) w a'.tmps w') ⟨fg 65 x,[]⟩ w:=by
 have HQ:Hid (∀ (t:Array Value) (w':World),lQ 65 (fun x=>x 0=ptr mb∧x 1=ptr b∧x 2=ptr bb∧x 4=.int .i64 0∧x 35=.bool false) w t w'→lQ 65 (fun x=>x 0=ptr mb∧x 1=ptr b∧x 2=ptr bb∧x 4=.int .i64 0∧x 35=.bool false) w t w'):=Lib.hid fun _ _ h=>h;generalize hG:lQ 65 (fun x=>x 0=ptr mb∧x 1=ptr b∧x 2=ptr bb∧x 4=.int .i64 0∧x 35=.bool false) w=G at HQ ⊢;have HG:=Lib.hid hG;clear hG;rw[show fg 65 x=#[x 0,x 1,x 2,x 3,x 4,x 5,x 6,x 7,x 8,x 9,x 10,x 11,x 12,x 13,x 14,x 15,x 16,x 17,x 18,x 19,x 20,x 21,x 22,x 23,x 24,x 25,x 26,x 27,x 28,x 29,x 30,x 31,x 32,x 33,x 34,x 35,x 36,x 37,x 38,x 39,x 40,x 41,x 42,x 43,x 44,x 45,x 46,x 47,x 48,x 49,x 50,x 51,x 52,x 53,x 54,x 55,x 56,x 57,x 58,x 59,x 60,x 61,x 62,x 63,x 64] from rfl];simp only[q15,Try.f15,Option.getD_some,sL,sR,sB,sT,sF,h0,h1,h2,h4]
 go_wp2
 go_quiet (fail)
 go_wp2
 refine HQ.out _ _ ?_;rw[← HG.out];exact lQ_mk rfl ⟨rfl,rfl,rfl,rfl,rfl⟩ ((Keeps.refl _ _).drewN _)
theorem oq15b (w:World)(x:Nat→Value)(mb bb b i:Nat)(by0 as0 ha0:Int)(hm:Blk w mb [.bool true,.int .i64 by0,.int .i64 as0,.int .i64 ha0] 88)(hbb:Blk w bb [ptr mb] 39)(hw:∀ w',Keeps [] w w'→Calls Try.prog 37 #[ptr b] w' fun e w2=>e=.returned (.int .i64 i)∧w2=w')(h0:x 0=ptr mb)(h1:x 1=ptr b)(h2:x 2=ptr bb) :
  (sL (sR (sR (sR (sR (sR (sR (sR (sR q15))))))))).wp Try.prog (fun e a' w'=>e=.normal∧a'.defers=[]∧sQ 65 (fun x=>x 0=ptr mb∧x 1=ptr b) mb [.bool true,.int .i64 i,.int .i64 as0,.int .i64 ha0] 88 w a'.tmps w') ⟨fg 65 x,[]⟩ w:=by
 have HQ:Hid (∀ (t:Array Value) (w':World),sQ 65 (fun x=>x 0=ptr mb∧x 1=ptr b) mb [.bool true,.int .i64 i,.int .i64 as0,.int .i64 ha0] 88 w t w'→sQ 65 (fun x=>x 0=ptr mb∧x 1=ptr b) mb [.bool true,.int .i64 i,.int .i64 as0,.int .i64 ha0] 88 w t w'):=Lib.hid fun _ _ h=>h;generalize hG:sQ 65 (fun x=>x 0=ptr mb∧x 1=ptr b) mb [.bool true,.int .i64 i,.int .i64 as0,.int .i64 ha0] 88 w=G at HQ ⊢;have HG:=Lib.hid hG;clear hG;rw[show fg 65 x=#[x 0,x 1,x 2,x 3,x 4,x 5,x 6,x 7,x 8,x 9,x 10,x 11,x 12,x 13,x 14,x 15,x 16,x 17,x 18,x 19,x 20,x 21,x 22,x 23,x 24,x 25,x 26,x 27,x 28,x 29,x 30,x 31,x 32,x 33,x 34,x 35,x 36,x 37,x 38,x 39,x 40,x 41,x 42,x 43,x 44,x 45,x 46,x 47,x 48,x 49,x 50,x 51,x 52,x 53,x 54,x 55,x 56,x 57,x 58,x 59,x 60,x 61,x 62,x 63,x 64] from rfl];simp only[q15,Try.f15,Option.getD_some,sL,sR,sB,sT,sF,h0,h1,h2];have HW:=Lib.hid hw;have c0:=hbb.cell 0;have c1:=hm.cell 1;have z1:=hm.frozen 1;have HM:=Lib.hid hm;clear hw hbb hm;refine Code.wp_mono (Q:=fun e a' w'=>match e with | .normal=>a'.defers=[]∧G a'.tmps w' | _=>False) (fun e a' w' h=>by cases e<;>first | exact⟨rfl,h.1,h.2⟩ | exact h.elim) ?_
 go_region_with (go_at_call 37;refine(HW.out _ ?_).mono ?_;exact(Keeps.refl _ _).drewN _;rintro e w' ⟨rfl,rfl⟩)
 all_goals
  refine⟨rfl,?_⟩;refine HQ.out _ _ ?_;rw[← HG.out];exact sQ_mk rfl ⟨rfl,rfl⟩ ⟨Nat.le_of_eq (World.size_setCell _ _ _).symm,fun c hc hn=>setCell_frame (by simpa using hn)⟩ (HM.out.set 1 _)
section
variable {L A:Type}{p:Plan L A}{C:WC}{k i n:Nat}{K:Goroutine→World→Prop}{F c:Frame}{cs rest:List Frame}{st:Nat→TS L}{X:Nat→Prop}{w:World}{a:A}{l:L}{g:List Nat}{P:A × Option L}
theorem fair_lock {mb:Nat}{by0 as0 ha0:Int}(T:Th p C (k+2) i K F cs st X w n (a,some l))(hc:∀ f∈c::rest,OkFr f)(hmb:Cel w mb [.bool true,.int .i64 by0,.int .i64 as0,.int .i64 ha0] 88)
  (hm:∀ bb w',w.heap.size≤bb→Kp [] w w'→Blk w' bb [ptr mb] 39→p.mem a (updT st i (.susp (l,[bb]) .nilFunc)) (fun b=>X b∨b=bb) w')
  (hres:∀ bb K F cs st X w n a,Th p C (k+1) i K F cs st X w n (p.go i (.susp l) a n)→(∃ rv,st i=.susp (l,[bb]) rv)→p.mem a st X w→∃ a2 l2,p.go i (.susp l) a n=(a2,some l2)∧∃ by1 as1 ha1:Int,X mb∧Blk w mb [.bool true,.int .i64 by1,.int .i64 as1,.int .i64 ha1] 88∧X bb∧Blk w bb [ptr mb] 39 ∧
   (∀ nb w',w.heap.size≤nb→Kp [mb] w w'→Blk w' mb [.bool true,.int .i64 by1,.int .i64 (wrap64 (as1+1)),.int .i64 ha1] 88→Blk w' bb [ptr mb] 39→Blk w' nb [.int .i64 as1] 3→p.mem a2 (updT st i (.susp (l2,[bb]) (.func (.func 36) #[] #[ptr bb,ptr nb]))) (fun b=>X b∨b=nb) w') ∧
   (∀ K F cs st X w n a,Th p C k i K F cs st X w n (p.go i (.susp l2) a n)→(∃ rv,st i=.susp (l2,[bb]) rv)→p.mem a st X w→∃ by2 as2 ha2:Int,X mb∧Blk w mb [.bool true,.int .i64 by2,.int .i64 as2,.int .i64 ha2] 88∧X bb∧Blk w bb [ptr mb] 39 ∧
   ∀ w',Kp [mb] w w'→Blk w' mb [.bool true,.int .i64 i,.int .i64 as2,.int .i64 (wrap64 (ha2+1))] 88→Th p C k i K F cs st X w' n (p.go i (.susp l2) a n)→K (gs (c.finish (.int .i64 0)) (rest++F::cs)) w')):K (gs (Frame.enter Try.prog 15 #[ptr mb,ptr (C.bt i)] .normal) (c::(rest++F::cs))) w:=by
 have hk:(base 15).kind≠.early:=nofun;have hK:=T.cl;have hD:=hK.det;rw[show(#[ptr mb,ptr (C.bt i)]:Array Value)=[ptr mb,ptr (C.bt i)].toArray from rfl,enter_fg (n:=65) (c:=q15) Try.func15 rfl rfl rfl];have kk:Kp [] w w:=⟨Nat.le_refl _,fun _ _ _=>rfl⟩;refine hD.s0 ?_;refine hD.r0 ?_;refine hD.box (n:=0) (u:=(ptr mb)) (ob:=.cells #[ptr mb] 39) hk rfl ⟨rfl,rfl,rfl,rfl,nofun⟩ rfl bx_39 ?_;obtain⟨w1,hsw1⟩:∃ z,z=w.alloc (.cells #[ptr mb] 39):=⟨_,rfl⟩;obtain⟨nw1,hnw1⟩:∃ z,z=w.heap.size:=⟨_,rfl⟩;have ksw1:Kp [] w w1:=by rw[hsw1];exact Kp.alloc [] _ _
 have bw1:Blk w1 nw1 [ptr mb] 39:=by rw[hsw1,hnw1];exact Blk.new _ _ _
 rw[← hsw1,← hnw1];clear hsw1;have genw1:w.heap.size≤nw1:=by rw[hnw1];exact kk.size
 have hmb':=ksw1.cel hmb (by simp);have kk:=kk.trans ksw1;refine nm rfl ?_;refine hD.as (.int .i64 0) hk ?_;refine nm rfl ?_;refine hD.e0 ?_;refine hD.s0 ?_;refine hD.s0 ?_;refine hD.r0 ?_;refine hD.ld (ptr mb) hk (fun τ d=>l_39 (bw1.cell 0)) ?_;refine nm rfl ?_;refine hD.pu (.bool false) hk (fun w=>w_eql39_p rfl rfl) ?_;refine nm rfl ?_;refine hD.mv (.bool false) hk ?_;refine nm rfl ?_;refine hD.gv (n:=0) (v:=(ptr mb)) hk rfl rfl rfl (by decide +kernel) nofun (fun τ d=>ex_load rfl rfl (l_39 (bw1.cell 0))) ?_;refine nm rfl ?_;refine hD.gv (n:=0) (v:=(ptr mb)) hk rfl rfl rfl (by decide +kernel) nofun (fun τ d=>ex_nilc rfl rfl) ?_;refine nm rfl ?_;refine hD.gv (n:=0) (v:=(ptr mb)) hk rfl rfl rfl (by decide +kernel) nofun (fun τ d=>ex_field (v:=(ptr mb)) rfl rfl fa88_0) ?_;refine nm rfl ?_;refine hD.gv (n:=0) (v:=(ptr mb)) hk rfl rfl rfl (by decide +kernel) nofun (fun τ d=>ex_field (v:=(ptr mb)) rfl rfl fa86_0) ?_;refine nm rfl ?_;refine hD.gv (n:=0) (v:=(.bool true)) hk rfl rfl rfl (by decide +kernel) nofun (fun τ d=>ex_load rfl rfl (l_4 (hmb'.cell 0))) ?_;refine nm rfl ?_;refine hD.gv (n:=0) (v:=(.bool false)) hk rfl rfl rfl (by decide +kernel) nofun (fun τ d=>pu_not (y:=true) rfl rfl) ?_;refine nm rfl ?_;refine hD.pu (.bool false) hk (fun w=>pu_pick (t:=false) rfl rfl rfl) ?_;refine nm rfl ?_;refine hD.e0 ?_;refine hD.cond (n:=0) false rfl rfl ?_;refine hD.k0 ?_;refine hD.s0 ?_;refine hD.s0 ?_;refine hK.seg fits shut (b:=base 15) ⟨_,Try.func15⟩ nofun (c:=(sL (sL (sR (sR q15))))) (by decide +kernel) (Q:=lQ 65 (fun x=>x 0=ptr mb∧x 1=ptr (C.bt i)∧x 2=ptr nw1∧x 4=.int .i64 0∧x 35=.bool false) w1) (fun t w' τ d h=>lQ_re h τ d) (fun τ d=>Code.wp_mono (fun e a w' ⟨h1,h2,h3⟩=>⟨h1,h2,lQ_un h3⟩) (oq15a (re w1 τ d) _ mb nw1 (C.bt i) rfl rfl rfl rfl)) fun t w2 ⟨x',ex',⟨g0,g1,g2,g4,g35⟩,ksw2⟩=>?_;subst ex';rw[allK.self (x:=x') (l:=[(0,ptr mb),(1,ptr (C.bt i)),(2,ptr nw1),(4,.int .i64 0),(35,.bool false)]) ⟨g0,g1,g2,g4,g35,trivial⟩];have hmb'':=ksw2.cel hmb' (by simp);have bw1':=ksw2.blk bw1 (by simp);have kk:=kk.trans ksw2;refine hD.cond (n:=0) false rfl rfl ?_;refine hD.k0 ?_;refine hD.s0 ?_;refine hD.r0 ?_;refine hD.mv (ptr (C.bt i)) hk ?_;refine nm rfl ?_;refine hD.cf #[ptr (C.bt i)] hk Try.func29 ?_;refine ThR.step (l:=l) (g:=[nw1]) (rest:=c::rest) (T.new kk genw1) (fun f hf=>by rcases List.mem_cons.1 hf with rfl | hf;exact⟨rfl,rfl,_,Try.func15⟩;exact hc f hf) (hm nw1 _ genw1 kk bw1') fun K F cs st X w n a T h1 h2=>?_;obtain⟨a2,l2,ego,by1,as1,ha1,hX,hb1,hXb,hbb,hm2,hres2⟩:=hres nw1 K F cs st X w n a T h1 h2;clear kk;have hK:=T.cl;have hD:=hK.det;have kk:Kp [] w w:=⟨Nat.le_refl _,fun _ _ _=>rfl⟩;refine fin0 (some 37) ?_;refine nm rfl ?_;have hmb1:=Blk.cel hb1;refine hD.e0 ?_;refine hD.s0 ?_;refine hD.r0 ?_;refine hD.ld (ptr mb) hk (fun τ d=>l_39 (hbb.cell 0)) ?_;refine nm rfl ?_;refine hD.nc ⟨mb,0,none⟩ hk ?_;refine nm rfl ?_;refine hD.field (n:=0) (v:=(ptrAt mb 2)) (u:=(ptr mb)) hk rfl ⟨rfl,rfl,rfl,rfl,nofun⟩ rfl fa88_1 ?_;refine nm rfl ?_;refine hD.ld (.int .i64 as1) hk (fun τ d=>l_3 (hb1.cell 2)) ?_
 refine nm rfl ?_;refine hD.alloc (n:=0) (ob:=.cells #[.int .i64 0] 3) hk rfl ⟨rfl,rfl,rfl,(by decide +kernel),nofun⟩ al_3 ?_;obtain⟨w11,hsw11⟩:∃ z,z=w.alloc (.cells #[.int .i64 0] 3):=⟨_,rfl⟩;obtain⟨nw11,hnw11⟩:∃ z,z=w.heap.size:=⟨_,rfl⟩;have ksw11:Kp [] w w11:=by rw[hsw11];exact Kp.alloc [] _ _
 have bw11:Blk w11 nw11 [.int .i64 0] 3:=by rw[hsw11,hnw11];exact Blk.new _ _ _
 rw[← hsw11,← hnw11];clear hsw11;have genw11:w.heap.size≤nw11:=by rw[hnw11];exact kk.size
 have hb1':=ksw11.blk hb1 (by simp);have hbb':=ksw11.blk hbb (by simp);have kk:=kk.trans ksw11;refine nm rfl ?_;refine hD.store (n:=0) (u:=(ptr nw11)) (z:=(.int .i64 as1)) hk rfl ⟨rfl,rfl,rfl,rfl,nofun⟩ rfl rfl (fun τ d=>((s_3 (w:=re w11 τ d) (bw11.cell 0) (bw11.frozen 0)).trans (congrArg (Result.ok ()) re_setCell))) (Nat.le_of_eq (World.size_setCell _ _ _).symm) ?_;obtain⟨w12,hsw12⟩:∃ z,z=w11.setCell ⟨nw11,0,none⟩ (.int .i64 as1):=⟨_,rfl⟩;have ksw12:Kp [nw11] w11 w12:=by rw[hsw12];exact⟨Nat.le_of_eq (World.size_setCell _ _ _).symm,fun c hc hn=>setCell_frame (by simpa using hn)⟩
 have bw12:Blk w12 nw11 [.int .i64 as1] 3:=by rw[hsw12];exact bw11.set 0 _
 rw[← hsw12];clear hsw12;have hb1'':=ksw12.blk hb1' (by simpa using (cel_ne (Blk.cel hb1') (Blk.cel bw11) (by decide)));have hbb'':=ksw12.blk hbb' (by simpa using (cel_ne (Blk.cel hbb') (Blk.cel bw11) (by decide)));have kk:=kk.new ksw12 (by simpa using genw11);refine hD.e0 ?_;refine hD.s0 ?_;refine hD.r0 ?_;refine hD.ld (ptr mb) hk (fun τ d=>l_39 (hbb''.cell 0)) ?_;refine nm rfl ?_;refine hD.nc ⟨mb,0,none⟩ hk ?_;refine nm rfl ?_;refine hD.field (n:=0) (v:=(ptrAt mb 2)) (u:=(ptr mb)) hk rfl ⟨rfl,rfl,rfl,rfl,nofun⟩ rfl fa88_1 ?_;refine nm rfl ?_;refine hD.ld (.int .i64 as1) hk (fun τ d=>l_3 (hb1''.cell 2)) ?_;refine nm rfl ?_;refine hD.pu (.int .i64 (wrap64 (as1+1))) hk (fun w=>w_add3 rfl rfl rfl) ?_;refine nm rfl ?_;refine hD.nc ⟨mb,0,none⟩ hk ?_;refine nm rfl ?_;refine hD.field (n:=0) (v:=(ptrAt mb 2)) (u:=(ptr mb)) hk rfl ⟨rfl,rfl,rfl,rfl,nofun⟩ rfl fa88_1 ?_;refine nm rfl ?_;refine hD.store (n:=0) (u:=(ptrAt mb 2)) (z:=(.int .i64 (wrap64 (as1+1)))) hk rfl ⟨rfl,rfl,rfl,rfl,nofun⟩ rfl rfl (fun τ d=>((s_3 (w:=re w12 τ d) (hb1''.cell 2) (hb1''.frozen 2)).trans (congrArg (Result.ok ()) re_setCell))) (Nat.le_of_eq (World.size_setCell _ _ _).symm) ?_;obtain⟨w13,hsw13⟩:∃ z,z=w12.setCell ⟨mb,2,none⟩ (.int .i64 (wrap64 (as1+1))):=⟨_,rfl⟩;have ksw13:Kp [mb] w12 w13:=by rw[hsw13];exact⟨Nat.le_of_eq (World.size_setCell _ _ _).symm,fun c hc hn=>setCell_frame (by simpa using hn)⟩
 have bw13:Blk w13 mb [.bool true,.int .i64 by1,.int .i64 (wrap64 (as1+1)),.int .i64 ha1] 88:=by rw[hsw13];exact hb1''.set 2 _
 rw[← hsw13];clear hsw13;have hbb''':=ksw13.blk hbb'' (by simpa using (cel_ne (Blk.cel hbb'') (Blk.cel hb1'') (by decide)));have bw12':=ksw13.blk bw12 (by simpa using (cel_ne (Blk.cel bw12) (Blk.cel hb1'') (by decide)));have kk:=kk.kp1 ksw13;refine hD.e0 ?_;refine hD.s0 ?_;refine hD.r0 ?_;refine hD.mv (ptr (C.bt i)) hk ?_;refine nm rfl ?_;refine hD.pu (.func (.func 36) #[] #[ptr nw1,ptr nw11]) hk (fun w=>w_mk0_2 rfl rfl rfl) ?_;refine nm rfl ?_;refine hD.cf #[ptr (C.bt i),(.func (.func 36) #[] #[ptr nw1,ptr nw11])] hk Try.func35 ?_;refine ThR.wait (l:=l2) (g:=[nw1]) (rest:=c::rest) ((T.eqP ego).grow hmb1 (by decide) (by decide) hX kk genw11) (.inr ⟨_,_,_,rfl⟩) (fun f hf=>by rcases List.mem_cons.1 hf with rfl | hf;exact⟨rfl,rfl,_,Try.func15⟩;exact hc f hf) (hm2 nw11 _ genw11 kk bw13 hbb''' bw12') fun K F cs st X w n a T h1 h2=>?_;obtain⟨by2,as2,ha2,hX,hb2,hXb,hbb,hnext⟩:=hres2 K F cs st X w n a T h1 h2;have hK:=T.cl;have hD:=hK.det;clear kk;refine fin0 (some 51) ?_;refine nm rfl ?_;refine hD.e0 ?_;refine hD.s0 ?_;refine hD.r0 ?_;refine hD.ld (ptr mb) hk (fun τ d=>l_39 (hbb.cell 0)) ?_;refine nm rfl ?_;refine hD.nc ⟨mb,0,none⟩ hk ?_;refine nm rfl ?_;refine hD.field (n:=0) (v:=(ptrAt mb 3)) (u:=(ptr mb)) hk rfl ⟨rfl,rfl,rfl,rfl,nofun⟩ rfl fa88_2 ?_;refine nm rfl ?_;refine hD.ld (.int .i64 ha2) hk (fun τ d=>l_3 (hb2.cell 3)) ?_;refine nm rfl ?_;refine hD.pu (.int .i64 (wrap64 (ha2+1))) hk (fun w=>w_add3 rfl rfl rfl) ?_;refine nm rfl ?_;refine hD.nc ⟨mb,0,none⟩ hk ?_;refine nm rfl ?_;refine hD.field (n:=0) (v:=(ptrAt mb 3)) (u:=(ptr mb)) hk rfl ⟨rfl,rfl,rfl,rfl,nofun⟩ rfl fa88_2 ?_;refine nm rfl ?_;refine hD.store (n:=0) (u:=(ptrAt mb 3)) (z:=(.int .i64 (wrap64 (ha2+1)))) hk rfl ⟨rfl,rfl,rfl,rfl,nofun⟩ rfl rfl (fun τ d=>((s_3 (w:=re w τ d) (hb2.cell 3) (hb2.frozen 3)).trans (congrArg (Result.ok ()) re_setCell))) (Nat.le_of_eq (World.size_setCell _ _ _).symm) ?_;obtain⟨w21,hsw21⟩:∃ z,z=w.setCell ⟨mb,3,none⟩ (.int .i64 (wrap64 (ha2+1))):=⟨_,rfl⟩;have ksw21:Kp [mb] w w21:=by rw[hsw21];exact⟨Nat.le_of_eq (World.size_setCell _ _ _).symm,fun c hc hn=>setCell_frame (by simpa using hn)⟩
 have bw21:Blk w21 mb [.bool true,.int .i64 by2,.int .i64 as2,.int .i64 (wrap64 (ha2+1))] 88:=by rw[hsw21];exact hb2.set 3 _
 rw[← hsw21];clear hsw21;have hbb':=ksw21.blk hbb (by simpa using (cel_ne (Blk.cel hbb) (Blk.cel hb2) (by decide)));refine hD.e0 ?_;refine hD.s0 ?_;have hmb2:=Blk.cel hb2;have T:=T.kp1 hmb2 (by decide) (by decide) hX ksw21;obtain⟨ba,sa,ck,ga,ca,hrn⟩:=T.rn;refine hK.seg fits shut (b:=base 15) ⟨_,Try.func15⟩ nofun (c:=(sL (sR (sR (sR (sR (sR (sR (sR (sR q15)))))))))) (by decide +kernel) (Q:=sQ 65 (fun x=>x 0=ptr mb∧x 1=ptr (C.bt i)) mb [.bool true,.int .i64 i,.int .i64 as2,.int .i64 (wrap64 (ha2+1))] 88 w21) (fun t w' τ d h=>sQ_re h τ d) (fun τ d=>Code.wp_mono (fun e a w' ⟨h1,h2,h3⟩=>⟨h1,h2,sQ_un h3⟩) (oq15b (re w21 τ d) _ mb nw1 (C.bt i) i by2 as2 (wrap64 (ha2+1)) bw21 hbb' (fun w' k=>who_calls w' _ _ _ _ _ _ _ _ _ ((Keeps.kp k).cel (re_cel T.bt) (by simp)) ((Keeps.kp k).cel (re_cel hrn) (by simp))) rfl rfl rfl)) fun t w22 ⟨x',ex',⟨g0,g1⟩,ksw22,bw22⟩=>?_;subst ex';rw[allK.self (x:=x') (l:=[(0,ptr mb),(1,ptr (C.bt i))]) ⟨g0,g1,trivial⟩];have hbb'':=ksw22.blk hbb' (by simpa using (cel_ne (Blk.cel hbb') (Blk.cel bw21) (by decide)));refine hD.s0 ?_;refine hD.r0 ?_;refine hD.as (.int .i64 0) hk ?_;refine nm rfl ?_;refine hD.e0 ?_;refine hD.ret (n:=0) ?_;exact hD.leave (n:=0) (b:=base 15) (v:=.int .i64 0) rfl rfl Try.func15 (fun τ d=>res1v rfl rfl) (hc c (by simp)).1 (hnext _ (ksw21.kp1' ksw22) bw22 (T.kp1 (Blk.cel bw21) (by decide) (by decide) hX ksw22))
end
theorem rdy36 (w:World)(mb bb nb:Nat){by0 as0 ha0 nu:Int}(hm:Blk w mb [.bool true,.int .i64 by0,.int .i64 as0,.int .i64 ha0] 88)(hbb:Blk w bb [ptr mb] 39)(hnb:Blk w nb [.int .i64 nu] 3):Calls Try.prog 36 #[ptr bb,ptr nb] w fun e w'=>e=.returned (.bool (decide (by0 = -1)&&decide (ha0=nu)))∧Keeps [] w w':=by
 have c0:=hbb.cell 0;have c1:=hm.cell 1;have c3:=hm.cell 3;have c4:=hnb.cell 0;by_cases h:by0 = -1
 ·have HF:Hid (∀ m,Calls Try.prog 34 #[ptr mb] (w.drewN m) fun e w'=>e=.returned (.bool true)∧w'=w.drewN m):=Lib.hid fun m=>(free_calls (w.drewN m) mb (by0:=by0) c1).mono fun e w' ⟨h1,h2⟩=>⟨h1.trans (by rw[decide_eq_true h]),h2⟩
  rw[decide_eq_true h,Bool.true_and];clear hm hbb hnb c1 h
  go_enter Try.func36,Try.ntmps36
  go_wp2
  go_quiet (first | (go_at_call 34;exact Calls.quiet_of_same (HF.out _)))
  go_wp2
  go_ret
  exact⟨congrArg Ending.returned (congrArg Value.bool (by first | rfl | simp[BEq.beq])),(Keeps.refl _ _).drewN _⟩
 ·have HF:Hid (∀ m,Calls Try.prog 34 #[ptr mb] (w.drewN m) fun e w'=>e=.returned (.bool false)∧w'=w.drewN m):=Lib.hid fun m=>(free_calls (w.drewN m) mb (by0:=by0) c1).mono fun e w' ⟨h1,h2⟩=>⟨h1.trans (by rw[decide_eq_false h]),h2⟩
  rw[decide_eq_false h,Bool.false_and];clear hm hbb hnb c1 h
  go_enter Try.func36,Try.ntmps36
  go_wp2
  go_quiet (first | (go_at_call 34;exact Calls.quiet_of_same (HF.out _)))
  go_wp2
  go_ret
  exact⟨rfl,(Keeps.refl _ _).drewN _⟩
theorem waiting_calls (w:World)(mb:Nat){by0 as0 ha0:Int}(hm:Blk w mb [.bool true,.int .i64 by0,.int .i64 as0,.int .i64 ha0] 88):Calls Try.prog 17 #[ptr mb] w fun e w'=>e=.returned (.int .i64 (wrap64 (as0-ha0)))∧Keeps [] w w':=by
 have c2:=hm.cell 2;have c3:=hm.cell 3;clear hm
 go_enter Try.func17,Try.ntmps17
 go_wp2
 go_quiet (fail)
 go_wp2
 go_ret
 exact⟨rfl,(Keeps.refl _ _).drewN _⟩
def q14:Code:=Try.f14.body.getD .skip
inductive FaL
 | ask (j:Nat)
 | wait (j num:Nat)
 | un (j:Nat)
structure FaA where
 by':Int
 asl:List Nat
 hal:List Nat
def faNext (k j:Nat)(a:FaA):FaA × Option FaL:=if j<k then (a,some (.ask j)) else (a,none)
def faGo (k:Nat→Nat)(i:Nat)(t:ES FaL)(a:FaA)(_:Nat):FaA × Option FaL:=match t with
 | .fresh=>faNext (k i) 0 a
 | .susp (.ask j)=>(⟨a.by',a.asl++[i],a.hal⟩,some (.wait j a.asl.length))
 | .susp (.wait j _)=>(⟨i,a.asl,a.hal++[i]⟩,some (.un j))
 | .susp (.un j)=>if a.by'=i then faNext (k i) (j+1) ⟨-1,a.asl,a.hal⟩ else faNext (k i) (j+1) a
 | .done=>(a,none)
def faRdy (_:Nat)(l:FaL)(a:FaA):Bool:=match l with
 | .wait _ num=>decide (a.by' = -1)&&decide (wrap64 (a.hal.length:Int)=wrap64 (num:Int))
 | _=>true
def faSus (mb:Nat)(X:Nat→Prop)(w:World)(l:FaL)(g:List Nat)(rv:Value):Prop:=match l with
 | .ask _=>rv=.nilFunc∧∃ bb,g=[bb]∧X bb∧Blk w bb [ptr mb] 39
 | .wait _ num=>∃ bb nb,g=[bb]∧rv=.func (.func 36) #[] #[ptr bb,ptr nb]∧X bb∧X nb∧Blk w bb [ptr mb] 39∧Blk w nb [.int .i64 (wrap64 (num:Int))] 3
 | .un _=>rv=.nilFunc
abbrev faCells (a:FaA):List Value:=[.bool true,.int .i64 a.by',.int .i64 (wrap64 (a.asl.length:Int)),.int .i64 (wrap64 (a.hal.length:Int))]
structure FaM (n:Nat)(kx:Nat→Nat)(fx mb:Nat)(k:Nat→Nat)(a:FaA)(st:Nat→TS FaL)(X:Nat→Prop)(w:World):Prop where
 lt:∀ b,X b→b<w.heap.size
 xk:∀ i,i<n→X (kx i)
 xf:X fx
 xm:X mb
 ks:∀ i,i<n→Blk w (kx i) [.int .i64 (k i:Int)] 3
 cf:Blk w fx [ptr mb] 39
 cm:Blk w mb (faCells a) 88
 sus:∀ i l g rv,st i=.susp (l,g) rv→faSus mb X w l g rv
def faPlan (n:Nat)(kx:Nat→Nat)(fx mb:Nat)(k:Nat→Nat):Plan FaL FaA:=⟨FaM n kx fx mb k,faGo k,faRdy⟩
theorem faSus.mono {mb:Nat}{X X':Nat→Prop}{w w':World}{l:FaL}{g:List Nat}{rv:Value}(h:faSus mb X w l g rv)(hX:∀ b,X b→X' b)(hw:∀ b c t,X b→t≠88→Blk w b c t→Blk w' b c t):faSus mb X' w' l g rv:=by
 cases l with
 | ask j=>obtain⟨h1,bb,h2,h3,h4⟩:=h;exact⟨h1,bb,h2,hX _ h3,hw _ _ _ h3 (by decide) h4⟩
 | wait j num=>obtain⟨bb,nb,h1,h2,h3,h4,h5,h6⟩:=h;exact⟨bb,nb,h1,h2,hX _ h3,hX _ h4,hw _ _ _ h3 (by decide) h5,hw _ _ _ h4 (by decide) h6⟩
 | un j=>exact h
section
variable {n:Nat}{kx:Nat→Nat}{fx mb:Nat}{k:Nat→Nat}{a a':FaA}{st:Nat→TS FaL}{X X':Nat→Prop}{w w':World}
theorem FaM.go (h:FaM n kx fx mb k a st X w)(kp:Kp [mb] w w')(hX:∀ b,X b→X' b)(hl:∀ b,X' b→b<w'.heap.size)(hm:Blk w' mb (faCells a') 88)(i:Nat)(t:TS FaL)(ht:∀ l g rv,t=.susp (l,g) rv→faSus mb X' w' l g rv):FaM n kx fx mb k a' (updT st i t) X' w':=by
 have hw:∀ b c t,X b→t≠88→Blk w b c t→Blk w' b c t:=fun b c t hb hne hB=>kp.blk hB (by simpa using cel_ne (Blk.cel hB) (Blk.cel h.cm) hne);refine⟨hl,fun j hj=>hX _ (h.xk j hj),hX _ h.xf,hX _ h.xm,fun j hj=>hw _ _ _ (h.xk j hj) (by decide) (h.ks j hj),hw _ _ _ h.xf (by decide) h.cf,hm,fun j l g rv e=>?_⟩;unfold updT at e;split at e
 ·exact ht l g rv e
 ·exact(h.sus j l g rv e).mono hX hw
theorem FaM.to (h:FaM n kx fx mb k a st X w)(kp:Kp [mb] w w')(hm:Blk w' mb (faCells a') 88):FaM n kx fx mb k a' st X w':=by
 have hw:∀ b c t,X b→t≠88→Blk w b c t→Blk w' b c t:=fun b c t hb hne hB=>kp.blk hB (by simpa using cel_ne (Blk.cel hB) (Blk.cel h.cm) hne);exact⟨fun b hb=>nl' (h.lt b hb) kp.size,h.xk,h.xf,h.xm,fun j hj=>hw _ _ _ (h.xk j hj) (by decide) (h.ks j hj),hw _ _ _ h.xf (by decide) h.cf,hm,fun j l g rv e=>(h.sus j l g rv e).mono (fun _ h=>h) hw⟩
theorem FaM.frame (h:FaM n kx fx mb k a st X w)(hb:∀ b,X b→w'.heap[b]?=w.heap[b]?)(hs:w.heap.size≤w'.heap.size):FaM n kx fx mb k a st X w' :=
 ⟨fun b hx=>nl' (h.lt b hx) hs,h.xk,h.xf,h.xm,fun j hj=>(hb _ (h.xk j hj)).trans (h.ks j hj),(hb _ h.xf).trans h.cf,(hb _ h.xm).trans h.cm,fun j l g rv e=>(h.sus j l g rv e).mono (fun _ h=>h) fun b c t hx _ hB=>(hb b hx).trans hB⟩
end
theorem wrap_succ (a:Int):wrap64 (wrap64 a+1)=wrap64 (a+1):=by unfold wrap64;omega
theorem Kp.widen {F:List Nat}{w w':World}(h:Kp [] w w'):Kp F w w':=⟨h.size,fun b hb _=>h.block b hb (by simp)⟩
theorem fa_out {n0:Nat}{kx:Nat→Nat}{fx mb:Nat}{k:Nat→Nat}{C:WC}(d:Nat):∀ {i j n:Nat} {K:Goroutine→World→Prop} {F:Frame} {cs:List Frame} {st:Nat→TS FaL} {X:Nat→Prop} {w:World} {a:FaA} {x:Nat→Value},i<n0→d=k i-j→j≤k i→k i≤5→Th (faPlan n0 kx fx mb k) C (3*d) i K F cs st X w n (faNext (k i) j a)→FaM n0 kx fx mb k a st X w→x 0=ptr (C.bt i)→x 1=ptr (kx i)→x 2=ptr fx→x 4=.int .i64 (j:Int)→K (gs ((base 14).at ⟨fg 16 x,[]⟩ [.code (sB (sB (sR q14))),.inLoop (sB (sB (sR q14))),.inBlock 0]) (F::cs)) w:=by
 induction d using Nat.strongRecOn with
 | _ d ih' =>
 intro i j n K F cs st X w a x hi hd hj hk5 T hm h0 h1 h2 h4;have hk:(base 14).kind≠.early:=nofun;have hD:=T.cl.det;have hk1:=hm.ks i hi;have hfx:=hm.cf;refine hD.s0 ?_;refine hD.s0 ?_;refine hD.r0 ?_;refine hD.move (n:=0) (v:=(.int .i64 (j:Int))) hk rfl ⟨rfl,rfl,rfl,rfl,nofun⟩ h4 ?_;refine nm rfl ?_;refine hD.load (n:=0) (v:=(.int .i64 (k i:Int))) (u:=(ptr (kx i))) hk rfl ⟨rfl,rfl,rfl,rfl,nofun⟩ h1 (fun τ d=>l_3 (hk1.cell 0)) ?_;refine nm rfl ?_;refine hD.pu (.bool (decide ((j:Int)<(k i:Int)))) hk (fun w=>w_lss3 rfl rfl rfl) ?_;refine nm rfl ?_;refine hD.e0 ?_;by_cases hjk:j<k i
 ·unfold faNext at T
  rw[if_pos hjk] at T;obtain⟨d',rfl⟩:∃ d',d=d'+1:=⟨d-1,by omega⟩;refine hD.cond (n:=0) true (show Value.bool (decide ((j:Int)<(k i:Int)))=_ by rw[decide_eq_true (by omega)]) rfl ?_;refine hD.k0 ?_;refine hD.s0 ?_;refine hD.block (n:=0) ?_;refine hD.s0 ?_;refine hD.r0 ?_;refine hD.load (n:=0) (v:=(ptr mb)) (u:=(ptr fx)) hk rfl ⟨rfl,rfl,rfl,rfl,nofun⟩ h2 (fun τ d=>l_39 (hfx.cell 0)) ?_;refine nm rfl ?_;refine hD.move (n:=0) (v:=(ptr (C.bt i))) hk rfl ⟨rfl,rfl,rfl,rfl,nofun⟩ h0 ?_;refine nm rfl ?_;refine hD.cf #[ptr mb,ptr (C.bt i)] hk Try.func15 ?_;refine fair_lock (p:=faPlan n0 kx fx mb k) (l:=FaL.ask j) (k:=3*d'+1) (rest:=[]) T (fun f hf=>by rcases List.mem_cons.1 hf with rfl | hf;exact⟨rfl,rfl,_,Try.func14⟩;exact absurd hf (by simp)) (Blk.cel hm.cm) (fun bb w' h1 h2 h3=>hm.go h2.widen (fun _ h=>.inl h) (fun b hb=>?_) (h2.blk hm.cm (by simp)) i _ fun l g rv e=>?_) (fun bb K F cs st X w n a T q1 hm=>?_)
  ·rcases hb with hb | rfl
   ·exact nl' (hm.lt b hb) h2.size
   ·exact h3.lt
  ·cases e
   exact⟨rfl,bb,rfl,.inr rfl,h3⟩
  obtain⟨rv,hst⟩:=q1;obtain⟨hrv,bb',hg,hXb,hbb⟩:=hm.sus i _ _ _ hst;obtain rfl:bb=bb':=(List.cons.inj hg).1;refine⟨_,_,rfl,a.by',_,_,hm.xm,hm.cm,hXb,hbb,fun nb w' h1 h2 h3 h4 h5=>?_,fun K F cs st X w n a T q1 hm=>?_⟩
  ·refine hm.go h2 (fun _ h=>.inl h) (fun b hb=>?_) ?_ i _ fun l g rv e=>?_
   ·rcases hb with hb | rfl
    ·exact nl' (hm.lt b hb) h2.size
    ·exact h5.lt
   ·show Blk w' mb [.bool true,.int .i64 a.by',.int .i64 (wrap64 ((a.asl++[i]).length:Int)),.int .i64 (wrap64 (a.hal.length:Int))] 88
    rw[la',List.length_singleton,show(((a.asl.length+1:Nat)):Int)=(a.asl.length:Int)+1 from rfl,← wrap_succ];exact h3
   ·cases e
    exact⟨bb,nb,rfl,rfl,.inl hXb,.inr rfl,h4,h5⟩
  obtain⟨rv,hst⟩:=q1;obtain⟨bb',nb,hg,hrv,hXb,_,hbb,_⟩:=hm.sus i _ _ _ hst;obtain rfl:bb=bb':=(List.cons.inj hg).1;refine⟨a.by',_,_,hm.xm,hm.cm,hXb,hbb,fun w1 k1 b1 T=>?_⟩;have hm:=hm.to (a':=⟨(i:Int),a.asl,a.hal++[i]⟩) k1 (by
   show Blk w1 mb [.bool true,.int .i64 i,.int .i64 (wrap64 (a.asl.length:Int)),.int .i64 (wrap64 ((a.hal++[i]).length:Int))] 88;rw[la',List.length_singleton,show(((a.hal.length+1:Nat)):Int)=(a.hal.length:Int)+1 from rfl,← wrap_succ];exact b1)
  have hD:=T.cl.det;have hfx:=hm.cf;have hk1:=hm.ks i hi;refine fin0 (some 12) ?_;refine nm rfl ?_;refine hD.e0 ?_;refine hD.r0 ?_;refine hD.load (n:=0) (v:=(ptr mb)) (u:=(ptr fx)) hk rfl ⟨rfl,rfl,rfl,rfl,nofun⟩ h2 (fun τ d=>l_39 (hfx.cell 0)) ?_;refine nm rfl ?_;refine hD.move (n:=0) (v:=(ptr (C.bt i))) hk rfl ⟨rfl,rfl,rfl,rfl,nofun⟩ h0 ?_;refine nm rfl ?_;refine hD.cf #[ptr mb,ptr (C.bt i)] hk Try.func16 ?_;refine fair_unlock (p:=faPlan n0 kx fx mb k) (l:=FaL.un j) (g:=[]) (k:=3*d') (rest:=[]) (T.eqP (P':=(⟨(i:Int),a.asl,a.hal++[i]⟩,some (.un j))) rfl) (fun f hf=>by rcases List.mem_cons.1 hf with rfl | hf;exact⟨rfl,rfl,_,Try.func14⟩;exact absurd hf (by simp)) (Blk.cel hm.cm) (hm.go (a':=⟨(i:Int),a.asl,a.hal++[i]⟩) (X':=X) ⟨Nat.le_refl _,fun _ _ _=>rfl⟩ (fun _ h=>h) hm.lt hm.cm i _ fun l g rv e=>by cases e;rfl) fun K F cs st X w n a T q1 hm=>?_;refine⟨a.by',_,_,hm.cm,hm.xm,fun e w2 k2 b2 T=>?_,fun e w2 k2 b2 T=>?_⟩
  ·have hm:=hm.to (a':=a) k2.widen b2
   have hD:=T.cl.det;have hfx:=hm.cf;have hk1:=hm.ks i hi;have T:=T.eqP (show faGo k i (.susp (.un j)) a n=faNext (k i) (j+1) a from if_neg e);refine fin0 (some 15) ?_;refine nm rfl ?_;refine hD.e0 ?_;refine hD.inBlock (n:=0) ?_;refine hD.r0 ?_;refine hD.move (n:=0) (v:=(.int .i64 (j:Int))) hk rfl ⟨rfl,rfl,rfl,rfl,nofun⟩ h4 ?_;refine nm rfl ?_;refine hD.pu (.int .i64 (wrap64 ((j:Int)+1))) hk (fun w=>w_add3 rfl rfl rfl) ?_;refine nm rfl ?_;refine hD.as (.int .i64 (wrap64 ((j:Int)+1))) hk ?_;refine nm rfl ?_;refine hD.e0 ?_;refine hD.inLoop (n:=0) ?_;exact ih' d' (by omega) (j:=j+1) hi (by omega) (by omega) hk5 T hm h0 h1 h2 (next_nat j (by omega))
  ·have hm:=hm.to (a':=(⟨-1,a.asl,a.hal⟩:FaA)) k2 b2
   have hD:=T.cl.det;have hfx:=hm.cf;have hk1:=hm.ks i hi;have T:=T.eqP (show faGo k i (.susp (.un j)) a n=faNext (k i) (j+1) (⟨-1,a.asl,a.hal⟩:FaA) from if_pos e);refine fin0 (some 15) ?_;refine nm rfl ?_;refine hD.e0 ?_;refine hD.inBlock (n:=0) ?_;refine hD.r0 ?_;refine hD.move (n:=0) (v:=(.int .i64 (j:Int))) hk rfl ⟨rfl,rfl,rfl,rfl,nofun⟩ h4 ?_;refine nm rfl ?_;refine hD.pu (.int .i64 (wrap64 ((j:Int)+1))) hk (fun w=>w_add3 rfl rfl rfl) ?_;refine nm rfl ?_;refine hD.as (.int .i64 (wrap64 ((j:Int)+1))) hk ?_;refine nm rfl ?_;refine hD.e0 ?_;refine hD.inLoop (n:=0) ?_;exact ih' d' (by omega) (j:=j+1) hi (by omega) (by omega) hk5 T hm h0 h1 h2 (next_nat j (by omega))
 ·unfold faNext at T
  rw[if_neg hjk] at T;refine hD.cond (n:=0) false (show Value.bool (decide ((j:Int)<(k i:Int)))=_ by rw[decide_eq_false (by omega)]) rfl ?_;refine hD.exit (n:=0) rfl ?_;refine hD.end (n:=0) ?_;exact hD.leave (n:=0) (b:=base 14) (v:=.tuple #[]) rfl rfl Try.func14 (fun τ d=>res0 rfl) T.fm (T.hd a X w rfl (hm.go (a':=a) (X':=X) ⟨Nat.le_refl _,fun _ _ _=>rfl⟩ (fun _ h=>h) hm.lt hm.cm i _ fun l g rv e=>by cases e) (Kx.refl' X w))
theorem fa_body {n0:Nat}{kx:Nat→Nat}{fx mb:Nat}{k:Nat→Nat}{C:WC}{i n:Nat}{K:Goroutine→World→Prop}{F:Frame}{cs:List Frame}{st:Nat→TS FaL}{X:Nat→Prop}{w:World}{a:FaA}(hi:i<n0)(hk5:k i≤5)(T:Th (faPlan n0 kx fx mb k) C (3*k i) i K F cs st X w n (faNext (k i) 0 a))(hm:FaM n0 kx fx mb k a st X w):K (gs (Frame.enter Try.prog 14 #[ptr (C.bt i),ptr (kx i),ptr fx] .normal) (F::cs)) w:=by
 have hk:(base 14).kind≠.early:=nofun;have hK:=T.cl;have hD:=hK.det;rw[show(#[ptr (C.bt i),ptr (kx i),ptr fx]:Array Value)=[ptr (C.bt i),ptr (kx i),ptr fx].toArray from rfl,enter_fg (n:=16) (c:=q14) Try.func14 rfl rfl rfl];refine hD.s0 ?_;refine hD.r0 ?_;refine hD.as (.int .i64 0) hk ?_;refine nm rfl ?_;refine hD.e0 ?_;refine hD.block (n:=0) ?_;refine hD.loop (n:=0) ?_;exact fa_out (k i) (j:=0) hi rfl (Nat.zero_le _) hk5 T hm rfl rfl rfl rfl
theorem fa_ok {C:WC}{n0:Nat}{kx:Nat→Nat}{fx mb:Nat}{k:Nat→Nat}(hn:C.n=n0)(hk5:∀ i,i<n0→k i≤5)(hfn:∀ i,i<C.n→C.fn i=14)(hcap:∀ i,i<C.n→C.cap i=#[ptr (kx i),ptr fx]):BOk ((faPlan n0 kx fx mb k).bods C) C:=by
 refine Plan.ok (fun {a st X w b} h hb=>FaM.lt h b hb) (fun {a st X w w'} h hb hs=>FaM.frame h hb hs) (fun {a st X w i l rv} h hi e=>?_) (fun {i} hi=>?_) (fun i hi=>⟨3*k i,fun K F cs st X w n a args T e hm ha=>?_⟩)
 ·obtain⟨l,gh⟩:=l
  have hs:=FaM.sus h i l gh rv e;cases l with
  | ask j=>exact .inl ⟨hs.1,rfl⟩
  | un j=>exact .inl ⟨hs,rfl⟩
  | wait j num =>
   obtain⟨bb,nb,_,hrv,_,_,hbb,hnb⟩:=hs;refine .inr ⟨36,#[],#[ptr bb,ptr nb],_,_,hrv,Try.func36,rfl,rfl,fun m K hK c cs w1 hc k1 hk=>?_⟩;have b1:=k1.blk (FaM.cm h) (by simp);have b2:=k1.blk hbb (by simp);have b3:=k1.blk hnb (by simp);refine hK.call fits shut (f:=36) rfl (R:=fun v w'=>v=.bool (faRdy i (.wait j num) a)∧Kp [] w1 w') (fun v w' τ d h=>⟨h.1,⟨h.2.size,h.2.block⟩⟩) (fun τ d=>(rdy36 (re w1 τ d) mb bb nb b1 b2 b3).mono fun e w' h=>⟨_,h.1,rfl,⟨(Keeps.kp h.2).size,(Keeps.kp h.2).block⟩⟩) ?_;rintro v w' ⟨rfl,k2⟩;exact hk w' k2
 ·rw[hfn i hi];exact⟨_,_,Try.func14,rfl,rfl⟩
 ·obtain rfl:args=#[ptr (C.bt i),ptr (kx i),ptr fx]:=by
   rw[hcap i hi] at ha;exact Array.ext' ha.symm
  rw[hfn i hi];exact fa_body (hn▸hi) (hk5 i (hn▸hi)) T hm
open Go.ConcN (sumTo upd sumTo_upd upd_ne upd_same)
def selR (r:Nat):List Nat→List Nat
 | []=>[]
 | i::l=>if (l.count i+1) % 3=r then selR r l++[i] else selR r l
def selOf (r:Nat)(l:List Nat):List Nat:=selR r l.reverse
theorem selOf_snoc (r i:Nat)(l:List Nat):selOf r (l++[i])=if (l.count i+1) % 3=r then selOf r l++[i] else selOf r l:=by
 unfold selOf;rw[List.reverse_append];show(if (l.reverse.count i+1) % 3=r then selR r l.reverse++[i] else selR r l.reverse)=_;rw[List.count_reverse]
theorem runF_ind {L A:Type}{B:Bods L A}{n:Nat}{beh:A→A}{I:RunSt L A→Prop}{φ:RunSt L A→Nat}
  (hstep:∀ x i left,i<n→rdyE B i (x.st i) x.a=true→I x→I (oneAct B beh x i left)∧φ (oneAct B beh x i left)<φ x):∀ k x,I x→φ x≤k→I (runF B n beh k x)∧readies B n (runF B n beh k x)=[]
 | 0,x,hI,hk=>by
  refine⟨hI,?_⟩;show readies B n x=[];cases e:readies B n x with
  | nil=>rfl
  | cons i l =>
   have hm:i∈readies B n x:=by rw[e];exact mc'
   unfold readies at hm;obtain⟨h1,h2⟩:=List.mem_filter.1 hm;have:=(hstep x i [] (List.mem_range.1 h1) h2 hI).2;omega
 | k+1,x,hI,hk=>by
  unfold runF;by_cases e:readies B n x=[]
  ·rw[if_pos e];exact⟨hI,e⟩
  ·rw[if_neg e]
   have hm:=chosen_mem (acts:=x.acts) (left:=x.left) e;generalize (chosen (readies B n x) x.acts x.left).1=i at hm ⊢;generalize (chosen (readies B n x) x.acts x.left).2=left;unfold readies at hm;obtain⟨h1,h2⟩:=List.mem_filter.1 hm;obtain⟨h3,h4⟩:=hstep x i left (List.mem_range.1 h1) h2 hI;exact runF_ind hstep k (oneAct B beh x i left) h3 (Nat.le_of_lt_succ (nl' h4 hk))
def faAsk (k:Nat):ES FaL→Nat
 | .fresh=>0
 | .susp (.ask j)=>j
 | .susp (.wait j _)=>j+1
 | .susp (.un j)=>j+1
 | .done=>k
def faHad (k:Nat):ES FaL→Nat
 | .fresh=>0
 | .susp (.ask j)=>j
 | .susp (.wait j _)=>j
 | .susp (.un j)=>j+1
 | .done=>k
def faCnt (k:Nat):ES FaL→Nat
 | .fresh=>0
 | .susp (.ask j)=>3*j+1
 | .susp (.wait j _)=>3*j+2
 | .susp (.un j)=>3*j+3
 | .done=>3*k+1
def faOwn (k i:Nat)(a:FaA):ES FaL→Prop
 | .susp (.ask j)=>j<k
 | .susp (.wait j num)=>j<k∧a.hal.length≤num∧a.asl[num]?=some i
 | .susp (.un j)=>j<k∧a.by'=(i:Int)
 | _=>True
theorem faCnt_le {k i:Nat}{a:FaA}{t:ES FaL}(h:faOwn k i a t):faCnt k t≤3*k+1:=by
 match t,h with
 | .fresh,_=>exact Nat.zero_le _
 | .susp (.ask j),h=>have:j<k:=h;show 3*j+1≤_;omega
 | .susp (.wait j num),h=>have:j<k:=h.1;show 3*j+2≤_;omega
 | .susp (.un j),h=>have:j<k:=h.1;show 3*j+3≤_;omega
 | .done,_=>exact Nat.le_refl _
structure FaI (n:Nat)(k:Nat→Nat)(x:RunSt FaL FaA):Prop where
 own:∀ i,i<n→faOwn (k i) i x.a (x.st i)
 holds:x.a.by' = -1∨∃ i,i<n∧∃ j,x.a.by'=(i:Int)∧x.st i=.susp (.un j)
 pre:x.a.hal=x.a.asl.take x.a.hal.length
 wt:∀ q,x.a.hal.length≤q→q<x.a.asl.length→∃ i,i<n∧∃ j,x.st i=.susp (.wait j q)
 al:x.a.asl.length=sumTo n fun i=>faAsk (k i) (x.st i)
 hl:x.a.hal.length=sumTo n fun i=>faHad (k i) (x.st i)
 len:x.acts.length=sumTo n fun i=>faCnt (k i) (x.st i)
 cnt:∀ i,i<n→x.acts.count i=faCnt (k i) (x.st i)
 sa:x.a.asl=selOf 2 x.acts
 sh:x.a.hal=selOf 0 x.acts
 inn:∀ i∈x.acts,i<n
section
variable {n:Nat}{k:Nat→Nat}{x:RunSt FaL FaA}{i:Nat}{t':ES FaL}{a':FaA}{left:List Nat}
theorem FaI.upd (h:FaI n k x)(hi:i<n)(own:∀ j,j<n→faOwn (k j) j a' (updE x.st i t' j))(holds:a'.by' = -1∨∃ i',i'<n∧∃ j,a'.by'=(i':Int)∧updE x.st i t' i'=.susp (.un j))
  (pre:a'.hal=a'.asl.take a'.hal.length) (wt:∀ q,a'.hal.length≤q→q<a'.asl.length→∃ i',i'<n∧∃ j,updE x.st i t' i'=.susp (.wait j q))
  (hc:faCnt (k i) t'=faCnt (k i) (x.st i)+1) (ha:a'.asl=if (faCnt (k i) (x.st i)+1) % 3=2 then x.a.asl++[i] else x.a.asl) (hh:a'.hal=if (faCnt (k i) (x.st i)+1) % 3=0 then x.a.hal++[i] else x.a.hal)
  (hla:a'.asl.length+faAsk (k i) (x.st i)=x.a.asl.length+faAsk (k i) t') (hlh:a'.hal.length+faHad (k i) (x.st i)=x.a.hal.length+faHad (k i) t'):FaI n k ⟨updE x.st i t',a',x.acts++[i],left⟩:=by
 have S:∀ (F:Nat→ES FaL→Nat),sumTo n (fun j=>F (k j) (updE x.st i t' j))+F (k i) (x.st i)=sumTo n (fun j=>F (k j) (x.st j))+F (k i) t':=fun F=>by
  have:=sumTo_one (n:=n) (f:=fun j=>F (k j) (updE x.st i t' j)) (g:=fun j=>F (k j) (x.st j)) hi fun j _ hne=>by
   show F (k j) (updE x.st i t' j)=_;rw[updE_ne hne]
  have e:updE x.st i t' i=t':=updE_self _ _ _;rw[e] at this;exact this
 refine⟨own,holds,pre,wt,?_,?_,?_,fun j hj=>?_,?_,?_,fun j hj=>?_⟩
 ·have:=S faAsk;have:=h.al;dsimp only;omega
 ·have:=S faHad;have:=h.hl;dsimp only;omega
 ·have:=S faCnt;have:=h.len;dsimp only;rw[la',List.length_singleton];omega
 ·show(x.acts++[i]).count j=faCnt (k j) (updE x.st i t' j)
  rw[List.count_append];by_cases e:j=i
  ·subst e
   rw[updE_self,h.cnt j hj,hc];simp
  ·rw[updE_ne e,h.cnt j hj]
   simp[List.count_singleton,Ne.symm e]
 ·show a'.asl=selOf 2 (x.acts++[i])
  rw[selOf_snoc,h.cnt i hi,← h.sa];exact ha
 ·show a'.hal=selOf 0 (x.acts++[i])
  rw[selOf_snoc,h.cnt i hi,← h.sh];exact hh
 ·rcases List.mem_append.1 hj with hj | hj
  ·exact h.inn j hj
  ·rw[List.mem_singleton.1 hj];exact hi
theorem FaI.hal_le (h:FaI n k x):x.a.hal.length≤x.a.asl.length:=by
 have:=congrArg List.length h.pre;rw[List.length_take] at this;omega
end
section
variable {n:Nat}{k:Nat→Nat}{B:Bods FaL FaA}
theorem fa_step (hk:∀ i,i<n→k i≤5)(hn:n≤8)(hg:B.go=faGo k)(hr:B.rdy=faRdy)(x:RunSt FaL FaA)(i:Nat)(left:List Nat)(hi:i<n)(hrd:rdyE B i (x.st i) x.a=true)(h:FaI n k x):FaI n k (oneAct B (fun a=>a) x i left):=by
 unfold oneAct;rw[hg];have ho:=h.own i hi;have hself:∀ j,j≠i→∀ t',updE x.st i t' j=x.st j:=fun j hj t'=>updE_ne hj;have h3:=h.hal_le
 match hs:x.st i with
 | .fresh =>
  show FaI n k ⟨updE x.st i (toT (faNext (k i) 0 x.a).2),(faNext (k i) 0 x.a).1,x.acts++[i],left⟩;unfold faNext;by_cases h0:0<k i
  ·rw[if_pos h0]
   refine h.upd hi (fun j hj=>?_) ?_ h.pre (fun q h1 h2=>?_) (by rw[hs];rfl) (by rw[hs];rfl) (by rw[hs];rfl) (by rw[hs];rfl) (by rw[hs];rfl)
   ·by_cases e:j=i
    ·subst e;rw[updE_self];exact h0
    ·rw[hself j e];exact h.own j hj
   ·rcases h.holds with h1 | ⟨i',h1,j,h2,h4⟩
    ·exact .inl h1
    ·exact .inr ⟨i',h1,j,h2,by rw[hself i' (by rintro rfl;rw[hs] at h4;cases h4)];exact h4⟩
   ·obtain⟨i',h4,j,h5⟩:=h.wt q h1 h2
    exact⟨i',h4,j,by rw[hself i' (by rintro rfl;rw[hs] at h5;cases h5)];exact h5⟩
  ·rw[if_neg h0]
   have hk0:k i=0:=by omega
   refine h.upd hi (fun j hj=>?_) ?_ h.pre (fun q h1 h2=>?_) (by rw[hs,hk0];rfl) (by rw[hs];rfl) (by rw[hs];rfl) (by rw[hs,hk0];rfl) (by rw[hs,hk0];rfl)
   ·by_cases e:j=i
    ·subst e;rw[updE_self];trivial
    ·rw[hself j e];exact h.own j hj
   ·rcases h.holds with h1 | ⟨i',h1,j,h2,h4⟩
    ·exact .inl h1
    ·exact .inr ⟨i',h1,j,h2,by rw[hself i' (by rintro rfl;rw[hs] at h4;cases h4)];exact h4⟩
   ·obtain⟨i',h4,j,h5⟩:=h.wt q h1 h2
    exact⟨i',h4,j,by rw[hself i' (by rintro rfl;rw[hs] at h5;cases h5)];exact h5⟩
 | .susp (.ask j0) =>
  rw[hs] at ho;have hj0:j0<k i:=ho;show FaI n k ⟨updE x.st i (.susp (.wait j0 x.a.asl.length)),⟨x.a.by',x.a.asl++[i],x.a.hal⟩,x.acts++[i],left⟩;have hm2:(3*j0+1+1) % 3=2:=by omega
  have hm0:¬ (3*j0+1+1) % 3=0:=by omega
  refine h.upd hi (fun j hj=>?_) ?_ ?_ (fun q h1 h2=>?_) (by rw[hs];rfl) (by rw[hs];show _=if (3*j0+1+1) % 3=2 then _ else _;rw[if_pos hm2]) (by rw[hs];show _=if (3*j0+1+1) % 3=0 then _ else _;rw[if_neg hm0]) (by rw[hs];show(x.a.asl++[i]).length+j0=_+(j0+1);rw[la',List.length_singleton];omega) (by rw[hs];rfl)
  ·by_cases e:j=i
   ·subst e;rw[updE_self]
    exact⟨hj0,h3,by simp⟩
   ·rw[hself j e]
    have:=h.own j hj
    match hsj:x.st j with
    | .fresh=>trivial
    | .susp (.ask _)=>rw[hsj] at this;exact this
    | .susp (.wait _ num) =>
     rw[hsj] at this;refine⟨this.1,this.2.1,?_⟩;show(x.a.asl++[i])[num]?=some j;rw[List.getElem?_append_left (List.getElem?_eq_some_iff.1 this.2.2).1];exact this.2.2
    | .susp (.un _)=>rw[hsj] at this;exact this
    | .done=>trivial
  ·rcases h.holds with h1 | ⟨i',h1,j,h2,h4⟩
   ·exact .inl h1
   ·exact .inr ⟨i',h1,j,h2,by rw[hself i' (by rintro rfl;rw[hs] at h4;cases h4)];exact h4⟩
  ·show x.a.hal=(x.a.asl++[i]).take x.a.hal.length
   rw[List.take_append_of_le_length h3];exact h.pre
  ·have h2':q<x.a.asl.length+1:=by simpa using h2
   by_cases e:q=x.a.asl.length
   ·subst e
    exact⟨i,hi,j0,updE_self _ _ _⟩
   ·obtain⟨i',h4,j,h5⟩:=h.wt q h1 (by omega)
    exact⟨i',h4,j,by rw[hself i' (by rintro rfl;rw[hs] at h5;cases h5)];exact h5⟩
 | .susp (.wait j0 num) =>
  rw[hs] at ho hrd;obtain⟨hj0,hle,hat⟩:=ho;have hlt:num<x.a.asl.length:=(List.getElem?_eq_some_iff.1 hat).1;have hrd':faRdy i (.wait j0 num) x.a=true:=by rw[← hr];exact hrd
  have hrd2:(decide (x.a.by' = -1)&&decide (wrap64 (x.a.hal.length:Int)=wrap64 (num:Int)))=true:=hrd';obtain⟨hb0,hw0⟩:=(Bool.and_eq_true _ _).mp hrd2;have hb:=of_decide_eq_true hb0;have hw:=of_decide_eq_true hw0;have hbound:x.a.asl.length≤40:=by
   have h1:sumTo n (fun i=>faAsk (k i) (x.st i))≤sumTo n (fun _=>0+5):=sumTo_mono fun j hj=>by
    have h5:=hk j hj;have hoj:=h.own j hj
    match hsj:x.st j with
    | .fresh=>exact Nat.zero_le _
    | .susp (.ask q)=>rw[hsj] at hoj;have:q<k j:=hoj;show q≤_;omega
    | .susp (.wait q _)=>rw[hsj] at hoj;have:q<k j:=hoj.1;show q+1≤_;omega
    | .susp (.un q)=>rw[hsj] at hoj;have:q<k j:=hoj.1;show q+1≤_;omega
    | .done=>show k j≤_;omega
   have h0:∀ n,sumTo n (fun _=>0)=0:=fun n=>by
    induction n with
    | zero=>rfl
    | succ n ih=>show sumTo n _+0=0;rw[ih]
   rw[sumTo_plus,h0] at h1;have:=h.al;omega
  rw[IntWalk.wrap64_in _ (by omega),IntWalk.wrap64_in _ (by omega)] at hw;have hnum:num=x.a.hal.length:=by omega
  subst hnum;show FaI n k ⟨updE x.st i (.susp (.un j0)),⟨(i:Int),x.a.asl,x.a.hal++[i]⟩,x.acts++[i],left⟩;have hm2:¬ (3*j0+2+1) % 3=2:=by omega
  have hm0:(3*j0+2+1) % 3=0:=by omega
  refine h.upd hi (fun j hj=>?_) (.inr ⟨i,hi,j0,rfl,updE_self _ _ _⟩) ?_ (fun q h1 h2=>?_) (by rw[hs];rfl) (by rw[hs];show _=if (3*j0+2+1) % 3=2 then _ else _;rw[if_neg hm2]) (by rw[hs];show _=if (3*j0+2+1) % 3=0 then _ else _;rw[if_pos hm0]) (by rw[hs];rfl) (by rw[hs];show(x.a.hal++[i]).length+j0=_+(j0+1);rw[la',List.length_singleton];omega)
  ·by_cases e:j=i
   ·subst e;rw[updE_self]
    exact⟨hj0,rfl⟩
   ·rw[hself j e]
    have:=h.own j hj
    match hsj:x.st j with
    | .fresh=>trivial
    | .susp (.ask _)=>rw[hsj] at this;exact this
    | .susp (.wait _ num) =>
     rw[hsj] at this;refine⟨this.1,?_,this.2.2⟩;show(x.a.hal++[i]).length≤num;rw[la',List.length_singleton];have h1:=this.2.1;by_cases e':num=x.a.hal.length
     ·subst e'
      have:=this.2.2.symm.trans hat;exact absurd (oj' this) e
     ·omega
    | .susp (.un _) =>
     rw[hsj] at this;have:=this.2;omega
    | .done=>trivial
  ·show x.a.hal++[i]=x.a.asl.take (x.a.hal++[i]).length
   rw[la',List.length_singleton,List.take_add_one,hat,← h.pre];rfl
  ·have h1':x.a.hal.length+1≤q:=by simpa using h1
   obtain⟨i',h4,j,h5⟩:=h.wt q (by omega) h2;refine⟨i',h4,j,?_⟩;rw[hself i' (by
    rintro rfl;rw[hs] at h5;cases h5;omega)]
   exact h5
 | .susp (.un j0) =>
  rw[hs] at ho;obtain⟨hj0,hb⟩:=ho;have hgo:faGo k i (.susp (.un j0)) x.a (x.acts.length+1)=faNext (k i) (j0+1) ⟨-1,x.a.asl,x.a.hal⟩:=if_pos hb;rw[hgo];have hm2:¬ (3*j0+3+1) % 3=2:=by omega
  have hm0:¬ (3*j0+3+1) % 3=0:=by omega
  have oth:∀ j,j<n→j≠i→faOwn (k j) j ⟨-1,x.a.asl,x.a.hal⟩ (x.st j):=fun j hj e=>by
   have:=h.own j hj
   match hsj:x.st j with
   | .fresh=>trivial
   | .susp (.ask _)=>rw[hsj] at this;exact this
   | .susp (.wait _ num)=>rw[hsj] at this;exact this
   | .susp (.un _) =>
    rw[hsj] at this;have:=this.2;exact absurd (by omega) e
   | .done=>trivial
  unfold faNext;by_cases h0:j0+1<k i
  ·rw[if_pos h0]
   refine h.upd hi (fun j hj=>?_) (.inl rfl) h.pre (fun q h1 h2=>?_) (by rw[hs];show 3*(j0+1)+1=3*j0+3+1;omega) (by rw[hs];show _=if (3*j0+3+1) % 3=2 then _ else _;rw[if_neg hm2]) (by rw[hs];show _=if (3*j0+3+1) % 3=0 then _ else _;rw[if_neg hm0]) (by rw[hs];rfl) (by rw[hs];rfl)
   ·by_cases e:j=i
    ·subst e;show faOwn _ _ _ (updE x.st j (.susp (.ask (j0+1))) j);rw[updE_self];exact h0
    ·show faOwn _ _ _ (updE x.st i (.susp (.ask (j0+1))) j)
     rw[hself j e];exact oth j hj e
   ·obtain⟨i',h4,j,h5⟩:=h.wt q h1 h2
    refine⟨i',h4,j,?_⟩;show updE x.st i (.susp (.ask (j0+1))) i'=_;rw[hself i' (by rintro rfl;rw[hs] at h5;cases h5)];exact h5
  ·rw[if_neg h0]
   have hk0:k i=j0+1:=by omega
   refine h.upd hi (fun j hj=>?_) (.inl rfl) h.pre (fun q h1 h2=>?_) (by rw[hs,hk0];show 3*(j0+1)+1=3*j0+3+1;omega) (by rw[hs];show _=if (3*j0+3+1) % 3=2 then _ else _;rw[if_neg hm2]) (by rw[hs];show _=if (3*j0+3+1) % 3=0 then _ else _;rw[if_neg hm0]) (by rw[hs,hk0];rfl) (by rw[hs,hk0];rfl)
   ·by_cases e:j=i
    ·subst e;show faOwn _ _ _ (updE x.st j .done j);rw[updE_self];trivial
    ·show faOwn _ _ _ (updE x.st i .done j)
     rw[hself j e];exact oth j hj e
   ·obtain⟨i',h4,j,h5⟩:=h.wt q h1 h2
    refine⟨i',h4,j,?_⟩;show updE x.st i .done i'=_;rw[hself i' (by rintro rfl;rw[hs] at h5;cases h5)];exact h5
 | .done =>
  rw[hs] at hrd;exact absurd hrd (by show ¬ false=true;decide)
theorem sumTo_zero:∀ n,sumTo n (fun _=>0)=0
 | 0=>rfl
 | n+1=>by show sumTo n _+0=0;rw[sumTo_zero n]
theorem fa_first (hg:B.go=faGo k)(picks:List Nat):FaI n k ⟨fun _=>.fresh,⟨-1,[],[]⟩,[],picks⟩:=by
 refine⟨fun _ _=>trivial,.inl rfl,rfl,fun q _ h=>absurd h (Nat.not_lt_zero q),?_,?_,?_,fun i hi=>rfl,rfl,rfl,fun i hi=>by cases hi⟩
 ·show 0=sumTo n (fun _=>0);rw[sumTo_zero]
 ·show 0=sumTo n (fun _=>0);rw[sumTo_zero]
 ·show 0=sumTo n (fun _=>0);rw[sumTo_zero]
theorem fa_run (hk:∀ i,i<n→k i≤5)(hn:n≤8)(hg:B.go=faGo k)(hr:B.rdy=faRdy)(picks:List Nat)(y:RunSt FaL FaA)(hy:y=runF B n (fun a=>a) 200 ⟨fun _=>.fresh,⟨-1,[],[]⟩,[],picks⟩) :
  (∀ i,i<n→y.st i=.done)∧y.a.hal=y.a.asl∧y.a.asl.length=sumTo n k∧y.a.asl=selOf 2 y.acts∧y.a.hal=selOf 0 y.acts∧(∀ i∈y.acts,i<n)∧y.acts.length<200:=by
 have tot:∀ x:RunSt FaL FaA,FaI n k x→x.acts.length≤sumTo n fun i=>3*k i+1:=fun x h=>by
  rw[h.len];exact sumTo_mono fun j hj=>faCnt_le (h.own j hj)
 have hT:(sumTo n fun i=>3*k i+1)≤128:=by
  have h1:(sumTo n fun i=>3*k i+1)≤sumTo n (fun _=>0+16):=sumTo_mono fun j hj=>by have:=hk j hj;omega
  rw[sumTo_plus (f:=fun _=>0) (c:=16),sumTo_zero] at h1;omega
 obtain⟨h,h4⟩:=runF_ind (B:=B) (n:=n) (beh:=fun a=>a) (I:=FaI n k) (φ:=fun x=>(sumTo n fun i=>3*k i+1)-x.acts.length) (fun x i left hi hrd h=>by
  have h':=fa_step hk hn hg hr x i left hi hrd h;refine⟨h',?_⟩;have h1:=tot _ h';have h2:(oneAct B (fun a=>a) x i left).acts.length=x.acts.length+1:=by
   show(x.acts++[i]).length=_;rw[la',List.length_singleton]
  omega) 200 ⟨fun _=>.fresh,⟨-1,[],[]⟩,[],picks⟩ (fa_first hg picks) (by show(sumTo n fun i=>3*k i+1)-0≤200;omega)
 rw[← hy] at h h4;have hne:∀ i,i<n→¬ rdyE B i (y.st i) y.a=true:=fun i hi hrd=>by
  have:i∉readies B n y:=by rw[h4];simp
  unfold readies at this;rw[List.mem_filter] at this;exact this ⟨List.mem_range.2 hi,hrd⟩
 have hun:∀ i,i<n→∀ j,y.st i≠.susp (.un j):=fun i hi j e=>hne i hi (by rw[e];show B.rdy i (.un j) y.a=true;rw[hr];rfl);have hby:y.a.by' = -1:=by
  rcases h.holds with h1 | ⟨i,hi,j,_,h2⟩
  ·exact h1
  ·exact absurd h2 (hun i hi j)
 have hd:∀ i,i<n→y.st i=.done:=fun i hi=>by
  have hne':=hne i hi;have ho:=h.own i hi
  match hs:y.st i with
  | .fresh=>rw[hs] at hne';exact absurd rfl hne'
  | .susp (.ask j)=>rw[hs] at hne';exact absurd (show B.rdy i (.ask j) y.a=true by rw[hr];rfl) hne'
  | .susp (.un j)=>exact absurd hs (hun i hi j)
  | .susp (.wait j num) =>
   rw[hs] at ho;have h1:=(List.getElem?_eq_some_iff.1 ho.2.2).1;obtain⟨i',hi',j',h5⟩:=h.wt y.a.hal.length (Nat.le_refl _) (Nat.lt_of_le_of_lt ho.2.1 h1);refine absurd ?_ (hne i' hi');rw[h5];show B.rdy i' (.wait j' y.a.hal.length) y.a=true;rw[hr];show(decide (y.a.by' = -1)&&decide (wrap64 (y.a.hal.length:Int)=wrap64 (y.a.hal.length:Int)))=true;rw[decide_eq_true hby,decide_eq_true rfl];rfl
  | .done=>rfl
 have e1:y.a.asl.length=sumTo n k:=by rw[h.al];exact sumTo_ext fun i hi=>by rw[hd i hi];rfl
 have e2:y.a.hal.length=sumTo n k:=by rw[h.hl];exact sumTo_ext fun i hi=>by rw[hd i hi];rfl
 refine⟨hd,?_,e1,h.sa,h.sh,h.inn,?_⟩
 ·have:=h.pre
  rw[e2,← e1,List.take_length] at this;exact this
 ·have:=tot _ h
  omega
end
def q4:Code:=Try.f4.body.getD .skip
theorem al_39:∀ w:World,(Instr.alloc 39 true (.tuple #[])).run Try.prog w=.ok (ptr w.heap.size) (w.alloc (.cells #[.pointer none] 39)):=fun w=>by
 simp[go_sem,Try.underlying39,Try.runUnderlying39,Try.sizeOf39,Try.isAgg39,Try.zeroValue39]
theorem s_39 {w:World}{a:Addr}{x:Value}{y:Option Addr}(hc:w.cell? a=some x)(hf:w.frozen? a=false):(Instr.storeAt 39 (.pointer (some a)) (.pointer y)).run Try.prog w=.ok () (w.setCell a (.pointer y)):=by simp[go_sem,hc,hf,Try.underlying39,Try.runUnderlying39,Try.sizeOf39,Try.isAgg39]
def turnsOf (xs:List Int)(i:Nat):Nat:=(((xs.getD i 0).tmod 5+5).tmod 5).toNat
theorem turns_le (xs:List Int)(i:Nat):turnsOf xs i≤5:=by
 unfold turnsOf;have:=Int.tmod_lt_of_pos ((xs.getD i 0).tmod 5+5) (show(0:Int)<5 by decide);omega
theorem turns_eq (xs:List Int)(i:Nat):((xs.getD i 0).tmod 5+5).tmod 5=(turnsOf xs i:Int):=by
 unfold turnsOf;have h1:-5<(xs.getD i 0).tmod 5:=Int.lt_tmod_of_pos _ (by decide);have:=Int.tmod_nonneg 5 (show(0:Int)≤(xs.getD i 0).tmod 5+5 by omega);omega
def faV (cx:Nat)(b:Nat):Value:=.func (.func 14) #[] #[ptr b,ptr cx]
structure FaB (w:World)(xs:List Int)(cx N j:Nat)(bs:List Nat)(v:Value):Prop where
 len:bs.length=j
 rep:RepF w v (bs.map (faV cx))
 fresh:∀ b∈fp v,N≤b
 made:∀ i b,bs[i]?=some b→N≤b∧b∉fp v∧Blk w b [.int .i64 (turnsOf xs i:Int)] 3
theorem FaB.zero {w:World}{xs:List Int}{cx N:Nat}:FaB w xs cx N 0 [] (.slice none 0 0):=⟨rfl,Rep.nil,by simp[fp,Value.ownBlock],fun i b h=>by simp at h⟩
theorem FaB.keeps {w w':World}{xs:List Int}{cx N j:Nat}{bs:List Nat}{v:Value}(h:FaB w xs cx N j bs v)(k:Keeps [] w w'):FaB w' xs cx N j bs v :=
 ⟨h.len,h.rep.keeps k (by simp),h.fresh,fun i b hb=>⟨(h.made i b hb).1,(h.made i b hb).2.1,k.blk (h.made i b hb).2.2 (by simp)⟩⟩
theorem FaB.next {w W w2:World}{xs:List Int}{cx N j g cap kb:Nat}{bs:List Nat}{v:Value}(h:FaB w xs cx N j bs v)(hN:N≤w.heap.size)(hkb:kb=w.heap.size)(k0:Kp [] w W)(b0:Blk W kb [.int .i64 (turnsOf xs j:Int)] 3)
  (r:RepF w2 (.slice (some ⟨g,0,none⟩) (j+1) cap) (bs.map (faV cx)++[faV cx kb])) (k:Keeps (fp v) W w2) (a:g∈fp v∨g=W.heap.size):FaB w2 xs cx N (j+1) (bs++[kb]) (.slice (some ⟨g,0,none⟩) (j+1) cap):=by
 have hf:∀ b,b∈fp (.slice (some ⟨g,0,none⟩) (j+1) cap)→b=g:=fun b hb=>by simpa[fp,Value.ownBlock] using hb
 have hgl:∀ b∈fp v,b<w.heap.size:=fun b hb=>h.rep.fp_lt b hb;have hWl:=k0.size;have hb0:=b0.lt;have hne:∀ b,b∉fp v→b<W.heap.size→b∉fp (.slice (some ⟨g,0,none⟩) (j+1) cap):=fun b hb hl hm=>by
  have e:=hf b hm;subst e;rcases a with q | q
  ·exact hb q
  ·omega
 have hkv:kb∉fp v:=fun hm=>by have:=hgl kb hm;omega
 refine⟨by rw[la',h.len];rfl,by rw[List.map_append];exact r,fun b hb=>?_,fun i b hb=>?_⟩
 ·rw[hf b hb]
  rcases a with q | q
  ·exact h.fresh g q
  ·omega
 ·by_cases hi:i<j
  ·rw[List.getElem?_append_left (by rw[h.len];exact hi)] at hb
   obtain⟨q1,q2,q3⟩:=h.made i b hb;exact⟨q1,hne b q2 (nl' q3.lt hWl),k.blk (k0.blk q3 (by simp)) q2⟩
  ·have hij:i=j:=by
    have:=(List.getElem?_eq_some_iff.1 hb).1;rw[la',h.len] at this;have h1:[kb].length=1:=rfl;omega
   subst hij;rw[List.getElem?_append_right (by rw[h.len];exact Nat.le_refl _),h.len,Nat.sub_self] at hb;obtain rfl:kb=b:=by simpa using hb
   exact⟨by omega,hne kb hkv hb0,k.blk b0 hkv⟩
def ffQ (gt:Option Addr)(n ct:Nat)(gp:Option Addr)(np cp fx:Nat)(xs:List Int)(w:World)(t:Array Value)(w':World):Prop:=∃ x bs v,t=fg 152 x∧(x 0=.slice gt n ct∧x 1=.slice gp np cp∧x 5=ptr fx∧x 6=v)∧FaB w' xs fx w.heap.size n bs v∧Kp [] w w'
theorem ffQ_mk {gt gp:Option Addr}{n ct np cp fx:Nat}{xs:List Int}{w w':World}{t:Array Value}{bs:List Nat}{v:Value}(hs:t.size=152)(h:t.getD 0 undef=.slice gt n ct∧t.getD 1 undef=.slice gp np cp∧t.getD 5 undef=ptr fx∧t.getD 6 undef=v)(b:FaB w' xs fx w.heap.size n bs v)(k:Keeps [] w w'):ffQ gt n ct gp np cp fx xs w t w':=⟨_,bs,v,t_fg hs,h,b,Keeps.kp k⟩
theorem blk_alloc_set (wr:World)(u v:Value)(t:TypeId):Blk ((wr.alloc (.cells #[u] t)).setCell ⟨wr.heap.size,0,none⟩ v) wr.heap.size [v] t:=(Blk.new wr [u] t).set 0 v
theorem kp_alloc_set (wr:World)(o:Obj)(v:Value):Kp [] wr ((wr.alloc o).setCell ⟨wr.heap.size,0,none⟩ v):=(Kp.alloc [] wr o).new (F:=[wr.heap.size]) ⟨Nat.le_of_eq (World.size_setCell _ _ _).symm,fun c hc hn=>setCell_frame (by simpa using hn)⟩ (by simp)
theorem ff1 (w:World)(x:Nat→Value)(gt gp:Option Addr)(n ct np cp:Nat)(h0:x 0=.slice gt n ct)(h1:x 1=.slice gp np cp) :
  (sL (sL (sR q4))).wp Try.prog (fun e a' w'=>e=.normal∧a'.defers=[]∧lQ 152 (fun x=>x 0=.slice gt n ct∧x 1=.slice gp np cp∧x 31=.bool (decide (n<1∨8<n∨65536<np))) w a'.tmps w') ⟨fg 152 x,[]⟩ w:=by
 have HQ:Hid (∀ (t:Array Value) (w':World),lQ 152 (fun x=>x 0=.slice gt n ct∧x 1=.slice gp np cp∧x 31=.bool (decide (n<1∨8<n∨65536<np))) w t w'→lQ 152 (fun x=>x 0=.slice gt n ct∧x 1=.slice gp np cp∧x 31=.bool (decide (n<1∨8<n∨65536<np))) w t w'):=Lib.hid fun _ _ h=>h;generalize hG:lQ 152 (fun x=>x 0=.slice gt n ct∧x 1=.slice gp np cp∧x 31=.bool (decide (n<1∨8<n∨65536<np))) w=G at HQ ⊢;have HG:=Lib.hid hG;clear hG;rw[show fg 152 x=#[x 0,x 1,x 2,x 3,x 4,x 5,x 6,x 7,x 8,x 9,x 10,x 11,x 12,x 13,x 14,x 15,x 16,x 17,x 18,x 19,x 20,x 21,x 22,x 23,x 24,x 25,x 26,x 27,x 28,x 29,x 30,x 31,x 32,x 33,x 34,x 35,x 36,x 37,x 38,x 39,x 40,x 41,x 42,x 43,x 44,x 45,x 46,x 47,x 48,x 49,x 50,x 51,x 52,x 53,x 54,x 55,x 56,x 57,x 58,x 59,x 60,x 61,x 62,x 63,x 64,x 65,x 66,x 67,x 68,x 69,x 70,x 71,x 72,x 73,x 74,x 75,x 76,x 77,x 78,x 79,x 80,x 81,x 82,x 83,x 84,x 85,x 86,x 87,x 88,x 89,x 90,x 91,x 92,x 93,x 94,x 95,x 96,x 97,x 98,x 99,x 100,x 101,x 102,x 103,x 104,x 105,x 106,x 107,x 108,x 109,x 110,x 111,x 112,x 113,x 114,x 115,x 116,x 117,x 118,x 119,x 120,x 121,x 122,x 123,x 124,x 125,x 126,x 127,x 128,x 129,x 130,x 131,x 132,x 133,x 134,x 135,x 136,x 137,x 138,x 139,x 140,x 141,x 142,x 143,x 144,x 145,x 146,x 147,x 148,x 149,x 150,x 151] from rfl];simp only[q4,Try.f4,Option.getD_some,sL,sR,sB,sT,sF,h0,h1];by_cases q1:n<1
 ·go_wp2
  all_goals first
   | (exfalso;omega)
   | (refine HQ.out _ _ ?_;rw[← HG.out];exact lQ_mk rfl ⟨rfl,rfl,congrArg Value.bool (by rw[decide_eq_true (show(n<1∨8<n∨65536<np) by omega)];try (first | rfl | (simp only[Bool.false_or,Bool.or_eq_false_iff,decide_eq_false_iff_not];omega) | (simp only[Bool.or_eq_true,decide_eq_true_eq];omega)))⟩ (Keeps.refl _ _))
 by_cases q2:8<n
 ·go_wp2
  all_goals first
   | (exfalso;omega)
   | (refine HQ.out _ _ ?_;rw[← HG.out];exact lQ_mk rfl ⟨rfl,rfl,congrArg Value.bool (by rw[decide_eq_true (show(n<1∨8<n∨65536<np) by omega)];try (first | rfl | (simp only[Bool.false_or,Bool.or_eq_false_iff,decide_eq_false_iff_not];omega) | (simp only[Bool.or_eq_true,decide_eq_true_eq];omega)))⟩ (Keeps.refl _ _))
 by_cases q3:65536<np
 ·go_wp2
  all_goals first
   | (exfalso;omega)
   | (refine HQ.out _ _ ?_;rw[← HG.out];exact lQ_mk rfl ⟨rfl,rfl,congrArg Value.bool (by rw[decide_eq_true (show(n<1∨8<n∨65536<np) by omega)];try (first | rfl | (simp only[Bool.false_or,Bool.or_eq_false_iff,decide_eq_false_iff_not];omega) | (simp only[Bool.or_eq_true,decide_eq_true_eq];omega)))⟩ (Keeps.refl _ _))
 go_wp2
 all_goals first
  | (exfalso;omega)
  | (refine HQ.out _ _ ?_;rw[← HG.out];exact lQ_mk rfl ⟨rfl,rfl,congrArg Value.bool (by rw[decide_eq_false (show ¬ (n<1∨8<n∨65536<np) by omega)];try (first | rfl | (simp only[Bool.false_or,Bool.or_eq_false_iff,decide_eq_false_iff_not];omega) | (simp only[Bool.or_eq_true,decide_eq_true_eq];omega)))⟩ (Keeps.refl _ _))
theorem ff2 (w:World)(x:Nat→Value)(gt gp:Option Addr)(n ct np cp fx:Nat)(xs:List Int)(hl:xs.length=n)(hn:n≤8)(hx:∀ j u,xs[j]?=some u→∃ b o,gt=some ⟨b,o,none⟩∧w.cell? ⟨b,o+j,none⟩=some (.int .i64 u))(hn0:0<n)(h0:x 0=.slice gt n ct)(h1:x 1=.slice gp np cp)(h5:x 5=ptr fx)(h6:x 6=.slice none 0 0)(h7:x 7=.int .i64 0) :
  (sR (sL (sR (sR (sR (sR q4)))))).wp Try.prog (fun e a' w'=>e=.normal∧a'.defers=[]∧ffQ gt n ct gp np cp fx xs w a'.tmps w') ⟨fg 152 x,[]⟩ w:=by
 have HQ:Hid (∀ (t:Array Value) (w':World),ffQ gt n ct gp np cp fx xs w t w'→ffQ gt n ct gp np cp fx xs w t w'):=Lib.hid fun _ _ h=>h;generalize hG:ffQ gt n ct gp np cp fx xs w=G at HQ ⊢;have HG:=Lib.hid hG;clear hG;obtain⟨tb,to,hg⟩:∃ tb to,gt=some ⟨tb,to,none⟩:=by
  obtain⟨b,o,h,_⟩:=hx 0 _ (List.getElem?_eq_getElem (by omega));exact⟨b,o,h⟩
 subst hg;have HX:=Lib.hid (fun(W:World) (q:Keeps [] w W) (j:Nat) (hj:j<n)=>(show W.cell? ⟨tb,to+j,none⟩=some (.int .i64 (xs.getD j 0)) by
  obtain⟨b,o,h,hc⟩:=hx j _ (List.getElem?_eq_getElem (show j<xs.length by omega));cases h;rw[List.getD_eq_getElem?_getD,List.getElem?_eq_getElem (show j<xs.length by omega)];exact(Keeps.kp q).cells _ _ _ hc))
 clear hx;rw[show fg 152 x=#[x 0,x 1,x 2,x 3,x 4,x 5,x 6,x 7,x 8,x 9,x 10,x 11,x 12,x 13,x 14,x 15,x 16,x 17,x 18,x 19,x 20,x 21,x 22,x 23,x 24,x 25,x 26,x 27,x 28,x 29,x 30,x 31,x 32,x 33,x 34,x 35,x 36,x 37,x 38,x 39,x 40,x 41,x 42,x 43,x 44,x 45,x 46,x 47,x 48,x 49,x 50,x 51,x 52,x 53,x 54,x 55,x 56,x 57,x 58,x 59,x 60,x 61,x 62,x 63,x 64,x 65,x 66,x 67,x 68,x 69,x 70,x 71,x 72,x 73,x 74,x 75,x 76,x 77,x 78,x 79,x 80,x 81,x 82,x 83,x 84,x 85,x 86,x 87,x 88,x 89,x 90,x 91,x 92,x 93,x 94,x 95,x 96,x 97,x 98,x 99,x 100,x 101,x 102,x 103,x 104,x 105,x 106,x 107,x 108,x 109,x 110,x 111,x 112,x 113,x 114,x 115,x 116,x 117,x 118,x 119,x 120,x 121,x 122,x 123,x 124,x 125,x 126,x 127,x 128,x 129,x 130,x 131,x 132,x 133,x 134,x 135,x 136,x 137,x 138,x 139,x 140,x 141,x 142,x 143,x 144,x 145,x 146,x 147,x 148,x 149,x 150,x 151] from rfl];simp only[q4,Try.f4,Option.getD_some,sL,sR,sB,sT,sF,h0,h1,h5,h6,h7]
 go_wp2
 go_loopw [6,7] (fun lv iv wr=>∃ (j:Nat) (bs:List Nat),j≤n∧iv=.int .i64 j∧FaB wr xs fx w.heap.size j bs lv∧Keeps [] w wr) (fun _ iv _=>n-(intOf iv).toNat)
 case atStart=>exact⟨0,[],Nat.zero_le _,rfl,FaB.zero,Keeps.refl _ _⟩
 case round =>
  obtain⟨j,bs,hj,rfl,hB,hkp⟩:=hrel;have hbl:=hB.len;have hfm:=hB.rep.form;rw[List.length_map,hbl] at hfm;obtain⟨gl,cl,rfl,_⟩:=hfm;have HB:=Lib.hid hB;have HK:=Lib.hid hkp;have hsz:=hkp.size;clear hB hkp;by_cases hlt:j<n
  ·have hc:=HX.out wr HK.out j hlt
   obtain⟨u,hu⟩:∃ u,u=xs.getD j 0:=⟨_,rfl⟩;have hmu:(wrap64 (u.tmod 5+5)).tmod 5=(turnsOf xs j:Int):=by
    have hm1:-5<u.tmod 5∧u.tmod 5<5:=⟨Int.lt_tmod_of_pos _ (by decide),Int.tmod_lt_of_pos _ (by decide)⟩;rw[IntWalk.wrap64_in _ (by omega),hu];exact turns_eq xs j
   rw[← hu] at hc;clear hu;have hml:(bs.map (faV fx)).length=j:=by rw[List.length_map,hbl]
   have HML:=Lib.hid hml;have HO:=Lib.hid (cell_one_at (wr.alloc (.cells #[.int .i64 (turnsOf xs j:Int)] 3)) (faV fx wr.heap.size) 31 (N:=wr.heap.size+1) (by rw[wz']));have HR:=Lib.hid (fun(W:World) (q:Keeps [] wr W)=>HB.out.rep.keeps q (by simp));clear hml
   go_wp2_with (refine wpList_rep_append rfl (.tmp 47) (.tmp 49) 27 rfl .nilFunc 8 Try.underlying27 info54 rfl (by decide) (.slice gl j cl) (bs.map (faV fx)) rfl (HR.out _ (((Keeps.refl _ _).alloc _).alloc _)) (fun _=>rfl) ⟨wr.heap.size+1,0,none⟩ 1 1 [faV fx wr.heap.size] rfl rfl HO.out (by simp[faV,Value.oneCell']) (by decide) (by rw[HML.out];unfold maxLen;omega) (by rw[HML.out];omega) ?_;rw[HML.out];intro g2 cap2 w2 r2 k2 a2 lg q2;have R2:=Lib.hid r2;have K2:=Lib.hid k2;have A2:=Lib.hid a2;clear r2 k2 a2)
   go_roundw
   case rel =>
    have hB2:=HB.out.next (W:=(wr.alloc (.cells #[.int .i64 (turnsOf xs j:Int)] 3)).alloc (.cells #[faV fx wr.heap.size] 31)) hsz rfl ((Kp.alloc [] wr _).trans (Kp.alloc [] _ _)) ((Blk.new wr [.int .i64 (turnsOf xs j:Int)] 3).alloc _) R2.out K2.out A2.out;have hk2:=lent_rel (m:=j+1) (cap2:=cap2) ((HK.out.alloc _).alloc _) HB.out.fresh K2.out A2.out;exact⟨j+1,bs++[wr.heap.size],by omega,by go_num,hB2,hk2.1⟩
   case measure=>simp[intOf];omega
  ·obtain rfl:j=n:=by omega
   go_wp2
   refine HQ.out _ _ ?_;rw[← HG.out];exact ffQ_mk rfl ⟨rfl,rfl,rfl,rfl⟩ HB.out HK.out
theorem zeros_eq (n:Nat):(List.replicate n ()).flatMap (fun _=>[Value.int .i64 0])=(List.range n).map (fun i=>Value.int .i64 (([]:List Nat).count i:Nat)):=by
 have h1:∀ n,(List.replicate n ()).flatMap (fun _=>[Value.int .i64 0])=List.replicate n (Value.int .i64 0):=fun n=>by
  induction n with
  | zero=>rfl
  | succ n ih=>rw[List.replicate_succ,List.flatMap_cons,ih,List.replicate_succ];rfl
 rw[h1];show _=(List.range n).map (fun _=>Value.int .i64 0);rw[List.map_const',List.length_range]
theorem infoI:(Try.prog.info? 3).map (fun i=>(i.zero,i.size,i.bytes))=some (some (.int .i64 0),1,8):=by kernel_rfl
def f3Q (gt:Option Addr)(n ct fx rb:Nat)(w:World)(t:Array Value)(w':World):Prop:=∃ x,t=fg 152 x∧(x 0=.slice gt n ct∧x 5=ptr fx∧x 9=ptr rb∧x 11=.slice none 0 0∧x 12=.slice none 0 0∧x 13=.slice (some ⟨w.heap.size,0,none⟩) n n)∧Blk w' w.heap.size ((List.range n).map fun i=>Value.int .i64 (([]:List Nat).count i:Nat)) 3∧Kp [] w w'
theorem ff3 (w:World)(x:Nat→Value)(gt:Option Addr)(n ct fx rb:Nat)(hn:n≤8)(h0:x 0=.slice gt n ct)(h5:x 5=ptr fx)(h9:x 9=ptr rb)(h11:x 11=.slice none 0 0)(h12:x 12=.slice none 0 0) :
  (sL (sR (sR (sR (sR (sR (sR (sR (sR q4))))))))).wp Try.prog (fun e a' w'=>e=.normal∧a'.defers=[]∧f3Q gt n ct fx rb w a'.tmps w') ⟨fg 152 x,[]⟩ w:=by
 have HQ:Hid (∀ (t:Array Value) (w':World),f3Q gt n ct fx rb w t w'→f3Q gt n ct fx rb w t w'):=Lib.hid fun _ _ h=>h;generalize hG:f3Q gt n ct fx rb w=G at HQ ⊢;have HG:=Lib.hid hG;clear hG;rw[show fg 152 x=#[x 0,x 1,x 2,x 3,x 4,x 5,x 6,x 7,x 8,x 9,x 10,x 11,x 12,x 13,x 14,x 15,x 16,x 17,x 18,x 19,x 20,x 21,x 22,x 23,x 24,x 25,x 26,x 27,x 28,x 29,x 30,x 31,x 32,x 33,x 34,x 35,x 36,x 37,x 38,x 39,x 40,x 41,x 42,x 43,x 44,x 45,x 46,x 47,x 48,x 49,x 50,x 51,x 52,x 53,x 54,x 55,x 56,x 57,x 58,x 59,x 60,x 61,x 62,x 63,x 64,x 65,x 66,x 67,x 68,x 69,x 70,x 71,x 72,x 73,x 74,x 75,x 76,x 77,x 78,x 79,x 80,x 81,x 82,x 83,x 84,x 85,x 86,x 87,x 88,x 89,x 90,x 91,x 92,x 93,x 94,x 95,x 96,x 97,x 98,x 99,x 100,x 101,x 102,x 103,x 104,x 105,x 106,x 107,x 108,x 109,x 110,x 111,x 112,x 113,x 114,x 115,x 116,x 117,x 118,x 119,x 120,x 121,x 122,x 123,x 124,x 125,x 126,x 127,x 128,x 129,x 130,x 131,x 132,x 133,x 134,x 135,x 136,x 137,x 138,x 139,x 140,x 141,x 142,x 143,x 144,x 145,x 146,x 147,x 148,x 149,x 150,x 151] from rfl];simp only[q4,Try.f4,Option.getD_some,sL,sR,sB,sT,sF,h0,h5,h9,h11,h12]
 go_wp2_with (refine wpList_make_cells _ rfl (.tmp 60) (.tmp 60) 22 rfl 3 (.int .i64 0) 1 8 Try.underlying22 infoI .i64 .i64 _ _ n rfl rfl rfl rfl (by omega) (by omega) ?_)
 refine HQ.out _ _ ?_;rw[← HG.out];refine⟨_,t_fg rfl,⟨rfl,rfl,rfl,rfl,rfl,rfl⟩,?_,Kp.alloc [] w _⟩;have e:madeCells #[Value.int .i64 0] n=((List.range n).map fun i=>Value.int .i64 (([]:List Nat).count i:Nat)).toArray:=by
  have h:=made_eq (fun _:Unit=>[Value.int .i64 0]) () #[Value.int .i64 0] rfl (by decide) n;rw[show(#[Value.int .i64 0]:Array Value).size=1 from rfl,Nat.mul_one,zeros_eq] at h;exact h
 rw[e];exact Blk.new w _ 3
structure f4R (acts:List Nat)(n nb:Nat)(w:World)(q q':Nat)(av hv:Value)(wr:World):Prop where
 ra:RepN wr av (selOf 2 (acts.take q))
 rh:RepN wr hv (selOf 0 (acts.take q))
 fa:∀ b∈fp av,w.heap.size≤b
 fh:∀ b∈fp hv,w.heap.size≤b
 dj:∀ b∈fp av,b∉fp hv
 cn:Blk wr nb ((List.range n).map fun i=>Value.int .i64 ((acts.take q').count i:Nat)) 3
 kp:Keeps [nb] w wr
theorem f4R.zero {acts:List Nat}{n nb:Nat}{w:World}(h:Blk w nb ((List.range n).map fun i=>Value.int .i64 (([]:List Nat).count i:Nat)) 3):f4R acts n nb w 0 0 (.slice none 0 0) (.slice none 0 0) w :=
 ⟨Rep.nil,Rep.nil,by simp[fp,Value.ownBlock],by simp[fp,Value.ownBlock],by simp[fp,Value.ownBlock],h,Keeps.refl _ _⟩
theorem take_snoc {acts:List Nat}{q who:Nat}(h:acts[q]?=some who):acts.take (q+1)=acts.take q++[who]:=by
 rw[List.take_add_one,h];rfl
theorem f4R.set {acts:List Nat}{n nb:Nat}{w wr:World}{q who:Nat}{av hv:Value}(h:f4R acts n nb w q q av hv wr)(hnb:nb<w.heap.size)(hq:acts[q]?=some who)(hA:acts.length<200) :
  f4R acts n nb w q (q+1) av hv (wr.setCell ⟨nb,who,none⟩ (.int .i64 (((acts.take q).count who:Nat)+1))):=by
 have k:Keeps [nb] wr (wr.setCell ⟨nb,who,none⟩ (.int .i64 (((acts.take q).count who:Nat)+1))):=(Keeps.refl [nb] wr).setCell _ _ (fun _=>by simp);refine⟨h.ra.keeps k fun b hb hm=>?_,h.rh.keeps k fun b hb hm=>?_,h.fa,h.fh,h.dj,?_,h.kp.trans k fun b hb _=>hb⟩
 ·have:=h.fa b hb;rw[List.mem_singleton.1 hm] at this;omega
 ·have:=h.fh b hb;rw[List.mem_singleton.1 hm] at this;omega
 ·refine(h.cn.set who _).of ?_
  have hl:(acts.take q).count who≤q:=Nat.le_trans List.count_le_length (by rw[List.length_take];omega);have hq':=(List.getElem?_eq_some_iff.1 hq).1;refine List.ext_getElem (by simp) fun i h1 h2=>?_;rw[List.getElem_set];simp only[List.getElem_map,List.getElem_range,take_snoc hq,List.count_append];by_cases e:who=i
  ·subst e;rw[if_pos rfl];simp
  ·rw[if_neg e];simp[List.count_singleton,e]
theorem f4R.neither {acts:List Nat}{n nb:Nat}{w wr:World}{q who:Nat}{av hv:Value}(h:f4R acts n nb w q (q+1) av hv wr)(hq:acts[q]?=some who)(h2:¬ ((acts.take q).count who+1) % 3=2)(h0:¬ ((acts.take q).count who+1) % 3=0):f4R acts n nb w (q+1) (q+1) av hv wr :=
 ⟨by rw[take_snoc hq,selOf_snoc,if_neg h2];exact h.ra,by rw[take_snoc hq,selOf_snoc,if_neg h0];exact h.rh,h.fa,h.fh,h.dj,h.cn,h.kp⟩
theorem f4R.grow {acts:List Nat}{n nb:Nat}{w wr w2:World}{q who g cap m:Nat}{av hv:Value}(h:f4R acts n nb w q (q+1) av hv wr)(hnb:nb<w.heap.size)(hq:acts[q]?=some who)(v:Value)(hv':v=av∨v=hv)(o:Obj)(k:Keeps (fp v) (wr.alloc o) w2)(a:g∈fp v∨g=(wr.alloc o).heap.size)(hg:g<w2.heap.size) :
  (∀ b∈fp (.slice (some ⟨g,0,none⟩) m cap),w.heap.size≤b)∧Keeps [nb] w w2∧Blk w2 nb ((List.range n).map fun i=>Value.int .i64 ((acts.take (q+1)).count i:Nat)) 3 ∧
  (v=av→RepN w2 hv (selOf 0 (acts.take q))∧∀ b∈fp (.slice (some ⟨g,0,none⟩) m cap),b∉fp hv)∧(v=hv→RepN w2 av (selOf 2 (acts.take q))∧∀ b∈fp av,b∉fp (.slice (some ⟨g,0,none⟩) m cap)):=by
 have hfp:∀ b,b∈fp (.slice (some ⟨g,0,none⟩) m cap)→b=g:=fun b hb=>by simpa[fp,Value.ownBlock] using hb
 have hfv:∀ b∈fp v,w.heap.size≤b:=by rcases hv' with rfl | rfl;exact h.fa;exact h.fh
 have hsz:=h.kp.size;have hz:(wr.alloc o).heap.size=wr.heap.size+1:=wz' _ _;have hge:w.heap.size≤g:=by rcases a with a | a;exact hfv g a;omega
 have k1:Keeps [nb] wr (wr.alloc o):=(Keeps.refl [nb] wr).alloc o;refine⟨fun b hb=>by rw[hfp b hb];exact hge,?_,?_,fun e=>⟨?_,fun b hb hm=>?_⟩,fun e=>⟨?_,fun b hb hm=>?_⟩⟩
 ·exact(h.kp.trans k1 fun b hb _=>hb).trans k fun b hb hlt=>absurd (hfv b hb) (by omega)
 ·exact k.blk (h.cn.alloc o) (fun hm=>by have:=hfv nb hm;omega)
 ·subst e
  exact(h.rh.keeps ((Keeps.refl [] wr).alloc o) (by simp)).keeps k fun b hb hm=>h.dj b hm hb
 ·subst e
  rw[hfp b hb] at hm;rcases a with a | a
  ·exact h.dj g a hm
  ·have:=h.rh.fp_lt g hm;omega
 ·subst e
  exact(h.ra.keeps ((Keeps.refl [] wr).alloc o) (by simp)).keeps k fun b hb hm=>h.dj b hb hm
 ·subst e
  have:=hfp b hm;subst this;rcases a with a | a
  ·exact h.dj b hb a
  ·have:=h.ra.fp_lt b hb;omega
theorem f4R.ask {acts:List Nat}{n nb:Nat}{w wr w2:World}{q who g cap m:Nat}{av hv:Value}(h:f4R acts n nb w q (q+1) av hv wr)(hnb:nb<w.heap.size)(hq:acts[q]?=some who)(h2:((acts.take q).count who+1) % 3=2)(o:Obj)(r:RepN w2 (.slice (some ⟨g,0,none⟩) m cap) (selOf 2 (acts.take q)++[who]))(k:Keeps (fp av) (wr.alloc o) w2)(a:g∈fp av∨g=(wr.alloc o).heap.size)(hg:g<w2.heap.size):f4R acts n nb w (q+1) (q+1) (.slice (some ⟨g,0,none⟩) m cap) hv w2:=by
 obtain⟨h1,h3,h4,h5,_⟩:=h.grow (m:=m) (cap:=cap) hnb hq av (.inl rfl) o k a hg;obtain⟨h6,h7⟩:=h5 rfl;exact⟨by rw[take_snoc hq,selOf_snoc,if_pos h2];exact r,by rw[take_snoc hq,selOf_snoc,if_neg (by omega)];exact h6,h1,h.fh,h7,h4,h3⟩
theorem f4R.had {acts:List Nat}{n nb:Nat}{w wr w2:World}{q who g cap m:Nat}{av hv:Value}(h:f4R acts n nb w q (q+1) av hv wr)(hnb:nb<w.heap.size)(hq:acts[q]?=some who)(h0:((acts.take q).count who+1) % 3=0)(o:Obj)(r:RepN w2 (.slice (some ⟨g,0,none⟩) m cap) (selOf 0 (acts.take q)++[who]))(k:Keeps (fp hv) (wr.alloc o) w2)(a:g∈fp hv∨g=(wr.alloc o).heap.size)(hg:g<w2.heap.size):f4R acts n nb w (q+1) (q+1) av (.slice (some ⟨g,0,none⟩) m cap) w2:=by
 obtain⟨h1,h3,h4,_,h5⟩:=h.grow (m:=m) (cap:=cap) hnb hq hv (.inr rfl) o k a hg;obtain⟨h6,h7⟩:=h5 rfl;exact⟨by rw[take_snoc hq,selOf_snoc,if_neg (by omega)];exact h6,by rw[take_snoc hq,selOf_snoc,if_pos h0];exact r,h.fa,h1,h7,h4,h3⟩
theorem selR_len (r:Nat):∀ l,(selR r l).length≤l.length
 | []=>Nat.le_refl _
 | i::l=>by
  have:=selR_len r l;unfold selR;split
  ·simp only[la',List.length_cons,List.length_nil];omega
  ·rw[List.length_cons];omega
theorem selOf_len (r:Nat)(l:List Nat):(selOf r l).length≤l.length:=by
 have:=selR_len r l.reverse
 rwa [List.length_reverse] at this
theorem ix22' {n c b o j:Nat}(hj:j<n):∀ w,(Instr.indexAt 22 (.slice (some ⟨b,o,none⟩) n c) (.int .i64 j)).run Try.prog w=.ok (.pointer (some ⟨b,o+j,none⟩)) w:=ix22 hj
def f4Q (gt:Option Addr)(n ct fx nb:Nat)(acts:List Nat)(w:World)(t:Array Value)(w':World):Prop:=∃ x av hv,t=fg 152 x∧(x 0=.slice gt n ct∧x 5=ptr fx∧x 11=av∧x 12=hv)∧RepN w' av (selOf 2 acts)∧RepN w' hv (selOf 0 acts)∧Kp [nb] w w'
theorem ff4 (w:World)(x:Nat→Value)(gt ga:Option Addr)(n ct ca fx rb nb:Nat)(ve vu:Value)(acts:List Nat)(hn:n≤8)(hA:acts.length<200)(hnb:nb<w.heap.size)(hin:∀ i∈acts,i<n)(hrb:Blk w rb [.slice ga acts.length ca,ve,vu] 34)(hga:∀ q u:Nat,acts[q]?=some u→∃ b o,ga=some ⟨b,o,none⟩∧b≠nb∧w.cell? ⟨b,o+q,none⟩=some (.int .u8 u))
  (hcn:Blk w nb ((List.range n).map fun i=>Value.int .i64 (([]:List Nat).count i:Nat)) 3) (h0:x 0=.slice gt n ct) (h5:x 5=ptr fx) (h9:x 9=ptr rb) (h11:x 11=.slice none 0 0) (h12:x 12=.slice none 0 0) (h13:x 13=.slice (some ⟨nb,0,none⟩) n n) (h14:x 14=.int .i64 0) :
  (sR (sL (sR (sR (sR (sR (sR (sR (sR (sR (sR q4))))))))))).wp Try.prog (fun e a' w'=>e=.normal∧a'.defers=[]∧f4Q gt n ct fx nb acts w a'.tmps w') ⟨fg 152 x,[]⟩ w:=by
 have HQ:Hid (∀ (t:Array Value) (w':World),f4Q gt n ct fx nb acts w t w'→f4Q gt n ct fx nb acts w t w'):=Lib.hid fun _ _ h=>h;generalize hG:f4Q gt n ct fx nb acts w=G at HQ ⊢;have HG:=Lib.hid hG;clear hG;have hrn:rb≠nb:=cel_ne (Blk.cel hrb) (Blk.cel hcn) (by decide);have HR:=Lib.hid (fun(W:World) (k:Keeps [nb] w W)=>k.blk hrb (by simpa using hrn));have HX:=Lib.hid (fun(W:World) (k:Keeps [nb] w W) (q:Nat) (u:Nat) (hq:acts[q]?=some u)=>(show ∃ b o,ga=some ⟨b,o,none⟩∧W.cell? ⟨b,o+q,none⟩=some (.int .u8 u) by
  obtain⟨b,o,h1,h2,h3⟩:=hga q u hq;refine⟨b,o,h1,(cell_same (k.block b ?_ (by simpa using h2))).trans h3⟩;obtain⟨_,_,_,hh⟩:=cell_isC h3;exact(aq' hh).1))
 have HI:=Lib.hid hin;have HZ:=Lib.hid (f4R.zero (acts:=acts) hcn);clear hrb hga hin hcn hrn;rw[show fg 152 x=#[x 0,x 1,x 2,x 3,x 4,x 5,x 6,x 7,x 8,x 9,x 10,x 11,x 12,x 13,x 14,x 15,x 16,x 17,x 18,x 19,x 20,x 21,x 22,x 23,x 24,x 25,x 26,x 27,x 28,x 29,x 30,x 31,x 32,x 33,x 34,x 35,x 36,x 37,x 38,x 39,x 40,x 41,x 42,x 43,x 44,x 45,x 46,x 47,x 48,x 49,x 50,x 51,x 52,x 53,x 54,x 55,x 56,x 57,x 58,x 59,x 60,x 61,x 62,x 63,x 64,x 65,x 66,x 67,x 68,x 69,x 70,x 71,x 72,x 73,x 74,x 75,x 76,x 77,x 78,x 79,x 80,x 81,x 82,x 83,x 84,x 85,x 86,x 87,x 88,x 89,x 90,x 91,x 92,x 93,x 94,x 95,x 96,x 97,x 98,x 99,x 100,x 101,x 102,x 103,x 104,x 105,x 106,x 107,x 108,x 109,x 110,x 111,x 112,x 113,x 114,x 115,x 116,x 117,x 118,x 119,x 120,x 121,x 122,x 123,x 124,x 125,x 126,x 127,x 128,x 129,x 130,x 131,x 132,x 133,x 134,x 135,x 136,x 137,x 138,x 139,x 140,x 141,x 142,x 143,x 144,x 145,x 146,x 147,x 148,x 149,x 150,x 151] from rfl];simp only[q4,Try.f4,Option.getD_some,sL,sR,sB,sT,sF,h0,h5,h9,h11,h12,h13,h14]
 go_wp2
 go_loopw [11,12,14] (fun av hv iv wr=>∃ q:Nat,q≤acts.length∧iv=.int .i64 q∧f4R acts n nb w q q av hv wr) (fun _ _ iv _=>acts.length-(intOf iv).toNat)
 case atStart=>exact⟨0,Nat.zero_le _,rfl,HZ.out⟩
 case round =>
  obtain⟨q,hq,rfl,hR⟩:=hrel;have hrbr:=HR.out wr hR.kp;have hr0:=hrbr.cell 0;have hfa:=hR.ra.form;have hfh:=hR.rh.form;obtain⟨gla,cla,rfl,_⟩:=hfa;obtain⟨glh,clh,rfl,_⟩:=hfh;clear hrbr;by_cases hlt:q<acts.length
  ·obtain⟨who,hwho⟩:∃ u,acts[q]?=some u:=⟨_,List.getElem?_eq_getElem hlt⟩
   obtain⟨b,o,hg,hcell⟩:=HX.out wr hR.kp q who hwho;subst hg;have hwn:who<n:=HI.out who (List.mem_of_getElem? hwho);obtain⟨c,hc⟩:∃ c,c=(acts.take q).count who:=⟨_,rfl⟩;have hcl:c≤q:=by rw[hc];exact Nat.le_trans List.count_le_length (by rw[List.length_take];omega)
   have hcc:wr.cell? ⟨nb,who,none⟩=some (.int .i64 (c:Nat)):=by
    rw[hR.cn.cell who,List.getElem?_map,List.getElem?_range hwn,hc];rfl
   have hcf:wr.frozen? ⟨nb,who,none⟩=false:=hR.cn.frozen _;have hS:=hR.set hnb hwho hA;rw[← hc] at hS;have HS:=Lib.hid hS;have HC:=Lib.hid hc;have HW:=Lib.hid hwho;clear hR hS hc hwho;have hmod:((c:Int)+1).tmod 3=(((c+1) % 3:Nat):Int):=by
    rw[Int.tmod_eq_emod_of_nonneg (by omega)];omega
   obtain hr | hr | hr:(c+1) % 3=0∨(c+1) % 3=1∨(c+1) % 3=2:=by omega
   ·have hmt:((c:Int)+1).tmod 3=0:=by rw[hmod,hr];rfl
    have hln:=selOf_len 0 (acts.take q);rw[List.length_take] at hln;have HLN:=Lib.hid hln;clear hmod hln
    go_wp2_with (refine wpList_rep_append rfl (.tmp 103) (.tmp 105) 22 rfl (.int .i64 0) 8 Try.underlying22 infoI rfl (by decide) (.slice glh (selOf 0 (acts.take q)).length clh) (selOf 0 (acts.take q)) rfl ((HS.out.rh).keeps ((Keeps.refl [] _).alloc _) (by simp)) (fun _=>rfl) ⟨wr.heap.size,0,none⟩ 1 1 [who] rfl rfl (cell_one_at (wr.setCell ⟨nb,who,none⟩ (.int .i64 ((c:Int)+1))) (.int .i64 (who:Int)) 3 (N:=wr.heap.size) (by rw[World.size_setCell])) (by simp[Value.oneCell']) (by decide) (by have:=HLN.out;unfold maxLen;omega) (by have:=HLN.out;omega) ?_;intro g2 cap2 w2 r2 k2 a2 lg q2;have R2:=Lib.hid r2;have K2:=Lib.hid k2;have A2:=Lib.hid a2;clear r2 k2 a2)
    go_roundw
    case rel =>
     refine⟨q+1,by omega,by go_num,HS.out.had hnb HW.out (by rw[← HC.out];omega) _ R2.out K2.out A2.out lg⟩
    case measure=>simp[intOf];omega
   ·have hmt:((c:Int)+1).tmod 3=1:=by rw[hmod,hr];rfl
    clear hmod
    go_wp2
    go_roundw
    case rel=>exact⟨q+1,by omega,by go_num,HS.out.neither HW.out (by rw[← HC.out];omega) (by rw[← HC.out];omega)⟩
    case measure=>simp[intOf];omega
   ·have hmt:((c:Int)+1).tmod 3=2:=by rw[hmod,hr];rfl
    have hln:=selOf_len 2 (acts.take q);rw[List.length_take] at hln;have HLN:=Lib.hid hln;clear hmod hln
    go_wp2_with (refine wpList_rep_append rfl (.tmp 92) (.tmp 94) 22 rfl (.int .i64 0) 8 Try.underlying22 infoI rfl (by decide) (.slice gla (selOf 2 (acts.take q)).length cla) (selOf 2 (acts.take q)) rfl ((HS.out.ra).keeps ((Keeps.refl [] _).alloc _) (by simp)) (fun _=>rfl) ⟨wr.heap.size,0,none⟩ 1 1 [who] rfl rfl (cell_one_at (wr.setCell ⟨nb,who,none⟩ (.int .i64 ((c:Int)+1))) (.int .i64 (who:Int)) 3 (N:=wr.heap.size) (by rw[World.size_setCell])) (by simp[Value.oneCell']) (by decide) (by have:=HLN.out;unfold maxLen;omega) (by have:=HLN.out;omega) ?_;intro g2 cap2 w2 r2 k2 a2 lg q2;have R2:=Lib.hid r2;have K2:=Lib.hid k2;have A2:=Lib.hid a2;clear r2 k2 a2)
    go_roundw
    case rel =>
     refine⟨q+1,by omega,by go_num,HS.out.ask hnb HW.out (by rw[← HC.out];omega) _ R2.out K2.out A2.out lg⟩
    case measure=>simp[intOf];omega
  ·obtain rfl:q=acts.length:=by omega
   go_wp2
   refine HQ.out _ _ ?_;rw[← HG.out];have e:acts.take acts.length=acts:=List.take_length;exact⟨_,_,_,t_fg rfl,⟨rfl,rfl,rfl,rfl⟩,e▸hR.ra,e▸hR.rh,⟨hR.kp.size,hR.kp.block⟩⟩
theorem ff5 (w:World)(x:Nat→Value)(gt:Option Addr)(n ct fx:Nat)(av hv:Value)(xs:List Int)(hl:xs.length=n)(hn:n≤8)(hx:∀ (j:Nat) (u:Int),xs[j]?=some u→∃ b o,gt=some ⟨b,o,none⟩∧w.cell? ⟨b,o+j,none⟩=some (.int .i64 u))(hn0:0<n)(h0:x 0=.slice gt n ct)(h5:x 5=ptr fx)(h11:x 11=av)(h12:x 12=hv)(h16:x 16=.int .i64 0)(h17:x 17=.int .i64 0) :
  (sR (sL (sR (sR (sR (sR (sR (sR (sR (sR (sR (sR (sR q4))))))))))))).wp Try.prog (fun e a' w'=>e=.normal∧a'.defers=[]∧lQ 152 (fun x=>x 5=ptr fx∧x 11=av∧x 12=hv∧x 16=.int .i64 (Go.ConcN.sumTo n (turnsOf xs):Nat)) w a'.tmps w') ⟨fg 152 x,[]⟩ w:=by
 have HQ:Hid (∀ (t:Array Value) (w':World),lQ 152 (fun x=>x 5=ptr fx∧x 11=av∧x 12=hv∧x 16=.int .i64 (Go.ConcN.sumTo n (turnsOf xs):Nat)) w t w'→lQ 152 (fun x=>x 5=ptr fx∧x 11=av∧x 12=hv∧x 16=.int .i64 (Go.ConcN.sumTo n (turnsOf xs):Nat)) w t w'):=Lib.hid fun _ _ h=>h;generalize hG:lQ 152 (fun x=>x 5=ptr fx∧x 11=av∧x 12=hv∧x 16=.int .i64 (Go.ConcN.sumTo n (turnsOf xs):Nat)) w=G at HQ ⊢;have HG:=Lib.hid hG;clear hG;obtain⟨tb,to,hg⟩:∃ tb to,gt=some ⟨tb,to,none⟩:=by
  obtain⟨b,o,h,_⟩:=hx 0 _ (List.getElem?_eq_getElem (by omega));exact⟨b,o,h⟩
 subst hg;have HX:=Lib.hid (fun(W:World) (q:Keeps [] w W) (j:Nat) (hj:j<n)=>(show W.cell? ⟨tb,to+j,none⟩=some (.int .i64 (xs.getD j 0)) by
  obtain⟨b,o,h,hc⟩:=hx j _ (List.getElem?_eq_getElem (show j<xs.length by omega));cases h;rw[List.getD_eq_getElem?_getD,List.getElem?_eq_getElem (show j<xs.length by omega)];exact(Keeps.kp q).cells _ _ _ hc))
 clear hx;rw[show fg 152 x=#[x 0,x 1,x 2,x 3,x 4,x 5,x 6,x 7,x 8,x 9,x 10,x 11,x 12,x 13,x 14,x 15,x 16,x 17,x 18,x 19,x 20,x 21,x 22,x 23,x 24,x 25,x 26,x 27,x 28,x 29,x 30,x 31,x 32,x 33,x 34,x 35,x 36,x 37,x 38,x 39,x 40,x 41,x 42,x 43,x 44,x 45,x 46,x 47,x 48,x 49,x 50,x 51,x 52,x 53,x 54,x 55,x 56,x 57,x 58,x 59,x 60,x 61,x 62,x 63,x 64,x 65,x 66,x 67,x 68,x 69,x 70,x 71,x 72,x 73,x 74,x 75,x 76,x 77,x 78,x 79,x 80,x 81,x 82,x 83,x 84,x 85,x 86,x 87,x 88,x 89,x 90,x 91,x 92,x 93,x 94,x 95,x 96,x 97,x 98,x 99,x 100,x 101,x 102,x 103,x 104,x 105,x 106,x 107,x 108,x 109,x 110,x 111,x 112,x 113,x 114,x 115,x 116,x 117,x 118,x 119,x 120,x 121,x 122,x 123,x 124,x 125,x 126,x 127,x 128,x 129,x 130,x 131,x 132,x 133,x 134,x 135,x 136,x 137,x 138,x 139,x 140,x 141,x 142,x 143,x 144,x 145,x 146,x 147,x 148,x 149,x 150,x 151] from rfl];simp only[q4,Try.f4,Option.getD_some,sL,sR,sB,sT,sF,h0,h5,h11,h12,h16,h17]
 go_wp2
 go_loopw [16,17] (fun sv iv wr=>∃ j:Nat,j≤n∧sv=.int .i64 (Go.ConcN.sumTo j (turnsOf xs):Nat)∧iv=.int .i64 j∧Keeps [] w wr) (fun _ iv _=>n-(intOf iv).toNat)
 case atStart=>exact⟨0,Nat.zero_le _,rfl,rfl,Keeps.refl _ _⟩
 case round =>
  obtain⟨j,hj,rfl,rfl,hkp⟩:=hrel;have HK:=Lib.hid hkp;have hS:Go.ConcN.sumTo j (turnsOf xs)≤5*j:=by
   have h:=sumTo_mono (f:=turnsOf xs) (g:=fun _=>0+5) (n:=j) fun i _=>by have:=turns_le xs i;omega
   rw[sumTo_plus (f:=fun _=>0) (c:=5),sumTo_zero] at h;omega
  clear hkp;by_cases hlt:j<n
  ·have hc:=HX.out wr HK.out j hlt
   have hal:=turns_le xs j;obtain⟨u,hu⟩:∃ u,u=xs.getD j 0:=⟨_,rfl⟩;have hmu:(wrap64 (u.tmod 5+5)).tmod 5=(turnsOf xs j:Int):=by
    have hm1:-5<u.tmod 5∧u.tmod 5<5:=⟨Int.lt_tmod_of_pos _ (by decide),Int.tmod_lt_of_pos _ (by decide)⟩;rw[IntWalk.wrap64_in _ (by omega),hu];exact turns_eq xs j
   rw[← hu] at hc;clear hu
   go_wp2
   go_roundw
   case rel=>exact⟨j+1,by omega,rfl,by go_num,HK.out⟩
   case measure=>simp[intOf];omega
  ·obtain rfl:j=n:=by omega
   go_wp2
   refine HQ.out _ _ ?_;rw[← HG.out];exact lQ_mk rfl ⟨rfl,rfl,rfl,rfl⟩ HK.out
theorem ff6 (w:World)(x:Nat→Value)(fx mb N ca ch:Nat)(ga gh:Option Addr)(by0 as0:Int)(hf:Blk w fx [ptr mb] 39)(hm:Blk w mb [.bool true,.int .i64 by0,.int .i64 as0,.int .i64 as0] 88)(h5:x 5=ptr fx)(h11:x 11=.slice ga N ca)(h12:x 12=.slice gh N ch)(h16:x 16=.int .i64 (N:Nat)) :
  (sL (sL (sR (sR (sR (sR (sR (sR (sR (sR (sR (sR (sR (sR q4)))))))))))))).wp Try.prog (fun e a' w'=>e=.normal∧a'.defers=[]∧lQ 152 (fun x=>x 11=.slice ga N ca∧x 12=.slice gh N ch∧x 16=.int .i64 (N:Nat)∧x 136=.bool false) w a'.tmps w') ⟨fg 152 x,[]⟩ w:=by
 have HQ:Hid (∀ (t:Array Value) (w':World),lQ 152 (fun x=>x 11=.slice ga N ca∧x 12=.slice gh N ch∧x 16=.int .i64 (N:Nat)∧x 136=.bool false) w t w'→lQ 152 (fun x=>x 11=.slice ga N ca∧x 12=.slice gh N ch∧x 16=.int .i64 (N:Nat)∧x 136=.bool false) w t w'):=Lib.hid fun _ _ h=>h;generalize hG:lQ 152 (fun x=>x 11=.slice ga N ca∧x 12=.slice gh N ch∧x 16=.int .i64 (N:Nat)∧x 136=.bool false) w=G at HQ ⊢;have HG:=Lib.hid hG;clear hG;rw[show fg 152 x=#[x 0,x 1,x 2,x 3,x 4,x 5,x 6,x 7,x 8,x 9,x 10,x 11,x 12,x 13,x 14,x 15,x 16,x 17,x 18,x 19,x 20,x 21,x 22,x 23,x 24,x 25,x 26,x 27,x 28,x 29,x 30,x 31,x 32,x 33,x 34,x 35,x 36,x 37,x 38,x 39,x 40,x 41,x 42,x 43,x 44,x 45,x 46,x 47,x 48,x 49,x 50,x 51,x 52,x 53,x 54,x 55,x 56,x 57,x 58,x 59,x 60,x 61,x 62,x 63,x 64,x 65,x 66,x 67,x 68,x 69,x 70,x 71,x 72,x 73,x 74,x 75,x 76,x 77,x 78,x 79,x 80,x 81,x 82,x 83,x 84,x 85,x 86,x 87,x 88,x 89,x 90,x 91,x 92,x 93,x 94,x 95,x 96,x 97,x 98,x 99,x 100,x 101,x 102,x 103,x 104,x 105,x 106,x 107,x 108,x 109,x 110,x 111,x 112,x 113,x 114,x 115,x 116,x 117,x 118,x 119,x 120,x 121,x 122,x 123,x 124,x 125,x 126,x 127,x 128,x 129,x 130,x 131,x 132,x 133,x 134,x 135,x 136,x 137,x 138,x 139,x 140,x 141,x 142,x 143,x 144,x 145,x 146,x 147,x 148,x 149,x 150,x 151] from rfl];simp only[q4,Try.f4,Option.getD_some,sL,sR,sB,sT,sF,h5,h11,h12,h16];have HW:=Lib.hid (waiting_calls w mb hm);have e0:wrap64 (as0-as0)=0:=by unfold wrap64;omega
 rw[e0] at HW;have c0:=hf.cell 0;clear hf hm e0
 go_wp2_with (go_at_call 17;refine(HW.out).mono ?_;rintro e w' ⟨rfl,hk⟩)
 refine HQ.out _ _ ?_;rw[← HG.out];exact lQ_mk rfl ⟨rfl,rfl,rfl,rfl⟩ hk
theorem ff7 (w:World)(x:Nat→Value)(N ca ch:Nat)(ga gh:Option Addr)(l:List Nat)(hN:l.length=N)(h2:N<1000)(hx:∀ (j u:Nat),l[j]?=some u→∃ b o b' o',ga=some ⟨b,o,none⟩∧gh=some ⟨b',o',none⟩∧w.cell? ⟨b,o+j,none⟩=some (.int .i64 (u:Nat))∧w.cell? ⟨b',o'+j,none⟩=some (.int .i64 (u:Nat)))(h11:x 11=.slice ga N ca)(h12:x 12=.slice gh N ch)(h16:x 16=.int .i64 (N:Nat))(h18:x 18=.int .i64 0) :
  (sR (sL (sR (sR (sR (sR (sR (sR (sR (sR (sR (sR (sR (sR (sR q4))))))))))))))).wp Try.prog (fun e a' w'=>e=.normal∧a'.defers=[]∧lQ 152 (fun x=>x 11=.slice ga N ca∧x 12=.slice gh N ch) w a'.tmps w') ⟨fg 152 x,[]⟩ w:=by
 have HQ:Hid (∀ (t:Array Value) (w':World),lQ 152 (fun x=>x 11=.slice ga N ca∧x 12=.slice gh N ch) w t w'→lQ 152 (fun x=>x 11=.slice ga N ca∧x 12=.slice gh N ch) w t w'):=Lib.hid fun _ _ h=>h;generalize hG:lQ 152 (fun x=>x 11=.slice ga N ca∧x 12=.slice gh N ch) w=G at HQ ⊢;have HG:=Lib.hid hG;clear hG;have HX:=Lib.hid (fun(W:World) (q:Keeps [] w W) (j u:Nat) (hj:l[j]?=some u)=>(show ∃ b o b' o',ga=some ⟨b,o,none⟩∧gh=some ⟨b',o',none⟩∧W.cell? ⟨b,o+j,none⟩=some (.int .i64 (u:Nat))∧W.cell? ⟨b',o'+j,none⟩=some (.int .i64 (u:Nat)) by
  obtain⟨b,o,b',o',e1,e2,c1,c2⟩:=hx j u hj;exact⟨b,o,b',o',e1,e2,(Keeps.kp q).cells _ _ _ c1,(Keeps.kp q).cells _ _ _ c2⟩))
 clear hx;rw[show fg 152 x=#[x 0,x 1,x 2,x 3,x 4,x 5,x 6,x 7,x 8,x 9,x 10,x 11,x 12,x 13,x 14,x 15,x 16,x 17,x 18,x 19,x 20,x 21,x 22,x 23,x 24,x 25,x 26,x 27,x 28,x 29,x 30,x 31,x 32,x 33,x 34,x 35,x 36,x 37,x 38,x 39,x 40,x 41,x 42,x 43,x 44,x 45,x 46,x 47,x 48,x 49,x 50,x 51,x 52,x 53,x 54,x 55,x 56,x 57,x 58,x 59,x 60,x 61,x 62,x 63,x 64,x 65,x 66,x 67,x 68,x 69,x 70,x 71,x 72,x 73,x 74,x 75,x 76,x 77,x 78,x 79,x 80,x 81,x 82,x 83,x 84,x 85,x 86,x 87,x 88,x 89,x 90,x 91,x 92,x 93,x 94,x 95,x 96,x 97,x 98,x 99,x 100,x 101,x 102,x 103,x 104,x 105,x 106,x 107,x 108,x 109,x 110,x 111,x 112,x 113,x 114,x 115,x 116,x 117,x 118,x 119,x 120,x 121,x 122,x 123,x 124,x 125,x 126,x 127,x 128,x 129,x 130,x 131,x 132,x 133,x 134,x 135,x 136,x 137,x 138,x 139,x 140,x 141,x 142,x 143,x 144,x 145,x 146,x 147,x 148,x 149,x 150,x 151] from rfl];simp only[q4,Try.f4,Option.getD_some,sL,sR,sB,sT,sF,h11,h12,h16,h18]
 go_wp2
 go_loopw [18] (fun iv wr=>∃ j:Nat,j≤N∧iv=.int .i64 j∧Keeps [] w wr) (fun iv _=>N-(intOf iv).toNat)
 case atStart=>exact⟨0,Nat.zero_le _,rfl,Keeps.refl _ _⟩
 case round =>
  obtain⟨j,hj,rfl,hkp⟩:=hrel;have HK:=Lib.hid hkp;clear hkp;by_cases hlt:j<N
  ·obtain⟨u,hu⟩:∃ u,l[j]?=some u:=⟨_,List.getElem?_eq_getElem (by omega)⟩
   obtain⟨b,o,b',o',e1,e2,c1,c2⟩:=HX.out wr HK.out j u hu;subst e1 e2;clear hu
   go_wp2
   go_quiet (fail)
   go_wp2
   go_roundw
   case rel=>exact⟨j+1,by omega,by go_num,HK.out.drewN _⟩
   case measure=>simp[intOf];omega
  ·obtain rfl:j=N:=by omega
   go_wp2
   refine HQ.out _ _ ?_;rw[← HG.out];exact lQ_mk rfl ⟨rfl,rfl⟩ HK.out
end Go.Proofs.Ytgapgmigmlideaa.Lift
namespace Go.Proofs.Ytgapgmigmlideaa.Z
open Go Go.Conc Go.ChangeShapes Go.WideShapes Go.ChangeAt Go.RowKit Go.Deep Lift
theorem laidOut:laidOutB Try.prog=true:=by kernel_rfl
theorem bulk_pos {H:Type}(d:DataW H):0<Rows.uptoBulk d:=by
 cases d<;>try (simp[Rows.uptoBulk];done)
 rename_i l;cases l<;>simp[Rows.uptoBulk]
theorem bulk_len {H:Type}:∀ l:List (DataW H),l.length≤Rows.uptoBulkAll l
 | []=>Nat.zero_le _
 | d::l=>by
  have ih:=bulk_len l;have hd:=bulk_pos d;rw[Rows.uptoBulkAll,List.length_cons];omega
theorem bulk_of {H:Type}{l:List (DataW H)}(hk:Rows.uptoSmall H l=true):Rows.uptoBulkAll l≤1048576:=by
 unfold Rows.uptoSmall at hk;exact of_decide_eq_true hk
theorem cell_spot {w:World}{a:Addr}{v:Value}(h:w.cell? a=some v):a=⟨a.block,a.off,none⟩:=by
 obtain⟨b,o,s⟩:=a;unfold World.cell? at h;split at h
 ·cases s with
  | none=>rfl
  | some x=>simp at h
 ·cases h
theorem cell_row {w:World}{a:Addr}{v:Value}(h:w.cell? a=some v):∃ c t fz,w.heap[a.block]?=some (.cells c t fz):=by
 unfold World.cell? at h;cases e:w.heap[a.block]? with
 | none=>simp[e] at h
 | some x =>
  cases x<;>simp[e] at h
  exact⟨_,_,_,rfl⟩
theorem add_at (b o j:Nat):(⟨b,o,none⟩:Addr).add j=⟨b,o+j,none⟩:=by unfold Addr.add;split<;>simp_all
theorem spot_of {w:World}{a:Addr}{n:Nat}{cs:List Value}(h:w.cells? 0 (a.add (0*n)) n=some cs)(hn:0<n):a.spot=none:=by
 obtain⟨_,hl,hat⟩:=World.cells?_some h;have h0:=hat 0 hn;rw[Nat.zero_mul,show ∀ a:Addr,a.add 0=a from fun a=>if_pos rfl,show ∀ a:Addr,a.add 0=a from fun a=>if_pos rfl,List.getElem?_eq_getElem (by omega)] at h0;exact congrArg Addr.spot (cell_spot h0)
theorem list_of {α:Type}{p:Nat→α→Prop}:∀ n,(∀ i,i<n→∃ x,p i x)→∃ l:List α,l.length=n∧∀ i x,l[i]?=some x→p i x
 | 0,_=>⟨[],rfl,fun i x h=>by simp at h⟩
 | n+1,h=>by
  obtain⟨l,hl,hp⟩:=list_of n (fun i hi=>h i (by omega));obtain⟨x,hx⟩:=h n (by omega);refine⟨l++[x],by simp[hl],fun i y hy=>?_⟩;by_cases hi:i<n
  ·rw[List.getElem?_append_left (by omega)] at hy;exact hp i y hy
  ·rw[List.getElem?_append_right (by omega),hl] at hy
   by_cases he:i=n
   ·subst he;simp at hy;subst hy;exact hx
   ·rw[List.getElem?_eq_none (by simp;omega)] at hy;cases hy
def SlOk (w:World)(g:Option Addr)(n cap:Nat):Prop:=∀ a,g=some a→(∃ c t fz,w.heap[a.block]?=some (.cells c t fz))∨n=0∧cap=0
theorem cells5:Try.prog.cellsOf 5=1:=by kernel_rfl
theorem cells3:Try.prog.cellsOf 3=1:=by kernel_rfl
def IntsIn (w:World)(vp:Value)(xs:List Int):Prop:=∃ g c,vp=.slice g xs.length c∧SlOk w g xs.length c∧∀ (j:Nat) (u:Int),xs[j]?=some u→∃ b o,g=some ⟨b,o,none⟩∧w.cell? ⟨b,o+j,none⟩=some (.int .i64 u)
section
variable {H:Type}{enc:TypeId × Value→H}{w:World}{held:Bool}{fuel:Nat}{cs:List Value}{x:DataW H × List MemPlace}
structure BytesIn (w:World)(vp:Value)(xs:List Nat):Prop where
 sl:∃ g c,vp=.slice g xs.length c∧xs.length≤c∧c≤maxLen∧SlOk w g xs.length c∧∀ (j u:Nat),xs[j]?=some u→∃ b o,g=some ⟨b,o,none⟩∧w.cell? ⟨b,o+j,none⟩=some (.int .u8 u)
 byte:∀ u∈xs,u<256
theorem open_bytes (h:DataW.trod enc Try.prog w 0 (fun _=>true) held fuel 23 cs=some x) :
  ∃ (vp:Value) (xs:List Nat),cs=[vp]∧BytesIn w vp xs∧xs.length+1≤Rows.uptoBulk x.1:=by
 rcases open_slice Try.underlying23 h with⟨rfl,rfl⟩ | ⟨a,len,cap,m,n,D,Pl,rfl,_,hle,hmx,hm,rfl,hi⟩
 ·exact⟨_,[],rfl,⟨⟨none,0,rfl,Nat.le_refl _,Nat.zero_le _,fun a ha=>by (cases ha),fun j u hj=>by simp at hj⟩,fun u hu=>by simp at hu⟩,by simp[Rows.uptoBulk]⟩
 ·rw[if_pos rfl] at hm
  subst hm;rw[cells5] at hi;have hcell:∀ i,i<m→∃ u:Nat,a.spot=none∧w.cell? ⟨a.block,a.off+i,none⟩=some (.int .u8 u)∧u<256:=by
   intro i hlt;obtain⟨cs',hc,hd⟩:=hi i hlt;obtain⟨_,hcl,hat⟩:=World.cells?_some hc;obtain⟨v,rfl,_,hw⟩:=DataW.trod_int Try.underlying5 hd;have h0:=hat 0 (by omega);have hs:a.spot=none:=spot_of (hi 0 (by omega)).choose_spec.1 (by omega);obtain⟨b,o,s⟩:=a;simp only at hs;subst hs;rw[add_at,add_at,Nat.mul_one,Nat.add_zero] at h0;have hr:0≤v∧v<256:=by
    simp[Lit.wf,IntKind.min,IntKind.max,IntKind.bits,IntKind.signed] at hw;omega
   refine⟨v.toNat,rfl,?_,by omega⟩;rw[Int.toNat_of_nonneg hr.1];exact h0
  obtain⟨xs,hl,hxs⟩:=list_of (α:=Nat) len fun i hlt=>hcell i (by omega);refine⟨_,xs,rfl,⟨⟨some a,m,by rw[hl],by omega,hmx,fun a' ha=>?_,fun j u hj=>?_⟩,fun u hu=>?_⟩,?_⟩
  ·cases ha
   by_cases h0:m=0
   ·exact .inr ⟨by omega,h0⟩
   ·obtain⟨_,_,h2,_⟩:=hcell 0 (by omega)
    exact .inl (cell_row (a:=⟨a.block,_,none⟩) h2)
  ·obtain⟨h1,h2,_⟩:=hxs j u hj
   obtain⟨b,o,s⟩:=a;simp only at h1;subst h1;exact⟨b,o,rfl,h2⟩
  ·obtain⟨j,hj⟩:=List.getElem?_of_mem hu
   exact(hxs j u hj).2.2
  ·have:=bulk_len ((List.range len).map D)
   show _+1≤Rows.uptoBulk (.slice _ _);simp only[Rows.uptoBulk];simp only[List.length_map,List.length_range] at this;omega
theorem open_ints (h:DataW.trod enc Try.prog w 0 (fun _=>true) held fuel 22 cs=some x):∃ (vp:Value) (xs:List Int),cs=[vp]∧IntsIn w vp xs:=by
 rcases open_slice Try.underlying22 h with⟨rfl,rfl⟩ | ⟨a,len,cap,m,n,D,Pl,rfl,_,hle,hmx,hm,rfl,hi⟩
 ·exact⟨_,[],rfl,none,0,rfl,fun a ha=>(by cases ha),fun j u hj=>by simp at hj⟩
 ·rw[if_pos rfl] at hm
  subst hm;rw[cells3] at hi;have hcell:∀ i,i<m→∃ u:Int,a.spot=none∧w.cell? ⟨a.block,a.off+i,none⟩=some (.int .i64 u):=by
   intro i hlt;obtain⟨cs',hc,hd⟩:=hi i hlt;obtain⟨_,hcl,hat⟩:=World.cells?_some hc;obtain⟨v,rfl,_,hw⟩:=DataW.trod_int Try.underlying3 hd;have h0:=hat 0 (by omega);have hs:a.spot=none:=spot_of (hi 0 (by omega)).choose_spec.1 (by omega);obtain⟨b,o,s⟩:=a;simp only at hs;subst hs;rw[add_at,add_at,Nat.mul_one,Nat.add_zero] at h0;exact⟨v,rfl,h0⟩
  obtain⟨xs,hl,hxs⟩:=list_of (α:=Int) len fun i hlt=>hcell i (by omega);refine⟨_,xs,rfl,some a,m,by rw[hl],fun a' ha=>?_,fun j u hj=>?_⟩
  ·cases ha
   by_cases h0:m=0
   ·exact .inr ⟨by omega,h0⟩
   ·obtain⟨_,_,h2⟩:=hcell 0 (by omega)
    exact .inl (cell_row (a:=⟨a.block,_,none⟩) h2)
  ·obtain⟨h1,h2⟩:=hxs j u hj
   obtain⟨b,o,s⟩:=a;simp only at h1;subst h1;exact⟨b,o,rfl,h2⟩
end
theorem post_true3 {H:Type}{enc:TypeId × Value→H}{f:Func}{s:ChangeSpec}{t0 t1 t2:TypeId}{W W':World}{v0 v1 v2:Value}{d0 d1 d2:DataW H}{p0 p1 p2:List MemPlace}(hs:s.vars=[])(hp:f.params.toList=[t0,t1,t2])(hr:f.resultTypes=#[4])
  (hd:∀ a b c,s.fn H [a,b,c]={results:=[.lit (.bool true)],args:=[a,b,c]}) (ht0:Try.prog.readableRec t0=true) (hrow0:t0<Try.prog.types.size) (ht1:Try.prog.readableRec t1=true) (hrow1:t1<Try.prog.types.size) (ht2:Try.prog.readableRec t2=true) (hrow2:t2<Try.prog.types.size)
  (hW:DataW.Whole enc Try.prog f.params.toList s.vars false W [v0,v1,v2] [d0,d1,d2] [] (p0++(p1++p2))) (h0:DataW.Trod enc Try.prog W 0 (fun _=>true) true t0 v0 d0 p0) (h1:DataW.Trod enc Try.prog W 0 (fun _=>true) true t1 v1 d1 p1) (h2:DataW.Trod enc Try.prog W 0 (fun _=>true) true t2 v2 d2 p2) (hb:Below W.heap.size W W') :
  s.post enc Try.prog f false true false false W #[v0,v1,v2] (.bool true) W':=by
 have hlt:=fun x hx=>hW.lt x hx;refine⟨[d0,d1,d2],[],p0++(p1++p2),[],p0++(p1++p2),[],hW,?_,?_,?_,hb.frame _,fun h=>by cases h⟩
 ·rw[hr,List.append_nil,hd]
  exact trodAll_mk1 (shut_bool Try.underlying4 _)
 ·rw[hp,List.append_nil,hd]
  exact trodAll_mk3 (Below.trod laidOut ht0 hrow0 h0 hb fun x hx=>hlt x (by simp[hx])) (Below.trod laidOut ht1 hrow1 h1 hb fun x hx=>hlt x (by simp[hx])) (Below.trod laidOut ht2 hrow2 h2 hb fun x hx=>hlt x (by simp[hx]))
 ·rw[hs,List.append_nil,hd]
  rfl
theorem post_true {H:Type}{enc:TypeId × Value→H}{f:Func}{s:ChangeSpec}{t:TypeId}{W W':World}{v0:Value}{d0:DataW H}{before:List MemPlace}(hs:s.vars=[])(hp:f.params.toList=[t])(hr:f.resultTypes=#[4])
  (hd:∀ d,s.fn H [d]={results:=[.lit (.bool true)],args:=[d]}) (ht:Try.prog.readableRec t=true) (hrow:t<Try.prog.types.size)
  (hW:DataW.Whole enc Try.prog f.params.toList s.vars false W [v0] [d0] [] before) (h0:DataW.Trod enc Try.prog W 0 (fun _=>true) true t v0 d0 before) (hb:Below W.heap.size W W') :
  s.post enc Try.prog f false true false false W #[v0] (.bool true) W':=by
 refine⟨[d0],[],before,[],before,[],hW,?_,?_,?_,hb.frame _,fun h=>by cases h⟩
 ·rw[hr,List.append_nil,hd]
  exact trodAll_mk1 (shut_bool Try.underlying4 _)
 ·rw[hp,List.append_nil,hd]
  exact trodAll_mk1 (Below.trod laidOut ht hrow h0 hb fun x hx=>hW.lt x hx)
 ·rw[hs,List.append_nil,hd]
  rfl
end Go.Proofs.Ytgapgmigmlideaa.Z
namespace Go.Proofs.Ytgapgmigmlideaa.Lift
open Go Go.Conc Go.RowKit Pl
open Z (SlOk BytesIn IntsIn)
theorem slOk_rel {W:World}{g:Option Addr}{n c:Nat}(h:SlOk W g n c):VRel (seenR W) (.slice g n c) (.slice g n c):=by
 cases g with
 | none=>exact .flat rfl
 | some a =>
  rcases h a rfl with e | ⟨rfl,rfl⟩
  ·obtain⟨b,o,s⟩:=a
   exact .slice (seenR_in e)
  ·exact .void
theorem start_idle (W:World):Idle (SC.start W):=⟨fun _=>rfl,fun _=>rfl,Nat.one_pos⟩
theorem bytes_rel {W:World}{vp:Value}{picks:List Nat}(B:BytesIn W vp picks):VRel (seenR W) vp vp:=by
 obtain⟨g,c,rfl,_,_,h,_⟩:=B.sl;exact slOk_rel h
theorem some_heap:Try.prog.globals.size<(begin Try.prog (fun _ _=>0) default).world.heap.size:=of_decide_eq_true (by kernel_rfl)
theorem own:ownKnob Try.prog.godebug=none:=by kernel_rfl
def Rd {α:Type}(f:α→Value)(w:World)(v:Value)(xs:List α):Prop :=
 ∃ g c,v=.slice g xs.length c∧(xs≠[]→∃ b o,g=some ⟨b,o,none⟩∧∀ (j:Nat) (u:α),xs[j]?=some u→w.cell? ⟨b,o+j,none⟩=some (f u))
theorem bytes_seen {W:World}{vp:Value}{picks:List Nat}(B:BytesIn W vp picks)(h0:0<W.heap.size):∃ pb,pb<(seenW W).heap.size∧Bytes pb (seenW W) vp picks:=by
 obtain⟨g,c,rfl,h1,h2,_,hc⟩:=B.sl;by_cases hne:picks=[]
 ·subst hne
  exact⟨0,by rw[seenW_size];exact h0,g,c,rfl,h1,h2,B.byte,fun h=>absurd rfl h⟩
 ·obtain⟨u,l,e⟩:=List.exists_cons_of_ne_nil hne
  obtain⟨b,o,hg,h⟩:=hc 0 u (by rw[e];rfl);obtain⟨_,_,_,hh⟩:=cell_isC h;refine⟨b,by rw[seenW_size];exact(aq' hh).1,g,c,rfl,h1,h2,B.byte,fun _=>⟨o,hg,fun j u hj=>?_⟩⟩;obtain⟨b',o',hg',h'⟩:=hc j u hj;rw[hg] at hg';cases hg';exact seenW_cell h' (.flat rfl)
theorem ints_seen {W:World}{vp:Value}{xs:List Int}(B:IntsIn W vp xs):Rd (fun x:Int=>Value.int .i64 x) (seenW W) vp xs:=by
 obtain⟨g,c,rfl,_,hc⟩:=B;refine⟨g,c,rfl,fun hne=>?_⟩;obtain⟨u,l,e⟩:=List.exists_cons_of_ne_nil hne;obtain⟨b,o,hg,h⟩:=hc 0 u (by rw[e];rfl);refine⟨b,o,hg,fun j u hj=>?_⟩;obtain⟨b',o',hg',h'⟩:=hc j u hj;rw[hg] at hg';cases hg';exact seenW_cell h' (.flat rfl)
theorem ints_rel {W:World}{vp:Value}{xs:List Int}(B:IntsIn W vp xs):VRel (seenR W) vp vp:=by
 obtain⟨g,c,rfl,h,_⟩:=B;exact slOk_rel h
theorem leaving_plain {H:Type}{enc:TypeId × Value→H}{a:Assume}{C:Checked}{os:Os}{f:FuncId}{fn:Func}{s:ChangeSpec}{conds:List PathCond}{apart fresh handsOn again:Bool}
  (own:ownKnob C.prog.godebug=none) (started:os.Started) (hfn:C.prog.funcs[f]?=some fn) (hne:C.prog.globals.size<(begin C.prog (fun _ _=>0) default).world.heap.size)
  (witness:∃ (w:World) (tape:Tape) (i:Input),w.os=os∧(w.forCall tape i).Shaped C.prog∧i.vars=[]∧Input.okWide C.prog (w.forCall tape i) .any w.heap.size f i ∧
   s.pre6 enc C.prog fn conds apart (w.forCall tape i).memory i.args∧a.holds C.prog (lone (Frame.enter C.prog f i.args .normal) [] (w.forCall tape i)))
  (runs:∀ (W:World) (base:Nat) (args:Array Value) (ds gs:List (DataW H)) (before:List MemPlace),
   (∀ (j:Nat) t v,fn.params[j]?=some t→args[j]?=some v→Value.okWide C.prog W .any base t v) →
   DataW.Whole enc C.prog fn.params.toList s.vars apart W args.toList ds gs before→0<W.heap.size →
   ∃ M last o w' t',runNT C.prog (M+1) (solo (G (Frame.enter C.prog f args .normal) []) W) #[]=(.ended o w',t')∧runN C.prog M (solo (G (Frame.enter C.prog f args .normal) []) W)=.next last ∧
    step C.prog last=.ended o w'∧Go.Conc.Good C.prog (fun v W'=>s.post enc C.prog fn apart fresh handsOn again W args v W') last o w' t') :
  ReturnsInLeavingWide a C os f .any (s.pre6 enc C.prog fn conds apart) (s.post enc C.prog fn apart fresh handsOn again):=by
 refine returnsInLeavingWide_of_good own started witness ?_;intro w tape i _ hsh _ hok hpre _;have h0:0<(w.forCall tape i).heap.size:=by
  obtain⟨o,_,ho,_⟩:=hsh.2 _ (Nat.le_refl _) hne;have:=(aq' ho).1;omega
 obtain⟨_,_,_,fn',hfn',_,_,_,_,hval⟩:=hok;have e:fn'=fn:=oj' (hfn'.symm.trans hfn);subst e;obtain⟨⟨ds,gs,before,hw,hc⟩,hz⟩:=hpre;have hw':=DataW.Whole.of_heap (w':=w.forCall tape i) (by rfl) hw;obtain⟨M,last,o,w',t',h1,h2,h3,h4⟩:=runs (w.forCall tape i) w.heap.size i.args ds gs before hval hw' h0;exact⟨M,last,o,w',t',h1,h2,h3,h4.mono fun v hp=>ChangeSpec.post_blind hp⟩
end Go.Proofs.Ytgapgmigmlideaa.Lift
namespace Go.Proofs.Ytgapgmigmlideaa.Lift
open Go Go.Conc Go.RowKit Pl
theorem al_25:∀ w:World,(Instr.alloc 25 true (.tuple #[])).run Try.prog w=.ok (ptr w.heap.size) (w.alloc (.cells #[.pointer none] 25)):=fun w=>by
 simp[go_sem,Try.underlying25,Try.runUnderlying25,Try.sizeOf25,Try.isAgg25,Try.zeroValue25]
theorem s_25 {w:World}{a:Addr}{x:Value}{y:Option Addr}(hc:w.cell? a=some x)(hf:w.frozen? a=false):(Instr.storeAt 25 (.pointer (some a)) (.pointer y)).run Try.prog w=.ok () (w.setCell a (.pointer y)):=by simp[go_sem,hc,hf,Try.underlying25,Try.runUnderlying25,Try.sizeOf25,Try.isAgg25]
theorem w_mul3 {a:Act}{oo:Oper}{w:World}{x y:Operand}{i j:Int}(h:oo.op=.binOp .mul 3 x y 3)(hx:a.eval x=.int .i64 i)(hy:a.eval y=.int .i64 j):(execOp a.eval oo).run Try.prog w=.ok (.value (.int .i64 (wrap64 (i*j)))) w:=by
 unfold execOp;rw[h];simp only[hx,hy];exact run_vv (by simp[go_sem,Try.underlying3,Try.runUnderlying3,IntKind.wrap_i64,wrap64])
theorem w_eql3 {a:Act}{oo:Oper}{w:World}{x y:Operand}{i j:Int}(h:oo.op=.binOp .eql 3 x y 3)(hx:a.eval x=.int .i64 i)(hy:a.eval y=.int .i64 j):(execOp a.eval oo).run Try.prog w=.ok (.value (.bool (decide (i=j)))) w:=by
 unfold execOp;rw[h];simp only[hx,hy];exact run_vv (by simp[go_sem,Try.underlying3,Try.runUnderlying3]<;>rfl)
theorem cells_law {Post:Value→World→Prop}{S:SC}{fr:Int}{xs:List Int}{vt vp:Value}{picks:List Nat}(hid:Idle S)(hT:Rd (fun x:Int=>Value.int .i64 x) S.w vt xs)(hP:∃ pb,pb<S.w.heap.size∧Bytes pb S.w vp picks)(hpost:∀ W,Go.RowKit.Below S.n0 S.W0 W→Post (.bool true) W):Sound Try.prog link.tWg Post 0 S (gs (Frame.enter Try.prog 3 #[.int .i64 fr,vt,vp] .normal) []):=by
 have hk:(base 3).kind≠.early:=nofun;obtain⟨gt,ct,rfl,hx⟩:=hT;obtain⟨pb,hpb,hpk⟩:=hP;obtain⟨gp,cp,rfl,_⟩:=id hpk;have SI:=hid;have hK:=clS (Post:=Post) S;refine ks (S:=S) ?_ rfl;have hD:=hK.det;obtain⟨w,hw⟩:∃ w,w=S.w:=⟨_,rfl⟩;rw[← hw] at hx hpb hpk ⊢;have kk:Kp [] w w:=⟨Nat.le_refl _,fun _ _ _=>rfl⟩;rw[show(#[.int .i64 fr,.slice gt xs.length ct,.slice gp picks.length cp]:Array Value)=[.int .i64 fr,.slice gt xs.length ct,.slice gp picks.length cp].toArray from rfl,enter_fg (n:=82) (c:=q3) Try.func3 rfl rfl rfl];refine hD.s0 ?_;refine hD.r0 ?_;refine hD.as (.bool false) hk ?_;refine nm rfl ?_;refine hD.e0 ?_;refine hD.s0 ?_;refine hD.s0 ?_;refine hK.seg fits shut (b:=base 3) ⟨_,Try.func3⟩ nofun (c:=(sL (sL (sR q3)))) (by decide +kernel) (Q:=lQ 82 (fun x=>x 0=.int .i64 fr∧x 1=.slice gt xs.length ct∧x 2=.slice gp picks.length cp∧x 34=.bool (decide (xs.length<1∨8<xs.length∨65536<picks.length∨1099511627776<fr∨fr < -1099511627776))) w) (fun t w' τ d h=>lQ_re h τ d) (fun τ d=>Code.wp_mono (fun e a w' ⟨h1,h2,h3⟩=>⟨h1,h2,lQ_un h3⟩) (lc1 (re w τ d) _ fr gt gp xs.length ct picks.length cp rfl rfl rfl)) fun t w1 ⟨x',ex',⟨g0,g1,g2,g34⟩,ksw1⟩=>?_;subst ex';rw[allK.self (x:=x') (l:=[(0,.int .i64 fr),(1,.slice gt xs.length ct),(2,.slice gp picks.length cp),(34,.bool (decide (xs.length<1∨8<xs.length∨65536<picks.length∨1099511627776<fr∨fr < -1099511627776)))]) ⟨g0,g1,g2,g34,trivial⟩];have kk:=kk.trans ksw1;by_cases hbad:xs.length<1∨8<xs.length∨65536<picks.length∨1099511627776<fr∨fr < -1099511627776
 ·refine hD.cond (n:=0) true (show Value.bool (decide (xs.length<1∨8<xs.length∨65536<picks.length∨1099511627776<fr∨fr < -1099511627776))=_ by rw[decide_eq_true hbad]) rfl ?_
  refine hD.s0 ?_;refine hD.r0 ?_;refine hD.cf #[] hk Try.func7 ?_;show Sound Try.prog link.tWg Post 0 { S with w:=w1} _;refine works_runs (S:={S with w:=w1}) ⟨SI.roles,SI.grps,SI.pos⟩ rfl fun S7 S7I n7 z7 k7=>?_;have kk:=kk.trans k7;have hK:=clS (Post:=Post) S7;refine ks (S:=S7) ?_ rfl;have hD:=hK.det;obtain⟨w70,hw70⟩:∃ w,w=S7.w:=⟨_,rfl⟩;rw[← hw70] at kk ⊢;have ksw70:Kp [] w1 w70:=by rw[hw70];exact k7
  refine fin_at (Kn:=fun _=>KS Try.prog link.tWg Post 0 S7) (n:=0) (dst:=some 35) rfl rfl ?_;refine nm rfl ?_;refine hD.as (.bool true) hk ?_;refine nm rfl ?_;refine hD.e0 ?_;refine hD.ret (n:=0) ?_;exact sound_true (S:={S7 with w:=w70}) ⟨S7I.roles,S7I.grps,S7I.pos⟩ Try.func3 (by decide +kernel) rfl rfl (fun W hB=>hpost W (by rw[n7,z7] at hB;exact hB))
 ·refine hD.cond (n:=0) false (show Value.bool (decide (xs.length<1∨8<xs.length∨65536<picks.length∨1099511627776<fr∨fr < -1099511627776))=_ by rw[decide_eq_false hbad]) rfl ?_
  refine hD.k0 ?_;refine hD.s0 ?_;refine hD.r0 ?_;refine hD.mv (.int .i64 fr) hk ?_;refine nm rfl ?_;refine hD.cf #[.int .i64 fr] hk Try.func8 ?_;refine call_new hK (f:=8) rfl (fun w=>cell_new w fr) fun w2 nw2 hnw2 ksw2 bw2=>?_;have genw2:w.heap.size≤nw2:=by rw[hnw2];exact kk.size
  have kk:=kk.trans ksw2;refine fin_at (Kn:=fun _=>KS Try.prog link.tWg Post 0 S) (n:=0) (dst:=some 37) rfl rfl ?_;refine nm rfl ?_;refine hD.alloc (n:=0) (ob:=.cells #[.pointer none] 25) hk rfl ⟨rfl,rfl,rfl,(by decide +kernel),nofun⟩ al_25 ?_;obtain⟨w3,hsw3⟩:∃ z,z=w2.alloc (.cells #[.pointer none] 25):=⟨_,rfl⟩;obtain⟨nw3,hnw3⟩:∃ z,z=w2.heap.size:=⟨_,rfl⟩;have ksw3:Kp [] w2 w3:=by rw[hsw3];exact Kp.alloc [] _ _
  have bw3:Blk w3 nw3 [.pointer none] 25:=by rw[hsw3,hnw3];exact Blk.new _ _ _
  rw[← hsw3,← hnw3];clear hsw3;have genw3:w.heap.size≤nw3:=by rw[hnw3];exact kk.size
  have bw2':=ksw3.blk bw2 (by simp);have kk:=kk.trans ksw3;refine nm rfl ?_;refine hD.store (n:=0) (u:=(ptr nw3)) (z:=(ptr nw2)) hk rfl ⟨rfl,rfl,rfl,rfl,nofun⟩ rfl rfl (fun τ d=>((s_25 (w:=re w3 τ d) (bw3.cell 0) (bw3.frozen 0)).trans (congrArg (Result.ok ()) re_setCell))) (Nat.le_of_eq (World.size_setCell _ _ _).symm) ?_;obtain⟨w4,hsw4⟩:∃ z,z=w3.setCell ⟨nw3,0,none⟩ (ptr nw2):=⟨_,rfl⟩;have ksw4:Kp [nw3] w3 w4:=by rw[hsw4];exact⟨Nat.le_of_eq (World.size_setCell _ _ _).symm,fun c hc hn=>setCell_frame (by simpa using hn)⟩
  have bw4:Blk w4 nw3 [ptr nw2] 25:=by rw[hsw4];exact bw3.set 0 _
  rw[← hsw4];clear hsw4;have bw2'':=ksw4.blk bw2' (by simpa using (cel_ne (Blk.cel bw2') (Blk.cel bw3) (by decide)));have kk:=kk.new ksw4 (by simpa using genw3);refine hD.e0 ?_;refine hD.s0 ?_;refine hD.r0 ?_;refine hD.as (.int .i64 0) hk ?_;refine nm rfl ?_;refine hD.e0 ?_;refine hD.s0 ?_;refine hD.r0 ?_;refine hD.as (.slice none 0 0) hk ?_;refine nm rfl ?_;refine hD.e0 ?_;refine hD.s0 ?_;refine hD.s0 ?_;refine hD.r0 ?_;refine hD.as (.int .i64 0) hk ?_;refine nm rfl ?_;refine hD.e0 ?_;obtain⟨n,hn⟩:∃ n,n=xs.length:=⟨_,rfl⟩;rw[← hn] at hbad;have hx1:∀ (j:Nat) (u:Int),xs[j]?=some u→∃ b o,gt=some ⟨b,o,none⟩∧w4.cell? ⟨b,o+j,none⟩=some (.int .i64 u):=fun j u hj=>by
   obtain⟨b,o,h1,h2⟩:=hx (by rintro rfl;simp at hj);exact⟨b,o,h1,kk.cells _ _ _ (h2 j u hj)⟩
  have hge5:w.heap.size≤w4.heap.size:=kk.size;refine hK.seg fits shut (b:=base 3) ⟨_,Try.func3⟩ nofun (c:=(sR (sL (sR (sR (sR (sR (sR q3)))))))) (by decide +kernel) (Q:=lcQ fr gt xs.length ct gp picks.length cp nw3 xs w4) (fun t w' τ d ⟨x,bs,v,h1,h2,h3,h4⟩=>⟨x,bs,v,h1,h2,⟨h3.len,h3.rep,h3.fresh,h3.made⟩,⟨h4.size,h4.block⟩⟩) (fun τ d=>Code.wp_mono (fun e a w' ⟨h1,h2,x,bs,v,h3,h4,h5,h6⟩=>⟨h1,h2,x,bs,v,h3,h4,⟨h5.len,h5.rep,h5.fresh,h5.made⟩,⟨h6.size,h6.block⟩⟩) (lc2 (re w4 τ d) _ fr gt gp xs.length ct picks.length cp nw3 xs rfl (by omega) hx1 (by omega) rfl rfl rfl rfl rfl rfl rfl)) fun t w5 ⟨x',bs,v,ex',⟨g0,g1,g2,g7,g8,g9⟩,hB,ksw5⟩=>?_;subst ex';rw[← hn] at hB g8;obtain⟨N,hN⟩:∃ N,N=Go.ConcN.sumTo n (addsOf xs):=⟨_,rfl⟩;rw[← hN] at g8;rw[allK.self (x:=x') (l:=[(0,.int .i64 fr),(1,.slice gt xs.length ct),(2,.slice gp picks.length cp),(7,ptr nw3),(8,.int .i64 (N:Int)),(9,v)]) ⟨g0,g1,g2,g7,g8,g9,trivial⟩];have bw2''':=ksw5.blk bw2'' (by simp);have bw4':=ksw5.blk bw4 (by simp);have kk:=kk.trans ksw5;refine hD.s0 ?_;refine hD.r0 ?_;refine hD.mv v hk ?_;refine nm rfl ?_;refine hD.mv (.slice gp picks.length cp) hk ?_;refine nm rfl ?_;refine hD.mv (.int .i64 (N:Int)) hk ?_;refine nm rfl ?_;refine hD.pu (.int .i64 (wrap64 ((4:Int)*(N:Int)))) hk (fun w=>w_mul3 rfl rfl rfl) ?_;refine nm rfl ?_;refine hD.mv (.int .i64 (N:Int)) hk ?_;refine nm rfl ?_;refine hD.pu (.int .i64 (wrap64 ((wrap64 ((4:Int)*(N:Int)))*(N:Int)))) hk (fun w=>w_mul3 rfl rfl rfl) ?_;refine nm rfl ?_;refine hD.pu (.int .i64 (wrap64 ((wrap64 ((wrap64 ((4:Int)*(N:Int)))*(N:Int)))+100))) hk (fun w=>w_add3 rfl rfl rfl) ?_;refine nm rfl ?_;refine hD.cf #[v,.slice gp picks.length cp,.int .i64 (wrap64 ((wrap64 ((wrap64 ((4:Int)*(N:Int)))*(N:Int)))+100))] hk Try.func12 ?_;have hN40:N≤40:=by
   have h:=sumTo_mono (f:=addsOf xs) (g:=fun _=>0+5) (n:=n) fun i _=>by have:=adds_le xs i;omega
   rw[sumTo_plus,← hN] at h;have h0:∀ n,Go.ConcN.sumTo n (fun _=>0)=0:=fun n=>by
    induction n with
    | zero=>rfl
    | succ n ih=>show Go.ConcN.sumTo n _+0=0;rw[ih]
   rw[h0] at h;omega
  have hsq:N*N≤1600:=Nat.mul_le_mul hN40 hN40;have hsq':4*(N:Int)*(N:Int)=((4*(N*N):Nat):Int):=by rw[Int.natCast_mul,Int.natCast_mul,Int.mul_assoc];rfl
  have hmost:wrap64 (wrap64 (wrap64 (4*(N:Int))*(N:Int))+100)=((4*N*N+100:Nat):Int):=by
   rw[IntWalk.wrap64_in (4*(N:Int)) (by omega),hsq',IntWalk.wrap64_in ((4*(N*N):Nat):Int) (by omega),IntWalk.wrap64_in _ (by omega),Nat.mul_assoc];omega
  rw[hmost];have hn0:0<n:=by omega
  have hn8:n≤8:=by omega
  obtain⟨fb,c0,ev,hfl,_⟩:=hB.rep.ex (by rw[List.length_map,hB.len];exact hn0);rw[List.length_map,hB.len] at ev;subst ev;obtain⟨kx,hkx⟩:∃ kx:Nat→Nat,kx=fun i=>bs.getD i 0:=⟨_,rfl⟩;have hkxb:∀ i,i<n→bs[i]?=some (kx i):=fun i hi=>by
   rw[hkx];have:i<bs.length:=by rw[hB.len];exact hi
   show bs[i]?=some (bs.getD i 0);rw[List.getD_eq_getElem?_getD,List.getElem?_eq_getElem this];rfl
  have hkm:∀ i,i<n→w4.heap.size≤kx i∧Blk w5 (kx i) [.int .i64 (addsOf xs i:Int)] 3:=fun i hi=>by
   obtain⟨h1,_,h3⟩:=hB.made i _ (hkxb i hi);exact⟨h1,h3⟩
  have hpk5:Bytes pb w5 (.slice gp picks.length cp) picks:=hpk.same (kk.block pb hpb (by simp));have hfv:∀ j,j<n→w5.cell? ⟨fb,0+j,none⟩=some (.func (.func 9) #[] #[ptr (kx j),ptr nw3]):=fun j hj=>by
   rw[Nat.zero_add];exact hB.rep.cell1 (u:=fun x:Value=>x) (fun _=>rfl) j _ (by rw[List.getElem?_map,hkxb j hj];rfl)
  have hXg:∀ b,(b=nw3∨b=nw2∨∃ i,i<n∧b=kx i)→w.heap.size≤b:=fun b hb=>by
   rcases hb with rfl | rfl | ⟨i,hi,rfl⟩
   ·exact genw3
   ·exact genw2
   ·have:=(hkm i hi).1;omega
  have hXl:∀ b,(b=nw3∨b=nw2∨∃ i,i<n∧b=kx i)→b<w5.heap.size:=fun b hb=>by
   rcases hb with rfl | rfl | ⟨i,hi,rfl⟩
   ·exact bw4'.lt
   ·exact bw2'''.lt
   ·exact(hkm i hi).2.lt
  obtain⟨r1,r2⟩:=ce_run (n:=n) (k:=addsOf xs) (from':=fr) (B:=(⟨fun _ _ _ _=>True,fun _ _ _=>True,ceGo (addsOf xs),fun _ _ _=>true,fun _=>True⟩:Bods CeL Int)) (fun i _=>adds_le xs i) hn8 (by omega) rfl (fun _ _ _=>rfl) picks;rw[← hN] at r1 r2;obtain⟨y,hy⟩:∃ y,y=(cePlan n kx nw3 nw2 (addsOf xs)).run n ((4*N*N+100:Nat):Int) fr picks:=⟨_,rfl⟩;have hy':y=runF (⟨fun _ _ _ _=>True,fun _ _ _=>True,ceGo (addsOf xs),fun _ _ _=>true,fun _=>True⟩:Bods CeL Int) n (fun a=>a) (4*N*N+100) ⟨fun _=>.fresh,fr,[],picks⟩:=hy;rw[← hy'] at r1 r2;clear hy';show Sound Try.prog link.tWg Post 0 { S with w:=w5} _;refine run_plan (S:={S with w:=w5}) (p:=cePlan n kx nw3 nw2 (addsOf xs)) (n:=n) (c0:=c0) (most:=((4*N*N+100:Nat):Int)) (picks:=picks) (X:=fun b=>b=nw3∨b=nw2∨∃ i,i<n∧b=kx i) (a0:=fr) (fb:=fb) (fo:=0) (pb:=pb) (fn:=fun _=>9) (cap:=fun i=>#[ptr (kx i),ptr nw3])
   (fun C h0 h1 h2=>ce_ok h0 (fun i _=>adds_le xs i) (fun i _=>by rw[h1]) (fun i _=>by rw[h2])) (fun h hb hs=>CeM.frame h hb) ⟨SI.roles,SI.grps,SI.pos⟩ hn0 hn8 rfl hfl hfv hpk5 (nl' hpb kk.size) (fun h=>by have:=hXg pb h;omega) (by omega) (by omega) (by rw[Nat.mul_assoc];omega)
   ⟨fun _=>Iff.rfl,fun i hi=>(hkm i hi).2,bw4',⟨0,bw2'''⟩,fun i l rv e=>by cases e⟩ hXl fun S6 ga ca ge ne ce R=>?_
  rw[← hy] at R ⊢;obtain⟨st',X',hm,_,_⟩:=R.mem;have c1:=hm.cx;obtain⟨m6,c2⟩:=hm.cb;rw[r2] at c2;have hdn:donesE n y.st=List.replicate n true:=by
   refine List.ext_getElem (by simp[donesE]) fun i h1 h2=>?_;have hi:i<n:=by simpa[donesE] using h1
   simp[donesE,r1 i hi,isDoneE]
  rw[hdn,codeM_done];have S6I:=R.idle;have hK:=clS (Post:=Post) S6;refine ks (S:=S6) ?_ rfl;have hD:=hK.det;obtain⟨w6,hw6⟩:∃ w,w=S6.w:=⟨_,rfl⟩;rw[← hw6] at c1 c2 ⊢;have kk:Kp [] w w6:=by
   rw[hw6];exact R.kp (w:=w) kk hXg
  refine fin_at (Kn:=fun _=>KS Try.prog link.tWg Post 0 S6) (n:=0) (dst:=some 66) rfl rfl ?_;refine nm rfl ?_;refine hD.mv (.tuple #[.agg #[.slice ga y.acts.length ca,.slice ge ne ce,.int .i64 (picks.length-y.left.length:Nat)],.int .i64 0]) hk ?_;refine nm rfl ?_;refine hD.pu (.agg #[.slice ga y.acts.length ca,.slice ge ne ce,.int .i64 (picks.length-y.left.length:Nat)]) hk (fun w=>pu_ext rfl rfl rfl) ?_;refine nm rfl ?_;refine hD.pu (.int .i64 0) hk (fun w=>pu_ext rfl rfl rfl) ?_;refine nm rfl ?_;refine hD.alloc (n:=0) (ob:=.cells #[.slice none 0 0,.slice none 0 0,.int .i64 0] 34) hk rfl ⟨rfl,rfl,rfl,(by decide +kernel),nofun⟩ al_34 ?_;obtain⟨w61,hsw61⟩:∃ z,z=w6.alloc (.cells #[.slice none 0 0,.slice none 0 0,.int .i64 0] 34):=⟨_,rfl⟩;obtain⟨nw61,hnw61⟩:∃ z,z=w6.heap.size:=⟨_,rfl⟩;have ksw61:Kp [] w6 w61:=by rw[hsw61];exact Kp.alloc [] _ _
  have bw61:Blk w61 nw61 [.slice none 0 0,.slice none 0 0,.int .i64 0] 34:=by rw[hsw61,hnw61];exact Blk.new _ _ _
  rw[← hsw61,← hnw61];clear hsw61;have genw61:w.heap.size≤nw61:=by rw[hnw61];exact kk.size
  have c1':=ksw61.blk c1 (by simp);have c2':=ksw61.blk c2 (by simp);have kk:=kk.trans ksw61;refine nm rfl ?_;refine hD.store (n:=0) (u:=(ptr nw61)) (z:=(.agg #[.slice ga y.acts.length ca,.slice ge ne ce,.int .i64 (picks.length-y.left.length:Nat)])) hk rfl ⟨rfl,rfl,rfl,rfl,nofun⟩ rfl rfl (fun τ d=>((st30 (w:=re w61 τ d) bw61).trans (congrArg (Result.ok ()) re_set3))) (Nat.le_of_eq set3_size.symm) ?_;obtain⟨w62,hsw62⟩:∃ z,z=set3 w61 nw61 (.slice ga y.acts.length ca) (.slice ge ne ce) (.int .i64 (picks.length-y.left.length:Nat)):=⟨_,rfl⟩;have ksw62:Kp [nw61] w61 w62:=by rw[hsw62];exact⟨Nat.le_of_eq set3_size.symm,fun c hc hn=>set3_frame (by simpa using hn)⟩
  have bw62:Blk w62 nw61 [.slice ga y.acts.length ca,.slice ge ne ce,.int .i64 (picks.length-y.left.length:Nat)] 34:=by rw[hsw62];exact set3_blk bw61
  rw[← hsw62];clear hsw62;have c1'':=ksw62.blk c1' (by simpa using (cel_ne (Blk.cel c1') (Blk.cel bw61) (by decide)));have c2'':=ksw62.blk c2' (by simpa using (cel_ne (Blk.cel c2') (Blk.cel bw61) (by decide)));have kk:=kk.new ksw62 (by simpa using genw61);refine hD.as (.int .i64 0) hk ?_;refine nm rfl ?_;refine hD.e0 ?_;refine hD.s0 ?_;refine hD.r0 ?_;refine hD.mv (.int .i64 0) hk ?_;refine nm rfl ?_;refine hD.pu (.bool true) hk (fun w=>w_eql35 (i:=0) (j:=0) rfl rfl rfl) ?_;refine nm rfl ?_;refine hD.mv (.bool true) hk ?_;refine nm rfl ?_;refine hD.gv (n:=0) (v:=(ptr nw2)) hk rfl rfl rfl (by decide +kernel) nofun (fun τ d=>ex_load rfl rfl (l_25 (c1''.cell 0))) ?_;refine nm rfl ?_;refine hD.entg (n:=0) hk rfl rfl (by decide +kernel) nofun (fun τ d=>x_call rfl rfl Try.func10 rfl rfl rfl) ?_;refine cell_load_nil hK rfl c2'' fun w7 k7 hcb7=>?_;have c1''':=k7.blk c1'' (by simpa using (cel_ne (Blk.cel c1'') (Blk.cel c2'') (by decide)));have bw62':=k7.blk bw62 (by simpa using (cel_ne (Blk.cel bw62) (Blk.cel c2'') (by decide)));have kk:=kk.new k7 (by simpa using genw2);refine fin_at (Kn:=fun _=>KS Try.prog link.tWg Post 0 S6) (n:=0) (dst:=some 73) rfl rfl ?_;refine nm rfl ?_;refine hD.gv (n:=0) (v:=(.int .i64 fr)) hk rfl rfl rfl (by decide +kernel) nofun (fun τ d=>ex_move rfl rfl) ?_;refine nm rfl ?_;refine hD.gv (n:=0) (v:=(.int .i64 (N:Int))) hk rfl rfl rfl (by decide +kernel) nofun (fun τ d=>ex_move rfl rfl) ?_;refine nm rfl ?_;refine hD.gv (n:=0) (v:=(.int .i64 (wrap64 (fr+(N:Int))))) hk rfl rfl rfl (by decide +kernel) nofun (fun τ d=>w_add3 rfl rfl rfl) ?_;refine nm rfl ?_;refine hD.gv (n:=0) (v:=(.bool true)) hk rfl rfl rfl (by decide +kernel) nofun (fun τ d=>(w_eql3 rfl rfl rfl).trans (by rw[decide_eq_true (show fr+(N:Int)=wrap64 (fr+(N:Int)) from(IntWalk.wrap64_in _ (by omega)).symm)])) ?_;refine nm rfl ?_;refine hD.pu (.bool true) hk (fun w=>pu_pick (t:=true) rfl rfl rfl) ?_;refine nm rfl ?_;refine hD.mv (.bool true) hk ?_;refine nm rfl ?_;refine hD.entg (n:=0) hk rfl rfl (by decide +kernel) nofun (fun τ d=>x_call rfl rfl Try.func7 rfl rfl rfl) ?_;show Sound Try.prog link.tWg Post 0 { S6 with w:=w7} _;refine works_runs (S:={S6 with w:=w7}) ⟨S6I.roles,S6I.grps,S6I.pos⟩ rfl fun S8 S8I n8 z8 k8=>?_;have kk:=kk.trans k8;have hK:=clS (Post:=Post) S8;refine ks (S:=S8) ?_ rfl;have hD:=hK.det;obtain⟨w80,hw80⟩:∃ w,w=S8.w:=⟨_,rfl⟩;rw[← hw80] at kk ⊢;have ksw80:Kp [] w7 w80:=by rw[hw80];exact k8
  have c1'''':=ksw80.blk c1''' (by simp);have hcb7':=ksw80.blk hcb7 (by simp);have bw62'':=ksw80.blk bw62' (by simp);refine fin_at (Kn:=fun _=>KS Try.prog link.tWg Post 0 S8) (n:=0) (dst:=some 80) rfl rfl ?_;refine nm rfl ?_;refine hD.pu (.bool true) hk (fun w=>pu_pick (t:=true) rfl rfl rfl) ?_;refine nm rfl ?_;refine hD.as (.bool true) hk ?_;refine nm rfl ?_;refine hD.e0 ?_;refine hD.ret (n:=0) ?_;exact sound_true (S:={S8 with w:=w80}) ⟨S8I.roles,S8I.grps,S8I.pos⟩ Try.func3 (by decide +kernel) rfl rfl (fun W hB=>hpost W (by rw[n8,z8] at hB;exact(R.n0▸R.W0▸hB)))
theorem w_neq35z {a:Act}{oo:Oper}{w:World}{x y:Operand}(h:oo.op=.binOp .neq 35 x y 35)(hx:a.eval x=.int .i64 0)(hy:a.eval y=.int .i64 0):(execOp a.eval oo).run Try.prog w=.ok (.value (.bool false)) w:=by
 unfold execOp;rw[h];simp only[hx,hy];exact run_vv (by simp[go_sem,Try.underlying35,Try.runUnderlying35])
theorem fair_law {Post:Value→World→Prop}{S:SC}{xs:List Int}{vt vp:Value}{picks:List Nat}(hid:Idle S)(hT:Rd (fun x:Int=>Value.int .i64 x) S.w vt xs)(hP:∃ pb,pb<S.w.heap.size∧Bytes pb S.w vp picks)(hpost:∀ W,Go.RowKit.Below S.n0 S.W0 W→Post (.bool true) W):Sound Try.prog link.tWg Post 0 S (gs (Frame.enter Try.prog 4 #[vt,vp] .normal) []):=by
 have hk:(base 4).kind≠.early:=nofun;obtain⟨gt,ct,rfl,hx⟩:=hT;obtain⟨pb,hpb,hpk⟩:=hP;obtain⟨gp,cp,rfl,_⟩:=id hpk;have SI:=hid;have hK:=clS (Post:=Post) S;refine ks (S:=S) ?_ rfl;have hD:=hK.det;obtain⟨w,hw⟩:∃ w,w=S.w:=⟨_,rfl⟩;rw[← hw] at hx hpb hpk ⊢;have kk:Kp [] w w:=⟨Nat.le_refl _,fun _ _ _=>rfl⟩;rw[show(#[.slice gt xs.length ct,.slice gp picks.length cp]:Array Value)=[.slice gt xs.length ct,.slice gp picks.length cp].toArray from rfl,enter_fg (n:=152) (c:=q4) Try.func4 rfl rfl rfl];refine hD.s0 ?_;refine hD.r0 ?_;refine hD.as (.bool false) hk ?_;refine nm rfl ?_;refine hD.e0 ?_;refine hD.s0 ?_;refine hD.s0 ?_;refine hK.seg fits shut (b:=base 4) ⟨_,Try.func4⟩ nofun (c:=(sL (sL (sR q4)))) (by decide +kernel) (Q:=lQ 152 (fun x=>x 0=.slice gt xs.length ct∧x 1=.slice gp picks.length cp∧x 31=.bool (decide (xs.length<1∨8<xs.length∨65536<picks.length))) w) (fun t w' τ d h=>lQ_re h τ d) (fun τ d=>Code.wp_mono (fun e a w' ⟨h1,h2,h3⟩=>⟨h1,h2,lQ_un h3⟩) (ff1 (re w τ d) _ gt gp xs.length ct picks.length cp rfl rfl)) fun t w1 ⟨x',ex',⟨g0,g1,g31⟩,ksw1⟩=>?_;subst ex';rw[allK.self (x:=x') (l:=[(0,.slice gt xs.length ct),(1,.slice gp picks.length cp),(31,.bool (decide (xs.length<1∨8<xs.length∨65536<picks.length)))]) ⟨g0,g1,g31,trivial⟩];have kk:=kk.trans ksw1;by_cases hbad:xs.length<1∨8<xs.length∨65536<picks.length
 ·refine hD.cond (n:=0) true (show Value.bool (decide (xs.length<1∨8<xs.length∨65536<picks.length))=_ by rw[decide_eq_true hbad]) rfl ?_
  refine hD.s0 ?_;refine hD.r0 ?_;refine hD.cf #[] hk Try.func7 ?_;show Sound Try.prog link.tWg Post 0 { S with w:=w1} _;refine works_runs (S:={S with w:=w1}) ⟨SI.roles,SI.grps,SI.pos⟩ rfl fun S7 S7I n7 z7 k7=>?_;have kk:=kk.trans k7;have hK:=clS (Post:=Post) S7;refine ks (S:=S7) ?_ rfl;have hD:=hK.det;obtain⟨w70,hw70⟩:∃ w,w=S7.w:=⟨_,rfl⟩;rw[← hw70] at kk ⊢;have ksw70:Kp [] w1 w70:=by rw[hw70];exact k7
  refine fin_at (Kn:=fun _=>KS Try.prog link.tWg Post 0 S7) (n:=0) (dst:=some 32) rfl rfl ?_;refine nm rfl ?_;refine hD.as (.bool true) hk ?_;refine nm rfl ?_;refine hD.e0 ?_;refine hD.ret (n:=0) ?_;exact sound_true (S:={S7 with w:=w70}) ⟨S7I.roles,S7I.grps,S7I.pos⟩ Try.func4 (by decide +kernel) rfl rfl (fun W hB=>hpost W (by rw[n7,z7] at hB;exact hB))
 ·refine hD.cond (n:=0) false (show Value.bool (decide (xs.length<1∨8<xs.length∨65536<picks.length))=_ by rw[decide_eq_false hbad]) rfl ?_
  refine hD.k0 ?_;refine hD.s0 ?_;refine hD.r0 ?_;refine hD.cf #[] hk Try.func13 ?_;refine call_new hK (f:=13) rfl (fun w=>fair_new w) fun w2 nw2 hnw2 ksw2 bw2=>?_;have genw2:w.heap.size≤nw2:=by rw[hnw2];exact kk.size
  have kk:=kk.trans ksw2;refine fin_at (Kn:=fun _=>KS Try.prog link.tWg Post 0 S) (n:=0) (dst:=some 33) rfl rfl ?_;refine nm rfl ?_;refine hD.alloc (n:=0) (ob:=.cells #[.pointer none] 39) hk rfl ⟨rfl,rfl,rfl,(by decide +kernel),nofun⟩ al_39 ?_;obtain⟨w3,hsw3⟩:∃ z,z=w2.alloc (.cells #[.pointer none] 39):=⟨_,rfl⟩;obtain⟨nw3,hnw3⟩:∃ z,z=w2.heap.size:=⟨_,rfl⟩;have ksw3:Kp [] w2 w3:=by rw[hsw3];exact Kp.alloc [] _ _
  have bw3:Blk w3 nw3 [.pointer none] 39:=by rw[hsw3,hnw3];exact Blk.new _ _ _
  rw[← hsw3,← hnw3];clear hsw3;have genw3:w.heap.size≤nw3:=by rw[hnw3];exact kk.size
  have bw2':=ksw3.blk bw2 (by simp);have kk:=kk.trans ksw3;refine nm rfl ?_;refine hD.store (n:=0) (u:=(ptr nw3)) (z:=(ptr nw2)) hk rfl ⟨rfl,rfl,rfl,rfl,nofun⟩ rfl rfl (fun τ d=>((s_39 (w:=re w3 τ d) (bw3.cell 0) (bw3.frozen 0)).trans (congrArg (Result.ok ()) re_setCell))) (Nat.le_of_eq (World.size_setCell _ _ _).symm) ?_;obtain⟨w4,hsw4⟩:∃ z,z=w3.setCell ⟨nw3,0,none⟩ (ptr nw2):=⟨_,rfl⟩;have ksw4:Kp [nw3] w3 w4:=by rw[hsw4];exact⟨Nat.le_of_eq (World.size_setCell _ _ _).symm,fun c hc hn=>setCell_frame (by simpa using hn)⟩
  have bw4:Blk w4 nw3 [ptr nw2] 39:=by rw[hsw4];exact bw3.set 0 _
  rw[← hsw4];clear hsw4;have bw2'':=ksw4.blk bw2' (by simpa using (cel_ne (Blk.cel bw2') (Blk.cel bw3) (by decide)));have kk:=kk.new ksw4 (by simpa using genw3);refine hD.e0 ?_;refine hD.s0 ?_;refine hD.r0 ?_;refine hD.as (.slice none 0 0) hk ?_;refine nm rfl ?_;refine hD.e0 ?_;refine hD.s0 ?_;refine hD.s0 ?_;refine hD.r0 ?_;refine hD.as (.int .i64 0) hk ?_;refine nm rfl ?_;refine hD.e0 ?_;obtain⟨n,hn⟩:∃ n,n=xs.length:=⟨_,rfl⟩;rw[← hn] at hbad;have hx1:∀ (j:Nat) (u:Int),xs[j]?=some u→∃ b o,gt=some ⟨b,o,none⟩∧w4.cell? ⟨b,o+j,none⟩=some (.int .i64 u):=fun j u hj=>by
   obtain⟨b,o,h1,h2⟩:=hx (by rintro rfl;simp at hj);exact⟨b,o,h1,kk.cells _ _ _ (h2 j u hj)⟩
  have hge5:w.heap.size≤w4.heap.size:=kk.size;refine hK.seg fits shut (b:=base 4) ⟨_,Try.func4⟩ nofun (c:=(sR (sL (sR (sR (sR (sR q4))))))) (by decide +kernel) (Q:=ffQ gt xs.length ct gp picks.length cp nw3 xs w4) (fun t w' τ d ⟨x,bs,v,h1,h2,h3,h4⟩=>⟨x,bs,v,h1,h2,⟨h3.len,h3.rep,h3.fresh,h3.made⟩,⟨h4.size,h4.block⟩⟩) (fun τ d=>Code.wp_mono (fun e a w' ⟨h1,h2,x,bs,v,h3,h4,h5,h6⟩=>⟨h1,h2,x,bs,v,h3,h4,⟨h5.len,h5.rep,h5.fresh,h5.made⟩,⟨h6.size,h6.block⟩⟩) (ff2 (re w4 τ d) _ gt gp xs.length ct picks.length cp nw3 xs rfl (by omega) hx1 (by omega) rfl rfl rfl rfl rfl)) fun t w5 ⟨x',bs,v,ex',⟨g0,g1,g5,g6⟩,hB,ksw5⟩=>?_;subst ex';rw[← hn] at hB;rw[allK.self (x:=x') (l:=[(0,.slice gt xs.length ct),(1,.slice gp picks.length cp),(5,ptr nw3),(6,v)]) ⟨g0,g1,g5,g6,trivial⟩];have bw2''':=ksw5.blk bw2'' (by simp);have bw4':=ksw5.blk bw4 (by simp);have kk:=kk.trans ksw5;refine hD.s0 ?_;refine hD.r0 ?_;refine hD.mv v hk ?_;refine nm rfl ?_;refine hD.mv (.slice gp picks.length cp) hk ?_;refine nm rfl ?_;refine hD.cf #[v,.slice gp picks.length cp,.int .i64 200] hk Try.func12 ?_;have hn0:0<n:=by omega
  have hn8:n≤8:=by omega
  obtain⟨fb,c0,ev,hfl,_⟩:=hB.rep.ex (by rw[List.length_map,hB.len];exact hn0);rw[List.length_map,hB.len] at ev;subst ev;obtain⟨kx,hkx⟩:∃ kx:Nat→Nat,kx=fun i=>bs.getD i 0:=⟨_,rfl⟩;have hkxb:∀ i,i<n→bs[i]?=some (kx i):=fun i hi=>by
   rw[hkx];have:i<bs.length:=by rw[hB.len];exact hi
   show bs[i]?=some (bs.getD i 0);rw[List.getD_eq_getElem?_getD,List.getElem?_eq_getElem this];rfl
  have hkm:∀ i,i<n→w4.heap.size≤kx i∧Blk w5 (kx i) [.int .i64 (turnsOf xs i:Int)] 3:=fun i hi=>by
   obtain⟨h1,_,h3⟩:=hB.made i _ (hkxb i hi);exact⟨h1,h3⟩
  have hpk5:Bytes pb w5 (.slice gp picks.length cp) picks:=hpk.same (kk.block pb hpb (by simp));have hfv:∀ j,j<n→w5.cell? ⟨fb,0+j,none⟩=some (.func (.func 14) #[] #[ptr (kx j),ptr nw3]):=fun j hj=>by
   rw[Nat.zero_add];exact hB.rep.cell1 (u:=fun x:Value=>x) (fun _=>rfl) j _ (by rw[List.getElem?_map,hkxb j hj];rfl)
  have hXg:∀ b,(b=nw3∨b=nw2∨∃ i,i<n∧b=kx i)→w.heap.size≤b:=fun b hb=>by
   rcases hb with rfl | rfl | ⟨i,hi,rfl⟩
   ·exact genw3
   ·exact genw2
   ·have:=(hkm i hi).1;omega
  have hXl:∀ b,(b=nw3∨b=nw2∨∃ i,i<n∧b=kx i)→b<w5.heap.size:=fun b hb=>by
   rcases hb with rfl | rfl | ⟨i,hi,rfl⟩
   ·exact bw4'.lt
   ·exact bw2'''.lt
   ·exact(hkm i hi).2.lt
  obtain⟨y,hy⟩:∃ y,y=(faPlan n kx nw3 nw2 (turnsOf xs)).run n (200:Int) ⟨-1,[],[]⟩ picks:=⟨_,rfl⟩;obtain⟨r1,r2,r3,r4,r5,r6,r7⟩:=fa_run (n:=n) (k:=turnsOf xs) (B:=(⟨fun _ _ _ _=>True,fun _ _ _=>True,faGo (turnsOf xs),faRdy,fun _=>True⟩:Bods FaL FaA)) (fun i _=>turns_le xs i) hn8 rfl rfl picks y hy;show Sound Try.prog link.tWg Post 0 { S with w:=w5} _;refine run_plan (S:={S with w:=w5}) (p:=faPlan n kx nw3 nw2 (turnsOf xs)) (n:=n) (c0:=c0) (most:=200) (picks:=picks) (X:=fun b=>b=nw3∨b=nw2∨∃ i,i<n∧b=kx i) (a0:=⟨-1,[],[]⟩) (fb:=fb) (fo:=0) (pb:=pb) (fn:=fun _=>14) (cap:=fun i=>#[ptr (kx i),ptr nw3])
   (fun C h0 h1 h2=>fa_ok h0 (fun i _=>turns_le xs i) (fun i _=>by rw[h1]) (fun i _=>by rw[h2])) (fun h hb hs=>FaM.frame h hb hs) ⟨SI.roles,SI.grps,SI.pos⟩ hn0 hn8 rfl hfl hfv hpk5 (nl' hpb kk.size) (fun h=>by have:=hXg pb h;omega) (by omega) (by decide) (by decide)
   ⟨hXl,fun i hi=>.inr (.inr ⟨i,hi,rfl⟩),.inl rfl,.inr (.inl rfl),fun i hi=>(hkm i hi).2,bw4',(by show Blk w5 nw2 [.bool true,.int .i64 (-1),.int .i64 (wrap64 0),.int .i64 (wrap64 0)] 88;rw[show wrap64 0=0 by unfold wrap64;omega];exact bw2'''),fun i l g rv e=>by cases e⟩ hXl fun S6 ga ca ge ne ce R=>?_
  rw[← hy] at R ⊢;obtain⟨st',X',hm,_,_⟩:=R.mem;have c1:=hm.cf;have c2:=hm.cm;have hra:=R.acts;have hdn:donesE n y.st=List.replicate n true:=by
   refine List.ext_getElem (by simp[donesE]) fun i h1 h2=>?_;have hi:i<n:=by simpa[donesE] using h1
   simp[donesE,r1 i hi,isDoneE]
  rw[hdn,codeM_done];have S6I:=R.idle;have hK:=clS (Post:=Post) S6;refine ks (S:=S6) ?_ rfl;have hD:=hK.det;obtain⟨w6,hw6⟩:∃ w,w=S6.w:=⟨_,rfl⟩;rw[← hw6] at c1 c2 hra ⊢;have kk:Kp [] w w6:=by
   rw[hw6];exact R.kp (w:=w) kk hXg
  unfold faCells at c2;rw[r2] at c2;have k6:Kp [] w6 w6:=⟨Nat.le_refl _,fun _ _ _=>rfl⟩;refine fin_at (Kn:=fun _=>KS Try.prog link.tWg Post 0 S6) (n:=0) (dst:=some 54) rfl rfl ?_;refine nm rfl ?_;refine hD.mv (.tuple #[.agg #[.slice ga y.acts.length ca,.slice ge ne ce,.int .i64 (picks.length-y.left.length:Nat)],.int .i64 0]) hk ?_;refine nm rfl ?_;refine hD.pu (.agg #[.slice ga y.acts.length ca,.slice ge ne ce,.int .i64 (picks.length-y.left.length:Nat)]) hk (fun w=>pu_ext rfl rfl rfl) ?_;refine nm rfl ?_;refine hD.pu (.int .i64 0) hk (fun w=>pu_ext rfl rfl rfl) ?_;refine nm rfl ?_;refine hD.alloc (n:=0) (ob:=.cells #[.slice none 0 0,.slice none 0 0,.int .i64 0] 34) hk rfl ⟨rfl,rfl,rfl,(by decide +kernel),nofun⟩ al_34 ?_;obtain⟨w61,hsw61⟩:∃ z,z=w6.alloc (.cells #[.slice none 0 0,.slice none 0 0,.int .i64 0] 34):=⟨_,rfl⟩;obtain⟨nw61,hnw61⟩:∃ z,z=w6.heap.size:=⟨_,rfl⟩;have ksw61:Kp [] w6 w61:=by rw[hsw61];exact Kp.alloc [] _ _
  have bw61:Blk w61 nw61 [.slice none 0 0,.slice none 0 0,.int .i64 0] 34:=by rw[hsw61,hnw61];exact Blk.new _ _ _
  rw[← hsw61,← hnw61];clear hsw61;have genw61:w.heap.size≤nw61:=by rw[hnw61];exact kk.size
  have g6nw61:w6.heap.size≤nw61:=by rw[hnw61];exact k6.size
  have c1':=ksw61.blk c1 (by simp);have c2':=ksw61.blk c2 (by simp);have kk:=kk.trans ksw61;have k6:=k6.trans ksw61;refine nm rfl ?_;refine hD.store (n:=0) (u:=(ptr nw61)) (z:=(.agg #[.slice ga y.acts.length ca,.slice ge ne ce,.int .i64 (picks.length-y.left.length:Nat)])) hk rfl ⟨rfl,rfl,rfl,rfl,nofun⟩ rfl rfl (fun τ d=>((st30 (w:=re w61 τ d) bw61).trans (congrArg (Result.ok ()) re_set3))) (Nat.le_of_eq set3_size.symm) ?_;obtain⟨w62,hsw62⟩:∃ z,z=set3 w61 nw61 (.slice ga y.acts.length ca) (.slice ge ne ce) (.int .i64 (picks.length-y.left.length:Nat)):=⟨_,rfl⟩;have ksw62:Kp [nw61] w61 w62:=by rw[hsw62];exact⟨Nat.le_of_eq set3_size.symm,fun c hc hn=>set3_frame (by simpa using hn)⟩
  have bw62:Blk w62 nw61 [.slice ga y.acts.length ca,.slice ge ne ce,.int .i64 (picks.length-y.left.length:Nat)] 34:=by rw[hsw62];exact set3_blk bw61
  rw[← hsw62];clear hsw62;have c1'':=ksw62.blk c1' (by simpa using (cel_ne (Blk.cel c1') (Blk.cel bw61) (by decide)));have c2'':=ksw62.blk c2' (by simpa using (cel_ne (Blk.cel c2') (Blk.cel bw61) (by decide)));have kk:=kk.new ksw62 (by simpa using genw61);have k6:=k6.new ksw62 (by simpa using g6nw61);refine hD.as (.int .i64 0) hk ?_;refine nm rfl ?_;refine hD.e0 ?_;refine hD.s0 ?_;refine hD.s0 ?_;refine hD.r0 ?_;refine hD.mv (.int .i64 0) hk ?_;refine nm rfl ?_;refine hD.pu (.bool false) hk (fun w=>w_neq35z rfl rfl rfl) ?_;refine nm rfl ?_;refine hD.e0 ?_;refine hD.cond (n:=0) false rfl rfl ?_;refine hD.k0 ?_;refine hD.s0 ?_;refine hD.r0 ?_;refine hD.as (.slice none 0 0) hk ?_;refine nm rfl ?_;refine hD.as (.slice none 0 0) hk ?_;refine nm rfl ?_;refine hD.e0 ?_;refine hD.s0 ?_;refine hK.seg fits shut (b:=base 4) ⟨_,Try.func4⟩ nofun (c:=(sL (sR (sR (sR (sR (sR (sR (sR (sR q4)))))))))) (by decide +kernel) (Q:=f3Q gt xs.length ct nw3 nw61 w62) (fun t w' τ d ⟨x,h1,h2,h3,h4⟩=>⟨x,h1,h2,h3,⟨h4.size,h4.block⟩⟩) (fun τ d=>Code.wp_mono (fun e a w' ⟨h1,h2,x,h3,h4,h5,h6⟩=>⟨h1,h2,x,h3,h4,h5,⟨h6.size,h6.block⟩⟩) (ff3 (re w62 τ d) _ gt xs.length ct nw3 nw61 (by omega) rfl rfl rfl rfl rfl)) fun t w7 ⟨x',ex',⟨g0,g5,g9,g11,g12,g13⟩,bnb,ksw7⟩=>?_;subst ex';obtain⟨nb,hnb⟩:∃ z,z=w62.heap.size:=⟨_,rfl⟩;rw[← hnb] at bnb g13;have genb:w.heap.size≤nb:=by rw[hnb];exact kk.size
  have g6nb:w6.heap.size≤nb:=by rw[hnb];exact k6.size
  rw[allK.self (x:=x') (l:=[(0,.slice gt xs.length ct),(5,ptr nw3),(9,ptr nw61),(11,.slice none 0 0),(12,.slice none 0 0),(13,.slice (some ⟨nb,0,none⟩) xs.length xs.length)]) ⟨g0,g5,g9,g11,g12,g13,trivial⟩];have c1''':=ksw7.blk c1'' (by simp);have c2''':=ksw7.blk c2'' (by simp);have bw62':=ksw7.blk bw62 (by simp);have kk:=kk.trans ksw7;have k6:=k6.trans ksw7;refine hD.s0 ?_;refine hD.s0 ?_;refine hD.r0 ?_;refine hD.as (.int .i64 0) hk ?_;refine nm rfl ?_;refine hD.e0 ?_;have hga:∀ q u:Nat,y.acts[q]?=some u→∃ b o,ga=some ⟨b,o,none⟩∧b≠nb∧w7.cell? ⟨b,o+q,none⟩=some (.int .u8 u):=fun q u hq=>by
   obtain⟨g,cap,e,hlt,_⟩:=hra.ex (Nat.lt_of_le_of_lt (Nat.zero_le _) (List.getElem?_eq_some_iff.1 hq).1);cases e;refine⟨g,0,rfl,by omega,?_⟩;rw[Nat.zero_add];exact k6.cells _ _ _ (hra.cell1 (u:=fun x:Nat=>Value.int .u8 x) (fun _=>rfl) q u hq)
  have hin:∀ i∈y.acts,i<xs.length:=fun i hi=>hn▸r6 i hi;refine hK.seg fits shut (b:=base 4) ⟨_,Try.func4⟩ nofun (c:=(sR (sL (sR (sR (sR (sR (sR (sR (sR (sR (sR q4)))))))))))) (by decide +kernel) (Q:=f4Q gt xs.length ct nw3 nb y.acts w7) (fun t w' τ d ⟨x,av,hv,h1,h2,h3,h4,h5⟩=>⟨x,av,hv,h1,h2,h3,h4,⟨h5.size,h5.block⟩⟩) (fun τ d=>Code.wp_mono (fun e a w' ⟨h1,h2,x,av,hv,h3,h4,h5,h6,h7⟩=>⟨h1,h2,x,av,hv,h3,h4,h5,h6,⟨h7.size,h7.block⟩⟩) (ff4 (re w7 τ d) _ gt ga xs.length ct ca nw3 nw61 nb _ _ y.acts (by omega) r7 bnb.lt hin bw62' hga bnb rfl rfl rfl rfl rfl rfl rfl)) fun t w8 ⟨x',av,hv,ex',⟨g0,g5,g11,g12⟩,ra,rh,ksw8⟩=>?_;subst ex';rw[← r4] at ra;rw[← r5,r2] at rh;obtain⟨ga2,ca2,rfl,_⟩:=ra.form;obtain⟨gh2,ch2,rfl,_⟩:=rh.form;obtain⟨N,hN⟩:∃ N,N=y.a.asl.length:=⟨_,rfl⟩;rw[← hN] at ra rh g11 g12;rw[allK.self (x:=x') (l:=[(0,.slice gt xs.length ct),(5,ptr nw3),(11,.slice ga2 N ca2),(12,.slice gh2 N ch2)]) ⟨g0,g5,g11,g12,trivial⟩];have c1'''':=ksw8.blk c1''' (by simpa using (cel_ne (Blk.cel c1''') (Blk.cel bnb) (by decide)));have c2'''':=ksw8.blk c2''' (by simpa using (cel_ne (Blk.cel c2''') (Blk.cel bnb) (by decide)));have bw62'':=ksw8.blk bw62' (by simpa using (cel_ne (Blk.cel bw62') (Blk.cel bnb) (by decide)));have kk:=kk.new ksw8 (by simpa using genb);have k6:=k6.new ksw8 (by simpa using g6nb);refine hD.s0 ?_;refine hD.r0 ?_;refine hD.as (.int .i64 0) hk ?_;refine nm rfl ?_;refine hD.e0 ?_;refine hD.s0 ?_;refine hD.s0 ?_;refine hD.r0 ?_;refine hD.as (.int .i64 0) hk ?_;refine nm rfl ?_;refine hD.e0 ?_;have hx8:∀ (j:Nat) (u:Int),xs[j]?=some u→∃ b o,gt=some ⟨b,o,none⟩∧w8.cell? ⟨b,o+j,none⟩=some (.int .i64 u):=fun j u hj=>by
   obtain⟨b,o,h1,h2⟩:=hx (by rintro rfl;simp at hj);exact⟨b,o,h1,kk.cells _ _ _ (h2 j u hj)⟩
  refine hK.seg fits shut (b:=base 4) ⟨_,Try.func4⟩ nofun (c:=(sR (sL (sR (sR (sR (sR (sR (sR (sR (sR (sR (sR (sR q4)))))))))))))) (by decide +kernel) (Q:=lQ 152 (fun x=>x 5=ptr nw3∧x 11=.slice ga2 N ca2∧x 12=.slice gh2 N ch2∧x 16=.int .i64 (Go.ConcN.sumTo xs.length (turnsOf xs):Nat)) w8) (fun t w' τ d h=>lQ_re h τ d) (fun τ d=>Code.wp_mono (fun e a w' ⟨h1,h2,h3⟩=>⟨h1,h2,lQ_un h3⟩) (ff5 (re w8 τ d) _ gt xs.length ct nw3 (.slice ga2 N ca2) (.slice gh2 N ch2) xs rfl (by omega) hx8 (by omega) rfl rfl rfl rfl rfl rfl)) fun t w9 ⟨x',ex',⟨g5,g11,g12,g16⟩,ksw9⟩=>?_;subst ex';rw[allK.self (x:=x') (l:=[(5,ptr nw3),(11,.slice ga2 N ca2),(12,.slice gh2 N ch2),(16,.int .i64 (Go.ConcN.sumTo xs.length (turnsOf xs):Nat))]) ⟨g5,g11,g12,g16,trivial⟩];have c1''''':=ksw9.blk c1'''' (by simp);have c2''''':=ksw9.blk c2'''' (by simp);have bw62''':=ksw9.blk bw62'' (by simp);have kk:=kk.trans ksw9;have k6:=k6.trans ksw9;have hNs:Go.ConcN.sumTo xs.length (turnsOf xs)=N:=by rw[← hn,← r3,hN]
  rw[hNs];refine hD.s0 ?_;refine hD.s0 ?_;refine hK.seg fits shut (b:=base 4) ⟨_,Try.func4⟩ nofun (c:=(sL (sL (sR (sR (sR (sR (sR (sR (sR (sR (sR (sR (sR (sR q4))))))))))))))) (by decide +kernel) (Q:=lQ 152 (fun x=>x 11=.slice ga2 N ca2∧x 12=.slice gh2 N ch2∧x 16=.int .i64 (N:Nat)∧x 136=.bool false) w9) (fun t w' τ d h=>lQ_re h τ d) (fun τ d=>Code.wp_mono (fun e a w' ⟨h1,h2,h3⟩=>⟨h1,h2,lQ_un h3⟩) (ff6 (re w9 τ d) _ nw3 nw2 N ca2 ch2 ga2 gh2 _ _ c1''''' c2''''' rfl rfl rfl rfl)) fun t w10 ⟨x',ex',⟨g11,g12,g16,g136⟩,ksw10⟩=>?_;subst ex';rw[allK.self (x:=x') (l:=[(11,.slice ga2 N ca2),(12,.slice gh2 N ch2),(16,.int .i64 (N:Nat)),(136,.bool false)]) ⟨g11,g12,g16,g136,trivial⟩];have c1'''''':=ksw10.blk c1''''' (by simp);have c2'''''':=ksw10.blk c2''''' (by simp);have bw62'''':=ksw10.blk bw62''' (by simp);have kk:=kk.trans ksw10;have k6:=k6.trans ksw10;refine hD.cond (n:=0) false rfl rfl ?_;refine hD.k0 ?_;refine hD.s0 ?_;refine hD.s0 ?_;refine hD.r0 ?_;refine hD.as (.int .i64 0) hk ?_;refine nm rfl ?_;refine hD.e0 ?_;have k8:Kp [] w8 w10:=ksw9.trans ksw10;have hx9:∀ (j u:Nat),y.a.asl[j]?=some u→∃ b o b' o',ga2=some ⟨b,o,none⟩∧gh2=some ⟨b',o',none⟩∧w10.cell? ⟨b,o+j,none⟩=some (.int .i64 (u:Nat))∧w10.cell? ⟨b',o'+j,none⟩=some (.int .i64 (u:Nat)):=fun j u hj=>by
   have h0:0<y.a.asl.length:=Nat.lt_of_le_of_lt (Nat.zero_le _) (List.getElem?_eq_some_iff.1 hj).1;obtain⟨g,cap,e,_,_⟩:=ra.ex h0;obtain⟨g',cap',e',_,_⟩:=rh.ex h0;cases e;cases e';refine⟨g,0,g',0,rfl,rfl,?_,?_⟩
   ·rw[Nat.zero_add];exact k8.cells _ _ _ (ra.cell1 (u:=fun x:Nat=>Value.int .i64 x) (fun _=>rfl) j u hj)
   ·rw[Nat.zero_add];exact k8.cells _ _ _ (rh.cell1 (u:=fun x:Nat=>Value.int .i64 x) (fun _=>rfl) j u hj)
  have hN40:N<1000:=by
   have h:=sumTo_mono (f:=turnsOf xs) (g:=fun _=>0+5) (n:=n) fun i _=>by have:=turns_le xs i;omega
   rw[sumTo_plus (f:=fun _=>0) (c:=5),sumTo_zero] at h;omega
  refine hK.seg fits shut (b:=base 4) ⟨_,Try.func4⟩ nofun (c:=(sR (sL (sR (sR (sR (sR (sR (sR (sR (sR (sR (sR (sR (sR (sR q4)))))))))))))))) (by decide +kernel) (Q:=lQ 152 (fun x=>x 11=.slice ga2 N ca2∧x 12=.slice gh2 N ch2) w10) (fun t w' τ d h=>lQ_re h τ d) (fun τ d=>Code.wp_mono (fun e a w' ⟨h1,h2,h3⟩=>⟨h1,h2,lQ_un h3⟩) (ff7 (re w10 τ d) _ N ca2 ch2 ga2 gh2 y.a.asl hN.symm hN40 hx9 rfl rfl rfl rfl)) fun t w11 ⟨x',ex',⟨g11,g12⟩,ksw11⟩=>?_;subst ex';rw[allK.self (x:=x') (l:=[(11,.slice ga2 N ca2),(12,.slice gh2 N ch2)]) ⟨g11,g12,trivial⟩];have c1''''''':=ksw11.blk c1'''''' (by simp);have c2''''''':=ksw11.blk c2'''''' (by simp);have bw62''''':=ksw11.blk bw62'''' (by simp);have kk:=kk.trans ksw11;have k6:=k6.trans ksw11;refine hD.s0 ?_;refine hD.r0 ?_;refine hD.cf #[] hk Try.func7 ?_;show Sound Try.prog link.tWg Post 0 { S6 with w:=w11} _;refine works_runs (S:={S6 with w:=w11}) ⟨S6I.roles,S6I.grps,S6I.pos⟩ rfl fun S9 S9I n9 z9 k9=>?_;have kk:=kk.trans k9;have hK:=clS (Post:=Post) S9;refine ks (S:=S9) ?_ rfl;have hD:=hK.det;obtain⟨w90,hw90⟩:∃ w,w=S9.w:=⟨_,rfl⟩;rw[← hw90] at kk ⊢;have ksw90:Kp [] w11 w90:=by rw[hw90];exact k9
  refine fin_at (Kn:=fun _=>KS Try.prog link.tWg Post 0 S9) (n:=0) (dst:=some 151) rfl rfl ?_;refine nm rfl ?_;refine hD.as (.bool true) hk ?_;refine nm rfl ?_;refine hD.e0 ?_;refine hD.ret (n:=0) ?_;exact sound_true (S:={S9 with w:=w90}) ⟨S9I.roles,S9I.grps,S9I.pos⟩ Try.func4 (by decide +kernel) rfl rfl (fun W hB=>hpost W (by rw[n9,z9] at hB;exact(R.n0▸R.W0▸hB)))
end Go.Proofs.Ytgapgmigmlideaa.Lift
namespace Go.Proofs.Ytgapgmigmlideaa.Z
open Go Go.Conc Go.ChangeShapes Go.WideShapes Go.ChangeAt Go.RowKit Go.Deep Lift
theorem post_true2 {H:Type}{enc:TypeId × Value→H}{f:Func}{s:ChangeSpec}{t0 t1:TypeId}{W W':World}{v0 v1:Value}{d0 d1:DataW H}{p0 p1:List MemPlace}(hs:s.vars=[])(hp:f.params.toList=[t0,t1])(hr:f.resultTypes=#[4])
  (hd:∀ a b,s.fn H [a,b]={results:=[.lit (.bool true)],args:=[a,b]}) (ht0:Try.prog.readableRec t0=true) (hrow0:t0<Try.prog.types.size) (ht1:Try.prog.readableRec t1=true) (hrow1:t1<Try.prog.types.size)
  (hW:DataW.Whole enc Try.prog f.params.toList s.vars false W [v0,v1] [d0,d1] [] (p0++p1)) (h0:DataW.Trod enc Try.prog W 0 (fun _=>true) true t0 v0 d0 p0) (h1:DataW.Trod enc Try.prog W 0 (fun _=>true) true t1 v1 d1 p1) (hb:Below W.heap.size W W') :
  s.post enc Try.prog f false true false false W #[v0,v1] (.bool true) W':=by
 have hlt:=fun x hx=>hW.lt x hx;refine⟨[d0,d1],[],p0++p1,[],p0++p1,[],hW,?_,?_,?_,hb.frame _,fun h=>by cases h⟩
 ·rw[hr,List.append_nil,hd]
  exact trodAll_mk1 (shut_bool Try.underlying4 _)
 ·rw[hp,List.append_nil,hd]
  exact trodAll_mk2 (Below.trod laidOut ht0 hrow0 h0 hb fun x hx=>hlt x (by simp[hx])) (Below.trod laidOut ht1 hrow1 h1 hb fun x hx=>hlt x (by simp[hx]))
 ·rw[hs,List.append_nil,hd]
  rfl
theorem fair_contract (H:Type)(enc:TypeId × Value→H)(W:World)(base:Nat)(args:Array Value)(ds gs:List (DataW H))(before:List MemPlace)
  (hval:∀ (j:Nat) t v,Try.f4.params[j]?=some t→args[j]?=some v→Value.okWide Try.prog W .any base t v)
  (hW:DataW.Whole enc Try.prog Try.f4.params.toList Rows.lockFairSpec.vars false W args.toList ds gs before) (h00:0<W.heap.size) :
  ∃ N last o w' t',runNT Try.prog (N+1) (solo (G (Frame.enter Try.prog 4 args .normal) []) W) #[]=(.ended o w',t')∧runN Try.prog N (solo (G (Frame.enter Try.prog 4 args .normal) []) W)=.next last ∧
    step Try.prog last=.ended o w'∧Go.Conc.Good Try.prog (fun v w'=>Rows.lockFairSpec.post enc Try.prog Try.f4 false true false false W args v w') last o w' t':=by
 have hW':=hW;obtain⟨p,q,hA0,hV,rfl,hfz,hnd⟩:=hW;have hA:DataW.TrodAll enc Try.prog W 0 (fun _=>true) true Try.f4.params.toList args.toList ds p:=hA0;rw[Try.params4] at hA hval;obtain⟨v0,vs0,d0,ds0,p0,q0,hargs,rfl,rfl,h0,r0⟩:=trodAll_cons hA;obtain⟨v1,vs1,d1,ds1,p1,q1,hargs1,rfl,rfl,h1,r1⟩:=trodAll_cons r0;obtain⟨rfl,rfl,rfl⟩:=trodAll_nil r1;subst hargs1;obtain rfl:args=#[v0,v1]:=by cases args;simp_all
 obtain⟨rfl,rfl⟩:=trodVars_none hV;have h0':=h0;have h1':=h1;obtain⟨fuel,ht⟩:=h0';obtain⟨fuel1,ht1⟩:=h1';obtain⟨vx,xs,e1,hX⟩:=open_ints ht;obtain⟨vp,picks,e2,hB,_⟩:=open_bytes ht1;have hc1:v0.cells=#[v0]:=by
  have:=hval 0 22 v0 rfl rfl;cases v0<;>first | rfl | (simp[Value.okWide,Try.underlying22,Cell.okWide,Cell.ok] at this;done)
 have hc2:v1.cells=#[v1]:=by
  have:=hval 1 23 v1 rfl rfl;cases v1<;>first | rfl | (simp[Value.okWide,Try.underlying23,Cell.okWide,Cell.ok] at this;done)
 have hv1:v0=vx:=by
  rw[hc1] at e1;exact(List.cons.inj e1).1
 have hv2:v1=vp:=by
  rw[hc2] at e2;exact(List.cons.inj e2).1
 subst hv1 hv2;clear hA0 hA ht ht1;simp only[List.append_nil] at hW' h1;refine sound_start (ty:=link.tWg) (fun i v hi=>?_) (fair_law (start_idle W) (ints_seen hX) (bytes_seen hB h00) fun W' hB'=>?_)
 ·match i,hi with
  | 0,hi=>cases hi;exact ints_rel hX
  | 1,hi=>cases hi;exact bytes_rel hB
  | _+2,hi=>simp at hi
 ·exact post_true2 rfl rfl rfl (fun _ _=>rfl) (by kernel_rfl) (of_decide_eq_true (by kernel_rfl)) (by kernel_rfl) (of_decide_eq_true (by kernel_rfl)) hW' h0 h1 hB'
theorem fair_lifted (os:Os)(started:os.Started)(H:Type)(enc:TypeId × Value→H) :
  ReturnsInLeavingWide {} Try.checked os 4 .any (Rows.lockFairSpec.pre6 enc Try.prog Try.f4 Rows.lockFairRow.domain false) (Rows.lockFairSpec.post enc Try.prog Try.f4 false true false false):=by
 refine leaving_plain (C:=Try.checked) (s:=Rows.lockFairSpec) own started Try.func4 some_heap
  (ChangeSpec.witness6 (enc:=enc) (C:=Try.checked) (s:=Rows.lockFairSpec) false ⟨#[],#[.slice none 0 0,.slice none 0 0],[]⟩ 8 (by kernel_rfl) (by kernel_rfl) (by kernel_rfl) (by kernel_rfl)) ?_
 intro W base args ds gs before hval hW h0;exact fair_contract H enc W base args ds gs before hval hW h0
theorem lockFair_said:Rows.LockFairSaid :=
 OpenClaim.holds_of_wide_leaving 4 Try.f4 rfl rfl rfl rfl rfl rfl rfl ⟨rfl,rfl,rfl,rfl,rfl⟩ rfl rfl rfl rfl rfl (by kernel_rfl) Try.func4 (by kernel_rfl)
  (of_decide_eq_true (by kernel_rfl)) (by unfold Func.isWrapper;first | (rw[if_pos (by decide +kernel)];kernel_rfl) | (rw[if_neg (by decide +kernel)];exact⟨rfl,rfl⟩))
  (fun os started H enc _=>fair_lifted os started H enc)
#print axioms lockFair_said
end Go.Proofs.Ytgapgmigmlideaa.Z
