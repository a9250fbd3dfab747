/- SchedEach keeps its law for every input that may come: SchedEachUptoSaid, as given. Conditions: none. -/
import Derived.Test.YtkoehgfebipkkaaMe
set_option linter.unusedVariables false
set_option linter.unusedSimpArgs false
set_option maxRecDepth 100000
set_option maxHeartbeats 6400000
noncomputable section
namespace Go.Proofs.Ytkoehgfebipkkaa.Lift
open Go Go.Conc Go.RowKit Pl
section
variable {K:Goroutine→World→Prop}{m:Bool}{w:World}{cs:List Frame}{n c4 gb go T bx s rb t a r q k eb eo nb no_ ca cn v pb po np cp p:Nat}{gp:Option Addr}{x:Nat→Value}
theorem ck_k0 (hD:Det Try.prog m fun _=>K)(hx:EW n c4 gb go T bx s rb t a r q k x)(hk':k<n)(hv:w.cell? ⟨gb,go+k,none⟩=some (.int .i64 (v:Int)))(hb:r<4294967296∧q<4294967296∧k<4294967296)(hp:¬ 0<v)(h:∀ x',EW n c4 gb go T bx s rb t a r q (k+1) x'→K (gs ((base 5).at ⟨fr x',[]⟩ [.code (sB (sB (sR (sL (sR (sR (sR (sR (sB (sL (sR (sB (sB (sR (sL (sR (sR (sR (sR (sR (sR (sR (sR (sR c5)))))))))))))))))))))))),.inLoop (sB (sB (sR (sL (sR (sR (sR (sR (sB (sL (sR (sB (sB (sR (sL (sR (sR (sR (sR (sR (sR (sR (sR (sR c5)))))))))))))))))))))))),.inBlock 6,.code (sR (sR (sR (sR (sR (sB (sL (sR (sB (sB (sR (sL (sR (sR (sR (sR (sR (sR (sR (sR (sR c5))))))))))))))))))))),.inBlock 5,.code (sR (sR (sB (sB (sR (sL (sR (sR (sR (sR (sR (sR (sR (sR (sR c5))))))))))))))),.inLoop (sB (sB (sR (sL (sR (sR (sR (sR (sR (sR (sR (sR (sR c5))))))))))))),.inBlock 4,.code (sR (sR (sR (sR (sR (sR (sR (sR (sR (sR c5))))))))))]) cs) w):K (gs ((base 5).at ⟨fr x,[]⟩ [.code (sB (sB (sR (sL (sR (sR (sR (sR (sB (sL (sR (sB (sB (sR (sL (sR (sR (sR (sR (sR (sR (sR (sR (sR c5)))))))))))))))))))))))),.inLoop (sB (sB (sR (sL (sR (sR (sR (sR (sB (sL (sR (sB (sB (sR (sL (sR (sR (sR (sR (sR (sR (sR (sR (sR c5)))))))))))))))))))))))),.inBlock 6,.code (sR (sR (sR (sR (sR (sB (sL (sR (sB (sB (sR (sL (sR (sR (sR (sR (sR (sR (sR (sR (sR c5))))))))))))))))))))),.inBlock 5,.code (sR (sR (sB (sB (sR (sL (sR (sR (sR (sR (sR (sR (sR (sR (sR c5))))))))))))))),.inLoop (sB (sB (sR (sL (sR (sR (sR (sR (sR (sR (sR (sR (sR c5))))))))))))),.inBlock 4,.code (sR (sR (sR (sR (sR (sR (sR (sR (sR (sR c5))))))))))]) cs) w:=by
 have hk:(base 5).kind≠.early:=nofun;obtain⟨h1,h3,h4,h5,h11,h13,h14,h15,h16,h17⟩:=hx;refine hD.s0 ?_;refine hD.s0 ?_;refine hD.r0 ?_;refine hD.move (n:=0) (v:=(.int .i64 (k:Int))) hk rfl ⟨rfl,rfl,rfl,rfl,nofun⟩ h17 ?_;refine nm rfl ?_;refine hD.move (n:=0) (v:=(.slice (some ⟨gb,go,none⟩) n c4)) hk rfl ⟨rfl,rfl,rfl,rfl,nofun⟩ h4 ?_;refine nm rfl ?_;refine hD.pu (.int .i64 (n:Int)) hk (fun w=>pu_len (e:=3) rfl rfl Try.underlying39) ?_;refine nm rfl ?_;refine hD.pure (n:=0) (v:=(.bool true)) hk rfl ⟨rfl,rfl,rfl,(by decide +kernel),nofun⟩ (fun w=>by rw[pu_lss rfl rfl rfl,decide_eq_true (by omega)]) ?_;refine nm rfl ?_;refine hD.e0 ?_;refine hD.cond (n:=0) true rfl rfl ?_;refine hD.k0 ?_;refine hD.s0 ?_;refine hD.block (n:=0) ?_;refine hD.s0 ?_;refine hD.r0 ?_;refine hD.move (n:=0) (v:=(.slice (some ⟨gb,go,none⟩) n c4)) hk rfl ⟨rfl,rfl,rfl,rfl,nofun⟩ h4 ?_;refine nm rfl ?_;refine hD.move (n:=0) (v:=(.int .i64 (k:Int))) hk rfl ⟨rfl,rfl,rfl,rfl,nofun⟩ h17 ?_;refine nm rfl ?_;refine hD.index (n:=0) (v:=(.pointer (some ⟨gb,go+k,none⟩))) hk rfl ⟨rfl,rfl,rfl,rfl,nofun⟩ rfl rfl (ix39 hk') ?_;refine nm rfl ?_;refine hD.ld (.int .i64 (v:Int)) hk (fun τ d=>ld3 hv) ?_;refine nm rfl ?_;refine hD.pure (n:=0) (v:=(.bool false)) hk rfl ⟨rfl,rfl,rfl,(by decide +kernel),nofun⟩ (fun w=>by rw[pu_gt3 rfl rfl rfl,decide_eq_false (by omega)]) ?_;refine nm rfl ?_;refine hD.e0 ?_;refine hD.cond (n:=0) false rfl rfl ?_;refine hD.k0 ?_;refine hD.inBlock (n:=0) ?_;refine hD.r0 ?_;refine hD.move (n:=0) (v:=(.int .i64 (k:Int))) hk rfl ⟨rfl,rfl,rfl,rfl,nofun⟩ h17 ?_;refine nm rfl ?_;refine hD.pure (n:=0) (v:=(.int .i64 ((k+1:Nat):Int))) hk rfl ⟨rfl,rfl,rfl,(by decide +kernel),nofun⟩ (fun w=>pu_inc rfl rfl (by omega)) ?_;refine nm rfl ?_;refine hD.as (.int .i64 ((k+1:Nat):Int)) hk ?_;refine nm rfl ?_;refine hD.e0 ?_;refine hD.inLoop (n:=0) ?_;exact h _ ⟨h1,h3,h4,h5,h11,h13,h14,h15,h16,rfl⟩
theorem ck_k1 (hD:Det Try.prog m fun _=>K)(hx:EW n c4 gb go T bx s rb t a r q k x)(hk':k<n)(hv:w.cell? ⟨gb,go+k,none⟩=some (.int .i64 (v:Int)))(hb:r<4294967296∧q<4294967296∧k<4294967296)(hp:0<v)(hl:k<a)(h:∀ x',EW n c4 gb go T bx s rb t a (r+1) (q+1) (k+1) x'→K (gs ((base 5).at ⟨fr x',[]⟩ [.code (sB (sB (sR (sL (sR (sR (sR (sR (sB (sL (sR (sB (sB (sR (sL (sR (sR (sR (sR (sR (sR (sR (sR (sR c5)))))))))))))))))))))))),.inLoop (sB (sB (sR (sL (sR (sR (sR (sR (sB (sL (sR (sB (sB (sR (sL (sR (sR (sR (sR (sR (sR (sR (sR (sR c5)))))))))))))))))))))))),.inBlock 6,.code (sR (sR (sR (sR (sR (sB (sL (sR (sB (sB (sR (sL (sR (sR (sR (sR (sR (sR (sR (sR (sR c5))))))))))))))))))))),.inBlock 5,.code (sR (sR (sB (sB (sR (sL (sR (sR (sR (sR (sR (sR (sR (sR (sR c5))))))))))))))),.inLoop (sB (sB (sR (sL (sR (sR (sR (sR (sR (sR (sR (sR (sR c5))))))))))))),.inBlock 4,.code (sR (sR (sR (sR (sR (sR (sR (sR (sR (sR c5))))))))))]) cs) w):K (gs ((base 5).at ⟨fr x,[]⟩ [.code (sB (sB (sR (sL (sR (sR (sR (sR (sB (sL (sR (sB (sB (sR (sL (sR (sR (sR (sR (sR (sR (sR (sR (sR c5)))))))))))))))))))))))),.inLoop (sB (sB (sR (sL (sR (sR (sR (sR (sB (sL (sR (sB (sB (sR (sL (sR (sR (sR (sR (sR (sR (sR (sR (sR c5)))))))))))))))))))))))),.inBlock 6,.code (sR (sR (sR (sR (sR (sB (sL (sR (sB (sB (sR (sL (sR (sR (sR (sR (sR (sR (sR (sR (sR c5))))))))))))))))))))),.inBlock 5,.code (sR (sR (sB (sB (sR (sL (sR (sR (sR (sR (sR (sR (sR (sR (sR c5))))))))))))))),.inLoop (sB (sB (sR (sL (sR (sR (sR (sR (sR (sR (sR (sR (sR c5))))))))))))),.inBlock 4,.code (sR (sR (sR (sR (sR (sR (sR (sR (sR (sR c5))))))))))]) cs) w:=by
 have hk:(base 5).kind≠.early:=nofun;obtain⟨h1,h3,h4,h5,h11,h13,h14,h15,h16,h17⟩:=hx;refine hD.s0 ?_;refine hD.s0 ?_;refine hD.r0 ?_;refine hD.move (n:=0) (v:=(.int .i64 (k:Int))) hk rfl ⟨rfl,rfl,rfl,rfl,nofun⟩ h17 ?_;refine nm rfl ?_;refine hD.move (n:=0) (v:=(.slice (some ⟨gb,go,none⟩) n c4)) hk rfl ⟨rfl,rfl,rfl,rfl,nofun⟩ h4 ?_;refine nm rfl ?_;refine hD.pu (.int .i64 (n:Int)) hk (fun w=>pu_len (e:=3) rfl rfl Try.underlying39) ?_;refine nm rfl ?_;refine hD.pure (n:=0) (v:=(.bool true)) hk rfl ⟨rfl,rfl,rfl,(by decide +kernel),nofun⟩ (fun w=>by rw[pu_lss rfl rfl rfl,decide_eq_true (by omega)]) ?_;refine nm rfl ?_;refine hD.e0 ?_;refine hD.cond (n:=0) true rfl rfl ?_;refine hD.k0 ?_;refine hD.s0 ?_;refine hD.block (n:=0) ?_;refine hD.s0 ?_;refine hD.r0 ?_;refine hD.move (n:=0) (v:=(.slice (some ⟨gb,go,none⟩) n c4)) hk rfl ⟨rfl,rfl,rfl,rfl,nofun⟩ h4 ?_;refine nm rfl ?_;refine hD.move (n:=0) (v:=(.int .i64 (k:Int))) hk rfl ⟨rfl,rfl,rfl,rfl,nofun⟩ h17 ?_;refine nm rfl ?_;refine hD.index (n:=0) (v:=(.pointer (some ⟨gb,go+k,none⟩))) hk rfl ⟨rfl,rfl,rfl,rfl,nofun⟩ rfl rfl (ix39 hk') ?_;refine nm rfl ?_;refine hD.ld (.int .i64 (v:Int)) hk (fun τ d=>ld3 hv) ?_;refine nm rfl ?_;refine hD.pure (n:=0) (v:=(.bool true)) hk rfl ⟨rfl,rfl,rfl,(by decide +kernel),nofun⟩ (fun w=>by rw[pu_gt3 rfl rfl rfl,decide_eq_true (by omega)]) ?_;refine nm rfl ?_;refine hD.e0 ?_;refine hD.cond (n:=0) true rfl rfl ?_;refine hD.s0 ?_;refine hD.s0 ?_;refine hD.r0 ?_;refine hD.move (n:=0) (v:=(.int .i64 (k:Int))) hk rfl ⟨rfl,rfl,rfl,rfl,nofun⟩ h17 ?_;refine nm rfl ?_;refine hD.move (n:=0) (v:=(.int .i64 (a:Int))) hk rfl ⟨rfl,rfl,rfl,rfl,nofun⟩ h14 ?_;refine nm rfl ?_;refine hD.pure (n:=0) (v:=(.bool true)) hk rfl ⟨rfl,rfl,rfl,(by decide +kernel),nofun⟩ (fun w=>by rw[pu_lss rfl rfl rfl,decide_eq_true (by omega)]) ?_;refine nm rfl ?_;refine hD.e0 ?_;refine hD.cond (n:=0) true rfl rfl ?_;refine hD.r0 ?_;refine hD.move (n:=0) (v:=(.int .i64 (q:Int))) hk rfl ⟨rfl,rfl,rfl,rfl,nofun⟩ h16 ?_;refine nm rfl ?_;refine hD.pure (n:=0) (v:=(.int .i64 ((q+1:Nat):Int))) hk rfl ⟨rfl,rfl,rfl,(by decide +kernel),nofun⟩ (fun w=>pu_inc rfl rfl (by omega)) ?_;refine nm rfl ?_;refine hD.as (.int .i64 ((q+1:Nat):Int)) hk ?_;refine nm rfl ?_;refine hD.e0 ?_;refine hD.r0 ?_;refine hD.move (n:=0) (v:=(.int .i64 (r:Int))) hk rfl ⟨rfl,rfl,rfl,rfl,nofun⟩ h15 ?_;refine nm rfl ?_;refine hD.pure (n:=0) (v:=(.int .i64 ((r+1:Nat):Int))) hk rfl ⟨rfl,rfl,rfl,(by decide +kernel),nofun⟩ (fun w=>pu_inc rfl rfl (by omega)) ?_;refine nm rfl ?_;refine hD.as (.int .i64 ((r+1:Nat):Int)) hk ?_;refine nm rfl ?_;refine hD.e0 ?_;refine hD.inBlock (n:=0) ?_;refine hD.r0 ?_;refine hD.move (n:=0) (v:=(.int .i64 (k:Int))) hk rfl ⟨rfl,rfl,rfl,rfl,nofun⟩ h17 ?_;refine nm rfl ?_;refine hD.pure (n:=0) (v:=(.int .i64 ((k+1:Nat):Int))) hk rfl ⟨rfl,rfl,rfl,(by decide +kernel),nofun⟩ (fun w=>pu_inc rfl rfl (by omega)) ?_;refine nm rfl ?_;refine hD.as (.int .i64 ((k+1:Nat):Int)) hk ?_;refine nm rfl ?_;refine hD.e0 ?_;refine hD.inLoop (n:=0) ?_
 exact h _ ⟨h1,h3,h4,h5,h11,h13,h14,rfl,rfl,rfl⟩
theorem ck_k2 (hD:Det Try.prog m fun _=>K)(hx:EW n c4 gb go T bx s rb t a r q k x)(hk':k<n)(hv:w.cell? ⟨gb,go+k,none⟩=some (.int .i64 (v:Int)))(hb:r<4294967296∧q<4294967296∧k<4294967296)(hp:0<v)(hl:¬ k<a)(h:∀ x',EW n c4 gb go T bx s rb t a (r+1) q (k+1) x'→K (gs ((base 5).at ⟨fr x',[]⟩ [.code (sB (sB (sR (sL (sR (sR (sR (sR (sB (sL (sR (sB (sB (sR (sL (sR (sR (sR (sR (sR (sR (sR (sR (sR c5)))))))))))))))))))))))),.inLoop (sB (sB (sR (sL (sR (sR (sR (sR (sB (sL (sR (sB (sB (sR (sL (sR (sR (sR (sR (sR (sR (sR (sR (sR c5)))))))))))))))))))))))),.inBlock 6,.code (sR (sR (sR (sR (sR (sB (sL (sR (sB (sB (sR (sL (sR (sR (sR (sR (sR (sR (sR (sR (sR c5))))))))))))))))))))),.inBlock 5,.code (sR (sR (sB (sB (sR (sL (sR (sR (sR (sR (sR (sR (sR (sR (sR c5))))))))))))))),.inLoop (sB (sB (sR (sL (sR (sR (sR (sR (sR (sR (sR (sR (sR c5))))))))))))),.inBlock 4,.code (sR (sR (sR (sR (sR (sR (sR (sR (sR (sR c5))))))))))]) cs) w):K (gs ((base 5).at ⟨fr x,[]⟩ [.code (sB (sB (sR (sL (sR (sR (sR (sR (sB (sL (sR (sB (sB (sR (sL (sR (sR (sR (sR (sR (sR (sR (sR (sR c5)))))))))))))))))))))))),.inLoop (sB (sB (sR (sL (sR (sR (sR (sR (sB (sL (sR (sB (sB (sR (sL (sR (sR (sR (sR (sR (sR (sR (sR (sR c5)))))))))))))))))))))))),.inBlock 6,.code (sR (sR (sR (sR (sR (sB (sL (sR (sB (sB (sR (sL (sR (sR (sR (sR (sR (sR (sR (sR (sR c5))))))))))))))))))))),.inBlock 5,.code (sR (sR (sB (sB (sR (sL (sR (sR (sR (sR (sR (sR (sR (sR (sR c5))))))))))))))),.inLoop (sB (sB (sR (sL (sR (sR (sR (sR (sR (sR (sR (sR (sR c5))))))))))))),.inBlock 4,.code (sR (sR (sR (sR (sR (sR (sR (sR (sR (sR c5))))))))))]) cs) w:=by
 have hk:(base 5).kind≠.early:=nofun;obtain⟨h1,h3,h4,h5,h11,h13,h14,h15,h16,h17⟩:=hx;refine hD.s0 ?_;refine hD.s0 ?_;refine hD.r0 ?_;refine hD.move (n:=0) (v:=(.int .i64 (k:Int))) hk rfl ⟨rfl,rfl,rfl,rfl,nofun⟩ h17 ?_;refine nm rfl ?_;refine hD.move (n:=0) (v:=(.slice (some ⟨gb,go,none⟩) n c4)) hk rfl ⟨rfl,rfl,rfl,rfl,nofun⟩ h4 ?_;refine nm rfl ?_;refine hD.pu (.int .i64 (n:Int)) hk (fun w=>pu_len (e:=3) rfl rfl Try.underlying39) ?_;refine nm rfl ?_;refine hD.pure (n:=0) (v:=(.bool true)) hk rfl ⟨rfl,rfl,rfl,(by decide +kernel),nofun⟩ (fun w=>by rw[pu_lss rfl rfl rfl,decide_eq_true (by omega)]) ?_;refine nm rfl ?_;refine hD.e0 ?_;refine hD.cond (n:=0) true rfl rfl ?_;refine hD.k0 ?_;refine hD.s0 ?_;refine hD.block (n:=0) ?_;refine hD.s0 ?_;refine hD.r0 ?_;refine hD.move (n:=0) (v:=(.slice (some ⟨gb,go,none⟩) n c4)) hk rfl ⟨rfl,rfl,rfl,rfl,nofun⟩ h4 ?_;refine nm rfl ?_;refine hD.move (n:=0) (v:=(.int .i64 (k:Int))) hk rfl ⟨rfl,rfl,rfl,rfl,nofun⟩ h17 ?_;refine nm rfl ?_;refine hD.index (n:=0) (v:=(.pointer (some ⟨gb,go+k,none⟩))) hk rfl ⟨rfl,rfl,rfl,rfl,nofun⟩ rfl rfl (ix39 hk') ?_;refine nm rfl ?_;refine hD.ld (.int .i64 (v:Int)) hk (fun τ d=>ld3 hv) ?_;refine nm rfl ?_;refine hD.pure (n:=0) (v:=(.bool true)) hk rfl ⟨rfl,rfl,rfl,(by decide +kernel),nofun⟩ (fun w=>by rw[pu_gt3 rfl rfl rfl,decide_eq_true (by omega)]) ?_;refine nm rfl ?_;refine hD.e0 ?_;refine hD.cond (n:=0) true rfl rfl ?_;refine hD.s0 ?_;refine hD.s0 ?_;refine hD.r0 ?_;refine hD.move (n:=0) (v:=(.int .i64 (k:Int))) hk rfl ⟨rfl,rfl,rfl,rfl,nofun⟩ h17 ?_;refine nm rfl ?_;refine hD.move (n:=0) (v:=(.int .i64 (a:Int))) hk rfl ⟨rfl,rfl,rfl,rfl,nofun⟩ h14 ?_;refine nm rfl ?_;refine hD.pure (n:=0) (v:=(.bool false)) hk rfl ⟨rfl,rfl,rfl,(by decide +kernel),nofun⟩ (fun w=>by rw[pu_lss rfl rfl rfl,decide_eq_false (by omega)]) ?_;refine nm rfl ?_;refine hD.e0 ?_;refine hD.cond (n:=0) false rfl rfl ?_;refine hD.k0 ?_;refine hD.r0 ?_;refine hD.move (n:=0) (v:=(.int .i64 (r:Int))) hk rfl ⟨rfl,rfl,rfl,rfl,nofun⟩ h15 ?_;refine nm rfl ?_;refine hD.pure (n:=0) (v:=(.int .i64 ((r+1:Nat):Int))) hk rfl ⟨rfl,rfl,rfl,(by decide +kernel),nofun⟩ (fun w=>pu_inc rfl rfl (by omega)) ?_;refine nm rfl ?_;refine hD.as (.int .i64 ((r+1:Nat):Int)) hk ?_;refine nm rfl ?_;refine hD.e0 ?_;refine hD.inBlock (n:=0) ?_;refine hD.r0 ?_;refine hD.move (n:=0) (v:=(.int .i64 (k:Int))) hk rfl ⟨rfl,rfl,rfl,rfl,nofun⟩ h17 ?_;refine nm rfl ?_;refine hD.pure (n:=0) (v:=(.int .i64 ((k+1:Nat):Int))) hk rfl ⟨rfl,rfl,rfl,(by decide +kernel),nofun⟩ (fun w=>pu_inc rfl rfl (by omega)) ?_;refine nm rfl ?_;refine hD.as (.int .i64 ((k+1:Nat):Int)) hk ?_;refine nm rfl ?_;refine hD.e0 ?_;refine hD.inLoop (n:=0) ?_;exact h _ ⟨h1,h3,h4,h5,h11,h13,h14,rfl,h16,rfl⟩
end
section
variable {K:Goroutine→World→Prop}{m:Bool}{w:World}{cs:List Frame}{n c4 gb go T bx s rb t a r q k eb eo nb no_ ca cn v pb po np cp p:Nat}{gp:Option Addr}{x:Nat→Value}
theorem ck_bm (hD:Det Try.prog m fun _=>K)(hx:EW n c4 gb go T bx s rb t a r q k x)(han:a<n)(hv:w.cell? ⟨gb,go+a,none⟩=some (.int .i64 (v:Int)))(hf:w.frozen? ⟨gb,go+a,none⟩=false)(hv0:0<v)(hv1:v<4294967296)(ht:t<4294967296)(c1:w.cell? ⟨bx,1,none⟩=some (.slice (some ⟨pb,po,none⟩) np cp))(htp:t<np)(hp:w.cell? ⟨pb,po+t,none⟩=some (.int .u8 (p:Int)))(hp256:p<256)(hr0:0<r)(hq:p % r=q)(h:∀ x',EY n c4 gb go T bx s rb (t+1) x'→K (gs ((base 5).at ⟨fr x',[]⟩ [.code (sB (sB (sR (sL (sR (sR (sR (sR (sR (sR (sR (sR (sR c5))))))))))))),.inLoop (sB (sB (sR (sL (sR (sR (sR (sR (sR (sR (sR (sR (sR c5))))))))))))),.inBlock 4,.code (sR (sR (sR (sR (sR (sR (sR (sR (sR (sR c5))))))))))]) cs) (w.setCell ⟨gb,go+a,none⟩ (.int .i64 ((v-1:Nat):Int)))):K (gs ((base 5).at ⟨fr x,[]⟩ [.code (sR (sR (sR (sR (sR (sB (sL (sR (sB (sB (sR (sL (sR (sR (sR (sR (sR (sR (sR (sR (sR c5))))))))))))))))))))),.inBlock 5,.code (sR (sR (sB (sB (sR (sL (sR (sR (sR (sR (sR (sR (sR (sR (sR c5))))))))))))))),.inLoop (sB (sB (sR (sL (sR (sR (sR (sR (sR (sR (sR (sR (sR c5))))))))))))),.inBlock 4,.code (sR (sR (sR (sR (sR (sR (sR (sR (sR (sR c5))))))))))]) cs) w:=by
 have hk:(base 5).kind≠.early:=nofun;obtain⟨h1,h3,h4,h5,h11,h13,h14,h15,h16,h17⟩:=hx;refine hD.s0 ?_;refine hD.s0 ?_;refine hD.r0 ?_;refine hD.gv (n:=0) (v:=(.slice (some ⟨gb,go,none⟩) n c4)) hk rfl rfl rfl (by decide +kernel) nofun (fun τ d=>ex_move rfl h4) ?_;refine nm rfl ?_;refine hD.gv (n:=0) (v:=(.int .i64 (a:Int))) hk rfl rfl rfl (by decide +kernel) nofun (fun τ d=>ex_move rfl h14) ?_;refine nm rfl ?_;refine hD.gv (n:=0) (v:=(.pointer (some ⟨gb,go+a,none⟩))) hk rfl rfl rfl (by decide +kernel) nofun (fun τ d=>ex_index rfl rfl rfl (ix39 han)) ?_;refine nm rfl ?_;refine hD.gv (n:=0) (v:=(.int .i64 (v:Int))) hk rfl rfl rfl (by decide +kernel) nofun (fun τ d=>ex_load rfl rfl (ld3 hv)) ?_;refine nm rfl ?_;refine hD.gv (n:=0) (v:=(.bool false)) hk rfl rfl rfl (by decide +kernel) nofun (fun τ d=>pu_eqF rfl rfl (by omega)) ?_;refine nm rfl ?_;refine hD.gv (n:=0) (v:=(.bool false)) hk rfl rfl rfl (by decide +kernel) nofun (fun τ d=>ex_move rfl rfl) ?_;refine nm rfl ?_;refine hD.gv (n:=0) (v:=(.int .i64 (t:Int))) hk rfl rfl rfl (by decide +kernel) nofun (fun τ d=>ex_move rfl h13) ?_;refine nm rfl ?_;refine hD.gv (n:=0) (v:=(ptrAt bx 1)) hk rfl rfl rfl (by decide +kernel) nofun (fun τ d=>ex_field rfl h1 (fld49 (by omega))) ?_;refine nm rfl ?_;refine hD.gv (n:=0) (v:=(.slice (some ⟨pb,po,none⟩) np cp)) hk rfl rfl rfl (by decide +kernel) nofun (fun τ d=>ex_load rfl rfl (ld23 c1)) ?_;refine nm rfl ?_;refine hD.gv (n:=0) (v:=(.int .i64 (np:Int))) hk rfl rfl rfl (by decide +kernel) nofun (fun τ d=>pu_len (e:=5) rfl rfl Try.underlying23) ?_;refine nm rfl ?_;refine hD.gv (n:=0) (v:=(.bool true)) hk rfl rfl rfl (by decide +kernel) nofun (fun τ d=>by rw[pu_lss rfl rfl rfl,decide_eq_true (by omega)]) ?_;refine nm rfl ?_;refine hD.gv (n:=0) (v:=(.bool true)) hk rfl rfl rfl (by decide +kernel) nofun (fun τ d=>ex_move rfl rfl) ?_;refine nm rfl ?_;refine hD.gv (n:=0) (v:=(ptrAt bx 1)) hk rfl rfl rfl (by decide +kernel) nofun (fun τ d=>ex_field rfl h1 (fld49 (by omega))) ?_;refine nm rfl ?_;refine hD.gv (n:=0) (v:=(.slice (some ⟨pb,po,none⟩) np cp)) hk rfl rfl rfl (by decide +kernel) nofun (fun τ d=>ex_load rfl rfl (ld23 c1)) ?_;refine nm rfl ?_;refine hD.gv (n:=0) (v:=(.int .i64 (t:Int))) hk rfl rfl rfl (by decide +kernel) nofun (fun τ d=>ex_move rfl h13) ?_;refine nm rfl ?_;refine hD.gv (n:=0) (v:=(.pointer (some ⟨pb,po+t,none⟩))) hk rfl rfl rfl (by decide +kernel) nofun (fun τ d=>ex_index rfl rfl rfl (ix23 htp)) ?_;refine nm rfl ?_;refine hD.gv (n:=0) (v:=(.int .u8 (p:Int))) hk rfl rfl rfl (by decide +kernel) nofun (fun τ d=>ex_load rfl rfl (ld5 hp)) ?_;refine nm rfl ?_;refine hD.gv (n:=0) (v:=(.int .i64 (p:Int))) hk rfl rfl rfl (by decide +kernel) nofun (fun τ d=>pu_conv rfl rfl (by omega)) ?_;refine nm rfl ?_;refine hD.gv (n:=0) (v:=(.int .i64 (r:Int))) hk rfl rfl rfl (by decide +kernel) nofun (fun τ d=>ex_move rfl h15) ?_;refine nm rfl ?_;refine hD.gv (n:=0) (v:=(.int .i64 (q:Int))) hk rfl rfl rfl (by decide +kernel) nofun (fun τ d=>by rw[pu_rem rfl rfl rfl hr0,hq]) ?_
 refine nm rfl ?_;refine hD.gv (n:=0) (v:=(.int .i64 (q:Int))) hk rfl rfl rfl (by decide +kernel) nofun (fun τ d=>ex_move rfl h16) ?_;refine nm rfl ?_;refine hD.gv (n:=0) (v:=(.bool false)) hk rfl rfl rfl (by decide +kernel) nofun (fun τ d=>by rw[pu_ne3 rfl rfl rfl,decide_eq_false (fun h=>h rfl)]) ?_;refine nm rfl ?_;refine hD.gv (n:=0) (v:=(.bool false)) hk rfl rfl rfl (by decide +kernel) nofun (fun τ d=>pu_pick (t:=true) rfl rfl rfl) ?_;refine nm rfl ?_;refine hD.gv (n:=0) (v:=(.bool false)) hk rfl rfl rfl (by decide +kernel) nofun (fun τ d=>pu_pick (t:=false) rfl rfl rfl) ?_;refine nm rfl ?_;refine hD.e0 ?_;refine hD.cond (n:=0) false rfl rfl ?_;refine hD.k0 ?_;refine hD.r0 ?_;refine hD.move (n:=0) (v:=(.slice (some ⟨gb,go,none⟩) n c4)) hk rfl ⟨rfl,rfl,rfl,rfl,nofun⟩ h4 ?_;refine nm rfl ?_;refine hD.move (n:=0) (v:=(.int .i64 (a:Int))) hk rfl ⟨rfl,rfl,rfl,rfl,nofun⟩ h14 ?_;refine nm rfl ?_;refine hD.index (n:=0) (v:=(.pointer (some ⟨gb,go+a,none⟩))) hk rfl ⟨rfl,rfl,rfl,rfl,nofun⟩ rfl rfl (ix39 han) ?_;refine nm rfl ?_;refine hD.ld (.int .i64 (v:Int)) hk (fun τ d=>ld3 hv) ?_;refine nm rfl ?_;refine hD.pure (n:=0) (v:=(.int .i64 ((v-1:Nat):Int))) hk rfl ⟨rfl,rfl,rfl,(by decide +kernel),nofun⟩ (fun w=>pu_sub (j:=1) rfl rfl rfl (by omega) (by omega)) ?_;refine nm rfl ?_;refine hD.index (n:=0) (v:=(.pointer (some ⟨gb,go+a,none⟩))) hk rfl ⟨rfl,rfl,rfl,rfl,nofun⟩ rfl rfl (ix39 han) ?_;refine nm rfl ?_;refine hD.store (n:=0) (u:=(.pointer (some ⟨gb,go+a,none⟩))) (z:=(.int .i64 ((v-1:Nat):Int))) hk rfl ⟨rfl,rfl,rfl,rfl,nofun⟩ rfl rfl (fun τ d=>((st3 (w:=re w τ d) hv hf).trans (congrArg (Result.ok ()) re_setCell))) (Nat.le_of_eq (World.size_setCell ..).symm) ?_;refine hD.e0 ?_;refine hD.inBlock (n:=0) ?_;refine hD.r0 ?_;refine hD.move (n:=0) (v:=(.int .i64 (t:Int))) hk rfl ⟨rfl,rfl,rfl,rfl,nofun⟩ h13 ?_;refine nm rfl ?_;refine hD.pure (n:=0) (v:=(.int .i64 ((t+1:Nat):Int))) hk rfl ⟨rfl,rfl,rfl,(by decide +kernel),nofun⟩ (fun w=>pu_inc rfl rfl (by omega)) ?_;refine nm rfl ?_;refine hD.as (.int .i64 ((t+1:Nat):Int)) hk ?_;refine nm rfl ?_;refine hD.e0 ?_;refine hD.inLoop (n:=0) ?_;exact h _ ⟨h1,h3,h4,h5,h11,rfl⟩
theorem ck_bn (hD:Det Try.prog m fun _=>K)(hx:EW n c4 gb go T bx s rb t a r q k x)(han:a<n)(hv:w.cell? ⟨gb,go+a,none⟩=some (.int .i64 (v:Int)))(hf:w.frozen? ⟨gb,go+a,none⟩=false)(hv0:0<v)(hv1:v<4294967296)(ht:t<4294967296)(c1:w.cell? ⟨bx,1,none⟩=some (.slice gp np cp))(htp:¬ t<np)(h:∀ x',EY n c4 gb go T bx s rb (t+1) x'→K (gs ((base 5).at ⟨fr x',[]⟩ [.code (sB (sB (sR (sL (sR (sR (sR (sR (sR (sR (sR (sR (sR c5))))))))))))),.inLoop (sB (sB (sR (sL (sR (sR (sR (sR (sR (sR (sR (sR (sR c5))))))))))))),.inBlock 4,.code (sR (sR (sR (sR (sR (sR (sR (sR (sR (sR c5))))))))))]) cs) (w.setCell ⟨gb,go+a,none⟩ (.int .i64 ((v-1:Nat):Int)))):K (gs ((base 5).at ⟨fr x,[]⟩ [.code (sR (sR (sR (sR (sR (sB (sL (sR (sB (sB (sR (sL (sR (sR (sR (sR (sR (sR (sR (sR (sR c5))))))))))))))))))))),.inBlock 5,.code (sR (sR (sB (sB (sR (sL (sR (sR (sR (sR (sR (sR (sR (sR (sR c5))))))))))))))),.inLoop (sB (sB (sR (sL (sR (sR (sR (sR (sR (sR (sR (sR (sR c5))))))))))))),.inBlock 4,.code (sR (sR (sR (sR (sR (sR (sR (sR (sR (sR c5))))))))))]) cs) w:=by
 have hk:(base 5).kind≠.early:=nofun;obtain⟨h1,h3,h4,h5,h11,h13,h14,h15,h16,h17⟩:=hx;refine hD.s0 ?_;refine hD.s0 ?_;refine hD.r0 ?_;refine hD.gv (n:=0) (v:=(.slice (some ⟨gb,go,none⟩) n c4)) hk rfl rfl rfl (by decide +kernel) nofun (fun τ d=>ex_move rfl h4) ?_;refine nm rfl ?_;refine hD.gv (n:=0) (v:=(.int .i64 (a:Int))) hk rfl rfl rfl (by decide +kernel) nofun (fun τ d=>ex_move rfl h14) ?_;refine nm rfl ?_;refine hD.gv (n:=0) (v:=(.pointer (some ⟨gb,go+a,none⟩))) hk rfl rfl rfl (by decide +kernel) nofun (fun τ d=>ex_index rfl rfl rfl (ix39 han)) ?_;refine nm rfl ?_;refine hD.gv (n:=0) (v:=(.int .i64 (v:Int))) hk rfl rfl rfl (by decide +kernel) nofun (fun τ d=>ex_load rfl rfl (ld3 hv)) ?_;refine nm rfl ?_;refine hD.gv (n:=0) (v:=(.bool false)) hk rfl rfl rfl (by decide +kernel) nofun (fun τ d=>pu_eqF rfl rfl (by omega)) ?_;refine nm rfl ?_;refine hD.gv (n:=0) (v:=(.bool false)) hk rfl rfl rfl (by decide +kernel) nofun (fun τ d=>ex_move rfl rfl) ?_;refine nm rfl ?_;refine hD.gv (n:=0) (v:=(.int .i64 (t:Int))) hk rfl rfl rfl (by decide +kernel) nofun (fun τ d=>ex_move rfl h13) ?_;refine nm rfl ?_;refine hD.gv (n:=0) (v:=(ptrAt bx 1)) hk rfl rfl rfl (by decide +kernel) nofun (fun τ d=>ex_field rfl h1 (fld49 (by omega))) ?_;refine nm rfl ?_;refine hD.gv (n:=0) (v:=(.slice gp np cp)) hk rfl rfl rfl (by decide +kernel) nofun (fun τ d=>ex_load rfl rfl (ld23 c1)) ?_;refine nm rfl ?_;refine hD.gv (n:=0) (v:=(.int .i64 (np:Int))) hk rfl rfl rfl (by decide +kernel) nofun (fun τ d=>pu_len (e:=5) rfl rfl Try.underlying23) ?_;refine nm rfl ?_;refine hD.gv (n:=0) (v:=(.bool false)) hk rfl rfl rfl (by decide +kernel) nofun (fun τ d=>by rw[pu_lss rfl rfl rfl,decide_eq_false (by omega)]) ?_;refine nm rfl ?_;refine hD.gv (n:=0) (v:=(.bool false)) hk rfl rfl rfl (by decide +kernel) nofun (fun τ d=>ex_move rfl rfl) ?_;refine nm rfl ?_;refine hD.gu (n:=0) rfl rfl rfl (by decide +kernel) nofun ?_;refine nm rfl ?_;refine hD.gu (n:=0) rfl rfl rfl (by decide +kernel) nofun ?_;refine nm rfl ?_;refine hD.gu (n:=0) rfl rfl rfl (by decide +kernel) nofun ?_;refine nm rfl ?_;refine hD.gu (n:=0) rfl rfl rfl (by decide +kernel) nofun ?_;refine nm rfl ?_;refine hD.gu (n:=0) rfl rfl rfl (by decide +kernel) nofun ?_;refine nm rfl ?_;refine hD.gu (n:=0) rfl rfl rfl (by decide +kernel) nofun ?_;refine nm rfl ?_;refine hD.gu (n:=0) rfl rfl rfl (by decide +kernel) nofun ?_;refine nm rfl ?_;refine hD.gu (n:=0) rfl rfl rfl (by decide +kernel) nofun ?_;refine nm rfl ?_;refine hD.gu (n:=0) rfl rfl rfl (by decide +kernel) nofun ?_;refine nm rfl ?_;refine hD.gu (n:=0) rfl rfl rfl (by decide +kernel) nofun ?_;refine nm rfl ?_;refine hD.gv (n:=0) (v:=(.bool false)) hk rfl rfl rfl (by decide +kernel) nofun (fun τ d=>pu_pick (t:=false) rfl rfl rfl) ?_;refine nm rfl ?_;refine hD.gv (n:=0) (v:=(.bool false)) hk rfl rfl rfl (by decide +kernel) nofun (fun τ d=>pu_pick (t:=false) rfl rfl rfl) ?_;refine nm rfl ?_;refine hD.e0 ?_;refine hD.cond (n:=0) false rfl rfl ?_;refine hD.k0 ?_;refine hD.r0 ?_;refine hD.move (n:=0) (v:=(.slice (some ⟨gb,go,none⟩) n c4)) hk rfl ⟨rfl,rfl,rfl,rfl,nofun⟩ h4 ?_
 refine nm rfl ?_;refine hD.move (n:=0) (v:=(.int .i64 (a:Int))) hk rfl ⟨rfl,rfl,rfl,rfl,nofun⟩ h14 ?_;refine nm rfl ?_;refine hD.index (n:=0) (v:=(.pointer (some ⟨gb,go+a,none⟩))) hk rfl ⟨rfl,rfl,rfl,rfl,nofun⟩ rfl rfl (ix39 han) ?_;refine nm rfl ?_;refine hD.ld (.int .i64 (v:Int)) hk (fun τ d=>ld3 hv) ?_;refine nm rfl ?_;refine hD.pure (n:=0) (v:=(.int .i64 ((v-1:Nat):Int))) hk rfl ⟨rfl,rfl,rfl,(by decide +kernel),nofun⟩ (fun w=>pu_sub (j:=1) rfl rfl rfl (by omega) (by omega)) ?_;refine nm rfl ?_;refine hD.index (n:=0) (v:=(.pointer (some ⟨gb,go+a,none⟩))) hk rfl ⟨rfl,rfl,rfl,rfl,nofun⟩ rfl rfl (ix39 han) ?_;refine nm rfl ?_;refine hD.store (n:=0) (u:=(.pointer (some ⟨gb,go+a,none⟩))) (z:=(.int .i64 ((v-1:Nat):Int))) hk rfl ⟨rfl,rfl,rfl,rfl,nofun⟩ rfl rfl (fun τ d=>((st3 (w:=re w τ d) hv hf).trans (congrArg (Result.ok ()) re_setCell))) (Nat.le_of_eq (World.size_setCell ..).symm) ?_;refine hD.e0 ?_;refine hD.inBlock (n:=0) ?_;refine hD.r0 ?_;refine hD.move (n:=0) (v:=(.int .i64 (t:Int))) hk rfl ⟨rfl,rfl,rfl,rfl,nofun⟩ h13 ?_;refine nm rfl ?_;refine hD.pure (n:=0) (v:=(.int .i64 ((t+1:Nat):Int))) hk rfl ⟨rfl,rfl,rfl,(by decide +kernel),nofun⟩ (fun w=>pu_inc rfl rfl (by omega)) ?_;refine nm rfl ?_;refine hD.as (.int .i64 ((t+1:Nat):Int)) hk ?_;refine nm rfl ?_;refine hD.e0 ?_;refine hD.inLoop (n:=0) ?_;exact h _ ⟨h1,h3,h4,h5,h11,rfl⟩
end
open Go.ConcN (sumTo upd sumTo_upd upd_ne upd_same)
theorem filter_idx (Q:Nat→Bool):∀ (n j a:Nat),((List.range n).filter Q)[j]?=some a→j=((List.range a).filter Q).length
 | 0,j,a,h=>by simp at h
 | n+1,j,a,h=>by
  rw[List.range_succ,List.filter_append] at h;by_cases hj:j<((List.range n).filter Q).length
  ·rw[List.getElem?_append_left hj] at h
   exact filter_idx Q n j a h
  ·rw[List.getElem?_append_right (by omega)] at h
   cases hq:Q n
   ·simp[List.filter,hq] at h
   ·simp only[List.filter,hq] at h
    have hl:=(List.getElem?_eq_some_iff.1 h).1;simp only[List.length_singleton] at hl;have hz:j-((List.range n).filter Q).length=0:=by omega
    rw[hz] at h;simp only[List.getElem?_cons_zero,Option.some.injEq] at h;subst h;omega
def cntE (c m:Nat→Nat)(k:Nat):Nat:=((List.range k).filter fun j=>decide (m j<c j)).length
theorem cntE_y {c m:Nat→Nat}{k:Nat}(h:m k<c k):cntE c m (k+1)=cntE c m k+1:=by
 unfold cntE;rw[List.range_succ,List.filter_append,la'];simp[List.filter,h]
theorem cntE_n {c m:Nat→Nat}{k:Nat}(h:¬ m k<c k):cntE c m (k+1)=cntE c m k:=by
 unfold cntE;rw[List.range_succ,List.filter_append,la'];simp[List.filter,h]
theorem cntE_le (c m:Nat→Nat)(k:Nat):cntE c m k≤k:=by
 unfold cntE;exact Nat.le_trans (List.length_filter_le ..) (by rw[List.length_range];exact Nat.le_refl _)
section
variable {K:Goroutine→World→Prop}{m:Bool}{cs:List Frame}{n c4 gb go T bx s rb:Nat}
theorem ck_inner {w:World}{t a:Nat}{c mm:Nat→Nat}(hD:Det Try.prog m fun _=>K)(hn8:n≤8)(han:a<n)(hv:∀ j,j<n→w.cell? ⟨gb,go+j,none⟩=some (.int .i64 ((c j-mm j:Nat):Int)))
  (h:∀ x',EW n c4 gb go T bx s rb t a (cntE c mm n) (cntE c mm a) n x'→K (gs ((base 5).at ⟨fr x',[]⟩ [.code (sR (sR (sR (sR (sR (sB (sL (sR (sB (sB (sR (sL (sR (sR (sR (sR (sR (sR (sR (sR (sR c5))))))))))))))))))))),.inBlock 5,.code (sR (sR (sB (sB (sR (sL (sR (sR (sR (sR (sR (sR (sR (sR (sR c5))))))))))))))),.inLoop (sB (sB (sR (sL (sR (sR (sR (sR (sR (sR (sR (sR (sR c5))))))))))))),.inBlock 4,.code (sR (sR (sR (sR (sR (sR (sR (sR (sR (sR c5))))))))))]) cs) w) :
  ∀ (d k:Nat) (x:Nat→Value),n-k=d→k≤n→EW n c4 gb go T bx s rb t a (cntE c mm k) (cntE c mm (min k a)) k x→K (gs ((base 5).at ⟨fr x,[]⟩ [.code (sB (sB (sR (sL (sR (sR (sR (sR (sB (sL (sR (sB (sB (sR (sL (sR (sR (sR (sR (sR (sR (sR (sR (sR c5)))))))))))))))))))))))),.inLoop (sB (sB (sR (sL (sR (sR (sR (sR (sB (sL (sR (sB (sB (sR (sL (sR (sR (sR (sR (sR (sR (sR (sR (sR c5)))))))))))))))))))))))),.inBlock 6,.code (sR (sR (sR (sR (sR (sB (sL (sR (sB (sB (sR (sL (sR (sR (sR (sR (sR (sR (sR (sR (sR c5))))))))))))))))))))),.inBlock 5,.code (sR (sR (sB (sB (sR (sL (sR (sR (sR (sR (sR (sR (sR (sR (sR c5))))))))))))))),.inLoop (sB (sB (sR (sL (sR (sR (sR (sR (sR (sR (sR (sR (sR c5))))))))))))),.inBlock 4,.code (sR (sR (sR (sR (sR (sR (sR (sR (sR (sR c5))))))))))]) cs) w:=by
 intro d
 induction d with
 | zero =>
  intro k x hd hk hx;obtain rfl:k=n:=by omega
  rw[Nat.min_eq_right (by omega)] at hx;exact ck_kout hD hx (by omega) h
 | succ d ih =>
  intro k x hd hk hx;have hkn:k<n:=by omega
  have b1:=cntE_le c mm k;have b2:=cntE_le c mm (min k a);have b3:min k a≤k:=Nat.min_le_left ..;by_cases hp:mm k<c k
  ·by_cases hl:k<a
   ·refine ck_k1 hD hx hkn (hv k hkn) ⟨by omega,by omega,by omega⟩ (by omega) hl fun x' e=>ih (k+1) x' (by omega) (by omega) ?_
    rw[Nat.min_eq_left (by omega),cntE_y hp];rw[Nat.min_eq_left (by omega)] at e;exact e
   ·refine ck_k2 hD hx hkn (hv k hkn) ⟨by omega,by omega,by omega⟩ (by omega) hl fun x' e=>ih (k+1) x' (by omega) (by omega) ?_
    rw[Nat.min_eq_right (by omega),cntE_y hp];rw[Nat.min_eq_right (by omega)] at e;exact e
  ·refine ck_k0 hD hx hkn (hv k hkn) ⟨by omega,by omega,by omega⟩ (by omega) fun x' e=>ih (k+1) x' (by omega) (by omega) ?_
   have e2:cntE c mm (min (k+1) a)=cntE c mm (min k a):=by
    by_cases hl:k<a
    ·rw[Nat.min_eq_left (by omega),Nat.min_eq_left (by omega),cntE_n hp]
    ·rw[Nat.min_eq_right (by omega),Nat.min_eq_right (by omega)]
   rw[e2,cntE_n hp];exact e
structure CkM (w:World)(gb bx s rb eb eo nb no_ ca cn T:Nat)(gp:Option Addr)(np cp:Nat)(ve:Value)(u:Int)(acts picks:List Nat):Prop where
 rbk:Blk w rb [.slice (some ⟨eb,eo,none⟩) T ca,ve,.int .i64 u] 30
 ac:∀ (j a:Nat),acts[j]?=some a→w.cell? ⟨eb,eo+j,none⟩=some (.int .u8 ((a:Nat):Int))
 nt:∀ (j a:Nat),acts[j]?=some a→w.cell? ⟨nb,no_+j,none⟩=some (.int .i64 ((a:Nat):Int))
 s1:w.cell? ⟨s,1,none⟩=some (.slice (some ⟨nb,no_,none⟩) T cn)
 b1:w.cell? ⟨bx,1,none⟩=some (.slice gp np cp)
 pk:∀ (j p:Nat),picks[j]?=some p→∃ pb po,gp=some ⟨pb,po,none⟩∧pb≠gb∧w.cell? ⟨pb,po+j,none⟩=some (.int .u8 ((p:Nat):Int))
 ne:rb≠gb∧eb≠gb∧nb≠gb∧s≠gb∧bx≠gb
theorem CkM.frame {w w':World}{eb eo nb no_ ca cn np cp:Nat}{gp:Option Addr}{ve:Value}{u:Int}{acts picks:List Nat}(M:CkM w gb bx s rb eb eo nb no_ ca cn T gp np cp ve u acts picks)(h:∀ b,b≠gb→w'.heap[b]?=w.heap[b]?):CkM w' gb bx s rb eb eo nb no_ ca cn T gp np cp ve u acts picks :=
 ⟨(h _ M.ne.1).trans M.rbk,fun j a e=>(cell_same (h _ M.ne.2.1)).trans (M.ac j a e),fun j a e=>(cell_same (h _ M.ne.2.2.1)).trans (M.nt j a e),(cell_same (h _ M.ne.2.2.2.1)).trans M.s1,(cell_same (h _ M.ne.2.2.2.2)).trans M.b1,fun j p e=>by
  obtain⟨pb,po,q1,q2,q3⟩:=M.pk j p e;exact⟨pb,po,q1,q2,(cell_same (h _ q2)).trans q3⟩,M.ne⟩
theorem ck_all {eb eo nb no_ ca cn np cp:Nat}{gp:Option Addr}{ve:Value}{u:Int}{acts picks:List Nat}{c:Nat→Nat}(hD:Det Try.prog m fun _=>K)(hn8:n≤8)(hT:acts.length=T)(hT2:T<4294967290)(hc:∀ j,j<n→c j≤16)(hu:∀ p∈picks,p<256)(hnp:picks.length=np) :
  ∀ (d t:Nat) (w:World) (mm:Nat→Nat) (x:Nat→Value),T-t=d→t≤T→SeqE n c mm (picks.drop t) (acts.drop t)→CkM w gb bx s rb eb eo nb no_ ca cn T gp np cp ve u acts picks →
   (∀ j,j<n→w.cell? ⟨gb,go+j,none⟩=some (.int .i64 ((c j-mm j:Nat):Int)))→(∀ j,w.frozen? ⟨gb,go+j,none⟩=false) →
   (∀ w' t todo,(∀ b,b≠gb→w'.heap[b]?=w.heap[b]?)→w'.heap.size=w.heap.size→t.getD 2 undef=.bool true→K (gs { (base 5).at ⟨t,[]⟩ todo with mode:=.returning} cs) w') →
   EY n c4 gb go T bx s rb t x→K (gs ((base 5).at ⟨fr x,[]⟩ [.code (sB (sB (sR (sL (sR (sR (sR (sR (sR (sR (sR (sR (sR c5))))))))))))),.inLoop (sB (sB (sR (sL (sR (sR (sR (sR (sR (sR (sR (sR (sR c5))))))))))))),.inBlock 4,.code (sR (sR (sR (sR (sR (sR (sR (sR (sR (sR c5))))))))))]) cs) w:=by
 intro d
 induction d with
 | zero =>
  intro t w mm x hd ht hs M hv hf h hx;exact ck_out hD hx (by omega) fun t todo e=>h w t todo (fun _ _=>rfl) rfl e
 | succ d ih =>
  intro t w mm x hd ht hs M hv hf h hx;have hlt:t<T:=by omega
  have htl:t<acts.length:=by omega
  obtain⟨a,hea⟩:∃ a,a=acts[t]:=⟨_,rfl⟩;have ha:acts[t]?=some a:=by rw[hea];exact List.getElem?_eq_getElem htl
  rw[List.drop_eq_getElem_cons htl,← hea] at hs;obtain⟨hm,hpk,hs'⟩:=hs;obtain⟨han,hma⟩:=rsE_mem.1 hm;refine ck_in hD hx hlt M.rbk (M.ac t a ha) han hn8 M.s1 (M.nt t a ha) fun x1 e1=>?_;have hca:=hc a han;have hin:=ck_inner (t:=t) (T:=T) (bx:=bx) (s:=s) (rb:=rb) (c4:=c4) (cs:=cs) hD hn8 han hv (fun x2 ee=>?_) n 0 x1 (by omega) (by omega) (by rw[Nat.zero_min];exact e1)
  ·exact hin
  ·have hb:∀ b,b≠gb→(w.setCell ⟨gb,go+a,none⟩ (.int .i64 ((c a-mm a-1:Nat):Int))).heap[b]?=w.heap[b]?:=fun b hne=>setCell_frame hne
   have hsz:(w.setCell ⟨gb,go+a,none⟩ (.int .i64 ((c a-mm a-1:Nat):Int))).heap.size=w.heap.size:=World.size_setCell ..;have next:∀ x3,EY n c4 gb go T bx s rb (t+1) x3→K (gs ((base 5).at ⟨fr x3,[]⟩ [.code (sB (sB (sR (sL (sR (sR (sR (sR (sR (sR (sR (sR (sR c5))))))))))))),.inLoop (sB (sB (sR (sL (sR (sR (sR (sR (sR (sR (sR (sR (sR c5))))))))))))),.inBlock 4,.code (sR (sR (sR (sR (sR (sR (sR (sR (sR (sR c5))))))))))]) cs) (w.setCell ⟨gb,go+a,none⟩ (.int .i64 ((c a-mm a-1:Nat):Int))):=fun x3 e5=>by
    refine ih (t+1) _ (upd mm a (mm a+1)) x3 (by omega) (by omega) ?_ (M.frame hb) (fun j hj=>?_) (fun j=>by rw[World.frozen?_setCell];exact hf j) (fun w' t' todo q1 q2 q3=>h w' t' todo (fun b hne=>(q1 b hne).trans (hb b hne)) (q2.trans hsz) q3) e5
    ·rw[List.tail_drop] at hs'
     exact hs'
    ·by_cases e:j=a
     ·subst e
      rw[upd_same,World.cell?_setCell_same _ _ _ (hv j hj),Nat.sub_sub]
     ·rw[upd_ne _ _ e,World.cell?_setCell_other _ _ _ _ (fun e2=>e (by simp only[Addr.mk.injEq] at e2;omega))]
      exact hv j hj
   have hpos:0<cntE c mm n:=List.length_pos_of_mem hm;by_cases htp:t<np
   ·have htpl:t<picks.length:=by omega
    obtain⟨p,hep⟩:∃ p,p=picks[t]:=⟨_,rfl⟩;have hp:picks[t]?=some p:=by rw[hep];exact List.getElem?_eq_getElem htpl
    have hix:=hpk p (picks.drop (t+1)) (by rw[List.drop_eq_getElem_cons htpl,← hep]);have hq:p % cntE c mm n=cntE c mm a:=filter_idx _ n _ a hix;obtain⟨pb,po,e1,_,e3⟩:=M.pk t p hp;subst e1;exact ck_bm hD ee han (hv a han) (hf a) (by omega) (by omega) (by omega) M.b1 htp e3 (hu p (List.mem_of_getElem? hp)) hpos hq next
   ·exact ck_bn hD ee han (hv a han) (hf a) (by omega) (by omega) (by omega) M.b1 htp next
end
theorem EaM.kp {w w':World}{n:Nat}{its:Nat→List (Int × Int)}{gi:Nat→Option Addr}{ci:Nat→Nat}{bs:List (Nat × Nat)}{N s:Nat}{vf:Value}(M:EaM w n its gi ci bs N s vf)(k:Kp [] w w'):EaM w' n its gi ci bs N s vf :=
 ⟨rep_same M.vf k.size fun b hb=>k.block b (M.vf.fp_lt b hb) (by simp),M.len,k.blk M.sh (by simp),M.Ns,fun i hi=>by
  obtain⟨q1,q2,q3,q4,q5,q6⟩:=M.made i hi;exact⟨q1,q2,q3,q4,k.cel q5 (by simp),k.cel q6 (by simp)⟩,fun i hi j d x hj=>by
  obtain⟨ab,ao,q1,q2,q3,q4⟩:=M.items i hi j d x hj;exact⟨ab,ao,q1,q2,k.cells _ _ _ q3,k.cells _ _ _ q4⟩,fun b hb=>by
  obtain⟨q1,q2,q3⟩:=M.ib b hb;exact⟨q1,nl' q2 k.size,q3⟩⟩
theorem codeM_done (b:Bool)(n:Nat):codeM b (List.replicate n true)=0:=by
 unfold codeM;rw[if_pos (by simp)]
theorem endsM_len (b:Bool)(ds:List Bool):(endsM b ds).length=ds.length:=by
 unfold endsM;rw[List.length_map]
theorem frozen_same {w w':World}{b o:Nat}(e:w'.heap[b]?=w.heap[b]?):w'.frozen? ⟨b,o,none⟩=w.frozen? ⟨b,o,none⟩:=by
 unfold World.frozen?;rw[e]
theorem rep_types {α β:Type}{e1 e2:TypeId}{f:α→List Value}{h:β→List Value}{w:World}{g n1 c1 n2 c2 m1 m2:Nat}{xs:List α}{ys:List β}(r1:Rep e1 m1 f w (.slice (some ⟨g,0,none⟩) n1 c1) xs)(r2:Rep e2 m2 h w (.slice (some ⟨g,0,none⟩) n2 c2) ys):e1=e2:=by
 rcases r1.2 with⟨h0,_⟩ | ⟨g1,cap1,cur1,h0,_,hg1,_⟩
 ·cases h0
 rcases r2.2 with⟨h0',_⟩ | ⟨g2,cap2,cur2,h0',_,hg2,_⟩
 ·cases h0'
 simp only[Value.slice.injEq,Option.some.injEq,Addr.mk.injEq] at h0 h0';obtain⟨⟨rfl,_⟩,_⟩:=h0;obtain⟨⟨rfl,_⟩,_⟩:=h0';rw[hg1] at hg2;simp only[Option.some.injEq,Obj.cells.injEq] at hg2;exact hg2.2.1
section
variable {Post:Value→World→Prop}{S:SC}
theorem each_law {xs:List Int}{vA vP:Value}{picks:List Nat}(hid:Idle S)(hA:Rd (fun x:Int=>Value.int .i64 x) S.w vA xs)(hP:∃ pb,pb<S.w.heap.size∧Bytes pb S.w vP picks)
  (hpost:∀ W,Go.RowKit.Below S.n0 S.W0 W→Post (.bool true) W):Sound Try.prog link.tWg Post 0 S (gs (Frame.enter Try.prog 5 #[.agg #[vA,vP]] .normal) []):=by
 obtain⟨ga,ca,rfl,hx⟩:=hA;obtain⟨pb,hpb,hpk⟩:=hP;obtain⟨gp,cp,rfl,_⟩:=id hpk;have hK:=clS (Post:=Post) S;refine ks (S:=S) (each_enter hK.det fun x0 bx w1 k1 bb hx0=>?_) rfl;show Sound Try.prog link.tWg Post 0 { S with w:=w1} _;refine lives_runs (S:={S with w:=w1}) ⟨hid.roles,hid.grps,hid.pos⟩ rfl fun S2 i2 n2 z2 k2=>?_;have hK2:=clS (Post:=Post) S2;have k02:Kp [] S.w S2.w:=k1.trans k2;have bb2:=k2.cel (Blk.cel bb) (by simp);have hbl:bx<S2.w.heap.size:=bb2.lt;have c0:=bb2.cell 0;have c1:=bb2.cell 1;simp only[List.getElem?_cons_zero,List.getElem?_cons_succ] at c0 c1;refine ks (S:=S2) (each_back hx0 fun x1 hx1 h18=>?_) rfl;have hquit:∀ x,x 1=ptr bx→x 37=.bool true→KS Try.prog link.tWg Post 0 S2 (gs ((base 5).at ⟨fr x,[]⟩ [.code (sR (sL (sR c5))),.code (sR (sR c5))]) []) S2.w:=fun x _ hx=>by
  refine each_odd hK2.det hx ?_;show Sound Try.prog link.tWg Post 0 S2 _;refine lives_runs (S:=S2) i2 rfl fun S3 i3 n3 z3 k3=>?_;have hK3:=clS (Post:=Post) S3;refine ks (S:=S3) (each_quit hK3.det fun t todo e=>?_) rfl;exact sound_true (S:=S3) i3 Try.func5 (by decide +kernel) rfl e fun W hW=>hpost W (by rw[n3.trans n2,z3.trans z2] at hW;exact hW)
 by_cases h1:xs.length<1
 ·exact each_q1 hK2.det c0 c1 hx1 h18 h1 hquit
 by_cases h2:8<xs.length
 ·exact each_q2 hK2.det c0 c1 hx1 h18 h1 h2 hquit
 by_cases h3:65536<picks.length
 ·exact each_q3 hK2.det c0 c1 hx1 h18 h1 h2 h3 hquit
 refine each_q4 hK2.det c0 c1 hx1 h18 h1 h2 h3 fun x2 hy2 hx2=>?_;refine each_begin hK2.det hy2 hx2 fun s w3 x3 k3 bs hs e3=>?_;obtain⟨ab,ao,rfl,hxc⟩:=hx (by rintro rfl;simp at h1);have hx0:0<xs.length:=by omega
 have habl:ab<S.w.heap.size:=cell_lt (hxc 0 _ (List.getElem?_eq_getElem hx0));have k03:Kp [] S.w w3:=k02.trans k3;have s02:=k02.size;have s3:s≤w3.heap.size:=hs▸k3.size;refine each_first hK2.det ?_;refine each_loop (acts:=fun j=>xs.getD j 0) (N:=s) (ab:=ab) (ao:=ao) hK2 (by omega) (by omega) (by omega) (xs.length-0) 0 w3 (fun _=>0) (fun _=>none) (fun _=>0) [] _ _ x3 rfl (Nat.zero_le _) s3 (ea_none bs (Nat.le_refl _) _ _ _) e3 (k3.cells _ _ _ c0)
  (fun j hj=>k03.cells _ _ _ (hxc j _ (by rw[List.getD_eq_getElem?_getD,List.getElem?_eq_getElem hj];rfl))) fun w4 c gi ci bs4 v4 v6 x4 I z4 low e5=>?_
 have c14:w4.cell? ⟨bx,1,none⟩=some (.slice gp picks.length cp):=(cell_same (low bx (by omega))).trans (k3.cells _ _ _ c1);refine each_call hK2.det e5 c14 fun x5 e6'=>?_;refine run_enter hK2.det ?_;have kob:=Kp.alloc [] w4 (.cells #[.slice none 0 0,.slice none 0 0,.int .i64 0] 30);have bob:Blk (w4.alloc (.cells #[.slice none 0 0,.slice none 0 0,.int .i64 0] 30)) w4.heap.size [.slice none 0 0,.slice none 0 0,.int .i64 0] 30:=Blk.new _ _ _;obtain⟨ob,hob⟩:∃ ob,ob=w4.heap.size:=⟨_,rfl⟩;rw[← hob] at bob ⊢;generalize w4.alloc (.cells #[.slice none 0 0,.slice none 0 0,.int .i64 0] 30)=w5 at kob bob ⊢;have M5:=I.M.kp kob;have hXlt:=I.M.lt;have hsX:s<w4.heap.size:=I.M.sh.lt;have s45:=kob.size;have hpk5:Bytes pb w5 (.slice gp picks.length cp) picks:=hpk.same (by
  rw[kob.block pb (by omega) (by simp),low pb (by omega)];exact k03.block pb hpb (by simp))
 show Sound Try.prog link.tWg Post 0 { S2 with w:=w5} _;have hc16:∀ i,i<xs.length→(itE i (c i)).length≤32:=fun i hi=>by
  have:=itE_le i (c i);have:=(I.one i hi).2;omega
 refine watch_each (S:={S2 with w:=w5}) ⟨i2.roles,i2.grps,i2.pos⟩ rfl M5 hx0 (by omega) (by omega) (by omega) hpk5 (by omega) (show s≤w5.heap.size by omega) (fun i hi=>by have:=hc16 i hi;omega) ?_ fun S6 ga6 na6 ca6 ge6 ne6 ce6 i6 n6 z6 sz6 blk6 hsh hac hen=>?_
 ·have:=sumTo_le (n:=xs.length) (B:=33) (f:=fun j=>(itE j (c j)).length+1) fun i hi=>by have:=hc16 i hi;show(itE i (c i)).length+1≤33;omega
  omega
 obtain⟨al,r1,r2,r3,r4,r5⟩:=runD_each (n:=xs.length) (c:=c) (its:=fun k=>itE k (c k)) (picks:=picks) (most:=((sumTo xs.length c:Nat):Int)) (fun i hi=>⟨rfl,by have:=(I.one i hi).1;omega⟩) rfl;rw[r1] at hac hen ⊢;rw[r2] at hsh;rw[r5] at hen ⊢;rw[codeM_done];have szw:w5.heap.size≤S6.w.heap.size:=sz6;have hobn:¬ eaX xs.length (fun k=>itE k (c k)) gi bs4 s ob:=fun h=>by have:=hXlt ob h;omega
 have hK6:=clS (Post:=Post) S6;refine ks (S:=S6) (run_back hK6.det rfl ((blk6 ob bob.lt hobn).trans bob) fun w7 f7 s7=>?_) rfl;refine each_ran hK6.det e6' fun rb w8 x8 hrb k8 brb e8' h12=>?_;have toW8:∀ b,b<S6.w.heap.size→b≠ob→w8.heap[b]?=S6.w.heap[b]?:=fun b hb hn=>by rw[k8.block b (by omega) (by simp),f7 b hn]
 have to48:∀ b,b<w4.heap.size→¬ eaX xs.length (fun k=>itE k (c k)) gi bs4 s b→w8.heap[b]?=w4.heap[b]?:=fun b hb hn=>by
  rw[toW8 b (by omega) (by omega),blk6 b (show b<w5.heap.size by omega) hn,kob.block b hb (by simp)]
 obtain⟨vn,hs1,hs2,hs3⟩:=hsh;have hT0:0<sumTo xs.length c:=by
  have:=le_sumTo' c hx0;have:=(I.one 0 hx0).1;omega
 obtain⟨gb,c4,e4,hgb,_⟩:=I.cnt.ex (by rw[List.length_map,List.length_range];omega);rw[List.length_map,List.length_range] at e4;subst e4;have hgm:gb∈fp (.slice (some ⟨gb,0,none⟩) xs.length c4):=by simp[fp,Value.ownBlock]
 obtain⟨hgN,hgX⟩:=I.f4 gb hgm;have g8:=to48 gb hgb hgX;obtain⟨eb,ca',e6,heb,_⟩:=hac.ex (by omega);simp only[Value.slice.injEq] at e6;obtain⟨rfl,rfl,rfl⟩:=e6;obtain⟨nb,cn,e7,hnb,_⟩:=hs2.ex (by rw[List.length_map];omega);rw[List.length_map] at e7;subst e7;obtain⟨ge,ce',e8,_⟩:=hen.form;rw[endsM_len,List.length_replicate] at e8;simp only[Value.slice.injEq] at e8;obtain⟨rfl,rfl,rfl⟩:=e8;rw[r3] at brb hs1;have s8:=k8.size;have cnt6:RepI S6.w (.slice (some ⟨gb,0,none⟩) xs.length c4) _:=rep_same I.cnt (by omega) fun b hb=>by
  obtain rfl:b=gb:=by simpa[fp,Value.ownBlock] using hb
  rw[blk6 b (show b<w5.heap.size by omega) hgX,kob.block b hgb (by simp)]
 have hebg:eb≠gb:=fun e=>by
  subst e;have:=rep_types hac cnt6;cases this
 have hnbg:nb≠gb:=fun e=>by
  subst e;rcases hs3 nb (by simp[fp,Value.ownBlock]) with q | q
  ·exact hgX q
  ·have:w5.heap.size≤nb:=q
   omega
 have hebo:eb≠ob:=fun e=>by
  subst e;have hb6:Blk S6.w eb [.slice none 0 0,.slice none 0 0,.int .i64 0] 30:=(blk6 eb bob.lt hobn).trans bob;rcases hac.2 with⟨h0,_⟩ | ⟨g1,cap1,cur1,h0,_,hg1,_⟩
  ·cases h0
  simp only[Value.slice.injEq,Option.some.injEq,Addr.mk.injEq] at h0;obtain⟨⟨rfl,_⟩,_⟩:=h0;rw[show S6.w.heap[eb]?=_ from hb6] at hg1;simp only[Option.some.injEq,Obj.cells.injEq] at hg1;exact absurd hg1.2.1 (by decide)
 have hnbo:nb≠ob:=fun e=>by
  subst e;rcases hs3 nb (by simp[fp,Value.ownBlock]) with q | q
  ·exact hobn q
  ·have:w5.heap.size≤nb:=q
   have:=bob.lt;omega
 have hso:s≠ob:=by omega
 have hss:Blk w8 s _ 41:=(toW8 s hs1.lt hso).trans hs1;refine each_fit (T:=sumTo xs.length c) hK6.det e8' h12 brb (hss.cell 1) fun x9 e9=>?_;refine ck_first hK6.det e9 fun x10 e10=>?_;have hMk:CkM w8 gb bx s rb eb 0 nb 0 ca6 cn (sumTo xs.length c) gp picks.length cp (.slice ge6 xs.length ce6) ((picks.length-(runD xs.length (fun k=>itE k (c k)) false (-77) 0 ((sumTo xs.length c:Nat):Int) picks).left.length:Nat):Int) al picks :=
  ⟨brb,fun j a e=>by rw[Nat.zero_add];exact(cell_same (toW8 eb heb hebo)).trans (hac.cell1 (u:=fun x:Nat=>Value.int .u8 x) (fun _=>rfl) j a e),
   fun j a e=>by rw[Nat.zero_add];exact(cell_same (toW8 nb hnb hnbo)).trans (hs2.cell1 (u:=fun x:Int=>Value.int .i64 x) (fun _=>rfl) j (a:Int) (by rw[List.getElem?_map,e];rfl)),
   hss.cell 1,(cell_same (to48 bx (by omega) fun h=>by
    rcases h with h | h | ⟨i,hi,h⟩
    ·omega
    ·have:=(I.M.ib bx h).1;omega
    ·have:=I.M.made i hi;omega)).trans c14,fun j p e=>by
    obtain⟨g',c',e',_,_,_,hpx⟩:=hpk5;obtain⟨o,e2,hpc⟩:=hpx (by rintro rfl;simp at e);simp only[Value.slice.injEq] at e';obtain⟨e',_,_⟩:=e';refine⟨pb,o,e'.trans e2,by omega,(cell_same ?_).trans (hpc j p e)⟩;rw[toW8 pb (by omega) (by omega),blk6 pb (show pb<w5.heap.size by omega) fun h=>by
     rcases h with h | h | ⟨i,hi,h⟩
     ·omega
     ·have:=(I.M.ib pb h).1;omega
     ·have:=I.M.made i hi;omega],by omega,hebg,hnbg,by intro e;subst e;exact hgX (.inl rfl),by omega⟩
 refine ck_all (c:=c) (go:=0) (eo:=0) (no_:=0) (picks:=picks) (acts:=al) hK6.det (by omega) r3 ?_ (fun j hj=>(I.one j hj).2) (by obtain⟨_,_,_,_,_,q,_⟩:=hpk5;exact q) rfl (sumTo xs.length c-0) 0 w8 (fun _=>0) x10 rfl (Nat.zero_le _) (by rw[List.drop_zero,List.drop_zero];exact r4) hMk (fun j hj=>?_) (fun j=>?_) (fun w9 t todo q1 q2 e=>?_) e10
 ·have:=sumTo_le (n:=xs.length) (B:=16) (f:=c) fun i hi=>(I.one i hi).2
  omega
 ·rw[Nat.zero_add,Nat.sub_zero]
  exact(cell_same g8).trans (I.cnt.cell1 (u:=fun x:Int=>Value.int .i64 x) (fun _=>rfl) j _ (by rw[List.getElem?_map,List.getElem?_range hj];rfl))
 ·rw[frozen_same g8]
  exact I.cnt.frozen _
 ·exact sound_true (S:={S6 with w:=w9}) ⟨i6.roles,i6.grps,i6.pos⟩ Try.func5 (by decide +kernel) rfl e fun W hW=>hpost W (by
   have e1:S6.n0=S.n0:=n6.trans n2;have e2:S6.W0=S.W0:=z6.trans z2;have hW':Go.RowKit.Below S6.n0 S6.W0 W:=hW;rw[e1,e2] at hW';exact hW')
end
end Go.Proofs.Ytkoehgfebipkkaa.Lift
namespace Go.Proofs.Ytkoehgfebipkkaa.Z
open Go Go.Conc Go.ChangeShapes Go.WideShapes Go.ChangeAt Go.RowKit Go.Deep Lift
theorem cells39:Try.prog.cellsOf 39=1:=by kernel_rfl
theorem cells49:Try.prog.cellsOf 49=2:=by kernel_rfl
def IntsIn (w:World)(vp:Value)(xs:List Int):Prop:=∃ g c,vp=.slice g xs.length c∧SlOk w g xs.length c∧∀ (j:Nat) (u:Int),xs[j]?=some u→∃ b o,g=some ⟨b,o,none⟩∧w.cell? ⟨b,o+j,none⟩=some (.int .i64 u)
section
variable {H:Type}{enc:TypeId × Value→H}{w:World}{held:Bool}{fuel:Nat}{cs:List Value}{x:DataW H × List MemPlace}
theorem open_ints (h:DataW.trod enc Try.prog w 0 (fun _=>true) held fuel 39 cs=some x):∃ (vp:Value) (xs:List Int),cs=[vp]∧IntsIn w vp xs:=by
 rcases open_slice Try.underlying39 h with⟨rfl,rfl⟩ | ⟨a,len,cap,m,n,D,Pl,rfl,_,hle,hmx,hm,rfl,hi⟩
 ·exact⟨_,[],rfl,none,0,rfl,fun a ha=>(by cases ha),fun j u hj=>by simp at hj⟩
 ·rw[if_pos rfl] at hm
  subst hm;rw[cells3] at hi;have hcell:∀ i,i<m→∃ u:Int,a.spot=none∧w.cell? ⟨a.block,a.off+i,none⟩=some (.int .i64 u):=by
   intro i hlt;obtain⟨cs',hc,hd⟩:=hi i hlt;obtain⟨_,hcl,hat⟩:=World.cells?_some hc;obtain⟨v,rfl,_,hw⟩:=DataW.trod_int Try.underlying3 hd;have h0:=hat 0 (by omega);have hs:a.spot=none:=spot_of (hi 0 (by omega)).choose_spec.1 (by omega);obtain⟨b,o,s⟩:=a;simp only at hs;subst hs;rw[add_at,add_at,Nat.mul_one,Nat.add_zero] at h0;exact⟨v,rfl,h0⟩
  obtain⟨xs,hl,hxs⟩:=list_of (α:=Int) len fun i hlt=>hcell i (by omega);refine⟨_,xs,rfl,some a,m,by rw[hl],fun a' ha=>?_,fun j u hj=>?_⟩
  ·cases ha
   by_cases h0:m=0
   ·exact .inr ⟨by omega,h0⟩
   ·obtain⟨_,_,h2⟩:=hcell 0 (by omega)
    exact .inl (cell_row (a:=⟨a.block,_,none⟩) h2)
  ·obtain⟨h1,h2⟩:=hxs j u hj
   obtain⟨b,o,s⟩:=a;simp only at h1;subst h1;exact⟨b,o,rfl,h2⟩
theorem open_each {c0 c1:Value}(h:DataW.trod enc Try.prog w 0 (fun _=>true) held fuel 49 [c0,c1]=some x):∃ (xs:List Int) (picks:List Nat),IntsIn w c0 xs∧BytesIn w c1 picks∧picks.length+1≤Rows.uptoBulk x.1:=by
 obtain⟨xs,k,_,hx,_,hxl,hf⟩:=DataW.trod_struct Try.underlying49 h;have f0:=hf 0 { name := "Acts",type:=39,offset:=0,embedded:=false,tag := "",pkgPath := "",byteOffset:=0} rfl;have f1:=hf 1 { name := "Picks",type:=23,offset:=1,embedded:=false,tag := "",pkgPath := "",byteOffset:=24} rfl;dsimp only at f0 f1;rw[cells39] at f0;rw[cells23] at f1;change DataW.trod enc Try.prog w 0 (fun _=>true) held k 39 [c0]=_ at f0;change DataW.trod enc Try.prog w 0 (fun _=>true) held k 23 [c1]=_ at f1;have hx2:xs.length=2:=hxl;rw[List.getElem?_eq_getElem (by omega)] at f0 f1;obtain⟨va,ys,e0,hA⟩:=open_ints f0;obtain⟨vp,picks,e1,hB,hb⟩:=open_bytes f1;cases e0;cases e1;refine⟨ys,picks,hA,hB,?_⟩;have hd:x.1=.agg (xs.map (·.1)):=congrArg Prod.fst hx;have h5:xs=[xs[0],xs[1]]:=by
  apply List.ext_getElem
  ·simpa using hx2
  ·intro i h1 h2
   have:i=0∨i=1:=by omega
   rcases this with rfl | rfl<;>rfl
 rw[hd,h5];simp only[List.map_cons,List.map_nil,Rows.uptoBulkAll,Rows.uptoBulk];omega
end
theorem ints_seen {W:World}{vp:Value}{xs:List Int}(B:IntsIn W vp xs):Rd (fun x:Int=>Value.int .i64 x) (seenW W) vp xs:=by
 obtain⟨g,c,rfl,_,hc⟩:=B;refine⟨g,c,rfl,fun hne=>?_⟩;obtain⟨u,l,e⟩:=List.exists_cons_of_ne_nil hne;obtain⟨b,o,hg,h⟩:=hc 0 u (by rw[e];rfl);refine⟨b,o,hg,fun j u hj=>?_⟩;obtain⟨b',o',hg',h'⟩:=hc j u hj;rw[hg] at hg';cases hg';exact seenW_cell h' (.flat rfl)
theorem ints_rel {W:World}{vp:Value}{xs:List Int}(B:IntsIn W vp xs):VRel (seenR W) vp vp:=by
 obtain⟨g,c,rfl,h,_⟩:=B;exact slOk_rel h
theorem each_rel {W:World}{va vp:Value}(h1:VRel (seenR W) va va)(h2:VRel (seenR W) vp vp):VRel (seenR W) (.agg #[va,vp]) (.agg #[va,vp]):=by
 refine .agg rfl fun i v V a b=>?_;rw[a] at b;cases b
 match i,a with
 | 0,a=>cases a;exact h1
 | 1,a=>cases a;exact h2
 | _+2,a=>simp at a
theorem list2 {α:Type}{l:List α}(h:l.length=2):∃ a b,l=[a,b]:=by
 match l,h with
 | [a,b],_=>exact⟨a,b,rfl⟩
theorem each_contract (H:Type)(enc:TypeId × Value→H)(W:World)(base:Nat)(args:Array Value)(ds gs:List (DataW H))(before:List MemPlace)
  (hval:∀ (j:Nat) t v,Try.f5.params[j]?=some t→args[j]?=some v→Value.okWide Try.prog W .any base t v)
  (hW:DataW.Whole enc Try.prog Try.f5.params.toList Rows.schedEachSpec.vars false W args.toList ds gs before) (hk:Rows.uptoSmall H (ds++gs)=true) (h00:0<W.heap.size) :
  ∃ N last o w' t',runNT Try.prog (N+1) (solo (G (Frame.enter Try.prog 5 args .normal) []) W) #[]=(.ended o w',t')∧runN Try.prog N (solo (G (Frame.enter Try.prog 5 args .normal) []) W)=.next last ∧
    step Try.prog last=.ended o w'∧Go.Conc.Good Try.prog (fun v w'=>Rows.schedEachSpec.post enc Try.prog Try.f5 false true false false W args v w') last o w' t':=by
 have hW':=hW;obtain⟨p,q,hA0,hV,rfl,hfz,hnd⟩:=hW;have hA:DataW.TrodAll enc Try.prog W 0 (fun _=>true) true Try.f5.params.toList args.toList ds p:=hA0;rw[Try.params5] at hA hval;obtain⟨v0,vs0,d0,ds0,p0,q0,hargs,rfl,rfl,h0,r0⟩:=trodAll_cons hA;obtain⟨rfl,rfl,rfl⟩:=trodAll_nil r0;obtain rfl:args=#[v0]:=by cases args;simp_all
 obtain⟨rfl,rfl⟩:=trodVars_none hV;obtain⟨cs,rfl,hsz⟩:=okWide_struct Try.underlying49 (hval 0 49 v0 rfl rfl);rw[cells49] at hsz;obtain⟨c0,c1,hcs⟩:=list2 (by rw[Array.length_toList];exact hsz);obtain rfl:cs=#[c0,c1]:=by cases cs;simp_all
 have h0':=h0;obtain⟨fuel,ht⟩:=h0';change DataW.trod enc Try.prog W 0 (fun _=>true) true fuel 49 [c0,c1]=_ at ht;obtain⟨xs,picks,hX,hB,hbk⟩:=open_each ht;have hb1:picks.length+1≤1048576:=by
  rw[List.append_nil] at hk;have h:=bulk_of hk;simp only[Rows.uptoBulkAll] at h;have:_≤Rows.uptoBulk d0:=hbk;omega
 clear hA0 hA ht;simp only[List.append_nil] at hW' h0;have hPk:∃ pb,pb<(seenW W).heap.size∧Bytes pb (seenW W) c1 picks :=
  (plA_seen (its:=fun _=>[]) (gi:=fun _=>none) (ci:=fun _=>0) (n:=0) (vt:=.slice none 0 0) ⟨⟨none,0,rfl,fun a ha=>(by cases ha),fun i hi=>absurd hi (Nat.not_lt_zero i)⟩,fun i hi=>absurd hi (Nat.not_lt_zero i),fun i hi=>absurd hi (Nat.not_lt_zero i)⟩ hB (by simpa using hb1) h00).pk
 refine sound_start (ty:=link.tWg) (fun i v hi=>?_) (each_law (start_idle W) (ints_seen hX) hPk fun W' hB'=>?_)
 ·match i,hi with
  | 0,hi=>cases hi;exact each_rel (ints_rel hX) (bytes_rel hB)
  | _+1,hi=>simp at hi
 ·exact post_true rfl rfl rfl (fun _=>rfl) (by kernel_rfl) (of_decide_eq_true (by kernel_rfl)) hW' h0 hB'
theorem each_lifted (os:Os)(started:os.Started)(H:Type)(enc:TypeId × Value→H)(F:Stop.Interp) :
  ReturnsInLeavingWide {} Try.checked os 5 .any ((Rows.OpenSpec.upto Rows.schedEachSpec).pre6 enc Try.prog Try.f5 Rows.schedEachUptoRow.domain false) (((Rows.OpenSpec.upto Rows.schedEachSpec).at F).post enc Try.prog Try.f5 false true false false):=by
 refine leaving_of_cond (C:=Try.checked) (s:=Rows.OpenSpec.upto Rows.schedEachSpec) (k:=Rows.uptoSmall) rfl own started Try.func5 some_heap
  (OpenSpec.witness (enc:=enc) (C:=Try.checked) (s:=Rows.OpenSpec.upto Rows.schedEachSpec) (k:=Rows.uptoSmall) rfl false ⟨#[],#[.agg #[.slice none 0 0,.slice none 0 0]],[]⟩ 8 (by kernel_rfl) (by kernel_rfl) (by kernel_rfl)
   (x:=([.agg [.nil,.nil]],[],[])) (by kernel_rfl) rfl (by kernel_rfl)) ?_
 intro W base args ds gs before hval hW hk h0;exact each_contract H enc W base args ds gs before hval hW hk h0
theorem schedEach_upto:Rows.SchedEachUptoSaid :=
 holds_upto 5 Try.f5 rfl rfl rfl rfl rfl rfl rfl ⟨rfl,rfl,rfl,rfl,rfl⟩ rfl rfl rfl rfl rfl (by kernel_rfl) Try.func5 (by kernel_rfl)
  (of_decide_eq_true (by kernel_rfl)) (by unfold Func.isWrapper;first | (rw[if_pos (by decide +kernel)];kernel_rfl) | (rw[if_neg (by decide +kernel)];exact⟨rfl,rfl⟩))
  (fun os started H enc _ F=>each_lifted os started H enc F)
end Go.Proofs.Ytkoehgfebipkkaa.Z
