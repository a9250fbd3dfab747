/- LockFloats, whatever comes in: true, and what came in reads as it did. -/
import Derived.Deep.RegionLaw
import Derived.Test.YtfbjopkiicmiiaaRows
import Derived.WalkKit
import Derived.ProofKit
import Derived.OpenShut
import Derived.JoinedCond
import Derived.Deep.Slices
import Derived.Deep.Fields
import Derived.ChangeSame
import Derived.Conc.Holds
import Derived.Conc.LeavingOf
import Derived.Test.YtfbjopkiicmiiaaMd
set_option linter.unusedVariables false
set_option linter.unusedSimpArgs false
set_option maxRecDepth 100000
set_option maxHeartbeats 6400000
noncomputable section
namespace Go.Proofs.Ytfbjopkiicmiiaa.Lift
open Go Go.Conc Go.RowKit Pl
open Go.ConcN (sumTo upd sumTo_upd upd_ne upd_same)
section
variable {P:Program}{m:Bool}{Kn:Nat→Goroutine→World→Prop}{b:Frame}{a:Act}{k:List Item}{cs:List Frame}{w w':World}{n:Nat}{ops:Array Oper}{i:Nat}{rest:List Nat}{o:Oper}{v:Value}
theorem Det.gv {dst:Option Tmp}(hK:Det P m Kn)(hk:b.kind≠.early)(ho:ops[i]?=some o)(hw:Region.wanted o (yielded ops a.tmps)=true)(hd:o.dst=dst)(hok:okOp P o.op=true)(hnp:∀ x,o.op≠.panic x)(hr:∀ τ d,(execOp a.eval o).run P (re w τ d)=.ok (.value v) (re w τ d))
  (h:Kn n (gs (b.at (a.put dst v) (.inRegion ops rest::k)) cs) w):Kn (n+1) (gs (b.at a (.inRegion ops (i::rest)::k)) cs) w:=by
 refine hK _ _ _ _ _ rfl ⟨fun _=>okHd_op ho hok hnp,fun τ d=>⟨_,stepG_value ho hw hk (hr τ d)⟩,⟨rfl,rfl⟩,Nat.le_refl _⟩ ?_;rw[hd];exact h
theorem Det.gu {dst:Option Tmp}(hK:Det P m Kn)(ho:ops[i]?=some o)(hw:Region.wanted o (yielded ops a.tmps)=false)(hd:o.dst=dst)(hok:okOp P o.op=true)(hnp:∀ x,o.op≠.panic x)
  (h:Kn n (gs (b.at (a.put dst undef) (.inRegion ops rest::k)) cs) w):Kn (n+1) (gs (b.at a (.inRegion ops (i::rest)::k)) cs) w:=by
 refine hK _ _ _ _ _ rfl ⟨fun _=>okHd_op ho hok hnp,fun τ d=>⟨_,stepG_unwanted ho hw⟩,⟨rfl,rfl⟩,Nat.le_refl _⟩ ?_;rw[hd];exact h
end
theorem pu_pick {a:Act}{oo:Oper}{w:World}{c x y:Operand}{t:Bool}{v:Value}(h:oo.op=.pick c x y)(hc:a.eval c=.bool t)(hv:(if t then a.eval x else a.eval y)=v):(execOp a.eval oo).run Try.prog w=.ok (.value v) w:=by
 unfold execOp;rw[h];cases t
 ·simp only[hc];rw[if_neg (by decide)] at hv;simp only[hv];rfl
 ·simp only[hc];rw[if_pos rfl] at hv;simp only[hv];rfl
theorem pu_eqT {a:Act}{oo:Oper}{w:World}{x:Operand}{i c:Int}(h:oo.op=.binOp .eql 3 x (.const (.int .i64 c)) 3)(hx:a.eval x=.int .i64 i)(hi:i=c):(execOp a.eval oo).run Try.prog w=.ok (.value (.bool true)) w:=by
 subst hi;unfold execOp;rw[h];simp only[hx];rw[show a.eval (.const (.int .i64 i))=.int .i64 i from rfl];exact run_vv (by simp[go_sem,Try.underlying3,Try.runUnderlying3])
theorem pu_eqF {a:Act}{oo:Oper}{w:World}{x:Operand}{i c:Int}(h:oo.op=.binOp .eql 3 x (.const (.int .i64 c)) 3)(hx:a.eval x=.int .i64 i)(hi:i≠c):(execOp a.eval oo).run Try.prog w=.ok (.value (.bool false)) w:=by
 unfold execOp;rw[h];simp only[hx];rw[show a.eval (.const (.int .i64 c))=.int .i64 c from rfl];exact run_vv (by simp[go_sem,Try.underlying3,Try.runUnderlying3,hi])
theorem pu_bstep {a:Act}{oo:Oper}{w:World}(h:oo.op=.build 72 #[]):(execOp a.eval oo).run Try.prog w=.ok (.value (stopV false false false .nilFunc)) w:=by
 unfold execOp;rw[h];exact run_vv (by simp[go_sem,Try.underlying72,Try.runUnderlying72,Try.sizeOf72,Try.zeroValue72])
theorem pu_bwait {a:Act}{oo:Oper}{w:World}{x:Operand}{rv:Value}(h:oo.op=.build 72 #[(3,x)])(hx:a.eval x=rv)(hr:isFn rv):(execOp a.eval oo).run Try.prog w=.ok (.value (stopV false false false rv)) w:=by
 unfold execOp;rw[h];generalize a.eval=ρ at hx ⊢;rcases hr with rfl | ⟨f,x',c,rfl⟩<;>exact run_vv (by simp[go_sem,hx,Try.underlying72,Try.runUnderlying72,Try.sizeOf72,Try.zeroValue72,Try.sizeOf42,Try.sizeOf4])
section
variable {K:Goroutine→World→Prop}{m:Bool}{w:World}{cs:List Frame}{b:Nat}{cl:Frame}{rv v:Value}
def y15 (tm:Array Value):Frame:=(base 23).at ⟨tm,[]⟩ [.inRegion (sO c15) [2]]
def y16 (tm:Array Value):Frame:=(base 33).at ⟨tm,[]⟩ [.inRegion (sO c16) [3]]
theorem enter15 {x0:Value}:Frame.enter Try.prog 23 #[x0] .normal=(base 23).at ⟨#[x0,uu,uu,uu,uu],[]⟩ [.code c15]:=enter_lit Try.func23 rfl rfl
theorem enter16 {x0 x1:Value}:Frame.enter Try.prog 33 #[x0,x1] .normal=(base 33).at ⟨#[x0,x1,uu,uu,uu,uu,uu,uu],[]⟩ [.code c16]:=enter_lit Try.func33 rfl rfl
theorem step_to (hD:Det Try.prog m fun _=>K)(h:∀ tm,K (gs (Frame.enter Try.prog 30 #[ptr b,stopV false false false .nilFunc] .normal) (y15 tm::cs)) w):K (gs (Frame.enter Try.prog 23 #[ptr b] .normal) cs) w:=by
 rw[enter15];have hk:(base 23).kind≠.early:=nofun;refine hD.r0 ?_;refine hD.mv (ptr b) hk ?_;refine hD.pu (stopV false false false .nilFunc) hk (fun w=>pu_bstep rfl) ?_;refine norm0 (a':=⟨#[ptr b,uu,ptr b,(stopV false false false .nilFunc),uu],[]⟩) ?_;refine hD.cf #[ptr b,stopV false false false .nilFunc] hk Try.func30 ?_;exact h _
theorem wait_to (hD:Det Try.prog m fun _=>K)(hrv:isFn rv)(h:∀ tm,K (gs (Frame.enter Try.prog 30 #[ptr b,stopV false false false rv] .normal) (y16 tm::cs)) w):K (gs (Frame.enter Try.prog 33 #[ptr b,rv] .normal) cs) w:=by
 rw[enter16];have hk:(base 33).kind≠.early:=nofun;refine hD.r0 ?_;refine hD.mv (ptr b) hk ?_;refine hD.mv rv hk ?_;refine hD.pu (stopV false false false rv) hk (fun w=>pu_bwait (x:=.tmp 5) rfl rfl hrv) ?_;refine norm0 (a':=⟨#[ptr b,rv,uu,uu,ptr b,rv,(stopV false false false rv),uu],[]⟩) ?_;refine hD.cf #[ptr b,stopV false false false rv] hk Try.func30 ?_;exact h _
theorem y15_back {tm:Array Value}(hD:Det Try.prog m fun _=>K)(hcm:cl.mode=.run)(h:K (gs (cl.finish (.tuple #[])) cs) w):K (gs ((y15 tm).finish v) (cl::cs)) w:=by
 unfold y15;refine fin0 (some 4) ?_;refine hD.e0 ?_;refine hD.end (n:=0) ?_;exact hD.leave (n:=0) (b:=base 23) (v:=.tuple #[]) rfl rfl Try.func23 (fun τ d=>res0 rfl) hcm h
theorem y16_back {tm:Array Value}(hD:Det Try.prog m fun _=>K)(hcm:cl.mode=.run)(h:K (gs (cl.finish (.tuple #[])) cs) w):K (gs ((y16 tm).finish v) (cl::cs)) w:=by
 unfold y16;refine fin0 (some 7) ?_;refine hD.e0 ?_;refine hD.end (n:=0) ?_;exact hD.leave (n:=0) (b:=base 33) (v:=.tuple #[]) rfl rfl Try.func33 (fun τ d=>res0 rfl) hcm h
end
section
variable {Post:Value→World→Prop}{S:SC}{cl:Frame}{cs:List Frame}
theorem watch_bad (hcl:cl.mode=.run){g0:Option Addr}{c0:Nat}{vs:List Value}{v1 bh:Value}{left:List Nat}{most:Int}{pb:Nat}(hv:∀ u∈vs,u=.nilFunc∨∃ f cap,u=.func (.func f) #[] cap)
  (hc:vs≠[]→∃ b o,g0=some ⟨b,o,none⟩∧b<S.w.heap.size∧∀ (j:Nat) (u:Value),vs[j]?=some u→S.w.cell? ⟨b,o+j,none⟩=some u) (hl:Bytes pb S.w v1 left) (hpb:pb<S.w.heap.size) (he:fitsM vs most left.length≠0)
  (h:∀ w',Kp [] S.w w'→Sound Try.prog link.tWg Post 0 { S with w:=w'} (gs (cl.finish (.tuple #[.agg #[.slice none 0 0,.slice none 0 0,.int .i64 0],.int .i64 (fitsM vs most left.length)])) cs)) :
  Sound Try.prog link.tWg Post 0 S (gs (Frame.enter Try.prog 32 #[.slice g0 vs.length c0,v1,.int .i64 most,bh] .normal) (cl::cs)):=by
 have hK:=clS (Post:=Post) S;refine ks (S:=S) (wat_enter hK.det ?_) rfl;have k1:=Kp.alloc [] S.w (.cells #[.slice none 0 0,.slice none 0 0,.int .i64 0] 59);have bo1:Pl.Blk (S.w.alloc (.cells #[.slice none 0 0,.slice none 0 0,.int .i64 0] 59)) S.w.heap.size [.slice none 0 0,.slice none 0 0,.int .i64 0] 59:=Pl.Blk.new S.w [.slice none 0 0,.slice none 0 0,.int .i64 0] 59;generalize S.w.alloc (.cells #[.slice none 0 0,.slice none 0 0,.int .i64 0] 59)=w1 at k1 bo1 ⊢;refine hK.call fits shut (f:=37) rfl (R:=fun v' w'=>v'=.int .i64 (fitsM vs most left.length)∧Kp [] w1 w') (fun v' w' τ d ⟨h1,h2⟩=>⟨h1,⟨h2.size,h2.block⟩⟩) (fun τ d=>?_) ?_
 ·refine(fits_calls (Lift.re w1 τ d) g0 c0 vs v1 left most hv (fun hne=>?_) (pb:=pb) (hl.same (k1.block pb hpb (by simp)))).mono fun e w' h=>⟨_,h.1,rfl,?_⟩
  ·obtain⟨b,o,h1,h2,h3⟩:=hc hne
   exact⟨b,o,h1,fun j u hj=>(k1.cell h2).trans (h3 j u hj)⟩
  ·rw[h.2];exact⟨Nat.le_refl _,fun _ _ _=>rfl⟩
 ·rintro _ w2 ⟨rfl,k2⟩
  have bo2:Pl.Blk w2 S.w.heap.size _ 59:=k2.blk bo1 (by simp);refine wat_bad hK.det hcl he bo2 fun w3 h3 h4=>h w3 ⟨?_,fun b hb _=>?_⟩
  ·have:=k1.size;have:=k2.size;omega
  ·rw[h3 b (by omega)]
   exact(k1.trans k2).block b hb (by simp)
end
section
variable {K:Goroutine→World→Prop}{m:Bool}{w:World}{cs:List Frame}{cl:Frame}{vf vp vt:Value}{most bump:Int}{ob:Nat}
theorem pu_ext {a:Act}{oo:Oper}{w:World}{x:Operand}{j:Nat}{vs:Array Value}{v:Value}(h:oo.op=.extract x j)(hx:a.eval x=.tuple vs)(hv:vs[j]?=some v):(execOp a.eval oo).run Try.prog w=.ok (.value v) w:=by
 unfold execOp;rw[h];generalize a.eval=ρ at hx ⊢;simp[hx,hv,go_sem]
theorem enter14:Frame.enter Try.prog 25 #[vf,vp,.int .i64 most] .normal=(base 25).at ⟨#[vf,vp,.int .i64 most,uu,uu,uu,uu,uu,uu,uu,uu,uu,uu,uu],[]⟩ [.code c14]:=enter_lit Try.func25 rfl rfl
def runC (vf vp:Value)(most:Int)(ob:Nat):Frame:=(base 25).at ⟨#[vf,vp,.int .i64 most,uu,uu,uu,ptr ob,.int .i64 0,vf,vp,.int .i64 most,uu,uu,uu],[]⟩ [.inRegion (sO (sL (sR c14))) [3,4,5,6,7],.code (sR (sR c14))]
theorem run_enter (hD:Det Try.prog m fun _=>K)(h:K (gs (Frame.enter Try.prog 32 #[vf,vp,.int .i64 most,.nilFunc] .normal) (runC vf vp most w.heap.size::cs)) (w.alloc (.cells #[.slice none 0 0,.slice none 0 0,.int .i64 0] 59))):K (gs (Frame.enter Try.prog 25 #[vf,vp,.int .i64 most] .normal) cs) w:=by
 rw[enter14];have hk:(base 25).kind≠.early:=nofun;refine hD.s0 ?_;refine hD.r0 ?_;obtain⟨ob,hob⟩:∃ ob,ob=w.heap.size:=⟨_,rfl⟩;rw[← hob] at h;refine hD.alloc (n:=0) hk rfl ⟨rfl,rfl,rfl,(by decide +kernel),nofun⟩ al30 ?_;rw[← hob];refine hD.as (.int .i64 0) hk ?_;refine norm0 (a':=⟨#[vf,vp,.int .i64 most,uu,uu,uu,ptr ob,.int .i64 0,uu,uu,uu,uu,uu,uu],[]⟩) ?_;refine hD.e0 ?_;refine hD.s0 ?_;refine hD.r0 ?_;refine hD.mv vf hk ?_;refine hD.mv vp hk ?_;refine hD.mv (.int .i64 most) hk ?_;refine norm0 (a':=⟨#[vf,vp,.int .i64 most,uu,uu,uu,ptr ob,.int .i64 0,vf,vp,.int .i64 most,uu,uu,uu],[]⟩) ?_;refine hD.cf #[vf,vp,.int .i64 most,.nilFunc] hk Try.func32 ?_;exact h
theorem run_back {ga ge:Option Addr}{na ca ne ce:Nat}{u e:Int}(hD:Det Try.prog m fun _=>K)(hcl:cl.mode=.run)(hob:Blk w ob [.slice none 0 0,.slice none 0 0,.int .i64 0] 59)(h:∀ w',(∀ b,b≠ob→w'.heap[b]?=w.heap[b]?)→w'.heap.size=w.heap.size→K (gs (cl.finish (.tuple #[.agg #[.slice ga na ca,.slice ge ne ce,.int .i64 u],.int .i64 e])) cs) w'):K (gs ((runC vf vp most ob).finish (.tuple #[.agg #[.slice ga na ca,.slice ge ne ce,.int .i64 u],.int .i64 e])) (cl::cs)) w:=by
 have hk:(base 25).kind≠.early:=nofun;unfold runC;refine fin0 (some 11) ?_;refine hD.pu (.agg #[.slice ga na ca,.slice ge ne ce,.int .i64 u]) hk (fun w=>pu_ext rfl rfl rfl) ?_;refine hD.pu (.int .i64 e) hk (fun w=>pu_ext rfl rfl rfl) ?_;refine norm0 (a':=⟨#[vf,vp,.int .i64 most,uu,uu,uu,ptr ob,.int .i64 0,vf,vp,.int .i64 most,.tuple #[(.agg #[.slice ga na ca,.slice ge ne ce,.int .i64 u]),.int .i64 e],.agg #[.slice ga na ca,.slice ge ne ce,.int .i64 u],.int .i64 e],[]⟩) ?_;refine hD.store (n:=0) (u:=(ptr ob)) (z:=(.agg #[.slice ga na ca,.slice ge ne ce,.int .i64 u])) hk rfl ⟨rfl,rfl,rfl,rfl,nofun⟩ rfl rfl (fun τ d=>((st30 (w:=re w τ d) hob).trans (congrArg (Result.ok ()) re_set3))) (Nat.le_of_eq set3_size.symm) ?_;have bo2:Blk (set3 w ob (.slice ga na ca) (.slice ge ne ce) (.int .i64 u)) ob _ 59:=set3_blk hob;have k2:∀ b,b≠ob→(set3 w ob (.slice ga na ca) (.slice ge ne ce) (.int .i64 u)).heap[b]?=w.heap[b]?:=fun b hb=>set3_frame hb;have s2:(set3 w ob (.slice ga na ca) (.slice ge ne ce) (.int .i64 u)).heap.size=w.heap.size:=set3_size;generalize set3 w ob (.slice ga na ca) (.slice ge ne ce) (.int .i64 u)=w2 at bo2 k2 s2 ⊢;refine hD.as (.int .i64 e) hk ?_;refine norm0 (a':=⟨#[vf,vp,.int .i64 most,uu,uu,uu,ptr ob,.int .i64 e,vf,vp,.int .i64 most,.tuple #[(.agg #[.slice ga na ca,.slice ge ne ce,.int .i64 u]),.int .i64 e],.agg #[.slice ga na ca,.slice ge ne ce,.int .i64 u],.int .i64 e],[]⟩) ?_;refine hD.e0 ?_;refine hD.ret (n:=0) ?_;refine hD.leave (n:=0) (b:=base 25) (a:=⟨#[vf,vp,.int .i64 most,uu,uu,uu,ptr ob,.int .i64 e,vf,vp,.int .i64 most,.tuple #[(.agg #[.slice ga na ca,.slice ge ne ce,.int .i64 u]),.int .i64 e],.agg #[.slice ga na ca,.slice ge ne ce,.int .i64 u],.int .i64 e],[]⟩) (v:=.tuple #[.agg #[.slice ga na ca,.slice ge ne ce,.int .i64 u],.int .i64 e]) rfl rfl Try.func25 (fun τ d=>results_c30 (fn:=Try.f25) (a:=6) (t:=7) (tmps:=#[vf,vp,.int .i64 most,uu,uu,uu,ptr ob,.int .i64 e,vf,vp,.int .i64 most,.tuple #[(.agg #[.slice ga na ca,.slice ge ne ce,.int .i64 u]),.int .i64 e],.agg #[.slice ga na ca,.slice ge ne ce,.int .i64 u],.int .i64 e]) (w:=re w2 τ d) rfl rfl bo2) hcl ?_;exact h w2 k2 s2
end
theorem end_bool {P:Program}{fn:Func}{f d:Nat}{todo:List Item}{t:Array Value}{b:Bool}{ρ:Ren}{G:Goroutine}{W:World}(hf:P.funcs[f]?=some fn)(hi:P.inits.idxOf? f=none)(hres:fn.results=#[.tmp d])(ht:t.getD d undef=.bool b)(h:GRel ρ (gs { (base f).at ⟨t,[]⟩ todo with mode:=.returning} []) G):stepG P true G W=.ended (.done (.bool b)) W #[]:=by
 obtain⟨hfr,hcs,hst,hdy⟩:=h;obtain⟨⟨fn',tm,todo',ds,mo,kd,ro⟩,callers,status,dying,offers⟩:=G;obtain⟨h1,h2,h3,h4,h5,h6,h7,h8⟩:=hfr;dsimp only at *;cases hcs;obtain⟨_,rfl⟩:=hdy;have hds:ds=[]:=by cases h5;rfl
 subst hds;have hmo:mo=.returning:=by
  have:MRel ρ .returning mo:=h6;cases this;rfl
 subst hmo;have hfn:fn'=f:=h1.symm;subst hfn;have hkd:kd=.normal:=h2.symm;subst hkd;have htm:tm.getD d undef=.bool b:=by
  have h4':ARel ρ t tm:=h4;by_cases hd:d<t.size
  ·have e1:t[d]?=some t[d]:=as' hd
   have e2:tm[d]?=some (tm[d]'(by have:=h4'.1;omega)):=as' _;have hv:=h4'.2 d _ _ e1 e2;have e3:t[d]=.bool b:=by rw[gd',e1] at ht;exact ht
   rw[e3] at hv;rw[gd',e2];generalize tm[d]'(by have:=h4'.1;omega)=v at hv ⊢;cases hv;rfl
  ·rw[gd',ae' (by omega)] at ht
   cases ht
 have hr:∀ es,(results fn tm).runT P W es=(.ok (.bool b) W,es):=fun es=>by
  simp only[gd'] at htm;simp[results,hres,htm,go_sem,Sem.runT_eq]
 unfold stepG;dsimp only;unfold unwind;dsimp only;rw[hf];dsimp only;rw[hr];dsimp only;unfold doReturn;simp[hi,seen,GStep.after]
theorem sound_true {Post:Value→World→Prop}{S:SC}{fn:Func}{f d:Nat}{todo:List Item}{t:Array Value}(hid:Idle S)(hf:Try.prog.funcs[f]?=some fn)(hi:Try.prog.inits.idxOf? f=none)(hres:fn.results=#[.tmp d])(ht:t.getD d undef=.bool true)(hpost:∀ W,Go.RowKit.Below S.n0 S.W0 W→Post (.bool true) W) :
  Sound Try.prog link.tWg Post 0 S (gs { (base f).at ⟨t,[]⟩ todo with mode:=.returning} []) :=
 sound_end fits hid.roles (fun ρ G W h=>end_bool hf hi hres ht h) hpost
section
variable {w w':World}{b o:Nat}
theorem cell_same {b o:Nat}(e:w'.heap[b]?=w.heap[b]?):w'.cell? ⟨b,o,none⟩=w.cell? ⟨b,o,none⟩:=by unfold World.cell?;rw[e]
end
theorem cel_ne {w:World}{b b':Nat}{cs cs':List Value}{t t':TypeId}(h:Cel w b cs t)(h':Cel w b' cs' t')(hne:t≠t'):b≠b':=by
 rintro rfl;obtain⟨_,h⟩:=h;obtain⟨_,h'⟩:=h';rw[h] at h';simp only[Option.some.injEq,Obj.cells.injEq] at h';exact hne h'.2.1
theorem info54:(Try.prog.info? 55).map (fun i=>(i.zero,i.size,i.bytes))=some (some .nilFunc,1,8):=by kernel_rfl
abbrev RepF (w:World)(v:Value)(xs:List Value):Prop:=Rep 55 1 (fun x:Value=>[x]) w v xs
def badM (n:Nat)(most:Int)(p:Nat):Int:=if n=0∨8<n∨most<0 then 2 else if 65536<p then 4 else 0
theorem codeM_done (b:Bool)(n:Nat):codeM b (List.replicate n true)=0:=by
 unfold codeM;rw[if_pos (by simp)]
theorem endsM_len (b:Bool)(ds:List Bool):(endsM b ds).length=ds.length:=by
 unfold endsM;rw[List.length_map]
section
variable {m:Bool}{K:Goroutine→World→Prop}{w:World}{cs:List Frame}
theorem yield_idle (hK:Cl Try.prog m K){u z:Value}{o p g:Bool}{f:Value}(hz:z=stopV o p g f){cl:Frame}(hcm:cl.mode=.run)(hi:∀ w',Kp [] w w'→Calls Try.prog 35 #[u] w' fun e w2=>e=.returned (.bool true)∧w2=w')(h:∀ w',Kp [] w w'→K (gs (cl.finish (.tuple #[])) cs) w'):K (gs (Frame.enter Try.prog 30 #[u,z] .normal) (cl::cs)) w:=by
 subst hz;rw[enter33];have hk:(base 30).kind≠.early:=nofun;have hD:=hK.det;refine hD.s0 ?_;refine hD.r0 ?_;refine hD.box (n:=0) (u:=stopV o p g f) hk rfl ⟨rfl,rfl,rfl,rfl,nofun⟩ rfl bx77 ?_;have k1:=Kp.alloc [] w (.cells #[.bool o,.bool p,.bool g,f] 72);generalize w.alloc (.cells #[.bool o,.bool p,.bool g,f] 72)=w1 at k1 ⊢;obtain⟨y,hyy⟩:∃ y,y=w.heap.size:=⟨_,rfl⟩;rw[← hyy];refine norm0 (a':=⟨#[u,(stopV o p g f),uu,ptr y,uu,uu,uu,uu,uu,uu,uu,uu,uu,uu,uu,uu,uu,uu,uu,uu,uu,uu],[]⟩) ?_;refine hD.e0 ?_;refine hD.s0 ?_;refine hD.s0 ?_;refine hD.r0 ?_;refine hD.mv u hk ?_;refine norm0 (a':=⟨#[u,(stopV o p g f),uu,ptr y,u,uu,uu,uu,uu,uu,uu,uu,uu,uu,uu,uu,uu,uu,uu,uu,uu,uu],[]⟩) ?_;refine hD.cf #[u] hk Try.func35 ?_;refine hK.callp fits shut (f:=35) rfl (v:=.bool true) (fun τ d=>hi _ ⟨k1.size,k1.block⟩) ?_;refine fin0 (some 5) ?_;refine norm0 (a':=⟨#[u,(stopV o p g f),uu,ptr y,u,.bool true,uu,uu,uu,uu,uu,uu,uu,uu,uu,uu,uu,uu,uu,uu,uu,uu],[]⟩) ?_;refine hD.e0 ?_;refine hD.cond (n:=0) true rfl rfl ?_;refine hD.ret (n:=0) ?_;exact hD.leave (n:=0) (b:=base 30) (v:=.tuple #[]) rfl rfl Try.func30 (fun τ d=>res0 rfl) hcm (h _ k1)
theorem step_idle (hK:Cl Try.prog m K){u:Value}{cl:Frame}(hcm:cl.mode=.run)(hi:∀ w',Kp [] w w'→Calls Try.prog 35 #[u] w' fun e w2=>e=.returned (.bool true)∧w2=w')(h:∀ w',Kp [] w w'→K (gs (cl.finish (.tuple #[])) cs) w'):K (gs (Frame.enter Try.prog 23 #[u] .normal) (cl::cs)) w:=by
 have hD:=hK.det;rw[enter15];have hk:(base 23).kind≠.early:=nofun;refine hD.r0 ?_;refine hD.mv u hk ?_;refine hD.pu (stopV false false false .nilFunc) hk (fun w=>pu_bstep rfl) ?_;refine norm0 (a':=⟨#[u,uu,u,(stopV false false false .nilFunc),uu],[]⟩) ?_;refine hD.cf #[u,stopV false false false .nilFunc] hk Try.func30 ?_;exact yield_idle hK rfl rfl hi fun w' k=>y15_back hD hcm (h w' k)
theorem wait_idle (hK:Cl Try.prog m K){u rv:Value}(hrv:isFn rv){cl:Frame}(hcm:cl.mode=.run)(hi:∀ w',Kp [] w w'→Calls Try.prog 35 #[u] w' fun e w2=>e=.returned (.bool true)∧w2=w')(h:∀ w',Kp [] w w'→K (gs (cl.finish (.tuple #[])) cs) w'):K (gs (Frame.enter Try.prog 33 #[u,rv] .normal) (cl::cs)) w:=by
 have hD:=hK.det;rw[enter16];have hk:(base 33).kind≠.early:=nofun;refine hD.r0 ?_;refine hD.mv u hk ?_;refine hD.mv rv hk ?_;refine hD.pu (stopV false false false rv) hk (fun w=>pu_bwait (x:=.tmp 5) rfl rfl hrv) ?_;refine norm0 (a':=⟨#[u,rv,uu,uu,u,rv,(stopV false false false rv),uu],[]⟩) ?_;refine hD.cf #[u,stopV false false false rv] hk Try.func30 ?_;exact yield_idle hK rfl rfl hi fun w' k=>y16_back hD hcm (h w' k)
end
theorem idle_over {w:World}{b r i:Nat}{tu:Value}(hb:Cel w b [ptr r,.int .i64 i,tu,.bool false] 79)(hr:∃ ba sa sk ac,Cel w r [ba,sa,sk,ac,.bool true] 86):∀ w',Kp [] w w'→Calls Try.prog 35 #[ptr b] w' fun e w2=>e=.returned (.bool true)∧w2=w':=fun w' k=>by
 obtain⟨ba,sa,sk,ac,hr⟩:=hr;exact idle_calls w' b r i tu false true ba sa sk ac (k.cel hb (by simp)) (k.cel hr (by simp))
theorem idle_none {w:World}:∀ w',Kp [] w w'→Calls Try.prog 35 #[.pointer none] w' fun e w2=>e=.returned (.bool true)∧w2=w':=fun w' _=>idle_nil w'
theorem pu_mk1 {a:Act}{oo:Oper}{w:World}{x:Operand}{u:Value}{ff:FuncId}(h:oo.op=.makeFunc (.func ff) #[] #[x])(hx:a.eval x=u):(execOp a.eval oo).run Try.prog w=.ok (.value (.func (.func ff) #[] #[u])) w:=by
 unfold execOp;rw[h];exact run_vv (by simp only[List.map_toArray,List.map_cons,List.map_nil,hx];simp[go_sem])
theorem x_bs50 {a:Act}{oo:Oper}{w:World}{x:Operand}{f:FuncId}{cap:Array Value}(h:oo.op=.buildSlice 62 1 #[(0,x)])(hx:a.eval x=.func (.func f) #[] cap):(execOp a.eval oo).run Try.prog w=.ok (.value (.slice (some ⟨w.heap.size,0,none⟩) 1 1)) (w.alloc (.cells #[.func (.func f) #[] cap] 55)):=by
 unfold execOp;rw[h];generalize a.eval=ρ at hx ⊢;simp only[Array.map_map,List.map_toArray,List.map,Function.comp,hx];exact run_vv (by simp[go_sem,Try.underlying62,Try.runUnderlying62,Try.sizeOf55,Try.isAgg55,Try.zeroValue55])
theorem flat_noughts:∀ n:Nat,(List.replicate n 0).flatMap (fun _:Nat=>([.int .u8 0]:List Value))=List.replicate n (Value.int .u8 0)
 | 0=>rfl
 | n+1=>by rw[List.replicate_succ,List.replicate_succ,List.flatMap_cons,flat_noughts n];rfl
theorem xr_len (x:Nat→Value):∀ n s,(xr x s n).length=n
 | 0,_=>rfl
 | n+1,s=>congrArg (· + 1) (xr_len x n (s+1))
theorem xr_get (x:Nat→Value):∀ n s i,i<n→(xr x s n)[i]?=some (x (s+i))
 | 0,_,_,h=>absurd h (Nat.not_lt_zero _)
 | n+1,s,0,_=>rfl
 | n+1,s,i+1,h=>by
  show(xr x (s+1) n)[i]?=_;rw[xr_get x n (s+1) i (by omega),show s+1+i=s+(i+1) by omega]
def fg (n:Nat)(x:Nat→Value):Array Value:=(xr x 0 n).toArray
def up (x:Nat→Value)(d:Nat)(v:Value)(i:Nat):Value:=bif Nat.beq i d then v else x i
theorem fg_get {n i:Nat}{x:Nat→Value}(h:i<n):(fg n x)[i]?=some (x i):=by
 unfold fg;rw[List.getElem?_toArray,xr_get x n 0 i h,Nat.zero_add]
theorem fg_size {n:Nat}{x:Nat→Value}:(fg n x).size=n:=xr_len x n 0
theorem fg_put {n:Nat}{x:Nat→Value}{d:Nat}{v:Value}{ds:List Deferred}(hd:Nat.ble (d+1) n=true):(⟨fg n x,ds⟩:Act).put (some d) v=⟨fg n (up x d v),ds⟩:=by
 have h:d<n:=Nat.le_of_ble_eq_true hd;have e:(fg n x).setIfInBounds d v=fg n (up x d v):=by
  apply Array.ext_getElem?;intro i;rw[Array.getElem?_setIfInBounds];by_cases hi:i<n
  ·rw[fg_get hi,fg_get hi]
   by_cases e:d=i
   ·subst e
    rw[if_pos rfl,if_pos (by rw[fg_size];exact h)];simp[up]
   ·rw[if_neg e]
    have:Nat.beq i d=false:=by
     cases hb:Nat.beq i d with
     | false=>rfl
     | true=>exact absurd (Nat.eq_of_beq_eq_true hb).symm e
    simp[up,this]
  ·rw[if_neg (by omega),ae' (by rw[fg_size];omega),ae' (by rw[fg_size];omega)]
 show(⟨(fg n x).setIfInBounds d v,ds⟩:Act)=_;rw[e]
theorem nm {K:Goroutine→World→Prop}{b:Frame}{n:Nat}{x:Nat→Value}{d:Nat}{v:Value}{ds:List Deferred}{t:List Item}{cs:List Frame}{w:World}(hd:Nat.ble (d+1) n=true)(h:K (gs (b.at ⟨fg n (up x d v),ds⟩ t) cs) w):K (gs (b.at ((⟨fg n x,ds⟩:Act).put (some d) v) t) cs) w:=by
 rw[fg_put hd];exact h
theorem t_fg {t:Array Value}{n:Nat}(h:t.size=n):t=fg n fun q=>t.getD q undef:=by
 apply Array.ext_getElem?;intro i;by_cases hi:i<n
 ·rw[fg_get hi,as' (by omega)]
  simp[Array.getD,h,hi]
 ·rw[ae' (by omega),ae' (by rw[fg_size];omega)]
def ag (args:List Value)(i:Nat):Value:=args.getD i undef
theorem enter_fg {P:Program}{f:FuncId}{fn:Func}{c:Code}{n:Nat}{args:List Value}(hf:P.funcs[f]?=some fn)(hb:fn.body=some c)(hnt:fn.ntmps=n)(hn:Nat.ble args.length n=true):Frame.enter P f args.toArray .normal=(base f).at ⟨fg n (ag args),[]⟩ [.code c]:=by
 refine enter_lit hf hb ?_;have hl:args.length≤n:=Nat.le_of_ble_eq_true hn;apply List.ext_getElem?;intro i;rw[show(fg n (ag args)).toList=xr (ag args) 0 n from rfl,show args.toArray.toList=args from rfl,show args.toArray.size=args.length from rfl];subst hnt;by_cases hi:i<fn.ntmps
 ·rw[xr_get _ _ _ _ hi,Nat.zero_add]
  by_cases ha:i<args.length
  ·rw[List.getElem?_append_left ha,List.getElem?_eq_getElem ha]
   simp[ag,List.getD_eq_getElem?_getD,List.getElem?_eq_getElem ha]
  ·rw[List.getElem?_append_right (Nat.le_of_not_lt ha),List.getElem?_replicate,if_pos (by omega)]
   simp[ag,List.getD_eq_getElem?_getD,List.getElem?_eq_none (Nat.le_of_not_lt ha)]
 ·rw[List.getElem?_eq_none (by rw[xr_len];omega),List.getElem?_eq_none (by rw[la',List.length_replicate];omega)]
def lQ (n:Nat)(Pr:(Nat→Value)→Prop)(w:World)(t:Array Value)(w':World):Prop:=∃ x,t=fg n x∧Pr x∧Kp [] w w'
theorem lQ_mk {n:Nat}{Pr:(Nat→Value)→Prop}{w w':World}{t:Array Value}(hs:t.size=n)(h:Pr fun q=>t.getD q undef)(k:Keeps [] w w'):lQ n Pr w t w':=⟨_,t_fg hs,h,Keeps.kp k⟩
theorem lQ_re {n:Nat}{Pr:(Nat→Value)→Prop}{w w':World}{t:Array Value}(h:lQ n Pr w t w')(τ:Nat→Question→Nat)(d:Nat):lQ n Pr w t (re w' τ d):=let ⟨x,h1,h2,h3⟩:=h;⟨x,h1,h2,⟨h3.size,h3.block⟩⟩
theorem lQ_un {n:Nat}{Pr:(Nat→Value)→Prop}{w w':World}{t:Array Value}{τ:Nat→Question→Nat}{d:Nat}(h:lQ n Pr (re w τ d) t w'):lQ n Pr w t w':=let ⟨x,h1,h2,h3⟩:=h;⟨x,h1,h2,⟨h3.size,h3.block⟩⟩
def firsts (N s:Nat):Array Bool:=((List.range N).map fun j=>decide (j<s)).toArray
theorem lin_last {K:Goroutine→World→Prop}{b:Frame}{a:Act}{k:List Item}{cs:List Frame}{w:World}{ops:Array Oper}{s fu t:Nat}(hr:Region.ready .any ops (firsts ops.size s)=[s])(hl:leftN ops (firsts ops.size s)=1)(hf:(firsts ops.size s).setIfInBounds s true=firsts ops.size ops.size)(h:leftN ops (firsts ops.size s)≤fu)(hK:K (gs (b.at a (.inRegion ops [s]::k)) cs) w):K (gs (b.at a (.inRegion ops (Region.linearise.go .any ops fu t (firsts ops.size s) [])::k)) cs) w:=by
 obtain⟨fu',rfl⟩:∃ f',fu=f'+1:=⟨fu-1,by omega⟩;obtain⟨t',e⟩:=lin_one (ops:=ops) (fuel:=fu') (t:=t) (i:=s) (listed:=firsts ops.size s) hr;rw[e,hf,ready_nil (by simp[firsts]) (fun i hi=>by simp[firsts,gd',hi])];exact hK
theorem bne_dec (a b:Int):(a != b)=decide (a≠b):=by by_cases h:a=b<;>simp[h]
theorem lin_none {K:Goroutine→World→Prop}{b:Frame}{a:Act}{k:List Item}{cs:List Frame}{w:World}{ops:Array Oper}{s fu t:Nat}(hs:s=ops.size)(hK:K (gs (b.at a (.inRegion ops []::k)) cs) w):K (gs (b.at a (.inRegion ops (Region.linearise.go .any ops fu t (firsts ops.size s) [])::k)) cs) w:=by
 subst hs;rw[ready_nil (by simp[firsts]) (fun i hi=>by simp[firsts,gd',hi])];exact hK
theorem re_cel {w:World}{τ:Nat→Question→Nat}{d b:Nat}{cs:List Value}{t:TypeId}(h:Cel w b cs t):Cel (re w τ d) b cs t:=h
theorem Kp.kp1 {F:List Nat}{w w' w'':World}(h:Kp [] w w')(k:Kp F w' w''):Kp F w w'':=⟨Nat.le_trans h.size k.size,fun b hb hn=>(k.block b (nl' hb h.size) hn).trans (h.block b hb (by simp))⟩
theorem res1v {P:Program}{fn:Func}{tm:Array Value}{w:World}{t:Tmp}{v:Value}(h:fn.results=#[.tmp t])(ht:tm.getD t undef=v):(results fn tm).run P w=.ok v w:=by
 rw[← ht];exact res1 h
def bindsOf (ops:Array Oper)(j:Nat):List Nat:=match ops[j]? with
 | some o=>((o.after.filter fun e=>Region.binds .any e).map fun e=>e.on).toList
 | none=>[]
def ancOf (ops:Array Oper):Nat→List Nat→List Nat
 | 0,l=>l
 | k+1,l=>ancOf ops k (l++l.flatMap (bindsOf ops))
theorem binds_mem {ops:Array Oper}{j i:Nat}(h:i∈bindsOf ops j):∃ o,ops[j]?=some o∧∃ e∈o.after,e.on=i∧Region.binds .any e=true:=by
 unfold bindsOf at h;cases ho:ops[j]? with
 | none=>rw[ho] at h;simp at h
 | some o =>
  rw[ho] at h;simp only[Array.mem_toList_iff,Array.mem_map,Array.mem_filter] at h;obtain⟨e,⟨h1,h2⟩,rfl⟩:=h;exact⟨o,rfl,e,h1,rfl,h2⟩
theorem anc_listed {ops:Array Oper}{listed:Array Bool}(hc:∀ (i:Nat) (o:Oper),listed.getD i false=true→ops[i]?=some o→∀ e∈o.after,Region.binds .any e=true→listed.getD e.on false=true) :
  ∀ k l,(∀ j∈l,listed.getD j false=true)→∀ j∈ancOf ops k l,listed.getD j false=true
 | 0,_,h=>h
 | k+1,l,h=>anc_listed hc k _ fun j hj=>by
  rcases List.mem_append.1 hj with hj | hj
  ·exact h j hj
  ·obtain⟨i,hi,hji⟩:=List.mem_flatMap.1 hj
   obtain⟨o,ho,e,he,rfl,hb⟩:=binds_mem hji;exact hc i o (h i hi) ho e he hb
def callOk (ops:Array Oper)(s:Nat):Bool:=(List.range s).all (fun j=>(ancOf ops 6 (bindsOf ops s)).contains j)&&((List.range ops.size).all fun j=>decide (j≤s)||(ancOf ops 3 (bindsOf ops j)).contains s)
def freeOf (ops:Array Oper)(s d:Nat):Bool:=(List.range ops.size).all fun j=>decide (j<s)||(match ops[j]? with | some o=>o.dst != some d | none=>true)
def upl (x:Nat→Value)(l:List (Nat × Value)):Nat→Value:=l.foldl (fun x p=>up x p.1 p.2) x
theorem upl_base:∀ (l:List (Nat × Value)) (x:Nat→Value) (d:Nat),(∀ p∈l,p.1≠d)→upl x l d=x d
 | [],_,_,_=>rfl
 | p::l,x,d,h=>by
  show upl (up x p.1 p.2) l d=_;rw[upl_base l _ d fun q hq=>h q (List.mem_cons_of_mem _ hq)];have:Nat.beq d p.1=false:=by
   cases hb:Nat.beq d p.1 with
   | false=>rfl
   | true=>exact absurd (Nat.eq_of_beq_eq_true hb).symm (h p mc')
  simp[up,this]
theorem upl_self:∀ (l:List (Nat × Value)) (x:Nat→Value),(∀ p∈l,x p.1=p.2)→upl x l=x
 | [],_,_=>rfl
 | p::l,x,h=>by
  have e:up x p.1 p.2=x:=by
   funext i;unfold up;cases hb:Nat.beq i p.1 with
   | false=>rfl
   | true=>rw[Nat.eq_of_beq_eq_true hb];exact(h p mc').symm
  show upl (up x p.1 p.2) l=x;rw[e];exact upl_self l x fun q hq=>h q (List.mem_cons_of_mem _ hq)
def allK (Q:Nat→Value→Prop):List (Nat × Value)→Prop
 | []=>True
 | p::l=>Q p.1 p.2∧allK Q l
theorem allK.get {Q:Nat→Value→Prop}:∀ {l:List (Nat × Value)},allK Q l→∀ p∈l,Q p.1 p.2
 | p::l,h,q,hq=>by
  rcases List.mem_cons.1 hq with rfl | hq
  ·exact h.1
  ·exact allK.get h.2 q hq
theorem allK.self {x:Nat→Value}{l:List (Nat × Value)}(h:allK (fun d v=>x d=v) l):x=upl x l:=(upl_self l x h.get).symm
theorem draw_call {m:Bool}{K:Goroutine→World→Prop}(hK:Cl Try.prog m K){b:Frame}{k:List Item}{cs:List Frame}{w:World}{id n s:Nat}{ops:Array Oper}{x:Nat→Value}(l:List (Nat × Value))(hk:b.kind=.normal)(hm:Try.prog.follows .mixedOrders=true)(H:OrdOk Try.prog ops (fg n (upl x l)) [] (fun j=>decide (s≤j)) w)(hlow:lowOk ops=true)(hs:decide (s<ops.size)=true)(hc:callOk ops s=true)
  (kn:List (Nat × Value)) (hkn:allK (fun d v=>d<n∧freeOf ops s d=true∧upl x l d=v) kn)
  (h:∀ x' fu t,leftN ops (firsts ops.size (s+1))≤fu→K (gs (b.at ⟨fg n (upl x' kn),[]⟩ (.inRegion ops (s::Region.linearise.go .any ops fu t (firsts ops.size (s+1)) [])::k)) cs) w)
  (hl:((l.map fun p=>p.1).all fun d=>ops.any fun o=>o.dst==some d)=true):K (gs (b.at ⟨fg n x,[]⟩ (.code (.region id ops true)::k)) cs) w:=by
 have hs':s<ops.size:=by simpa using hs
 have hbase:∀ d,(∀ (i:Nat) (o:Oper),ops[i]?=some o→o.dst≠some d)→upl x l d=x d:=fun d hd=>upl_base l x d fun p hp e=>by
  have h1:=List.all_eq_true.1 hl p.1 (List.mem_map_of_mem hp);obtain⟨o,ho,he⟩:=Array.any_eq_true'.1 h1;obtain⟨i,hi⟩:=Array.mem_iff_getElem?.1 ho;exact hd i o hi (by rw[beq_iff_eq.1 he,e])
 have h:∀ x' fu t,(∀ d,d<n→freeOf ops s d=true→x' d=upl x l d)→leftN ops (firsts ops.size (s+1))≤fu→K (gs (b.at ⟨fg n x',[]⟩ (.inRegion ops (s::Region.linearise.go .any ops fu t (firsts ops.size (s+1)) [])::k)) cs) w:=fun x' fu t hx hf=>by
  have:=h x' fu t hf;rw[upl_self kn x' fun p hp=>by
   obtain⟨h1,h2,h3⟩:=hkn.get p hp;rw[hx p.1 h1 h2,h3]] at this
  exact this
 clear hkn;generalize upl x l=xf at *;have hke:b.kind≠.early:=by rw[hk];nofun
 refine hK.draw hm fun t=>?_;have hI:OInv ops (fg n xf) (Array.replicate ops.size false) (fg n x):=by
  refine⟨by rw[fg_size,fg_size],by simp,fun i o d h=>?_,fun d hd=>?_,fun i o h=>?_⟩
  ·simp only[gd',Array.getElem?_replicate] at h
   split at h<;>cases h
  ·have e:=hbase d hd
   by_cases hdn:d<n
   ·rw[gd',gd',fg_get hdn,fg_get hdn,e]
   ·have hz:∀ y,(fg n y)[d]?=none:=fun y=>ae' (by rw[fg_size];exact Nat.le_of_not_lt hdn)
    rw[gd',gd',hz,hz]
  ·simp only[gd',Array.getElem?_replicate] at h
   split at h<;>cases h
 refine ord_walk (Kn:=fun _=>K) (n:=0) (s:=s) hK.det (fun _ _ _ h=>h) hke H hlow hs' (by simp) (fun _=>False) (fun fuel t li tm j hJ _ hj hsp hls hle=>?_) _ t _ _ hI (fun _ h=>h.elim) (by
  rw[gd',Array.getElem?_replicate,if_pos hs'];rfl) leftN_init
 unfold callOk at hc;rw[Bool.and_eq_true] at hc;obtain⟨hc1,hc2⟩:=hc;have hjs:s≤j:=by simpa using hsp
 obtain⟨_,oj,hoj,hall⟩:=ready_mem hj;have hjN:=lt_of_op hoj;obtain rfl:j=s:=by
  apply Classical.byContradiction;intro hne;have h1:=List.all_eq_true.1 hc2 j (List.mem_range.2 hjN);rw[Bool.or_eq_true] at h1;have h2:s∈ancOf ops 3 (bindsOf ops j):=by
   rcases h1 with h1 | h1
   ·have:=of_decide_eq_true h1;omega
   ·exact List.contains_iff_mem.1 h1
  have:=anc_listed hJ.closed 3 _ (fun i hi=>by
   obtain⟨o,ho,e,he,rfl,hb⟩:=binds_mem hi;rw[hoj] at ho;cases ho;exact hall e he hb) s h2
  rw[hls] at this;cases this
 have hfull:∀ i,i<j→li.getD i false=true:=fun i hi=>by
  have h1:=List.all_eq_true.1 hc1 i (List.mem_range.2 hi);exact anc_listed hJ.closed 6 _ (fun i hi=>by
   obtain⟨o,ho,e,he,rfl,hb⟩:=binds_mem hi;rw[hoj] at ho;cases ho;exact hall e he hb) i (List.contains_iff_mem.1 h1)
 have hnone:∀ i,j≤i→li.getD i false=false:=fun i hi=>by
  by_cases hiN:i<ops.size
  ·apply Classical.byContradiction
   intro hne;have hl:li.getD i false=true:=by simpa using hne
   by_cases e:i=j
   ·subst e;rw[hls] at hl;cases hl
   ·have h1:=List.all_eq_true.1 hc2 i (List.mem_range.2 hiN)
    rw[Bool.or_eq_true] at h1;have h2:j∈ancOf ops 3 (bindsOf ops i):=by
     rcases h1 with h1 | h1
     ·have:=of_decide_eq_true h1;omega
     ·exact List.contains_iff_mem.1 h1
    have:=anc_listed hJ.closed 3 _ (fun q hq=>by
     obtain⟨o,ho,e,he,rfl,hb⟩:=binds_mem hq;exact hJ.closed i o hl ho e he hb) j h2
    rw[hls] at this;cases this
  ·rw[gd',ae' (by rw[hJ.lsize];omega)];rfl
 have hli:li.setIfInBounds j true=firsts ops.size (j+1):=by
  apply Array.ext
  ·simp[firsts,hJ.lsize]
  ·intro i h1 h2
   have hiN:i<li.size:=by simpa using h1
   have hg:∀ b,li.getD i false=b→li[i]=b:=fun b e=>by
    rw[gd',as' hiN] at e;exact e
   rw[Array.getElem_setIfInBounds hiN];simp only[firsts,List.getElem_toArray,List.getElem_map,List.getElem_range];by_cases e:j=i
   ·subst e;simp
   ·rw[if_neg e]
    by_cases hlt:i<j
    ·rw[hg true (hfull i hlt),decide_eq_true (by omega)]
    ·rw[hg false (hnone i (by omega)),decide_eq_false (by omega)]
 have htm:tm=fg n fun q=>tm.getD q undef:=t_fg (hJ.size.trans fg_size);rw[hli] at hle ⊢;rw[htm];refine h _ _ _ (fun d hd hfr=>?_) hle;have hfin:(fg n xf).getD d undef=xf d:=by rw[gd',fg_get hd];rfl
 rw[← hfin];by_cases hb:∃ (i:Nat) (oi:Oper),ops[i]?=some oi∧oi.dst=some d
 ·obtain⟨i,oi,hi,hid⟩:=hb
  refine hJ.val i oi d (hfull i ?_) hi hid;have h1:=List.all_eq_true.1 hfr i (List.mem_range.2 (lt_of_op hi));rw[Bool.or_eq_true] at h1;rcases h1 with h1 | h1
  ·exact of_decide_eq_true h1
  ·rw[hi] at h1;simp[hid] at h1
 ·exact hJ.base d fun i o h1 h2=>hb ⟨i,o,h1,h2⟩
def mva (o:Oper):Operand:=match o.op with
 | .move p=>p
 | _=>.const undef
section
variable {P:Program}{m:Bool}{K:Goroutine→World→Prop}{b:Frame}{a:Act}{n d:Nat}{x:Nat→Value}{ds:List Deferred}{k:List Item}{cs:List Frame}{w:World}{ops:Array Oper}{i:Nat}{rest:List Nat}{o:Oper}{u z:Value}{p q:Operand}{op:Op}
theorem Det.mvn (hK:Det P m fun _=>K)(v:Value)(h:K (gs (b.at ⟨fg n (Lift.up x d v),ds⟩ (.inRegion ops rest::k)) cs) w)(hk:b.kind≠.early:=by exact nofun)(ho:ops[i]?=some o:=by rfl)(F:Fine P o (some d) (.move p):=by exact⟨rfl,rfl,rfl,rfl,nofun⟩)(hx:(⟨fg n x,ds⟩:Act).eval p=v:=by rfl)(hd:Nat.ble (d+1) n=true:=by rfl):K (gs (b.at ⟨fg n x,ds⟩ (.inRegion ops (i::rest)::k)) cs) w:=hK.move (n:=0) hk ho F hx (nm hd h)
theorem Det.mxn (hK:Det P m fun _=>K)(v:Value)(ho:ops[i]?=some o)(hx:(⟨fg n x,ds⟩:Act).eval (mva o)=v)(h:K (gs (b.at ⟨fg n (Lift.up x d v),ds⟩ (.inRegion ops rest::k)) cs) w)(hk:b.kind≠.early:=by exact nofun)(F:Fine P o (some d) (.move p):=by exact⟨rfl,rfl,rfl,rfl,nofun⟩)(hd:Nat.ble (d+1) n=true:=by rfl):K (gs (b.at ⟨fg n x,ds⟩ (.inRegion ops (i::rest)::k)) cs) w:=hK.move (n:=0) hk ho F (by rw[← hx];unfold mva;rw[F.isOp]) (nm hd h)
theorem Det.asn (hK:Det P m fun _=>K)(v:Value)(h:K (gs (b.at ⟨fg n (Lift.up x d v),ds⟩ (.inRegion ops rest::k)) cs) w)(hk:b.kind≠.early:=by exact nofun)(ho:ops[i]?=some o:=by rfl)(F:Fine P o (some d) (.assign p):=by exact⟨rfl,rfl,rfl,rfl,nofun⟩)(hx:(⟨fg n x,ds⟩:Act).eval p=v:=by rfl)(hd:Nat.ble (d+1) n=true:=by rfl):K (gs (b.at ⟨fg n x,ds⟩ (.inRegion ops (i::rest)::k)) cs) w:=hK.assign (n:=0) hk ho F hx (nm hd h)
theorem Det.ncn (hK:Det P m fun _=>K)(y:Addr)(h:K (gs (b.at ⟨fg n (Lift.up x d (.pointer (some y))),ds⟩ (.inRegion ops rest::k)) cs) w)(hk:b.kind≠.early:=by exact nofun)(ho:ops[i]?=some o:=by rfl)(F:Fine P o (some d) (.nilCheck p):=by exact⟨rfl,rfl,rfl,rfl,nofun⟩)(hx:(⟨fg n x,ds⟩:Act).eval p=.pointer (some y):=by rfl)(hd:Nat.ble (d+1) n=true:=by rfl):K (gs (b.at ⟨fg n x,ds⟩ (.inRegion ops (i::rest)::k)) cs) w:=hK.nilc (n:=0) hk ho F hx (nm hd h)
theorem Det.ldn (hK:Det P m fun _=>K){t:TypeId}(v:Value)(hl:∀ τ d,(Instr.loadAt t u).run P (re w τ d)=.ok v (re w τ d))(h:K (gs (b.at ⟨fg n (Lift.up x d v),ds⟩ (.inRegion ops rest::k)) cs) w)(hk:b.kind≠.early:=by exact nofun)(ho:ops[i]?=some o:=by rfl)(F:Fine P o (some d) (.load t p):=by exact⟨rfl,rfl,rfl,rfl,nofun⟩)(hx:(⟨fg n x,ds⟩:Act).eval p=u:=by rfl)(hd:Nat.ble (d+1) n=true:=by rfl):K (gs (b.at ⟨fg n x,ds⟩ (.inRegion ops (i::rest)::k)) cs) w:=hK.load (n:=0) hk ho F hx hl (nm hd h)
theorem Det.fdn (hK:Det P m fun _=>K){s:TypeId}{f:Nat}(v:Value)(hl:∀ w,(Instr.fieldAt s u f).run P w=.ok v w)(h:K (gs (b.at ⟨fg n (Lift.up x d v),ds⟩ (.inRegion ops rest::k)) cs) w)(hk:b.kind≠.early:=by exact nofun)(ho:ops[i]?=some o:=by rfl)(F:Fine P o (some d) (.fieldAddr s p f):=by exact⟨rfl,rfl,rfl,rfl,nofun⟩)(hx:(⟨fg n x,ds⟩:Act).eval p=u:=by rfl)(hd:Nat.ble (d+1) n=true:=by rfl):K (gs (b.at ⟨fg n x,ds⟩ (.inRegion ops (i::rest)::k)) cs) w:=hK.field (n:=0) hk ho F hx hl (nm hd h)
theorem Det.ixn (hK:Det P m fun _=>K){t:TypeId}(v:Value)(hl:∀ w,(Instr.indexAt t u z).run P w=.ok v w)(h:K (gs (b.at ⟨fg n (Lift.up x d v),ds⟩ (.inRegion ops rest::k)) cs) w)(hk:b.kind≠.early:=by exact nofun)(ho:ops[i]?=some o:=by rfl)(F:Fine P o (some d) (.indexAddr t p q):=by exact⟨rfl,rfl,rfl,rfl,nofun⟩)(hx:(⟨fg n x,ds⟩:Act).eval p=u:=by rfl)(hy:(⟨fg n x,ds⟩:Act).eval q=z:=by rfl)(hd:Nat.ble (d+1) n=true:=by rfl):K (gs (b.at ⟨fg n x,ds⟩ (.inRegion ops (i::rest)::k)) cs) w:=hK.index (n:=0) hk ho F hx hy hl (nm hd h)
theorem Det.pun (hK:Det P m fun _=>K)(v:Value)(hl:∀ w,(execOp (⟨fg n x,ds⟩:Act).eval o).run P w=.ok (.value v) w)(h:K (gs (b.at ⟨fg n (Lift.up x d v),ds⟩ (.inRegion ops rest::k)) cs) w)(hk:b.kind≠.early:=by exact nofun)(ho:ops[i]?=some o:=by rfl)(F:Fine P o (some d) op:=by exact⟨rfl,rfl,rfl,(by decide +kernel),nofun⟩)(hd:Nat.ble (d+1) n=true:=by rfl):K (gs (b.at ⟨fg n x,ds⟩ (.inRegion ops (i::rest)::k)) cs) w:=hK.pure (n:=0) hk ho F hl (nm hd h)
theorem Det.gwn (hK:Det P m fun _=>K)(v:Value)(ho:ops[i]?=some o)(hr:∀ τ d,(execOp (⟨fg n x,ds⟩:Act).eval o).run P (re w τ d)=.ok (.value v) (re w τ d))(h:K (gs (b.at ⟨fg n (Lift.up x d v),ds⟩ (.inRegion ops rest::k)) cs) w)(hk:b.kind≠.early:=by exact nofun)(hw:Region.wanted o (yielded ops (fg n x))=true:=by rfl)(he:o.dst=some d:=by rfl)(hok:okOp P o.op=true:=by decide +kernel)(hnp:∀ x,o.op≠.panic x:=by exact nofun)(hd:Nat.ble (d+1) n=true:=by rfl):K (gs (b.at ⟨fg n x,ds⟩ (.inRegion ops (i::rest)::k)) cs) w:=hK.gv (n:=0) hk ho hw he hok hnp hr (nm hd h)
theorem Det.gun (hK:Det P m fun _=>K)(h:K (gs (b.at ⟨fg n (Lift.up x d undef),ds⟩ (.inRegion ops rest::k)) cs) w)(ho:ops[i]?=some o:=by rfl)(hw:Region.wanted o (yielded ops (fg n x))=false:=by rfl)(he:o.dst=some d:=by rfl)(hok:okOp P o.op=true:=by decide +kernel)(hnp:∀ x,o.op≠.panic x:=by exact nofun)(hd:Nat.ble (d+1) n=true:=by rfl):K (gs (b.at ⟨fg n x,ds⟩ (.inRegion ops (i::rest)::k)) cs) w:=hK.gu (n:=0) ho hw he hok hnp (nm hd h)
theorem finn {v:Value}(d:Nat)(h:K (gs (b.at ⟨fg n (Lift.up x d v),ds⟩ (.inRegion ops rest::k)) cs) w)(ho:ops[i]?=some o:=by rfl)(he:o.dst=some d:=by rfl)(hd:Nat.ble (d+1) n=true:=by rfl):K (gs ((b.at ⟨fg n x,ds⟩ (.inRegion ops (i::rest)::k)).finish v) cs) w:=fin_at (Kn:=fun _=>K) (n:=0) ho he (nm hd h)
theorem Det.so (hK:Det P m fun _=>K){s t:TypeId}{c:Nat}{l:List Value}{X:Value}(B:Blk w c l t)(j:Nat)(z:Value)(hs:∀ {w:World} {A:Addr} {X:Value},w.cell? A=some X→w.frozen? A=false→(Instr.storeAt s (.pointer (some A)) z).run P w=.ok () (w.setCell A z))(h:∀ w',Kp [c] w w'→Blk w' c (l.set j z) t→K (gs (b.at (a.put none undef) (.inRegion ops rest::k)) cs) w')(hk:b.kind≠.early:=by exact nofun)(hX:l[j]?=some X:=by rfl)(ho:ops[i]?=some o:=by rfl)(F:Fine P o none (.store s p q):=by exact⟨rfl,rfl,rfl,rfl,nofun⟩)(hx:a.eval p=.pointer (some ⟨c,j,none⟩):=by rfl)(hy:a.eval q=z:=by rfl):K (gs (b.at a (.inRegion ops (i::rest)::k)) cs) w:=hK.store (n:=0) (w':=w.setCell ⟨c,j,none⟩ z) hk ho F hx hy (fun τ d=>(hs (w:=re w τ d) ((B.cell j).trans hX) (B.frozen j)).trans (congrArg (Result.ok ()) re_setCell)) (Nat.le_of_eq (World.size_setCell _ _ _).symm) (h _ ⟨Nat.le_of_eq (World.size_setCell _ _ _).symm,fun c hc hn=>setCell_frame (by simpa using hn)⟩ (B.set j z))
theorem Det.bo (hK:Det P m fun _=>K){t:TypeId}(l:List Value)(hl:∀ w:World,(Instr.box t u).run P w=.ok (.pointer (some ⟨w.heap.size,0,none⟩)) (w.alloc (.cells l.toArray t)))(h:∀ w' c,c=w.heap.size→Kp [] w w'→Blk w' c l t→K (gs (b.at ⟨fg n (Lift.up x d (ptr c)),ds⟩ (.inRegion ops rest::k)) cs) w')(hk:b.kind≠.early:=by exact nofun)(ho:ops[i]?=some o:=by rfl)(F:Fine P o (some d) (.box t p):=by exact⟨rfl,rfl,rfl,rfl,nofun⟩)(hx:(⟨fg n x,ds⟩:Act).eval p=u:=by rfl)(hd:Nat.ble (d+1) n=true:=by rfl):K (gs (b.at ⟨fg n x,ds⟩ (.inRegion ops (i::rest)::k)) cs) w:=hK.box (n:=0) hk ho F hx hl (nm hd (h _ _ rfl (Kp.alloc [] _ _) (Blk.new _ _ _)))
theorem Det.z0 (hK:Det P m fun _=>K){y:Code}{l:Nat}{ops':Array Oper}(h:K (gs (b.at a (.inRegion ops (List.range ops.size)::.code y::k)) cs) w):K (gs (b.at a (.inRegion ops' []::.code (.seq (.region l ops false) y)::k)) cs) w:=hK.e0 (hK.s0 (hK.r0 h))
theorem Det.sr (hK:Det P m fun _=>K){y:Code}{l:Nat}(h:K (gs (b.at a (.inRegion ops (List.range ops.size)::.code y::k)) cs) w):K (gs (b.at a (.code (.seq (.region l ops false) y)::k)) cs) w:=hK.s0 (hK.r0 h)
theorem Det.cc (hK:Det P m fun _=>K){c:Operand}{X Y:Code}(t:Bool)(h:K (gs (b.at a (.code (if t then X else Y)::k)) cs) w)(hc:a.eval c=.bool t:=by rfl)(ho:okO c=true:=by rfl):K (gs (b.at a (.code (.cond c X Y)::k)) cs) w:=hK.cond (n:=0) t hc ho h
theorem Det.cx (hK:Det P m fun _=>K){c:Operand}{X Y:Code}(t:Bool)(hc:a.eval c=.bool t)(h:K (gs (b.at a (.code (if t then X else Y)::k)) cs) w)(ho:okO c=true:=by rfl):K (gs (b.at a (.code (.cond c X Y)::k)) cs) w:=hK.cond (n:=0) t hc ho h
end
theorem bF {p:Prop}{i:Decidable p}(h:¬ p):Value.bool (@decide p i)=.bool false:=by rw[decide_eq_false h]
theorem bT {p:Prop}{i:Decidable p}(h:p):Value.bool (@decide p i)=.bool true:=by rw[decide_eq_true h]
def OkFr (f:Frame):Prop:=f.mode=.run∧f.defers=[]∧∃ fn,Try.prog.funcs[f.fn]?=some fn
structure Plan (L A:Type) where
 mem:A→(Nat→TS L)→(Nat→Prop)→World→Prop
 go:Nat→ES L→A→Nat→A × Option L
 rdy:Nat→L→A→Bool
theorem Kx.refl' (X:Nat→Prop)(w:World):Kx X X w w:=⟨Nat.le_refl _,fun _ _ _=>rfl,fun _ h=>.inl h⟩
theorem Kx.comp {X Y Z:Nat→Prop}{w w' w'':World}(h:Kx X Y w w')(k:Kx Y Z w' w''):Kx X Z w w'' :=
 ⟨Nat.le_trans h.size k.size,fun b hb hn=>(k.block b (nl' hb h.size) fun hy=>(h.own b hy).elim hn (fun e=>absurd hb (Nat.not_lt.2 e))).trans (h.block b hb hn),
  fun b hb=>(k.own b hb).elim (fun hy=>h.own b hy) fun e=>.inr (Nat.le_trans h.size e)⟩
theorem Kx.ofKp {X:Nat→Prop}{F:List Nat}{w w':World}(h:Kp F w w')(hF:∀ b∈F,X b):Kx X X w w':=⟨h.size,fun b hb hn=>h.block b hb fun hm=>hn (hF b hm),fun _ h=>.inl h⟩
section
variable {L A:Type}(p:Plan L A)(C:WC)
structure ThR (rs:L × List Nat→List Frame→Prop)(i:Nat)(K:Goroutine→World→Prop)(F:Frame)(cs:List Frame)(st:Nat→TS L)(X:Nat→Prop)(w:World)(n:Nat)(P:A × Option L):Prop where
 cl:Cl Try.prog false K
 fm:F.mode=.run
 hi:i<C.n
 n0:0<n
 n4:n<4294967296
 bt:Cel w (C.bt i) [ptr C.r,.int .i64 i,.chan (some (C.ch i)),.bool false] 79
 rn:∃ ba sa ck ga ca,Cel w C.r [ba,sa,ck,.slice ga n ca,.bool false] 86
 hy:∀ a' l' rv c rest X' w',P=(a',some l'.1)→rs l' (c::rest)→p.mem a' (updT st i (.susp l' rv)) X' w'→Kx X X' w w'→isFn rv→K (gs (Frame.enter Try.prog 30 #[ptr (C.bt i),stopV false false false rv] .normal) (c::(rest++F::cs))) w'
 hd:∀ a' X' w',P=(a',none)→p.mem a' (updT st i .done) X' w'→Kx X X' w w'→K (gs (F.finish (.tuple #[])) cs) w'
def RsK (i:Nat):Nat→L × List Nat→List Frame→Prop
 | 0,_,_=>False
 | k+1,l,fs=>(∀ f∈fs,OkFr f)∧∀ c rest,fs=c::rest→∀ K F cs st X w n a,ThR p C (RsK i k) i K F cs st X w n (p.go i (.susp l.1) a n)→(∃ rv,st i=.susp l rv)→p.mem a st X w→K (gs (c.finish (.tuple #[])) (rest++F::cs)) w
abbrev Th (k i:Nat):=ThR p C (RsK p C i k) i
def Plan.bods:Bods L A where
 mem:=p.mem
 rs i l fs:=∃ k,RsK p C i k l fs
 go:=p.go
 rdy:=p.rdy
 due _:=True
end
section
variable {L A:Type}{p:Plan L A}{C:WC}{k i:Nat}{K:Goroutine→World→Prop}{F:Frame}{cs:List Frame}{st:Nat→TS L}{X X':Nat→Prop}{w w':World}{n:Nat}{P:A × Option L}
theorem ThR.to {rs:L × List Nat→List Frame→Prop}(T:ThR p C rs i K F cs st X w n P)(h:Kx X X' w w')(hb:w'.heap[C.bt i]?=w.heap[C.bt i]?)(hr:w'.heap[C.r]?=w.heap[C.r]?):ThR p C rs i K F cs st X' w' n P:=by
 obtain⟨ba,sa,ck,ga,ca,hrn⟩:=T.rn;exact⟨T.cl,T.fm,T.hi,T.n0,T.n4,T.bt.same hb,⟨ba,sa,ck,ga,ca,hrn.same hr⟩,fun a' l' rv c rest X2 w2 e h1 h2 h3 h4=>T.hy a' l' rv c rest X2 w2 e h1 h2 (h.comp h3) h4,fun a' X2 w2 e h1 h2=>T.hd a' X2 w2 e h1 (h.comp h2)⟩
theorem ThR.kp {rs:L × List Nat→List Frame→Prop}(T:ThR p C rs i K F cs st X w n P)(h:Kp [] w w'):ThR p C rs i K F cs st X w' n P:=by
 obtain⟨ba,sa,ck,ga,ca,hrn⟩:=T.rn;exact T.to (Kx.ofKp h (by simp)) (h.block _ T.bt.lt (by simp)) (h.block _ hrn.lt (by simp))
theorem ThR.kp1 {rs:L × List Nat→List Frame→Prop}(T:ThR p C rs i K F cs st X w n P){b:Nat}{cells:List Value}{t:TypeId}(hb:Cel w b cells t)(h1:t≠79)(h2:t≠86)(hX:X b)(h:Kp [b] w w'):ThR p C rs i K F cs st X w' n P:=by
 obtain⟨ba,sa,ck,ga,ca,hrn⟩:=T.rn;exact T.to (Kx.ofKp h (by simpa using hX)) (h.block _ T.bt.lt (by simpa using cel_ne T.bt hb (Ne.symm h1))) (h.block _ hrn.lt (by simpa using cel_ne hrn hb (Ne.symm h2)))
theorem ThR.eqP {rs:L × List Nat→List Frame→Prop}{P':A × Option L}(T:ThR p C rs i K F cs st X w n P)(e:P=P'):ThR p C rs i K F cs st X w n P':=e▸T
theorem ThR.yield {a:A}{l:L}{g:List Nat}{rv:Value}{c:Frame}{rest:List Frame}(T:Th p C (k+1) i K F cs st X w n (a,some l))(hrv:isFn rv)(hc:∀ f∈c::rest,OkFr f)(hm:p.mem a (updT st i (.susp (l,g) rv)) X w)
  (hres:∀ K F cs st X w n a,Th p C k i K F cs st X w n (p.go i (.susp l) a n)→(∃ rv,st i=.susp (l,g) rv)→p.mem a st X w→K (gs (c.finish (.tuple #[])) (rest++F::cs)) w) :
  K (gs (Frame.enter Try.prog 30 #[ptr (C.bt i),stopV false false false rv] .normal) (c::(rest++F::cs))) w :=
 T.hy a (l,g) rv c rest X w rfl ⟨hc,fun c' rest' e=>by cases e;exact hres⟩ hm (Kx.refl' X w) hrv
theorem ThR.step {a:A}{l:L}{g:List Nat}{c:Frame}{rest:List Frame}(T:Th p C (k+1) i K F cs st X w n (a,some l))(hc:∀ f∈c::rest,OkFr f)(hm:p.mem a (updT st i (.susp (l,g) .nilFunc)) X w)
  (hres:∀ K F cs st X w n a,Th p C k i K F cs st X w n (p.go i (.susp l) a n)→(∃ rv,st i=.susp (l,g) rv)→p.mem a st X w→K (gs (c.finish (.tuple #[])) (rest++F::cs)) w) :
  K (gs (Frame.enter Try.prog 23 #[ptr (C.bt i)] .normal) (c::(rest++F::cs))) w:=by
 refine step_to T.cl.det fun tm=>?_;refine T.yield (c:=y15 tm) (rest:=c::rest) (.inl rfl) (fun f hf=>?_) hm fun K F cs st X w n a T' h1 h2=>?_
 ·rcases List.mem_cons.1 hf with rfl | hf
  ·exact⟨rfl,rfl,_,Try.func23⟩
  ·exact hc f hf
 ·exact y15_back T'.cl.det (hc c (by simp)).1 (hres K F cs st X w n a T' h1 h2)
theorem ThR.wait {a:A}{l:L}{g:List Nat}{rv:Value}{c:Frame}{rest:List Frame}(T:Th p C (k+1) i K F cs st X w n (a,some l))(hrv:isFn rv)(hc:∀ f∈c::rest,OkFr f)(hm:p.mem a (updT st i (.susp (l,g) rv)) X w)
  (hres:∀ K F cs st X w n a,Th p C k i K F cs st X w n (p.go i (.susp l) a n)→(∃ rv,st i=.susp (l,g) rv)→p.mem a st X w→K (gs (c.finish (.tuple #[])) (rest++F::cs)) w) :
  K (gs (Frame.enter Try.prog 33 #[ptr (C.bt i),rv] .normal) (c::(rest++F::cs))) w:=by
 refine wait_to T.cl.det hrv fun tm=>?_;refine T.yield (c:=y16 tm) (rest:=c::rest) hrv (fun f hf=>?_) hm fun K F cs st X w n a T' h1 h2=>?_
 ·rcases List.mem_cons.1 hf with rfl | hf
  ·exact⟨rfl,rfl,_,Try.func33⟩
  ·exact hc f hf
 ·exact y16_back T'.cl.det (hc c (by simp)).1 (hres K F cs st X w n a T' h1 h2)
theorem Plan.ok (hbound:∀ {a st X w b},p.mem a st X w→X b→b<w.heap.size)(hframe:∀ {a st X w w'},p.mem a st X w→(∀ b,X b→w'.heap[b]?=w.heap[b]?)→w.heap.size≤w'.heap.size→p.mem a st X w')
  (hready:∀ {a st X w i l rv},p.mem a st X w→i<C.n→st i=.susp l rv→(rv=.nilFunc∧p.rdy i l.1 a=true) ∨
   ∃ f bd cap fn cd,rv=.func (.func f) bd cap∧Try.prog.funcs[f]?=some fn∧(fn.name == "runtime.NumGoroutine")=false∧fn.body=some cd∧∀ m K,Cl Try.prog m K→Asks K w f (bd++cap) (p.rdy i l.1 a))
  (hfns:∀ {i},i<C.n→∃ fn cd,Try.prog.funcs[C.fn i]?=some fn∧(fn.name == "runtime.NumGoroutine")=false∧fn.body=some cd)
  (hfresh:∀ i,i<C.n→∃ k,∀ K F cs st X w n a args,Th p C k i K F cs st X w n (p.go i .fresh a n)→st i=.fresh→p.mem a st X w→ptr (C.bt i)::(C.cap i).toList=Array.toList args→K (gs (Frame.enter Try.prog (C.fn i) args .normal) (F::cs)) w):BOk (p.bods C) C where
 dues _ _ _ _:=trivial
 bound:=hbound
 frame:=hframe
 rsok h:=by
  obtain⟨k,h⟩:=h;cases k with
  | zero=>exact h.elim
  | succ k=>exact h.1
 ready:=hready
 fns:=hfns
 run {i st a X w n ga ca ba sa ck F cs g} hi h hn' hn0 hbt hr hst hFm K hK hy hd:=by
  have hT:∀ k t,er (st i)=t→Th p C k i K F cs st X w n (p.go i t a n):=fun k t e=>⟨hK,hFm,hi,hn0,hn',hbt,⟨_,_,_,_,_,hr⟩,fun a' l' rv c rest X' w' e' h1 h2 h3 h4=>hy a' l' rv c rest X' w' (by rw[e];exact e') ⟨k,h1⟩ h2 h3 h4,fun a' X' w' e' h1 h2=>hd a' X' w' (by rw[e];exact e') h1 h2⟩;cases e:st i with
  | fresh =>
   rw[e] at hst;obtain⟨args,ha,rfl⟩:=hst;obtain⟨k,hk⟩:=hfresh i hi;exact hk K F cs st X w n a args (hT k .fresh (by rw[e];rfl)) e h ha
  | susp l rv =>
   rw[e] at hst;obtain⟨c,rest,⟨k,hrs⟩,rfl⟩:=hst;cases k with
   | zero=>exact hrs.elim
   | succ k=>exact hrs.2 c rest rfl K F cs st X w n a (hT k (.susp l.1) (by rw[e];rfl)) ⟨rv,e⟩ h
  | done=>rw[e] at hst;exact hst.elim
end
def q27:Code:=Try.f21.body.getD .skip
def q28:Code:=Try.f22.body.getD .skip
def q30:Code:=Try.f24.body.getD .skip
def q34:Code:=Try.f28.body.getD .skip
def q37:Code:=Try.f29.body.getD .skip
def q38:Code:=Try.f31.body.getD .skip
def q58:Code:=Try.f27.body.getD .skip
theorem w_eql28_p {a:Act}{oo:Oper}{w:World}{x:Operand}(h:oo.op=.binOp .eql 49 x (.const (.pointer none)) 49){ad:Addr}(hx:a.eval x=.pointer (some ad)):(execOp a.eval oo).run Try.prog w=.ok (.value (.bool false)) w:=by
 unfold execOp;rw[h];simp only[hx];rw[show a.eval (.const (.pointer none))=.pointer none from rfl];exact run_vv (by simp[go_sem,Try.underlying49,Try.runUnderlying49])
theorem w_eql48_p {a:Act}{oo:Oper}{w:World}{x:Operand}(h:oo.op=.binOp .eql 51 x (.const (.pointer none)) 51){ad:Addr}(hx:a.eval x=.pointer (some ad)):(execOp a.eval oo).run Try.prog w=.ok (.value (.bool false)) w:=by
 unfold execOp;rw[h];simp only[hx];rw[show a.eval (.const (.pointer none))=.pointer none from rfl];exact run_vv (by simp[go_sem,Try.underlying51,Try.runUnderlying51])
theorem fa91_0 {b o:Nat}:∀ w,(Instr.fieldAt 67 (.pointer (some ⟨b,o,none⟩)) 0).run Try.prog w=.ok (.pointer (some ⟨b,o+0,none⟩)) w:=fun w=>by
 simp[go_sem,Try.underlying67,Try.runUnderlying67,Try.sizeOf67,Try.isAgg67,Try.sizeOf65]
theorem fa86_0 {b o:Nat}:∀ w,(Instr.fieldAt 65 (.pointer (some ⟨b,o,none⟩)) 0).run Try.prog w=.ok (.pointer (some ⟨b,o+0,none⟩)) w:=fun w=>by
 simp[go_sem,Try.underlying65,Try.runUnderlying65,Try.sizeOf65,Try.isAgg65,Try.sizeOf3,Try.sizeOf4]
theorem l_4 {w:World}{a:Addr}{v:Value}(hc:w.cell? a=some v):(Instr.loadAt 4 (.pointer (some a))).run Try.prog w=.ok v w:=by simp[go_sem,hc,Try.underlying4,Try.runUnderlying4,Try.sizeOf4,Try.isAgg4]
theorem w_mk1_0 {a:Act}{oo:Oper}{w:World}{x0:Operand}{u0:Value}{ff:FuncId}(h:oo.op=.makeFunc (.func ff) #[x0] #[])(hx0:a.eval x0=u0):(execOp a.eval oo).run Try.prog w=.ok (.value (.func (.func ff) #[u0] #[])) w:=by
 unfold execOp;rw[h];exact run_vv (by simp only[List.map_toArray,List.map_cons,List.map_nil,hx0];simp[go_sem])
theorem w_eql35 {a:Act}{oo:Oper}{w:World}{x y:Operand}{i j:Int}(h:oo.op=.binOp .eql 53 x y 53)(hx:a.eval x=.int .i64 i)(hy:a.eval y=.int .i64 j):(execOp a.eval oo).run Try.prog w=.ok (.value (.bool (decide (i=j)))) w:=by
 unfold execOp;rw[h];simp only[hx,hy];exact run_vv (by simp[go_sem,Try.underlying53,Try.runUnderlying53]<;>rfl)
theorem fa86_1 {b o:Nat}:∀ w,(Instr.fieldAt 65 (.pointer (some ⟨b,o,none⟩)) 1).run Try.prog w=.ok (.pointer (some ⟨b,o+1,none⟩)) w:=fun w=>by
 simp[go_sem,Try.underlying65,Try.runUnderlying65,Try.sizeOf65,Try.isAgg65,Try.sizeOf3,Try.sizeOf4]
theorem s_3 {w:World}{a:Addr}{x:Value}{y:Int}(hc:w.cell? a=some x)(hf:w.frozen? a=false):(Instr.storeAt 3 (.pointer (some a)) (.int .i64 y)).run Try.prog w=.ok () (w.setCell a (.int .i64 y)):=by simp[go_sem,hc,hf,Try.underlying3,Try.runUnderlying3,Try.sizeOf3,Try.isAgg3]
theorem l_3 {w:World}{a:Addr}{v:Value}(hc:w.cell? a=some v):(Instr.loadAt 3 (.pointer (some a))).run Try.prog w=.ok v w:=by simp[go_sem,hc,Try.underlying3,Try.runUnderlying3,Try.sizeOf3,Try.isAgg3]
theorem w_add3 {a:Act}{oo:Oper}{w:World}{x y:Operand}{i j:Int}(h:oo.op=.binOp .add 3 x y 3)(hx:a.eval x=.int .i64 i)(hy:a.eval y=.int .i64 j):(execOp a.eval oo).run Try.prog w=.ok (.value (.int .i64 (wrap64 (i+j)))) w:=by
 unfold execOp;rw[h];simp only[hx,hy];exact run_vv (by simp[go_sem,Try.underlying3,Try.runUnderlying3,IntKind.wrap_i64,wrap64])
theorem w_neq3 {a:Act}{oo:Oper}{w:World}{x y:Operand}{i j:Int}(h:oo.op=.binOp .neq 3 x y 3)(hx:a.eval x=.int .i64 i)(hy:a.eval y=.int .i64 j):(execOp a.eval oo).run Try.prog w=.ok (.value (.bool (decide (i≠j)))) w:=by
 unfold execOp;rw[h];simp only[hx,hy];exact run_vv (by simp[go_sem,Try.underlying3,Try.runUnderlying3,bne,BEq.beq])
theorem w_eql139_p {a:Act}{oo:Oper}{w:World}{x:Operand}(h:oo.op=.binOp .eql 74 x (.const (.pointer none)) 74){ad:Addr}(hx:a.eval x=.pointer (some ad)):(execOp a.eval oo).run Try.prog w=.ok (.value (.bool false)) w:=by
 unfold execOp;rw[h];simp only[hx];rw[show a.eval (.const (.pointer none))=.pointer none from rfl];exact run_vv (by simp[go_sem,Try.underlying74,Try.runUnderlying74])
theorem who_calls (w:World)(b r:Nat)(i:Nat)(n:Nat)(tu ba sa ck:Value)(ga:Option Addr){ca:Nat}(hb:Cel w b [ptr r,.int .i64 i,tu,.bool false] 79)(hr:Cel w r [ba,sa,ck,.slice ga n ca,.bool false] 86):Calls Try.prog 29 #[ptr b] w fun e w'=>e=.returned (.int .i64 i)∧w'=w:=by
 have HT:=Lib.hid (thread_calls w b r i tu false false ba sa ck _ hb hr)
 go_enter Try.func29,Try.ntmps29
 go_wp2_with (go_at_call 34;refine(HT.out).mono ?_;rintro e w' ⟨rfl,rfl⟩)
 go_ret
 exact⟨rfl,rfl⟩
theorem free_calls (w:World)(mb:Nat){by0:Int}(h1:w.cell? ⟨mb,1,none⟩=some (.int .i64 by0)):Calls Try.prog 28 #[ptr mb] w fun e w'=>e=.returned (.bool (decide (by0 = -1)))∧w'=w:=by
 go_enter Try.func28,Try.ntmps28
 go_wp2
 go_ret
 exact⟨rfl,rfl⟩
theorem oq28 {mb:Nat}{C:WC}{i:Nat}{w:World}{x:Nat→Value}(e0:x 0=(ptr mb))(e1:x 1=(ptr (C.bt i)))  : OrdOk Try.prog (sO (sL (sR (sR q28)))) (fg 34 (up (up (up (up (up (up (up (up x 16 (ptr mb)) 17 (ptr mb)) 18 (ptr mb)) 19 (ptr (C.bt i))) 20 (ptr mb)) 21 (ptr mb)) 22 (ptr mb)) 23 (.func (.func 28) #[ptr mb] #[]))) [] (fun j=>decide (8≤j)) w:=by
 refine⟨fun q9 o ho hs=>?_,by decide +kernel,by decide +kernel⟩
 match q9,ho,hs with
 | 0,ho,_ =>
  obtain rfl:=so' ho;exact⟨16,⟨rfl,rfl,rfl,(by decide +kernel),nofun⟩,(show 16<34 by decide),fun a h τ δ=>ex_move rfl (show a.eval (.tmp 0)=(ptr mb) from(h _ (show Operand.tmp 0∈(#[Operand.tmp 0]:Array Operand) by simp)).trans e0)⟩
 | 1,ho,_ =>
  obtain rfl:=so' ho;exact⟨17,⟨rfl,rfl,rfl,(by decide +kernel),nofun⟩,(show 17<34 by decide),fun a h τ δ=>ex_nilc rfl (show a.eval (.tmp 16)=(ptr mb) from(h _ (show Operand.tmp 16∈(#[Operand.tmp 16]:Array Operand) by simp)))⟩
 | 2,ho,_ =>
  obtain rfl:=so' ho;exact⟨18,⟨rfl,rfl,rfl,(by decide +kernel),nofun⟩,(show 18<34 by decide),fun a h τ δ=>ex_field (v:=(ptr mb)) rfl (show a.eval (.tmp 17)=(ptr mb) from(h _ (show Operand.tmp 17∈(#[Operand.tmp 17]:Array Operand) by simp))) fa91_0⟩
 | 3,ho,_ =>
  obtain rfl:=so' ho;exact⟨19,⟨rfl,rfl,rfl,(by decide +kernel),nofun⟩,(show 19<34 by decide),fun a h τ δ=>ex_move rfl (show a.eval (.tmp 1)=(ptr (C.bt i)) from(h _ (show Operand.tmp 1∈(#[Operand.tmp 1]:Array Operand) by simp)).trans e1)⟩
 | 4,ho,_ =>
  obtain rfl:=so' ho;exact⟨20,⟨rfl,rfl,rfl,(by decide +kernel),nofun⟩,(show 20<34 by decide),fun a h τ δ=>ex_move rfl (show a.eval (.tmp 0)=(ptr mb) from(h _ (show Operand.tmp 0∈(#[Operand.tmp 0]:Array Operand) by simp)).trans e0)⟩
 | 5,ho,_ =>
  obtain rfl:=so' ho;exact⟨21,⟨rfl,rfl,rfl,(by decide +kernel),nofun⟩,(show 21<34 by decide),fun a h τ δ=>ex_nilc rfl (show a.eval (.tmp 20)=(ptr mb) from(h _ (show Operand.tmp 20∈(#[Operand.tmp 20]:Array Operand) by simp)))⟩
 | 6,ho,_ =>
  obtain rfl:=so' ho;exact⟨22,⟨rfl,rfl,rfl,(by decide +kernel),nofun⟩,(show 22<34 by decide),fun a h τ δ=>ex_field (v:=(ptr mb)) rfl (show a.eval (.tmp 21)=(ptr mb) from(h _ (show Operand.tmp 21∈(#[Operand.tmp 21]:Array Operand) by simp))) fa91_0⟩
 | 7,ho,_ =>
  obtain rfl:=so' ho;exact⟨23,⟨rfl,rfl,rfl,(by decide +kernel),nofun⟩,(show 23<34 by decide),fun a h τ δ=>w_mk1_0 rfl (show a.eval (.tmp 22)=(ptr mb) from(h _ (show Operand.tmp 22∈(#[Operand.tmp 22]:Array Operand) by simp)))⟩
 | 8,_,hs=>cases hs
 | 9,_,hs=>cases hs
 | n+10,ho,_ =>
  have:=lt_of_op ho;exact absurd this (by show ¬ n+10<10;omega)
theorem oq38 (w:World)(x:Nat→Value)(hb b:Nat)(by1:Int)(i:Nat)(c1:w.cell? ⟨hb,1,none⟩=some (.int .i64 by1))(hw:∀ w',Keeps [] w w'→Calls Try.prog 29 #[ptr b] w' fun e w2=>e=.returned (.int .i64 i)∧w2=w')(h0:x 0=ptr hb)(h1:x 1=ptr b) :
  (sL (sL (sR (sR (sR q38))))).wp Try.prog (fun e a' w'=>e=.normal∧a'.defers=[]∧lQ 26 (fun x=>x 0=ptr hb∧x 1=ptr b∧x 22=.bool (decide (by1≠i))) w a'.tmps w') ⟨fg 26 x,[]⟩ w:=by
 have HQ:Hid (∀ (t:Array Value) (w':World),lQ 26 (fun x=>x 0=ptr hb∧x 1=ptr b∧x 22=.bool (decide (by1≠i))) w t w'→lQ 26 (fun x=>x 0=ptr hb∧x 1=ptr b∧x 22=.bool (decide (by1≠i))) w t w'):=Lib.hid fun _ _ h=>h;generalize hG:lQ 26 (fun x=>x 0=ptr hb∧x 1=ptr b∧x 22=.bool (decide (by1≠i))) w=G at HQ ⊢;have HG:=Lib.hid hG;clear hG;rw[show fg 26 x=#[x 0,x 1,x 2,x 3,x 4,x 5,x 6,x 7,x 8,x 9,x 10,x 11,x 12,x 13,x 14,x 15,x 16,x 17,x 18,x 19,x 20,x 21,x 22,x 23,x 24,x 25] from rfl];simp only[q38,Try.f31,Option.getD_some,sL,sR,sB,sT,sF,h0,h1];have HW:=Lib.hid hw;clear hw
 go_wp2
 go_quiet (first | (go_at_call 29;exact Calls.quiet_of_same (HW.out _ ((Keeps.refl _ _).drewN _))))
 go_wp2
 refine HQ.out _ _ ?_;rw[← HG.out];exact lQ_mk rfl ⟨rfl,rfl,congrArg Value.bool (bne_dec _ _)⟩ ((Keeps.refl _ _).drewN _)
section
variable {L A:Type}{p:Plan L A}{C:WC}{k i n:Nat}{K:Goroutine→World→Prop}{F c:Frame}{cs rest:List Frame}{st:Nat→TS L}{X:Nat→Prop}{w:World}{a:A}{l:L}{g:List Nat}{P:A × Option L}
theorem held_wait {h rv:Value}(T:Th p C (k+1) i K F cs st X w n (a,some l))(hc:∀ f∈c::rest,OkFr f)(hrv:isFn rv)(hm:p.mem a (updT st i (.susp (l,g) rv)) X w)(hres:∀ K F cs st X w n a,Th p C k i K F cs st X w n (p.go i (.susp l) a n)→(∃ rv,st i=.susp (l,g) rv)→p.mem a st X w→K (gs (c.finish (.int .i64 0)) (rest++F::cs)) w):K (gs (Frame.enter Try.prog 27 #[h,ptr (C.bt i),rv] .normal) (c::(rest++F::cs))) w:=by
 have hk:(base 27).kind≠.early:=nofun;have hK:=T.cl;have hD:=hK.det;rw[show(#[h,ptr (C.bt i),rv]:Array Value)=[h,ptr (C.bt i),rv].toArray from rfl,enter_fg (n:=17) (c:=q58) Try.func27 rfl rfl rfl];refine hD.sr (hD.asn (.int .i64 0) ?_);refine hD.e0 (hD.s0 (hD.sr (hD.mvn (ptr (C.bt i)) ?_)));refine hD.pun (.bool false) (fun w=>w_eql28_p rfl rfl) ?_;refine hD.mvn (.bool false) ?_;refine hD.gun ?_;refine hD.gun ?_;refine hD.gun ?_;refine hD.pun (.bool false) (fun w=>pu_pick (t:=false) rfl rfl rfl) ?_;refine hD.e0 (hD.cc false (hD.k0 (hD.sr (hD.mvn (ptr (C.bt i)) ?_))));refine hD.mvn rv ?_;refine hD.cf #[ptr (C.bt i),rv] hk Try.func33 ?_;refine T.wait (rest:=c::rest) hrv (fun f hf=>by rcases List.mem_cons.1 hf with rfl | hf;exact⟨rfl,rfl,_,Try.func27⟩;exact hc f hf) hm fun K F cs st X w n a T h1 h2=>?_;have hK:=T.cl;have hD:=hK.det;refine finn 16 ?_;refine hD.z0 (hD.asn (.int .i64 0) ?_);refine hD.e0 (hD.ret (n:=0) ?_);exact hD.leave (n:=0) (b:=base 27) (v:=.int .i64 0) rfl rfl Try.func27 (fun τ d=>res1v rfl rfl) (hc c (by simp)).1 (hres K F cs st X w n a T h1 h2)
theorem mutex_lock {mb:Nat}{by0:Int}(T:Th p C (k+1) i K F cs st X w n (a,some l))(hc:∀ f∈c::rest,OkFr f)(hmb:Cel w mb [.bool true,.int .i64 by0] 67)(hm:p.mem a (updT st i (.susp (l,g) (.func (.func 28) #[ptr mb] #[]))) X w)(hres:∀ K F cs st X w n a,Th p C k i K F cs st X w n (p.go i (.susp l) a n)→(∃ rv,st i=.susp (l,g) rv)→p.mem a st X w→∃ by1,Blk w mb [.bool true,.int .i64 by1] 67∧X mb∧∀ w',Kp [mb] w w'→Blk w' mb [.bool true,.int .i64 i] 67→Th p C k i K F cs st X w' n (p.go i (.susp l) a n)→K (gs (c.finish (.int .i64 0)) (rest++F::cs)) w'):K (gs (Frame.enter Try.prog 22 #[ptr mb,ptr (C.bt i)] .normal) (c::(rest++F::cs))) w:=by
 have hk:(base 22).kind≠.early:=nofun;have hK:=T.cl;have hD:=hK.det;rw[show(#[ptr mb,ptr (C.bt i)]:Array Value)=[ptr mb,ptr (C.bt i)].toArray from rfl,enter_fg (n:=34) (c:=q28) Try.func22 rfl rfl rfl];refine hD.sr (hD.asn (.int .i64 0) ?_);refine hD.e0 (hD.s0 (hD.sr (hD.mvn (ptr mb) ?_)));refine hD.pun (.bool false) (fun w=>w_eql48_p rfl rfl) ?_;refine hD.mvn (.bool false) ?_;refine hD.gwn (ptr mb) rfl (fun τ d=>ex_move rfl rfl) ?_;refine hD.gwn (ptr mb) rfl (fun τ d=>ex_nilc rfl rfl) ?_;refine hD.gwn (ptr mb) rfl (fun τ d=>ex_field (v:=(ptr mb)) rfl rfl fa91_0) ?_;refine hD.gwn (ptr mb) rfl (fun τ d=>ex_field (v:=(ptr mb)) rfl rfl fa86_0) ?_;refine hD.gwn (.bool true) rfl (fun τ d=>ex_load rfl rfl (l_4 (hmb.cell 0))) ?_;refine hD.gwn (.bool false) rfl (fun τ d=>pu_not (y:=true) rfl rfl) ?_;refine hD.pun (.bool false) (fun w=>pu_pick (t:=false) rfl rfl rfl) ?_;refine hD.e0 (hD.cc false (hD.k0 (hD.s0 ?_)));refine draw_call (s:=8) hK [(16,(ptr mb)),(17,(ptr mb)),(18,(ptr mb)),(19,(ptr (C.bt i))),(20,(ptr mb)),(21,(ptr mb)),(22,(ptr mb)),(23,(.func (.func 28) #[ptr mb] #[]))] rfl mixed (oq28 rfl rfl) (by decide +kernel) (by decide +kernel) (by decide +kernel)
  [(0,(ptr mb)),(1,(ptr (C.bt i))),(4,(.int .i64 0)),(6,(ptr mb)),(7,(.bool false)),(8,(.bool false)),(9,(ptr mb)),(10,(ptr mb)),(11,(ptr mb)),(12,(ptr mb)),(13,(.bool true)),(14,(.bool false)),(15,(.bool false)),(16,(ptr mb)),(17,(ptr mb)),(18,(ptr mb)),(19,(ptr (C.bt i))),(20,(ptr mb)),(21,(ptr mb)),(22,(ptr mb)),(23,(.func (.func 28) #[ptr mb] #[]))] ⟨⟨(show 0<34 by decide),(show freeOf (sO (sL (sR (sR q28)))) 8 0=true by decide +kernel),rfl⟩,⟨(show 1<34 by decide),(show freeOf (sO (sL (sR (sR q28)))) 8 1=true by decide +kernel),rfl⟩,⟨(show 4<34 by decide),(show freeOf (sO (sL (sR (sR q28)))) 8 4=true by decide +kernel),rfl⟩,⟨(show 6<34 by decide),(show freeOf (sO (sL (sR (sR q28)))) 8 6=true by decide +kernel),rfl⟩,⟨(show 7<34 by decide),(show freeOf (sO (sL (sR (sR q28)))) 8 7=true by decide +kernel),rfl⟩,⟨(show 8<34 by decide),(show freeOf (sO (sL (sR (sR q28)))) 8 8=true by decide +kernel),rfl⟩,⟨(show 9<34 by decide),(show freeOf (sO (sL (sR (sR q28)))) 8 9=true by decide +kernel),rfl⟩,⟨(show 10<34 by decide),(show freeOf (sO (sL (sR (sR q28)))) 8 10=true by decide +kernel),rfl⟩,⟨(show 11<34 by decide),(show freeOf (sO (sL (sR (sR q28)))) 8 11=true by decide +kernel),rfl⟩,⟨(show 12<34 by decide),(show freeOf (sO (sL (sR (sR q28)))) 8 12=true by decide +kernel),rfl⟩,⟨(show 13<34 by decide),(show freeOf (sO (sL (sR (sR q28)))) 8 13=true by decide +kernel),rfl⟩,⟨(show 14<34 by decide),(show freeOf (sO (sL (sR (sR q28)))) 8 14=true by decide +kernel),rfl⟩,⟨(show 15<34 by decide),(show freeOf (sO (sL (sR (sR q28)))) 8 15=true by decide +kernel),rfl⟩,⟨(show 16<34 by decide),(show freeOf (sO (sL (sR (sR q28)))) 8 16=true by decide +kernel),rfl⟩,⟨(show 17<34 by decide),(show freeOf (sO (sL (sR (sR q28)))) 8 17=true by decide +kernel),rfl⟩,⟨(show 18<34 by decide),(show freeOf (sO (sL (sR (sR q28)))) 8 18=true by decide +kernel),rfl⟩,⟨(show 19<34 by decide),(show freeOf (sO (sL (sR (sR q28)))) 8 19=true by decide +kernel),rfl⟩,⟨(show 20<34 by decide),(show freeOf (sO (sL (sR (sR q28)))) 8 20=true by decide +kernel),rfl⟩,⟨(show 21<34 by decide),(show freeOf (sO (sL (sR (sR q28)))) 8 21=true by decide +kernel),rfl⟩,⟨(show 22<34 by decide),(show freeOf (sO (sL (sR (sR q28)))) 8 22=true by decide +kernel),rfl⟩,⟨(show 23<34 by decide),(show freeOf (sO (sL (sR (sR q28)))) 8 23=true by decide +kernel),rfl⟩,trivial⟩ (fun x2 fu te hfu=>?_) (show(([16,17,18,19,20,21,22,23]:List Nat).all fun d=>(sO (sL (sR (sR q28)))).any fun o=>o.dst==some d)=true by decide +kernel)
 refine hD.cf #[ptr mb,ptr (C.bt i),(.func (.func 28) #[ptr mb] #[])] hk Try.func27 ?_;refine held_wait (rest:=c::rest) T (fun f hf=>by rcases List.mem_cons.1 hf with rfl | hf;exact⟨rfl,rfl,_,Try.func22⟩;exact hc f hf) (.inr ⟨_,_,_,rfl⟩) hm fun K F cs st X w n a T h1 h2=>?_;have hK:=T.cl;have hD:=hK.det;obtain⟨by1,hb1,hX,hnext⟩:=hres K F cs st X w n a T h1 h2;refine finn 24 ?_;refine lin_last (by decide +kernel) (by decide +kernel) (by decide +kernel) hfu ?_;refine hD.asn (.int .i64 0) ?_;refine hD.e0 (hD.s0 (hD.sr (hD.mvn (.int .i64 0) ?_)));refine hD.pun (.bool (decide ((0:Int)=0))) (fun w=>w_eql35 rfl rfl rfl) ?_;refine hD.e0 (hD.cc true (hD.r0 (hD.mvn (ptr mb) ?_)));refine hD.mvn (ptr (C.bt i)) ?_;refine hD.cf #[ptr (C.bt i)] hk Try.func29 ?_;obtain⟨ba,sa,ck,ga,ca,hrn⟩:=T.rn;refine hK.callp fits shut (f:=29) rfl (v:=.int .i64 i) (fun τ d=>who_calls _ _ _ _ _ _ _ _ _ _ T.bt hrn) ?_;refine finn 29 ?_;refine hD.ncn ⟨mb,0,none⟩ ?_;refine hD.fdn (ptr mb) fa91_0 ?_;refine hD.fdn (ptrAt mb 1) fa86_1 ?_;refine hD.so hb1 1 (.int .i64 (i:Int)) s_3 fun w1 ksw1 bw1=>?_;refine hD.z0 (hD.mvn (.int .i64 0) ?_);refine hD.asn (.int .i64 0) ?_;refine hD.e0 (hD.ret (n:=0) ?_);exact hD.leave (n:=0) (b:=base 22) (v:=.int .i64 0) rfl rfl Try.func22 (fun τ d=>res1v rfl rfl) (hc c (by simp)).1 (hnext _ ksw1 bw1 (T.kp1 (Blk.cel hb1) (by decide) (by decide) hX ksw1))
theorem held_unlock {hb:Nat}{by0:Int}  (T:Th p C (k+1) i K F cs st X w n (a,some l))(hc:∀ f∈c::rest,OkFr f)(hmb:Cel w hb [.bool true,.int .i64 by0] 67)(hm:p.mem a (updT st i (.susp (l,g) .nilFunc)) X w)(hres:∀ K F cs st X w n a,Th p C k i K F cs st X w n (p.go i (.susp l) a n)→(∃ rv,st i=.susp (l,g) rv)→p.mem a st X w→∃ by1 ,Blk w hb [.bool true,.int .i64 by1] 67∧X hb∧(by1≠(i:Int)→∀ w',Kp [] w w'→Blk w' hb [.bool true,.int .i64 by1] 67→Th p C k i K F cs st X w' n (p.go i (.susp l) a n)→K (gs (c.finish (.int .i64 90)) (rest++F::cs)) w')∧(by1=(i:Int)→∀ w',Kp [hb] w w'→Blk w' hb [.bool true,.int .i64 (-1)] 67→Th p C k i K F cs st X w' n (p.go i (.susp l) a n)→K (gs (c.finish (.int .i64 0)) (rest++F::cs)) w')):K (gs (Frame.enter Try.prog 31 #[ptr hb,ptr (C.bt i)] .normal) (c::(rest++F::cs))) w:=by
 have hk:(base 31).kind≠.early:=nofun;have hK:=T.cl;have hD:=hK.det;rw[show(#[ptr hb,ptr (C.bt i)]:Array Value)=[ptr hb,ptr (C.bt i)].toArray from rfl,enter_fg (n:=26) (c:=q38) Try.func31 rfl rfl rfl];refine hD.sr (hD.asn (.int .i64 0) ?_);refine hD.e0 (hD.s0 (hD.sr (hD.mvn (ptr hb) ?_)));refine hD.pun (.bool false) (fun w=>w_eql139_p rfl rfl) ?_;refine hD.mvn (.bool false) ?_;refine hD.gwn (ptr hb) rfl (fun τ d=>ex_move rfl rfl) ?_;refine hD.gwn (ptr hb) rfl (fun τ d=>ex_nilc rfl rfl) ?_;refine hD.gwn (ptr hb) rfl (fun τ d=>ex_field (v:=(ptr hb)) rfl rfl fa86_0) ?_;refine hD.gwn (.bool true) rfl (fun τ d=>ex_load rfl rfl (l_4 (hmb.cell 0))) ?_;refine hD.gwn (.bool false) rfl (fun τ d=>pu_not (y:=true) rfl rfl) ?_;refine hD.pun (.bool false) (fun w=>pu_pick (t:=false) rfl rfl rfl) ?_;refine hD.e0 (hD.cc false (hD.k0 (hD.sr (hD.mvn (ptr (C.bt i)) ?_))));refine hD.cf #[ptr (C.bt i)] hk Try.func23 ?_;refine T.step (rest:=c::rest) (fun f hf=>by rcases List.mem_cons.1 hf with rfl | hf;exact⟨rfl,rfl,_,Try.func31⟩;exact hc f hf) hm fun K F cs st X w n a T h1 h2=>?_;have hK:=T.cl;have hD:=hK.det;obtain⟨by1,hb1,hX,hne,heq⟩:=hres K F cs st X w n a T h1 h2;refine finn 15 ?_;refine hD.e0 (hD.s0 (hD.s0 ?_));obtain⟨ba,sa,ck,ga,ca,hrn⟩:=T.rn;refine hK.seg fits shut (b:=base 31) ⟨_,Try.func31⟩ nofun (c:=(sL (sL (sR (sR (sR q38)))))) (by decide +kernel) (Q:=lQ 26 (fun x=>x 0=ptr hb∧x 1=ptr (C.bt i)∧x 22=.bool (decide (by1≠i))) w) (fun t w' τ d h=>lQ_re h τ d) (fun τ d=>Code.wp_mono (fun e a w' ⟨h1,h2,h3⟩=>⟨h1,h2,lQ_un h3⟩) (oq38 (re w τ d) _ hb (C.bt i) by1 i (hb1.cell 1) (fun w' k=>who_calls w' _ _ _ _ _ _ _ _ _ ((Keeps.kp k).cel (re_cel T.bt) (by simp)) ((Keeps.kp k).cel (re_cel hrn) (by simp))) rfl rfl)) fun t w1 ⟨x',ex',⟨g0,g1,g22⟩,ksw1⟩=>?_;subst ex';rw[allK.self (x:=x') (l:=[(0,ptr hb),(1,ptr (C.bt i)),(22,.bool (decide (by1≠i)))]) ⟨g0,g1,g22,trivial⟩];have hb1':=ksw1.blk hb1 (by simp);have T:=T.kp ksw1;by_cases hbi:by1=i
 ·refine hD.cond (n:=0) false (show Value.bool (decide (by1≠(i:Int)))=_ by rw[decide_eq_false (fun h=>h hbi)]) rfl ?_
  refine hD.k0 (hD.sr (hD.mvn (ptr hb) ?_));refine hD.ncn ⟨hb,0,none⟩ ?_;refine hD.fdn (ptrAt hb 1) fa86_1 ?_;refine hD.so hb1' 1 (.int .i64 (-1)) s_3 fun w2 ksw2 bw2=>?_;refine hD.z0 (hD.asn (.int .i64 0) ?_);refine hD.e0 (hD.ret (n:=0) ?_);exact hD.leave (n:=0) (b:=base 31) (v:=.int .i64 0) rfl rfl Try.func31 (fun τ d=>res1v rfl rfl) (hc c (by simp)).1 (heq hbi _ (ksw1.kp1 ksw2) bw2 (T.kp1 (Blk.cel hb1') (by decide) (by decide) hX ksw2))
 ·refine hD.cond (n:=0) true (show Value.bool (decide (by1≠(i:Int)))=_ by rw[decide_eq_true hbi]) rfl ?_
  refine hD.sr (hD.asn (.int .i64 90) ?_);refine hD.e0 (hD.ret (n:=0) ?_);exact hD.leave (n:=0) (b:=base 31) (v:=.int .i64 90) rfl rfl Try.func31 (fun τ d=>res1v rfl rfl) (hc c (by simp)).1 (hne hbi _ ksw1 hb1' T)
theorem held_unlockF {hb:Nat}{by0:Int}{as0:Int}{ha0:Int}(T:Th p C (k+1) i K F cs st X w n (a,some l))(hc:∀ f∈c::rest,OkFr f)(hmb:Cel w hb [.bool true,.int .i64 by0,.int .i64 as0,.int .i64 ha0] 88)(hm:p.mem a (updT st i (.susp (l,g) .nilFunc)) X w)(hres:∀ K F cs st X w n a,Th p C k i K F cs st X w n (p.go i (.susp l) a n)→(∃ rv,st i=.susp (l,g) rv)→p.mem a st X w→∃ by1 as1 ha1,Blk w hb [.bool true,.int .i64 by1,.int .i64 as1,.int .i64 ha1] 88∧X hb∧(by1≠(i:Int)→∀ w',Kp [] w w'→Blk w' hb [.bool true,.int .i64 by1,.int .i64 as1,.int .i64 ha1] 88→Th p C k i K F cs st X w' n (p.go i (.susp l) a n)→K (gs (c.finish (.int .i64 90)) (rest++F::cs)) w')∧(by1=(i:Int)→∀ w',Kp [hb] w w'→Blk w' hb [.bool true,.int .i64 (-1),.int .i64 as1,.int .i64 ha1] 88→Th p C k i K F cs st X w' n (p.go i (.susp l) a n)→K (gs (c.finish (.int .i64 0)) (rest++F::cs)) w')):K (gs (Frame.enter Try.prog 31 #[ptr hb,ptr (C.bt i)] .normal) (c::(rest++F::cs))) w:=by
 have hk:(base 31).kind≠.early:=nofun;have hK:=T.cl;have hD:=hK.det;rw[show(#[ptr hb,ptr (C.bt i)]:Array Value)=[ptr hb,ptr (C.bt i)].toArray from rfl,enter_fg (n:=26) (c:=q38) Try.func31 rfl rfl rfl];refine hD.sr (hD.asn (.int .i64 0) ?_);refine hD.e0 (hD.s0 (hD.sr (hD.mvn (ptr hb) ?_)));refine hD.pun (.bool false) (fun w=>w_eql139_p rfl rfl) ?_;refine hD.mvn (.bool false) ?_;refine hD.gwn (ptr hb) rfl (fun τ d=>ex_move rfl rfl) ?_;refine hD.gwn (ptr hb) rfl (fun τ d=>ex_nilc rfl rfl) ?_;refine hD.gwn (ptr hb) rfl (fun τ d=>ex_field (v:=(ptr hb)) rfl rfl fa86_0) ?_;refine hD.gwn (.bool true) rfl (fun τ d=>ex_load rfl rfl (l_4 (hmb.cell 0))) ?_;refine hD.gwn (.bool false) rfl (fun τ d=>pu_not (y:=true) rfl rfl) ?_;refine hD.pun (.bool false) (fun w=>pu_pick (t:=false) rfl rfl rfl) ?_;refine hD.e0 (hD.cc false (hD.k0 (hD.sr (hD.mvn (ptr (C.bt i)) ?_))));refine hD.cf #[ptr (C.bt i)] hk Try.func23 ?_;refine T.step (rest:=c::rest) (fun f hf=>by rcases List.mem_cons.1 hf with rfl | hf;exact⟨rfl,rfl,_,Try.func31⟩;exact hc f hf) hm fun K F cs st X w n a T h1 h2=>?_;have hK:=T.cl;have hD:=hK.det;obtain⟨by1,as1,ha1,hb1,hX,hne,heq⟩:=hres K F cs st X w n a T h1 h2;refine finn 15 ?_;refine hD.e0 (hD.s0 (hD.s0 ?_));obtain⟨ba,sa,ck,ga,ca,hrn⟩:=T.rn;refine hK.seg fits shut (b:=base 31) ⟨_,Try.func31⟩ nofun (c:=(sL (sL (sR (sR (sR q38)))))) (by decide +kernel) (Q:=lQ 26 (fun x=>x 0=ptr hb∧x 1=ptr (C.bt i)∧x 22=.bool (decide (by1≠i))) w) (fun t w' τ d h=>lQ_re h τ d) (fun τ d=>Code.wp_mono (fun e a w' ⟨h1,h2,h3⟩=>⟨h1,h2,lQ_un h3⟩) (oq38 (re w τ d) _ hb (C.bt i) by1 i (hb1.cell 1) (fun w' k=>who_calls w' _ _ _ _ _ _ _ _ _ ((Keeps.kp k).cel (re_cel T.bt) (by simp)) ((Keeps.kp k).cel (re_cel hrn) (by simp))) rfl rfl)) fun t w1 ⟨x',ex',⟨g0,g1,g22⟩,ksw1⟩=>?_;subst ex';rw[allK.self (x:=x') (l:=[(0,ptr hb),(1,ptr (C.bt i)),(22,.bool (decide (by1≠i)))]) ⟨g0,g1,g22,trivial⟩];have hb1':=ksw1.blk hb1 (by simp);have T:=T.kp ksw1;by_cases hbi:by1=i
 ·refine hD.cond (n:=0) false (show Value.bool (decide (by1≠(i:Int)))=_ by rw[decide_eq_false (fun h=>h hbi)]) rfl ?_
  refine hD.k0 (hD.sr (hD.mvn (ptr hb) ?_));refine hD.ncn ⟨hb,0,none⟩ ?_;refine hD.fdn (ptrAt hb 1) fa86_1 ?_;refine hD.so hb1' 1 (.int .i64 (-1)) s_3 fun w2 ksw2 bw2=>?_;refine hD.z0 (hD.asn (.int .i64 0) ?_);refine hD.e0 (hD.ret (n:=0) ?_);exact hD.leave (n:=0) (b:=base 31) (v:=.int .i64 0) rfl rfl Try.func31 (fun τ d=>res1v rfl rfl) (hc c (by simp)).1 (heq hbi _ (ksw1.kp1 ksw2) bw2 (T.kp1 (Blk.cel hb1') (by decide) (by decide) hX ksw2))
 ·refine hD.cond (n:=0) true (show Value.bool (decide (by1≠(i:Int)))=_ by rw[decide_eq_true hbi]) rfl ?_
  refine hD.sr (hD.asn (.int .i64 90) ?_);refine hD.e0 (hD.ret (n:=0) ?_);exact hD.leave (n:=0) (b:=base 31) (v:=.int .i64 90) rfl rfl Try.func31 (fun τ d=>res1v rfl rfl) (hc c (by simp)).1 (hne hbi _ ksw1 hb1' T)
theorem held_unlockR {hb:Nat}{by0:Int}{rd0:Int}{wt0:Int}(T:Th p C (k+1) i K F cs st X w n (a,some l))(hc:∀ f∈c::rest,OkFr f)(hmb:Cel w hb [.bool true,.int .i64 by0,.int .i64 rd0,.int .i64 wt0] 93)(hm:p.mem a (updT st i (.susp (l,g) .nilFunc)) X w)(hres:∀ K F cs st X w n a,Th p C k i K F cs st X w n (p.go i (.susp l) a n)→(∃ rv,st i=.susp (l,g) rv)→p.mem a st X w→∃ by1 rd1 wt1,Blk w hb [.bool true,.int .i64 by1,.int .i64 rd1,.int .i64 wt1] 93∧X hb∧(by1≠(i:Int)→∀ w',Kp [] w w'→Blk w' hb [.bool true,.int .i64 by1,.int .i64 rd1,.int .i64 wt1] 93→Th p C k i K F cs st X w' n (p.go i (.susp l) a n)→K (gs (c.finish (.int .i64 90)) (rest++F::cs)) w')∧(by1=(i:Int)→∀ w',Kp [hb] w w'→Blk w' hb [.bool true,.int .i64 (-1),.int .i64 rd1,.int .i64 wt1] 93→Th p C k i K F cs st X w' n (p.go i (.susp l) a n)→K (gs (c.finish (.int .i64 0)) (rest++F::cs)) w')):K (gs (Frame.enter Try.prog 31 #[ptr hb,ptr (C.bt i)] .normal) (c::(rest++F::cs))) w:=by
 have hk:(base 31).kind≠.early:=nofun;have hK:=T.cl;have hD:=hK.det;rw[show(#[ptr hb,ptr (C.bt i)]:Array Value)=[ptr hb,ptr (C.bt i)].toArray from rfl,enter_fg (n:=26) (c:=q38) Try.func31 rfl rfl rfl];refine hD.sr (hD.asn (.int .i64 0) ?_);refine hD.e0 (hD.s0 (hD.sr (hD.mvn (ptr hb) ?_)));refine hD.pun (.bool false) (fun w=>w_eql139_p rfl rfl) ?_;refine hD.mvn (.bool false) ?_;refine hD.gwn (ptr hb) rfl (fun τ d=>ex_move rfl rfl) ?_;refine hD.gwn (ptr hb) rfl (fun τ d=>ex_nilc rfl rfl) ?_;refine hD.gwn (ptr hb) rfl (fun τ d=>ex_field (v:=(ptr hb)) rfl rfl fa86_0) ?_;refine hD.gwn (.bool true) rfl (fun τ d=>ex_load rfl rfl (l_4 (hmb.cell 0))) ?_;refine hD.gwn (.bool false) rfl (fun τ d=>pu_not (y:=true) rfl rfl) ?_;refine hD.pun (.bool false) (fun w=>pu_pick (t:=false) rfl rfl rfl) ?_;refine hD.e0 (hD.cc false (hD.k0 (hD.sr (hD.mvn (ptr (C.bt i)) ?_))));refine hD.cf #[ptr (C.bt i)] hk Try.func23 ?_;refine T.step (rest:=c::rest) (fun f hf=>by rcases List.mem_cons.1 hf with rfl | hf;exact⟨rfl,rfl,_,Try.func31⟩;exact hc f hf) hm fun K F cs st X w n a T h1 h2=>?_;have hK:=T.cl;have hD:=hK.det;obtain⟨by1,rd1,wt1,hb1,hX,hne,heq⟩:=hres K F cs st X w n a T h1 h2;refine finn 15 ?_;refine hD.e0 (hD.s0 (hD.s0 ?_));obtain⟨ba,sa,ck,ga,ca,hrn⟩:=T.rn;refine hK.seg fits shut (b:=base 31) ⟨_,Try.func31⟩ nofun (c:=(sL (sL (sR (sR (sR q38)))))) (by decide +kernel) (Q:=lQ 26 (fun x=>x 0=ptr hb∧x 1=ptr (C.bt i)∧x 22=.bool (decide (by1≠i))) w) (fun t w' τ d h=>lQ_re h τ d) (fun τ d=>Code.wp_mono (fun e a w' ⟨h1,h2,h3⟩=>⟨h1,h2,lQ_un h3⟩) (oq38 (re w τ d) _ hb (C.bt i) by1 i (hb1.cell 1) (fun w' k=>who_calls w' _ _ _ _ _ _ _ _ _ ((Keeps.kp k).cel (re_cel T.bt) (by simp)) ((Keeps.kp k).cel (re_cel hrn) (by simp))) rfl rfl)) fun t w1 ⟨x',ex',⟨g0,g1,g22⟩,ksw1⟩=>?_;subst ex';rw[allK.self (x:=x') (l:=[(0,ptr hb),(1,ptr (C.bt i)),(22,.bool (decide (by1≠i)))]) ⟨g0,g1,g22,trivial⟩];have hb1':=ksw1.blk hb1 (by simp);have T:=T.kp ksw1;by_cases hbi:by1=i
 ·refine hD.cond (n:=0) false (show Value.bool (decide (by1≠(i:Int)))=_ by rw[decide_eq_false (fun h=>h hbi)]) rfl ?_
  refine hD.k0 (hD.sr (hD.mvn (ptr hb) ?_));refine hD.ncn ⟨hb,0,none⟩ ?_;refine hD.fdn (ptrAt hb 1) fa86_1 ?_;refine hD.so hb1' 1 (.int .i64 (-1)) s_3 fun w2 ksw2 bw2=>?_;refine hD.z0 (hD.asn (.int .i64 0) ?_);refine hD.e0 (hD.ret (n:=0) ?_);exact hD.leave (n:=0) (b:=base 31) (v:=.int .i64 0) rfl rfl Try.func31 (fun τ d=>res1v rfl rfl) (hc c (by simp)).1 (heq hbi _ (ksw1.kp1 ksw2) bw2 (T.kp1 (Blk.cel hb1') (by decide) (by decide) hX ksw2))
 ·refine hD.cond (n:=0) true (show Value.bool (decide (by1≠(i:Int)))=_ by rw[decide_eq_true hbi]) rfl ?_
  refine hD.sr (hD.asn (.int .i64 90) ?_);refine hD.e0 (hD.ret (n:=0) ?_);exact hD.leave (n:=0) (b:=base 31) (v:=.int .i64 90) rfl rfl Try.func31 (fun τ d=>res1v rfl rfl) (hc c (by simp)).1 (hne hbi _ ksw1 hb1' T)
theorem mutex_unlock {hb:Nat}{by0:Int}  (T:Th p C (k+1) i K F cs st X w n (a,some l))(hc:∀ f∈c::rest,OkFr f)(hmb:Cel w hb [.bool true,.int .i64 by0] 67)(hm:p.mem a (updT st i (.susp (l,g) .nilFunc)) X w)(hres:∀ K F cs st X w n a,Th p C k i K F cs st X w n (p.go i (.susp l) a n)→(∃ rv,st i=.susp (l,g) rv)→p.mem a st X w→∃ by1 ,Blk w hb [.bool true,.int .i64 by1] 67∧X hb∧(by1≠(i:Int)→∀ w',Kp [] w w'→Blk w' hb [.bool true,.int .i64 by1] 67→Th p C k i K F cs st X w' n (p.go i (.susp l) a n)→K (gs (c.finish (.int .i64 90)) (rest++F::cs)) w')∧(by1=(i:Int)→∀ w',Kp [hb] w w'→Blk w' hb [.bool true,.int .i64 (-1)] 67→Th p C k i K F cs st X w' n (p.go i (.susp l) a n)→K (gs (c.finish (.int .i64 0)) (rest++F::cs)) w')):K (gs (Frame.enter Try.prog 24 #[ptr hb,ptr (C.bt i)] .normal) (c::(rest++F::cs))) w:=by
 have hk:(base 24).kind≠.early:=nofun;have hK:=T.cl;have hD:=hK.det;rw[show(#[ptr hb,ptr (C.bt i)]:Array Value)=[ptr hb,ptr (C.bt i)].toArray from rfl,enter_fg (n:=12) (c:=q30) Try.func24 rfl rfl rfl];refine hD.sr (hD.asn (.int .i64 0) ?_);refine hD.e0 (hD.s0 (hD.sr (hD.mvn (ptr hb) ?_)));refine hD.pun (.bool false) (fun w=>w_eql48_p rfl rfl) ?_;refine hD.e0 (hD.cc false (hD.k0 (hD.sr (hD.mvn (ptr hb) ?_))));refine hD.ncn ⟨hb,0,none⟩ ?_;refine hD.fdn (ptr hb) fa91_0 ?_;refine hD.mvn (ptr (C.bt i)) ?_;refine hD.cf #[ptr hb,ptr (C.bt i)] hk Try.func31 ?_;refine held_unlock (rest:=c::rest) T (fun f hf=>by rcases List.mem_cons.1 hf with rfl | hf;exact⟨rfl,rfl,_,Try.func24⟩;exact hc f hf) hmb hm fun K F cs st X w n a T h1 h2=>?_;obtain⟨by1,hb1,hX,hne,heq⟩:=hres K F cs st X w n a T h1 h2;refine⟨by1,hb1,hX,fun e w k1 b1 T=>?_,fun e w k1 b1 T=>?_⟩
 ·have hK:=T.cl
  have hD:=hK.det;refine finn 11 ?_;refine hD.asn (.int .i64 90) ?_;refine hD.e0 (hD.ret (n:=0) ?_);exact hD.leave (n:=0) (b:=base 24) (v:=.int .i64 90) rfl rfl Try.func24 (fun τ d=>res1v rfl rfl) (hc c (by simp)).1 (hne e _ k1 b1 T)
 ·have hK:=T.cl
  have hD:=hK.det;refine finn 11 ?_;refine hD.asn (.int .i64 0) ?_;refine hD.e0 (hD.ret (n:=0) ?_);exact hD.leave (n:=0) (b:=base 24) (v:=.int .i64 0) rfl rfl Try.func24 (fun τ d=>res1v rfl rfl) (hc c (by simp)).1 (heq e _ k1 b1 T)
end
theorem l_48 {w:World}{a:Addr}{v:Value}(hc:w.cell? a=some v):(Instr.loadAt 51 (.pointer (some a))).run Try.prog w=.ok v w:=by simp[go_sem,hc,Try.underlying51,Try.runUnderlying51,Try.sizeOf51,Try.isAgg51]
inductive WkL
 | lock
 | step
 | unlock
structure WkA where
 by':Int
 n:Int
def wkGo (i:Nat)(t:ES WkL)(a:WkA)(_:Nat):WkA × Option WkL:=match t with
 | .fresh=>(a,some .lock)
 | .susp .lock=>(⟨i,wrap64 (a.n+1)⟩,some .step)
 | .susp .step=>(a,some .unlock)
 | .susp .unlock=>if a.by'=i then (⟨-1,a.n⟩,none) else (a,none)
 | .done=>(a,none)
def wkRdy (_:Nat)(l:WkL)(a:WkA):Bool:=match l with
 | .lock=>decide (a.by' = -1)
 | _=>true
def wkRv (mb:Nat):WkL→Value
 | .lock=>.func (.func 28) #[ptr mb] #[]
 | _=>.nilFunc
structure WkM (mx mb nb:Nat)(a:WkA)(st:Nat→TS WkL)(X:Nat→Prop)(w:World):Prop where
 x:∀ b,X b↔b=mx∨b=mb∨b=nb
 m:Blk w mx [ptr mb] 51
 l:Blk w mb [.bool true,.int .i64 a.by'] 67
 n:Blk w nb [.int .i64 a.n] 3
 rv:∀ i l rv,st i=.susp l rv→rv=wkRv mb l.1
def wkPlan (mx mb nb:Nat):Plan WkL WkA:=⟨WkM mx mb nb,wkGo,wkRdy⟩
theorem WkM.up {mx mb nb:Nat}{a a':WkA}{st:Nat→TS WkL}{X:Nat→Prop}{w w':World}(h:WkM mx mb nb a st X w)(i:Nat)(l:WkL)(hm:Blk w' mx [ptr mb] 51)(hl:Blk w' mb [.bool true,.int .i64 a'.by'] 67)(hn:Blk w' nb [.int .i64 a'.n] 3):WkM mx mb nb a' (updT st i (.susp (l,[]) (wkRv mb l))) X w' :=
 ⟨h.x,hm,hl,hn,fun j l' rv e=>by
  unfold updT at e;split at e
  ·cases e;rfl
  ·exact h.rv j l' rv e⟩
theorem WkM.over {mx mb nb:Nat}{a a':WkA}{st:Nat→TS WkL}{X:Nat→Prop}{w w':World}(h:WkM mx mb nb a st X w)(i:Nat)(hm:Blk w' mx [ptr mb] 51)(hl:Blk w' mb [.bool true,.int .i64 a'.by'] 67)(hn:Blk w' nb [.int .i64 a'.n] 3):WkM mx mb nb a' (updT st i .done) X w' :=
 ⟨h.x,hm,hl,hn,fun j l' rv e=>by
  unfold updT at e;split at e
  ·cases e
  ·exact h.rv j l' rv e⟩
theorem wk_body {C:WC}{i n:Nat}{K:Goroutine→World→Prop}{F:Frame}{cs:List Frame}{st:Nat→TS WkL}{X:Nat→Prop}{w:World}{a:WkA}{mx mb nb:Nat}(T:Th (wkPlan mx mb nb) C 3 i K F cs st X w n (a,some .lock))(hm:(wkPlan mx mb nb).mem a st X w):K (gs (Frame.enter Try.prog 21 #[ptr (C.bt i),ptr mx,ptr nb] .normal) (F::cs)) w:=by
 obtain⟨hx,b1,b2,b3,hw⟩:=id hm;have hk:(base 21).kind≠.early:=nofun;have hK:=T.cl;have hD:=hK.det;rw[show(#[ptr (C.bt i),ptr mx,ptr nb]:Array Value)=[ptr (C.bt i),ptr mx,ptr nb].toArray from rfl,enter_fg (n:=15) (c:=q27) Try.func21 rfl rfl rfl];refine hD.sr (hD.ldn (ptr mb) (fun τ d=>l_48 (b1.cell 0)) ?_);refine hD.mvn (ptr (C.bt i)) ?_;refine hD.cf #[ptr mb,ptr (C.bt i)] hk Try.func22 ?_;refine mutex_lock (rest:=[]) T (fun f hf=>by rcases List.mem_cons.1 hf with rfl | hf;exact⟨rfl,rfl,_,Try.func21⟩;exact absurd hf (by simp)) (Blk.cel b2) (hm.up i .lock b1 b2 b3) fun K F cs st X w n a T h1 hm=>?_;obtain⟨hx,b1,b2,b3,hw⟩:=id hm;refine⟨a.by',b2,(hx _).2 (.inr (.inl rfl)),fun w1 k1 b2' T=>?_⟩;have hK:=T.cl;have hD:=hK.det;have b1:=k1.blk b1 (by simpa using cel_ne (Blk.cel b1) (Blk.cel b2) (by decide));have b3:=k1.blk b3 (by simpa using cel_ne (Blk.cel b3) (Blk.cel b2) (by decide));clear b2;refine finn 6 ?_;refine hD.pun (.bool (decide ((0:Int)=0))) (fun w=>w_eql35 rfl rfl rfl) ?_;refine hD.e0 (hD.cc true (hD.sr (hD.ldn (.int .i64 a.n) (fun τ d=>l_3 (b3.cell 0)) ?_)));refine hD.pun (.int .i64 (wrap64 (a.n+1))) (fun w=>w_add3 rfl rfl rfl) ?_;refine hD.so b3 0 (.int .i64 (wrap64 (a.n+1))) s_3 fun w2 ksw2 bw2=>?_;have b1':=ksw2.blk b1 (by simpa using (cel_ne (Blk.cel b1) (Blk.cel b3) (by decide)));have b2'':=ksw2.blk b2' (by simpa using (cel_ne (Blk.cel b2') (Blk.cel b3) (by decide)));have T:=T.kp1 (Blk.cel b3) (by decide) (by decide) ((hm.x _).2 (.inr (.inr rfl))) ksw2;refine hD.z0 (hD.mvn (ptr (C.bt i)) ?_);refine hD.cf #[ptr (C.bt i)] hk Try.func23 ?_;refine ThR.step (a:=(⟨i,wrap64 (a.n+1)⟩:WkA)) (l:=WkL.step) (rest:=[]) T (fun f hf=>by rcases List.mem_cons.1 hf with rfl | hf;exact⟨rfl,rfl,_,Try.func21⟩;exact absurd hf (by simp)) (hm.up i .step b1' b2'' bw2) fun K F cs st X w n a T h1 hm=>?_;obtain⟨hx,b1,b2,b3,hw⟩:=id hm;have hK:=T.cl;have hD:=hK.det;refine finn 11 ?_;refine hD.e0 (hD.r0 (hD.ldn (ptr mb) (fun τ d=>l_48 (b1.cell 0)) ?_));refine hD.mvn (ptr (C.bt i)) ?_;refine hD.cf #[ptr mb,ptr (C.bt i)] hk Try.func24 ?_;refine mutex_unlock (a:=a) (l:=WkL.unlock) (rest:=[]) T (fun f hf=>by rcases List.mem_cons.1 hf with rfl | hf;exact⟨rfl,rfl,_,Try.func21⟩;exact absurd hf (by simp)) (Blk.cel b2) (hm.up i .unlock b1 b2 b3) fun K F cs st X w n a T h1 hm=>?_;obtain⟨hx,b1,b2,b3,hw⟩:=id hm;refine⟨a.by',b2,(hx _).2 (.inr (.inl rfl)),fun e w1 k1 b2' T=>?_,fun e w1 k1 b2' T=>?_⟩
 ·have hK:=T.cl
  have hD:=hK.det;have b1:=k1.blk b1 (by simp);have b3:=k1.blk b3 (by simp);refine finn 14 ?_;refine hD.e0 (hD.end (n:=0) ?_);exact hD.leave (n:=0) (b:=base 21) (v:=.tuple #[]) rfl rfl Try.func21 (fun τ d=>res0 rfl) T.fm (T.hd a X w1 (if_neg e) (hm.over (a':=a) i b1 b2' b3) (Kx.refl' X w1))
 ·have hK:=T.cl
  have hD:=hK.det;have b1:=k1.blk b1 (by simpa using cel_ne (Blk.cel b1) (Blk.cel b2) (by decide));have b3:=k1.blk b3 (by simpa using cel_ne (Blk.cel b3) (Blk.cel b2) (by decide));refine finn 14 ?_;refine hD.e0 (hD.end (n:=0) ?_);exact hD.leave (n:=0) (b:=base 21) (v:=.tuple #[]) rfl rfl Try.func21 (fun τ d=>res0 rfl) T.fm (T.hd ⟨-1,a.n⟩ X w1 (if_pos e) (hm.over (a':=⟨-1,a.n⟩) i b1 b2' b3) (Kx.refl' X w1))
theorem wk_ok {C:WC}{mx mb nb:Nat}(hfn:∀ i,i<C.n→C.fn i=21)(hcap:∀ i,i<C.n→C.cap i=#[ptr mx,ptr nb]):BOk ((wkPlan mx mb nb).bods C) C:=by
 refine Plan.ok (fun {a st X w b} h hb=>?_) (fun {a st X w w'} h hb hs=>?_) (fun {a st X w i l rv} h hi e=>?_) (fun {i} hi=>?_) (fun i hi=>⟨3,fun K F cs st X w n a args T e hm ha=>?_⟩)
 ·rcases (h.x b).1 hb with rfl | rfl | rfl
  ·exact h.m.lt
  ·exact h.l.lt
  ·exact h.n.lt
 ·exact⟨h.x,(hb _ ((h.x _).2 (.inl rfl))).trans h.m,(hb _ ((h.x _).2 (.inr (.inl rfl)))).trans h.l,(hb _ ((h.x _).2 (.inr (.inr rfl)))).trans h.n,h.rv⟩
 ·have hr:=h.rv i l rv e
  obtain⟨l,gh⟩:=l;cases l with
  | lock =>
   refine .inr ⟨28,#[ptr mb],#[],_,_,hr,Try.func28,rfl,rfl,fun m K hK c cs w1 hc k1 hk=>?_⟩;refine hK.callp fits shut (f:=28) rfl (v:=.bool (decide (a.by' = -1))) (fun τ d=>free_calls _ mb ((k1.blk h.l (by simp)).cell 1)) ?_;exact hk w1 ⟨Nat.le_refl _,fun _ _ _=>rfl⟩
  | step=>exact .inl ⟨hr,rfl⟩
  | unlock=>exact .inl ⟨hr,rfl⟩
 ·rw[hfn i hi];exact⟨_,_,Try.func21,rfl,rfl⟩
 ·obtain rfl:args=#[ptr (C.bt i),ptr mx,ptr nb]:=by
   rw[hcap i hi] at ha;exact Array.ext' ha.symm
  rw[hfn i hi];exact wk_body T hm
def wkB:Bods WkL WkA:=⟨fun _ _ _ _=>True,fun _ _ _=>True,wkGo,wkRdy,fun _=>True⟩
theorem wkB_run:(runF wkB 2 (fun a=>a) (50:Int).toNat ⟨fun _=>.fresh,⟨-1,0⟩,[],[]⟩).a=⟨-1,2⟩∧(runF wkB 2 (fun a=>a) (50:Int).toNat ⟨fun _=>.fresh,⟨-1,0⟩,[],[]⟩).st 0=.done∧(runF wkB 2 (fun a=>a) (50:Int).toNat ⟨fun _=>.fresh,⟨-1,0⟩,[],[]⟩).st 1=.done∧(runF wkB 2 (fun a=>a) (50:Int).toNat ⟨fun _=>.fresh,⟨-1,0⟩,[],[]⟩).acts.length=8:=by
 refine⟨?_,?_,?_,?_⟩<;>kernel_rfl
theorem wk_run {B:Bods WkL WkA}(hg:B.go=wkGo)(hr:B.rdy=wkRdy):(runF B 2 (fun a=>a) (50:Int).toNat ⟨fun _=>.fresh,⟨-1,0⟩,[],[]⟩).a=⟨-1,2⟩∧(runF B 2 (fun a=>a) (50:Int).toNat ⟨fun _=>.fresh,⟨-1,0⟩,[],[]⟩).st 0=.done∧(runF B 2 (fun a=>a) (50:Int).toNat ⟨fun _=>.fresh,⟨-1,0⟩,[],[]⟩).st 1=.done∧(runF B 2 (fun a=>a) (50:Int).toNat ⟨fun _=>.fresh,⟨-1,0⟩,[],[]⟩).acts.length=8:=by
 rw[runF_congr (B':=wkB) hg hr];exact wkB_run
theorem fp_cel {α:Type}{w:World}{e:TypeId}{k:Nat}{f:α→List Value}{v:Value}{xs:List α}(h:Rep e k f w v xs):∀ b∈fp v,∃ cs,Cel w b cs e:=by
 intro b hb;rcases h.2 with⟨h0,_⟩ | ⟨g,cap,cur,h0,_,h1,_⟩
 ·rw[h0] at hb;simp[fp,Value.ownBlock] at hb
 ·rw[h0] at hb
  obtain rfl:b=g:=by simpa[fp,Value.ownBlock] using hb
  exact⟨cur.toList,_,h1⟩
theorem runF_acts_le {L A:Type}{B:Bods L A}{n:Nat}{beh:A→A}:∀ k (x:RunSt L A),(runF B n beh k x).acts.length≤x.acts.length+k
 | 0,x=>Nat.le_refl _
 | k+1,x=>by
  unfold runF;split
  ·omega
  ·refine Nat.le_trans (runF_acts_le k _) ?_
   show(x.acts++[_]).length+k≤_;rw[la',List.length_singleton];omega
def Plan.run {L A:Type}(p:Plan L A)(n:Nat)(most:Int)(a0:A)(picks:List Nat):RunSt L A:=runF (⟨fun _ _ _ _=>True,fun _ _ _=>True,p.go,p.rdy,fun _=>True⟩:Bods L A) n (fun a=>a) most.toNat ⟨fun _=>.fresh,a0,[],picks⟩
structure Ran {L A:Type}(p:Plan L A)(n:Nat)(most:Int)(y:RunSt L A)(S S':SC)(X:Nat→Prop)(va ve:Value):Prop where
 idle:Idle S'
 n0:S'.n0=S.n0
 W0:S'.W0=S.W0
 size:S.w.heap.size≤S'.w.heap.size
 block:∀ b,b<S.w.heap.size→¬ X b→S'.w.heap[b]?=S.w.heap[b]?
 mem:∃ st X',p.mem y.a st X' S'.w∧(∀ b,X' b→X b∨S.w.heap.size≤b)∧∀ i,er (st i)=y.st i
 acts:RepU S'.w va y.acts
 ends:RepE S'.w ve (endsM (decide (most≤(y.acts.length:Int))) (donesE n y.st))
section
variable {L A:Type}{p:Plan L A}{Post:Value→World→Prop}{S:SC}{cl:Frame}{cs:List Frame}{n c0:Nat}{vp:Value}{most:Int}{picks:List Nat}{X:Nat→Prop}{a0:A}{fb fo pb:Nat}{fn:Nat→FuncId}{cap:Nat→Array Value}
theorem run_planK (hok:∀ C:WC,C.n=n→C.fn=fn→C.cap=cap→BOk (p.bods C) C)(hfr:∀ {a st X w w'},p.mem a st X w→(∀ b,X b→w'.heap[b]?=w.heap[b]?)→w.heap.size≤w'.heap.size→p.mem a st X w')(hid:Idle S)(hn:0<n)(hn8:n≤8)(hcl:cl.mode=.run)
  (hfb:fb<S.w.heap.size) (hfv:∀ j,j<n→S.w.cell? ⟨fb,fo+j,none⟩=some (.func (.func (fn j)) #[] (cap j))) (hpk:Bytes pb S.w vp picks) (hpb:pb<S.w.heap.size) (hpx:¬ X pb∨∃ bo,∀ a st X w,p.mem a st X w→w.heap[pb]?=bo) (hpl:picks.length≤65536) (hm0:0≤most) (hm1:most<4294967295)
  (hmem:p.mem a0 (fun _=>.fresh) X S.w) (hXl:∀ b,X b→b<S.w.heap.size)
  (hnext:∀ S' ga ca ge ne ce,Ran p n most (p.run n most a0 picks) S S' X (.slice ga (p.run n most a0 picks).acts.length ca) (.slice ge ne ce) →
   Sound Try.prog link.tWg Post 0 S' (gs (cl.finish (.tuple #[.agg #[.slice ga (p.run n most a0 picks).acts.length ca,.slice ge ne ce,.int .i64 ((picks.length-(p.run n most a0 picks).left.length:Nat):Int)],.int .i64 (codeM (decide (most≤((p.run n most a0 picks).acts.length:Int))) (donesE n (p.run n most a0 picks).st))])) cs)) :
  Sound Try.prog link.tWg Post 0 S (gs (Frame.enter Try.prog 25 #[.slice (some ⟨fb,fo,none⟩) n c0,vp,.int .i64 most] .normal) (cl::cs)):=by
 have hK:=clS (Post:=Post) S;refine ks (S:=S) (run_enter hK.det ?_) rfl;have kob:=Kp.alloc [] S.w (.cells #[.slice none 0 0,.slice none 0 0,.int .i64 0] 59);have bob:Blk (S.w.alloc (.cells #[.slice none 0 0,.slice none 0 0,.int .i64 0] 59)) S.w.heap.size [.slice none 0 0,.slice none 0 0,.int .i64 0] 59:=Blk.new _ _ _;obtain⟨ob,hob⟩:∃ ob,ob=S.w.heap.size:=⟨_,rfl⟩;rw[← hob] at bob ⊢;generalize S.w.alloc (.cells #[.slice none 0 0,.slice none 0 0,.int .i64 0] 59)=w1 at kob bob ⊢;have s1:=kob.size;have hbob:=bob.lt;have hrun:∀ C,runF (p.bods C) n (fun a=>a) most.toNat ⟨fun _=>.fresh,a0,[],picks⟩=p.run n most a0 picks:=fun C=>by unfold Plan.run;exact runF_congr (B:=p.bods C) (B':=⟨fun _ _ _ _=>True,fun _ _ _=>True,p.go,p.rdy,fun _=>True⟩) rfl rfl _ _
 show Sound Try.prog link.tWg Post 0 { S with w:=w1} _;refine watch_runs (S:={S with w:=w1}) (Bf:=fun C=>p.bods C) (go:=p.go) (rdy:=p.rdy) (n:=n) (c0:=c0) (most:=most) (fn:=fn) (cap:=cap) (beh:=fun a=>a) (a0:=a0) (X:=X) (pb:=pb) (fb:=fb) (fo:=fo) (picks:=picks) (fun _=>rfl) (fun _=>rfl)
  (fun C _ h1 h2 h3=>hok C h1 h2 h3) (fun C=>.inl ⟨rfl,fun _=>rfl⟩) ⟨hid.roles,hid.grps,hid.pos⟩ hn hn8 rfl (nl' hfb s1) (fun j hj=>(kob.cell hfb).trans (hfv j hj)) (hpk.same (kob.block pb hpb (by simp))) (nl' hpb s1) (hpx.imp id fun⟨bo,h⟩=>⟨bo,fun _=>h⟩) hpl hm0
  (fun C=>hfr hmem (fun b hb=>kob.block b (hXl b hb) (by simp)) s1) (fun b hb=>nl' (hXl b hb) s1) (fun C=>?_) fun C S6 st' X' ga ca ge ne ce hC hCn W=>?_
 ·rw[hrun C]
  have:=runF_acts_le (B:=(⟨fun _ _ _ _=>True,fun _ _ _=>True,p.go,p.rdy,fun _=>True⟩:Bods L A)) (n:=n) (beh:=fun a=>a) most.toNat ⟨fun _=>.fresh,a0,[],picks⟩;have h0:([]:List Nat).length=0:=rfl;show(Plan.run p n most a0 picks).acts.length<_;unfold Plan.run;dsimp only at this;rw[h0] at this;omega
 rw[hrun C] at W ⊢;have hobX:¬ X ob:=fun h=>by have:=hXl ob h;omega
 have bob6:Blk S6.w ob [.slice none 0 0,.slice none 0 0,.int .i64 0] 59:=(W.block ob hbob hobX).trans bob;have s6:w1.heap.size≤S6.w.heap.size:=W.size;have hK6:=clS (Post:=Post) S6;refine ks (S:=S6) (run_back hK6.det hcl bob6 fun w7 f7 s7=>?_) rfl;have hX'ob:¬ X' ob:=fun h=>by
  rcases W.own ob h with h | h
  ·exact hobX h
  ·have:w1.heap.size≤ob:=h
   omega
 show Sound Try.prog link.tWg Post 0 { S6 with w:=w7} _;refine hnext { S6 with w:=w7} ga ca ge ne ce ⟨⟨W.idle.roles,W.idle.grps,W.idle.pos⟩,W.n0,W.W0,?_,fun b hb hX=>?_,⟨st',X',hfr W.mem (fun b hb=>f7 b fun e=>hX'ob (e▸hb)) (Nat.le_of_eq s7.symm),fun b hb=>?_,W.erased⟩,?_,?_⟩
 ·show S.w.heap.size≤w7.heap.size
  omega
 ·show w7.heap[b]?=S.w.heap[b]?
  rw[f7 b (by omega),W.block b (show b<w1.heap.size by omega) hX,kob.block b hb (by simp)]
 ·rcases W.own b hb with h | h
  ·exact .inl h
  ·have:w1.heap.size≤b:=h
   exact .inr (by omega)
 ·exact rep_same W.actsv (Nat.le_of_eq s7.symm) fun b hb=>f7 b fun e=>by
   subst e;obtain⟨c,h⟩:=fp_cel W.actsv b hb;exact cel_ne h (Blk.cel bob6) (by decide) rfl
 ·have h:=W.ends
  rw[hCn] at h;exact rep_same h (Nat.le_of_eq s7.symm) fun b hb=>f7 b fun e=>by
   subst e;obtain⟨c,h⟩:=fp_cel h b hb;exact cel_ne h (Blk.cel bob6) (by decide) rfl
theorem run_plan (hok:∀ C:WC,C.n=n→C.fn=fn→C.cap=cap→BOk (p.bods C) C)(hfr:∀ {a st X w w'},p.mem a st X w→(∀ b,X b→w'.heap[b]?=w.heap[b]?)→w.heap.size≤w'.heap.size→p.mem a st X w')(hid:Idle S)(hn:0<n)(hn8:n≤8)(hcl:cl.mode=.run)
  (hfb:fb<S.w.heap.size) (hfv:∀ j,j<n→S.w.cell? ⟨fb,fo+j,none⟩=some (.func (.func (fn j)) #[] (cap j))) (hpk:Bytes pb S.w vp picks) (hpb:pb<S.w.heap.size) (hpx:¬ X pb) (hpl:picks.length≤65536) (hm0:0≤most) (hm1:most<4294967295)
  (hmem:p.mem a0 (fun _=>.fresh) X S.w) (hXl:∀ b,X b→b<S.w.heap.size)
  (hnext:∀ S' ga ca ge ne ce,Ran p n most (p.run n most a0 picks) S S' X (.slice ga (p.run n most a0 picks).acts.length ca) (.slice ge ne ce) →
   Sound Try.prog link.tWg Post 0 S' (gs (cl.finish (.tuple #[.agg #[.slice ga (p.run n most a0 picks).acts.length ca,.slice ge ne ce,.int .i64 ((picks.length-(p.run n most a0 picks).left.length:Nat):Int)],.int .i64 (codeM (decide (most≤((p.run n most a0 picks).acts.length:Int))) (donesE n (p.run n most a0 picks).st))])) cs)) :
  Sound Try.prog link.tWg Post 0 S (gs (Frame.enter Try.prog 25 #[.slice (some ⟨fb,fo,none⟩) n c0,vp,.int .i64 most] .normal) (cl::cs)) :=
 run_planK hok hfr hid hn hn8 hcl hfb hfv hpk hpb (.inl hpx) hpl hm0 hm1 hmem hXl hnext
end
theorem Kp.new {F:List Nat}{w w' w'':World}(h:Kp [] w w')(k:Kp F w' w'')(hF:∀ b∈F,w.heap.size≤b):Kp [] w w'' :=
 ⟨Nat.le_trans h.size k.size,fun b hb _=>(k.block b (nl' hb h.size) fun hm=>absurd hb (Nat.not_lt.2 (hF b hm))).trans (h.block b hb (by simp))⟩
theorem Ran.kp {L A:Type}{p:Plan L A}{n:Nat}{most:Int}{y:RunSt L A}{S S':SC}{X:Nat→Prop}{va ve:Value}(R:Ran p n most y S S' X va ve){w:World}(k:Kp [] w S.w)(hX:∀ b,X b→w.heap.size≤b):Kp [] w S'.w :=
 ⟨Nat.le_trans k.size R.size,fun b hb _=>(R.block b (nl' hb k.size) fun h=>absurd hb (Nat.not_lt.2 (hX b h))).trans (k.block b hb (by simp))⟩
theorem call_new {m:Bool}{K:Goroutine→World→Prop}(hK:Cl Try.prog m K){f:FuncId}{args:Array Value}{cells:List Value}{t:TypeId}{w:World}{c:Frame}{low:List Frame}(hf:fam f=true)(hc:∀ w,Calls Try.prog f args w fun e w'=>e=.returned (ptr w.heap.size)∧w'=w.alloc (.cells cells.toArray t))
  (h:∀ w' b,b=w.heap.size→Kp [] w w'→Blk w' b cells t→K (gs (c.finish (ptr b)) low) w'):K (gs (Frame.enter Try.prog f args .normal) (c::low)) w:=by
 refine hK.call fits shut hf (R:=fun v w'=>v=ptr w.heap.size∧Kp [] w w'∧Blk w' w.heap.size cells t) (fun v w' τ d ⟨h1,h2,h3⟩=>⟨h1,⟨h2.size,h2.block⟩,h3⟩) (fun τ d=>(hc (re w τ d)).mono fun e w' ⟨h1,h2⟩=>⟨_,h1,rfl,?_,?_⟩) ?_
 ·subst h2
  have:=Kp.alloc [] (re w τ d) (.cells cells.toArray t);exact⟨this.size,this.block⟩
 ·subst h2
  exact Blk.new (re w τ d) cells t
 ·rintro v w' ⟨rfl,k,b⟩
  exact h w' _ rfl k b
theorem mutex_new (w:World):Calls Try.prog 20 #[] w fun e w'=>e=.returned (ptr w.heap.size)∧w'=w.alloc (.cells [.bool true,.int .i64 (-1)].toArray 67):=by
 go_enter Try.func20,Try.ntmps20
 go_wp2
 go_ret
 exact⟨rfl,rfl⟩
theorem holder_calls (w:World)(mb:Nat){by0:Int}(h0:w.cell? ⟨mb,0,none⟩=some (.bool true))(h1:w.cell? ⟨mb,1,none⟩=some (.int .i64 by0)):Calls Try.prog 26 #[ptr mb] w fun e w'=>e=.returned (.int .i64 by0)∧w'=w:=by
 go_enter Try.func26,Try.ntmps26
 go_wp2
 go_ret
 exact⟨rfl,rfl⟩
def q7:Code:=Try.f16.body.getD .skip
theorem al_48:∀ w:World,(Instr.alloc 51 true (.tuple #[])).run Try.prog w=.ok (ptr w.heap.size) (w.alloc (.cells #[.pointer none] 51)):=fun w=>by
 simp[go_sem,Try.underlying51,Try.runUnderlying51,Try.sizeOf51,Try.isAgg51,Try.zeroValue51]
theorem s_48 {w:World}{a:Addr}{x:Value}{y:Option Addr}(hc:w.cell? a=some x)(hf:w.frozen? a=false):(Instr.storeAt 51 (.pointer (some a)) (.pointer y)).run Try.prog w=.ok () (w.setCell a (.pointer y)):=by simp[go_sem,hc,hf,Try.underlying51,Try.runUnderlying51,Try.sizeOf51,Try.isAgg51]
theorem al_3:∀ w:World,(Instr.alloc 3 true (.tuple #[])).run Try.prog w=.ok (ptr w.heap.size) (w.alloc (.cells #[.int .i64 0] 3)):=fun w=>by
 simp[go_sem,Try.underlying3,Try.runUnderlying3,Try.sizeOf3,Try.isAgg3,Try.zeroValue3]
theorem w_mk0_2 {a:Act}{oo:Oper}{w:World}{y0 y1:Operand}{u0 u1:Value}{ff:FuncId}(h:oo.op=.makeFunc (.func ff) #[] #[y0,y1])(hy0:a.eval y0=u0)(hy1:a.eval y1=u1):(execOp a.eval oo).run Try.prog w=.ok (.value (.func (.func ff) #[] #[u0,u1])) w:=by
 unfold execOp;rw[h];exact run_vv (by simp only[List.map_toArray,List.map_cons,List.map_nil,hy0,hy1];simp[go_sem])
theorem x_bs27_2 {a:Act}{oo:Oper}{w:World}{x0 x1:Operand}{f0 f1:FuncId}{d0 c0 d1 c1:Array Value}(h:oo.op=.buildSlice 62 2 #[(0,x0),(1,x1)])(h0:a.eval x0=.func (.func f0) d0 c0)(h1:a.eval x1=.func (.func f1) d1 c1):(execOp a.eval oo).run Try.prog w=.ok (.value (.slice (some ⟨w.heap.size,0,none⟩) 2 2)) (w.alloc (.cells #[.func (.func f0) d0 c0,.func (.func f1) d1 c1] 55)):=by
 unfold execOp;rw[h];generalize a.eval=ρ at h0 h1 ⊢;simp only[Array.map_map,List.map_toArray,List.map,Function.comp,h0,h1];exact run_vv (by simp[go_sem,Try.underlying62,Try.runUnderlying62,Try.sizeOf55,Try.isAgg55,Try.zeroValue55])
theorem al_34:∀ w:World,(Instr.alloc 59 true (.tuple #[])).run Try.prog w=.ok (ptr w.heap.size) (w.alloc (.cells #[.slice none 0 0,.slice none 0 0,.int .i64 0] 59)):=fun w=>by
 simp[go_sem,Try.underlying59,Try.runUnderlying59,Try.sizeOf59,Try.isAgg59,Try.zeroValue59]
theorem wk5 (w:World)(x:Nat→Value)(mx mb nb:Nat)(c1:w.cell? ⟨mx,0,none⟩=some (ptr mb))(c2:w.cell? ⟨nb,0,none⟩=some (.int .i64 2))(hh:Calls Try.prog 26 #[ptr mb] w fun e w'=>e=.returned (.int .i64 (-1))∧w'=w)(h1:x 1=ptr mx)(h2:x 2=ptr nb)(h5:x 5=.int .i64 0) :
  (sL (sR (sR (sR (sR (sR q7)))))).wp Try.prog (fun e a' w'=>e=.normal∧a'.defers=[]∧lQ 30 (fun x=>x 0=.bool true) w a'.tmps w') ⟨fg 30 x,[]⟩ w:=by
 have HQ:Hid (∀ (t:Array Value) (w':World),lQ 30 (fun x=>x 0=.bool true) w t w'→lQ 30 (fun x=>x 0=.bool true) w t w'):=Lib.hid fun _ _ h=>h;generalize hG:lQ 30 (fun x=>x 0=.bool true) w=G at HQ ⊢;have HG:=Lib.hid hG;clear hG;rw[show fg 30 x=#[x 0,x 1,x 2,x 3,x 4,x 5,x 6,x 7,x 8,x 9,x 10,x 11,x 12,x 13,x 14,x 15,x 16,x 17,x 18,x 19,x 20,x 21,x 22,x 23,x 24,x 25,x 26,x 27,x 28,x 29] from rfl];simp only[q7,Try.f16,Option.getD_some,sL,sR,sB,sT,sF,h1,h2,h5];have HH:=Lib.hid hh;clear hh
 go_wp2_with (go_at_call 26;refine(HH.out).mono ?_;rintro e w' ⟨rfl,rfl⟩)
 refine HQ.out _ _ ?_;rw[← HG.out];exact lQ_mk rfl rfl (Keeps.refl _ _)
theorem works_runs {Post:Value→World→Prop}{S:SC}{cl:Frame}{cs:List Frame}(hid:Idle S)(hcl:cl.mode=.run)(hnext:∀ S',Idle S'→S'.n0=S.n0→S'.W0=S.W0→Kp [] S.w S'.w→Sound Try.prog link.tWg Post 0 S' (gs (cl.finish (.bool true)) cs)):Sound Try.prog link.tWg Post 0 S (gs (Frame.enter Try.prog 16 #[] .normal) (cl::cs)):=by
 have hk:(base 16).kind≠.early:=nofun;have hK:=clS (Post:=Post) S;have hD:=hK.det;refine ks (S:=S) ?_ rfl;obtain⟨w,hw⟩:∃ w,w=S.w:=⟨_,rfl⟩;rw[← hw];have kk:Kp [] w w:=⟨Nat.le_refl _,fun _ _ _=>rfl⟩;rw[show(#[]:Array Value)=([]:List Value).toArray from rfl,enter_fg (n:=30) (c:=q7) Try.func16 rfl rfl rfl];refine hD.sr (hD.asn (.bool false) ?_);refine hD.z0 (hD.cf #[] hk Try.func20 ?_);refine call_new hK (f:=20) rfl (fun w=>mutex_new w) fun w1 nw1 hnw1 ksw1 bw1=>?_;have genw1:w.heap.size≤nw1:=by rw[hnw1];exact kk.size
 have kk:=kk.trans ksw1;refine fin_at (Kn:=fun _=>KS Try.prog link.tWg Post 0 S) (n:=0) (dst:=some 6) rfl rfl ?_;refine nm rfl ?_;refine hD.alloc (n:=0) (ob:=.cells #[.pointer none] 51) hk rfl ⟨rfl,rfl,rfl,(by decide +kernel),nofun⟩ al_48 ?_;obtain⟨w2,hsw2⟩:∃ z9,z9=w1.alloc (.cells #[.pointer none] 51):=⟨_,rfl⟩;obtain⟨nw2,hnw2⟩:∃ z9,z9=w1.heap.size:=⟨_,rfl⟩;have ksw2:Kp [] w1 w2:=by rw[hsw2];exact Kp.alloc [] _ _
 have bw2:Blk w2 nw2 [.pointer none] 51:=by rw[hsw2,hnw2];exact Blk.new _ _ _
 rw[← hsw2,← hnw2];clear hsw2;have genw2:w.heap.size≤nw2:=by rw[hnw2];exact kk.size
 have bw1':=ksw2.blk bw1 (by simp);have kk:=kk.trans ksw2;refine nm rfl ?_;refine hD.so bw2 0 (ptr nw1) s_48 fun w3 ksw3 bw3=>?_;have bw1'':=ksw3.blk bw1' (by simpa using (cel_ne (Blk.cel bw1') (Blk.cel bw2) (by decide)));have kk:=kk.new ksw3 (by simpa using genw2);refine hD.z0 (hD.alloc (n:=0) (ob:=.cells #[.int .i64 0] 3) hk rfl ⟨rfl,rfl,rfl,(by decide +kernel),nofun⟩ al_3 ?_);obtain⟨w4,hsw4⟩:∃ z9,z9=w3.alloc (.cells #[.int .i64 0] 3):=⟨_,rfl⟩;obtain⟨nw4,hnw4⟩:∃ z9,z9=w3.heap.size:=⟨_,rfl⟩;have ksw4:Kp [] w3 w4:=by rw[hsw4];exact Kp.alloc [] _ _
 have bw4:Blk w4 nw4 [.int .i64 0] 3:=by rw[hsw4,hnw4];exact Blk.new _ _ _
 rw[← hsw4,← hnw4];clear hsw4;have genw4:w.heap.size≤nw4:=by rw[hnw4];exact kk.size
 have bw1''':=ksw4.blk bw1'' (by simp);have bw3':=ksw4.blk bw3 (by simp);have kk:=kk.trans ksw4;refine nm rfl ?_;refine hD.so bw4 0 (.int .i64 0) s_3 fun w5 ksw5 bw5=>?_;have bw1'''':=ksw5.blk bw1''' (by simpa using (cel_ne (Blk.cel bw1''') (Blk.cel bw4) (by decide)));have bw3'':=ksw5.blk bw3' (by simpa using (cel_ne (Blk.cel bw3') (Blk.cel bw4) (by decide)));have kk:=kk.new ksw5 (by simpa using genw4);refine hD.z0 (hD.pun (.func (.func 21) #[] #[ptr nw2,ptr nw4]) (fun w=>w_mk0_2 rfl rfl rfl) ?_);refine hD.asn (.func (.func 21) #[] #[ptr nw2,ptr nw4]) ?_;refine hD.z0 (hD.mvn (.func (.func 21) #[] #[ptr nw2,ptr nw4]) ?_);refine hD.mvn (.func (.func 21) #[] #[ptr nw2,ptr nw4]) ?_;refine hD.opv (n:=0) (w':=w5.alloc (.cells #[(.func (.func 21) #[] #[ptr nw2,ptr nw4]),(.func (.func 21) #[] #[ptr nw2,ptr nw4])] 55)) (v:=(.slice (some ⟨w5.heap.size,0,none⟩) 2 2)) hk rfl ⟨rfl,rfl,rfl,(by decide +kernel),nofun⟩ (fun τ d=>x_bs27_2 rfl rfl rfl) (by rw[wz'];omega) ?_;obtain⟨w6,hsw6⟩:∃ z9,z9=w5.alloc (.cells #[(.func (.func 21) #[] #[ptr nw2,ptr nw4]),(.func (.func 21) #[] #[ptr nw2,ptr nw4])] 55):=⟨_,rfl⟩;obtain⟨nw6,hnw6⟩:∃ z9,z9=w5.heap.size:=⟨_,rfl⟩;have ksw6:Kp [] w5 w6:=by rw[hsw6];exact Kp.alloc [] _ _
 have bw6:Blk w6 nw6 [(.func (.func 21) #[] #[ptr nw2,ptr nw4]),(.func (.func 21) #[] #[ptr nw2,ptr nw4])] 55:=by rw[hsw6,hnw6];exact Blk.new _ _ _
 rw[← hsw6,← hnw6];clear hsw6;have genw6:w.heap.size≤nw6:=by rw[hnw6];exact kk.size
 have bw1''''':=ksw6.blk bw1'''' (by simp);have bw3''':=ksw6.blk bw3'' (by simp);have bw5':=ksw6.blk bw5 (by simp);have kk:=kk.trans ksw6;refine nm rfl ?_;refine hD.cf #[.slice (some ⟨nw6,0,none⟩) 2 2,.slice none 0 0,.int .i64 50] hk Try.func25 ?_;have ne1:nw2≠nw1:=cel_ne (Blk.cel bw3''') (Blk.cel bw1''''') (by decide);have nf1:nw6≠nw2:=cel_ne (Blk.cel bw6) (Blk.cel bw3''') (by decide);have nf2:nw6≠nw1:=cel_ne (Blk.cel bw6) (Blk.cel bw1''''') (by decide);have nf3:nw6≠nw4:=cel_ne (Blk.cel bw6) (Blk.cel bw5') (by decide);show Sound Try.prog link.tWg Post 0 { S with w:=w6} _;obtain⟨r1,r2,r3,r4⟩:=wk_run (B:=(⟨fun _ _ _ _=>True,fun _ _ _=>True,wkGo,wkRdy,fun _=>True⟩:Bods WkL WkA)) rfl rfl;obtain⟨y,hy⟩:∃ y,y=(wkPlan nw2 nw1 nw4).run 2 50 ⟨-1,0⟩ []:=⟨_,rfl⟩;have hy':y=runF (⟨fun _ _ _ _=>True,fun _ _ _=>True,wkGo,wkRdy,fun _=>True⟩:Bods WkL WkA) 2 (fun a=>a) (50:Int).toNat ⟨fun _=>.fresh,⟨-1,0⟩,[],[]⟩:=hy;rw[← hy'] at r1 r2 r3 r4;clear hy';have hfv:∀ j,j<2→w6.cell? ⟨nw6,0+j,none⟩=some (.func (.func 21) #[] #[ptr nw2,ptr nw4]):=fun j hj=>by
  obtain rfl | rfl:j=0∨j=1:=by omega
  ·exact bw6.cell 0
  ·exact bw6.cell 1
 have hpx:¬ (nw6=nw2∨nw6=nw1∨nw6=nw4):=fun e=>by
  rcases e with e | e | e
  ·exact nf1 e
  ·exact nf2 e
  ·exact nf3 e
 have hXl:∀ b,b=nw2∨b=nw1∨b=nw4→b<w6.heap.size:=fun b hb=>by
  rcases hb with rfl | rfl | rfl
  ·exact bw3'''.lt
  ·exact bw1'''''.lt
  ·exact bw5'.lt
 refine run_plan (S:={S with w:=w6}) (p:=wkPlan nw2 nw1 nw4) (n:=2) (most:=50) (picks:=[]) (X:=fun b=>b=nw2∨b=nw1∨b=nw4) (a0:=⟨-1,0⟩) (fb:=nw6) (fo:=0) (pb:=nw6) (fn:=fun _=>21) (cap:=fun _=>#[ptr nw2,ptr nw4])
  (fun C _ h1 h2=>wk_ok (fun i _=>by rw[h1]) (fun i _=>by rw[h2])) (fun h hb hs=>⟨h.x,(hb _ ((h.x _).2 (.inl rfl))).trans h.m,(hb _ ((h.x _).2 (.inr (.inl rfl)))).trans h.l,(hb _ ((h.x _).2 (.inr (.inr rfl)))).trans h.n,h.rv⟩) ⟨hid.roles,hid.grps,hid.pos⟩ (by decide) (by decide) rfl bw6.lt
  hfv ⟨none,0,rfl,Nat.le_refl _,Nat.zero_le _,(fun u hu=>by cases hu),fun h=>absurd rfl h⟩ bw6.lt hpx (by decide) (by decide) (by decide)
  ⟨fun _=>Iff.rfl,bw3''',bw1''''',bw5',fun i l rv e=>by cases e⟩ hXl fun S6 ga ca ge ne ce R=>?_
 rw[← hy] at R ⊢;obtain⟨st',X',hm,hX',_⟩:=R.mem;have c1:=hm.m;have c2:=hm.l;have c3:=hm.n;rw[r1] at c2 c3;have hdn:donesE 2 y.st=List.replicate 2 true:=by
  show [isDoneE (y.st 0),isDoneE (y.st 1)]=_;rw[r2,r3];rfl
 rw[hdn,codeM_done,r4];have hK6:=clS (Post:=Post) S6;refine ks (S:=S6) ?_ rfl;have hK:=hK6;have hD:=hK.det;obtain⟨w6,hw6⟩:∃ w,w=S6.w:=⟨_,rfl⟩;have kk:Kp [] w w6:=by
  rw[hw6];exact R.kp (w:=w) kk fun b hb=>by
   rcases hb with rfl | rfl | rfl
   ·exact genw2
   ·exact genw1
   ·exact genw4
 rw[← hw6] at c1 c2 c3 ⊢;refine fin_at (Kn:=fun _=>KS Try.prog link.tWg Post 0 S6) (n:=0) (dst:=some 12) rfl rfl ?_;refine nm rfl ?_;refine hD.mvn (.tuple #[.agg #[.slice ga 8 ca,.slice ge ne ce,.int .i64 (([]:List Nat).length-y.left.length:Nat)],.int .i64 0]) ?_;refine hD.pun (.agg #[.slice ga 8 ca,.slice ge ne ce,.int .i64 (([]:List Nat).length-y.left.length:Nat)]) (fun w=>pu_ext rfl rfl rfl) ?_;refine hD.pun (.int .i64 0) (fun w=>pu_ext rfl rfl rfl) ?_;refine hD.alloc (n:=0) (ob:=.cells #[.slice none 0 0,.slice none 0 0,.int .i64 0] 59) hk rfl ⟨rfl,rfl,rfl,(by decide +kernel),nofun⟩ al_34 ?_;obtain⟨w7,hsw7⟩:∃ z9,z9=w6.alloc (.cells #[.slice none 0 0,.slice none 0 0,.int .i64 0] 59):=⟨_,rfl⟩;obtain⟨nw7,hnw7⟩:∃ z9,z9=w6.heap.size:=⟨_,rfl⟩;have ksw7:Kp [] w6 w7:=by rw[hsw7];exact Kp.alloc [] _ _
 have bw7:Blk w7 nw7 [.slice none 0 0,.slice none 0 0,.int .i64 0] 59:=by rw[hsw7,hnw7];exact Blk.new _ _ _
 rw[← hsw7,← hnw7];clear hsw7;have genw7:w.heap.size≤nw7:=by rw[hnw7];exact kk.size
 have c1':=ksw7.blk c1 (by simp);have c2':=ksw7.blk c2 (by simp);have c3':=ksw7.blk c3 (by simp);have kk:=kk.trans ksw7;refine nm rfl ?_;refine hD.store (n:=0) (u:=(ptr nw7)) (z:=(.agg #[.slice ga 8 ca,.slice ge ne ce,.int .i64 (([]:List Nat).length-y.left.length:Nat)])) hk rfl ⟨rfl,rfl,rfl,rfl,nofun⟩ rfl rfl (fun τ d=>((st30 (w:=re w7 τ d) bw7).trans (congrArg (Result.ok ()) re_set3))) (Nat.le_of_eq set3_size.symm) ?_;obtain⟨w8,hsw8⟩:∃ z9,z9=set3 w7 nw7 (.slice ga 8 ca) (.slice ge ne ce) (.int .i64 (([]:List Nat).length-y.left.length:Nat)):=⟨_,rfl⟩;have ksw8:Kp [nw7] w7 w8:=by rw[hsw8];exact⟨Nat.le_of_eq set3_size.symm,fun c hc hn=>set3_frame (by simpa using hn)⟩
 have bw8:Blk w8 nw7 [.slice ga 8 ca,.slice ge ne ce,.int .i64 (([]:List Nat).length-y.left.length:Nat)] 59:=by rw[hsw8];exact set3_blk bw7
 rw[← hsw8];clear hsw8;have c1'':=ksw8.blk c1' (by simpa using (cel_ne (Blk.cel c1') (Blk.cel bw7) (by decide)));have c2'':=ksw8.blk c2' (by simpa using (cel_ne (Blk.cel c2') (Blk.cel bw7) (by decide)));have c3'':=ksw8.blk c3' (by simpa using (cel_ne (Blk.cel c3') (Blk.cel bw7) (by decide)));have kk:=kk.new ksw8 (by simpa using genw7);refine hD.asn (.int .i64 0) ?_;refine hD.e0 (hD.s0 (hK.seg fits shut (b:=base 16) ⟨_,Try.func16⟩ nofun (c:=(sL (sR (sR (sR (sR (sR q7))))))) (by decide +kernel) (Q:=lQ 30 (fun x=>x 0=.bool true) w8) (fun t w' τ d h=>lQ_re h τ d) (fun τ d=>Code.wp_mono (fun e a w' ⟨h1,h2,h3⟩=>⟨h1,h2,lQ_un h3⟩) (wk5 (re w8 τ d) _ nw2 nw1 nw4 (c1''.cell 0) (c3''.cell 0) (holder_calls _ _ (c2''.cell 0) (c2''.cell 1)) rfl rfl rfl)) fun t w9 ⟨x',ex',g0,ksw9⟩=>?_));subst ex';rw[allK.self (x:=x') (l:=[(0,.bool true)]) ⟨g0,trivial⟩];have c1''':=ksw9.blk c1'' (by simp);have c2''':=ksw9.blk c2'' (by simp);have c3''':=ksw9.blk c3'' (by simp);have bw8':=ksw9.blk bw8 (by simp);have kk:=kk.trans ksw9;refine hD.ret (n:=0) ?_;exact hD.leave (n:=0) (b:=base 16) (v:=.bool true) rfl rfl Try.func16 (fun τ d=>res1v rfl rfl) hcl (hnext { S6 with w:=w9} ⟨R.idle.roles,R.idle.grps,R.idle.pos⟩ R.n0 R.W0 (hw▸kk))
def q8:Code:=Try.f8.body.getD .skip
def q9:Code:=Try.f9.body.getD .skip
def q10:Code:=Try.f10.body.getD .skip
def q11:Code:=Try.f11.body.getD .skip
def q12:Code:=Try.f12.body.getD .skip
def q13:Code:=Try.f13.body.getD .skip
def q14:Code:=Try.f14.body.getD .skip
def q15:Code:=Try.f15.body.getD .skip
def q18:Code:=Try.f18.body.getD .skip
def q19:Code:=Try.f19.body.getD .skip
def feq (a b:Nat):Bool:=FloatKind.f64.format.order a b==some .eq
theorem run_from (n:Int)(w:World):(callFunc 4 #[.int .u64 n]).run Try.prog w=.ok (.value (.float .f64 n.toNat)) w:=by kernel_rfl
theorem run_bits (b:Nat)(w:World):(callFunc 17 #[.float .f64 b]).run Try.prog w=.ok (.value (.int .u64 b)) w:=by kernel_rfl
section
variable {P:Program}{m:Bool}{Kn:Nat→Goroutine→World→Prop}{b:Frame}{a:Act}{k:List Item}{cs:List Frame}{w:World}{n:Nat}{ops:Array Oper}{i:Nat}{rest:List Nat}{o:Oper}
theorem Det.entg (hK:Det P m Kn){f:FuncId}{args:Array Value}(hk:b.kind≠.early)(ho:ops[i]?=some o)(hw:Region.wanted o (yielded ops a.tmps)=true)(hok:okOp P o.op=true)(hnp:∀ x,o.op≠.panic x)(hr:∀ τ d,(execOp a.eval o).run P (re w τ d)=.ok (.enter f args) (re w τ d))
  (h:Kn n (gs (Frame.enter P f args .normal) (b.at a (.inRegion ops (i::rest)::k)::cs)) w):Kn (n+1) (gs (b.at a (.inRegion ops (i::rest)::k)) cs) w :=
 hK _ _ _ _ _ rfl ⟨fun _=>okHd_op ho hok hnp,fun τ d=>⟨_,stepG_enter ho hw hk (hr τ d)⟩,⟨rfl,rfl⟩,Nat.le_refl _⟩ h
end
theorem step_nil {m:Bool}{K:Goroutine→World→Prop}{w:World}{cs:List Frame}(hK:Cl Try.prog m K){cl:Frame}(hcm:cl.mode=.run)(h:∀ w',Kp [] w w'→K (gs (cl.finish (.tuple #[])) cs) w'):K (gs (Frame.enter Try.prog 23 #[.pointer none] .normal) (cl::cs)) w:=step_idle hK hcm idle_none h
def CCn (f:FuncId)(args:Array Value)(w:World)(R:Value→World→Prop):Prop:=∀ ⦃m:Bool⦄ ⦃K:Goroutine→World→Prop⦄,Cl Try.prog m K→∀ ⦃cl:Frame⦄ ⦃cs:List Frame⦄,cl.mode=.run→(∀ v w',R v w'→K (gs (cl.finish v) cs) w')→K (gs (Frame.enter Try.prog f args .normal) (cl::cs)) w
def RB (V:Value)(b:Nat)(cells:List Value)(t:TypeId)(w:World)(v:Value)(w':World):Prop:=v=V∧Kp [b] w w'∧Blk w' b cells t
theorem Kp.wid {F:List Nat}{w w':World}(h:Kp [] w w'):Kp F w w':=⟨h.size,fun b hb _=>h.block b hb (by simp)⟩
theorem Kp.own {F:List Nat}{w w' w'':World}{b:Nat}(h:Kp F w w')(k:Kp [b] w' w'')(hb:w.heap.size≤b):Kp F w w'':=⟨Nat.le_trans h.size k.size,fun x hx hn=>(k.block x (nl' hx h.size) (by simp;omega)).trans (h.block x hx hn)⟩
theorem hideP {c:Code}{a:Act}{w:World}{Q:Array Value→World→Prop}(h:∀ G:Array Value→World→Prop,Hid (∀ t w',Q t w'→G t w')→c.wp Try.prog (fun e a' w'=>e=.normal∧a'.defers=[]∧G a'.tmps w') a w):c.wp Try.prog (fun e a' w'=>e=.normal∧a'.defers=[]∧Q a'.tmps w') a w:=h Q (Lib.hid fun _ _ h=>h)
theorem hideQ {c:Code}{a:Act}{w:World}{Q:Array Value→World→Prop}(h:∀ G:Array Value→World→Prop,Hid (∀ t w',Q t w'→G t w')→c.wp Try.prog (fun e a' w'=>match e with | .normal=>a'.defers=[]∧G a'.tmps w' | _=>False) a w):c.wp Try.prog (fun e a' w'=>e=.normal∧a'.defers=[]∧Q a'.tmps w') a w:=Code.wp_mono (fun e a' w' h=>by cases e<;>first | exact⟨rfl,h.1,h.2⟩ | exact h.elim) (h Q (Lib.hid fun _ _ h=>h))
def sQ (n:Nat)(Pr:(Nat→Value)→Prop)(b:Nat)(cells:List Value)(ty:TypeId)(w:World)(t:Array Value)(w':World):Prop:=∃ x,t=fg n x∧Pr x∧Kp [b] w w'∧Blk w' b cells ty
theorem sQ_mk {n:Nat}{Pr:(Nat→Value)→Prop}{w w':World}{t:Array Value}{b:Nat}{cells:List Value}{ty:TypeId}(hs:t.size=n)(h:Pr fun q=>t.getD q undef)(k:Kp [b] w w')(hb:Blk w' b cells ty):sQ n Pr b cells ty w t w':=⟨_,t_fg hs,h,k,hb⟩
theorem sQ_re {n:Nat}{Pr:(Nat→Value)→Prop}{w w':World}{t:Array Value}{b:Nat}{cells:List Value}{ty:TypeId}(h:sQ n Pr b cells ty w t w')(τ:Nat→Question→Nat)(d:Nat):sQ n Pr b cells ty w t (re w' τ d):=let ⟨x,h1,h2,h3,h4⟩:=h;⟨x,h1,h2,⟨h3.size,h3.block⟩,h4⟩
theorem sQ_un {n:Nat}{Pr:(Nat→Value)→Prop}{w w':World}{t:Array Value}{b:Nat}{cells:List Value}{ty:TypeId}{τ:Nat→Question→Nat}{d:Nat}(h:sQ n Pr b cells ty (re w τ d) t w'):sQ n Pr b cells ty w t w':=let ⟨x,h1,h2,h3,h4⟩:=h;⟨x,h1,h2,⟨h3.size,h3.block⟩,h4⟩
theorem Kp.own2 {w w' w'':World}{b c:Nat}(h:Kp [c] w w')(k:Kp [c,b] w' w'')(hb:w.heap.size≤b):Kp [c] w w'':=⟨Nat.le_trans h.size k.size,fun x hx hn=>(k.block x (nl' hx h.size) (by
 simp only[List.mem_cons,List.not_mem_nil,or_false,not_or] at hn ⊢;exact⟨hn,by omega⟩)).trans (h.block x hx hn)⟩
def sQ2 (n:Nat)(Pr:(Nat→Value)→Prop)(b:Nat)(cells:List Value)(ty:TypeId)(c:Nat)(cells2:List Value)(ty2:TypeId)(w:World)(t:Array Value)(w':World):Prop:=∃ x,t=fg n x∧Pr x∧Kp [b,c] w w'∧Blk w' b cells ty∧Blk w' c cells2 ty2
section
variable {n:Nat}{Pr:(Nat→Value)→Prop}{b c:Nat}{cells cells2:List Value}{ty ty2:TypeId}{w w':World}{t:Array Value}
theorem sQ2_mk (hs:t.size=n)(h:Pr fun q=>t.getD q undef)(k:Kp [b,c] w w')(h1:Blk w' b cells ty)(h2:Blk w' c cells2 ty2):sQ2 n Pr b cells ty c cells2 ty2 w t w':=⟨_,t_fg hs,h,k,h1,h2⟩
theorem sQ2_re (h:sQ2 n Pr b cells ty c cells2 ty2 w t w')(τ:Nat→Question→Nat)(d:Nat):sQ2 n Pr b cells ty c cells2 ty2 w t (re w' τ d):=let ⟨x,h1,h2,h3,h4,h5⟩:=h;⟨x,h1,h2,⟨h3.size,h3.block⟩,h4,h5⟩
theorem sQ2.drew (h:sQ2 n Pr b cells ty c cells2 ty2 w t w'):sQ2 n Pr b cells ty c cells2 ty2 w t w'.drew:=let ⟨x,h1,h2,h3,h4,h5⟩:=h;⟨x,h1,h2,⟨h3.size,h3.block⟩,h4,h5⟩
theorem sQ2_un {τ:Nat→Question→Nat}{d:Nat}(h:sQ2 n Pr b cells ty c cells2 ty2 (re w τ d) t w'):sQ2 n Pr b cells ty c cells2 ty2 w t w':=let ⟨x,h1,h2,h3,h4,h5⟩:=h;⟨x,h1,h2,⟨h3.size,h3.block⟩,h4,h5⟩
end
theorem sw_fin {w:World}{t:Array Value}{mb r7 v u a c:Nat}{n1:Int}{r6:Nat}(hs:t.size=20)(h6:t.getD 6 undef=ptr r6)(h7:t.getD 7 undef=ptr r7)(hn:r7≠mb)(hm:Blk w mb [.bool true,.float .f64 v,.float .f64 u,.int .i64 n1] 47)(hr:Blk w r7 [.float .f64 0,.float .f64 0] 30) :
  sQ2 20 (fun x=>x 6=ptr r6∧x 7=ptr r7) mb [.bool true,.float .f64 a,.float .f64 c,.int .i64 n1] 47 r7 [.float .f64 v,.float .f64 u] 30 w t ((((w.setCell ⟨r7,0,none⟩ (.float .f64 v)).setCell ⟨r7,1,none⟩ (.float .f64 u)).setCell ⟨mb,1,none⟩ (.float .f64 a)).setCell ⟨mb,2,none⟩ (.float .f64 c)):=by
 have k1:Kp [r7] w ((w.setCell ⟨r7,0,none⟩ (.float .f64 v)).setCell ⟨r7,1,none⟩ (.float .f64 u)):=(Kp.set w r7 0 _).trans (Kp.set _ r7 1 _);have b1:Blk ((w.setCell ⟨r7,0,none⟩ (.float .f64 v)).setCell ⟨r7,1,none⟩ (.float .f64 u)) r7 [.float .f64 v,.float .f64 u] 30:=(hr.set 0 _).set 1 _;have m1:=k1.blk hm (by simpa using Ne.symm hn);have k2:=(Kp.set ((w.setCell ⟨r7,0,none⟩ (.float .f64 v)).setCell ⟨r7,1,none⟩ (.float .f64 u)) mb 1 (.float .f64 a)).trans (Kp.set _ mb 2 (.float .f64 c));refine sQ2_mk hs ⟨h6,h7⟩ ⟨Nat.le_trans k1.size k2.size,fun x hx hx2=>?_⟩ ((m1.set 1 _).set 2 _) (k2.blk b1 (by simpa using hn));simp only[List.mem_cons,List.not_mem_nil,or_false,not_or] at hx2;exact(k2.block x (nl' hx k1.size) (by simpa using hx2.1)).trans (k1.block x hx (by simpa using hx2.2))
section
variable {K:Goroutine→World→Prop}{b:Frame}{a:Act}{k:List Item}{cs:List Frame}{w:World}{ops:Array Oper}{fu t i j:Nat}{listed:Array Bool}
theorem lin_br1 (hr:Region.ready .any ops listed=[i])(h:∀ t',K (gs (b.at a (.inRegion ops (i::Region.linearise.go .any ops fu t' (listed.setIfInBounds i true) [])::k)) cs) w):K (gs (b.at a (.inRegion ops (Region.linearise.go .any ops (fu+1) t listed [])::k)) cs) w:=by
 obtain⟨t',e⟩:=lin_one (fuel:=fu) (t:=t) hr;rw[e];exact h t'
theorem lin_br2 (hr:Region.ready .any ops listed=[i,j])(h1:∀ t',K (gs (b.at a (.inRegion ops (i::Region.linearise.go .any ops fu t' (listed.setIfInBounds i true) [])::k)) cs) w)(h2:∀ t',K (gs (b.at a (.inRegion ops (j::Region.linearise.go .any ops fu t' (listed.setIfInBounds j true) [])::k)) cs) w):K (gs (b.at a (.inRegion ops (Region.linearise.go .any ops (fu+1) t listed [])::k)) cs) w:=by
 obtain⟨t',e | e⟩:=lin_two (fuel:=fu) (t:=t) hr
 ·rw[e];exact h1 t'
 ·rw[e];exact h2 t'
theorem fuel_ge {k fu n:Nat}(h:k≤fu)(hk:k=n):∃ f,fu=f+n:=⟨fu-n,by omega⟩
theorem lin_over (hr:Region.ready .any ops listed=[])(h:K (gs (b.at a (.inRegion ops []::k)) cs) w):K (gs (b.at a (.inRegion ops (Region.linearise.go .any ops fu t listed [])::k)) cs) w:=by
 cases fu with
 | zero=>exact h
 | succ fu =>
  rw[Region.linearise.go];change K (gs (b.at a (.inRegion ops (match (Region.ready .any ops listed)[t % (Region.ready .any ops listed).length]? with
   | some i=>Region.linearise.go .any ops fu (t / (Region.ready .any ops listed).length) (listed.setIfInBounds i true) [i]
   | none=>[].reverse)::k)) cs) w
  rw[hr];exact h
end
@[go_sem] theorem run_store_float {P:Program} {w:World} {a:Addr} {m:Mode} (k:FloatKind) (n:Nat):(store a (.float k n) m).run P w=stored P w a (.float k n) m:=run_store P w a _ m rfl
theorem l_30 {w:World}{b o:Nat}{x y:Value}(h0:w.cell? ⟨b,o,none⟩=some x)(h1:w.cell? ⟨b,o+1,none⟩=some y):(Instr.loadAt 30 (.pointer (some ⟨b,o,none⟩))).run Try.prog w=.ok (.agg #[x,y]) w:=by
 simp[go_sem,h0,h1,Try.underlying30,Try.runUnderlying30,Try.sizeOf30,Try.isAgg30,Try.sizeOf24,Addr.add]
theorem st30f {w:World}{b o:Nat}{x0 x1:Value}{p q:Nat}(c0:w.cell? ⟨b,o,none⟩=some x0)(z0:w.frozen? ⟨b,o,none⟩=false)(c1:(w.setCell ⟨b,o,none⟩ (.float .f64 p)).cell? ⟨b,o+1,none⟩=some x1)(z1:(w.setCell ⟨b,o,none⟩ (.float .f64 p)).frozen? ⟨b,o+1,none⟩=false):(Instr.storeAt 30 (.pointer (some ⟨b,o,none⟩)) (.agg #[.float .f64 p,.float .f64 q])).run Try.prog w=.ok () ((w.setCell ⟨b,o,none⟩ (.float .f64 p)).setCell ⟨b,o+1,none⟩ (.float .f64 q)):=by
 simp[go_sem,run_store_float,c0,c1,z0,z1,Try.underlying30,Try.runUnderlying30,Try.sizeOf30,Try.sizeOf24,Try.isAgg30,Addr.add]
section
variable {a:Act}{oo:Oper}{w:World}{x y:Operand}
theorem w_b30 {p q:Nat}(h:oo.op=.build 30 #[(0,x),(1,y)])(hx:a.eval x=.float .f64 p)(hy:a.eval y=.float .f64 q):(execOp a.eval oo).run Try.prog w=.ok (.value (.agg #[.float .f64 p,.float .f64 q])) w:=by
 unfold execOp;rw[h];generalize a.eval=ρ at hx hy ⊢;exact run_vv (by simp[go_sem,hx,hy,Try.underlying30,Try.runUnderlying30,Try.sizeOf30,Try.zeroValue30,Try.sizeOf24])
theorem w_ix30_0 {u v:Value}(h:oo.op=.index 30 x y)(hx:a.eval x=.agg #[u,v])(hy:a.eval y=.int .i64 0):(execOp a.eval oo).run Try.prog w=.ok (.value u) w:=by
 unfold execOp;rw[h];generalize a.eval=ρ at hx hy ⊢;exact run_vv (by simp[go_sem,Instr.index,hx,hy,Try.underlying30,Try.runUnderlying30,Try.sizeOf24,Try.isAgg24])
theorem w_ix30_1 {u v:Value}(h:oo.op=.index 30 x y)(hx:a.eval x=.agg #[u,v])(hy:a.eval y=.int .i64 1):(execOp a.eval oo).run Try.prog w=.ok (.value v) w:=by
 unfold execOp;rw[h];generalize a.eval=ρ at hx hy ⊢;exact run_vv (by simp[go_sem,Instr.index,hx,hy,Try.underlying30,Try.runUnderlying30,Try.sizeOf24,Try.isAgg24])
theorem w_ia30_0 {b o:Nat}(h:oo.op=.indexAddr 30 x y)(hx:a.eval x=.pointer (some ⟨b,o,none⟩))(hy:a.eval y=.int .i64 0):(execOp a.eval oo).run Try.prog w=.ok (.value (.pointer (some ⟨b,o,none⟩))) w:=by
 unfold execOp;rw[h];simp only[hx,hy];exact run_vv (by simp[go_sem,Try.underlying30,Try.runUnderlying30,Try.sizeOf24,Try.isAgg24,Addr.add])
theorem w_ia30_1 {b o:Nat}(h:oo.op=.indexAddr 30 x y)(hx:a.eval x=.pointer (some ⟨b,o,none⟩))(hy:a.eval y=.int .i64 1):(execOp a.eval oo).run Try.prog w=.ok (.value (.pointer (some ⟨b,o+1,none⟩))) w:=by
 unfold execOp;rw[h];simp only[hx,hy];exact run_vv (by simp[go_sem,Try.underlying30,Try.runUnderlying30,Try.sizeOf24,Try.isAgg24,Addr.add])
theorem w_eql24 {p q:Nat}(h:oo.op=.binOp .eql 24 x y 24)(hx:a.eval x=.float .f64 p)(hy:a.eval y=.float .f64 q):(execOp a.eval oo).run Try.prog w=.ok (.value (.bool (feq p q))) w:=by
 unfold execOp;rw[h];simp only[hx,hy];exact run_vv (by simp[go_sem,feq,Op.floatCmp])
theorem w_neq24 {p q:Nat}(h:oo.op=.binOp .neq 24 x y 24)(hx:a.eval x=.float .f64 p)(hy:a.eval y=.float .f64 q):(execOp a.eval oo).run Try.prog w=.ok (.value (.bool (!feq p q))) w:=by
 unfold execOp;rw[h];simp only[hx,hy];exact run_vv (by simp[go_sem,feq,Op.floatCmp,bne])
theorem w_neq4 {p q:Bool}(h:oo.op=.binOp .neq 4 x y 4)(hx:a.eval x=.bool p)(hy:a.eval y=.bool q):(execOp a.eval oo).run Try.prog w=.ok (.value (.bool (p != q))) w:=by
 unfold execOp;rw[h];simp only[hx,hy];exact run_vv (by simp[go_sem,Try.underlying4,Try.runUnderlying4,bne])
theorem eq24 (m:Nat){p q:Nat}(w:World):(Op.equalIn (m+1) 24 (.float .f64 p) (.float .f64 q)).run Try.prog w=.ok (feq p q) w:=by
 unfold Op.equalIn;simp[go_sem,Try.underlying24,Try.runUnderlying24,Op.floatEq,feq]
theorem eq30 (m:Nat)(hm:∀ p q w,(Op.equalIn m 24 (.float .f64 p) (.float .f64 q)).run Try.prog w=.ok (feq p q) w){p q p' q':Nat}(w:World):(Op.equalIn (m+1) 30 (.agg #[.float .f64 p,.float .f64 q]) (.agg #[.float .f64 p',.float .f64 q'])).run Try.prog w=.ok (feq p p'&&feq q q') w:=by
 unfold Op.equalIn;simp only[Std.Legacy.Range.forIn_eq_forIn_range',Std.Legacy.Range.size,Nat.sub_zero,Nat.add_one_sub_one,Nat.div_one];cases h:feq p p'<;>cases h2:feq q q'<;>simp[go_sem,hm,h,h2,List.range',Try.underlying30,Try.runUnderlying30,Try.sizeOf24,Try.isAgg24]
theorem w_neq30 {p q p' q':Nat}(h:oo.op=.binOp .neq 30 x y 30)(hx:a.eval x=.agg #[.float .f64 p,.float .f64 q])(hy:a.eval y=.agg #[.float .f64 p',.float .f64 q']):(execOp a.eval oo).run Try.prog w=.ok (.value (.bool (!(feq p p'&&feq q q')))) w:=by
 unfold execOp;rw[h];simp only[hx,hy];have e:(Op.equal 30 (.agg #[.float .f64 p,.float .f64 q]) (.agg #[.float .f64 p',.float .f64 q'])).run Try.prog w=_:=eq30 9999 (fun p q w=>eq24 9998 w) w;have hg:(eqGuard .neq 30 x y (.agg #[.float .f64 p,.float .f64 q]) (.agg #[.float .f64 p',.float .f64 q'])).run Try.prog w=.ok () w:=by
  have hd:Try.prog.eqGuardType Try.prog.depth 30=false:=by decide +kernel
  simp[eqGuard,go_sem,hd]
 refine run_vv ?_;rw[Sem.run_bind,hg,Result.andThen_ok];show(do Pure.pure (Value.bool (!(← Op.equal 30 (.agg #[.float .f64 p,.float .f64 q]) (.agg #[.float .f64 p',.float .f64 q']))))).run Try.prog w=_;rw[Sem.run_bind,e,Result.andThen_ok];rfl
theorem w_from {n:Int}(h:oo.op=.call { callee:=.value (.func 4),args:=#[x],argTypes:=#[22]})(hx:a.eval x=.int .u64 n):(execOp a.eval oo).run Try.prog w=.ok (.value (.float .f64 n.toNat)) w:=by
 unfold execOp;rw[h];have e:(do let d ← resolve a.eval { callee:=.value (.func 4),args:=#[x],argTypes:=#[22]} oo.type;Go.invoke d.target d.args)=Go.callFunc 4 #[.int .u64 n]:=by
  show Go.callFunc 4 (#[]++#[x].map a.eval++#[])=_;simp[hx]
 exact(congrArg (fun s=>s.run Try.prog w) e).trans (run_from n w)
end
theorem res30 {fn:Func}{tm:Array Value}{w:World}{t b:Nat}{x y:Value}(h:fn.results=#[.cell t 30])(ht:tm.getD t undef=ptr b)(h0:w.cell? ⟨b,0,none⟩=some x)(h1:w.cell? ⟨b,1,none⟩=some y):(results fn tm).run Try.prog w=.ok (.agg #[x,y]) w:=by
 have ht':tm[t]?.getD undef=.pointer (some ⟨b,0,none⟩):=by rw[← gd'];exact ht
 unfold results;rw[h];simp[go_sem,ht',h0,h1,Try.underlying30,Try.runUnderlying30,Try.sizeOf30,Try.isAgg30,Try.sizeOf24,Addr.add]
theorem yw_eql26_p {a:Act}{oo:Oper}{w:World}{x:Operand}(h:oo.op=.binOp .eql 26 x (.const (.pointer none)) 26){ad:Addr}(hx:a.eval x=.pointer (some ad)):(execOp a.eval oo).run Try.prog w=.ok (.value (.bool false)) w:=by
 unfold execOp;rw[h];simp only[hx];rw[show a.eval (.const (.pointer none))=.pointer none from rfl];exact run_vv (by simp[go_sem,Try.underlying26,Try.runUnderlying26])
theorem yfa45_0 {b o:Nat}:∀ w,(Instr.fieldAt 45 (.pointer (some ⟨b,o,none⟩)) 0).run Try.prog w=.ok (.pointer (some ⟨b,o+0,none⟩)) w:=fun w=>by
 simp[go_sem,Try.underlying45,Try.runUnderlying45,Try.sizeOf45,Try.isAgg45,Try.sizeOf3,Try.sizeOf4,Try.sizeOf24]
theorem yl_4 {w:World}{a:Addr}{v:Value}(hc:w.cell? a=some v):(Instr.loadAt 4 (.pointer (some a))).run Try.prog w=.ok v w:=by simp[go_sem,hc,Try.underlying4,Try.runUnderlying4,Try.sizeOf4,Try.isAgg4]
theorem yfa45_2 {b o:Nat}:∀ w,(Instr.fieldAt 45 (.pointer (some ⟨b,o,none⟩)) 2).run Try.prog w=.ok (.pointer (some ⟨b,o+2,none⟩)) w:=fun w=>by
 simp[go_sem,Try.underlying45,Try.runUnderlying45,Try.sizeOf45,Try.isAgg45,Try.sizeOf3,Try.sizeOf4,Try.sizeOf24]
theorem yl_3 {w:World}{a:Addr}{v:Value}(hc:w.cell? a=some v):(Instr.loadAt 3 (.pointer (some a))).run Try.prog w=.ok v w:=by simp[go_sem,hc,Try.underlying3,Try.runUnderlying3,Try.sizeOf3,Try.isAgg3]
theorem yw_add3 {a:Act}{oo:Oper}{w:World}{x y:Operand}{i j:Int}(h:oo.op=.binOp .add 3 x y 3)(hx:a.eval x=.int .i64 i)(hy:a.eval y=.int .i64 j):(execOp a.eval oo).run Try.prog w=.ok (.value (.int .i64 (wrap64 (i+j)))) w:=by
 unfold execOp;rw[h];simp only[hx,hy];exact run_vv (by simp[go_sem,Try.underlying3,Try.runUnderlying3,IntKind.wrap_i64,wrap64])
theorem ys_3 {w:World}{a:Addr}{x:Value}{y:Int}(hc:w.cell? a=some x)(hf:w.frozen? a=false):(Instr.storeAt 3 (.pointer (some a)) (.int .i64 y)).run Try.prog w=.ok () (w.setCell a (.int .i64 y)):=by simp[go_sem,hc,hf,Try.underlying3,Try.runUnderlying3,Try.sizeOf3,Try.isAgg3]
theorem yw_eql28_p {a:Act}{oo:Oper}{w:World}{x:Operand}(h:oo.op=.binOp .eql 28 x (.const (.pointer none)) 28){ad:Addr}(hx:a.eval x=.pointer (some ad)):(execOp a.eval oo).run Try.prog w=.ok (.value (.bool false)) w:=by
 unfold execOp;rw[h];simp only[hx];rw[show a.eval (.const (.pointer none))=.pointer none from rfl];exact run_vv (by simp[go_sem,Try.underlying28,Try.runUnderlying28])
theorem yfa47_0 {b o:Nat}:∀ w,(Instr.fieldAt 47 (.pointer (some ⟨b,o,none⟩)) 0).run Try.prog w=.ok (.pointer (some ⟨b,o+0,none⟩)) w:=fun w=>by
 simp[go_sem,Try.underlying47,Try.runUnderlying47,Try.sizeOf47,Try.isAgg47,Try.sizeOf3,Try.sizeOf4,Try.sizeOf30]
theorem yfa47_2 {b o:Nat}:∀ w,(Instr.fieldAt 47 (.pointer (some ⟨b,o,none⟩)) 2).run Try.prog w=.ok (.pointer (some ⟨b,o+3,none⟩)) w:=fun w=>by
 simp[go_sem,Try.underlying47,Try.runUnderlying47,Try.sizeOf47,Try.isAgg47,Try.sizeOf3,Try.sizeOf4,Try.sizeOf30]
theorem yfa45_1 {b o:Nat}:∀ w,(Instr.fieldAt 45 (.pointer (some ⟨b,o,none⟩)) 1).run Try.prog w=.ok (.pointer (some ⟨b,o+1,none⟩)) w:=fun w=>by
 simp[go_sem,Try.underlying45,Try.runUnderlying45,Try.sizeOf45,Try.isAgg45,Try.sizeOf3,Try.sizeOf4,Try.sizeOf24]
theorem yl_24 {w:World}{a:Addr}{v:Value}(hc:w.cell? a=some v):(Instr.loadAt 24 (.pointer (some a))).run Try.prog w=.ok v w:=by simp[go_sem,hc,Try.underlying24,Try.runUnderlying24,Try.sizeOf24,Try.isAgg24]
theorem ys_24 {w:World}{a:Addr}{x:Value}{y:Nat}(hc:w.cell? a=some x)(hf:w.frozen? a=false):(Instr.storeAt 24 (.pointer (some a)) (.float .f64 y)).run Try.prog w=.ok () (w.setCell a (.float .f64 y)):=by simp[go_sem,run_store_float,hc,hf,Try.underlying24,Try.runUnderlying24,Try.sizeOf24,Try.isAgg24]
theorem ybx_30 {p q:Nat}:∀ w:World,(Instr.box 30 (.agg #[.float .f64 p,.float .f64 q])).run Try.prog w=.ok (ptr w.heap.size) (w.alloc (.cells #[(.float .f64 p),(.float .f64 q)] 30)):=fun w=>by
 simp[go_sem,Try.underlying30,Try.runUnderlying30,Try.sizeOf30,Try.isAgg30,Try.zeroValue30]
theorem yal_30:∀ w:World,(Instr.alloc 30 true (.tuple #[])).run Try.prog w=.ok (ptr w.heap.size) (w.alloc (.cells #[(.float .f64 0),(.float .f64 0)] 30)):=fun w=>by
 simp[go_sem,Try.underlying30,Try.runUnderlying30,Try.sizeOf30,Try.isAgg30,Try.zeroValue30]
theorem yfa47_1 {b o:Nat}:∀ w,(Instr.fieldAt 47 (.pointer (some ⟨b,o,none⟩)) 1).run Try.prog w=.ok (.pointer (some ⟨b,o+1,none⟩)) w:=fun w=>by
 simp[go_sem,Try.underlying47,Try.runUnderlying47,Try.sizeOf47,Try.isAgg47,Try.sizeOf3,Try.sizeOf4,Try.sizeOf30]
theorem oq13f (w:World)(x:Nat→Value)(mb pb r6 r7 v u a c:Nat)(n1:Int)(hm:Blk w mb [.bool true,.float .f64 v,.float .f64 u,.int .i64 n1] 47)(hp:Blk w pb [.float .f64 a,.float .f64 c] 30)(hr:Blk w r7 [.float .f64 0,.float .f64 0] 30)(hn:r7≠mb)(hq:r7≠pb)(h0:x 0=ptr mb)(h5:x 5=ptr pb)(h6:x 6=ptr r6)(h7:x 7=ptr r7) :
  (sT (sR (sL (sR (sR q13))))).wp Try.prog (fun e a' w'=>e=.normal∧a'.defers=[]∧sQ2 20 (fun x=>x 6=ptr r6∧x 7=ptr r7) mb [.bool true,.float .f64 a,.float .f64 c,.int .i64 n1] 47 r7 [.float .f64 v,.float .f64 u] 30 w a'.tmps w') ⟨fg 20 x,[]⟩ w:=by
 refine hideQ fun G HQ=>?_;rw[show fg 20 x=#[x 0,x 1,x 2,x 3,x 4,x 5,x 6,x 7,x 8,x 9,x 10,x 11,x 12,x 13,x 14,x 15,x 16,x 17,x 18,x 19] from rfl];simp only[q13,Try.f13,Option.getD_some,sL,sR,sB,sT,sF,h0,h5,h6,h7];have c1:=hm.cell 1;have c2:=hm.cell 2;have z1:=hm.frozen 1;have z2:=hm.frozen 2;have p0:=hp.cell 0;have p1:=hp.cell 1;have r0:=hr.cell 0;have r1:=hr.cell 1;have y0:=hr.frozen 0;have y1:=hr.frozen 1;have HM:=Lib.hid hm;have HR:=Lib.hid hr;have hn2:mb≠r7:=Ne.symm hn;have hq2:pb≠r7:=Ne.symm hq;clear hm hp hr
 go_region_with fail
 all_goals
  refine⟨rfl,?_⟩;refine HQ.out _ _ ?_;refine sQ2.drew ?_;exact sw_fin rfl rfl rfl hn HM.out HR.out
theorem oq15f {mb:Nat}{w:World}{x:Nat→Value}(e0:x 0=(ptr mb))(e1:x 1=(.pointer none))  : OrdOk Try.prog (sO (sL (sL (sR q15)))) (fg 25 (up (up x 9 (ptr mb)) 10 (.pointer none))) [] (fun j=>decide (2≤j)) w:=by
 refine⟨fun q9 o ho hs=>?_,by decide +kernel,by decide +kernel⟩
 match q9,ho,hs with
 | 0,ho,_ =>
  obtain rfl:=so' ho;exact⟨9,⟨rfl,rfl,rfl,(by decide +kernel),nofun⟩,(show 9<25 by decide),fun a h τ δ=>ex_move rfl (show a.eval (.tmp 0)=(ptr mb) from(h _ (show Operand.tmp 0∈(#[Operand.tmp 0]:Array Operand) by simp)).trans e0)⟩
 | 1,ho,_ =>
  obtain rfl:=so' ho;exact⟨10,⟨rfl,rfl,rfl,(by decide +kernel),nofun⟩,(show 10<25 by decide),fun a h τ δ=>ex_move rfl (show a.eval (.tmp 1)=(.pointer none) from(h _ (show Operand.tmp 1∈(#[Operand.tmp 1]:Array Operand) by simp)).trans e1)⟩
 | 2,_,hs=>cases hs
 | 3,_,hs=>cases hs
 | 4,_,hs=>cases hs
 | 5,_,hs=>cases hs
 | 6,_,hs=>cases hs
 | 7,_,hs=>cases hs
 | 8,_,hs=>cases hs
 | 9,_,hs=>cases hs
 | 10,_,hs=>cases hs
 | 11,_,hs=>cases hs
 | n+12,ho,_ =>
  have:=lt_of_op ho;exact absurd this (by show ¬ n+12<12;omega)
theorem begins64 {w:World}{mb v:Nat}{n0:Int}(hblk:Blk w mb [.bool true,.float .f64 v,.int .i64 n0] 45):CCn 18 #[ptr mb,(.pointer none)] w (RB (.bool true) mb [.bool true,.float .f64 v,.int .i64 (wrap64 (n0+1))] 45 w):=by
 intro m K hK cl cs hcm h;have hk:(base 18).kind≠.early:=nofun;have hD:=hK.det;rw[show(#[ptr mb,(.pointer none)]:Array Value)=[ptr mb,(.pointer none)].toArray from rfl,enter_fg (n:=23) (c:=q18) Try.func18 rfl rfl rfl];have kk:Kp [mb] w w:=⟨Nat.le_refl _,fun _ _ _=>rfl⟩;refine hD.sr (hD.asn (.bool false) ?_);refine hD.e0 (hD.s0 (hD.sr (hD.mvn (ptr mb) ?_)));refine hD.pun (.bool false) (fun w=>yw_eql26_p rfl rfl) ?_;refine hD.mvn (.bool false) ?_;refine hD.gwn (ptr mb) rfl (fun τ d=>ex_move rfl rfl) ?_;refine hD.gwn (ptr mb) rfl (fun τ d=>ex_nilc rfl rfl) ?_;refine hD.gwn (ptr mb) rfl (fun τ d=>ex_field (v:=(ptr mb)) rfl rfl yfa45_0) ?_;refine hD.gwn (.bool true) rfl (fun τ d=>ex_load rfl rfl (yl_4 (hblk.cell 0))) ?_;refine hD.gwn (.bool false) rfl (fun τ d=>pu_not (y:=true) rfl rfl) ?_;refine hD.pun (.bool false) (fun w=>pu_pick (t:=false) rfl rfl rfl) ?_;refine hD.e0 (hD.cc false (hD.k0 (hD.sr (hD.mvn (.pointer none) ?_))));refine hD.cf #[(.pointer none)] hk Try.func23 ?_;refine step_nil hK rfl fun w1 kw1=>?_;have hblk':=kw1.blk hblk (by simp);have kk:=kk.trans (Kp.wid kw1);refine finn 15 ?_;refine hD.z0 (hD.mvn (ptr mb) ?_);refine hD.ncn ⟨mb,0,none⟩ ?_;refine hD.fdn (ptrAt mb 2) yfa45_2 ?_;refine hD.ldn (.int .i64 n0) (fun τ d=>yl_3 (hblk'.cell 2)) ?_;refine hD.pun (.int .i64 (wrap64 (n0+1))) (fun w=>yw_add3 rfl rfl rfl) ?_;refine hD.ncn ⟨mb,0,none⟩ ?_;refine hD.fdn (ptrAt mb 2) yfa45_2 ?_;refine hD.store (n:=0) (u:=(ptrAt mb 2)) (z:=(.int .i64 (wrap64 (n0+1)))) hk rfl ⟨rfl,rfl,rfl,rfl,nofun⟩ rfl rfl (fun τ d=>((ys_3 (w:=re w1 τ d) (hblk'.cell 2) (hblk'.frozen 2)).trans (congrArg (Result.ok ()) re_setCell))) (Nat.le_of_eq (World.size_setCell _ _ _).symm) ?_;obtain⟨w2,hsw2⟩:∃ z9,z9=w1.setCell ⟨mb,2,none⟩ (.int .i64 (wrap64 (n0+1))):=⟨_,rfl⟩;have ksw2:Kp [mb] w1 w2:=by rw[hsw2];exact⟨Nat.le_of_eq (World.size_setCell _ _ _).symm,fun c hc hn=>setCell_frame (by simpa using hn)⟩
 have bw2:Blk w2 mb [.bool true,(.float .f64 v),.int .i64 (wrap64 (n0+1))] 45:=by rw[hsw2];exact hblk'.set 2 _
 rw[← hsw2];clear hsw2;have kk:=kk.trans ksw2;refine hD.z0 (hD.asn (.bool true) ?_);refine hD.e0 (hD.ret (n:=0) ?_);exact hD.leave (n:=0) (b:=base 18) (v:=.bool true) rfl rfl Try.func18 (fun τ d=>res1v rfl rfl) hcm (h _ _ ⟨rfl,kk,bw2⟩)
theorem beginsA {w:World}{mb v u:Nat}{n0:Int}(hblk:Blk w mb [.bool true,.float .f64 v,.float .f64 u,.int .i64 n0] 47):CCn 19 #[ptr mb,(.pointer none)] w (RB (.bool true) mb [.bool true,.float .f64 v,.float .f64 u,.int .i64 (wrap64 (n0+1))] 47 w):=by
 intro m K hK cl cs hcm h;have hk:(base 19).kind≠.early:=nofun;have hD:=hK.det;rw[show(#[ptr mb,(.pointer none)]:Array Value)=[ptr mb,(.pointer none)].toArray from rfl,enter_fg (n:=23) (c:=q19) Try.func19 rfl rfl rfl];have kk:Kp [mb] w w:=⟨Nat.le_refl _,fun _ _ _=>rfl⟩;refine hD.sr (hD.asn (.bool false) ?_);refine hD.e0 (hD.s0 (hD.sr (hD.mvn (ptr mb) ?_)));refine hD.pun (.bool false) (fun w=>yw_eql28_p rfl rfl) ?_;refine hD.mvn (.bool false) ?_;refine hD.gwn (ptr mb) rfl (fun τ d=>ex_move rfl rfl) ?_;refine hD.gwn (ptr mb) rfl (fun τ d=>ex_nilc rfl rfl) ?_;refine hD.gwn (ptr mb) rfl (fun τ d=>ex_field (v:=(ptr mb)) rfl rfl yfa47_0) ?_;refine hD.gwn (.bool true) rfl (fun τ d=>ex_load rfl rfl (yl_4 (hblk.cell 0))) ?_;refine hD.gwn (.bool false) rfl (fun τ d=>pu_not (y:=true) rfl rfl) ?_;refine hD.pun (.bool false) (fun w=>pu_pick (t:=false) rfl rfl rfl) ?_;refine hD.e0 (hD.cc false (hD.k0 (hD.sr (hD.mvn (.pointer none) ?_))));refine hD.cf #[(.pointer none)] hk Try.func23 ?_;refine step_nil hK rfl fun w1 kw1=>?_;have hblk':=kw1.blk hblk (by simp);have kk:=kk.trans (Kp.wid kw1);refine finn 15 ?_;refine hD.z0 (hD.mvn (ptr mb) ?_);refine hD.ncn ⟨mb,0,none⟩ ?_;refine hD.fdn (ptrAt mb 3) yfa47_2 ?_;refine hD.ldn (.int .i64 n0) (fun τ d=>yl_3 (hblk'.cell 3)) ?_;refine hD.pun (.int .i64 (wrap64 (n0+1))) (fun w=>yw_add3 rfl rfl rfl) ?_;refine hD.ncn ⟨mb,0,none⟩ ?_;refine hD.fdn (ptrAt mb 3) yfa47_2 ?_;refine hD.store (n:=0) (u:=(ptrAt mb 3)) (z:=(.int .i64 (wrap64 (n0+1)))) hk rfl ⟨rfl,rfl,rfl,rfl,nofun⟩ rfl rfl (fun τ d=>((ys_3 (w:=re w1 τ d) (hblk'.cell 3) (hblk'.frozen 3)).trans (congrArg (Result.ok ()) re_setCell))) (Nat.le_of_eq (World.size_setCell _ _ _).symm) ?_;obtain⟨w2,hsw2⟩:∃ z9,z9=w1.setCell ⟨mb,3,none⟩ (.int .i64 (wrap64 (n0+1))):=⟨_,rfl⟩;have ksw2:Kp [mb] w1 w2:=by rw[hsw2];exact⟨Nat.le_of_eq (World.size_setCell _ _ _).symm,fun c hc hn=>setCell_frame (by simpa using hn)⟩
 have bw2:Blk w2 mb [.bool true,(.float .f64 v),(.float .f64 u),.int .i64 (wrap64 (n0+1))] 47:=by rw[hsw2];exact hblk'.set 3 _
 rw[← hsw2];clear hsw2;have kk:=kk.trans ksw2;refine hD.z0 (hD.asn (.bool true) ?_);refine hD.e0 (hD.ret (n:=0) ?_);exact hD.leave (n:=0) (b:=base 19) (v:=.bool true) rfl rfl Try.func19 (fun τ d=>res1v rfl rfl) hcm (h _ _ ⟨rfl,kk,bw2⟩)
theorem load64 {w:World}{mb v:Nat}{n0:Int}(hblk:Blk w mb [.bool true,.float .f64 v,.int .i64 n0] 45):CCn 8 #[ptr mb,(.pointer none)] w (RB (.float .f64 v) mb [.bool true,.float .f64 v,.int .i64 (wrap64 (n0+1))] 45 w):=by
 intro m K hK cl cs hcm h;have hk:(base 8).kind≠.early:=nofun;have hD:=hK.det;rw[show(#[ptr mb,(.pointer none)]:Array Value)=[ptr mb,(.pointer none)].toArray from rfl,enter_fg (n:=15) (c:=q8) Try.func8 rfl rfl rfl];have kk:Kp [mb] w w:=⟨Nat.le_refl _,fun _ _ _=>rfl⟩;refine hD.sr (hD.asn (.float .f64 0) ?_);refine hD.z0 (hD.asn (.float .f64 0) ?_);refine hD.e0 (hD.s0 (hD.sr (hD.mvn (ptr mb) ?_)));refine hD.mvn (.pointer none) ?_;refine hD.cf #[ptr mb,(.pointer none)] hk Try.func18 ?_;refine begins64 hblk hK rfl fun v9 w1 ⟨hv9,kw1,bw1⟩=>?_;subst hv9;have kk:=kk.trans kw1;refine finn 8 ?_;refine hD.pun (.bool false) (fun w=>pu_not (y:=true) rfl rfl) ?_;refine hD.e0 (hD.cc false (hD.k0 (hD.sr (hD.mvn (ptr mb) ?_))));refine hD.ncn ⟨mb,0,none⟩ ?_;refine hD.fdn (ptrAt mb 1) yfa45_1 ?_;refine hD.ldn (.float .f64 v) (fun τ d=>yl_24 (bw1.cell 1)) ?_;refine hD.asn (.float .f64 v) ?_;refine hD.e0 (hD.ret (n:=0) ?_);exact hD.leave (n:=0) (b:=base 8) (v:=.float .f64 v) rfl rfl Try.func8 (fun τ d=>res1v rfl rfl) hcm (h _ _ ⟨rfl,kk,bw1⟩)
theorem store64 {w:World}{mb v a:Nat}{n0:Int}(hblk:Blk w mb [.bool true,.float .f64 v,.int .i64 n0] 45):CCn 10 #[ptr mb,(.pointer none),(.float .f64 a)] w (RB (.tuple #[]) mb [.bool true,.float .f64 a,.int .i64 (wrap64 (n0+1))] 45 w):=by
 intro m K hK cl cs hcm h;have hk:(base 10).kind≠.early:=nofun;have hD:=hK.det;rw[show(#[ptr mb,(.pointer none),(.float .f64 a)]:Array Value)=[ptr mb,(.pointer none),(.float .f64 a)].toArray from rfl,enter_fg (n:=13) (c:=q10) Try.func10 rfl rfl rfl];have kk:Kp [mb] w w:=⟨Nat.le_refl _,fun _ _ _=>rfl⟩;refine hD.sr (hD.mvn (ptr mb) ?_);refine hD.mvn (.pointer none) ?_;refine hD.cf #[ptr mb,(.pointer none)] hk Try.func18 ?_;refine begins64 hblk hK rfl fun v9 w1 ⟨hv9,kw1,bw1⟩=>?_;subst hv9;have kk:=kk.trans kw1;refine finn 8 ?_;refine hD.e0 (hD.cc true (hD.r0 (hD.mvn (ptr mb) ?_)));refine hD.mvn (.float .f64 a) ?_;refine hD.ncn ⟨mb,0,none⟩ ?_;refine hD.fdn (ptrAt mb 1) yfa45_1 ?_;refine hD.store (n:=0) (u:=(ptrAt mb 1)) (z:=(.float .f64 a)) hk rfl ⟨rfl,rfl,rfl,rfl,nofun⟩ rfl rfl (fun τ d=>((ys_24 (w:=re w1 τ d) (bw1.cell 1) (bw1.frozen 1)).trans (congrArg (Result.ok ()) re_setCell))) (Nat.le_of_eq (World.size_setCell _ _ _).symm) ?_;obtain⟨w2,hsw2⟩:∃ z9,z9=w1.setCell ⟨mb,1,none⟩ (.float .f64 a):=⟨_,rfl⟩;have ksw2:Kp [mb] w1 w2:=by rw[hsw2];exact⟨Nat.le_of_eq (World.size_setCell _ _ _).symm,fun c hc hn=>setCell_frame (by simpa using hn)⟩
 have bw2:Blk w2 mb [.bool true,(.float .f64 a),.int .i64 (wrap64 (n0+1))] 45:=by rw[hsw2];exact bw1.set 1 _
 rw[← hsw2];clear hsw2;have kk:=kk.trans ksw2;refine hD.e0 (hD.end (n:=0) ?_);exact hD.leave (n:=0) (b:=base 10) (v:=.tuple #[]) rfl rfl Try.func10 (fun τ d=>res0 rfl) hcm (h _ _ ⟨rfl,kk,bw2⟩)
theorem swap64 {w:World}{mb v a:Nat}{n0:Int}(hblk:Blk w mb [.bool true,.float .f64 v,.int .i64 n0] 45):CCn 12 #[ptr mb,(.pointer none),(.float .f64 a)] w (RB (.float .f64 v) mb [.bool true,.float .f64 a,.int .i64 (wrap64 (n0+1))] 45 w):=by
 intro m K hK cl cs hcm h;have hk:(base 12).kind≠.early:=nofun;have hD:=hK.det;rw[show(#[ptr mb,(.pointer none),(.float .f64 a)]:Array Value)=[ptr mb,(.pointer none),(.float .f64 a)].toArray from rfl,enter_fg (n:=20) (c:=q12) Try.func12 rfl rfl rfl];have kk:Kp [mb] w w:=⟨Nat.le_refl _,fun _ _ _=>rfl⟩;refine hD.sr (hD.asn (.float .f64 0) ?_);refine hD.z0 (hD.asn (.float .f64 0) ?_);refine hD.e0 (hD.s0 (hD.sr (hD.mvn (ptr mb) ?_)));refine hD.mvn (.pointer none) ?_;refine hD.cf #[ptr mb,(.pointer none)] hk Try.func18 ?_;refine begins64 hblk hK rfl fun v9 w1 ⟨hv9,kw1,bw1⟩=>?_;subst hv9;have kk:=kk.trans kw1;refine finn 10 ?_;refine hD.e0 (hD.cc true (hD.r0 (hD.mvn (ptr mb) ?_)));refine hD.mvn (ptr mb) ?_;refine hD.ncn ⟨mb,0,none⟩ ?_;refine hD.fdn (ptrAt mb 1) yfa45_1 ?_;refine hD.ldn (.float .f64 v) (fun τ d=>yl_24 (bw1.cell 1)) ?_;refine hD.mvn (.float .f64 a) ?_;refine hD.asn (.float .f64 v) ?_;refine hD.ncn ⟨mb,0,none⟩ ?_;refine hD.fdn (ptrAt mb 1) yfa45_1 ?_;refine hD.store (n:=0) (u:=(ptrAt mb 1)) (z:=(.float .f64 a)) hk rfl ⟨rfl,rfl,rfl,rfl,nofun⟩ rfl rfl (fun τ d=>((ys_24 (w:=re w1 τ d) (bw1.cell 1) (bw1.frozen 1)).trans (congrArg (Result.ok ()) re_setCell))) (Nat.le_of_eq (World.size_setCell _ _ _).symm) ?_;obtain⟨w2,hsw2⟩:∃ z9,z9=w1.setCell ⟨mb,1,none⟩ (.float .f64 a):=⟨_,rfl⟩;have ksw2:Kp [mb] w1 w2:=by rw[hsw2];exact⟨Nat.le_of_eq (World.size_setCell _ _ _).symm,fun c hc hn=>setCell_frame (by simpa using hn)⟩
 have bw2:Blk w2 mb [.bool true,(.float .f64 a),.int .i64 (wrap64 (n0+1))] 45:=by rw[hsw2];exact bw1.set 1 _
 rw[← hsw2];clear hsw2;have kk:=kk.trans ksw2;refine hD.z0 (hD.mvn (.float .f64 v) ?_);refine hD.asn (.float .f64 v) ?_;refine hD.e0 (hD.ret (n:=0) ?_);exact hD.leave (n:=0) (b:=base 12) (v:=.float .f64 v) rfl rfl Try.func12 (fun τ d=>res1v rfl rfl) hcm (h _ _ ⟨rfl,kk,bw2⟩)
theorem cas64_true {w:World}{mb v a b:Nat}{n0:Int}(hv:feq v a=true)(hblk:Blk w mb [.bool true,.float .f64 v,.int .i64 n0] 45):CCn 14 #[ptr mb,(.pointer none),(.float .f64 a),(.float .f64 b)] w (RB (.bool true) mb [.bool true,.float .f64 b,.int .i64 (wrap64 (n0+1))] 45 w):=by
 intro m K hK cl cs hcm h;have hk:(base 14).kind≠.early:=nofun;have hD:=hK.det;rw[show(#[ptr mb,(.pointer none),(.float .f64 a),(.float .f64 b)]:Array Value)=[ptr mb,(.pointer none),(.float .f64 a),(.float .f64 b)].toArray from rfl,enter_fg (n:=25) (c:=q14) Try.func14 rfl rfl rfl];have kk:Kp [mb] w w:=⟨Nat.le_refl _,fun _ _ _=>rfl⟩;refine hD.sr (hD.asn (.bool false) ?_);refine hD.e0 (hD.s0 (hD.sr (hD.mvn (ptr mb) ?_)));refine hD.mvn (.pointer none) ?_;refine hD.cf #[ptr mb,(.pointer none)] hk Try.func18 ?_;refine begins64 hblk hK rfl fun v9 w1 ⟨hv9,kw1,bw1⟩=>?_;subst hv9;have kk:=kk.trans kw1;refine finn 11 ?_;refine hD.pun (.bool false) (fun w=>pu_not (y:=true) rfl rfl) ?_;refine hD.mvn (.bool false) ?_;refine hD.gwn (ptr mb) rfl (fun τ d=>ex_move rfl rfl) ?_;refine hD.gwn (ptr mb) rfl (fun τ d=>ex_nilc rfl rfl) ?_;refine hD.gwn (ptrAt mb 1) rfl (fun τ d=>ex_field (v:=(ptrAt mb 1)) rfl rfl yfa45_1) ?_;refine hD.gwn (.float .f64 v) rfl (fun τ d=>ex_load rfl rfl (yl_24 (bw1.cell 1))) ?_;refine hD.gwn (.float .f64 a) rfl (fun τ d=>ex_move rfl rfl) ?_;refine hD.gwn (.bool (!feq v a)) rfl (fun τ d=>w_neq24 rfl rfl rfl) ?_;refine hD.pun (.bool (!feq v a)) (fun w=>pu_pick (t:=false) rfl rfl rfl) ?_;refine hD.e0 (hD.cond (n:=0) false (show Value.bool (!feq v a)=_ by rw[hv];rfl) rfl ?_);refine hD.k0 (hD.sr (hD.mvn (ptr mb) ?_));refine hD.mvn (.float .f64 b) ?_;refine hD.ncn ⟨mb,0,none⟩ ?_;refine hD.fdn (ptrAt mb 1) yfa45_1 ?_;refine hD.store (n:=0) (u:=(ptrAt mb 1)) (z:=(.float .f64 b)) hk rfl ⟨rfl,rfl,rfl,rfl,nofun⟩ rfl rfl (fun τ d=>((ys_24 (w:=re w1 τ d) (bw1.cell 1) (bw1.frozen 1)).trans (congrArg (Result.ok ()) re_setCell))) (Nat.le_of_eq (World.size_setCell _ _ _).symm) ?_;obtain⟨w2,hsw2⟩:∃ z9,z9=w1.setCell ⟨mb,1,none⟩ (.float .f64 b):=⟨_,rfl⟩;have ksw2:Kp [mb] w1 w2:=by rw[hsw2];exact⟨Nat.le_of_eq (World.size_setCell _ _ _).symm,fun c hc hn=>setCell_frame (by simpa using hn)⟩
 have bw2:Blk w2 mb [.bool true,(.float .f64 b),.int .i64 (wrap64 (n0+1))] 45:=by rw[hsw2];exact bw1.set 1 _
 rw[← hsw2];clear hsw2;have kk:=kk.trans ksw2;refine hD.z0 (hD.asn (.bool true) ?_);refine hD.e0 (hD.ret (n:=0) ?_);exact hD.leave (n:=0) (b:=base 14) (v:=.bool true) rfl rfl Try.func14 (fun τ d=>res1v rfl rfl) hcm (h _ _ ⟨rfl,kk,bw2⟩)
theorem cas64_false {w:World}{mb v a b:Nat}{n0:Int}(hv:feq v a=false)(hblk:Blk w mb [.bool true,.float .f64 v,.int .i64 n0] 45):CCn 14 #[ptr mb,(.pointer none),(.float .f64 a),(.float .f64 b)] w (RB (.bool false) mb [.bool true,.float .f64 v,.int .i64 (wrap64 (n0+1))] 45 w):=by
 intro m K hK cl cs hcm h;have hk:(base 14).kind≠.early:=nofun;have hD:=hK.det;rw[show(#[ptr mb,(.pointer none),(.float .f64 a),(.float .f64 b)]:Array Value)=[ptr mb,(.pointer none),(.float .f64 a),(.float .f64 b)].toArray from rfl,enter_fg (n:=25) (c:=q14) Try.func14 rfl rfl rfl];have kk:Kp [mb] w w:=⟨Nat.le_refl _,fun _ _ _=>rfl⟩;refine hD.sr (hD.asn (.bool false) ?_);refine hD.e0 (hD.s0 (hD.sr (hD.mvn (ptr mb) ?_)));refine hD.mvn (.pointer none) ?_;refine hD.cf #[ptr mb,(.pointer none)] hk Try.func18 ?_;refine begins64 hblk hK rfl fun v9 w1 ⟨hv9,kw1,bw1⟩=>?_;subst hv9;have kk:=kk.trans kw1;refine finn 11 ?_;refine hD.pun (.bool false) (fun w=>pu_not (y:=true) rfl rfl) ?_;refine hD.mvn (.bool false) ?_;refine hD.gwn (ptr mb) rfl (fun τ d=>ex_move rfl rfl) ?_;refine hD.gwn (ptr mb) rfl (fun τ d=>ex_nilc rfl rfl) ?_;refine hD.gwn (ptrAt mb 1) rfl (fun τ d=>ex_field (v:=(ptrAt mb 1)) rfl rfl yfa45_1) ?_;refine hD.gwn (.float .f64 v) rfl (fun τ d=>ex_load rfl rfl (yl_24 (bw1.cell 1))) ?_;refine hD.gwn (.float .f64 a) rfl (fun τ d=>ex_move rfl rfl) ?_;refine hD.gwn (.bool (!feq v a)) rfl (fun τ d=>w_neq24 rfl rfl rfl) ?_;refine hD.pun (.bool (!feq v a)) (fun w=>pu_pick (t:=false) rfl rfl rfl) ?_;refine hD.e0 (hD.cond (n:=0) true (show Value.bool (!feq v a)=_ by rw[hv];rfl) rfl ?_);refine hD.sr (hD.asn (.bool false) ?_);refine hD.e0 (hD.ret (n:=0) ?_);exact hD.leave (n:=0) (b:=base 14) (v:=.bool false) rfl rfl Try.func14 (fun τ d=>res1v rfl rfl) hcm (h _ _ ⟨rfl,kk,bw1⟩)
theorem loadA {w:World}{mb v u:Nat}{n0:Int}(hblk:Blk w mb [.bool true,.float .f64 v,.float .f64 u,.int .i64 n0] 47):CCn 9 #[ptr mb,(.pointer none)] w (RB (.agg #[.float .f64 v,.float .f64 u]) mb [.bool true,.float .f64 v,.float .f64 u,.int .i64 (wrap64 (n0+1))] 47 w):=by
 intro m K hK cl cs hcm h;have hk:(base 9).kind≠.early:=nofun;have hD:=hK.det;rw[show(#[ptr mb,(.pointer none)]:Array Value)=[ptr mb,(.pointer none)].toArray from rfl,enter_fg (n:=15) (c:=q9) Try.func9 rfl rfl rfl];have kk:Kp [mb] w w:=⟨Nat.le_refl _,fun _ _ _=>rfl⟩;refine hD.sr (hD.alloc (n:=0) (ob:=.cells #[(.float .f64 0),(.float .f64 0)] 30) hk rfl ⟨rfl,rfl,rfl,(by decide +kernel),nofun⟩ yal_30 ?_);obtain⟨w1,hsw1⟩:∃ z9,z9=w.alloc (.cells #[(.float .f64 0),(.float .f64 0)] 30):=⟨_,rfl⟩;obtain⟨nw1,hnw1⟩:∃ z9,z9=w.heap.size:=⟨_,rfl⟩;have ksw1:Kp [] w w1:=by rw[hsw1];exact Kp.alloc [] _ _
 have bw1:Blk w1 nw1 [(.float .f64 0),(.float .f64 0)] 30:=by rw[hsw1,hnw1];exact Blk.new _ _ _
 rw[← hsw1,← hnw1];clear hsw1;have genw1:w.heap.size≤nw1:=by rw[hnw1];exact kk.size
 have hblk':=ksw1.blk hblk (by simp);have kk:=kk.trans (Kp.wid ksw1);refine nm rfl ?_;refine hD.z0 (hD.alloc (n:=0) (ob:=.cells #[(.float .f64 0),(.float .f64 0)] 30) hk rfl ⟨rfl,rfl,rfl,(by decide +kernel),nofun⟩ yal_30 ?_);obtain⟨w2,hsw2⟩:∃ z9,z9=w1.alloc (.cells #[(.float .f64 0),(.float .f64 0)] 30):=⟨_,rfl⟩;obtain⟨nw2,hnw2⟩:∃ z9,z9=w1.heap.size:=⟨_,rfl⟩;have ksw2:Kp [] w1 w2:=by rw[hsw2];exact Kp.alloc [] _ _
 have bw2:Blk w2 nw2 [(.float .f64 0),(.float .f64 0)] 30:=by rw[hsw2,hnw2];exact Blk.new _ _ _
 rw[← hsw2,← hnw2];clear hsw2;have genw2:w.heap.size≤nw2:=by rw[hnw2];exact kk.size
 have ne_nw2_nw1:nw2≠nw1:=Nat.ne_of_gt (by rw[hnw2];exact bw1.lt);have hblk'':=ksw2.blk hblk' (by simp);have bw1':=ksw2.blk bw1 (by simp);have kk:=kk.trans (Kp.wid ksw2);refine nm rfl ?_;refine hD.e0 (hD.s0 (hD.sr (hD.mvn (ptr mb) ?_)));refine hD.mvn (.pointer none) ?_;refine hD.cf #[ptr mb,(.pointer none)] hk Try.func19 ?_;refine beginsA hblk'' hK rfl fun v9 w3 ⟨hv9,kw3,bw3⟩=>?_;subst hv9;have bw1'':=kw3.blk bw1' (by simpa using (cel_ne (Blk.cel bw1') (Blk.cel hblk'') (by decide)));have bw2':=kw3.blk bw2 (by simpa using (cel_ne (Blk.cel bw2) (Blk.cel hblk'') (by decide)));have kk:=kk.trans kw3;refine finn 8 ?_;refine hD.pun (.bool false) (fun w=>pu_not (y:=true) rfl rfl) ?_;refine hD.e0 (hD.cc false (hD.k0 (hD.sr (hD.mvn (ptr mb) ?_))));refine hD.ncn ⟨mb,0,none⟩ ?_;refine hD.fdn (ptrAt mb 1) yfa47_1 ?_;refine hD.ldn (.agg #[(.float .f64 v),(.float .f64 u)]) (fun τ d=>(l_30 (bw3.cell 1) (bw3.cell 2))) ?_;refine hD.store (n:=0) (u:=(ptr nw1)) (z:=(.agg #[(.float .f64 v),(.float .f64 u)])) hk rfl ⟨rfl,rfl,rfl,rfl,nofun⟩ rfl rfl (fun τ d=>((st30f (w:=re w3 τ d) (bw1''.cell 0) (bw1''.frozen 0) ((bw1''.set 0 _).cell 1) ((bw1''.set 0 _).frozen 1)).trans (congrArg (Result.ok ()) (by rw[re_setCell,re_setCell])))) (by rw[World.size_setCell,World.size_setCell];exact Nat.le_refl _) ?_;obtain⟨w4,hsw4⟩:∃ z9,z9=(w3.setCell ⟨nw1,0,none⟩ (.float .f64 v)).setCell ⟨nw1,1,none⟩ (.float .f64 u):=⟨_,rfl⟩;have ksw4:Kp [nw1] w3 w4:=by rw[hsw4];exact(Kp.set w3 nw1 0 _).trans (Kp.set _ nw1 1 _)
 have bw4:Blk w4 nw1 [(.float .f64 v),(.float .f64 u)] 30:=by rw[hsw4];exact(bw1''.set 0 _).set 1 _
 rw[← hsw4];clear hsw4;have bw3':=ksw4.blk bw3 (by simpa using (cel_ne (Blk.cel bw3) (Blk.cel bw1'') (by decide)));have bw2'':=ksw4.blk bw2' (by simpa using ne_nw2_nw1);have kk:=kk.own ksw4 genw1;refine hD.e0 (hD.ret (n:=0) ?_);exact hD.leave (n:=0) (b:=base 9) (v:=.agg #[.float .f64 v,.float .f64 u]) rfl rfl Try.func9 (fun τ d=>res30 rfl rfl (bw4.cell 0) (bw4.cell 1)) hcm (h _ _ ⟨rfl,kk,bw3'⟩)
theorem storeA {w:World}{mb v u a c:Nat}{n0:Int}(hblk:Blk w mb [.bool true,.float .f64 v,.float .f64 u,.int .i64 n0] 47):CCn 11 #[ptr mb,(.pointer none),.agg #[(.float .f64 a),(.float .f64 c)]] w (RB (.tuple #[]) mb [.bool true,.float .f64 a,.float .f64 c,.int .i64 (wrap64 (n0+1))] 47 w):=by
 intro m K hK cl cs hcm h;have hk:(base 11).kind≠.early:=nofun;have hD:=hK.det;rw[show(#[ptr mb,(.pointer none),.agg #[(.float .f64 a),(.float .f64 c)]]:Array Value)=[ptr mb,(.pointer none),.agg #[(.float .f64 a),(.float .f64 c)]].toArray from rfl,enter_fg (n:=13) (c:=q11) Try.func11 rfl rfl rfl];have kk:Kp [mb] w w:=⟨Nat.le_refl _,fun _ _ _=>rfl⟩;refine hD.sr (hD.box (n:=0) (u:=(.agg #[(.float .f64 a),(.float .f64 c)])) (ob:=.cells #[(.float .f64 a),(.float .f64 c)] 30) hk rfl ⟨rfl,rfl,rfl,rfl,nofun⟩ rfl ybx_30 ?_);obtain⟨w1,hsw1⟩:∃ z9,z9=w.alloc (.cells #[(.float .f64 a),(.float .f64 c)] 30):=⟨_,rfl⟩;obtain⟨nw1,hnw1⟩:∃ z9,z9=w.heap.size:=⟨_,rfl⟩;have ksw1:Kp [] w w1:=by rw[hsw1];exact Kp.alloc [] _ _
 have bw1:Blk w1 nw1 [(.float .f64 a),(.float .f64 c)] 30:=by rw[hsw1,hnw1];exact Blk.new _ _ _
 rw[← hsw1,← hnw1];clear hsw1;have genw1:w.heap.size≤nw1:=by rw[hnw1];exact kk.size
 have hblk':=ksw1.blk hblk (by simp);have kk:=kk.trans (Kp.wid ksw1);refine nm rfl ?_;refine hD.z0 (hD.mvn (ptr mb) ?_);refine hD.mvn (.pointer none) ?_;refine hD.cf #[ptr mb,(.pointer none)] hk Try.func19 ?_;refine beginsA hblk' hK rfl fun v9 w2 ⟨hv9,kw2,bw2⟩=>?_;subst hv9;have bw1':=kw2.blk bw1 (by simpa using (cel_ne (Blk.cel bw1) (Blk.cel hblk') (by decide)));have kk:=kk.trans kw2;refine finn 8 ?_;refine hD.e0 (hD.cc true (hD.r0 (hD.mvn (ptr mb) ?_)));refine hD.ldn (.agg #[(.float .f64 a),(.float .f64 c)]) (fun τ d=>(l_30 (bw1'.cell 0) (bw1'.cell 1))) ?_;refine hD.ncn ⟨mb,0,none⟩ ?_;refine hD.fdn (ptrAt mb 1) yfa47_1 ?_;refine hD.store (n:=0) (u:=(ptrAt mb 1)) (z:=(.agg #[(.float .f64 a),(.float .f64 c)])) hk rfl ⟨rfl,rfl,rfl,rfl,nofun⟩ rfl rfl (fun τ d=>((st30f (w:=re w2 τ d) (bw2.cell 1) (bw2.frozen 1) ((bw2.set 1 _).cell 2) ((bw2.set 1 _).frozen 2)).trans (congrArg (Result.ok ()) (by rw[re_setCell,re_setCell])))) (by rw[World.size_setCell,World.size_setCell];exact Nat.le_refl _) ?_;obtain⟨w3,hsw3⟩:∃ z9,z9=(w2.setCell ⟨mb,1,none⟩ (.float .f64 a)).setCell ⟨mb,2,none⟩ (.float .f64 c):=⟨_,rfl⟩;have ksw3:Kp [mb] w2 w3:=by rw[hsw3];exact(Kp.set w2 mb 1 _).trans (Kp.set _ mb 2 _)
 have bw3:Blk w3 mb [.bool true,(.float .f64 a),(.float .f64 c),.int .i64 (wrap64 (n0+1))] 47:=by rw[hsw3];exact(bw2.set 1 _).set 2 _
 rw[← hsw3];clear hsw3;have bw1'':=ksw3.blk bw1' (by simpa using (cel_ne (Blk.cel bw1') (Blk.cel bw2) (by decide)));have kk:=kk.trans ksw3;refine hD.e0 (hD.end (n:=0) ?_);exact hD.leave (n:=0) (b:=base 11) (v:=.tuple #[]) rfl rfl Try.func11 (fun τ d=>res0 rfl) hcm (h _ _ ⟨rfl,kk,bw3⟩)
theorem swapA {w:World}{mb v u a c:Nat}{n0:Int}(hblk:Blk w mb [.bool true,.float .f64 v,.float .f64 u,.int .i64 n0] 47):CCn 13 #[ptr mb,(.pointer none),.agg #[(.float .f64 a),(.float .f64 c)]] w (RB (.agg #[.float .f64 v,.float .f64 u]) mb [.bool true,.float .f64 a,.float .f64 c,.int .i64 (wrap64 (n0+1))] 47 w):=by
 intro m K hK cl cs hcm h;have hk:(base 13).kind≠.early:=nofun;have hD:=hK.det;rw[show(#[ptr mb,(.pointer none),.agg #[(.float .f64 a),(.float .f64 c)]]:Array Value)=[ptr mb,(.pointer none),.agg #[(.float .f64 a),(.float .f64 c)]].toArray from rfl,enter_fg (n:=20) (c:=q13) Try.func13 rfl rfl rfl];have kk:Kp [mb] w w:=⟨Nat.le_refl _,fun _ _ _=>rfl⟩;refine hD.sr (hD.box (n:=0) (u:=(.agg #[(.float .f64 a),(.float .f64 c)])) (ob:=.cells #[(.float .f64 a),(.float .f64 c)] 30) hk rfl ⟨rfl,rfl,rfl,rfl,nofun⟩ rfl ybx_30 ?_);obtain⟨w1,hsw1⟩:∃ z9,z9=w.alloc (.cells #[(.float .f64 a),(.float .f64 c)] 30):=⟨_,rfl⟩;obtain⟨nw1,hnw1⟩:∃ z9,z9=w.heap.size:=⟨_,rfl⟩;have ksw1:Kp [] w w1:=by rw[hsw1];exact Kp.alloc [] _ _
 have bw1:Blk w1 nw1 [(.float .f64 a),(.float .f64 c)] 30:=by rw[hsw1,hnw1];exact Blk.new _ _ _
 rw[← hsw1,← hnw1];clear hsw1;have genw1:w.heap.size≤nw1:=by rw[hnw1];exact kk.size
 have hblk':=ksw1.blk hblk (by simp);have kk:=kk.trans (Kp.wid ksw1);refine nm rfl ?_;refine hD.alloc (n:=0) (ob:=.cells #[(.float .f64 0),(.float .f64 0)] 30) hk rfl ⟨rfl,rfl,rfl,(by decide +kernel),nofun⟩ yal_30 ?_;obtain⟨w2,hsw2⟩:∃ z9,z9=w1.alloc (.cells #[(.float .f64 0),(.float .f64 0)] 30):=⟨_,rfl⟩;obtain⟨nw2,hnw2⟩:∃ z9,z9=w1.heap.size:=⟨_,rfl⟩;have ksw2:Kp [] w1 w2:=by rw[hsw2];exact Kp.alloc [] _ _
 have bw2:Blk w2 nw2 [(.float .f64 0),(.float .f64 0)] 30:=by rw[hsw2,hnw2];exact Blk.new _ _ _
 rw[← hsw2,← hnw2];clear hsw2;have genw2:w.heap.size≤nw2:=by rw[hnw2];exact kk.size
 have ne_nw2_nw1:nw2≠nw1:=Nat.ne_of_gt (by rw[hnw2];exact bw1.lt);have hblk'':=ksw2.blk hblk' (by simp);have bw1':=ksw2.blk bw1 (by simp);have kk:=kk.trans (Kp.wid ksw2);refine nm rfl ?_;refine hD.z0 (hD.alloc (n:=0) (ob:=.cells #[(.float .f64 0),(.float .f64 0)] 30) hk rfl ⟨rfl,rfl,rfl,(by decide +kernel),nofun⟩ yal_30 ?_);obtain⟨w3,hsw3⟩:∃ z9,z9=w2.alloc (.cells #[(.float .f64 0),(.float .f64 0)] 30):=⟨_,rfl⟩;obtain⟨nw3,hnw3⟩:∃ z9,z9=w2.heap.size:=⟨_,rfl⟩;have ksw3:Kp [] w2 w3:=by rw[hsw3];exact Kp.alloc [] _ _
 have bw3:Blk w3 nw3 [(.float .f64 0),(.float .f64 0)] 30:=by rw[hsw3,hnw3];exact Blk.new _ _ _
 rw[← hsw3,← hnw3];clear hsw3;have genw3:w.heap.size≤nw3:=by rw[hnw3];exact kk.size
 have ne_nw3_nw1:nw3≠nw1:=Nat.ne_of_gt (by rw[hnw3];exact bw1'.lt);have ne_nw3_nw2:nw3≠nw2:=Nat.ne_of_gt (by rw[hnw3];exact bw2.lt);have hblk''':=ksw3.blk hblk'' (by simp);have bw1'':=ksw3.blk bw1' (by simp);have bw2':=ksw3.blk bw2 (by simp);have kk:=kk.trans (Kp.wid ksw3);refine nm rfl ?_;refine hD.e0 (hD.s0 (hD.sr (hD.mvn (ptr mb) ?_)));refine hD.mvn (.pointer none) ?_;refine hD.cf #[ptr mb,(.pointer none)] hk Try.func19 ?_;refine beginsA hblk''' hK rfl fun v9 w4 ⟨hv9,kw4,bw4⟩=>?_;subst hv9;have bw1''':=kw4.blk bw1'' (by simpa using (cel_ne (Blk.cel bw1'') (Blk.cel hblk''') (by decide)));have bw2'':=kw4.blk bw2' (by simpa using (cel_ne (Blk.cel bw2') (Blk.cel hblk''') (by decide)));have bw3':=kw4.blk bw3 (by simpa using (cel_ne (Blk.cel bw3) (Blk.cel hblk''') (by decide)));have kk:=kk.trans kw4;refine finn 10 ?_;refine hD.e0 (hD.cc true (hK.seg fits shut (b:=base 13) ⟨_,Try.func13⟩ nofun (c:=(sT (sR (sL (sR (sR q13)))))) (by decide +kernel) (Q:=sQ2 20 (fun x=>x 6=ptr nw2∧x 7=ptr nw3) mb [.bool true,.float .f64 a,.float .f64 c,.int .i64 (wrap64 (n0+1))] 47 nw3 [.float .f64 v,.float .f64 u] 30 w4) (fun t w' τ d h=>sQ2_re h τ d) (fun τ d=>Code.wp_mono (fun e a w' ⟨h1,h2,h3⟩=>⟨h1,h2,sQ2_un h3⟩) (oq13f (re w4 τ d) _ mb nw1 nw2 nw3 v u a c _ bw4 bw1''' bw3' (cel_ne (Blk.cel bw3') (Blk.cel bw4) (by decide)) ne_nw3_nw1 rfl rfl rfl rfl)) fun t w5 ⟨x',ex',⟨g6,g7⟩,ksw5,bw5,dw5⟩=>?_));subst ex';rw[allK.self (x:=x') (l:=[(6,ptr nw2),(7,ptr nw3)]) ⟨g6,g7,trivial⟩];have kk:=kk.own2 ksw5 genw3;have ew5:=ksw5.blk bw2'' (by simpa using ⟨(cel_ne (Blk.cel bw2'') (Blk.cel bw4) (by decide)),(Ne.symm ne_nw3_nw2)⟩);refine hD.sr (hD.ldn (.agg #[(.float .f64 v),(.float .f64 u)]) (fun τ d=>(l_30 (dw5.cell 0) (dw5.cell 1))) ?_);refine hD.store (n:=0) (u:=(ptr nw2)) (z:=(.agg #[(.float .f64 v),(.float .f64 u)])) hk rfl ⟨rfl,rfl,rfl,rfl,nofun⟩ rfl rfl (fun τ d=>((st30f (w:=re w5 τ d) (ew5.cell 0) (ew5.frozen 0) ((ew5.set 0 _).cell 1) ((ew5.set 0 _).frozen 1)).trans (congrArg (Result.ok ()) (by rw[re_setCell,re_setCell])))) (by rw[World.size_setCell,World.size_setCell];exact Nat.le_refl _) ?_;obtain⟨w6,hsw6⟩:∃ z9,z9=(w5.setCell ⟨nw2,0,none⟩ (.float .f64 v)).setCell ⟨nw2,1,none⟩ (.float .f64 u):=⟨_,rfl⟩;have ksw6:Kp [nw2] w5 w6:=by rw[hsw6];exact(Kp.set w5 nw2 0 _).trans (Kp.set _ nw2 1 _)
 have bw6:Blk w6 nw2 [(.float .f64 v),(.float .f64 u)] 30:=by rw[hsw6];exact(ew5.set 0 _).set 1 _
 rw[← hsw6];clear hsw6;have bw5':=ksw6.blk bw5 (by simpa using (cel_ne (Blk.cel bw5) (Blk.cel ew5) (by decide)));have dw5':=ksw6.blk dw5 (by simpa using ne_nw3_nw2);have kk:=kk.own ksw6 genw2;refine hD.e0 (hD.ret (n:=0) ?_);exact hD.leave (n:=0) (b:=base 13) (v:=.agg #[.float .f64 v,.float .f64 u]) rfl rfl Try.func13 (fun τ d=>res30 rfl rfl (bw6.cell 0) (bw6.cell 1)) hcm (h _ _ ⟨rfl,kk,bw5'⟩)
theorem casA_true {w:World}{mb v u a b c d:Nat}{n0:Int}(hv:(feq v a&&feq u c)=true)(hblk:Blk w mb [.bool true,.float .f64 v,.float .f64 u,.int .i64 n0] 47):CCn 15 #[ptr mb,(.pointer none),.agg #[(.float .f64 a),(.float .f64 c)],.agg #[(.float .f64 b),(.float .f64 d)]] w (RB (.bool true) mb [.bool true,.float .f64 b,.float .f64 d,.int .i64 (wrap64 (n0+1))] 47 w):=by
 intro m K hK cl cs hcm h;have hk:(base 15).kind≠.early:=nofun;have hD:=hK.det;rw[show(#[ptr mb,(.pointer none),.agg #[(.float .f64 a),(.float .f64 c)],.agg #[(.float .f64 b),(.float .f64 d)]]:Array Value)=[ptr mb,(.pointer none),.agg #[(.float .f64 a),(.float .f64 c)],.agg #[(.float .f64 b),(.float .f64 d)]].toArray from rfl,enter_fg (n:=25) (c:=q15) Try.func15 rfl rfl rfl];have kk:Kp [mb] w w:=⟨Nat.le_refl _,fun _ _ _=>rfl⟩;refine hD.sr (hD.box (n:=0) (u:=(.agg #[(.float .f64 a),(.float .f64 c)])) (ob:=.cells #[(.float .f64 a),(.float .f64 c)] 30) hk rfl ⟨rfl,rfl,rfl,rfl,nofun⟩ rfl ybx_30 ?_);obtain⟨w1,hsw1⟩:∃ z9,z9=w.alloc (.cells #[(.float .f64 a),(.float .f64 c)] 30):=⟨_,rfl⟩;obtain⟨nw1,hnw1⟩:∃ z9,z9=w.heap.size:=⟨_,rfl⟩;have ksw1:Kp [] w w1:=by rw[hsw1];exact Kp.alloc [] _ _
 have bw1:Blk w1 nw1 [(.float .f64 a),(.float .f64 c)] 30:=by rw[hsw1,hnw1];exact Blk.new _ _ _
 rw[← hsw1,← hnw1];clear hsw1;have genw1:w.heap.size≤nw1:=by rw[hnw1];exact kk.size
 have hblk':=ksw1.blk hblk (by simp);have kk:=kk.trans (Kp.wid ksw1);refine nm rfl ?_;refine hD.box (n:=0) (u:=(.agg #[(.float .f64 b),(.float .f64 d)])) (ob:=.cells #[(.float .f64 b),(.float .f64 d)] 30) hk rfl ⟨rfl,rfl,rfl,rfl,nofun⟩ rfl ybx_30 ?_;obtain⟨w2,hsw2⟩:∃ z9,z9=w1.alloc (.cells #[(.float .f64 b),(.float .f64 d)] 30):=⟨_,rfl⟩;obtain⟨nw2,hnw2⟩:∃ z9,z9=w1.heap.size:=⟨_,rfl⟩;have ksw2:Kp [] w1 w2:=by rw[hsw2];exact Kp.alloc [] _ _
 have bw2:Blk w2 nw2 [(.float .f64 b),(.float .f64 d)] 30:=by rw[hsw2,hnw2];exact Blk.new _ _ _
 rw[← hsw2,← hnw2];clear hsw2;have genw2:w.heap.size≤nw2:=by rw[hnw2];exact kk.size
 have ne_nw2_nw1:nw2≠nw1:=Nat.ne_of_gt (by rw[hnw2];exact bw1.lt);have hblk'':=ksw2.blk hblk' (by simp);have bw1':=ksw2.blk bw1 (by simp);have kk:=kk.trans (Kp.wid ksw2);refine nm rfl ?_;refine hD.asn (.bool false) ?_;refine hD.e0 (hD.s0 (hD.s0 ?_));refine draw_call (s:=2) hK [(9,(ptr mb)),(10,(.pointer none))] rfl mixed (oq15f rfl rfl) (by decide +kernel) (by decide +kernel) (by decide +kernel)
  [(0,(ptr mb)),(1,(.pointer none)),(2,(.agg #[(.float .f64 a),(.float .f64 c)])),(3,(.agg #[(.float .f64 b),(.float .f64 d)])),(6,(ptr nw1)),(7,(ptr nw2)),(8,(.bool false)),(9,(ptr mb)),(10,(.pointer none))] ⟨⟨(show 0<25 by decide),(show freeOf (sO (sL (sL (sR q15)))) 2 0=true by decide +kernel),rfl⟩,⟨(show 1<25 by decide),(show freeOf (sO (sL (sL (sR q15)))) 2 1=true by decide +kernel),rfl⟩,⟨(show 2<25 by decide),(show freeOf (sO (sL (sL (sR q15)))) 2 2=true by decide +kernel),rfl⟩,⟨(show 3<25 by decide),(show freeOf (sO (sL (sL (sR q15)))) 2 3=true by decide +kernel),rfl⟩,⟨(show 6<25 by decide),(show freeOf (sO (sL (sL (sR q15)))) 2 6=true by decide +kernel),rfl⟩,⟨(show 7<25 by decide),(show freeOf (sO (sL (sL (sR q15)))) 2 7=true by decide +kernel),rfl⟩,⟨(show 8<25 by decide),(show freeOf (sO (sL (sL (sR q15)))) 2 8=true by decide +kernel),rfl⟩,⟨(show 9<25 by decide),(show freeOf (sO (sL (sL (sR q15)))) 2 9=true by decide +kernel),rfl⟩,⟨(show 10<25 by decide),(show freeOf (sO (sL (sL (sR q15)))) 2 10=true by decide +kernel),rfl⟩,trivial⟩ (fun x2 fu te hfu=>?_) (show(([9,10]:List Nat).all fun d=>(sO (sL (sL (sR q15)))).any fun o=>o.dst==some d)=true by decide +kernel)
 refine hD.cf #[ptr mb,(.pointer none)] hk Try.func19 ?_;refine beginsA hblk'' hK rfl fun v9 w3 ⟨hv9,kw3,bw3⟩=>?_;subst hv9;have bw1'':=kw3.blk bw1' (by simpa using (cel_ne (Blk.cel bw1') (Blk.cel hblk'') (by decide)));have bw2':=kw3.blk bw2 (by simpa using (cel_ne (Blk.cel bw2) (Blk.cel hblk'') (by decide)));have kk:=kk.trans kw3;refine finn 11 ?_;have hrest:∀ x:Nat→Value,x 0=ptr mb→x 7=ptr nw2→x 20=.bool (!(feq v a&&feq u c))→K (gs ((base 15).at ⟨fg 25 x,[]⟩ [.inRegion (sO (sL (sL (sR q15)))) [],.code (sR (sL (sR q15))),.code (sR (sR q15))]) (cl::cs)) w3:=by
  intro x g0 g7 g20;refine hD.e0 (hD.cond (n:=0) false (g20.trans (by rw[hv];rfl)) rfl ?_);refine hD.k0 (hD.sr (hD.move (n:=0) (v:=(ptr mb)) hk rfl ⟨rfl,rfl,rfl,rfl,nofun⟩ g0 ?_));refine nm rfl ?_;refine hD.load (n:=0) (v:=(.agg #[(.float .f64 b),(.float .f64 d)])) (u:=(ptr nw2)) hk rfl ⟨rfl,rfl,rfl,rfl,nofun⟩ g7 (fun τ d=>(l_30 (bw2'.cell 0) (bw2'.cell 1))) ?_;refine nm rfl ?_;refine hD.ncn ⟨mb,0,none⟩ ?_;refine hD.fdn (ptrAt mb 1) yfa47_1 ?_;refine hD.store (n:=0) (u:=(ptrAt mb 1)) (z:=(.agg #[(.float .f64 b),(.float .f64 d)])) hk rfl ⟨rfl,rfl,rfl,rfl,nofun⟩ rfl rfl (fun τ d=>((st30f (w:=re w3 τ d) (bw3.cell 1) (bw3.frozen 1) ((bw3.set 1 _).cell 2) ((bw3.set 1 _).frozen 2)).trans (congrArg (Result.ok ()) (by rw[re_setCell,re_setCell])))) (by rw[World.size_setCell,World.size_setCell];exact Nat.le_refl _) ?_;obtain⟨w4,hsw4⟩:∃ z9,z9=(w3.setCell ⟨mb,1,none⟩ (.float .f64 b)).setCell ⟨mb,2,none⟩ (.float .f64 d):=⟨_,rfl⟩;have ksw4:Kp [mb] w3 w4:=by rw[hsw4];exact(Kp.set w3 mb 1 _).trans (Kp.set _ mb 2 _)
  have bw4:Blk w4 mb [.bool true,(.float .f64 b),(.float .f64 d),.int .i64 (wrap64 (n0+1))] 47:=by rw[hsw4];exact(bw3.set 1 _).set 2 _
  rw[← hsw4];clear hsw4;have bw1''':=ksw4.blk bw1'' (by simpa using (cel_ne (Blk.cel bw1'') (Blk.cel bw3) (by decide)));have bw2'':=ksw4.blk bw2' (by simpa using (cel_ne (Blk.cel bw2') (Blk.cel bw3) (by decide)));have kk:=kk.trans ksw4;refine hD.z0 (hD.asn (.bool true) ?_);refine hD.e0 (hD.ret (n:=0) ?_);exact hD.leave (n:=0) (b:=base 15) (v:=.bool true) rfl rfl Try.func15 (fun τ d=>res1v rfl rfl) hcm (h _ _ ⟨rfl,kk,bw4⟩)
 obtain⟨fu,rfl⟩:∃ f9,fu=f9+9:=fuel_ge hfu (by decide +kernel);clear hfu;refine lin_br1 (i:=3) (by decide +kernel) fun te=>?_;refine hD.pun (.bool false) (fun w=>pu_not (y:=true) rfl rfl) ?_;refine lin_br1 (i:=4) (by decide +kernel) fun te=>?_;refine hD.mvn (.bool false) ?_;refine lin_br2 (i:=5) (j:=9) (by decide +kernel) (fun te=>?_) (fun te=>?_)
 ·refine hD.gv (n:=0) (v:=(ptr mb)) hk rfl rfl rfl (by decide +kernel) nofun (fun τ d=>ex_move rfl rfl) ?_
  refine nm rfl ?_;refine lin_br2 (i:=6) (j:=9) (by decide +kernel) (fun te=>?_) (fun te=>?_)
  ·refine hD.gv (n:=0) (v:=(ptr mb)) hk rfl rfl rfl (by decide +kernel) nofun (fun τ d=>ex_nilc rfl rfl) ?_
   refine nm rfl ?_;refine lin_br2 (i:=7) (j:=9) (by decide +kernel) (fun te=>?_) (fun te=>?_)
   ·refine hD.gv (n:=0) (v:=(ptrAt mb 1)) hk rfl rfl rfl (by decide +kernel) nofun (fun τ d=>ex_field (v:=(ptrAt mb 1)) rfl rfl yfa47_1) ?_
    refine nm rfl ?_;refine lin_br2 (i:=8) (j:=9) (by decide +kernel) (fun te=>?_) (fun te=>?_)
    ·refine hD.gv (n:=0) (v:=(.agg #[(.float .f64 v),(.float .f64 u)])) hk rfl rfl rfl (by decide +kernel) nofun (fun τ d=>ex_load rfl rfl (l_30 (bw3.cell 1) (bw3.cell 2))) ?_
     refine nm rfl ?_;refine lin_br1 (i:=9) (by decide +kernel) fun te=>?_;refine hD.gwn (.agg #[(.float .f64 a),(.float .f64 c)]) rfl (fun τ d=>ex_load rfl rfl (l_30 (bw1''.cell 0) (bw1''.cell 1))) ?_;refine lin_br1 (i:=10) (by decide +kernel) fun te=>?_;refine hD.gwn (.bool (!(feq v a&&feq u c))) rfl (fun τ d=>w_neq30 rfl rfl rfl) ?_;refine lin_br1 (i:=11) (by decide +kernel) fun te=>?_;refine hD.pun (.bool (!(feq v a&&feq u c))) (fun w=>pu_pick (t:=false) rfl rfl rfl) ?_;refine lin_over (by decide +kernel) ?_;exact hrest _ rfl rfl rfl
    ·refine hD.gv (n:=0) (v:=(.agg #[(.float .f64 a),(.float .f64 c)])) hk rfl rfl rfl (by decide +kernel) nofun (fun τ d=>ex_load rfl rfl (l_30 (bw1''.cell 0) (bw1''.cell 1))) ?_
     refine nm rfl ?_;refine lin_br1 (i:=8) (by decide +kernel) fun te=>?_;refine hD.gwn (.agg #[(.float .f64 v),(.float .f64 u)]) rfl (fun τ d=>ex_load rfl rfl (l_30 (bw3.cell 1) (bw3.cell 2))) ?_;refine lin_br1 (i:=10) (by decide +kernel) fun te=>?_;refine hD.gwn (.bool (!(feq v a&&feq u c))) rfl (fun τ d=>w_neq30 rfl rfl rfl) ?_;refine lin_br1 (i:=11) (by decide +kernel) fun te=>?_;refine hD.pun (.bool (!(feq v a&&feq u c))) (fun w=>pu_pick (t:=false) rfl rfl rfl) ?_;refine lin_over (by decide +kernel) ?_;exact hrest _ rfl rfl rfl
   ·refine hD.gv (n:=0) (v:=(.agg #[(.float .f64 a),(.float .f64 c)])) hk rfl rfl rfl (by decide +kernel) nofun (fun τ d=>ex_load rfl rfl (l_30 (bw1''.cell 0) (bw1''.cell 1))) ?_
    refine nm rfl ?_;refine lin_br1 (i:=7) (by decide +kernel) fun te=>?_;refine hD.gwn (ptrAt mb 1) rfl (fun τ d=>ex_field (v:=(ptrAt mb 1)) rfl rfl yfa47_1) ?_;refine lin_br1 (i:=8) (by decide +kernel) fun te=>?_;refine hD.gwn (.agg #[(.float .f64 v),(.float .f64 u)]) rfl (fun τ d=>ex_load rfl rfl (l_30 (bw3.cell 1) (bw3.cell 2))) ?_;refine lin_br1 (i:=10) (by decide +kernel) fun te=>?_;refine hD.gwn (.bool (!(feq v a&&feq u c))) rfl (fun τ d=>w_neq30 rfl rfl rfl) ?_;refine lin_br1 (i:=11) (by decide +kernel) fun te=>?_;refine hD.pun (.bool (!(feq v a&&feq u c))) (fun w=>pu_pick (t:=false) rfl rfl rfl) ?_;refine lin_over (by decide +kernel) ?_;exact hrest _ rfl rfl rfl
  ·refine hD.gv (n:=0) (v:=(.agg #[(.float .f64 a),(.float .f64 c)])) hk rfl rfl rfl (by decide +kernel) nofun (fun τ d=>ex_load rfl rfl (l_30 (bw1''.cell 0) (bw1''.cell 1))) ?_
   refine nm rfl ?_;refine lin_br1 (i:=6) (by decide +kernel) fun te=>?_;refine hD.gwn (ptr mb) rfl (fun τ d=>ex_nilc rfl rfl) ?_;refine lin_br1 (i:=7) (by decide +kernel) fun te=>?_;refine hD.gwn (ptrAt mb 1) rfl (fun τ d=>ex_field (v:=(ptrAt mb 1)) rfl rfl yfa47_1) ?_;refine lin_br1 (i:=8) (by decide +kernel) fun te=>?_;refine hD.gwn (.agg #[(.float .f64 v),(.float .f64 u)]) rfl (fun τ d=>ex_load rfl rfl (l_30 (bw3.cell 1) (bw3.cell 2))) ?_;refine lin_br1 (i:=10) (by decide +kernel) fun te=>?_;refine hD.gwn (.bool (!(feq v a&&feq u c))) rfl (fun τ d=>w_neq30 rfl rfl rfl) ?_;refine lin_br1 (i:=11) (by decide +kernel) fun te=>?_;refine hD.pun (.bool (!(feq v a&&feq u c))) (fun w=>pu_pick (t:=false) rfl rfl rfl) ?_;refine lin_over (by decide +kernel) ?_;exact hrest _ rfl rfl rfl
 ·refine hD.gv (n:=0) (v:=(.agg #[(.float .f64 a),(.float .f64 c)])) hk rfl rfl rfl (by decide +kernel) nofun (fun τ d=>ex_load rfl rfl (l_30 (bw1''.cell 0) (bw1''.cell 1))) ?_
  refine nm rfl ?_;refine lin_br1 (i:=5) (by decide +kernel) fun te=>?_;refine hD.gwn (ptr mb) rfl (fun τ d=>ex_move rfl rfl) ?_;refine lin_br1 (i:=6) (by decide +kernel) fun te=>?_;refine hD.gwn (ptr mb) rfl (fun τ d=>ex_nilc rfl rfl) ?_;refine lin_br1 (i:=7) (by decide +kernel) fun te=>?_;refine hD.gwn (ptrAt mb 1) rfl (fun τ d=>ex_field (v:=(ptrAt mb 1)) rfl rfl yfa47_1) ?_;refine lin_br1 (i:=8) (by decide +kernel) fun te=>?_;refine hD.gwn (.agg #[(.float .f64 v),(.float .f64 u)]) rfl (fun τ d=>ex_load rfl rfl (l_30 (bw3.cell 1) (bw3.cell 2))) ?_;refine lin_br1 (i:=10) (by decide +kernel) fun te=>?_;refine hD.gwn (.bool (!(feq v a&&feq u c))) rfl (fun τ d=>w_neq30 rfl rfl rfl) ?_;refine lin_br1 (i:=11) (by decide +kernel) fun te=>?_;refine hD.pun (.bool (!(feq v a&&feq u c))) (fun w=>pu_pick (t:=false) rfl rfl rfl) ?_;refine lin_over (by decide +kernel) ?_;exact hrest _ rfl rfl rfl
theorem casA_false {w:World}{mb v u a b c d:Nat}{n0:Int}(hv:(feq v a&&feq u c)=false)(hblk:Blk w mb [.bool true,.float .f64 v,.float .f64 u,.int .i64 n0] 47):CCn 15 #[ptr mb,(.pointer none),.agg #[(.float .f64 a),(.float .f64 c)],.agg #[(.float .f64 b),(.float .f64 d)]] w (RB (.bool false) mb [.bool true,.float .f64 v,.float .f64 u,.int .i64 (wrap64 (n0+1))] 47 w):=by
 intro m K hK cl cs hcm h;have hk:(base 15).kind≠.early:=nofun;have hD:=hK.det;rw[show(#[ptr mb,(.pointer none),.agg #[(.float .f64 a),(.float .f64 c)],.agg #[(.float .f64 b),(.float .f64 d)]]:Array Value)=[ptr mb,(.pointer none),.agg #[(.float .f64 a),(.float .f64 c)],.agg #[(.float .f64 b),(.float .f64 d)]].toArray from rfl,enter_fg (n:=25) (c:=q15) Try.func15 rfl rfl rfl];have kk:Kp [mb] w w:=⟨Nat.le_refl _,fun _ _ _=>rfl⟩;refine hD.sr (hD.box (n:=0) (u:=(.agg #[(.float .f64 a),(.float .f64 c)])) (ob:=.cells #[(.float .f64 a),(.float .f64 c)] 30) hk rfl ⟨rfl,rfl,rfl,rfl,nofun⟩ rfl ybx_30 ?_);obtain⟨w1,hsw1⟩:∃ z9,z9=w.alloc (.cells #[(.float .f64 a),(.float .f64 c)] 30):=⟨_,rfl⟩;obtain⟨nw1,hnw1⟩:∃ z9,z9=w.heap.size:=⟨_,rfl⟩;have ksw1:Kp [] w w1:=by rw[hsw1];exact Kp.alloc [] _ _
 have bw1:Blk w1 nw1 [(.float .f64 a),(.float .f64 c)] 30:=by rw[hsw1,hnw1];exact Blk.new _ _ _
 rw[← hsw1,← hnw1];clear hsw1;have genw1:w.heap.size≤nw1:=by rw[hnw1];exact kk.size
 have hblk':=ksw1.blk hblk (by simp);have kk:=kk.trans (Kp.wid ksw1);refine nm rfl ?_;refine hD.box (n:=0) (u:=(.agg #[(.float .f64 b),(.float .f64 d)])) (ob:=.cells #[(.float .f64 b),(.float .f64 d)] 30) hk rfl ⟨rfl,rfl,rfl,rfl,nofun⟩ rfl ybx_30 ?_;obtain⟨w2,hsw2⟩:∃ z9,z9=w1.alloc (.cells #[(.float .f64 b),(.float .f64 d)] 30):=⟨_,rfl⟩;obtain⟨nw2,hnw2⟩:∃ z9,z9=w1.heap.size:=⟨_,rfl⟩;have ksw2:Kp [] w1 w2:=by rw[hsw2];exact Kp.alloc [] _ _
 have bw2:Blk w2 nw2 [(.float .f64 b),(.float .f64 d)] 30:=by rw[hsw2,hnw2];exact Blk.new _ _ _
 rw[← hsw2,← hnw2];clear hsw2;have genw2:w.heap.size≤nw2:=by rw[hnw2];exact kk.size
 have ne_nw2_nw1:nw2≠nw1:=Nat.ne_of_gt (by rw[hnw2];exact bw1.lt);have hblk'':=ksw2.blk hblk' (by simp);have bw1':=ksw2.blk bw1 (by simp);have kk:=kk.trans (Kp.wid ksw2);refine nm rfl ?_;refine hD.asn (.bool false) ?_;refine hD.e0 (hD.s0 (hD.s0 ?_));refine draw_call (s:=2) hK [(9,(ptr mb)),(10,(.pointer none))] rfl mixed (oq15f rfl rfl) (by decide +kernel) (by decide +kernel) (by decide +kernel)
  [(0,(ptr mb)),(1,(.pointer none)),(2,(.agg #[(.float .f64 a),(.float .f64 c)])),(3,(.agg #[(.float .f64 b),(.float .f64 d)])),(6,(ptr nw1)),(7,(ptr nw2)),(8,(.bool false)),(9,(ptr mb)),(10,(.pointer none))] ⟨⟨(show 0<25 by decide),(show freeOf (sO (sL (sL (sR q15)))) 2 0=true by decide +kernel),rfl⟩,⟨(show 1<25 by decide),(show freeOf (sO (sL (sL (sR q15)))) 2 1=true by decide +kernel),rfl⟩,⟨(show 2<25 by decide),(show freeOf (sO (sL (sL (sR q15)))) 2 2=true by decide +kernel),rfl⟩,⟨(show 3<25 by decide),(show freeOf (sO (sL (sL (sR q15)))) 2 3=true by decide +kernel),rfl⟩,⟨(show 6<25 by decide),(show freeOf (sO (sL (sL (sR q15)))) 2 6=true by decide +kernel),rfl⟩,⟨(show 7<25 by decide),(show freeOf (sO (sL (sL (sR q15)))) 2 7=true by decide +kernel),rfl⟩,⟨(show 8<25 by decide),(show freeOf (sO (sL (sL (sR q15)))) 2 8=true by decide +kernel),rfl⟩,⟨(show 9<25 by decide),(show freeOf (sO (sL (sL (sR q15)))) 2 9=true by decide +kernel),rfl⟩,⟨(show 10<25 by decide),(show freeOf (sO (sL (sL (sR q15)))) 2 10=true by decide +kernel),rfl⟩,trivial⟩ (fun x2 fu te hfu=>?_) (show(([9,10]:List Nat).all fun d=>(sO (sL (sL (sR q15)))).any fun o=>o.dst==some d)=true by decide +kernel)
 refine hD.cf #[ptr mb,(.pointer none)] hk Try.func19 ?_;refine beginsA hblk'' hK rfl fun v9 w3 ⟨hv9,kw3,bw3⟩=>?_;subst hv9;have bw1'':=kw3.blk bw1' (by simpa using (cel_ne (Blk.cel bw1') (Blk.cel hblk'') (by decide)));have bw2':=kw3.blk bw2 (by simpa using (cel_ne (Blk.cel bw2) (Blk.cel hblk'') (by decide)));have kk:=kk.trans kw3;refine finn 11 ?_;have hrest:∀ x:Nat→Value,x 0=ptr mb→x 7=ptr nw2→x 20=.bool (!(feq v a&&feq u c))→K (gs ((base 15).at ⟨fg 25 x,[]⟩ [.inRegion (sO (sL (sL (sR q15)))) [],.code (sR (sL (sR q15))),.code (sR (sR q15))]) (cl::cs)) w3:=by
  intro x g0 g7 g20;refine hD.e0 (hD.cond (n:=0) true (g20.trans (by rw[hv];rfl)) rfl ?_);refine hD.sr (hD.asn (.bool false) ?_);refine hD.e0 (hD.ret (n:=0) ?_);exact hD.leave (n:=0) (b:=base 15) (v:=.bool false) rfl rfl Try.func15 (fun τ d=>res1v rfl rfl) hcm (h _ _ ⟨rfl,kk,bw3⟩)
 obtain⟨fu,rfl⟩:∃ f9,fu=f9+9:=fuel_ge hfu (by decide +kernel);clear hfu;refine lin_br1 (i:=3) (by decide +kernel) fun te=>?_;refine hD.pun (.bool false) (fun w=>pu_not (y:=true) rfl rfl) ?_;refine lin_br1 (i:=4) (by decide +kernel) fun te=>?_;refine hD.mvn (.bool false) ?_;refine lin_br2 (i:=5) (j:=9) (by decide +kernel) (fun te=>?_) (fun te=>?_)
 ·refine hD.gv (n:=0) (v:=(ptr mb)) hk rfl rfl rfl (by decide +kernel) nofun (fun τ d=>ex_move rfl rfl) ?_
  refine nm rfl ?_;refine lin_br2 (i:=6) (j:=9) (by decide +kernel) (fun te=>?_) (fun te=>?_)
  ·refine hD.gv (n:=0) (v:=(ptr mb)) hk rfl rfl rfl (by decide +kernel) nofun (fun τ d=>ex_nilc rfl rfl) ?_
   refine nm rfl ?_;refine lin_br2 (i:=7) (j:=9) (by decide +kernel) (fun te=>?_) (fun te=>?_)
   ·refine hD.gv (n:=0) (v:=(ptrAt mb 1)) hk rfl rfl rfl (by decide +kernel) nofun (fun τ d=>ex_field (v:=(ptrAt mb 1)) rfl rfl yfa47_1) ?_
    refine nm rfl ?_;refine lin_br2 (i:=8) (j:=9) (by decide +kernel) (fun te=>?_) (fun te=>?_)
    ·refine hD.gv (n:=0) (v:=(.agg #[(.float .f64 v),(.float .f64 u)])) hk rfl rfl rfl (by decide +kernel) nofun (fun τ d=>ex_load rfl rfl (l_30 (bw3.cell 1) (bw3.cell 2))) ?_
     refine nm rfl ?_;refine lin_br1 (i:=9) (by decide +kernel) fun te=>?_;refine hD.gwn (.agg #[(.float .f64 a),(.float .f64 c)]) rfl (fun τ d=>ex_load rfl rfl (l_30 (bw1''.cell 0) (bw1''.cell 1))) ?_;refine lin_br1 (i:=10) (by decide +kernel) fun te=>?_;refine hD.gwn (.bool (!(feq v a&&feq u c))) rfl (fun τ d=>w_neq30 rfl rfl rfl) ?_;refine lin_br1 (i:=11) (by decide +kernel) fun te=>?_;refine hD.pun (.bool (!(feq v a&&feq u c))) (fun w=>pu_pick (t:=false) rfl rfl rfl) ?_;refine lin_over (by decide +kernel) ?_;exact hrest _ rfl rfl rfl
    ·refine hD.gv (n:=0) (v:=(.agg #[(.float .f64 a),(.float .f64 c)])) hk rfl rfl rfl (by decide +kernel) nofun (fun τ d=>ex_load rfl rfl (l_30 (bw1''.cell 0) (bw1''.cell 1))) ?_
     refine nm rfl ?_;refine lin_br1 (i:=8) (by decide +kernel) fun te=>?_;refine hD.gwn (.agg #[(.float .f64 v),(.float .f64 u)]) rfl (fun τ d=>ex_load rfl rfl (l_30 (bw3.cell 1) (bw3.cell 2))) ?_;refine lin_br1 (i:=10) (by decide +kernel) fun te=>?_;refine hD.gwn (.bool (!(feq v a&&feq u c))) rfl (fun τ d=>w_neq30 rfl rfl rfl) ?_;refine lin_br1 (i:=11) (by decide +kernel) fun te=>?_;refine hD.pun (.bool (!(feq v a&&feq u c))) (fun w=>pu_pick (t:=false) rfl rfl rfl) ?_;refine lin_over (by decide +kernel) ?_;exact hrest _ rfl rfl rfl
   ·refine hD.gv (n:=0) (v:=(.agg #[(.float .f64 a),(.float .f64 c)])) hk rfl rfl rfl (by decide +kernel) nofun (fun τ d=>ex_load rfl rfl (l_30 (bw1''.cell 0) (bw1''.cell 1))) ?_
    refine nm rfl ?_;refine lin_br1 (i:=7) (by decide +kernel) fun te=>?_;refine hD.gwn (ptrAt mb 1) rfl (fun τ d=>ex_field (v:=(ptrAt mb 1)) rfl rfl yfa47_1) ?_;refine lin_br1 (i:=8) (by decide +kernel) fun te=>?_;refine hD.gwn (.agg #[(.float .f64 v),(.float .f64 u)]) rfl (fun τ d=>ex_load rfl rfl (l_30 (bw3.cell 1) (bw3.cell 2))) ?_;refine lin_br1 (i:=10) (by decide +kernel) fun te=>?_;refine hD.gwn (.bool (!(feq v a&&feq u c))) rfl (fun τ d=>w_neq30 rfl rfl rfl) ?_;refine lin_br1 (i:=11) (by decide +kernel) fun te=>?_;refine hD.pun (.bool (!(feq v a&&feq u c))) (fun w=>pu_pick (t:=false) rfl rfl rfl) ?_;refine lin_over (by decide +kernel) ?_;exact hrest _ rfl rfl rfl
  ·refine hD.gv (n:=0) (v:=(.agg #[(.float .f64 a),(.float .f64 c)])) hk rfl rfl rfl (by decide +kernel) nofun (fun τ d=>ex_load rfl rfl (l_30 (bw1''.cell 0) (bw1''.cell 1))) ?_
   refine nm rfl ?_;refine lin_br1 (i:=6) (by decide +kernel) fun te=>?_;refine hD.gwn (ptr mb) rfl (fun τ d=>ex_nilc rfl rfl) ?_;refine lin_br1 (i:=7) (by decide +kernel) fun te=>?_;refine hD.gwn (ptrAt mb 1) rfl (fun τ d=>ex_field (v:=(ptrAt mb 1)) rfl rfl yfa47_1) ?_;refine lin_br1 (i:=8) (by decide +kernel) fun te=>?_;refine hD.gwn (.agg #[(.float .f64 v),(.float .f64 u)]) rfl (fun τ d=>ex_load rfl rfl (l_30 (bw3.cell 1) (bw3.cell 2))) ?_;refine lin_br1 (i:=10) (by decide +kernel) fun te=>?_;refine hD.gwn (.bool (!(feq v a&&feq u c))) rfl (fun τ d=>w_neq30 rfl rfl rfl) ?_;refine lin_br1 (i:=11) (by decide +kernel) fun te=>?_;refine hD.pun (.bool (!(feq v a&&feq u c))) (fun w=>pu_pick (t:=false) rfl rfl rfl) ?_;refine lin_over (by decide +kernel) ?_;exact hrest _ rfl rfl rfl
 ·refine hD.gv (n:=0) (v:=(.agg #[(.float .f64 a),(.float .f64 c)])) hk rfl rfl rfl (by decide +kernel) nofun (fun τ d=>ex_load rfl rfl (l_30 (bw1''.cell 0) (bw1''.cell 1))) ?_
  refine nm rfl ?_;refine lin_br1 (i:=5) (by decide +kernel) fun te=>?_;refine hD.gwn (ptr mb) rfl (fun τ d=>ex_move rfl rfl) ?_;refine lin_br1 (i:=6) (by decide +kernel) fun te=>?_;refine hD.gwn (ptr mb) rfl (fun τ d=>ex_nilc rfl rfl) ?_;refine lin_br1 (i:=7) (by decide +kernel) fun te=>?_;refine hD.gwn (ptrAt mb 1) rfl (fun τ d=>ex_field (v:=(ptrAt mb 1)) rfl rfl yfa47_1) ?_;refine lin_br1 (i:=8) (by decide +kernel) fun te=>?_;refine hD.gwn (.agg #[(.float .f64 v),(.float .f64 u)]) rfl (fun τ d=>ex_load rfl rfl (l_30 (bw3.cell 1) (bw3.cell 2))) ?_;refine lin_br1 (i:=10) (by decide +kernel) fun te=>?_;refine hD.gwn (.bool (!(feq v a&&feq u c))) rfl (fun τ d=>w_neq30 rfl rfl rfl) ?_;refine lin_br1 (i:=11) (by decide +kernel) fun te=>?_;refine hD.pun (.bool (!(feq v a&&feq u c))) (fun w=>pu_pick (t:=false) rfl rfl rfl) ?_;refine lin_over (by decide +kernel) ?_;exact hrest _ rfl rfl rfl
end Go.Proofs.Ytfbjopkiicmiiaa.Lift
namespace Go.Proofs.Ytfbjopkiicmiiaa.Z
open Go Go.Conc Go.ChangeShapes Go.WideShapes Go.ChangeAt Go.RowKit Go.Deep Lift
theorem laidOut:laidOutB Try.prog=true:=by kernel_rfl
theorem bulk_pos {H:Type}(d:DataW H):0<Rows.uptoBulk d:=by
 cases d<;>try (simp[Rows.uptoBulk];done)
 rename_i l;cases l<;>simp[Rows.uptoBulk]
theorem bulk_len {H:Type}:∀ l:List (DataW H),l.length≤Rows.uptoBulkAll l
 | []=>Nat.zero_le _
 | d::l=>by
  have ih:=bulk_len l;have hd:=bulk_pos d;rw[Rows.uptoBulkAll,List.length_cons];omega
theorem bulk_of {H:Type}{l:List (DataW H)}(hk:Rows.uptoSmall H l=true):Rows.uptoBulkAll l≤1048576:=by
 unfold Rows.uptoSmall at hk;exact of_decide_eq_true hk
theorem cell_spot {w:World}{a:Addr}{v:Value}(h:w.cell? a=some v):a=⟨a.block,a.off,none⟩:=by
 obtain⟨b,o,s⟩:=a;unfold World.cell? at h;split at h
 ·cases s with
  | none=>rfl
  | some x=>simp at h
 ·cases h
theorem cell_row {w:World}{a:Addr}{v:Value}(h:w.cell? a=some v):∃ c t fz,w.heap[a.block]?=some (.cells c t fz):=by
 unfold World.cell? at h;cases e:w.heap[a.block]? with
 | none=>simp[e] at h
 | some x =>
  cases x<;>simp[e] at h
  exact⟨_,_,_,rfl⟩
theorem add_at (b o j:Nat):(⟨b,o,none⟩:Addr).add j=⟨b,o+j,none⟩:=by unfold Addr.add;split<;>simp_all
theorem spot_of {w:World}{a:Addr}{n:Nat}{cs:List Value}(h:w.cells? 0 (a.add (0*n)) n=some cs)(hn:0<n):a.spot=none:=by
 obtain⟨_,hl,hat⟩:=World.cells?_some h;have h0:=hat 0 hn;rw[Nat.zero_mul,show ∀ a:Addr,a.add 0=a from fun a=>if_pos rfl,show ∀ a:Addr,a.add 0=a from fun a=>if_pos rfl,List.getElem?_eq_getElem (by omega)] at h0;exact congrArg Addr.spot (cell_spot h0)
theorem list_of {α:Type}{p:Nat→α→Prop}:∀ n,(∀ i,i<n→∃ x,p i x)→∃ l:List α,l.length=n∧∀ i x,l[i]?=some x→p i x
 | 0,_=>⟨[],rfl,fun i x h=>by simp at h⟩
 | n+1,h=>by
  obtain⟨l,hl,hp⟩:=list_of n (fun i hi=>h i (by omega));obtain⟨x,hx⟩:=h n (by omega);refine⟨l++[x],by simp[hl],fun i y hy=>?_⟩;by_cases hi:i<n
  ·rw[List.getElem?_append_left (by omega)] at hy;exact hp i y hy
  ·rw[List.getElem?_append_right (by omega),hl] at hy
   by_cases he:i=n
   ·subst he;simp at hy;subst hy;exact hx
   ·rw[List.getElem?_eq_none (by simp;omega)] at hy;cases hy
def SlOk (w:World)(g:Option Addr)(n cap:Nat):Prop:=∀ a,g=some a→(∃ c t fz,w.heap[a.block]?=some (.cells c t fz))∨n=0∧cap=0
theorem cells5:Try.prog.cellsOf 5=1:=by kernel_rfl
theorem cells3:Try.prog.cellsOf 3=1:=by kernel_rfl
def IntsIn (w:World)(vp:Value)(xs:List Int):Prop:=∃ g c,vp=.slice g xs.length c∧SlOk w g xs.length c∧∀ (j:Nat) (u:Int),xs[j]?=some u→∃ b o,g=some ⟨b,o,none⟩∧w.cell? ⟨b,o+j,none⟩=some (.int .i64 u)
section
variable {H:Type}{enc:TypeId × Value→H}{w:World}{held:Bool}{fuel:Nat}{cs:List Value}{x:DataW H × List MemPlace}
structure BytesIn (w:World)(vp:Value)(xs:List Nat):Prop where
 sl:∃ g c,vp=.slice g xs.length c∧xs.length≤c∧c≤maxLen∧SlOk w g xs.length c∧∀ (j u:Nat),xs[j]?=some u→∃ b o,g=some ⟨b,o,none⟩∧w.cell? ⟨b,o+j,none⟩=some (.int .u8 u)
 byte:∀ u∈xs,u<256
theorem open_bytes (h:DataW.trod enc Try.prog w 0 (fun _=>true) held fuel 56 cs=some x) :
  ∃ (vp:Value) (xs:List Nat),cs=[vp]∧BytesIn w vp xs∧xs.length+1≤Rows.uptoBulk x.1:=by
 rcases open_slice Try.underlying56 h with⟨rfl,rfl⟩ | ⟨a,len,cap,m,n,D,Pl,rfl,_,hle,hmx,hm,rfl,hi⟩
 ·exact⟨_,[],rfl,⟨⟨none,0,rfl,Nat.le_refl _,Nat.zero_le _,fun a ha=>by (cases ha),fun j u hj=>by simp at hj⟩,fun u hu=>by simp at hu⟩,by simp[Rows.uptoBulk]⟩
 ·rw[if_pos rfl] at hm
  subst hm;rw[cells5] at hi;have hcell:∀ i,i<m→∃ u:Nat,a.spot=none∧w.cell? ⟨a.block,a.off+i,none⟩=some (.int .u8 u)∧u<256:=by
   intro i hlt;obtain⟨cs',hc,hd⟩:=hi i hlt;obtain⟨_,hcl,hat⟩:=World.cells?_some hc;obtain⟨v,rfl,_,hw⟩:=DataW.trod_int Try.underlying5 hd;have h0:=hat 0 (by omega);have hs:a.spot=none:=spot_of (hi 0 (by omega)).choose_spec.1 (by omega);obtain⟨b,o,s⟩:=a;simp only at hs;subst hs;rw[add_at,add_at,Nat.mul_one,Nat.add_zero] at h0;have hr:0≤v∧v<256:=by
    simp[Lit.wf,IntKind.min,IntKind.max,IntKind.bits,IntKind.signed] at hw;omega
   refine⟨v.toNat,rfl,?_,by omega⟩;rw[Int.toNat_of_nonneg hr.1];exact h0
  obtain⟨xs,hl,hxs⟩:=list_of (α:=Nat) len fun i hlt=>hcell i (by omega);refine⟨_,xs,rfl,⟨⟨some a,m,by rw[hl],by omega,hmx,fun a' ha=>?_,fun j u hj=>?_⟩,fun u hu=>?_⟩,?_⟩
  ·cases ha
   by_cases h0:m=0
   ·exact .inr ⟨by omega,h0⟩
   ·obtain⟨_,_,h2,_⟩:=hcell 0 (by omega)
    exact .inl (cell_row (a:=⟨a.block,_,none⟩) h2)
  ·obtain⟨h1,h2,_⟩:=hxs j u hj
   obtain⟨b,o,s⟩:=a;simp only at h1;subst h1;exact⟨b,o,rfl,h2⟩
  ·obtain⟨j,hj⟩:=List.getElem?_of_mem hu
   exact(hxs j u hj).2.2
  ·have:=bulk_len ((List.range len).map D)
   show _+1≤Rows.uptoBulk (.slice _ _);simp only[Rows.uptoBulk];simp only[List.length_map,List.length_range] at this;omega
theorem open_ints (h:DataW.trod enc Try.prog w 0 (fun _=>true) held fuel 99 cs=some x):∃ (vp:Value) (xs:List Int),cs=[vp]∧IntsIn w vp xs:=by
 rcases open_slice Try.underlying99 h with⟨rfl,rfl⟩ | ⟨a,len,cap,m,n,D,Pl,rfl,_,hle,hmx,hm,rfl,hi⟩
 ·exact⟨_,[],rfl,none,0,rfl,fun a ha=>(by cases ha),fun j u hj=>by simp at hj⟩
 ·rw[if_pos rfl] at hm
  subst hm;rw[cells3] at hi;have hcell:∀ i,i<m→∃ u:Int,a.spot=none∧w.cell? ⟨a.block,a.off+i,none⟩=some (.int .i64 u):=by
   intro i hlt;obtain⟨cs',hc,hd⟩:=hi i hlt;obtain⟨_,hcl,hat⟩:=World.cells?_some hc;obtain⟨v,rfl,_,hw⟩:=DataW.trod_int Try.underlying3 hd;have h0:=hat 0 (by omega);have hs:a.spot=none:=spot_of (hi 0 (by omega)).choose_spec.1 (by omega);obtain⟨b,o,s⟩:=a;simp only at hs;subst hs;rw[add_at,add_at,Nat.mul_one,Nat.add_zero] at h0;exact⟨v,rfl,h0⟩
  obtain⟨xs,hl,hxs⟩:=list_of (α:=Int) len fun i hlt=>hcell i (by omega);refine⟨_,xs,rfl,some a,m,by rw[hl],fun a' ha=>?_,fun j u hj=>?_⟩
  ·cases ha
   by_cases h0:m=0
   ·exact .inr ⟨by omega,h0⟩
   ·obtain⟨_,_,h2⟩:=hcell 0 (by omega)
    exact .inl (cell_row (a:=⟨a.block,_,none⟩) h2)
  ·obtain⟨h1,h2⟩:=hxs j u hj
   obtain⟨b,o,s⟩:=a;simp only at h1;subst h1;exact⟨b,o,rfl,h2⟩
end
theorem post_true3 {H:Type}{enc:TypeId × Value→H}{f:Func}{s:ChangeSpec}{t0 t1 t2:TypeId}{W W':World}{v0 v1 v2:Value}{d0 d1 d2:DataW H}{p0 p1 p2:List MemPlace}(hs:s.vars=[])(hp:f.params.toList=[t0,t1,t2])(hr:f.resultTypes=#[4])
  (hd:∀ a b c,s.fn H [a,b,c]={results:=[.lit (.bool true)],args:=[a,b,c]}) (ht0:Try.prog.readableRec t0=true) (hrow0:t0<Try.prog.types.size) (ht1:Try.prog.readableRec t1=true) (hrow1:t1<Try.prog.types.size) (ht2:Try.prog.readableRec t2=true) (hrow2:t2<Try.prog.types.size)
  (hW:DataW.Whole enc Try.prog f.params.toList s.vars false W [v0,v1,v2] [d0,d1,d2] [] (p0++(p1++p2))) (h0:DataW.Trod enc Try.prog W 0 (fun _=>true) true t0 v0 d0 p0) (h1:DataW.Trod enc Try.prog W 0 (fun _=>true) true t1 v1 d1 p1) (h2:DataW.Trod enc Try.prog W 0 (fun _=>true) true t2 v2 d2 p2) (hb:Below W.heap.size W W') :
  s.post enc Try.prog f false true false false W #[v0,v1,v2] (.bool true) W':=by
 have hlt:=fun x hx=>hW.lt x hx;refine⟨[d0,d1,d2],[],p0++(p1++p2),[],p0++(p1++p2),[],hW,?_,?_,?_,hb.frame _,fun h=>by cases h⟩
 ·rw[hr,List.append_nil,hd]
  exact trodAll_mk1 (shut_bool Try.underlying4 _)
 ·rw[hp,List.append_nil,hd]
  exact trodAll_mk3 (Below.trod laidOut ht0 hrow0 h0 hb fun x hx=>hlt x (by simp[hx])) (Below.trod laidOut ht1 hrow1 h1 hb fun x hx=>hlt x (by simp[hx])) (Below.trod laidOut ht2 hrow2 h2 hb fun x hx=>hlt x (by simp[hx]))
 ·rw[hs,List.append_nil,hd]
  rfl
theorem post_true {H:Type}{enc:TypeId × Value→H}{f:Func}{s:ChangeSpec}{t:TypeId}{W W':World}{v0:Value}{d0:DataW H}{before:List MemPlace}(hs:s.vars=[])(hp:f.params.toList=[t])(hr:f.resultTypes=#[4])
  (hd:∀ d,s.fn H [d]={results:=[.lit (.bool true)],args:=[d]}) (ht:Try.prog.readableRec t=true) (hrow:t<Try.prog.types.size)
  (hW:DataW.Whole enc Try.prog f.params.toList s.vars false W [v0] [d0] [] before) (h0:DataW.Trod enc Try.prog W 0 (fun _=>true) true t v0 d0 before) (hb:Below W.heap.size W W') :
  s.post enc Try.prog f false true false false W #[v0] (.bool true) W':=by
 refine⟨[d0],[],before,[],before,[],hW,?_,?_,?_,hb.frame _,fun h=>by cases h⟩
 ·rw[hr,List.append_nil,hd]
  exact trodAll_mk1 (shut_bool Try.underlying4 _)
 ·rw[hp,List.append_nil,hd]
  exact trodAll_mk1 (Below.trod laidOut ht hrow h0 hb fun x hx=>hW.lt x hx)
 ·rw[hs,List.append_nil,hd]
  rfl
end Go.Proofs.Ytfbjopkiicmiiaa.Z
namespace Go.Proofs.Ytfbjopkiicmiiaa.Lift
open Go Go.Conc Go.RowKit Pl
open Z (SlOk BytesIn IntsIn)
theorem slOk_rel {W:World}{g:Option Addr}{n c:Nat}(h:SlOk W g n c):VRel (seenR W) (.slice g n c) (.slice g n c):=by
 cases g with
 | none=>exact .flat rfl
 | some a =>
  rcases h a rfl with e | ⟨rfl,rfl⟩
  ·obtain⟨b,o,s⟩:=a
   exact .slice (seenR_in e)
  ·exact .void
theorem start_idle (W:World):Idle (SC.start W):=⟨fun _=>rfl,fun _=>rfl,Nat.one_pos⟩
theorem bytes_rel {W:World}{vp:Value}{picks:List Nat}(B:BytesIn W vp picks):VRel (seenR W) vp vp:=by
 obtain⟨g,c,rfl,_,_,h,_⟩:=B.sl;exact slOk_rel h
theorem some_heap:Try.prog.globals.size<(begin Try.prog (fun _ _=>0) default).world.heap.size:=of_decide_eq_true (by kernel_rfl)
theorem own:ownKnob Try.prog.godebug=none:=by kernel_rfl
def Rd {α:Type}(f:α→Value)(w:World)(v:Value)(xs:List α):Prop :=
 ∃ g c,v=.slice g xs.length c∧(xs≠[]→∃ b o,g=some ⟨b,o,none⟩∧∀ (j:Nat) (u:α),xs[j]?=some u→w.cell? ⟨b,o+j,none⟩=some (f u))
theorem bytes_seen {W:World}{vp:Value}{picks:List Nat}(B:BytesIn W vp picks)(h0:0<W.heap.size):∃ pb,pb<(seenW W).heap.size∧Bytes pb (seenW W) vp picks:=by
 obtain⟨g,c,rfl,h1,h2,_,hc⟩:=B.sl;by_cases hne:picks=[]
 ·subst hne
  exact⟨0,by rw[seenW_size];exact h0,g,c,rfl,h1,h2,B.byte,fun h=>absurd rfl h⟩
 ·obtain⟨u,l,e⟩:=List.exists_cons_of_ne_nil hne
  obtain⟨b,o,hg,h⟩:=hc 0 u (by rw[e];rfl);obtain⟨_,_,_,hh⟩:=cell_isC h;refine⟨b,by rw[seenW_size];exact(aq' hh).1,g,c,rfl,h1,h2,B.byte,fun _=>⟨o,hg,fun j u hj=>?_⟩⟩;obtain⟨b',o',hg',h'⟩:=hc j u hj;rw[hg] at hg';cases hg';exact seenW_cell h' (.flat rfl)
theorem ints_seen {W:World}{vp:Value}{xs:List Int}(B:IntsIn W vp xs):Rd (fun x:Int=>Value.int .i64 x) (seenW W) vp xs:=by
 obtain⟨g,c,rfl,_,hc⟩:=B;refine⟨g,c,rfl,fun hne=>?_⟩;obtain⟨u,l,e⟩:=List.exists_cons_of_ne_nil hne;obtain⟨b,o,hg,h⟩:=hc 0 u (by rw[e];rfl);refine⟨b,o,hg,fun j u hj=>?_⟩;obtain⟨b',o',hg',h'⟩:=hc j u hj;rw[hg] at hg';cases hg';exact seenW_cell h' (.flat rfl)
theorem ints_rel {W:World}{vp:Value}{xs:List Int}(B:IntsIn W vp xs):VRel (seenR W) vp vp:=by
 obtain⟨g,c,rfl,h,_⟩:=B;exact slOk_rel h
theorem leaving_plain {H:Type}{enc:TypeId × Value→H}{a:Assume}{C:Checked}{os:Os}{f:FuncId}{fn:Func}{s:ChangeSpec}{conds:List PathCond}{apart fresh handsOn again:Bool}
  (own:ownKnob C.prog.godebug=none) (started:os.Started) (hfn:C.prog.funcs[f]?=some fn) (hne:C.prog.globals.size<(begin C.prog (fun _ _=>0) default).world.heap.size)
  (witness:∃ (w:World) (tape:Tape) (i:Input),w.os=os∧(w.forCall tape i).Shaped C.prog∧i.vars=[]∧Input.okWide C.prog (w.forCall tape i) .any w.heap.size f i ∧
   s.pre6 enc C.prog fn conds apart (w.forCall tape i).memory i.args∧a.holds C.prog (lone (Frame.enter C.prog f i.args .normal) [] (w.forCall tape i)))
  (runs:∀ (W:World) (base:Nat) (args:Array Value) (ds gs:List (DataW H)) (before:List MemPlace),
   (∀ (j:Nat) t v,fn.params[j]?=some t→args[j]?=some v→Value.okWide C.prog W .any base t v) →
   DataW.Whole enc C.prog fn.params.toList s.vars apart W args.toList ds gs before→0<W.heap.size →
   ∃ M last o w' t',runNT C.prog (M+1) (solo (G (Frame.enter C.prog f args .normal) []) W) #[]=(.ended o w',t')∧runN C.prog M (solo (G (Frame.enter C.prog f args .normal) []) W)=.next last ∧
    step C.prog last=.ended o w'∧Go.Conc.Good C.prog (fun v W'=>s.post enc C.prog fn apart fresh handsOn again W args v W') last o w' t') :
  ReturnsInLeavingWide a C os f .any (s.pre6 enc C.prog fn conds apart) (s.post enc C.prog fn apart fresh handsOn again):=by
 refine returnsInLeavingWide_of_good own started witness ?_;intro w tape i _ hsh _ hok hpre _;have h0:0<(w.forCall tape i).heap.size:=by
  obtain⟨o,_,ho,_⟩:=hsh.2 _ (Nat.le_refl _) hne;have:=(aq' ho).1;omega
 obtain⟨_,_,_,fn',hfn',_,_,_,_,hval⟩:=hok;have e:fn'=fn:=oj' (hfn'.symm.trans hfn);subst e;obtain⟨⟨ds,gs,before,hw,hc⟩,hz⟩:=hpre;have hw':=DataW.Whole.of_heap (w':=w.forCall tape i) (by rfl) hw;obtain⟨M,last,o,w',t',h1,h2,h3,h4⟩:=runs (w.forCall tape i) w.heap.size i.args ds gs before hval hw' h0;exact⟨M,last,o,w',t',h1,h2,h3,h4.mono fun v hp=>ChangeSpec.post_blind hp⟩
end Go.Proofs.Ytfbjopkiicmiiaa.Lift
namespace Go.Proofs.Ytfbjopkiicmiiaa.Lift
open Go Go.Conc Go.RowKit Pl
def q3:Code:=Try.f3.body.getD .skip
theorem new64_calls (v:Nat)(w:World):Calls Try.prog 5 #[.float .f64 v] w fun e w'=>e=.returned (ptr w.heap.size)∧w'=w.alloc (.cells #[.bool true,.float .f64 v,.int .i64 0] 45):=by
 go_enter Try.func5,Try.ntmps5
 go_wp2
 go_ret
 exact⟨rfl,rfl⟩
theorem newA_calls (v u:Nat)(w:World):Calls Try.prog 6 #[.agg #[.float .f64 v,.float .f64 u]] w fun e w'=>e=.returned (ptr (w.heap.size+1))∧w'=(w.alloc (.cells #[.float .f64 v,.float .f64 u] 30)).alloc (.cells #[.bool true,.float .f64 v,.float .f64 u,.int .i64 0] 47):=by
 go_enter Try.func6,Try.ntmps6
 go_wp2
 go_ret
 exact⟨by simp,rfl⟩
theorem one_eq:feq 4607182418800017408 4607182418800017408=true:=by decide +kernel
theorem Kp.sub {F G:List Nat}{w w':World}(h:Kp F w w')(hs:∀ b∈F,b∈G):Kp G w w':=⟨h.size,fun b hb hn=>h.block b hb fun hm=>hn (hs b hm)⟩
theorem alike_self (v:Nat)(w:World):Calls Try.prog 7 #[.float .f64 v,.float .f64 v] w fun e w'=>e=.returned (.bool true)∧w'=w:=by
 have hb:=run_bits;by_cases h:FloatKind.f64.format.order v v=some Ordering.eq
 ·go_enter Try.func7,Try.ntmps7
  go_wp2_with fail
  all_goals first | contradiction | (go_ret;exact⟨by simp[h],rfl⟩)
 ·go_enter Try.func7,Try.ntmps7
  go_wp2_with fail
  all_goals first | contradiction | (go_ret;exact⟨by simp[h],rfl⟩)
theorem new64_cc {v:Nat}{w:World}:CCn 5 #[.float .f64 v] w (fun u w'=>∃ b,u=ptr b∧w.heap.size≤b∧Kp [] w w'∧Blk w' b [.bool true,.float .f64 v,.int .i64 0] 45):=by
 intro m K hK cl cs hcm h;refine hK.call fits shut (f:=5) rfl (R:=fun u w'=>∃ b,u=ptr b∧w.heap.size≤b∧Kp [] w w'∧Blk w' b [.bool true,.float .f64 v,.int .i64 0] 45) (fun u w' τ d ⟨b,h1,h2,h3,h4⟩=>⟨b,h1,h2,⟨h3.size,h3.block⟩,h4⟩) (fun τ d=>(new64_calls v (re w τ d)).mono fun e w' ⟨h1,h2⟩=>⟨_,h1,w.heap.size,rfl,Nat.le_refl _,?_,?_⟩) ?_
 ·subst h2
  have:=Kp.alloc [] (re w τ d) (.cells #[.bool true,.float .f64 v,.int .i64 0] 45);exact⟨this.size,this.block⟩
 ·subst h2
  exact Blk.new (re w τ d) _ _
 ·intro u w' hR
  exact h u w' hR
theorem newA_cc {v u:Nat}{w:World}:CCn 6 #[.agg #[.float .f64 v,.float .f64 u]] w (fun r w'=>∃ b,r=ptr b∧w.heap.size≤b∧Kp [] w w'∧Blk w' b [.bool true,.float .f64 v,.float .f64 u,.int .i64 0] 47):=by
 intro m K hK cl cs hcm h;refine hK.call fits shut (f:=6) rfl (R:=fun r w'=>∃ b,r=ptr b∧w.heap.size≤b∧Kp [] w w'∧Blk w' b [.bool true,.float .f64 v,.float .f64 u,.int .i64 0] 47) (fun r w' τ d ⟨b,h1,h2,h3,h4⟩=>⟨b,h1,h2,⟨h3.size,h3.block⟩,h4⟩) (fun τ d=>(newA_calls v u (re w τ d)).mono fun e w' ⟨h1,h2⟩=>⟨_,h1,w.heap.size+1,rfl,Nat.le_succ _,?_,?_⟩) ?_
 ·subst h2
  have k1:=Kp.alloc [] (re w τ d) (.cells #[.float .f64 v,.float .f64 u] 30);have k2:=Kp.alloc [] ((re w τ d).alloc (.cells #[.float .f64 v,.float .f64 u] 30)) (.cells #[.bool true,.float .f64 v,.float .f64 u,.int .i64 0] 47);have:=k1.trans k2;exact⟨this.size,this.block⟩
 ·subst h2
  have:=Blk.new ((re w τ d).alloc (.cells #[.float .f64 v,.float .f64 u] 30)) [.bool true,.float .f64 v,.float .f64 u,.int .i64 0] 47;rw[wz'] at this;exact this
 ·intro r w' hR
  exact h r w' hR
theorem next_big (j:Nat)(h:j+1<9223372036854775808):Value.int .i64 (wrap64 ((j:Int)+1))=.int .i64 ((j+1:Nat):Int):=by
 rw[IntWalk.wrap64_in _ (by omega)];rfl
theorem ix23 {n c b o j:Nat}(hj:j<n):∀ w,(Instr.indexAt 23 (.slice (some ⟨b,o,none⟩) n c) (.int .i64 j)).run Try.prog w=.ok (.pointer (some ⟨b,o+j*3,none⟩)) w:=fun w=>by
 have h0:(0:Int)≤j:=by omega
 have h1:(j:Int)<n:=by omega
 simp[go_sem,Try.underlying23,Try.runUnderlying23,Try.sizeOf32,Try.sizeOf3,Try.sizeOf22,h1,Addr.add]
theorem fa32t_0 {b o:Nat}:∀ w,(Instr.fieldAt 32 (.pointer (some ⟨b,o,none⟩)) 0).run Try.prog w=.ok (.pointer (some ⟨b,o,none⟩)) w:=fun w=>by
 simp[go_sem,Try.underlying32,Try.runUnderlying32,Try.sizeOf32,Try.isAgg32,Try.sizeOf3,Try.sizeOf22]
theorem fa32t_1 {b o:Nat}:∀ w,(Instr.fieldAt 32 (.pointer (some ⟨b,o,none⟩)) 1).run Try.prog w=.ok (.pointer (some ⟨b,o+1,none⟩)) w:=fun w=>by
 simp[go_sem,Try.underlying32,Try.runUnderlying32,Try.sizeOf32,Try.isAgg32,Try.sizeOf3,Try.sizeOf22]
theorem fa32t_2 {b o:Nat}:∀ w,(Instr.fieldAt 32 (.pointer (some ⟨b,o,none⟩)) 2).run Try.prog w=.ok (.pointer (some ⟨b,o+2,none⟩)) w:=fun w=>by
 simp[go_sem,Try.underlying32,Try.runUnderlying32,Try.sizeOf32,Try.isAgg32,Try.sizeOf3,Try.sizeOf22]
theorem lt_3 {w:World}{a:Addr}{v:Value}(hc:w.cell? a=some v):(Instr.loadAt 3 (.pointer (some a))).run Try.prog w=.ok v w:=by simp[go_sem,hc,Try.underlying3,Try.runUnderlying3,Try.sizeOf3,Try.isAgg3]
theorem lt_22 {w:World}{a:Addr}{v:Value}(hc:w.cell? a=some v):(Instr.loadAt 22 (.pointer (some a))).run Try.prog w=.ok v w:=by simp[go_sem,hc,Try.underlying22,Try.runUnderlying22,Try.sizeOf22,Try.isAgg22]
def TurnsAt (lo:Nat)(w:World)(gt:Option Addr)(turns:List (Int × Int × Int)):Prop:=∀ (j:Nat) (k a b:Int),turns[j]?=some (k,a,b)→∃ tb to,gt=some ⟨tb,to,none⟩∧tb<lo∧w.cell? ⟨tb,to+j*3,none⟩=some (.int .i64 k)∧w.cell? ⟨tb,to+j*3+1,none⟩=some (.int .u64 a)∧w.cell? ⟨tb,to+j*3+2,none⟩=some (.int .u64 b)
theorem cell_block {w:World}{b o:Nat}{v:Value}(hc:w.cell? ⟨b,o,none⟩=some v):b<w.heap.size:=by
 unfold World.cell? at hc;cases e:w.heap[b]? with
 | none=>rw[e] at hc;simp at hc
 | some x=>exact(aq' e).1
theorem TurnsAt.off {lo:Nat}{w w':World}{gt:Option Addr}{turns:List (Int × Int × Int)}{F:List Nat}(h:TurnsAt lo w gt turns)(hF:∀ b∈F,lo≤b)(k:Kp F w w'):TurnsAt lo w' gt turns:=fun j a b c hj=>by
 obtain⟨tb,to,h1,h2,q0,q1,q2⟩:=h j a b c hj;have e:=k.block tb (cell_block q0) fun hm=>by have:=hF tb hm;omega
 exact⟨tb,to,h1,h2,(cell_same e).trans q0,(cell_same e).trans q1,(cell_same e).trans q2⟩
theorem TurnsAt.kp {lo:Nat}{w w':World}{gt:Option Addr}{turns:List (Int × Int × Int)}(h:TurnsAt lo w gt turns)(k:Kp [] w w'):TurnsAt lo w' gt turns:=h.off (fun b hb=>by cases hb) k
theorem TurnsAt.kp2 {lo cb pb:Nat}{w w':World}{gt:Option Addr}{turns:List (Int × Int × Int)}(h:TurnsAt lo w gt turns)(h1:lo≤cb)(h2:lo≤pb)(k:Kp [cb,pb] w w'):TurnsAt lo w' gt turns:=h.off (fun b hb=>by
 rcases List.mem_cons.1 hb with rfl | hb
 ·exact h1
 ·rw[List.mem_singleton.1 hb];exact h2) k
structure FlM (lo cb pb v:Nat)(n0 n1:Int)(w:World):Prop where
 c:Blk w cb [.bool true,.float .f64 v,.int .i64 n0] 45
 p:Blk w pb [.bool true,.float .f64 v,.float .f64 4607182418800017408,.int .i64 n1] 47
 lc:lo≤cb
 lp:lo≤pb
theorem zw_lss3 {a:Act}{oo:Oper}{w:World}{x y:Operand}{i j:Int}(h:oo.op=.binOp .lss 3 x y 3)(hx:a.eval x=.int .i64 i)(hy:a.eval y=.int .i64 j):(execOp a.eval oo).run Try.prog w=.ok (.value (.bool (decide (i<j)))) w:=by
 unfold execOp;rw[h];simp only[hx,hy];exact run_vv (by simp[go_sem,Try.underlying3,Try.runUnderlying3])
theorem zw_eql3 {a:Act}{oo:Oper}{w:World}{x y:Operand}{i j:Int}(h:oo.op=.binOp .eql 3 x y 3)(hx:a.eval x=.int .i64 i)(hy:a.eval y=.int .i64 j):(execOp a.eval oo).run Try.prog w=.ok (.value (.bool (decide (i=j)))) w:=by
 unfold execOp;rw[h];simp only[hx,hy];exact run_vv (by simp[go_sem,Try.underlying3,Try.runUnderlying3]<;>rfl)
theorem zw_add3 {a:Act}{oo:Oper}{w:World}{x y:Operand}{i j:Int}(h:oo.op=.binOp .add 3 x y 3)(hx:a.eval x=.int .i64 i)(hy:a.eval y=.int .i64 j):(execOp a.eval oo).run Try.prog w=.ok (.value (.int .i64 (wrap64 (i+j)))) w:=by
 unfold execOp;rw[h];simp only[hx,hy];exact run_vv (by simp[go_sem,Try.underlying3,Try.runUnderlying3,IntKind.wrap_i64,wrap64])
theorem zal_30:∀ w:World,(Instr.alloc 30 true (.tuple #[])).run Try.prog w=.ok (ptr w.heap.size) (w.alloc (.cells #[(.float .f64 0),(.float .f64 0)] 30)):=fun w=>by
 simp[go_sem,Try.underlying30,Try.runUnderlying30,Try.sizeOf30,Try.isAgg30,Try.zeroValue30]
theorem zl_24 {w:World}{a:Addr}{v:Value}(hc:w.cell? a=some v):(Instr.loadAt 24 (.pointer (some a))).run Try.prog w=.ok v w:=by simp[go_sem,hc,Try.underlying24,Try.runUnderlying24,Try.sizeOf24,Try.isAgg24]
theorem fl_loop {m:Bool}{K:Goroutine→World→Prop}(hK:Cl Try.prog m K){cs:List Frame}{lo cb pb n ct:Nat}{gt:Option Addr}{turns:List (Int × Int × Int)}(hn:turns.length=n)(hn40:n<9223372036854775808)(hend:∀ v n0 n1 w x,FlM lo cb pb v n0 n1 w→x 5=.float .f64 v→x 6=ptr cb→x 7=ptr pb→K (gs ((base 3).at ⟨fg 133 x,[]⟩ [.code (sL (sR (sR (sR (sR (sR q3)))))),.code (sR (sR (sR (sR (sR (sR q3))))))]) cs) w):∀ (d:Nat) {j v:Nat} {n0 n1:Int} {w:World} {x:Nat→Value},n=j+d→FlM lo cb pb v n0 n1 w→TurnsAt lo w gt turns→x 1=.slice gt n ct→x 5=.float .f64 v→x 6=ptr cb→x 7=ptr pb→x 8=.int .i64 (j:Int)→K (gs ((base 3).at ⟨fg 133 x,[]⟩ [.code (sB (sB (sR (sL (sR (sR (sR (sR q3)))))))),.inLoop (sB (sB (sR (sL (sR (sR (sR (sR q3)))))))),.inBlock 0,.code (sR (sR (sR (sR (sR q3)))))]) cs) w
 | d,j,v,n0,n1,w,x,hd,hM,hs,h1,h5,h6,h7,h8=>by
  have hk:(base 3).kind≠.early:=nofun;have hD:=hK.det;have kk:Kp [cb,pb] w w:=⟨Nat.le_refl _,fun _ _ _=>rfl⟩;refine hD.s0 (hD.sr (hD.mxn (.int .i64 (j:Int)) rfl h8 ?_));refine hD.mxn (.slice gt n ct) rfl h1 ?_;refine hD.pure (v:=(.int .i64 (n:Int))) (n:=0) hk rfl ⟨rfl,rfl,rfl,(by decide +kernel),nofun⟩ (fun w=>pu_len rfl rfl rfl) ?_;refine nm rfl ?_;refine hD.pun (.bool (decide ((j:Int)<(n:Int)))) (fun w=>zw_lss3 rfl rfl rfl) ?_;refine hD.e0 ?_;by_cases hj:j<n
  ·obtain⟨d',rfl⟩:∃ d',d=d'+1:=⟨d-1,by omega⟩
   obtain⟨z,hz⟩:∃ z,turns[j]?=some z:=⟨_,List.getElem?_eq_getElem (by omega)⟩;obtain⟨k,a,b⟩:=z;obtain⟨tb,to,hgt,htl,q0,q1,q2⟩:=hs j k a b hz;subst hgt;obtain⟨a0,ha0⟩:∃ x,x=Int.toNat a:=⟨_,rfl⟩;obtain⟨b0,hb0⟩:∃ x,x=Int.toNat b:=⟨_,rfl⟩;refine hD.cond (n:=0) true (show Value.bool (decide ((j:Int)<(n:Int)))=_ by rw[decide_eq_true (by omega)]) rfl ?_;refine hD.k0 (hD.s0 (hD.block (n:=0) ?_));refine hD.sr (hD.mxn (.slice (some ⟨tb,to,none⟩) n ct) rfl h1 ?_);refine hD.mxn (.int .i64 (j:Int)) rfl h8 ?_;refine hD.ixn (.pointer (some ⟨tb,to+j*3,none⟩)) (ix23 hj) ?_;refine hD.fdn (.pointer (some ⟨tb,to+j*3+1,none⟩)) fa32t_1 ?_;refine hD.ldn (.int .u64 a) (fun τ d=>lt_22 q1) ?_;refine hD.pun (.float .f64 a0) (fun w=>(w_from rfl rfl).trans (by rw[← ha0])) ?_;refine hD.asn (.float .f64 a0) ?_;refine hD.z0 (hD.mxn (.slice (some ⟨tb,to,none⟩) n ct) rfl h1 ?_);refine hD.mxn (.int .i64 (j:Int)) rfl h8 ?_;refine hD.ixn (.pointer (some ⟨tb,to+j*3,none⟩)) (ix23 hj) ?_;refine hD.fdn (.pointer (some ⟨tb,to+j*3+2,none⟩)) fa32t_2 ?_;refine hD.ldn (.int .u64 b) (fun τ d=>lt_22 q2) ?_;refine hD.pun (.float .f64 b0) (fun w=>(w_from rfl rfl).trans (by rw[← hb0])) ?_;refine hD.asn (.float .f64 b0) ?_;refine hD.z0 (hD.mxn (.slice (some ⟨tb,to,none⟩) n ct) rfl h1 ?_);refine hD.mxn (.int .i64 (j:Int)) rfl h8 ?_;refine hD.ixn (.pointer (some ⟨tb,to+j*3,none⟩)) (ix23 hj) ?_;refine hD.fdn (.pointer (some ⟨tb,to+j*3,none⟩)) fa32t_0 ?_;refine hD.ldn (.int .i64 k) (fun τ d=>lt_3 q0) ?_;refine hD.e0 (hD.block (n:=0) ?_);refine hD.sr (hD.pun (.bool (decide (k=1))) (fun w=>zw_eql3 rfl rfl rfl) ?_);refine hD.asn (.bool (decide (k=1))) ?_;refine hD.e0 ?_;by_cases h1k:k=1
   ·refine hD.cond (n:=0) true (show Value.bool (decide (k=1))=_ by rw[decide_eq_true h1k]) rfl ?_
    refine hD.sr (hD.mxn (ptr cb) rfl h6 ?_);refine hD.cf #[ptr cb,(.pointer none)] hk Try.func8 ?_;refine load64 hM.c hK rfl fun v9 w1 ⟨hv9,kw1,bw1⟩=>?_;subst hv9;have hM.p':=kw1.blk hM.p (by simpa using (cel_ne (Blk.cel hM.p) (Blk.cel hM.c) (by decide)));have kk:=kk.trans (Kp.sub kw1 (by simp));refine finn 48 ?_;refine hD.mxn (.float .f64 v) rfl h5 ?_;refine hD.cf #[(.float .f64 v),(.float .f64 v)] hk Try.func7 ?_;refine hK.callp fits shut (f:=7) rfl (v:=.bool true) (fun τ d=>alike_self _ _) ?_;refine finn 50 ?_;refine hD.pun (.bool false) (fun w=>pu_not (y:=true) rfl rfl) ?_;refine hD.mvn (.bool false) ?_;refine hD.gwn (ptr pb) rfl (fun τ d=>ex_move rfl h7) ?_;refine hD.entg (n:=0) hk rfl rfl (by decide +kernel) nofun (fun τ d=>x_call rfl rfl Try.func9 rfl rfl rfl) ?_;refine loadA hM.p' hK rfl fun v9 w2 ⟨hv9,kw2,bw2⟩=>?_;subst hv9;have bw1':=kw2.blk bw1 (by simpa using (cel_ne (Blk.cel bw1) (Blk.cel hM.p') (by decide)));have kk:=kk.trans (Kp.sub kw2 (by simp));refine finn 54 ?_;refine hD.gwn (.float .f64 v) rfl (fun τ d=>w_ix30_0 rfl rfl rfl) ?_;refine hD.gwn (.float .f64 v) rfl (fun τ d=>ex_move rfl h5) ?_;refine hD.entg (n:=0) hk rfl rfl (by decide +kernel) nofun (fun τ d=>x_call rfl rfl Try.func7 rfl rfl rfl) ?_;refine hK.callp fits shut (f:=7) rfl (v:=.bool true) (fun τ d=>alike_self _ _) ?_;refine finn 57 ?_;refine hD.gwn (.bool false) rfl (fun τ d=>pu_not (y:=true) rfl rfl) ?_;refine hD.pun (.bool false) (fun w=>pu_pick (t:=false) rfl rfl rfl) ?_;refine hD.e0 (hD.cc false (hD.k0 (hD.inBlock (n:=0) ?_)));refine hD.inBlock (n:=0) ?_;refine hD.r0 (hD.mxn (.int .i64 (j:Int)) rfl h8 ?_);refine hD.pun (.int .i64 (wrap64 ((j:Int)+1))) (fun w=>zw_add3 rfl rfl rfl) ?_;refine hD.asn (.int .i64 (wrap64 ((j:Int)+1))) ?_;refine hD.e0 (hD.inLoop (n:=0) ?_);exact fl_loop hK hn hn40 hend d' (by omega) ⟨bw1',bw2,hM.lc,hM.lp⟩ (hs.kp2 hM.lc hM.lp kk) h1 h5 h6 h7 (next_big j (by omega))
   ·refine hD.cond (n:=0) false (show Value.bool (decide (k=1))=_ by rw[decide_eq_false h1k]) rfl ?_
    refine hD.sr (hD.pun (.bool (decide (k=2))) (fun w=>zw_eql3 rfl rfl rfl) ?_);refine hD.asn (.bool (decide (k=2))) ?_;refine hD.e0 ?_;by_cases h2k:k=2
    ·refine hD.cond (n:=0) true (show Value.bool (decide (k=2))=_ by rw[decide_eq_true h2k]) rfl ?_
     refine hD.sr (hD.mxn (ptr cb) rfl h6 ?_);refine hD.mvn (.float .f64 a0) ?_;refine hD.cf #[ptr cb,(.pointer none),(.float .f64 a0)] hk Try.func10 ?_;refine store64 (a:=a0) hM.c hK rfl fun v9 w1 ⟨hv9,kw1,bw1⟩=>?_;subst hv9;have hM.p':=kw1.blk hM.p (by simpa using (cel_ne (Blk.cel hM.p) (Blk.cel hM.c) (by decide)));have kk:=kk.trans (Kp.sub kw1 (by simp));refine finn 64 ?_;refine hD.z0 (hD.mxn (ptr pb) rfl h7 ?_);refine hD.mvn (.float .f64 a0) ?_;refine hD.pun (.agg #[(.float .f64 a0),(.float .f64 4607182418800017408)]) (fun w=>w_b30 rfl rfl rfl) ?_;refine hD.cf #[ptr pb,(.pointer none),.agg #[(.float .f64 a0),(.float .f64 4607182418800017408)]] hk Try.func11 ?_;refine storeA (a:=a0) (c:=4607182418800017408) hM.p' hK rfl fun v9 w2 ⟨hv9,kw2,bw2⟩=>?_;subst hv9;have bw1':=kw2.blk bw1 (by simpa using (cel_ne (Blk.cel bw1) (Blk.cel hM.p') (by decide)));have kk:=kk.trans (Kp.sub kw2 (by simp));refine finn 68 ?_;refine hD.e0 (hD.r0 (hD.mvn (.float .f64 a0) ?_));refine hD.asn (.float .f64 a0) ?_;refine hD.e0 (hD.inBlock (n:=0) ?_);refine hD.inBlock (n:=0) ?_;refine hD.r0 (hD.mxn (.int .i64 (j:Int)) rfl h8 ?_);refine hD.pun (.int .i64 (wrap64 ((j:Int)+1))) (fun w=>zw_add3 rfl rfl rfl) ?_;refine hD.asn (.int .i64 (wrap64 ((j:Int)+1))) ?_;refine hD.e0 (hD.inLoop (n:=0) ?_);exact fl_loop hK hn hn40 hend d' (by omega) ⟨bw1',bw2,hM.lc,hM.lp⟩ (hs.kp2 hM.lc hM.lp kk) h1 rfl h6 h7 (next_big j (by omega))
    ·refine hD.cond (n:=0) false (show Value.bool (decide (k=2))=_ by rw[decide_eq_false h2k]) rfl ?_
     refine hD.sr (hD.pun (.bool (decide (k=3))) (fun w=>zw_eql3 rfl rfl rfl) ?_);refine hD.asn (.bool (decide (k=3))) ?_;refine hD.e0 ?_;by_cases h3k:k=3
     ·refine hD.cond (n:=0) true (show Value.bool (decide (k=3))=_ by rw[decide_eq_true h3k]) rfl ?_
      refine hD.sr (hD.mxn (ptr cb) rfl h6 ?_);refine hD.mvn (.float .f64 a0) ?_;refine hD.cf #[ptr cb,(.pointer none),(.float .f64 a0)] hk Try.func12 ?_;refine swap64 (a:=a0) hM.c hK rfl fun v9 w1 ⟨hv9,kw1,bw1⟩=>?_;subst hv9;have hM.p':=kw1.blk hM.p (by simpa using (cel_ne (Blk.cel hM.p) (Blk.cel hM.c) (by decide)));have kk:=kk.trans (Kp.sub kw1 (by simp));refine finn 74 ?_;refine hD.asn (.float .f64 v) ?_;refine hD.z0 (hD.mxn (ptr pb) rfl h7 ?_);refine hD.mvn (.float .f64 a0) ?_;refine hD.pun (.agg #[(.float .f64 a0),(.float .f64 4607182418800017408)]) (fun w=>w_b30 rfl rfl rfl) ?_;refine hD.cf #[ptr pb,(.pointer none),.agg #[(.float .f64 a0),(.float .f64 4607182418800017408)]] hk Try.func13 ?_;refine swapA (a:=a0) (c:=4607182418800017408) hM.p' hK rfl fun v9 w2 ⟨hv9,kw2,bw2⟩=>?_;subst hv9;have bw1':=kw2.blk bw1 (by simpa using (cel_ne (Blk.cel bw1) (Blk.cel hM.p') (by decide)));have kk:=kk.trans (Kp.sub kw2 (by simp));refine finn 78 ?_;refine hD.alloc (n:=0) (ob:=.cells #[(.float .f64 0),(.float .f64 0)] 30) hk rfl ⟨rfl,rfl,rfl,(by decide +kernel),nofun⟩ zal_30 ?_;obtain⟨w3,hsw3⟩:∃ z9,z9=w2.alloc (.cells #[(.float .f64 0),(.float .f64 0)] 30):=⟨_,rfl⟩;obtain⟨nw3,hnw3⟩:∃ z9,z9=w2.heap.size:=⟨_,rfl⟩;have ksw3:Kp [] w2 w3:=by rw[hsw3];exact Kp.alloc [] _ _
      have bw3:Blk w3 nw3 [(.float .f64 0),(.float .f64 0)] 30:=by rw[hsw3,hnw3];exact Blk.new _ _ _
      rw[← hsw3,← hnw3];clear hsw3;have genw3:w.heap.size≤nw3:=by rw[hnw3];exact kk.size
      have bw1'':=ksw3.blk bw1' (by simp);have bw2':=ksw3.blk bw2 (by simp);have kk:=kk.trans (Kp.sub ksw3 (by simp));refine nm rfl ?_;refine hD.store (n:=0) (u:=(ptr nw3)) (z:=(.agg #[(.float .f64 v),(.float .f64 4607182418800017408)])) hk rfl ⟨rfl,rfl,rfl,rfl,nofun⟩ rfl rfl (fun τ d=>((st30f (w:=re w3 τ d) (bw3.cell 0) (bw3.frozen 0) ((bw3.set 0 _).cell 1) ((bw3.set 0 _).frozen 1)).trans (congrArg (Result.ok ()) (by rw[re_setCell,re_setCell])))) (by rw[World.size_setCell,World.size_setCell];exact Nat.le_refl _) ?_;obtain⟨w4,hsw4⟩:∃ z9,z9=(w3.setCell ⟨nw3,0,none⟩ (.float .f64 v)).setCell ⟨nw3,1,none⟩ (.float .f64 4607182418800017408):=⟨_,rfl⟩;have ksw4:Kp [nw3] w3 w4:=by rw[hsw4];exact(Kp.set w3 nw3 0 _).trans (Kp.set _ nw3 1 _)
      have bw4:Blk w4 nw3 [(.float .f64 v),(.float .f64 4607182418800017408)] 30:=by rw[hsw4];exact(bw3.set 0 _).set 1 _
      rw[← hsw4];clear hsw4;have bw1''':=ksw4.blk bw1'' (by simpa using (cel_ne (Blk.cel bw1'') (Blk.cel bw3) (by decide)));have bw2'':=ksw4.blk bw2' (by simpa using (cel_ne (Blk.cel bw2') (Blk.cel bw3) (by decide)));have kk:=kk.own ksw4 genw3;refine hD.e0 (hD.s0 (hD.sr (hD.mvn (.float .f64 v) ?_)));refine hD.mxn (.float .f64 v) rfl h5 ?_;refine hD.cf #[(.float .f64 v),(.float .f64 v)] hk Try.func7 ?_;refine hK.callp fits shut (f:=7) rfl (v:=.bool true) (fun τ d=>alike_self _ _) ?_;refine finn 81 ?_;refine hD.pun (.bool false) (fun w=>pu_not (y:=true) rfl rfl) ?_;refine hD.mvn (.bool false) ?_;refine hD.gwn (ptr nw3) rfl (fun τ d=>w_ia30_0 rfl rfl rfl) ?_;refine hD.gwn (.float .f64 v) rfl (fun τ d=>ex_load rfl rfl (zl_24 (bw4.cell 0))) ?_;refine hD.gwn (.float .f64 v) rfl (fun τ d=>ex_move rfl h5) ?_;refine hD.entg (n:=0) hk rfl rfl (by decide +kernel) nofun (fun τ d=>x_call rfl rfl Try.func7 rfl rfl rfl) ?_;refine hK.callp fits shut (f:=7) rfl (v:=.bool true) (fun τ d=>alike_self _ _) ?_;refine finn 87 ?_;refine hD.gwn (.bool false) rfl (fun τ d=>pu_not (y:=true) rfl rfl) ?_;refine hD.pun (.bool false) (fun w=>pu_pick (t:=false) rfl rfl rfl) ?_;refine hD.mvn (.bool false) ?_;refine hD.gwn (ptrAt nw3 1) rfl (fun τ d=>w_ia30_1 rfl rfl rfl) ?_;refine hD.gwn (.float .f64 4607182418800017408) rfl (fun τ d=>ex_load rfl rfl (zl_24 (bw4.cell 1))) ?_;refine hD.gwn (.bool false) rfl (fun τ d=>(w_neq24 rfl rfl rfl).trans (by rw[one_eq];rfl)) ?_;refine hD.pun (.bool false) (fun w=>pu_pick (t:=false) rfl rfl rfl) ?_;refine hD.e0 (hD.cc false (hD.k0 (hD.r0 (hD.mvn (.float .f64 a0) ?_))));refine hD.asn (.float .f64 a0) ?_;refine hD.e0 (hD.inBlock (n:=0) ?_);refine hD.inBlock (n:=0) ?_;refine hD.r0 (hD.mxn (.int .i64 (j:Int)) rfl h8 ?_);refine hD.pun (.int .i64 (wrap64 ((j:Int)+1))) (fun w=>zw_add3 rfl rfl rfl) ?_;refine hD.asn (.int .i64 (wrap64 ((j:Int)+1))) ?_;refine hD.e0 (hD.inLoop (n:=0) ?_);exact fl_loop hK hn hn40 hend d' (by omega) ⟨bw1''',bw2'',hM.lc,hM.lp⟩ (hs.kp2 hM.lc hM.lp kk) h1 rfl h6 h7 (next_big j (by omega))
     ·refine hD.cond (n:=0) false (show Value.bool (decide (k=3))=_ by rw[decide_eq_false h3k]) rfl ?_
      refine hD.sr (hD.pun (.bool (decide (k=4))) (fun w=>zw_eql3 rfl rfl rfl) ?_);refine hD.asn (.bool (decide (k=4))) ?_;refine hD.e0 ?_;by_cases h4k:k=4
      ·by_cases hv:feq v a0=true
       ·refine hD.cond (n:=0) true (show Value.bool (decide (k=4))=_ by rw[decide_eq_true h4k]) rfl ?_
        refine hD.sr (hD.mxn (ptr cb) rfl h6 ?_);refine hD.mvn (.float .f64 a0) ?_;refine hD.mvn (.float .f64 b0) ?_;refine hD.cf #[ptr cb,(.pointer none),(.float .f64 a0),(.float .f64 b0)] hk Try.func14 ?_;refine cas64_true (a:=a0) (b:=b0) hv hM.c hK rfl fun v9 w1 ⟨hv9,kw1,bw1⟩=>?_;subst hv9;have hM.p':=kw1.blk hM.p (by simpa using (cel_ne (Blk.cel hM.p) (Blk.cel hM.c) (by decide)));have kk:=kk.trans (Kp.sub kw1 (by simp));refine finn 101 ?_;refine hD.asn (.bool true) ?_;refine hD.z0 (hD.mxn (ptr pb) rfl h7 ?_);refine hD.mvn (.float .f64 a0) ?_;refine hD.pun (.agg #[(.float .f64 a0),(.float .f64 4607182418800017408)]) (fun w=>w_b30 rfl rfl rfl) ?_;refine hD.mvn (.float .f64 b0) ?_;refine hD.pun (.agg #[(.float .f64 b0),(.float .f64 4607182418800017408)]) (fun w=>w_b30 rfl rfl rfl) ?_;refine hD.cf #[ptr pb,(.pointer none),.agg #[(.float .f64 a0),(.float .f64 4607182418800017408)],.agg #[(.float .f64 b0),(.float .f64 4607182418800017408)]] hk Try.func15 ?_;refine casA_true (a:=a0) (c:=4607182418800017408) (b:=b0) (d:=4607182418800017408) (by rw[hv,one_eq];rfl) hM.p' hK rfl fun v9 w2 ⟨hv9,kw2,bw2⟩=>?_;subst hv9;have bw1':=kw2.blk bw1 (by simpa using (cel_ne (Blk.cel bw1) (Blk.cel hM.p') (by decide)));have kk:=kk.trans (Kp.sub kw2 (by simp));refine finn 107 ?_;refine hD.asn (.bool true) ?_;refine hD.e0 (hD.s0 (hD.sr (hD.mvn (.bool true) ?_)));refine hD.mxn (.float .f64 v) rfl h5 ?_;refine hD.mvn (.float .f64 a0) ?_;refine hD.pun (.bool true) (fun w=>(w_eql24 rfl rfl rfl).trans (by rw[hv])) ?_;refine hD.pun (.bool false) (fun w=>w_neq4 (p:=true) (q:=true) rfl rfl rfl) ?_;refine hD.mvn (.bool false) ?_;refine hD.gwn (.bool true) rfl (fun τ d=>ex_move rfl rfl) ?_;refine hD.gwn (.bool true) rfl (fun τ d=>ex_move rfl rfl) ?_;refine hD.gwn (.bool false) rfl (fun τ d=>w_neq4 (p:=true) (q:=true) rfl rfl rfl) ?_;refine hD.pun (.bool false) (fun w=>pu_pick (t:=false) rfl rfl rfl) ?_;refine hD.e0 (hD.cc false (hD.k0 (hD.sr (hD.mvn (.bool true) ?_))));refine hD.e0 (hD.cc true (hD.r0 (hD.mvn (.float .f64 b0) ?_)));refine hD.asn (.float .f64 b0) ?_;refine hD.e0 (hD.inBlock (n:=0) ?_);refine hD.inBlock (n:=0) ?_;refine hD.r0 (hD.mxn (.int .i64 (j:Int)) rfl h8 ?_);refine hD.pun (.int .i64 (wrap64 ((j:Int)+1))) (fun w=>zw_add3 rfl rfl rfl) ?_;refine hD.asn (.int .i64 (wrap64 ((j:Int)+1))) ?_;refine hD.e0 (hD.inLoop (n:=0) ?_);exact fl_loop hK hn hn40 hend d' (by omega) ⟨bw1',bw2,hM.lc,hM.lp⟩ (hs.kp2 hM.lc hM.lp kk) h1 rfl h6 h7 (next_big j (by omega))
       ·have hv:feq v a0=false:=by simpa using hv
        refine hD.cx true (bT h4k) ?_;refine hD.sr (hD.mxn (ptr cb) rfl h6 ?_);refine hD.mvn (.float .f64 a0) ?_;refine hD.mvn (.float .f64 b0) ?_;refine hD.cf #[ptr cb,(.pointer none),(.float .f64 a0),(.float .f64 b0)] hk Try.func14 ?_;refine cas64_false (a:=a0) (b:=b0) hv hM.c hK rfl fun v9 w1 ⟨hv9,kw1,bw1⟩=>?_;subst hv9;have hM.p':=kw1.blk hM.p (by simpa using (cel_ne (Blk.cel hM.p) (Blk.cel hM.c) (by decide)));have kk:=kk.trans (Kp.sub kw1 (by simp));refine finn 101 ?_;refine hD.asn (.bool false) ?_;refine hD.z0 (hD.mxn (ptr pb) rfl h7 ?_);refine hD.mvn (.float .f64 a0) ?_;refine hD.pun (.agg #[(.float .f64 a0),(.float .f64 4607182418800017408)]) (fun w=>w_b30 rfl rfl rfl) ?_;refine hD.mvn (.float .f64 b0) ?_;refine hD.pun (.agg #[(.float .f64 b0),(.float .f64 4607182418800017408)]) (fun w=>w_b30 rfl rfl rfl) ?_;refine hD.cf #[ptr pb,(.pointer none),.agg #[(.float .f64 a0),(.float .f64 4607182418800017408)],.agg #[(.float .f64 b0),(.float .f64 4607182418800017408)]] hk Try.func15 ?_;refine casA_false (a:=a0) (c:=4607182418800017408) (b:=b0) (d:=4607182418800017408) (by rw[hv,one_eq];rfl) hM.p' hK rfl fun v9 w2 ⟨hv9,kw2,bw2⟩=>?_;subst hv9;have bw1':=kw2.blk bw1 (by simpa using (cel_ne (Blk.cel bw1) (Blk.cel hM.p') (by decide)));have kk:=kk.trans (Kp.sub kw2 (by simp));refine finn 107 ?_;refine hD.asn (.bool false) ?_;refine hD.e0 (hD.s0 (hD.sr (hD.mvn (.bool false) ?_)));refine hD.mxn (.float .f64 v) rfl h5 ?_;refine hD.mvn (.float .f64 a0) ?_;refine hD.pun (.bool false) (fun w=>(w_eql24 rfl rfl rfl).trans (by rw[hv])) ?_;refine hD.pun (.bool false) (fun w=>w_neq4 (p:=false) (q:=false) rfl rfl rfl) ?_;refine hD.mvn (.bool false) ?_;refine hD.gwn (.bool false) rfl (fun τ d=>ex_move rfl rfl) ?_;refine hD.gwn (.bool false) rfl (fun τ d=>ex_move rfl rfl) ?_;refine hD.gwn (.bool false) rfl (fun τ d=>w_neq4 (p:=false) (q:=false) rfl rfl rfl) ?_;refine hD.pun (.bool false) (fun w=>pu_pick (t:=false) rfl rfl rfl) ?_;refine hD.e0 (hD.cc false (hD.k0 (hD.sr (hD.mvn (.bool false) ?_))));refine hD.e0 (hD.cc false (hD.k0 (hD.inBlock (n:=0) ?_)));refine hD.inBlock (n:=0) ?_;refine hD.r0 (hD.mxn (.int .i64 (j:Int)) rfl h8 ?_);refine hD.pun (.int .i64 (wrap64 ((j:Int)+1))) (fun w=>zw_add3 rfl rfl rfl) ?_;refine hD.asn (.int .i64 (wrap64 ((j:Int)+1))) ?_;refine hD.e0 (hD.inLoop (n:=0) ?_);exact fl_loop hK hn hn40 hend d' (by omega) ⟨bw1',bw2,hM.lc,hM.lp⟩ (hs.kp2 hM.lc hM.lp kk) h1 h5 h6 h7 (next_big j (by omega))
      ·refine hD.cond (n:=0) false (show Value.bool (decide (k=4))=_ by rw[decide_eq_false h4k]) rfl ?_
       refine hD.k0 (hD.inBlock (n:=0) ?_);refine hD.inBlock (n:=0) ?_;refine hD.r0 (hD.mxn (.int .i64 (j:Int)) rfl h8 ?_);refine hD.pun (.int .i64 (wrap64 ((j:Int)+1))) (fun w=>zw_add3 rfl rfl rfl) ?_;refine hD.asn (.int .i64 (wrap64 ((j:Int)+1))) ?_;refine hD.e0 (hD.inLoop (n:=0) ?_);exact fl_loop hK hn hn40 hend d' (by omega) ⟨hM.c,hM.p,hM.lc,hM.lp⟩ (hs.kp2 hM.lc hM.lp kk) h1 h5 h6 h7 (next_big j (by omega))
  ·refine hD.cond (n:=0) false (show Value.bool (decide ((j:Int)<(n:Int)))=_ by rw[decide_eq_false (by omega)]) rfl ?_
   refine hD.exit (n:=0) rfl ?_;exact hD.s0 (hend _ _ _ _ _ hM h5 h6 h7)
theorem floats_law {Post:Value→World→Prop}{S:SC}{gt:Option Addr}{n ct:Nat}{fr:Int}{turns:List (Int × Int × Int)}(hid:Idle S)(hs:TurnsAt S.w.heap.size S.w gt turns)(hn:turns.length=n)(hn63:n<9223372036854775808)(hpost:∀ W,Go.RowKit.Below S.n0 S.W0 W→Post (.bool true) W):Sound Try.prog link.tWg Post 0 S (gs (Frame.enter Try.prog 3 #[.int .u64 fr,.slice gt n ct] .normal) []):=by
 have hk:(base 3).kind≠.early:=nofun;have SI:=hid;have hK:=clS (Post:=Post) S;refine ks (S:=S) ?_ rfl;have hD:=hK.det;obtain⟨w,hw⟩:∃ w,w=S.w:=⟨_,rfl⟩;rw[← hw] at hs ⊢;have kk:Kp [] w w:=⟨Nat.le_refl _,fun _ _ _=>rfl⟩;rw[show(#[(.int .u64 fr),.slice gt n ct]:Array Value)=[(.int .u64 fr),.slice gt n ct].toArray from rfl,enter_fg (n:=133) (c:=q3) Try.func3 rfl rfl rfl];obtain⟨v,hv⟩:∃ v,v=Int.toNat fr:=⟨_,rfl⟩;refine hD.sr (hD.asn (.bool false) ?_);refine hD.z0 (hD.mvn (.int .u64 fr) ?_);refine hD.pun (.float .f64 v) (fun w=>(w_from rfl rfl).trans (by rw[← hv])) ?_;refine hD.asn (.float .f64 v) ?_;refine hD.z0 (hD.mvn (.float .f64 v) ?_);refine hD.cf #[(.float .f64 v)] hk Try.func5 ?_;refine new64_cc hK rfl fun v9 w1 ⟨cb,hv9,hcb,ksw1,bw1⟩=>?_;subst hv9;have gecb:w.heap.size≤cb:=Nat.le_trans kk.size hcb;have kk:=kk.trans ksw1;refine fin_at (Kn:=fun _=>KS Try.prog link.tWg Post 0 S) (n:=0) (dst:=some 18) rfl rfl ?_;refine nm rfl ?_;refine hD.asn (ptr cb) ?_;refine hD.z0 (hD.mvn (.float .f64 v) ?_);refine hD.pun (.agg #[(.float .f64 v),(.float .f64 4607182418800017408)]) (fun w=>w_b30 rfl rfl rfl) ?_;refine hD.cf #[.agg #[(.float .f64 v),(.float .f64 4607182418800017408)]] hk Try.func6 ?_;refine newA_cc hK rfl fun v9 w2 ⟨pb,hv9,hpb,ksw2,bw2⟩=>?_;subst hv9;have gepb:w.heap.size≤pb:=Nat.le_trans kk.size hpb;have bw1':=ksw2.blk bw1 (by simp);have kk:=kk.trans ksw2;refine fin_at (Kn:=fun _=>KS Try.prog link.tWg Post 0 S) (n:=0) (dst:=some 21) rfl rfl ?_;refine nm rfl ?_;refine hD.asn (ptr pb) ?_;refine hD.e0 (hD.s0 (hD.sr (hD.asn (.int .i64 0) ?_)));refine hD.e0 (hD.block (n:=0) ?_);refine hD.loop (n:=0) ?_;refine fl_loop hK (cs:=[]) (lo:=w.heap.size) (cb:=cb) (pb:=pb) (n:=n) (ct:=ct) (gt:=gt) (turns:=turns) hn hn63 (fun v n0 n1 w x hM g5 g6 g7=>?_) n (j:=0) (v:=v) (n0:=0) (n1:=0) (by omega) ⟨bw1',bw2,gecb,gepb⟩ (hs.kp kk) rfl rfl rfl rfl rfl;refine hD.r0 (hD.move (n:=0) (v:=(ptr cb)) hk rfl ⟨rfl,rfl,rfl,rfl,nofun⟩ g6 ?_);refine nm rfl ?_;refine hD.cf #[ptr cb,(.pointer none)] hk Try.func8 ?_;refine load64 hM.c hK rfl fun v9 w1 ⟨hv9,kw1,bw1⟩=>?_;subst hv9;have hM.p':=kw1.blk hM.p (by simpa using (cel_ne (Blk.cel hM.p) (Blk.cel hM.c) (by decide)));refine fin_at (Kn:=fun _=>KS Try.prog link.tWg Post 0 S) (n:=0) (dst:=some 121) rfl rfl ?_;refine nm rfl ?_;refine hD.move (n:=0) (v:=(.float .f64 v)) hk rfl ⟨rfl,rfl,rfl,rfl,nofun⟩ g5 ?_;refine nm rfl ?_;refine hD.cf #[(.float .f64 v),(.float .f64 v)] hk Try.func7 ?_;refine hK.callp fits shut (f:=7) rfl (v:=.bool true) (fun τ d=>alike_self _ _) ?_;refine fin_at (Kn:=fun _=>KS Try.prog link.tWg Post 0 S) (n:=0) (dst:=some 123) rfl rfl ?_;refine nm rfl ?_;refine hD.mvn (.bool true) ?_;refine hD.gwn (ptr pb) rfl (fun τ d=>ex_move rfl g7) ?_;refine hD.entg (n:=0) hk rfl rfl (by decide +kernel) nofun (fun τ d=>x_call rfl rfl Try.func9 rfl rfl rfl) ?_;refine loadA hM.p' hK rfl fun v9 w2 ⟨hv9,kw2,bw2⟩=>?_;subst hv9;have bw1':=kw2.blk bw1 (by simpa using (cel_ne (Blk.cel bw1) (Blk.cel hM.p') (by decide)));refine fin_at (Kn:=fun _=>KS Try.prog link.tWg Post 0 S) (n:=0) (dst:=some 126) rfl rfl ?_
 refine nm rfl ?_;refine hD.gwn (.float .f64 4607182418800017408) rfl (fun τ d=>w_ix30_1 rfl rfl rfl) ?_;refine hD.gwn (.bool true) rfl (fun τ d=>(w_eql24 rfl rfl rfl).trans (by rw[one_eq])) ?_;refine hD.pun (.bool true) (fun w=>pu_pick (t:=true) rfl rfl rfl) ?_;refine hD.mvn (.bool true) ?_;refine hD.entg (n:=0) hk rfl rfl (by decide +kernel) nofun (fun τ d=>x_call rfl rfl Try.func16 rfl rfl rfl) ?_;have kk:Kp [] w2 w2:=⟨Nat.le_refl _,fun _ _ _=>rfl⟩;show Sound Try.prog link.tWg Post 0 { S with w:=w2} _;refine works_runs (S:={S with w:=w2}) ⟨SI.roles,SI.grps,SI.pos⟩ rfl fun S7 S7I n7 z7 k7=>?_;have kk:=kk.trans k7;have hK:=clS (Post:=Post) S7;refine ks (S:=S7) ?_ rfl;have hD:=hK.det;obtain⟨w70,hw70⟩:∃ w,w=S7.w:=⟨_,rfl⟩;rw[← hw70] at kk ⊢;have ksw70:Kp [] w2 w70:=by rw[hw70];exact k7
 have bw1'':=ksw70.blk bw1' (by simp);have bw2':=ksw70.blk bw2 (by simp);refine fin_at (Kn:=fun _=>KS Try.prog link.tWg Post 0 S7) (n:=0) (dst:=some 131) rfl rfl ?_;refine nm rfl ?_;refine hD.pun (.bool true) (fun w=>pu_pick (t:=true) rfl rfl rfl) ?_;refine hD.asn (.bool true) ?_;refine hD.e0 (hD.ret (n:=0) ?_);exact sound_true (S:={S7 with w:=w70}) ⟨S7I.roles,S7I.grps,S7I.pos⟩ Try.func3 (by decide +kernel) rfl rfl (fun W hB=>hpost W (by rw[n7,z7] at hB;exact hB))
end Go.Proofs.Ytfbjopkiicmiiaa.Lift
namespace Go.Proofs.Ytfbjopkiicmiiaa.Z
open Go Go.Conc Go.ChangeShapes Go.WideShapes Go.ChangeAt Go.RowKit Go.Deep Lift
theorem post_true2 {H:Type}{enc:TypeId × Value→H}{f:Func}{s:ChangeSpec}{t0 t1:TypeId}{W W':World}{v0 v1:Value}{d0 d1:DataW H}{p0 p1:List MemPlace}(hs:s.vars=[])(hp:f.params.toList=[t0,t1])(hr:f.resultTypes=#[4])
  (hd:∀ a b,s.fn H [a,b]={results:=[.lit (.bool true)],args:=[a,b]}) (ht0:Try.prog.readableRec t0=true) (hrow0:t0<Try.prog.types.size) (ht1:Try.prog.readableRec t1=true) (hrow1:t1<Try.prog.types.size)
  (hW:DataW.Whole enc Try.prog f.params.toList s.vars false W [v0,v1] [d0,d1] [] (p0++p1)) (h0:DataW.Trod enc Try.prog W 0 (fun _=>true) true t0 v0 d0 p0) (h1:DataW.Trod enc Try.prog W 0 (fun _=>true) true t1 v1 d1 p1) (hb:Below W.heap.size W W') :
  s.post enc Try.prog f false true false false W #[v0,v1] (.bool true) W':=by
 have hlt:=fun x hx=>hW.lt x hx;refine⟨[d0,d1],[],p0++p1,[],p0++p1,[],hW,?_,?_,?_,hb.frame _,fun h=>by cases h⟩
 ·rw[hr,List.append_nil,hd]
  exact trodAll_mk1 (shut_bool Try.underlying4 _)
 ·rw[hp,List.append_nil,hd]
  exact trodAll_mk2 (Below.trod laidOut ht0 hrow0 h0 hb fun x hx=>hlt x (by simp[hx])) (Below.trod laidOut ht1 hrow1 h1 hb fun x hx=>hlt x (by simp[hx]))
 ·rw[hs,List.append_nil,hd]
  rfl
theorem cells22:Try.prog.cellsOf 22=1:=by kernel_rfl
theorem cells32:Try.prog.cellsOf 32=3:=by kernel_rfl
def TurnsIn (w:World)(vp:Value)(turns:List (Int × Int × Int)):Prop:=∃ g c,vp=.slice g turns.length c∧turns.length≤maxLen∧SlOk w g turns.length c∧∀ (j:Nat) (k a b:Int),turns[j]?=some (k,a,b)→∃ q o,g=some ⟨q,o,none⟩∧w.cell? ⟨q,o+j*3,none⟩=some (.int .i64 k)∧w.cell? ⟨q,o+j*3+1,none⟩=some (.int .u64 a)∧w.cell? ⟨q,o+j*3+2,none⟩=some (.int .u64 b)
section
variable {H:Type}{enc:TypeId × Value→H}{w:World}{held:Bool}{fuel:Nat}{cs:List Value}{x:DataW H × List MemPlace}
theorem open_turn {a b c:Value}(h:DataW.trod enc Try.prog w 0 (fun _=>true) held fuel 32 [a,b,c]=some x):∃ k l m:Int,a=.int .i64 k∧b=.int .u64 l∧c=.int .u64 m:=by
 obtain⟨xs,k,_,_,_,hxl,hf⟩:=DataW.trod_struct Try.underlying32 h;have f0:=hf 0 { name := "Kind",type:=3,offset:=0,embedded:=false,tag := "",pkgPath := "",byteOffset:=0} rfl;have f1:=hf 1 { name := "A",type:=22,offset:=1,embedded:=false,tag := "",pkgPath := "",byteOffset:=8} rfl;have f2:=hf 2 { name := "B",type:=22,offset:=2,embedded:=false,tag := "",pkgPath := "",byteOffset:=16} rfl;dsimp only at f0 f1 f2;rw[cells3] at f0;rw[cells22] at f1 f2;have hx2:xs.length=3:=hxl;change DataW.trod enc Try.prog w 0 (fun _=>true) held k 3 [a]=_ at f0;change DataW.trod enc Try.prog w 0 (fun _=>true) held k 22 [b]=_ at f1;change DataW.trod enc Try.prog w 0 (fun _=>true) held k 22 [c]=_ at f2;rw[List.getElem?_eq_getElem (by omega)] at f0 f1 f2;obtain⟨k0,h0,_,_⟩:=DataW.trod_int Try.underlying3 f0;obtain⟨k1,h1,_,_⟩:=DataW.trod_int Try.underlying22 f1;obtain⟨k2,h2,_,_⟩:=DataW.trod_int Try.underlying22 f2;cases h0;cases h1;cases h2;exact⟨_,_,_,rfl,rfl,rfl⟩
theorem open_turns (h:DataW.trod enc Try.prog w 0 (fun _=>true) held fuel 23 cs=some x):∃ (vp:Value) (turns:List (Int × Int × Int)),cs=[vp]∧TurnsIn w vp turns:=by
 rcases open_slice Try.underlying23 h with⟨rfl,rfl⟩ | ⟨a,len,cap,m,n,D,Pl,rfl,_,hle,hmx,hm,rfl,hi⟩
 ·exact⟨_,[],rfl,none,0,rfl,Nat.zero_le _,fun a ha=>by (cases ha),fun j k p q hk=>by simp at hk⟩
 ·rw[if_pos rfl] at hm
  subst hm;rw[cells32] at hi;have hcell:∀ i,i<m→∃ p:Int × Int × Int,a.spot=none∧w.cell? ⟨a.block,a.off+i*3,none⟩=some (.int .i64 p.1)∧w.cell? ⟨a.block,a.off+i*3+1,none⟩=some (.int .u64 p.2.1)∧w.cell? ⟨a.block,a.off+i*3+2,none⟩=some (.int .u64 p.2.2):=by
   intro i hlt;obtain⟨cs',hc,hd⟩:=hi i hlt;obtain⟨_,hcl,hat⟩:=World.cells?_some hc
   match cs',hcl with
   | [u,v,y],_ =>
    obtain⟨d,n,e,rfl,rfl,rfl⟩:=open_turn hd;have h0:=hat 0 (by omega);have h1:=hat 1 (by omega);have h2:=hat 2 (by omega);have hs:a.spot=none:=spot_of (hi 0 (by omega)).choose_spec.1 (by omega);obtain⟨b,o,s⟩:=a;simp only at hs;subst hs;rw[add_at,add_at] at h0 h1 h2;exact⟨(d,n,e),rfl,h0,h1,h2⟩
  obtain⟨its,hl,hits⟩:=list_of (α:=Int × Int × Int) len fun i hlt=>hcell i (by omega);refine⟨_,its,rfl,some a,m,by rw[hl],by omega,fun a' ha=>?_,fun j k p q hk=>?_⟩
  ·cases ha
   by_cases h0:m=0
   ·exact .inr ⟨by omega,h0⟩
   ·obtain⟨_,_,h2,_⟩:=hcell 0 (by omega)
    exact .inl (cell_row (a:=⟨a.block,_,none⟩) h2)
  ·obtain⟨h1,h2,h3,h4⟩:=hits j _ hk
   obtain⟨b,o,s⟩:=a;simp only at h1;subst h1;exact⟨b,o,rfl,h2,h3,h4⟩
end
theorem turns_seen {W:World}{g:Option Addr}{turns:List (Int × Int × Int)}(B:∀ (j:Nat) (k a b:Int),turns[j]?=some (k,a,b)→∃ q o,g=some ⟨q,o,none⟩∧W.cell? ⟨q,o+j*3,none⟩=some (.int .i64 k)∧W.cell? ⟨q,o+j*3+1,none⟩=some (.int .u64 a)∧W.cell? ⟨q,o+j*3+2,none⟩=some (.int .u64 b)):TurnsAt (seenW W).heap.size (seenW W) g turns:=fun j k a b hj=>by
 obtain⟨q,o,h1,h2,h3,h4⟩:=B j k a b hj;obtain⟨_,_,_,hh⟩:=cell_isC h2;exact⟨q,o,h1,by rw[seenW_size];exact(Array.getElem?_eq_some_iff.1 hh).1,seenW_cell h2 (.flat rfl),seenW_cell h3 (.flat rfl),seenW_cell h4 (.flat rfl)⟩
theorem floats_contract (H:Type)(enc:TypeId × Value→H)(W:World)(base:Nat)(args:Array Value)(ds gs:List (DataW H))(before:List MemPlace)
  (hval:∀ (j:Nat) t v,Try.f3.params[j]?=some t→args[j]?=some v→Value.okWide Try.prog W .any base t v)
  (hW:DataW.Whole enc Try.prog Try.f3.params.toList Rows.lockFloatsSpec.vars false W args.toList ds gs before) (h00:0<W.heap.size) :
  ∃ N last o w' t',runNT Try.prog (N+1) (solo (G (Frame.enter Try.prog 3 args .normal) []) W) #[]=(.ended o w',t')∧runN Try.prog N (solo (G (Frame.enter Try.prog 3 args .normal) []) W)=.next last ∧
    step Try.prog last=.ended o w'∧Go.Conc.Good Try.prog (fun v w'=>Rows.lockFloatsSpec.post enc Try.prog Try.f3 false true false false W args v w') last o w' t':=by
 have hW':=hW;obtain⟨p,q,hA0,hV,rfl,hfz,hnd⟩:=hW;have hA:DataW.TrodAll enc Try.prog W 0 (fun _=>true) true Try.f3.params.toList args.toList ds p:=hA0;rw[Try.params3] at hA hval;obtain⟨v0,vs0,d0,ds0,p0,q0,hargs,rfl,rfl,h0,r0⟩:=trodAll_cons hA;obtain⟨v1,vs1,d1,ds1,p1,q1,hargs1,rfl,rfl,h1,r1⟩:=trodAll_cons r0;obtain⟨rfl,rfl,rfl⟩:=trodAll_nil r1;subst hargs1;obtain rfl:args=#[v0,v1]:=by cases args;simp_all
 obtain⟨rfl,rfl⟩:=trodVars_none hV;have h0':=h0;have h1':=h1;obtain⟨fuel,ht⟩:=h0';obtain⟨fuel1,ht1⟩:=h1';obtain⟨fr,e1,_,_⟩:=DataW.trod_int Try.underlying22 ht;obtain⟨vp,turns,e2,hX⟩:=open_turns ht1;have hc1:v0.cells=#[v0]:=by
  have:=hval 0 22 v0 rfl rfl;cases v0<;>first | rfl | (simp[Value.okWide,Try.underlying22,Cell.okWide,Cell.ok] at this;done)
 have hc2:v1.cells=#[v1]:=by
  have:=hval 1 23 v1 rfl rfl;cases v1<;>first | rfl | (simp[Value.okWide,Try.underlying23,Cell.okWide,Cell.ok] at this;done)
 have hv1:v0=.int .u64 fr:=by
  rw[hc1] at e1;exact(List.cons.inj e1).1
 have hv2:v1=vp:=by
  rw[hc2] at e2;exact(List.cons.inj e2).1
 subst hv1 hv2;obtain⟨g,c,rfl,hlen,hsl,hB⟩:=hX;clear hA0 hA ht ht1;simp only[List.append_nil] at hW' h1;refine sound_start (ty:=link.tWg) (W:=W) (by have:GN=1:=rfl;omega) (fun i v hi=>?_) (floats_law (turns:=turns) (start_idle W) (turns_seen hB) rfl (by unfold maxLen at hlen;omega) fun W' hB'=>?_)
 ·match i,hi with
  | 0,hi=>cases hi;exact .flat rfl
  | 1,hi=>cases hi;exact slOk_rel hsl
  | _+2,hi=>simp at hi
 ·exact post_true2 rfl rfl rfl (fun _ _=>rfl) (by kernel_rfl) (of_decide_eq_true (by kernel_rfl)) (by kernel_rfl) (of_decide_eq_true (by kernel_rfl)) hW' h0 h1 hB'
theorem floats_lifted (os:Os)(started:os.Started)(H:Type)(enc:TypeId × Value→H) :
  ReturnsInLeavingWide {} Try.checked os 3 .any (Rows.lockFloatsSpec.pre6 enc Try.prog Try.f3 Rows.lockFloatsRow.domain false) (Rows.lockFloatsSpec.post enc Try.prog Try.f3 false true false false):=by
 refine leaving_plain (C:=Try.checked) (s:=Rows.lockFloatsSpec) own started Try.func3 some_heap
  (ChangeSpec.witness6 (enc:=enc) (C:=Try.checked) (s:=Rows.lockFloatsSpec) false ⟨#[],#[.int .u64 0,.slice none 0 0],[]⟩ 8 (by kernel_rfl) (by kernel_rfl) (by kernel_rfl) (by kernel_rfl)) ?_
 intro W base args ds gs before hval hW h0;exact floats_contract H enc W base args ds gs before hval hW h0
theorem lockFloats_said:Rows.LockFloatsSaid :=
 OpenClaim.holds_of_wide_leaving 3 Try.f3 rfl rfl rfl rfl rfl rfl rfl ⟨rfl,rfl,rfl,rfl,rfl⟩ rfl rfl rfl rfl rfl (by kernel_rfl) Try.func3 (by kernel_rfl)
  (of_decide_eq_true (by kernel_rfl)) (by unfold Func.isWrapper;first | (rw[if_pos (by decide +kernel)];kernel_rfl) | (rw[if_neg (by decide +kernel)];exact⟨rfl,rfl⟩))
  (fun os started H enc _=>floats_lifted os started H enc)
#print axioms lockFloats_said
end Go.Proofs.Ytfbjopkiicmiiaa.Z
