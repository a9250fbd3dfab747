/- Qa Qb Qc Qd Rb Qe Rc Ra Rd Re -/
import Derived.Deep.RegionLaw
import Derived.Test.YtgapgmigmlideaaMd
set_option linter.unusedVariables false
set_option linter.unusedSimpArgs false
set_option maxRecDepth 100000
set_option maxHeartbeats 6400000
noncomputable section
namespace Go.Proofs.Ytgapgmigmlideaa.Lift
open Go Go.Conc Go.RowKit Pl
open Go.ConcN (sumTo upd sumTo_upd upd_ne upd_same)
section
variable {P:Program}{m:Bool}{Kn:Nat→Goroutine→World→Prop}{b:Frame}{a:Act}{k:List Item}{cs:List Frame}{w w':World}{n:Nat}{ops:Array Oper}{i:Nat}{rest:List Nat}{o:Oper}{v:Value}
theorem Det.gv {dst:Option Tmp}(hK:Det P m Kn)(hk:b.kind≠.early)(ho:ops[i]?=some o)(hw:Region.wanted o (yielded ops a.tmps)=true)(hd:o.dst=dst)(hok:okOp P o.op=true)(hnp:∀ x,o.op≠.panic x)(hr:∀ τ d,(execOp a.eval o).run P (re w τ d)=.ok (.value v) (re w τ d))
  (h:Kn n (gs (b.at (a.put dst v) (.inRegion ops rest::k)) cs) w):Kn (n+1) (gs (b.at a (.inRegion ops (i::rest)::k)) cs) w:=by
 refine hK _ _ _ _ _ rfl ⟨fun _=>okHd_op ho hok hnp,fun τ d=>⟨_,stepG_value ho hw hk (hr τ d)⟩,⟨rfl,rfl⟩,Nat.le_refl _⟩ ?_;rw[hd];exact h
theorem Det.gu {dst:Option Tmp}(hK:Det P m Kn)(ho:ops[i]?=some o)(hw:Region.wanted o (yielded ops a.tmps)=false)(hd:o.dst=dst)(hok:okOp P o.op=true)(hnp:∀ x,o.op≠.panic x)
  (h:Kn n (gs (b.at (a.put dst undef) (.inRegion ops rest::k)) cs) w):Kn (n+1) (gs (b.at a (.inRegion ops (i::rest)::k)) cs) w:=by
 refine hK _ _ _ _ _ rfl ⟨fun _=>okHd_op ho hok hnp,fun τ d=>⟨_,stepG_unwanted ho hw⟩,⟨rfl,rfl⟩,Nat.le_refl _⟩ ?_;rw[hd];exact h
end
theorem pu_pick {a:Act}{oo:Oper}{w:World}{c x y:Operand}{t:Bool}{v:Value}(h:oo.op=.pick c x y)(hc:a.eval c=.bool t)(hv:(if t then a.eval x else a.eval y)=v):(execOp a.eval oo).run Try.prog w=.ok (.value v) w:=by
 unfold execOp;rw[h];cases t
 ·simp only[hc];rw[if_neg (by decide)] at hv;simp only[hv];rfl
 ·simp only[hc];rw[if_pos rfl] at hv;simp only[hv];rfl
theorem pu_eqT {a:Act}{oo:Oper}{w:World}{x:Operand}{i c:Int}(h:oo.op=.binOp .eql 3 x (.const (.int .i64 c)) 3)(hx:a.eval x=.int .i64 i)(hi:i=c):(execOp a.eval oo).run Try.prog w=.ok (.value (.bool true)) w:=by
 subst hi;unfold execOp;rw[h];simp only[hx];rw[show a.eval (.const (.int .i64 i))=.int .i64 i from rfl];exact run_vv (by simp[go_sem,Try.underlying3,Try.runUnderlying3])
theorem pu_eqF {a:Act}{oo:Oper}{w:World}{x:Operand}{i c:Int}(h:oo.op=.binOp .eql 3 x (.const (.int .i64 c)) 3)(hx:a.eval x=.int .i64 i)(hi:i≠c):(execOp a.eval oo).run Try.prog w=.ok (.value (.bool false)) w:=by
 unfold execOp;rw[h];simp only[hx];rw[show a.eval (.const (.int .i64 c))=.int .i64 c from rfl];exact run_vv (by simp[go_sem,Try.underlying3,Try.runUnderlying3,hi])
theorem pu_bstep {a:Act}{oo:Oper}{w:World}(h:oo.op=.build 111 #[]):(execOp a.eval oo).run Try.prog w=.ok (.value (stopV false false false .nilFunc)) w:=by
 unfold execOp;rw[h];exact run_vv (by simp[go_sem,Try.underlying111,Try.runUnderlying111,Try.sizeOf111,Try.zeroValue111])
theorem pu_bwait {a:Act}{oo:Oper}{w:World}{x:Operand}{rv:Value}(h:oo.op=.build 111 #[(3,x)])(hx:a.eval x=rv)(hr:isFn rv):(execOp a.eval oo).run Try.prog w=.ok (.value (stopV false false false rv)) w:=by
 unfold execOp;rw[h];generalize a.eval=ρ at hx ⊢;rcases hr with rfl | ⟨f,x',c,rfl⟩<;>exact run_vv (by simp[go_sem,hx,Try.underlying111,Try.runUnderlying111,Try.sizeOf111,Try.zeroValue111,Try.sizeOf24,Try.sizeOf4])
section
variable {K:Goroutine→World→Prop}{m:Bool}{w:World}{cs:List Frame}{b:Nat}{cl:Frame}{rv v:Value}
def y15 (tm:Array Value):Frame:=(base 29).at ⟨tm,[]⟩ [.inRegion (sO c15) [2]]
def y16 (tm:Array Value):Frame:=(base 35).at ⟨tm,[]⟩ [.inRegion (sO c16) [3]]
theorem enter15 {x0:Value}:Frame.enter Try.prog 29 #[x0] .normal=(base 29).at ⟨#[x0,uu,uu,uu,uu],[]⟩ [.code c15]:=enter_lit Try.func29 rfl rfl
theorem enter16 {x0 x1:Value}:Frame.enter Try.prog 35 #[x0,x1] .normal=(base 35).at ⟨#[x0,x1,uu,uu,uu,uu,uu,uu],[]⟩ [.code c16]:=enter_lit Try.func35 rfl rfl
theorem step_to (hD:Det Try.prog m fun _=>K)(h:∀ tm,K (gs (Frame.enter Try.prog 59 #[ptr b,stopV false false false .nilFunc] .normal) (y15 tm::cs)) w):K (gs (Frame.enter Try.prog 29 #[ptr b] .normal) cs) w:=by
 rw[enter15];have hk:(base 29).kind≠.early:=nofun;refine hD.r0 ?_;refine hD.mv (ptr b) hk ?_;refine hD.pu (stopV false false false .nilFunc) hk (fun w=>pu_bstep rfl) ?_;refine norm0 (a':=⟨#[ptr b,uu,ptr b,(stopV false false false .nilFunc),uu],[]⟩) ?_;refine hD.cf #[ptr b,stopV false false false .nilFunc] hk Try.func59 ?_;exact h _
theorem wait_to (hD:Det Try.prog m fun _=>K)(hrv:isFn rv)(h:∀ tm,K (gs (Frame.enter Try.prog 59 #[ptr b,stopV false false false rv] .normal) (y16 tm::cs)) w):K (gs (Frame.enter Try.prog 35 #[ptr b,rv] .normal) cs) w:=by
 rw[enter16];have hk:(base 35).kind≠.early:=nofun;refine hD.r0 ?_;refine hD.mv (ptr b) hk ?_;refine hD.mv rv hk ?_;refine hD.pu (stopV false false false rv) hk (fun w=>pu_bwait (x:=.tmp 5) rfl rfl hrv) ?_;refine norm0 (a':=⟨#[ptr b,rv,uu,uu,ptr b,rv,(stopV false false false rv),uu],[]⟩) ?_;refine hD.cf #[ptr b,stopV false false false rv] hk Try.func59 ?_;exact h _
theorem y15_back {tm:Array Value}(hD:Det Try.prog m fun _=>K)(hcm:cl.mode=.run)(h:K (gs (cl.finish (.tuple #[])) cs) w):K (gs ((y15 tm).finish v) (cl::cs)) w:=by
 unfold y15;refine fin0 (some 4) ?_;refine hD.e0 ?_;refine hD.end (n:=0) ?_;exact hD.leave (n:=0) (b:=base 29) (v:=.tuple #[]) rfl rfl Try.func29 (fun τ d=>res0 rfl) hcm h
theorem y16_back {tm:Array Value}(hD:Det Try.prog m fun _=>K)(hcm:cl.mode=.run)(h:K (gs (cl.finish (.tuple #[])) cs) w):K (gs ((y16 tm).finish v) (cl::cs)) w:=by
 unfold y16;refine fin0 (some 7) ?_;refine hD.e0 ?_;refine hD.end (n:=0) ?_;exact hD.leave (n:=0) (b:=base 35) (v:=.tuple #[]) rfl rfl Try.func35 (fun τ d=>res0 rfl) hcm h
end
section
variable {Post:Value→World→Prop}{S:SC}{cl:Frame}{cs:List Frame}
theorem watch_bad (hcl:cl.mode=.run){g0:Option Addr}{c0:Nat}{vs:List Value}{v1 bh:Value}{left:List Nat}{most:Int}{pb:Nat}(hv:∀ u∈vs,u=.nilFunc∨∃ f cap,u=.func (.func f) #[] cap)
  (hc:vs≠[]→∃ b o,g0=some ⟨b,o,none⟩∧b<S.w.heap.size∧∀ (j:Nat) (u:Value),vs[j]?=some u→S.w.cell? ⟨b,o+j,none⟩=some u) (hl:Bytes pb S.w v1 left) (hpb:pb<S.w.heap.size) (he:fitsM vs most left.length≠0)
  (h:∀ w',Kp [] S.w w'→Sound Try.prog link.tWg Post 0 { S with w:=w'} (gs (cl.finish (.tuple #[.agg #[.slice none 0 0,.slice none 0 0,.int .i64 0],.int .i64 (fitsM vs most left.length)])) cs)) :
  Sound Try.prog link.tWg Post 0 S (gs (Frame.enter Try.prog 33 #[.slice g0 vs.length c0,v1,.int .i64 most,bh] .normal) (cl::cs)):=by
 have hK:=clS (Post:=Post) S;refine ks (S:=S) (wat_enter hK.det ?_) rfl;have k1:=Kp.alloc [] S.w (.cells #[.slice none 0 0,.slice none 0 0,.int .i64 0] 34);have bo1:Pl.Blk (S.w.alloc (.cells #[.slice none 0 0,.slice none 0 0,.int .i64 0] 34)) S.w.heap.size [.slice none 0 0,.slice none 0 0,.int .i64 0] 34:=Pl.Blk.new S.w [.slice none 0 0,.slice none 0 0,.int .i64 0] 34;generalize S.w.alloc (.cells #[.slice none 0 0,.slice none 0 0,.int .i64 0] 34)=w1 at k1 bo1 ⊢;refine hK.call fits shut (f:=60) rfl (R:=fun v' w'=>v'=.int .i64 (fitsM vs most left.length)∧Kp [] w1 w') (fun v' w' τ d ⟨h1,h2⟩=>⟨h1,⟨h2.size,h2.block⟩⟩) (fun τ d=>?_) ?_
 ·refine(fits_calls (Lift.re w1 τ d) g0 c0 vs v1 left most hv (fun hne=>?_) (pb:=pb) (hl.same (k1.block pb hpb (by simp)))).mono fun e w' h=>⟨_,h.1,rfl,?_⟩
  ·obtain⟨b,o,h1,h2,h3⟩:=hc hne
   exact⟨b,o,h1,fun j u hj=>(k1.cell h2).trans (h3 j u hj)⟩
  ·rw[h.2];exact⟨Nat.le_refl _,fun _ _ _=>rfl⟩
 ·rintro _ w2 ⟨rfl,k2⟩
  have bo2:Pl.Blk w2 S.w.heap.size _ 34:=k2.blk bo1 (by simp);refine wat_bad hK.det hcl he bo2 fun w3 h3 h4=>h w3 ⟨?_,fun b hb _=>?_⟩
  ·have:=k1.size;have:=k2.size;omega
  ·rw[h3 b (by omega)]
   exact(k1.trans k2).block b hb (by simp)
end
section
variable {K:Goroutine→World→Prop}{m:Bool}{w:World}{cs:List Frame}{cl:Frame}{vf vp vt:Value}{most bump:Int}{ob:Nat}
theorem pu_ext {a:Act}{oo:Oper}{w:World}{x:Operand}{j:Nat}{vs:Array Value}{v:Value}(h:oo.op=.extract x j)(hx:a.eval x=.tuple vs)(hv:vs[j]?=some v):(execOp a.eval oo).run Try.prog w=.ok (.value v) w:=by
 unfold execOp;rw[h];generalize a.eval=ρ at hx ⊢;simp[hx,hv,go_sem]
theorem enter14:Frame.enter Try.prog 12 #[vf,vp,.int .i64 most] .normal=(base 12).at ⟨#[vf,vp,.int .i64 most,uu,uu,uu,uu,uu,uu,uu,uu,uu,uu,uu],[]⟩ [.code c14]:=enter_lit Try.func12 rfl rfl
def runC (vf vp:Value)(most:Int)(ob:Nat):Frame:=(base 12).at ⟨#[vf,vp,.int .i64 most,uu,uu,uu,ptr ob,.int .i64 0,vf,vp,.int .i64 most,uu,uu,uu],[]⟩ [.inRegion (sO (sL (sR c14))) [3,4,5,6,7],.code (sR (sR c14))]
theorem run_enter (hD:Det Try.prog m fun _=>K)(h:K (gs (Frame.enter Try.prog 33 #[vf,vp,.int .i64 most,.nilFunc] .normal) (runC vf vp most w.heap.size::cs)) (w.alloc (.cells #[.slice none 0 0,.slice none 0 0,.int .i64 0] 34))):K (gs (Frame.enter Try.prog 12 #[vf,vp,.int .i64 most] .normal) cs) w:=by
 rw[enter14];have hk:(base 12).kind≠.early:=nofun;refine hD.s0 ?_;refine hD.r0 ?_;obtain⟨ob,hob⟩:∃ ob,ob=w.heap.size:=⟨_,rfl⟩;rw[← hob] at h;refine hD.alloc (n:=0) hk rfl ⟨rfl,rfl,rfl,(by decide +kernel),nofun⟩ al30 ?_;rw[← hob];refine hD.as (.int .i64 0) hk ?_;refine norm0 (a':=⟨#[vf,vp,.int .i64 most,uu,uu,uu,ptr ob,.int .i64 0,uu,uu,uu,uu,uu,uu],[]⟩) ?_;refine hD.e0 ?_;refine hD.s0 ?_;refine hD.r0 ?_;refine hD.mv vf hk ?_;refine hD.mv vp hk ?_;refine hD.mv (.int .i64 most) hk ?_;refine norm0 (a':=⟨#[vf,vp,.int .i64 most,uu,uu,uu,ptr ob,.int .i64 0,vf,vp,.int .i64 most,uu,uu,uu],[]⟩) ?_;refine hD.cf #[vf,vp,.int .i64 most,.nilFunc] hk Try.func33 ?_;exact h
theorem run_back {ga ge:Option Addr}{na ca ne ce:Nat}{u e:Int}(hD:Det Try.prog m fun _=>K)(hcl:cl.mode=.run)(hob:Blk w ob [.slice none 0 0,.slice none 0 0,.int .i64 0] 34)(h:∀ w',(∀ b,b≠ob→w'.heap[b]?=w.heap[b]?)→w'.heap.size=w.heap.size→K (gs (cl.finish (.tuple #[.agg #[.slice ga na ca,.slice ge ne ce,.int .i64 u],.int .i64 e])) cs) w'):K (gs ((runC vf vp most ob).finish (.tuple #[.agg #[.slice ga na ca,.slice ge ne ce,.int .i64 u],.int .i64 e])) (cl::cs)) w:=by
 have hk:(base 12).kind≠.early:=nofun;unfold runC;refine fin0 (some 11) ?_;refine hD.pu (.agg #[.slice ga na ca,.slice ge ne ce,.int .i64 u]) hk (fun w=>pu_ext rfl rfl rfl) ?_;refine hD.pu (.int .i64 e) hk (fun w=>pu_ext rfl rfl rfl) ?_;refine norm0 (a':=⟨#[vf,vp,.int .i64 most,uu,uu,uu,ptr ob,.int .i64 0,vf,vp,.int .i64 most,.tuple #[(.agg #[.slice ga na ca,.slice ge ne ce,.int .i64 u]),.int .i64 e],.agg #[.slice ga na ca,.slice ge ne ce,.int .i64 u],.int .i64 e],[]⟩) ?_;refine hD.store (n:=0) (u:=(ptr ob)) (z:=(.agg #[.slice ga na ca,.slice ge ne ce,.int .i64 u])) hk rfl ⟨rfl,rfl,rfl,rfl,nofun⟩ rfl rfl (fun τ d=>((st30 (w:=re w τ d) hob).trans (congrArg (Result.ok ()) re_set3))) (Nat.le_of_eq set3_size.symm) ?_;have bo2:Blk (set3 w ob (.slice ga na ca) (.slice ge ne ce) (.int .i64 u)) ob _ 34:=set3_blk hob;have k2:∀ b,b≠ob→(set3 w ob (.slice ga na ca) (.slice ge ne ce) (.int .i64 u)).heap[b]?=w.heap[b]?:=fun b hb=>set3_frame hb;have s2:(set3 w ob (.slice ga na ca) (.slice ge ne ce) (.int .i64 u)).heap.size=w.heap.size:=set3_size;generalize set3 w ob (.slice ga na ca) (.slice ge ne ce) (.int .i64 u)=w2 at bo2 k2 s2 ⊢;refine hD.as (.int .i64 e) hk ?_;refine norm0 (a':=⟨#[vf,vp,.int .i64 most,uu,uu,uu,ptr ob,.int .i64 e,vf,vp,.int .i64 most,.tuple #[(.agg #[.slice ga na ca,.slice ge ne ce,.int .i64 u]),.int .i64 e],.agg #[.slice ga na ca,.slice ge ne ce,.int .i64 u],.int .i64 e],[]⟩) ?_;refine hD.e0 ?_;refine hD.ret (n:=0) ?_;refine hD.leave (n:=0) (b:=base 12) (a:=⟨#[vf,vp,.int .i64 most,uu,uu,uu,ptr ob,.int .i64 e,vf,vp,.int .i64 most,.tuple #[(.agg #[.slice ga na ca,.slice ge ne ce,.int .i64 u]),.int .i64 e],.agg #[.slice ga na ca,.slice ge ne ce,.int .i64 u],.int .i64 e],[]⟩) (v:=.tuple #[.agg #[.slice ga na ca,.slice ge ne ce,.int .i64 u],.int .i64 e]) rfl rfl Try.func12 (fun τ d=>results_c30 (fn:=Try.f12) (a:=6) (t:=7) (tmps:=#[vf,vp,.int .i64 most,uu,uu,uu,ptr ob,.int .i64 e,vf,vp,.int .i64 most,.tuple #[(.agg #[.slice ga na ca,.slice ge ne ce,.int .i64 u]),.int .i64 e],.agg #[.slice ga na ca,.slice ge ne ce,.int .i64 u],.int .i64 e]) (w:=re w2 τ d) rfl rfl bo2) hcl ?_;exact h w2 k2 s2
end
theorem end_bool {P:Program}{fn:Func}{f d:Nat}{todo:List Item}{t:Array Value}{b:Bool}{ρ:Ren}{G:Goroutine}{W:World}(hf:P.funcs[f]?=some fn)(hi:P.inits.idxOf? f=none)(hres:fn.results=#[.tmp d])(ht:t.getD d undef=.bool b)(h:GRel ρ (gs { (base f).at ⟨t,[]⟩ todo with mode:=.returning} []) G):stepG P true G W=.ended (.done (.bool b)) W #[]:=by
 obtain⟨hfr,hcs,hst,hdy⟩:=h;obtain⟨⟨fn',tm,todo',ds,mo,kd,ro⟩,callers,status,dying,offers⟩:=G;obtain⟨h1,h2,h3,h4,h5,h6,h7,h8⟩:=hfr;dsimp only at *;cases hcs;obtain⟨_,rfl⟩:=hdy;have hds:ds=[]:=by cases h5;rfl
 subst hds;have hmo:mo=.returning:=by
  have:MRel ρ .returning mo:=h6;cases this;rfl
 subst hmo;have hfn:fn'=f:=h1.symm;subst hfn;have hkd:kd=.normal:=h2.symm;subst hkd;have htm:tm.getD d undef=.bool b:=by
  have h4':ARel ρ t tm:=h4;by_cases hd:d<t.size
  ·have e1:t[d]?=some t[d]:=as' hd
   have e2:tm[d]?=some (tm[d]'(by have:=h4'.1;omega)):=as' _;have hv:=h4'.2 d _ _ e1 e2;have e3:t[d]=.bool b:=by rw[gd',e1] at ht;exact ht
   rw[e3] at hv;rw[gd',e2];generalize tm[d]'(by have:=h4'.1;omega)=v at hv ⊢;cases hv;rfl
  ·rw[gd',ae' (by omega)] at ht
   cases ht
 have hr:∀ es,(results fn tm).runT P W es=(.ok (.bool b) W,es):=fun es=>by
  simp only[gd'] at htm;simp[results,hres,htm,go_sem,Sem.runT_eq]
 unfold stepG;dsimp only;unfold unwind;dsimp only;rw[hf];dsimp only;rw[hr];dsimp only;unfold doReturn;simp[hi,seen,GStep.after]
theorem sound_true {Post:Value→World→Prop}{S:SC}{fn:Func}{f d:Nat}{todo:List Item}{t:Array Value}(hid:Idle S)(hf:Try.prog.funcs[f]?=some fn)(hi:Try.prog.inits.idxOf? f=none)(hres:fn.results=#[.tmp d])(ht:t.getD d undef=.bool true)(hpost:∀ W,Go.RowKit.Below S.n0 S.W0 W→Post (.bool true) W) :
  Sound Try.prog link.tWg Post 0 S (gs { (base f).at ⟨t,[]⟩ todo with mode:=.returning} []) :=
 sound_end fits hid.roles (fun ρ G W h=>end_bool hf hi hres ht h) hpost
section
variable {w w':World}{b o:Nat}
theorem cell_same {b o:Nat}(e:w'.heap[b]?=w.heap[b]?):w'.cell? ⟨b,o,none⟩=w.cell? ⟨b,o,none⟩:=by unfold World.cell?;rw[e]
end
theorem cel_ne {w:World}{b b':Nat}{cs cs':List Value}{t t':TypeId}(h:Cel w b cs t)(h':Cel w b' cs' t')(hne:t≠t'):b≠b':=by
 rintro rfl;obtain⟨_,h⟩:=h;obtain⟨_,h'⟩:=h';rw[h] at h';simp only[Option.some.injEq,Obj.cells.injEq] at h';exact hne h'.2.1
theorem info54:(Try.prog.info? 31).map (fun i=>(i.zero,i.size,i.bytes))=some (some .nilFunc,1,8):=by kernel_rfl
abbrev RepF (w:World)(v:Value)(xs:List Value):Prop:=Rep 31 1 (fun x:Value=>[x]) w v xs
def badM (n:Nat)(most:Int)(p:Nat):Int:=if n=0∨8<n∨most<0 then 2 else if 65536<p then 4 else 0
theorem codeM_done (b:Bool)(n:Nat):codeM b (List.replicate n true)=0:=by
 unfold codeM;rw[if_pos (by simp)]
theorem endsM_len (b:Bool)(ds:List Bool):(endsM b ds).length=ds.length:=by
 unfold endsM;rw[List.length_map]
section
variable {m:Bool}{K:Goroutine→World→Prop}{w:World}{cs:List Frame}
theorem yield_idle (hK:Cl Try.prog m K){u z:Value}{o p g:Bool}{f:Value}(hz:z=stopV o p g f){cl:Frame}(hcm:cl.mode=.run)(hi:∀ w',Kp [] w w'→Calls Try.prog 80 #[u] w' fun e w2=>e=.returned (.bool true)∧w2=w')(h:∀ w',Kp [] w w'→K (gs (cl.finish (.tuple #[])) cs) w'):K (gs (Frame.enter Try.prog 59 #[u,z] .normal) (cl::cs)) w:=by
 subst hz;rw[enter33];have hk:(base 59).kind≠.early:=nofun;have hD:=hK.det;refine hD.s0 ?_;refine hD.r0 ?_;refine hD.box (n:=0) (u:=stopV o p g f) hk rfl ⟨rfl,rfl,rfl,rfl,nofun⟩ rfl bx77 ?_;have k1:=Kp.alloc [] w (.cells #[.bool o,.bool p,.bool g,f] 111);generalize w.alloc (.cells #[.bool o,.bool p,.bool g,f] 111)=w1 at k1 ⊢;obtain⟨y,hyy⟩:∃ y,y=w.heap.size:=⟨_,rfl⟩;rw[← hyy];refine norm0 (a':=⟨#[u,(stopV o p g f),uu,ptr y,uu,uu,uu,uu,uu,uu,uu,uu,uu,uu,uu,uu,uu,uu,uu,uu,uu,uu],[]⟩) ?_;refine hD.e0 ?_;refine hD.s0 ?_;refine hD.s0 ?_;refine hD.r0 ?_;refine hD.mv u hk ?_;refine norm0 (a':=⟨#[u,(stopV o p g f),uu,ptr y,u,uu,uu,uu,uu,uu,uu,uu,uu,uu,uu,uu,uu,uu,uu,uu,uu,uu],[]⟩) ?_;refine hD.cf #[u] hk Try.func80 ?_;refine hK.callp fits shut (f:=80) rfl (v:=.bool true) (fun τ d=>hi _ ⟨k1.size,k1.block⟩) ?_;refine fin0 (some 5) ?_;refine norm0 (a':=⟨#[u,(stopV o p g f),uu,ptr y,u,.bool true,uu,uu,uu,uu,uu,uu,uu,uu,uu,uu,uu,uu,uu,uu,uu,uu],[]⟩) ?_;refine hD.e0 ?_;refine hD.cond (n:=0) true rfl rfl ?_;refine hD.ret (n:=0) ?_;exact hD.leave (n:=0) (b:=base 59) (v:=.tuple #[]) rfl rfl Try.func59 (fun τ d=>res0 rfl) hcm (h _ k1)
theorem step_idle (hK:Cl Try.prog m K){u:Value}{cl:Frame}(hcm:cl.mode=.run)(hi:∀ w',Kp [] w w'→Calls Try.prog 80 #[u] w' fun e w2=>e=.returned (.bool true)∧w2=w')(h:∀ w',Kp [] w w'→K (gs (cl.finish (.tuple #[])) cs) w'):K (gs (Frame.enter Try.prog 29 #[u] .normal) (cl::cs)) w:=by
 have hD:=hK.det;rw[enter15];have hk:(base 29).kind≠.early:=nofun;refine hD.r0 ?_;refine hD.mv u hk ?_;refine hD.pu (stopV false false false .nilFunc) hk (fun w=>pu_bstep rfl) ?_;refine norm0 (a':=⟨#[u,uu,u,(stopV false false false .nilFunc),uu],[]⟩) ?_;refine hD.cf #[u,stopV false false false .nilFunc] hk Try.func59 ?_;exact yield_idle hK rfl rfl hi fun w' k=>y15_back hD hcm (h w' k)
theorem wait_idle (hK:Cl Try.prog m K){u rv:Value}(hrv:isFn rv){cl:Frame}(hcm:cl.mode=.run)(hi:∀ w',Kp [] w w'→Calls Try.prog 80 #[u] w' fun e w2=>e=.returned (.bool true)∧w2=w')(h:∀ w',Kp [] w w'→K (gs (cl.finish (.tuple #[])) cs) w'):K (gs (Frame.enter Try.prog 35 #[u,rv] .normal) (cl::cs)) w:=by
 have hD:=hK.det;rw[enter16];have hk:(base 35).kind≠.early:=nofun;refine hD.r0 ?_;refine hD.mv u hk ?_;refine hD.mv rv hk ?_;refine hD.pu (stopV false false false rv) hk (fun w=>pu_bwait (x:=.tmp 5) rfl rfl hrv) ?_;refine norm0 (a':=⟨#[u,rv,uu,uu,u,rv,(stopV false false false rv),uu],[]⟩) ?_;refine hD.cf #[u,stopV false false false rv] hk Try.func59 ?_;exact yield_idle hK rfl rfl hi fun w' k=>y16_back hD hcm (h w' k)
end
theorem idle_over {w:World}{b r i:Nat}{tu:Value}(hb:Cel w b [ptr r,.int .i64 i,tu,.bool false] 131)(hr:∃ ba sa sk ac,Cel w r [ba,sa,sk,ac,.bool true] 118):∀ w',Kp [] w w'→Calls Try.prog 80 #[ptr b] w' fun e w2=>e=.returned (.bool true)∧w2=w':=fun w' k=>by
 obtain⟨ba,sa,sk,ac,hr⟩:=hr;exact idle_calls w' b r i tu false true ba sa sk ac (k.cel hb (by simp)) (k.cel hr (by simp))
theorem idle_none {w:World}:∀ w',Kp [] w w'→Calls Try.prog 80 #[.pointer none] w' fun e w2=>e=.returned (.bool true)∧w2=w':=fun w' _=>idle_nil w'
theorem pu_mk1 {a:Act}{oo:Oper}{w:World}{x:Operand}{u:Value}{ff:FuncId}(h:oo.op=.makeFunc (.func ff) #[] #[x])(hx:a.eval x=u):(execOp a.eval oo).run Try.prog w=.ok (.value (.func (.func ff) #[] #[u])) w:=by
 unfold execOp;rw[h];exact run_vv (by simp only[List.map_toArray,List.map_cons,List.map_nil,hx];simp[go_sem])
theorem x_bs50 {a:Act}{oo:Oper}{w:World}{x:Operand}{f:FuncId}{cap:Array Value}(h:oo.op=.buildSlice 27 1 #[(0,x)])(hx:a.eval x=.func (.func f) #[] cap):(execOp a.eval oo).run Try.prog w=.ok (.value (.slice (some ⟨w.heap.size,0,none⟩) 1 1)) (w.alloc (.cells #[.func (.func f) #[] cap] 31)):=by
 unfold execOp;rw[h];generalize a.eval=ρ at hx ⊢;simp only[Array.map_map,List.map_toArray,List.map,Function.comp,hx];exact run_vv (by simp[go_sem,Try.underlying27,Try.runUnderlying27,Try.sizeOf31,Try.isAgg31,Try.zeroValue31])
theorem flat_noughts:∀ n:Nat,(List.replicate n 0).flatMap (fun _:Nat=>([.int .u8 0]:List Value))=List.replicate n (Value.int .u8 0)
 | 0=>rfl
 | n+1=>by rw[List.replicate_succ,List.replicate_succ,List.flatMap_cons,flat_noughts n];rfl
theorem xr_len (x:Nat→Value):∀ n s,(xr x s n).length=n
 | 0,_=>rfl
 | n+1,s=>congrArg (· + 1) (xr_len x n (s+1))
theorem xr_get (x:Nat→Value):∀ n s i,i<n→(xr x s n)[i]?=some (x (s+i))
 | 0,_,_,h=>absurd h (Nat.not_lt_zero _)
 | n+1,s,0,_=>rfl
 | n+1,s,i+1,h=>by
  show(xr x (s+1) n)[i]?=_;rw[xr_get x n (s+1) i (by omega),show s+1+i=s+(i+1) by omega]
def fg (n:Nat)(x:Nat→Value):Array Value:=(xr x 0 n).toArray
def up (x:Nat→Value)(d:Nat)(v:Value)(i:Nat):Value:=bif Nat.beq i d then v else x i
theorem fg_get {n i:Nat}{x:Nat→Value}(h:i<n):(fg n x)[i]?=some (x i):=by
 unfold fg;rw[List.getElem?_toArray,xr_get x n 0 i h,Nat.zero_add]
theorem fg_size {n:Nat}{x:Nat→Value}:(fg n x).size=n:=xr_len x n 0
theorem fg_put {n:Nat}{x:Nat→Value}{d:Nat}{v:Value}{ds:List Deferred}(hd:Nat.ble (d+1) n=true):(⟨fg n x,ds⟩:Act).put (some d) v=⟨fg n (up x d v),ds⟩:=by
 have h:d<n:=Nat.le_of_ble_eq_true hd;have e:(fg n x).setIfInBounds d v=fg n (up x d v):=by
  apply Array.ext_getElem?;intro i;rw[Array.getElem?_setIfInBounds];by_cases hi:i<n
  ·rw[fg_get hi,fg_get hi]
   by_cases e:d=i
   ·subst e
    rw[if_pos rfl,if_pos (by rw[fg_size];exact h)];simp[up]
   ·rw[if_neg e]
    have:Nat.beq i d=false:=by
     cases hb:Nat.beq i d with
     | false=>rfl
     | true=>exact absurd (Nat.eq_of_beq_eq_true hb).symm e
    simp[up,this]
  ·rw[if_neg (by omega),ae' (by rw[fg_size];omega),ae' (by rw[fg_size];omega)]
 show(⟨(fg n x).setIfInBounds d v,ds⟩:Act)=_;rw[e]
theorem nm {K:Goroutine→World→Prop}{b:Frame}{n:Nat}{x:Nat→Value}{d:Nat}{v:Value}{ds:List Deferred}{t:List Item}{cs:List Frame}{w:World}(hd:Nat.ble (d+1) n=true)(h:K (gs (b.at ⟨fg n (up x d v),ds⟩ t) cs) w):K (gs (b.at ((⟨fg n x,ds⟩:Act).put (some d) v) t) cs) w:=by
 rw[fg_put hd];exact h
theorem t_fg {t:Array Value}{n:Nat}(h:t.size=n):t=fg n fun q=>t.getD q undef:=by
 apply Array.ext_getElem?;intro i;by_cases hi:i<n
 ·rw[fg_get hi,as' (by omega)]
  simp[Array.getD,h,hi]
 ·rw[ae' (by omega),ae' (by rw[fg_size];omega)]
def ag (args:List Value)(i:Nat):Value:=args.getD i undef
theorem enter_fg {P:Program}{f:FuncId}{fn:Func}{c:Code}{n:Nat}{args:List Value}(hf:P.funcs[f]?=some fn)(hb:fn.body=some c)(hnt:fn.ntmps=n)(hn:Nat.ble args.length n=true):Frame.enter P f args.toArray .normal=(base f).at ⟨fg n (ag args),[]⟩ [.code c]:=by
 refine enter_lit hf hb ?_;have hl:args.length≤n:=Nat.le_of_ble_eq_true hn;apply List.ext_getElem?;intro i;rw[show(fg n (ag args)).toList=xr (ag args) 0 n from rfl,show args.toArray.toList=args from rfl,show args.toArray.size=args.length from rfl];subst hnt;by_cases hi:i<fn.ntmps
 ·rw[xr_get _ _ _ _ hi,Nat.zero_add]
  by_cases ha:i<args.length
  ·rw[List.getElem?_append_left ha,List.getElem?_eq_getElem ha]
   simp[ag,List.getD_eq_getElem?_getD,List.getElem?_eq_getElem ha]
  ·rw[List.getElem?_append_right (Nat.le_of_not_lt ha),List.getElem?_replicate,if_pos (by omega)]
   simp[ag,List.getD_eq_getElem?_getD,List.getElem?_eq_none (Nat.le_of_not_lt ha)]
 ·rw[List.getElem?_eq_none (by rw[xr_len];omega),List.getElem?_eq_none (by rw[la',List.length_replicate];omega)]
def lQ (n:Nat)(Pr:(Nat→Value)→Prop)(w:World)(t:Array Value)(w':World):Prop:=∃ x,t=fg n x∧Pr x∧Kp [] w w'
theorem lQ_mk {n:Nat}{Pr:(Nat→Value)→Prop}{w w':World}{t:Array Value}(hs:t.size=n)(h:Pr fun q=>t.getD q undef)(k:Keeps [] w w'):lQ n Pr w t w':=⟨_,t_fg hs,h,Keeps.kp k⟩
theorem lQ_re {n:Nat}{Pr:(Nat→Value)→Prop}{w w':World}{t:Array Value}(h:lQ n Pr w t w')(τ:Nat→Question→Nat)(d:Nat):lQ n Pr w t (re w' τ d):=let ⟨x,h1,h2,h3⟩:=h;⟨x,h1,h2,⟨h3.size,h3.block⟩⟩
theorem lQ_un {n:Nat}{Pr:(Nat→Value)→Prop}{w w':World}{t:Array Value}{τ:Nat→Question→Nat}{d:Nat}(h:lQ n Pr (re w τ d) t w'):lQ n Pr w t w':=let ⟨x,h1,h2,h3⟩:=h;⟨x,h1,h2,⟨h3.size,h3.block⟩⟩
def firsts (N s:Nat):Array Bool:=((List.range N).map fun j=>decide (j<s)).toArray
theorem lin_last {K:Goroutine→World→Prop}{b:Frame}{a:Act}{k:List Item}{cs:List Frame}{w:World}{ops:Array Oper}{s fu t:Nat}(hr:Region.ready .any ops (firsts ops.size s)=[s])(hl:leftN ops (firsts ops.size s)=1)(hf:(firsts ops.size s).setIfInBounds s true=firsts ops.size ops.size)(h:leftN ops (firsts ops.size s)≤fu)(hK:K (gs (b.at a (.inRegion ops [s]::k)) cs) w):K (gs (b.at a (.inRegion ops (Region.linearise.go .any ops fu t (firsts ops.size s) [])::k)) cs) w:=by
 obtain⟨fu',rfl⟩:∃ f',fu=f'+1:=⟨fu-1,by omega⟩;obtain⟨t',e⟩:=lin_one (ops:=ops) (fuel:=fu') (t:=t) (i:=s) (listed:=firsts ops.size s) hr;rw[e,hf,ready_nil (by simp[firsts]) (fun i hi=>by simp[firsts,gd',hi])];exact hK
theorem bne_dec (a b:Int):(a != b)=decide (a≠b):=by by_cases h:a=b<;>simp[h]
theorem lin_none {K:Goroutine→World→Prop}{b:Frame}{a:Act}{k:List Item}{cs:List Frame}{w:World}{ops:Array Oper}{s fu t:Nat}(hs:s=ops.size)(hK:K (gs (b.at a (.inRegion ops []::k)) cs) w):K (gs (b.at a (.inRegion ops (Region.linearise.go .any ops fu t (firsts ops.size s) [])::k)) cs) w:=by
 subst hs;rw[ready_nil (by simp[firsts]) (fun i hi=>by simp[firsts,gd',hi])];exact hK
theorem re_cel {w:World}{τ:Nat→Question→Nat}{d b:Nat}{cs:List Value}{t:TypeId}(h:Cel w b cs t):Cel (re w τ d) b cs t:=h
theorem Kp.kp1 {F:List Nat}{w w' w'':World}(h:Kp [] w w')(k:Kp F w' w''):Kp F w w'':=⟨Nat.le_trans h.size k.size,fun b hb hn=>(k.block b (nl' hb h.size) hn).trans (h.block b hb (by simp))⟩
theorem res1v {P:Program}{fn:Func}{tm:Array Value}{w:World}{t:Tmp}{v:Value}(h:fn.results=#[.tmp t])(ht:tm.getD t undef=v):(results fn tm).run P w=.ok v w:=by
 rw[← ht];exact res1 h
def bindsOf (ops:Array Oper)(j:Nat):List Nat:=match ops[j]? with
 | some o=>((o.after.filter fun e=>Region.binds .any e).map fun e=>e.on).toList
 | none=>[]
def ancOf (ops:Array Oper):Nat→List Nat→List Nat
 | 0,l=>l
 | k+1,l=>ancOf ops k (l++l.flatMap (bindsOf ops))
theorem binds_mem {ops:Array Oper}{j i:Nat}(h:i∈bindsOf ops j):∃ o,ops[j]?=some o∧∃ e∈o.after,e.on=i∧Region.binds .any e=true:=by
 unfold bindsOf at h;cases ho:ops[j]? with
 | none=>rw[ho] at h;simp at h
 | some o =>
  rw[ho] at h;simp only[Array.mem_toList_iff,Array.mem_map,Array.mem_filter] at h;obtain⟨e,⟨h1,h2⟩,rfl⟩:=h;exact⟨o,rfl,e,h1,rfl,h2⟩
theorem anc_listed {ops:Array Oper}{listed:Array Bool}(hc:∀ (i:Nat) (o:Oper),listed.getD i false=true→ops[i]?=some o→∀ e∈o.after,Region.binds .any e=true→listed.getD e.on false=true) :
  ∀ k l,(∀ j∈l,listed.getD j false=true)→∀ j∈ancOf ops k l,listed.getD j false=true
 | 0,_,h=>h
 | k+1,l,h=>anc_listed hc k _ fun j hj=>by
  rcases List.mem_append.1 hj with hj | hj
  ·exact h j hj
  ·obtain⟨i,hi,hji⟩:=List.mem_flatMap.1 hj
   obtain⟨o,ho,e,he,rfl,hb⟩:=binds_mem hji;exact hc i o (h i hi) ho e he hb
def callOk (ops:Array Oper)(s:Nat):Bool:=(List.range s).all (fun j=>(ancOf ops 6 (bindsOf ops s)).contains j)&&((List.range ops.size).all fun j=>decide (j≤s)||(ancOf ops 3 (bindsOf ops j)).contains s)
def freeOf (ops:Array Oper)(s d:Nat):Bool:=(List.range ops.size).all fun j=>decide (j<s)||(match ops[j]? with | some o=>o.dst != some d | none=>true)
def upl (x:Nat→Value)(l:List (Nat × Value)):Nat→Value:=l.foldl (fun x p=>up x p.1 p.2) x
theorem upl_base:∀ (l:List (Nat × Value)) (x:Nat→Value) (d:Nat),(∀ p∈l,p.1≠d)→upl x l d=x d
 | [],_,_,_=>rfl
 | p::l,x,d,h=>by
  show upl (up x p.1 p.2) l d=_;rw[upl_base l _ d fun q hq=>h q (List.mem_cons_of_mem _ hq)];have:Nat.beq d p.1=false:=by
   cases hb:Nat.beq d p.1 with
   | false=>rfl
   | true=>exact absurd (Nat.eq_of_beq_eq_true hb).symm (h p mc')
  simp[up,this]
theorem upl_self:∀ (l:List (Nat × Value)) (x:Nat→Value),(∀ p∈l,x p.1=p.2)→upl x l=x
 | [],_,_=>rfl
 | p::l,x,h=>by
  have e:up x p.1 p.2=x:=by
   funext i;unfold up;cases hb:Nat.beq i p.1 with
   | false=>rfl
   | true=>rw[Nat.eq_of_beq_eq_true hb];exact(h p mc').symm
  show upl (up x p.1 p.2) l=x;rw[e];exact upl_self l x fun q hq=>h q (List.mem_cons_of_mem _ hq)
def allK (Q:Nat→Value→Prop):List (Nat × Value)→Prop
 | []=>True
 | p::l=>Q p.1 p.2∧allK Q l
theorem allK.get {Q:Nat→Value→Prop}:∀ {l:List (Nat × Value)},allK Q l→∀ p∈l,Q p.1 p.2
 | p::l,h,q,hq=>by
  rcases List.mem_cons.1 hq with rfl | hq
  ·exact h.1
  ·exact allK.get h.2 q hq
theorem allK.self {x:Nat→Value}{l:List (Nat × Value)}(h:allK (fun d v=>x d=v) l):x=upl x l:=(upl_self l x h.get).symm
theorem draw_call {m:Bool}{K:Goroutine→World→Prop}(hK:Cl Try.prog m K){b:Frame}{k:List Item}{cs:List Frame}{w:World}{id n s:Nat}{ops:Array Oper}{x:Nat→Value}(l:List (Nat × Value))(hk:b.kind=.normal)(hm:Try.prog.follows .mixedOrders=true)(H:OrdOk Try.prog ops (fg n (upl x l)) [] (fun j=>decide (s≤j)) w)(hlow:lowOk ops=true)(hs:decide (s<ops.size)=true)(hc:callOk ops s=true)
  (kn:List (Nat × Value)) (hkn:allK (fun d v=>d<n∧freeOf ops s d=true∧upl x l d=v) kn)
  (h:∀ x' fu t,leftN ops (firsts ops.size (s+1))≤fu→K (gs (b.at ⟨fg n (upl x' kn),[]⟩ (.inRegion ops (s::Region.linearise.go .any ops fu t (firsts ops.size (s+1)) [])::k)) cs) w)
  (hl:((l.map fun p=>p.1).all fun d=>ops.any fun o=>o.dst==some d)=true):K (gs (b.at ⟨fg n x,[]⟩ (.code (.region id ops true)::k)) cs) w:=by
 have hs':s<ops.size:=by simpa using hs
 have hbase:∀ d,(∀ (i:Nat) (o:Oper),ops[i]?=some o→o.dst≠some d)→upl x l d=x d:=fun d hd=>upl_base l x d fun p hp e=>by
  have h1:=List.all_eq_true.1 hl p.1 (List.mem_map_of_mem hp);obtain⟨o,ho,he⟩:=Array.any_eq_true'.1 h1;obtain⟨i,hi⟩:=Array.mem_iff_getElem?.1 ho;exact hd i o hi (by rw[beq_iff_eq.1 he,e])
 have h:∀ x' fu t,(∀ d,d<n→freeOf ops s d=true→x' d=upl x l d)→leftN ops (firsts ops.size (s+1))≤fu→K (gs (b.at ⟨fg n x',[]⟩ (.inRegion ops (s::Region.linearise.go .any ops fu t (firsts ops.size (s+1)) [])::k)) cs) w:=fun x' fu t hx hf=>by
  have:=h x' fu t hf;rw[upl_self kn x' fun p hp=>by
   obtain⟨h1,h2,h3⟩:=hkn.get p hp;rw[hx p.1 h1 h2,h3]] at this
  exact this
 clear hkn;generalize upl x l=xf at *;have hke:b.kind≠.early:=by rw[hk];nofun
 refine hK.draw hm fun t=>?_;have hI:OInv ops (fg n xf) (Array.replicate ops.size false) (fg n x):=by
  refine⟨by rw[fg_size,fg_size],by simp,fun i o d h=>?_,fun d hd=>?_,fun i o h=>?_⟩
  ·simp only[gd',Array.getElem?_replicate] at h
   split at h<;>cases h
  ·have e:=hbase d hd
   by_cases hdn:d<n
   ·rw[gd',gd',fg_get hdn,fg_get hdn,e]
   ·have hz:∀ y,(fg n y)[d]?=none:=fun y=>ae' (by rw[fg_size];exact Nat.le_of_not_lt hdn)
    rw[gd',gd',hz,hz]
  ·simp only[gd',Array.getElem?_replicate] at h
   split at h<;>cases h
 refine ord_walk (Kn:=fun _=>K) (n:=0) (s:=s) hK.det (fun _ _ _ h=>h) hke H hlow hs' (by simp) (fun _=>False) (fun fuel t li tm j hJ _ hj hsp hls hle=>?_) _ t _ _ hI (fun _ h=>h.elim) (by
  rw[gd',Array.getElem?_replicate,if_pos hs'];rfl) leftN_init
 unfold callOk at hc;rw[Bool.and_eq_true] at hc;obtain⟨hc1,hc2⟩:=hc;have hjs:s≤j:=by simpa using hsp
 obtain⟨_,oj,hoj,hall⟩:=ready_mem hj;have hjN:=lt_of_op hoj;obtain rfl:j=s:=by
  apply Classical.byContradiction;intro hne;have h1:=List.all_eq_true.1 hc2 j (List.mem_range.2 hjN);rw[Bool.or_eq_true] at h1;have h2:s∈ancOf ops 3 (bindsOf ops j):=by
   rcases h1 with h1 | h1
   ·have:=of_decide_eq_true h1;omega
   ·exact List.contains_iff_mem.1 h1
  have:=anc_listed hJ.closed 3 _ (fun i hi=>by
   obtain⟨o,ho,e,he,rfl,hb⟩:=binds_mem hi;rw[hoj] at ho;cases ho;exact hall e he hb) s h2
  rw[hls] at this;cases this
 have hfull:∀ i,i<j→li.getD i false=true:=fun i hi=>by
  have h1:=List.all_eq_true.1 hc1 i (List.mem_range.2 hi);exact anc_listed hJ.closed 6 _ (fun i hi=>by
   obtain⟨o,ho,e,he,rfl,hb⟩:=binds_mem hi;rw[hoj] at ho;cases ho;exact hall e he hb) i (List.contains_iff_mem.1 h1)
 have hnone:∀ i,j≤i→li.getD i false=false:=fun i hi=>by
  by_cases hiN:i<ops.size
  ·apply Classical.byContradiction
   intro hne;have hl:li.getD i false=true:=by simpa using hne
   by_cases e:i=j
   ·subst e;rw[hls] at hl;cases hl
   ·have h1:=List.all_eq_true.1 hc2 i (List.mem_range.2 hiN)
    rw[Bool.or_eq_true] at h1;have h2:j∈ancOf ops 3 (bindsOf ops i):=by
     rcases h1 with h1 | h1
     ·have:=of_decide_eq_true h1;omega
     ·exact List.contains_iff_mem.1 h1
    have:=anc_listed hJ.closed 3 _ (fun q hq=>by
     obtain⟨o,ho,e,he,rfl,hb⟩:=binds_mem hq;exact hJ.closed i o hl ho e he hb) j h2
    rw[hls] at this;cases this
  ·rw[gd',ae' (by rw[hJ.lsize];omega)];rfl
 have hli:li.setIfInBounds j true=firsts ops.size (j+1):=by
  apply Array.ext
  ·simp[firsts,hJ.lsize]
  ·intro i h1 h2
   have hiN:i<li.size:=by simpa using h1
   have hg:∀ b,li.getD i false=b→li[i]=b:=fun b e=>by
    rw[gd',as' hiN] at e;exact e
   rw[Array.getElem_setIfInBounds hiN];simp only[firsts,List.getElem_toArray,List.getElem_map,List.getElem_range];by_cases e:j=i
   ·subst e;simp
   ·rw[if_neg e]
    by_cases hlt:i<j
    ·rw[hg true (hfull i hlt),decide_eq_true (by omega)]
    ·rw[hg false (hnone i (by omega)),decide_eq_false (by omega)]
 have htm:tm=fg n fun q=>tm.getD q undef:=t_fg (hJ.size.trans fg_size);rw[hli] at hle ⊢;rw[htm];refine h _ _ _ (fun d hd hfr=>?_) hle;have hfin:(fg n xf).getD d undef=xf d:=by rw[gd',fg_get hd];rfl
 rw[← hfin];by_cases hb:∃ (i:Nat) (oi:Oper),ops[i]?=some oi∧oi.dst=some d
 ·obtain⟨i,oi,hi,hid⟩:=hb
  refine hJ.val i oi d (hfull i ?_) hi hid;have h1:=List.all_eq_true.1 hfr i (List.mem_range.2 (lt_of_op hi));rw[Bool.or_eq_true] at h1;rcases h1 with h1 | h1
  ·exact of_decide_eq_true h1
  ·rw[hi] at h1;simp[hid] at h1
 ·exact hJ.base d fun i o h1 h2=>hb ⟨i,o,h1,h2⟩
def OkFr (f:Frame):Prop:=f.mode=.run∧f.defers=[]∧∃ fn,Try.prog.funcs[f.fn]?=some fn
structure Plan (L A:Type) where
 mem:A→(Nat→TS L)→(Nat→Prop)→World→Prop
 go:Nat→ES L→A→Nat→A × Option L
 rdy:Nat→L→A→Bool
theorem Kx.refl' (X:Nat→Prop)(w:World):Kx X X w w:=⟨Nat.le_refl _,fun _ _ _=>rfl,fun _ h=>.inl h⟩
theorem Kx.comp {X Y Z:Nat→Prop}{w w' w'':World}(h:Kx X Y w w')(k:Kx Y Z w' w''):Kx X Z w w'' :=
 ⟨Nat.le_trans h.size k.size,fun b hb hn=>(k.block b (nl' hb h.size) fun hy=>(h.own b hy).elim hn (fun e=>absurd hb (Nat.not_lt.2 e))).trans (h.block b hb hn),
  fun b hb=>(k.own b hb).elim (fun hy=>h.own b hy) fun e=>.inr (Nat.le_trans h.size e)⟩
theorem Kx.ofKp {X:Nat→Prop}{F:List Nat}{w w':World}(h:Kp F w w')(hF:∀ b∈F,X b):Kx X X w w':=⟨h.size,fun b hb hn=>h.block b hb fun hm=>hn (hF b hm),fun _ h=>.inl h⟩
section
variable {L A:Type}(p:Plan L A)(C:WC)
structure ThR (rs:L × List Nat→List Frame→Prop)(i:Nat)(K:Goroutine→World→Prop)(F:Frame)(cs:List Frame)(st:Nat→TS L)(X:Nat→Prop)(w:World)(n:Nat)(P:A × Option L):Prop where
 cl:Cl Try.prog false K
 fm:F.mode=.run
 hi:i<C.n
 n0:0<n
 n4:n<4294967296
 bt:Cel w (C.bt i) [ptr C.r,.int .i64 i,.chan (some (C.ch i)),.bool false] 131
 rn:∃ ba sa ck ga ca,Cel w C.r [ba,sa,ck,.slice ga n ca,.bool false] 118
 hy:∀ a' l' rv c rest X' w',P=(a',some l'.1)→rs l' (c::rest)→p.mem a' (updT st i (.susp l' rv)) X' w'→Kx X X' w w'→isFn rv→K (gs (Frame.enter Try.prog 59 #[ptr (C.bt i),stopV false false false rv] .normal) (c::(rest++F::cs))) w'
 hd:∀ a' X' w',P=(a',none)→p.mem a' (updT st i .done) X' w'→Kx X X' w w'→K (gs (F.finish (.tuple #[])) cs) w'
def RsK (i:Nat):Nat→L × List Nat→List Frame→Prop
 | 0,_,_=>False
 | k+1,l,fs=>(∀ f∈fs,OkFr f)∧∀ c rest,fs=c::rest→∀ K F cs st X w n a,ThR p C (RsK i k) i K F cs st X w n (p.go i (.susp l.1) a n)→(∃ rv,st i=.susp l rv)→p.mem a st X w→K (gs (c.finish (.tuple #[])) (rest++F::cs)) w
abbrev Th (k i:Nat):=ThR p C (RsK p C i k) i
def Plan.bods:Bods L A where
 mem:=p.mem
 rs i l fs:=∃ k,RsK p C i k l fs
 go:=p.go
 rdy:=p.rdy
 due _:=True
end
section
variable {L A:Type}{p:Plan L A}{C:WC}{k i:Nat}{K:Goroutine→World→Prop}{F:Frame}{cs:List Frame}{st:Nat→TS L}{X X':Nat→Prop}{w w':World}{n:Nat}{P:A × Option L}
theorem ThR.to {rs:L × List Nat→List Frame→Prop}(T:ThR p C rs i K F cs st X w n P)(h:Kx X X' w w')(hb:w'.heap[C.bt i]?=w.heap[C.bt i]?)(hr:w'.heap[C.r]?=w.heap[C.r]?):ThR p C rs i K F cs st X' w' n P:=by
 obtain⟨ba,sa,ck,ga,ca,hrn⟩:=T.rn;exact⟨T.cl,T.fm,T.hi,T.n0,T.n4,T.bt.same hb,⟨ba,sa,ck,ga,ca,hrn.same hr⟩,fun a' l' rv c rest X2 w2 e h1 h2 h3 h4=>T.hy a' l' rv c rest X2 w2 e h1 h2 (h.comp h3) h4,fun a' X2 w2 e h1 h2=>T.hd a' X2 w2 e h1 (h.comp h2)⟩
theorem ThR.kp {rs:L × List Nat→List Frame→Prop}(T:ThR p C rs i K F cs st X w n P)(h:Kp [] w w'):ThR p C rs i K F cs st X w' n P:=by
 obtain⟨ba,sa,ck,ga,ca,hrn⟩:=T.rn;exact T.to (Kx.ofKp h (by simp)) (h.block _ T.bt.lt (by simp)) (h.block _ hrn.lt (by simp))
theorem ThR.kp1 {rs:L × List Nat→List Frame→Prop}(T:ThR p C rs i K F cs st X w n P){b:Nat}{cells:List Value}{t:TypeId}(hb:Cel w b cells t)(h1:t≠131)(h2:t≠118)(hX:X b)(h:Kp [b] w w'):ThR p C rs i K F cs st X w' n P:=by
 obtain⟨ba,sa,ck,ga,ca,hrn⟩:=T.rn;exact T.to (Kx.ofKp h (by simpa using hX)) (h.block _ T.bt.lt (by simpa using cel_ne T.bt hb (Ne.symm h1))) (h.block _ hrn.lt (by simpa using cel_ne hrn hb (Ne.symm h2)))
theorem ThR.eqP {rs:L × List Nat→List Frame→Prop}{P':A × Option L}(T:ThR p C rs i K F cs st X w n P)(e:P=P'):ThR p C rs i K F cs st X w n P':=e▸T
theorem ThR.yield {a:A}{l:L}{g:List Nat}{rv:Value}{c:Frame}{rest:List Frame}(T:Th p C (k+1) i K F cs st X w n (a,some l))(hrv:isFn rv)(hc:∀ f∈c::rest,OkFr f)(hm:p.mem a (updT st i (.susp (l,g) rv)) X w)
  (hres:∀ K F cs st X w n a,Th p C k i K F cs st X w n (p.go i (.susp l) a n)→(∃ rv,st i=.susp (l,g) rv)→p.mem a st X w→K (gs (c.finish (.tuple #[])) (rest++F::cs)) w) :
  K (gs (Frame.enter Try.prog 59 #[ptr (C.bt i),stopV false false false rv] .normal) (c::(rest++F::cs))) w :=
 T.hy a (l,g) rv c rest X w rfl ⟨hc,fun c' rest' e=>by cases e;exact hres⟩ hm (Kx.refl' X w) hrv
theorem ThR.step {a:A}{l:L}{g:List Nat}{c:Frame}{rest:List Frame}(T:Th p C (k+1) i K F cs st X w n (a,some l))(hc:∀ f∈c::rest,OkFr f)(hm:p.mem a (updT st i (.susp (l,g) .nilFunc)) X w)
  (hres:∀ K F cs st X w n a,Th p C k i K F cs st X w n (p.go i (.susp l) a n)→(∃ rv,st i=.susp (l,g) rv)→p.mem a st X w→K (gs (c.finish (.tuple #[])) (rest++F::cs)) w) :
  K (gs (Frame.enter Try.prog 29 #[ptr (C.bt i)] .normal) (c::(rest++F::cs))) w:=by
 refine step_to T.cl.det fun tm=>?_;refine T.yield (c:=y15 tm) (rest:=c::rest) (.inl rfl) (fun f hf=>?_) hm fun K F cs st X w n a T' h1 h2=>?_
 ·rcases List.mem_cons.1 hf with rfl | hf
  ·exact⟨rfl,rfl,_,Try.func29⟩
  ·exact hc f hf
 ·exact y15_back T'.cl.det (hc c (by simp)).1 (hres K F cs st X w n a T' h1 h2)
theorem ThR.wait {a:A}{l:L}{g:List Nat}{rv:Value}{c:Frame}{rest:List Frame}(T:Th p C (k+1) i K F cs st X w n (a,some l))(hrv:isFn rv)(hc:∀ f∈c::rest,OkFr f)(hm:p.mem a (updT st i (.susp (l,g) rv)) X w)
  (hres:∀ K F cs st X w n a,Th p C k i K F cs st X w n (p.go i (.susp l) a n)→(∃ rv,st i=.susp (l,g) rv)→p.mem a st X w→K (gs (c.finish (.tuple #[])) (rest++F::cs)) w) :
  K (gs (Frame.enter Try.prog 35 #[ptr (C.bt i),rv] .normal) (c::(rest++F::cs))) w:=by
 refine wait_to T.cl.det hrv fun tm=>?_;refine T.yield (c:=y16 tm) (rest:=c::rest) hrv (fun f hf=>?_) hm fun K F cs st X w n a T' h1 h2=>?_
 ·rcases List.mem_cons.1 hf with rfl | hf
  ·exact⟨rfl,rfl,_,Try.func35⟩
  ·exact hc f hf
 ·exact y16_back T'.cl.det (hc c (by simp)).1 (hres K F cs st X w n a T' h1 h2)
theorem Plan.ok (hbound:∀ {a st X w b},p.mem a st X w→X b→b<w.heap.size)(hframe:∀ {a st X w w'},p.mem a st X w→(∀ b,X b→w'.heap[b]?=w.heap[b]?)→w.heap.size≤w'.heap.size→p.mem a st X w')
  (hready:∀ {a st X w i l rv},p.mem a st X w→i<C.n→st i=.susp l rv→(rv=.nilFunc∧p.rdy i l.1 a=true) ∨
   ∃ f bd cap fn cd,rv=.func (.func f) bd cap∧Try.prog.funcs[f]?=some fn∧(fn.name == "runtime.NumGoroutine")=false∧fn.body=some cd∧∀ m K,Cl Try.prog m K→Asks K w f (bd++cap) (p.rdy i l.1 a))
  (hfns:∀ {i},i<C.n→∃ fn cd,Try.prog.funcs[C.fn i]?=some fn∧(fn.name == "runtime.NumGoroutine")=false∧fn.body=some cd)
  (hfresh:∀ i,i<C.n→∃ k,∀ K F cs st X w n a args,Th p C k i K F cs st X w n (p.go i .fresh a n)→st i=.fresh→p.mem a st X w→ptr (C.bt i)::(C.cap i).toList=Array.toList args→K (gs (Frame.enter Try.prog (C.fn i) args .normal) (F::cs)) w):BOk (p.bods C) C where
 dues _ _ _ _:=trivial
 bound:=hbound
 frame:=hframe
 rsok h:=by
  obtain⟨k,h⟩:=h;cases k with
  | zero=>exact h.elim
  | succ k=>exact h.1
 ready:=hready
 fns:=hfns
 run {i st a X w n ga ca ba sa ck F cs g} hi h hn' hn0 hbt hr hst hFm K hK hy hd:=by
  have hT:∀ k t,er (st i)=t→Th p C k i K F cs st X w n (p.go i t a n):=fun k t e=>⟨hK,hFm,hi,hn0,hn',hbt,⟨_,_,_,_,_,hr⟩,fun a' l' rv c rest X' w' e' h1 h2 h3 h4=>hy a' l' rv c rest X' w' (by rw[e];exact e') ⟨k,h1⟩ h2 h3 h4,fun a' X' w' e' h1 h2=>hd a' X' w' (by rw[e];exact e') h1 h2⟩;cases e:st i with
  | fresh =>
   rw[e] at hst;obtain⟨args,ha,rfl⟩:=hst;obtain⟨k,hk⟩:=hfresh i hi;exact hk K F cs st X w n a args (hT k .fresh (by rw[e];rfl)) e h ha
  | susp l rv =>
   rw[e] at hst;obtain⟨c,rest,⟨k,hrs⟩,rfl⟩:=hst;cases k with
   | zero=>exact hrs.elim
   | succ k=>exact hrs.2 c rest rfl K F cs st X w n a (hT k (.susp l.1) (by rw[e];rfl)) ⟨rv,e⟩ h
  | done=>rw[e] at hst;exact hst.elim
end
def q9:Code:=Try.f9.body.getD .skip
def q10:Code:=Try.f10.body.getD .skip
def q11:Code:=Try.f11.body.getD .skip
def q16:Code:=Try.f16.body.getD .skip
def q27:Code:=Try.f27.body.getD .skip
def q28:Code:=Try.f28.body.getD .skip
def q30:Code:=Try.f30.body.getD .skip
def q32:Code:=Try.f32.body.getD .skip
def q34:Code:=Try.f34.body.getD .skip
def q37:Code:=Try.f37.body.getD .skip
def q38:Code:=Try.f38.body.getD .skip
def q49:Code:=Try.f49.body.getD .skip
def q58:Code:=Try.f58.body.getD .skip
theorem w_eql28_p {a:Act}{oo:Oper}{w:World}{x:Operand}(h:oo.op=.binOp .eql 28 x (.const (.pointer none)) 28){ad:Addr}(hx:a.eval x=.pointer (some ad)):(execOp a.eval oo).run Try.prog w=.ok (.value (.bool false)) w:=by
 unfold execOp;rw[h];simp only[hx];rw[show a.eval (.const (.pointer none))=.pointer none from rfl];exact run_vv (by simp[go_sem,Try.underlying28,Try.runUnderlying28])
theorem w_eql48_p {a:Act}{oo:Oper}{w:World}{x:Operand}(h:oo.op=.binOp .eql 48 x (.const (.pointer none)) 48){ad:Addr}(hx:a.eval x=.pointer (some ad)):(execOp a.eval oo).run Try.prog w=.ok (.value (.bool false)) w:=by
 unfold execOp;rw[h];simp only[hx];rw[show a.eval (.const (.pointer none))=.pointer none from rfl];exact run_vv (by simp[go_sem,Try.underlying48,Try.runUnderlying48])
theorem fa91_0 {b o:Nat}:∀ w,(Instr.fieldAt 91 (.pointer (some ⟨b,o,none⟩)) 0).run Try.prog w=.ok (.pointer (some ⟨b,o+0,none⟩)) w:=fun w=>by
 simp[go_sem,Try.underlying91,Try.runUnderlying91,Try.sizeOf91,Try.isAgg91,Try.sizeOf86]
theorem fa86_0 {b o:Nat}:∀ w,(Instr.fieldAt 86 (.pointer (some ⟨b,o,none⟩)) 0).run Try.prog w=.ok (.pointer (some ⟨b,o+0,none⟩)) w:=fun w=>by
 simp[go_sem,Try.underlying86,Try.runUnderlying86,Try.sizeOf86,Try.isAgg86,Try.sizeOf3,Try.sizeOf4]
theorem l_4 {w:World}{a:Addr}{v:Value}(hc:w.cell? a=some v):(Instr.loadAt 4 (.pointer (some a))).run Try.prog w=.ok v w:=by simp[go_sem,hc,Try.underlying4,Try.runUnderlying4,Try.sizeOf4,Try.isAgg4]
theorem w_mk1_0 {a:Act}{oo:Oper}{w:World}{x0:Operand}{u0:Value}{ff:FuncId}(h:oo.op=.makeFunc (.func ff) #[x0] #[])(hx0:a.eval x0=u0):(execOp a.eval oo).run Try.prog w=.ok (.value (.func (.func ff) #[u0] #[])) w:=by
 unfold execOp;rw[h];exact run_vv (by simp only[List.map_toArray,List.map_cons,List.map_nil,hx0];simp[go_sem])
theorem w_eql35 {a:Act}{oo:Oper}{w:World}{x y:Operand}{i j:Int}(h:oo.op=.binOp .eql 35 x y 35)(hx:a.eval x=.int .i64 i)(hy:a.eval y=.int .i64 j):(execOp a.eval oo).run Try.prog w=.ok (.value (.bool (decide (i=j)))) w:=by
 unfold execOp;rw[h];simp only[hx,hy];exact run_vv (by simp[go_sem,Try.underlying35,Try.runUnderlying35]<;>rfl)
theorem fa86_1 {b o:Nat}:∀ w,(Instr.fieldAt 86 (.pointer (some ⟨b,o,none⟩)) 1).run Try.prog w=.ok (.pointer (some ⟨b,o+1,none⟩)) w:=fun w=>by
 simp[go_sem,Try.underlying86,Try.runUnderlying86,Try.sizeOf86,Try.isAgg86,Try.sizeOf3,Try.sizeOf4]
theorem s_3 {w:World}{a:Addr}{x:Value}{y:Int}(hc:w.cell? a=some x)(hf:w.frozen? a=false):(Instr.storeAt 3 (.pointer (some a)) (.int .i64 y)).run Try.prog w=.ok () (w.setCell a (.int .i64 y)):=by simp[go_sem,hc,hf,Try.underlying3,Try.runUnderlying3,Try.sizeOf3,Try.isAgg3]
theorem w_eql25_p {a:Act}{oo:Oper}{w:World}{x:Operand}(h:oo.op=.binOp .eql 25 x (.const (.pointer none)) 25){ad:Addr}(hx:a.eval x=.pointer (some ad)):(execOp a.eval oo).run Try.prog w=.ok (.value (.bool false)) w:=by
 unfold execOp;rw[h];simp only[hx];rw[show a.eval (.const (.pointer none))=.pointer none from rfl];exact run_vv (by simp[go_sem,Try.underlying25,Try.runUnderlying25])
theorem fa82_0 {b o:Nat}:∀ w,(Instr.fieldAt 82 (.pointer (some ⟨b,o,none⟩)) 0).run Try.prog w=.ok (.pointer (some ⟨b,o+0,none⟩)) w:=fun w=>by
 simp[go_sem,Try.underlying82,Try.runUnderlying82,Try.sizeOf82,Try.isAgg82,Try.sizeOf3,Try.sizeOf4]
theorem fa82_2 {b o:Nat}:∀ w,(Instr.fieldAt 82 (.pointer (some ⟨b,o,none⟩)) 2).run Try.prog w=.ok (.pointer (some ⟨b,o+2,none⟩)) w:=fun w=>by
 simp[go_sem,Try.underlying82,Try.runUnderlying82,Try.sizeOf82,Try.isAgg82,Try.sizeOf3,Try.sizeOf4]
theorem l_3 {w:World}{a:Addr}{v:Value}(hc:w.cell? a=some v):(Instr.loadAt 3 (.pointer (some a))).run Try.prog w=.ok v w:=by simp[go_sem,hc,Try.underlying3,Try.runUnderlying3,Try.sizeOf3,Try.isAgg3]
theorem w_add3 {a:Act}{oo:Oper}{w:World}{x y:Operand}{i j:Int}(h:oo.op=.binOp .add 3 x y 3)(hx:a.eval x=.int .i64 i)(hy:a.eval y=.int .i64 j):(execOp a.eval oo).run Try.prog w=.ok (.value (.int .i64 (wrap64 (i+j)))) w:=by
 unfold execOp;rw[h];simp only[hx,hy];exact run_vv (by simp[go_sem,Try.underlying3,Try.runUnderlying3,IntKind.wrap_i64,wrap64])
theorem fa82_1 {b o:Nat}:∀ w,(Instr.fieldAt 82 (.pointer (some ⟨b,o,none⟩)) 1).run Try.prog w=.ok (.pointer (some ⟨b,o+1,none⟩)) w:=fun w=>by
 simp[go_sem,Try.underlying82,Try.runUnderlying82,Try.sizeOf82,Try.isAgg82,Try.sizeOf3,Try.sizeOf4]
theorem w_neq3 {a:Act}{oo:Oper}{w:World}{x y:Operand}{i j:Int}(h:oo.op=.binOp .neq 3 x y 3)(hx:a.eval x=.int .i64 i)(hy:a.eval y=.int .i64 j):(execOp a.eval oo).run Try.prog w=.ok (.value (.bool (decide (i≠j)))) w:=by
 unfold execOp;rw[h];simp only[hx,hy];exact run_vv (by simp[go_sem,Try.underlying3,Try.runUnderlying3,bne,BEq.beq])
theorem w_eql139_p {a:Act}{oo:Oper}{w:World}{x:Operand}(h:oo.op=.binOp .eql 139 x (.const (.pointer none)) 139){ad:Addr}(hx:a.eval x=.pointer (some ad)):(execOp a.eval oo).run Try.prog w=.ok (.value (.bool false)) w:=by
 unfold execOp;rw[h];simp only[hx];rw[show a.eval (.const (.pointer none))=.pointer none from rfl];exact run_vv (by simp[go_sem,Try.underlying139,Try.runUnderlying139])
theorem w_eql39_p {a:Act}{oo:Oper}{w:World}{x:Operand}(h:oo.op=.binOp .eql 39 x (.const (.pointer none)) 39){ad:Addr}(hx:a.eval x=.pointer (some ad)):(execOp a.eval oo).run Try.prog w=.ok (.value (.bool false)) w:=by
 unfold execOp;rw[h];simp only[hx];rw[show a.eval (.const (.pointer none))=.pointer none from rfl];exact run_vv (by simp[go_sem,Try.underlying39,Try.runUnderlying39])
theorem fa88_0 {b o:Nat}:∀ w,(Instr.fieldAt 88 (.pointer (some ⟨b,o,none⟩)) 0).run Try.prog w=.ok (.pointer (some ⟨b,o+0,none⟩)) w:=fun w=>by
 simp[go_sem,Try.underlying88,Try.runUnderlying88,Try.sizeOf88,Try.isAgg88,Try.sizeOf3,Try.sizeOf86]
theorem w_eql50_p {a:Act}{oo:Oper}{w:World}{x:Operand}(h:oo.op=.binOp .eql 50 x (.const (.pointer none)) 50){ad:Addr}(hx:a.eval x=.pointer (some ad)):(execOp a.eval oo).run Try.prog w=.ok (.value (.bool false)) w:=by
 unfold execOp;rw[h];simp only[hx];rw[show a.eval (.const (.pointer none))=.pointer none from rfl];exact run_vv (by simp[go_sem,Try.underlying50,Try.runUnderlying50])
theorem fa93_0 {b o:Nat}:∀ w,(Instr.fieldAt 93 (.pointer (some ⟨b,o,none⟩)) 0).run Try.prog w=.ok (.pointer (some ⟨b,o+0,none⟩)) w:=fun w=>by
 simp[go_sem,Try.underlying93,Try.runUnderlying93,Try.sizeOf93,Try.isAgg93,Try.sizeOf3,Try.sizeOf86]
theorem who_calls (w:World)(b r:Nat)(i:Nat)(n:Nat)(tu ba sa ck:Value)(ga:Option Addr){ca:Nat}(hb:Cel w b [ptr r,.int .i64 i,tu,.bool false] 131)(hr:Cel w r [ba,sa,ck,.slice ga n ca,.bool false] 118):Calls Try.prog 37 #[ptr b] w fun e w'=>e=.returned (.int .i64 i)∧w'=w:=by
 have HT:=Lib.hid (thread_calls w b r i tu false false ba sa ck _ hb hr)
 go_enter Try.func37,Try.ntmps37
 go_wp2_with (go_at_call 69;refine(HT.out).mono ?_;rintro e w' ⟨rfl,rfl⟩)
 go_ret
 exact⟨rfl,rfl⟩
theorem free_calls (w:World)(mb:Nat){by0:Int}(h1:w.cell? ⟨mb,1,none⟩=some (.int .i64 by0)):Calls Try.prog 34 #[ptr mb] w fun e w'=>e=.returned (.bool (decide (by0 = -1)))∧w'=w:=by
 go_enter Try.func34,Try.ntmps34
 go_wp2
 go_ret
 exact⟨rfl,rfl⟩
theorem oq28 {mb:Nat}{C:WC}{i:Nat}{w:World}{x:Nat→Value}(e0:x 0=(ptr mb))(e1:x 1=(ptr (C.bt i)))  : OrdOk Try.prog (sO (sL (sR (sR q28)))) (fg 34 (up (up (up (up (up (up (up (up x 16 (ptr mb)) 17 (ptr mb)) 18 (ptr mb)) 19 (ptr (C.bt i))) 20 (ptr mb)) 21 (ptr mb)) 22 (ptr mb)) 23 (.func (.func 34) #[ptr mb] #[]))) [] (fun j=>decide (8≤j)) w:=by
 refine⟨fun q9 o ho hs=>?_,by decide +kernel,by decide +kernel⟩
 match q9,ho,hs with
 | 0,ho,_ =>
  obtain rfl:=so' ho;exact⟨16,⟨rfl,rfl,rfl,(by decide +kernel),nofun⟩,(show 16<34 by decide),fun a h τ δ=>ex_move rfl (show a.eval (.tmp 0)=(ptr mb) from(h _ (show Operand.tmp 0∈(#[Operand.tmp 0]:Array Operand) by simp)).trans e0)⟩
 | 1,ho,_ =>
  obtain rfl:=so' ho;exact⟨17,⟨rfl,rfl,rfl,(by decide +kernel),nofun⟩,(show 17<34 by decide),fun a h τ δ=>ex_nilc rfl (show a.eval (.tmp 16)=(ptr mb) from(h _ (show Operand.tmp 16∈(#[Operand.tmp 16]:Array Operand) by simp)))⟩
 | 2,ho,_ =>
  obtain rfl:=so' ho;exact⟨18,⟨rfl,rfl,rfl,(by decide +kernel),nofun⟩,(show 18<34 by decide),fun a h τ δ=>ex_field (v:=(ptr mb)) rfl (show a.eval (.tmp 17)=(ptr mb) from(h _ (show Operand.tmp 17∈(#[Operand.tmp 17]:Array Operand) by simp))) fa91_0⟩
 | 3,ho,_ =>
  obtain rfl:=so' ho;exact⟨19,⟨rfl,rfl,rfl,(by decide +kernel),nofun⟩,(show 19<34 by decide),fun a h τ δ=>ex_move rfl (show a.eval (.tmp 1)=(ptr (C.bt i)) from(h _ (show Operand.tmp 1∈(#[Operand.tmp 1]:Array Operand) by simp)).trans e1)⟩
 | 4,ho,_ =>
  obtain rfl:=so' ho;exact⟨20,⟨rfl,rfl,rfl,(by decide +kernel),nofun⟩,(show 20<34 by decide),fun a h τ δ=>ex_move rfl (show a.eval (.tmp 0)=(ptr mb) from(h _ (show Operand.tmp 0∈(#[Operand.tmp 0]:Array Operand) by simp)).trans e0)⟩
 | 5,ho,_ =>
  obtain rfl:=so' ho;exact⟨21,⟨rfl,rfl,rfl,(by decide +kernel),nofun⟩,(show 21<34 by decide),fun a h τ δ=>ex_nilc rfl (show a.eval (.tmp 20)=(ptr mb) from(h _ (show Operand.tmp 20∈(#[Operand.tmp 20]:Array Operand) by simp)))⟩
 | 6,ho,_ =>
  obtain rfl:=so' ho;exact⟨22,⟨rfl,rfl,rfl,(by decide +kernel),nofun⟩,(show 22<34 by decide),fun a h τ δ=>ex_field (v:=(ptr mb)) rfl (show a.eval (.tmp 21)=(ptr mb) from(h _ (show Operand.tmp 21∈(#[Operand.tmp 21]:Array Operand) by simp))) fa91_0⟩
 | 7,ho,_ =>
  obtain rfl:=so' ho;exact⟨23,⟨rfl,rfl,rfl,(by decide +kernel),nofun⟩,(show 23<34 by decide),fun a h τ δ=>w_mk1_0 rfl (show a.eval (.tmp 22)=(ptr mb) from(h _ (show Operand.tmp 22∈(#[Operand.tmp 22]:Array Operand) by simp)))⟩
 | 8,_,hs=>cases hs
 | 9,_,hs=>cases hs
 | n+10,ho,_ =>
  have:=lt_of_op ho;exact absurd this (by show ¬ n+10<10;omega)
theorem oq38 (w:World)(x:Nat→Value)(hb b:Nat)(by1:Int)(i:Nat)(c1:w.cell? ⟨hb,1,none⟩=some (.int .i64 by1))(hw:∀ w',Keeps [] w w'→Calls Try.prog 37 #[ptr b] w' fun e w2=>e=.returned (.int .i64 i)∧w2=w')(h0:x 0=ptr hb)(h1:x 1=ptr b) :
  (sL (sL (sR (sR (sR q38))))).wp Try.prog (fun e a' w'=>e=.normal∧a'.defers=[]∧lQ 26 (fun x=>x 0=ptr hb∧x 1=ptr b∧x 22=.bool (decide (by1≠i))) w a'.tmps w') ⟨fg 26 x,[]⟩ w:=by
 have HQ:Hid (∀ (t:Array Value) (w':World),lQ 26 (fun x=>x 0=ptr hb∧x 1=ptr b∧x 22=.bool (decide (by1≠i))) w t w'→lQ 26 (fun x=>x 0=ptr hb∧x 1=ptr b∧x 22=.bool (decide (by1≠i))) w t w'):=Lib.hid fun _ _ h=>h;generalize hG:lQ 26 (fun x=>x 0=ptr hb∧x 1=ptr b∧x 22=.bool (decide (by1≠i))) w=G at HQ ⊢;have HG:=Lib.hid hG;clear hG;rw[show fg 26 x=#[x 0,x 1,x 2,x 3,x 4,x 5,x 6,x 7,x 8,x 9,x 10,x 11,x 12,x 13,x 14,x 15,x 16,x 17,x 18,x 19,x 20,x 21,x 22,x 23,x 24,x 25] from rfl];simp only[q38,Try.f38,Option.getD_some,sL,sR,sB,sT,sF,h0,h1];have HW:=Lib.hid hw;clear hw
 go_wp2
 go_quiet (first | (go_at_call 37;exact Calls.quiet_of_same (HW.out _ ((Keeps.refl _ _).drewN _))))
 go_wp2
 refine HQ.out _ _ ?_;rw[← HG.out];exact lQ_mk rfl ⟨rfl,rfl,congrArg Value.bool (bne_dec _ _)⟩ ((Keeps.refl _ _).drewN _)
section
variable {L A:Type}{p:Plan L A}{C:WC}{k i n:Nat}{K:Goroutine→World→Prop}{F c:Frame}{cs rest:List Frame}{st:Nat→TS L}{X:Nat→Prop}{w:World}{a:A}{l:L}{g:List Nat}{P:A × Option L}
theorem held_wait {h rv:Value}(T:Th p C (k+1) i K F cs st X w n (a,some l))(hc:∀ f∈c::rest,OkFr f)(hrv:isFn rv)(hm:p.mem a (updT st i (.susp (l,g) rv)) X w)(hres:∀ K F cs st X w n a,Th p C k i K F cs st X w n (p.go i (.susp l) a n)→(∃ rv,st i=.susp (l,g) rv)→p.mem a st X w→K (gs (c.finish (.int .i64 0)) (rest++F::cs)) w):K (gs (Frame.enter Try.prog 58 #[h,ptr (C.bt i),rv] .normal) (c::(rest++F::cs))) w:=by
 have hk:(base 58).kind≠.early:=nofun;have hK:=T.cl;have hD:=hK.det;rw[show(#[h,ptr (C.bt i),rv]:Array Value)=[h,ptr (C.bt i),rv].toArray from rfl,enter_fg (n:=17) (c:=q58) Try.func58 rfl rfl rfl];refine hD.s0 ?_;refine hD.r0 ?_;refine hD.as (.int .i64 0) hk ?_;refine nm rfl ?_;refine hD.e0 ?_;refine hD.s0 ?_;refine hD.s0 ?_;refine hD.r0 ?_;refine hD.mv (ptr (C.bt i)) hk ?_;refine nm rfl ?_;refine hD.pu (.bool false) hk (fun w=>w_eql28_p rfl rfl) ?_;refine nm rfl ?_;refine hD.mv (.bool false) hk ?_;refine nm rfl ?_;refine hD.gu (n:=0) rfl rfl rfl (by decide +kernel) nofun ?_;refine nm rfl ?_;refine hD.gu (n:=0) rfl rfl rfl (by decide +kernel) nofun ?_;refine nm rfl ?_;refine hD.gu (n:=0) rfl rfl rfl (by decide +kernel) nofun ?_;refine nm rfl ?_;refine hD.pu (.bool false) hk (fun w=>pu_pick (t:=false) rfl rfl rfl) ?_;refine nm rfl ?_;refine hD.e0 ?_;refine hD.cond (n:=0) false rfl rfl ?_;refine hD.k0 ?_;refine hD.s0 ?_;refine hD.r0 ?_;refine hD.mv (ptr (C.bt i)) hk ?_;refine nm rfl ?_;refine hD.mv rv hk ?_;refine nm rfl ?_;refine hD.cf #[ptr (C.bt i),rv] hk Try.func35 ?_;refine T.wait (rest:=c::rest) hrv (fun f hf=>by rcases List.mem_cons.1 hf with rfl | hf;exact⟨rfl,rfl,_,Try.func58⟩;exact hc f hf) hm fun K F cs st X w n a T h1 h2=>?_;have hK:=T.cl;have hD:=hK.det;refine fin0 (some 16) ?_;refine nm rfl ?_;refine hD.e0 ?_;refine hD.s0 ?_;refine hD.r0 ?_;refine hD.as (.int .i64 0) hk ?_;refine nm rfl ?_;refine hD.e0 ?_;refine hD.ret (n:=0) ?_;exact hD.leave (n:=0) (b:=base 58) (v:=.int .i64 0) rfl rfl Try.func58 (fun τ d=>res1v rfl rfl) (hc c (by simp)).1 (hres K F cs st X w n a T h1 h2)
theorem mutex_lock {mb:Nat}{by0:Int}(T:Th p C (k+1) i K F cs st X w n (a,some l))(hc:∀ f∈c::rest,OkFr f)(hmb:Cel w mb [.bool true,.int .i64 by0] 91)(hm:p.mem a (updT st i (.susp (l,g) (.func (.func 34) #[ptr mb] #[]))) X w)(hres:∀ K F cs st X w n a,Th p C k i K F cs st X w n (p.go i (.susp l) a n)→(∃ rv,st i=.susp (l,g) rv)→p.mem a st X w→∃ by1,Blk w mb [.bool true,.int .i64 by1] 91∧X mb∧∀ w',Kp [mb] w w'→Blk w' mb [.bool true,.int .i64 i] 91→Th p C k i K F cs st X w' n (p.go i (.susp l) a n)→K (gs (c.finish (.int .i64 0)) (rest++F::cs)) w'):K (gs (Frame.enter Try.prog 28 #[ptr mb,ptr (C.bt i)] .normal) (c::(rest++F::cs))) w:=by
 have hk:(base 28).kind≠.early:=nofun;have hK:=T.cl;have hD:=hK.det;rw[show(#[ptr mb,ptr (C.bt i)]:Array Value)=[ptr mb,ptr (C.bt i)].toArray from rfl,enter_fg (n:=34) (c:=q28) Try.func28 rfl rfl rfl];refine hD.s0 ?_;refine hD.r0 ?_;refine hD.as (.int .i64 0) hk ?_;refine nm rfl ?_;refine hD.e0 ?_;refine hD.s0 ?_;refine hD.s0 ?_;refine hD.r0 ?_;refine hD.mv (ptr mb) hk ?_;refine nm rfl ?_;refine hD.pu (.bool false) hk (fun w=>w_eql48_p rfl rfl) ?_;refine nm rfl ?_;refine hD.mv (.bool false) hk ?_;refine nm rfl ?_;refine hD.gv (n:=0) (v:=(ptr mb)) hk rfl rfl rfl (by decide +kernel) nofun (fun τ d=>ex_move rfl rfl) ?_;refine nm rfl ?_;refine hD.gv (n:=0) (v:=(ptr mb)) hk rfl rfl rfl (by decide +kernel) nofun (fun τ d=>ex_nilc rfl rfl) ?_;refine nm rfl ?_;refine hD.gv (n:=0) (v:=(ptr mb)) hk rfl rfl rfl (by decide +kernel) nofun (fun τ d=>ex_field (v:=(ptr mb)) rfl rfl fa91_0) ?_;refine nm rfl ?_;refine hD.gv (n:=0) (v:=(ptr mb)) hk rfl rfl rfl (by decide +kernel) nofun (fun τ d=>ex_field (v:=(ptr mb)) rfl rfl fa86_0) ?_;refine nm rfl ?_;refine hD.gv (n:=0) (v:=(.bool true)) hk rfl rfl rfl (by decide +kernel) nofun (fun τ d=>ex_load rfl rfl (l_4 (hmb.cell 0))) ?_;refine nm rfl ?_;refine hD.gv (n:=0) (v:=(.bool false)) hk rfl rfl rfl (by decide +kernel) nofun (fun τ d=>pu_not (y:=true) rfl rfl) ?_;refine nm rfl ?_;refine hD.pu (.bool false) hk (fun w=>pu_pick (t:=false) rfl rfl rfl) ?_;refine nm rfl ?_;refine hD.e0 ?_;refine hD.cond (n:=0) false rfl rfl ?_;refine hD.k0 ?_;refine hD.s0 ?_;refine draw_call (s:=8) hK [(16,(ptr mb)),(17,(ptr mb)),(18,(ptr mb)),(19,(ptr (C.bt i))),(20,(ptr mb)),(21,(ptr mb)),(22,(ptr mb)),(23,(.func (.func 34) #[ptr mb] #[]))] rfl mixed (oq28 rfl rfl) (by decide +kernel) (by decide +kernel) (by decide +kernel)
  [(0,(ptr mb)),(1,(ptr (C.bt i))),(4,(.int .i64 0)),(6,(ptr mb)),(7,(.bool false)),(8,(.bool false)),(9,(ptr mb)),(10,(ptr mb)),(11,(ptr mb)),(12,(ptr mb)),(13,(.bool true)),(14,(.bool false)),(15,(.bool false)),(16,(ptr mb)),(17,(ptr mb)),(18,(ptr mb)),(19,(ptr (C.bt i))),(20,(ptr mb)),(21,(ptr mb)),(22,(ptr mb)),(23,(.func (.func 34) #[ptr mb] #[]))] ⟨⟨(show 0<34 by decide),(show freeOf (sO (sL (sR (sR q28)))) 8 0=true by decide +kernel),rfl⟩,⟨(show 1<34 by decide),(show freeOf (sO (sL (sR (sR q28)))) 8 1=true by decide +kernel),rfl⟩,⟨(show 4<34 by decide),(show freeOf (sO (sL (sR (sR q28)))) 8 4=true by decide +kernel),rfl⟩,⟨(show 6<34 by decide),(show freeOf (sO (sL (sR (sR q28)))) 8 6=true by decide +kernel),rfl⟩,⟨(show 7<34 by decide),(show freeOf (sO (sL (sR (sR q28)))) 8 7=true by decide +kernel),rfl⟩,⟨(show 8<34 by decide),(show freeOf (sO (sL (sR (sR q28)))) 8 8=true by decide +kernel),rfl⟩,⟨(show 9<34 by decide),(show freeOf (sO (sL (sR (sR q28)))) 8 9=true by decide +kernel),rfl⟩,⟨(show 10<34 by decide),(show freeOf (sO (sL (sR (sR q28)))) 8 10=true by decide +kernel),rfl⟩,⟨(show 11<34 by decide),(show freeOf (sO (sL (sR (sR q28)))) 8 11=true by decide +kernel),rfl⟩,⟨(show 12<34 by decide),(show freeOf (sO (sL (sR (sR q28)))) 8 12=true by decide +kernel),rfl⟩,⟨(show 13<34 by decide),(show freeOf (sO (sL (sR (sR q28)))) 8 13=true by decide +kernel),rfl⟩,⟨(show 14<34 by decide),(show freeOf (sO (sL (sR (sR q28)))) 8 14=true by decide +kernel),rfl⟩,⟨(show 15<34 by decide),(show freeOf (sO (sL (sR (sR q28)))) 8 15=true by decide +kernel),rfl⟩,⟨(show 16<34 by decide),(show freeOf (sO (sL (sR (sR q28)))) 8 16=true by decide +kernel),rfl⟩,⟨(show 17<34 by decide),(show freeOf (sO (sL (sR (sR q28)))) 8 17=true by decide +kernel),rfl⟩,⟨(show 18<34 by decide),(show freeOf (sO (sL (sR (sR q28)))) 8 18=true by decide +kernel),rfl⟩,⟨(show 19<34 by decide),(show freeOf (sO (sL (sR (sR q28)))) 8 19=true by decide +kernel),rfl⟩,⟨(show 20<34 by decide),(show freeOf (sO (sL (sR (sR q28)))) 8 20=true by decide +kernel),rfl⟩,⟨(show 21<34 by decide),(show freeOf (sO (sL (sR (sR q28)))) 8 21=true by decide +kernel),rfl⟩,⟨(show 22<34 by decide),(show freeOf (sO (sL (sR (sR q28)))) 8 22=true by decide +kernel),rfl⟩,⟨(show 23<34 by decide),(show freeOf (sO (sL (sR (sR q28)))) 8 23=true by decide +kernel),rfl⟩,trivial⟩ (fun x2 fu te hfu=>?_) (show(([16,17,18,19,20,21,22,23]:List Nat).all fun d=>(sO (sL (sR (sR q28)))).any fun o=>o.dst==some d)=true by decide +kernel)
 refine hD.cf #[ptr mb,ptr (C.bt i),(.func (.func 34) #[ptr mb] #[])] hk Try.func58 ?_;refine held_wait (rest:=c::rest) T (fun f hf=>by rcases List.mem_cons.1 hf with rfl | hf;exact⟨rfl,rfl,_,Try.func28⟩;exact hc f hf) (.inr ⟨_,_,_,rfl⟩) hm fun K F cs st X w n a T h1 h2=>?_;have hK:=T.cl;have hD:=hK.det;obtain⟨by1,hb1,hX,hnext⟩:=hres K F cs st X w n a T h1 h2;refine fin0 (some 24) ?_;refine nm rfl ?_;refine lin_last (by decide +kernel) (by decide +kernel) (by decide +kernel) hfu ?_;refine hD.as (.int .i64 0) hk ?_;refine nm rfl ?_;refine hD.e0 ?_;refine hD.s0 ?_;refine hD.s0 ?_;refine hD.r0 ?_;refine hD.mv (.int .i64 0) hk ?_;refine nm rfl ?_;refine hD.pu (.bool (decide ((0:Int)=0))) hk (fun w=>w_eql35 rfl rfl rfl) ?_;refine nm rfl ?_;refine hD.e0 ?_;refine hD.cond (n:=0) true rfl rfl ?_;refine hD.r0 ?_;refine hD.mv (ptr mb) hk ?_;refine nm rfl ?_;refine hD.mv (ptr (C.bt i)) hk ?_;refine nm rfl ?_;refine hD.cf #[ptr (C.bt i)] hk Try.func37 ?_;obtain⟨ba,sa,ck,ga,ca,hrn⟩:=T.rn;refine hK.callp fits shut (f:=37) rfl (v:=.int .i64 i) (fun τ d=>who_calls _ _ _ _ _ _ _ _ _ _ T.bt hrn) ?_;refine fin0 (some 29) ?_;refine nm rfl ?_;refine hD.nc ⟨mb,0,none⟩ hk ?_;refine nm rfl ?_;refine hD.field (n:=0) (v:=(ptr mb)) (u:=(ptr mb)) hk rfl ⟨rfl,rfl,rfl,rfl,nofun⟩ rfl fa91_0 ?_;refine nm rfl ?_;refine hD.field (n:=0) (v:=(ptrAt mb 1)) (u:=(ptr mb)) hk rfl ⟨rfl,rfl,rfl,rfl,nofun⟩ rfl fa86_1 ?_;refine nm rfl ?_;refine hD.store (n:=0) (u:=(ptrAt mb 1)) (z:=(.int .i64 (i:Int))) hk rfl ⟨rfl,rfl,rfl,rfl,nofun⟩ rfl rfl (fun τ d=>((s_3 (w:=re w τ d) (hb1.cell 1) (hb1.frozen 1)).trans (congrArg (Result.ok ()) re_setCell))) (Nat.le_of_eq (World.size_setCell _ _ _).symm) ?_;obtain⟨w1,hsw1⟩:∃ z,z=w.setCell ⟨mb,1,none⟩ (.int .i64 (i:Int)):=⟨_,rfl⟩;have ksw1:Kp [mb] w w1:=by rw[hsw1];exact⟨Nat.le_of_eq (World.size_setCell _ _ _).symm,fun c hc hn=>setCell_frame (by simpa using hn)⟩
 have bw1:Blk w1 mb [.bool true,.int .i64 (i:Int)] 91:=by rw[hsw1];exact hb1.set 1 _
 rw[← hsw1];clear hsw1;refine hD.e0 ?_;refine hD.s0 ?_;refine hD.r0 ?_;refine hD.mv (.int .i64 0) hk ?_;refine nm rfl ?_;refine hD.as (.int .i64 0) hk ?_;refine nm rfl ?_;refine hD.e0 ?_;refine hD.ret (n:=0) ?_;exact hD.leave (n:=0) (b:=base 28) (v:=.int .i64 0) rfl rfl Try.func28 (fun τ d=>res1v rfl rfl) (hc c (by simp)).1 (hnext _ ksw1 bw1 (T.kp1 (Blk.cel hb1) (by decide) (by decide) hX ksw1))
theorem cell_begins {cb:Nat}{v0 n0:Int}(T:Th p C (k+1) i K F cs st X w n (a,some l))(hc:∀ f∈c::rest,OkFr f)(hcb:Cel w cb [.bool true,.int .i64 v0,.int .i64 n0] 82)(hm:p.mem a (updT st i (.susp (l,g) .nilFunc)) X w)(hres:∀ K F cs st X w n a,Th p C k i K F cs st X w n (p.go i (.susp l) a n)→(∃ rv,st i=.susp (l,g) rv)→p.mem a st X w→∃ v1 n1,Blk w cb [.bool true,.int .i64 v1,.int .i64 n1] 82∧X cb∧∀ w',Kp [cb] w w'→Blk w' cb [.bool true,.int .i64 v1,.int .i64 (wrap64 (n1+1))] 82→Th p C k i K F cs st X w' n (p.go i (.susp l) a n)→K (gs (c.finish (.bool true)) (rest++F::cs)) w'):K (gs (Frame.enter Try.prog 32 #[ptr cb,ptr (C.bt i)] .normal) (c::(rest++F::cs))) w:=by
 have hk:(base 32).kind≠.early:=nofun;have hK:=T.cl;have hD:=hK.det;rw[show(#[ptr cb,ptr (C.bt i)]:Array Value)=[ptr cb,ptr (C.bt i)].toArray from rfl,enter_fg (n:=23) (c:=q32) Try.func32 rfl rfl rfl];refine hD.s0 ?_;refine hD.r0 ?_;refine hD.as (.bool false) hk ?_;refine nm rfl ?_;refine hD.e0 ?_;refine hD.s0 ?_;refine hD.s0 ?_;refine hD.r0 ?_;refine hD.mv (ptr cb) hk ?_;refine nm rfl ?_;refine hD.pu (.bool false) hk (fun w=>w_eql25_p rfl rfl) ?_;refine nm rfl ?_;refine hD.mv (.bool false) hk ?_;refine nm rfl ?_;refine hD.gv (n:=0) (v:=(ptr cb)) hk rfl rfl rfl (by decide +kernel) nofun (fun τ d=>ex_move rfl rfl) ?_;refine nm rfl ?_;refine hD.gv (n:=0) (v:=(ptr cb)) hk rfl rfl rfl (by decide +kernel) nofun (fun τ d=>ex_nilc rfl rfl) ?_;refine nm rfl ?_;refine hD.gv (n:=0) (v:=(ptr cb)) hk rfl rfl rfl (by decide +kernel) nofun (fun τ d=>ex_field (v:=(ptr cb)) rfl rfl fa82_0) ?_;refine nm rfl ?_;refine hD.gv (n:=0) (v:=(.bool true)) hk rfl rfl rfl (by decide +kernel) nofun (fun τ d=>ex_load rfl rfl (l_4 (hcb.cell 0))) ?_;refine nm rfl ?_;refine hD.gv (n:=0) (v:=(.bool false)) hk rfl rfl rfl (by decide +kernel) nofun (fun τ d=>pu_not (y:=true) rfl rfl) ?_;refine nm rfl ?_;refine hD.pu (.bool false) hk (fun w=>pu_pick (t:=false) rfl rfl rfl) ?_;refine nm rfl ?_;refine hD.e0 ?_;refine hD.cond (n:=0) false rfl rfl ?_;refine hD.k0 ?_;refine hD.s0 ?_;refine hD.r0 ?_;refine hD.mv (ptr (C.bt i)) hk ?_;refine nm rfl ?_;refine hD.cf #[ptr (C.bt i)] hk Try.func29 ?_;refine T.step (rest:=c::rest) (fun f hf=>by rcases List.mem_cons.1 hf with rfl | hf;exact⟨rfl,rfl,_,Try.func32⟩;exact hc f hf) hm fun K F cs st X w n a T h1 h2=>?_;have hK:=T.cl;have hD:=hK.det;obtain⟨v1,n1,hb1,hX,hnext⟩:=hres K F cs st X w n a T h1 h2;refine fin0 (some 15) ?_;refine nm rfl ?_;refine hD.e0 ?_;refine hD.s0 ?_;refine hD.r0 ?_;refine hD.mv (ptr cb) hk ?_;refine nm rfl ?_;refine hD.nc ⟨cb,0,none⟩ hk ?_;refine nm rfl ?_;refine hD.field (n:=0) (v:=(ptrAt cb 2)) (u:=(ptr cb)) hk rfl ⟨rfl,rfl,rfl,rfl,nofun⟩ rfl fa82_2 ?_;refine nm rfl ?_;refine hD.ld (.int .i64 n1) hk (fun τ d=>l_3 (hb1.cell 2)) ?_;refine nm rfl ?_;refine hD.pu (.int .i64 (wrap64 (n1+1))) hk (fun w=>w_add3 rfl rfl rfl) ?_;refine nm rfl ?_;refine hD.nc ⟨cb,0,none⟩ hk ?_;refine nm rfl ?_;refine hD.field (n:=0) (v:=(ptrAt cb 2)) (u:=(ptr cb)) hk rfl ⟨rfl,rfl,rfl,rfl,nofun⟩ rfl fa82_2 ?_;refine nm rfl ?_;refine hD.store (n:=0) (u:=(ptrAt cb 2)) (z:=(.int .i64 (wrap64 (n1+1)))) hk rfl ⟨rfl,rfl,rfl,rfl,nofun⟩ rfl rfl (fun τ d=>((s_3 (w:=re w τ d) (hb1.cell 2) (hb1.frozen 2)).trans (congrArg (Result.ok ()) re_setCell))) (Nat.le_of_eq (World.size_setCell _ _ _).symm) ?_;obtain⟨w1,hsw1⟩:∃ z,z=w.setCell ⟨cb,2,none⟩ (.int .i64 (wrap64 (n1+1))):=⟨_,rfl⟩;have ksw1:Kp [cb] w w1:=by rw[hsw1];exact⟨Nat.le_of_eq (World.size_setCell _ _ _).symm,fun c hc hn=>setCell_frame (by simpa using hn)⟩
 have bw1:Blk w1 cb [.bool true,.int .i64 v1,.int .i64 (wrap64 (n1+1))] 82:=by rw[hsw1];exact hb1.set 2 _
 rw[← hsw1];clear hsw1;refine hD.e0 ?_;refine hD.s0 ?_;refine hD.r0 ?_;refine hD.as (.bool true) hk ?_;refine nm rfl ?_;refine hD.e0 ?_;refine hD.ret (n:=0) ?_;exact hD.leave (n:=0) (b:=base 32) (v:=.bool true) rfl rfl Try.func32 (fun τ d=>res1v rfl rfl) (hc c (by simp)).1 (hnext _ ksw1 bw1 (T.kp1 (Blk.cel hb1) (by decide) (by decide) hX ksw1))
theorem cell_load {cb:Nat}{v0 n0:Int}(T:Th p C (k+1) i K F cs st X w n (a,some l))(hc:∀ f∈c::rest,OkFr f)(hcb:Cel w cb [.bool true,.int .i64 v0,.int .i64 n0] 82)(hm:p.mem a (updT st i (.susp (l,g) .nilFunc)) X w)(hres:∀ K F cs st X w n a,Th p C k i K F cs st X w n (p.go i (.susp l) a n)→(∃ rv,st i=.susp (l,g) rv)→p.mem a st X w→∃ v1 n1,Blk w cb [.bool true,.int .i64 v1,.int .i64 n1] 82∧X cb∧∀ w',Kp [cb] w w'→Blk w' cb [.bool true,.int .i64 v1,.int .i64 (wrap64 (n1+1))] 82→Th p C k i K F cs st X w' n (p.go i (.susp l) a n)→K (gs (c.finish (.int .i64 v1)) (rest++F::cs)) w'):K (gs (Frame.enter Try.prog 10 #[ptr cb,ptr (C.bt i)] .normal) (c::(rest++F::cs))) w:=by
 have hk:(base 10).kind≠.early:=nofun;have hK:=T.cl;have hD:=hK.det;rw[show(#[ptr cb,ptr (C.bt i)]:Array Value)=[ptr cb,ptr (C.bt i)].toArray from rfl,enter_fg (n:=15) (c:=q10) Try.func10 rfl rfl rfl];refine hD.s0 ?_;refine hD.r0 ?_;refine hD.as (.int .i64 0) hk ?_;refine nm rfl ?_;refine hD.e0 ?_;refine hD.s0 ?_;refine hD.r0 ?_;refine hD.as (.int .i64 0) hk ?_;refine nm rfl ?_;refine hD.e0 ?_;refine hD.s0 ?_;refine hD.s0 ?_;refine hD.r0 ?_;refine hD.mv (ptr cb) hk ?_;refine nm rfl ?_;refine hD.mv (ptr (C.bt i)) hk ?_;refine nm rfl ?_;refine hD.cf #[ptr cb,ptr (C.bt i)] hk Try.func32 ?_;refine cell_begins (rest:=c::rest) T (fun f hf=>by rcases List.mem_cons.1 hf with rfl | hf;exact⟨rfl,rfl,_,Try.func10⟩;exact hc f hf) hcb hm fun K F cs st X w n a T h1 h2=>?_;obtain⟨v1,n1,hb1,hX,hnext⟩:=hres K F cs st X w n a T h1 h2;refine⟨v1,n1,hb1,hX,fun w k1 b1 T=>?_⟩;have hK:=T.cl;have hD:=hK.det;refine fin0 (some 8) ?_;refine nm rfl ?_;refine hD.pu (.bool false) hk (fun w=>pu_not (y:=true) rfl rfl) ?_;refine nm rfl ?_;refine hD.e0 ?_;refine hD.cond (n:=0) false rfl rfl ?_;refine hD.k0 ?_;refine hD.s0 ?_;refine hD.r0 ?_;refine hD.mv (ptr cb) hk ?_;refine nm rfl ?_;refine hD.nc ⟨cb,0,none⟩ hk ?_;refine nm rfl ?_;refine hD.field (n:=0) (v:=(ptrAt cb 1)) (u:=(ptr cb)) hk rfl ⟨rfl,rfl,rfl,rfl,nofun⟩ rfl fa82_1 ?_;refine nm rfl ?_;refine hD.ld (.int .i64 v1) hk (fun τ d=>l_3 (b1.cell 1)) ?_;refine nm rfl ?_;refine hD.as (.int .i64 v1) hk ?_;refine nm rfl ?_;refine hD.e0 ?_;refine hD.ret (n:=0) ?_;exact hD.leave (n:=0) (b:=base 10) (v:=.int .i64 v1) rfl rfl Try.func10 (fun τ d=>res1v rfl rfl) (hc c (by simp)).1 (hnext _ k1 b1 T)
theorem cell_cas {cb:Nat}{v0 n0 old new:Int}(T:Th p C (k+1) i K F cs st X w n (a,some l))(hc:∀ f∈c::rest,OkFr f)(hcb:Cel w cb [.bool true,.int .i64 v0,.int .i64 n0] 82)(hm:p.mem a (updT st i (.susp (l,g) .nilFunc)) X w)(hres:∀ K F cs st X w n a,Th p C k i K F cs st X w n (p.go i (.susp l) a n)→(∃ rv,st i=.susp (l,g) rv)→p.mem a st X w→∃ v1 n1,Blk w cb [.bool true,.int .i64 v1,.int .i64 n1] 82∧X cb∧(v1≠old→∀ w',Kp [cb] w w'→Blk w' cb [.bool true,.int .i64 v1,.int .i64 (wrap64 (n1+1))] 82→Th p C k i K F cs st X w' n (p.go i (.susp l) a n)→K (gs (c.finish (.bool false)) (rest++F::cs)) w')∧(v1=old→∀ w',Kp [cb] w w'→Blk w' cb [.bool true,.int .i64 new,.int .i64 (wrap64 (n1+1))] 82→Th p C k i K F cs st X w' n (p.go i (.susp l) a n)→K (gs (c.finish (.bool true)) (rest++F::cs)) w')):K (gs (Frame.enter Try.prog 11 #[ptr cb,ptr (C.bt i),.int .i64 old,.int .i64 new] .normal) (c::(rest++F::cs))) w:=by
 have hk:(base 11).kind≠.early:=nofun;have hK:=T.cl;have hD:=hK.det;rw[show(#[ptr cb,ptr (C.bt i),.int .i64 old,.int .i64 new]:Array Value)=[ptr cb,ptr (C.bt i),.int .i64 old,.int .i64 new].toArray from rfl,enter_fg (n:=25) (c:=q11) Try.func11 rfl rfl rfl];refine hD.s0 ?_;refine hD.r0 ?_;refine hD.as (.bool false) hk ?_;refine nm rfl ?_;refine hD.e0 ?_;refine hD.s0 ?_;refine hD.s0 ?_;refine hD.r0 ?_;refine hD.mv (ptr cb) hk ?_;refine nm rfl ?_;refine hD.mv (ptr (C.bt i)) hk ?_;refine nm rfl ?_;refine hD.cf #[ptr cb,ptr (C.bt i)] hk Try.func32 ?_;refine cell_begins (rest:=c::rest) T (fun f hf=>by rcases List.mem_cons.1 hf with rfl | hf;exact⟨rfl,rfl,_,Try.func11⟩;exact hc f hf) hcb hm fun K F cs st X w n a T h1 h2=>?_;obtain⟨v1,n1,hb1,hX,hne,heq⟩:=hres K F cs st X w n a T h1 h2;refine⟨v1,n1,hb1,hX,fun w k1 b1 T=>?_⟩;have hK:=T.cl;have hD:=hK.det;refine fin0 (some 11) ?_;refine nm rfl ?_;refine hD.pu (.bool false) hk (fun w=>pu_not (y:=true) rfl rfl) ?_;refine nm rfl ?_;refine hD.mv (.bool false) hk ?_;refine nm rfl ?_;refine hD.gv (n:=0) (v:=(ptr cb)) hk rfl rfl rfl (by decide +kernel) nofun (fun τ d=>ex_move rfl rfl) ?_;refine nm rfl ?_;refine hD.gv (n:=0) (v:=(ptr cb)) hk rfl rfl rfl (by decide +kernel) nofun (fun τ d=>ex_nilc rfl rfl) ?_;refine nm rfl ?_;refine hD.gv (n:=0) (v:=(ptrAt cb 1)) hk rfl rfl rfl (by decide +kernel) nofun (fun τ d=>ex_field (v:=(ptrAt cb 1)) rfl rfl fa82_1) ?_;refine nm rfl ?_;refine hD.gv (n:=0) (v:=(.int .i64 v1)) hk rfl rfl rfl (by decide +kernel) nofun (fun τ d=>ex_load rfl rfl (l_3 (b1.cell 1))) ?_;refine nm rfl ?_;refine hD.gv (n:=0) (v:=(.int .i64 old)) hk rfl rfl rfl (by decide +kernel) nofun (fun τ d=>ex_move rfl rfl) ?_;refine nm rfl ?_;refine hD.gv (n:=0) (v:=(.bool (decide (v1≠old)))) hk rfl rfl rfl (by decide +kernel) nofun (fun τ d=>w_neq3 rfl rfl rfl) ?_;refine nm rfl ?_;refine hD.pu (.bool (decide (v1≠old))) hk (fun w=>pu_pick (t:=false) rfl rfl rfl) ?_;refine nm rfl ?_;refine hD.e0 ?_;by_cases hvo:v1=old
 ·refine hD.cond (n:=0) false (show Value.bool (decide (v1≠old))=_ by rw[decide_eq_false (fun h=>h hvo)]) rfl ?_
  refine hD.k0 ?_;refine hD.s0 ?_;refine hD.r0 ?_;refine hD.mv (ptr cb) hk ?_;refine nm rfl ?_;refine hD.mv (.int .i64 new) hk ?_;refine nm rfl ?_;refine hD.nc ⟨cb,0,none⟩ hk ?_;refine nm rfl ?_;refine hD.field (n:=0) (v:=(ptrAt cb 1)) (u:=(ptr cb)) hk rfl ⟨rfl,rfl,rfl,rfl,nofun⟩ rfl fa82_1 ?_;refine nm rfl ?_;refine hD.store (n:=0) (u:=(ptrAt cb 1)) (z:=(.int .i64 new)) hk rfl ⟨rfl,rfl,rfl,rfl,nofun⟩ rfl rfl (fun τ d=>((s_3 (w:=re w τ d) (b1.cell 1) (b1.frozen 1)).trans (congrArg (Result.ok ()) re_setCell))) (Nat.le_of_eq (World.size_setCell _ _ _).symm) ?_;obtain⟨w1,hsw1⟩:∃ z,z=w.setCell ⟨cb,1,none⟩ (.int .i64 new):=⟨_,rfl⟩;have ksw1:Kp [cb] w w1:=by rw[hsw1];exact⟨Nat.le_of_eq (World.size_setCell _ _ _).symm,fun c hc hn=>setCell_frame (by simpa using hn)⟩
  have bw1:Blk w1 cb [.bool true,.int .i64 new,.int .i64 (wrap64 (n1+1))] 82:=by rw[hsw1];exact b1.set 1 _
  rw[← hsw1];clear hsw1;refine hD.e0 ?_;refine hD.s0 ?_;refine hD.r0 ?_;refine hD.as (.bool true) hk ?_;refine nm rfl ?_;refine hD.e0 ?_;refine hD.ret (n:=0) ?_;exact hD.leave (n:=0) (b:=base 11) (v:=.bool true) rfl rfl Try.func11 (fun τ d=>res1v rfl rfl) (hc c (by simp)).1 (heq hvo _ (k1.trans ksw1) bw1 (T.kp1 (Blk.cel b1) (by decide) (by decide) hX ksw1))
 ·refine hD.cond (n:=0) true (show Value.bool (decide (v1≠old))=_ by rw[decide_eq_true hvo]) rfl ?_
  refine hD.s0 ?_;refine hD.r0 ?_;refine hD.as (.bool false) hk ?_;refine nm rfl ?_;refine hD.e0 ?_;refine hD.ret (n:=0) ?_;exact hD.leave (n:=0) (b:=base 11) (v:=.bool false) rfl rfl Try.func11 (fun τ d=>res1v rfl rfl) (hc c (by simp)).1 (hne hvo _ k1 b1 T)
theorem held_unlock {hb:Nat}{by0:Int}  (T:Th p C (k+1) i K F cs st X w n (a,some l))(hc:∀ f∈c::rest,OkFr f)(hmb:Cel w hb [.bool true,.int .i64 by0] 91)(hm:p.mem a (updT st i (.susp (l,g) .nilFunc)) X w)(hres:∀ K F cs st X w n a,Th p C k i K F cs st X w n (p.go i (.susp l) a n)→(∃ rv,st i=.susp (l,g) rv)→p.mem a st X w→∃ by1 ,Blk w hb [.bool true,.int .i64 by1] 91∧X hb∧(by1≠(i:Int)→∀ w',Kp [] w w'→Blk w' hb [.bool true,.int .i64 by1] 91→Th p C k i K F cs st X w' n (p.go i (.susp l) a n)→K (gs (c.finish (.int .i64 90)) (rest++F::cs)) w')∧(by1=(i:Int)→∀ w',Kp [hb] w w'→Blk w' hb [.bool true,.int .i64 (-1)] 91→Th p C k i K F cs st X w' n (p.go i (.susp l) a n)→K (gs (c.finish (.int .i64 0)) (rest++F::cs)) w')):K (gs (Frame.enter Try.prog 38 #[ptr hb,ptr (C.bt i)] .normal) (c::(rest++F::cs))) w:=by
 have hk:(base 38).kind≠.early:=nofun;have hK:=T.cl;have hD:=hK.det;rw[show(#[ptr hb,ptr (C.bt i)]:Array Value)=[ptr hb,ptr (C.bt i)].toArray from rfl,enter_fg (n:=26) (c:=q38) Try.func38 rfl rfl rfl];refine hD.s0 ?_;refine hD.r0 ?_;refine hD.as (.int .i64 0) hk ?_;refine nm rfl ?_;refine hD.e0 ?_;refine hD.s0 ?_;refine hD.s0 ?_;refine hD.r0 ?_;refine hD.mv (ptr hb) hk ?_;refine nm rfl ?_;refine hD.pu (.bool false) hk (fun w=>w_eql139_p rfl rfl) ?_;refine nm rfl ?_;refine hD.mv (.bool false) hk ?_;refine nm rfl ?_;refine hD.gv (n:=0) (v:=(ptr hb)) hk rfl rfl rfl (by decide +kernel) nofun (fun τ d=>ex_move rfl rfl) ?_;refine nm rfl ?_;refine hD.gv (n:=0) (v:=(ptr hb)) hk rfl rfl rfl (by decide +kernel) nofun (fun τ d=>ex_nilc rfl rfl) ?_;refine nm rfl ?_;refine hD.gv (n:=0) (v:=(ptr hb)) hk rfl rfl rfl (by decide +kernel) nofun (fun τ d=>ex_field (v:=(ptr hb)) rfl rfl fa86_0) ?_;refine nm rfl ?_;refine hD.gv (n:=0) (v:=(.bool true)) hk rfl rfl rfl (by decide +kernel) nofun (fun τ d=>ex_load rfl rfl (l_4 (hmb.cell 0))) ?_;refine nm rfl ?_;refine hD.gv (n:=0) (v:=(.bool false)) hk rfl rfl rfl (by decide +kernel) nofun (fun τ d=>pu_not (y:=true) rfl rfl) ?_;refine nm rfl ?_;refine hD.pu (.bool false) hk (fun w=>pu_pick (t:=false) rfl rfl rfl) ?_;refine nm rfl ?_;refine hD.e0 ?_;refine hD.cond (n:=0) false rfl rfl ?_;refine hD.k0 ?_;refine hD.s0 ?_;refine hD.r0 ?_;refine hD.mv (ptr (C.bt i)) hk ?_;refine nm rfl ?_;refine hD.cf #[ptr (C.bt i)] hk Try.func29 ?_;refine T.step (rest:=c::rest) (fun f hf=>by rcases List.mem_cons.1 hf with rfl | hf;exact⟨rfl,rfl,_,Try.func38⟩;exact hc f hf) hm fun K F cs st X w n a T h1 h2=>?_;have hK:=T.cl;have hD:=hK.det;obtain⟨by1,hb1,hX,hne,heq⟩:=hres K F cs st X w n a T h1 h2;refine fin0 (some 15) ?_;refine nm rfl ?_;refine hD.e0 ?_;refine hD.s0 ?_;refine hD.s0 ?_;obtain⟨ba,sa,ck,ga,ca,hrn⟩:=T.rn;refine hK.seg fits shut (b:=base 38) ⟨_,Try.func38⟩ nofun (c:=(sL (sL (sR (sR (sR q38)))))) (by decide +kernel) (Q:=lQ 26 (fun x=>x 0=ptr hb∧x 1=ptr (C.bt i)∧x 22=.bool (decide (by1≠i))) w) (fun t w' τ d h=>lQ_re h τ d) (fun τ d=>Code.wp_mono (fun e a w' ⟨h1,h2,h3⟩=>⟨h1,h2,lQ_un h3⟩) (oq38 (re w τ d) _ hb (C.bt i) by1 i (hb1.cell 1) (fun w' k=>who_calls w' _ _ _ _ _ _ _ _ _ ((Keeps.kp k).cel (re_cel T.bt) (by simp)) ((Keeps.kp k).cel (re_cel hrn) (by simp))) rfl rfl)) fun t w1 ⟨x',ex',⟨g0,g1,g22⟩,ksw1⟩=>?_;subst ex';rw[allK.self (x:=x') (l:=[(0,ptr hb),(1,ptr (C.bt i)),(22,.bool (decide (by1≠i)))]) ⟨g0,g1,g22,trivial⟩];have hb1':=ksw1.blk hb1 (by simp);have T:=T.kp ksw1;by_cases hbi:by1=i
 ·refine hD.cond (n:=0) false (show Value.bool (decide (by1≠(i:Int)))=_ by rw[decide_eq_false (fun h=>h hbi)]) rfl ?_
  refine hD.k0 ?_;refine hD.s0 ?_;refine hD.r0 ?_;refine hD.mv (ptr hb) hk ?_;refine nm rfl ?_;refine hD.nc ⟨hb,0,none⟩ hk ?_;refine nm rfl ?_;refine hD.field (n:=0) (v:=(ptrAt hb 1)) (u:=(ptr hb)) hk rfl ⟨rfl,rfl,rfl,rfl,nofun⟩ rfl fa86_1 ?_;refine nm rfl ?_;refine hD.store (n:=0) (u:=(ptrAt hb 1)) (z:=(.int .i64 (-1))) hk rfl ⟨rfl,rfl,rfl,rfl,nofun⟩ rfl rfl (fun τ d=>((s_3 (w:=re w1 τ d) (hb1'.cell 1) (hb1'.frozen 1)).trans (congrArg (Result.ok ()) re_setCell))) (Nat.le_of_eq (World.size_setCell _ _ _).symm) ?_;obtain⟨w2,hsw2⟩:∃ z,z=w1.setCell ⟨hb,1,none⟩ (.int .i64 (-1)):=⟨_,rfl⟩;have ksw2:Kp [hb] w1 w2:=by rw[hsw2];exact⟨Nat.le_of_eq (World.size_setCell _ _ _).symm,fun c hc hn=>setCell_frame (by simpa using hn)⟩
  have bw2:Blk w2 hb [.bool true,.int .i64 (-1)] 91:=by rw[hsw2];exact hb1'.set 1 _
  rw[← hsw2];clear hsw2;refine hD.e0 ?_;refine hD.s0 ?_;refine hD.r0 ?_;refine hD.as (.int .i64 0) hk ?_;refine nm rfl ?_;refine hD.e0 ?_;refine hD.ret (n:=0) ?_;exact hD.leave (n:=0) (b:=base 38) (v:=.int .i64 0) rfl rfl Try.func38 (fun τ d=>res1v rfl rfl) (hc c (by simp)).1 (heq hbi _ (ksw1.kp1 ksw2) bw2 (T.kp1 (Blk.cel hb1') (by decide) (by decide) hX ksw2))
 ·refine hD.cond (n:=0) true (show Value.bool (decide (by1≠(i:Int)))=_ by rw[decide_eq_true hbi]) rfl ?_
  refine hD.s0 ?_;refine hD.r0 ?_;refine hD.as (.int .i64 90) hk ?_;refine nm rfl ?_;refine hD.e0 ?_;refine hD.ret (n:=0) ?_;exact hD.leave (n:=0) (b:=base 38) (v:=.int .i64 90) rfl rfl Try.func38 (fun τ d=>res1v rfl rfl) (hc c (by simp)).1 (hne hbi _ ksw1 hb1' T)
theorem held_unlockF {hb:Nat}{by0:Int}{as0:Int}{ha0:Int}(T:Th p C (k+1) i K F cs st X w n (a,some l))(hc:∀ f∈c::rest,OkFr f)(hmb:Cel w hb [.bool true,.int .i64 by0,.int .i64 as0,.int .i64 ha0] 88)(hm:p.mem a (updT st i (.susp (l,g) .nilFunc)) X w)(hres:∀ K F cs st X w n a,Th p C k i K F cs st X w n (p.go i (.susp l) a n)→(∃ rv,st i=.susp (l,g) rv)→p.mem a st X w→∃ by1 as1 ha1,Blk w hb [.bool true,.int .i64 by1,.int .i64 as1,.int .i64 ha1] 88∧X hb∧(by1≠(i:Int)→∀ w',Kp [] w w'→Blk w' hb [.bool true,.int .i64 by1,.int .i64 as1,.int .i64 ha1] 88→Th p C k i K F cs st X w' n (p.go i (.susp l) a n)→K (gs (c.finish (.int .i64 90)) (rest++F::cs)) w')∧(by1=(i:Int)→∀ w',Kp [hb] w w'→Blk w' hb [.bool true,.int .i64 (-1),.int .i64 as1,.int .i64 ha1] 88→Th p C k i K F cs st X w' n (p.go i (.susp l) a n)→K (gs (c.finish (.int .i64 0)) (rest++F::cs)) w')):K (gs (Frame.enter Try.prog 38 #[ptr hb,ptr (C.bt i)] .normal) (c::(rest++F::cs))) w:=by
 have hk:(base 38).kind≠.early:=nofun;have hK:=T.cl;have hD:=hK.det;rw[show(#[ptr hb,ptr (C.bt i)]:Array Value)=[ptr hb,ptr (C.bt i)].toArray from rfl,enter_fg (n:=26) (c:=q38) Try.func38 rfl rfl rfl];refine hD.s0 ?_;refine hD.r0 ?_;refine hD.as (.int .i64 0) hk ?_;refine nm rfl ?_;refine hD.e0 ?_;refine hD.s0 ?_;refine hD.s0 ?_;refine hD.r0 ?_;refine hD.mv (ptr hb) hk ?_;refine nm rfl ?_;refine hD.pu (.bool false) hk (fun w=>w_eql139_p rfl rfl) ?_;refine nm rfl ?_;refine hD.mv (.bool false) hk ?_;refine nm rfl ?_;refine hD.gv (n:=0) (v:=(ptr hb)) hk rfl rfl rfl (by decide +kernel) nofun (fun τ d=>ex_move rfl rfl) ?_;refine nm rfl ?_;refine hD.gv (n:=0) (v:=(ptr hb)) hk rfl rfl rfl (by decide +kernel) nofun (fun τ d=>ex_nilc rfl rfl) ?_;refine nm rfl ?_;refine hD.gv (n:=0) (v:=(ptr hb)) hk rfl rfl rfl (by decide +kernel) nofun (fun τ d=>ex_field (v:=(ptr hb)) rfl rfl fa86_0) ?_;refine nm rfl ?_;refine hD.gv (n:=0) (v:=(.bool true)) hk rfl rfl rfl (by decide +kernel) nofun (fun τ d=>ex_load rfl rfl (l_4 (hmb.cell 0))) ?_;refine nm rfl ?_;refine hD.gv (n:=0) (v:=(.bool false)) hk rfl rfl rfl (by decide +kernel) nofun (fun τ d=>pu_not (y:=true) rfl rfl) ?_;refine nm rfl ?_;refine hD.pu (.bool false) hk (fun w=>pu_pick (t:=false) rfl rfl rfl) ?_;refine nm rfl ?_;refine hD.e0 ?_;refine hD.cond (n:=0) false rfl rfl ?_;refine hD.k0 ?_;refine hD.s0 ?_;refine hD.r0 ?_;refine hD.mv (ptr (C.bt i)) hk ?_;refine nm rfl ?_;refine hD.cf #[ptr (C.bt i)] hk Try.func29 ?_;refine T.step (rest:=c::rest) (fun f hf=>by rcases List.mem_cons.1 hf with rfl | hf;exact⟨rfl,rfl,_,Try.func38⟩;exact hc f hf) hm fun K F cs st X w n a T h1 h2=>?_;have hK:=T.cl;have hD:=hK.det;obtain⟨by1,as1,ha1,hb1,hX,hne,heq⟩:=hres K F cs st X w n a T h1 h2;refine fin0 (some 15) ?_;refine nm rfl ?_;refine hD.e0 ?_;refine hD.s0 ?_;refine hD.s0 ?_;obtain⟨ba,sa,ck,ga,ca,hrn⟩:=T.rn;refine hK.seg fits shut (b:=base 38) ⟨_,Try.func38⟩ nofun (c:=(sL (sL (sR (sR (sR q38)))))) (by decide +kernel) (Q:=lQ 26 (fun x=>x 0=ptr hb∧x 1=ptr (C.bt i)∧x 22=.bool (decide (by1≠i))) w) (fun t w' τ d h=>lQ_re h τ d) (fun τ d=>Code.wp_mono (fun e a w' ⟨h1,h2,h3⟩=>⟨h1,h2,lQ_un h3⟩) (oq38 (re w τ d) _ hb (C.bt i) by1 i (hb1.cell 1) (fun w' k=>who_calls w' _ _ _ _ _ _ _ _ _ ((Keeps.kp k).cel (re_cel T.bt) (by simp)) ((Keeps.kp k).cel (re_cel hrn) (by simp))) rfl rfl)) fun t w1 ⟨x',ex',⟨g0,g1,g22⟩,ksw1⟩=>?_;subst ex';rw[allK.self (x:=x') (l:=[(0,ptr hb),(1,ptr (C.bt i)),(22,.bool (decide (by1≠i)))]) ⟨g0,g1,g22,trivial⟩];have hb1':=ksw1.blk hb1 (by simp);have T:=T.kp ksw1;by_cases hbi:by1=i
 ·refine hD.cond (n:=0) false (show Value.bool (decide (by1≠(i:Int)))=_ by rw[decide_eq_false (fun h=>h hbi)]) rfl ?_
  refine hD.k0 ?_;refine hD.s0 ?_;refine hD.r0 ?_;refine hD.mv (ptr hb) hk ?_;refine nm rfl ?_;refine hD.nc ⟨hb,0,none⟩ hk ?_;refine nm rfl ?_;refine hD.field (n:=0) (v:=(ptrAt hb 1)) (u:=(ptr hb)) hk rfl ⟨rfl,rfl,rfl,rfl,nofun⟩ rfl fa86_1 ?_;refine nm rfl ?_;refine hD.store (n:=0) (u:=(ptrAt hb 1)) (z:=(.int .i64 (-1))) hk rfl ⟨rfl,rfl,rfl,rfl,nofun⟩ rfl rfl (fun τ d=>((s_3 (w:=re w1 τ d) (hb1'.cell 1) (hb1'.frozen 1)).trans (congrArg (Result.ok ()) re_setCell))) (Nat.le_of_eq (World.size_setCell _ _ _).symm) ?_;obtain⟨w2,hsw2⟩:∃ z,z=w1.setCell ⟨hb,1,none⟩ (.int .i64 (-1)):=⟨_,rfl⟩;have ksw2:Kp [hb] w1 w2:=by rw[hsw2];exact⟨Nat.le_of_eq (World.size_setCell _ _ _).symm,fun c hc hn=>setCell_frame (by simpa using hn)⟩
  have bw2:Blk w2 hb [.bool true,.int .i64 (-1),.int .i64 as1,.int .i64 ha1] 88:=by rw[hsw2];exact hb1'.set 1 _
  rw[← hsw2];clear hsw2;refine hD.e0 ?_;refine hD.s0 ?_;refine hD.r0 ?_;refine hD.as (.int .i64 0) hk ?_;refine nm rfl ?_;refine hD.e0 ?_;refine hD.ret (n:=0) ?_;exact hD.leave (n:=0) (b:=base 38) (v:=.int .i64 0) rfl rfl Try.func38 (fun τ d=>res1v rfl rfl) (hc c (by simp)).1 (heq hbi _ (ksw1.kp1 ksw2) bw2 (T.kp1 (Blk.cel hb1') (by decide) (by decide) hX ksw2))
 ·refine hD.cond (n:=0) true (show Value.bool (decide (by1≠(i:Int)))=_ by rw[decide_eq_true hbi]) rfl ?_
  refine hD.s0 ?_;refine hD.r0 ?_;refine hD.as (.int .i64 90) hk ?_;refine nm rfl ?_;refine hD.e0 ?_;refine hD.ret (n:=0) ?_;exact hD.leave (n:=0) (b:=base 38) (v:=.int .i64 90) rfl rfl Try.func38 (fun τ d=>res1v rfl rfl) (hc c (by simp)).1 (hne hbi _ ksw1 hb1' T)
theorem held_unlockR {hb:Nat}{by0:Int}{rd0:Int}{wt0:Int}(T:Th p C (k+1) i K F cs st X w n (a,some l))(hc:∀ f∈c::rest,OkFr f)(hmb:Cel w hb [.bool true,.int .i64 by0,.int .i64 rd0,.int .i64 wt0] 93)(hm:p.mem a (updT st i (.susp (l,g) .nilFunc)) X w)(hres:∀ K F cs st X w n a,Th p C k i K F cs st X w n (p.go i (.susp l) a n)→(∃ rv,st i=.susp (l,g) rv)→p.mem a st X w→∃ by1 rd1 wt1,Blk w hb [.bool true,.int .i64 by1,.int .i64 rd1,.int .i64 wt1] 93∧X hb∧(by1≠(i:Int)→∀ w',Kp [] w w'→Blk w' hb [.bool true,.int .i64 by1,.int .i64 rd1,.int .i64 wt1] 93→Th p C k i K F cs st X w' n (p.go i (.susp l) a n)→K (gs (c.finish (.int .i64 90)) (rest++F::cs)) w')∧(by1=(i:Int)→∀ w',Kp [hb] w w'→Blk w' hb [.bool true,.int .i64 (-1),.int .i64 rd1,.int .i64 wt1] 93→Th p C k i K F cs st X w' n (p.go i (.susp l) a n)→K (gs (c.finish (.int .i64 0)) (rest++F::cs)) w')):K (gs (Frame.enter Try.prog 38 #[ptr hb,ptr (C.bt i)] .normal) (c::(rest++F::cs))) w:=by
 have hk:(base 38).kind≠.early:=nofun;have hK:=T.cl;have hD:=hK.det;rw[show(#[ptr hb,ptr (C.bt i)]:Array Value)=[ptr hb,ptr (C.bt i)].toArray from rfl,enter_fg (n:=26) (c:=q38) Try.func38 rfl rfl rfl];refine hD.s0 ?_;refine hD.r0 ?_;refine hD.as (.int .i64 0) hk ?_;refine nm rfl ?_;refine hD.e0 ?_;refine hD.s0 ?_;refine hD.s0 ?_;refine hD.r0 ?_;refine hD.mv (ptr hb) hk ?_;refine nm rfl ?_;refine hD.pu (.bool false) hk (fun w=>w_eql139_p rfl rfl) ?_;refine nm rfl ?_;refine hD.mv (.bool false) hk ?_;refine nm rfl ?_;refine hD.gv (n:=0) (v:=(ptr hb)) hk rfl rfl rfl (by decide +kernel) nofun (fun τ d=>ex_move rfl rfl) ?_;refine nm rfl ?_;refine hD.gv (n:=0) (v:=(ptr hb)) hk rfl rfl rfl (by decide +kernel) nofun (fun τ d=>ex_nilc rfl rfl) ?_;refine nm rfl ?_;refine hD.gv (n:=0) (v:=(ptr hb)) hk rfl rfl rfl (by decide +kernel) nofun (fun τ d=>ex_field (v:=(ptr hb)) rfl rfl fa86_0) ?_;refine nm rfl ?_;refine hD.gv (n:=0) (v:=(.bool true)) hk rfl rfl rfl (by decide +kernel) nofun (fun τ d=>ex_load rfl rfl (l_4 (hmb.cell 0))) ?_;refine nm rfl ?_;refine hD.gv (n:=0) (v:=(.bool false)) hk rfl rfl rfl (by decide +kernel) nofun (fun τ d=>pu_not (y:=true) rfl rfl) ?_;refine nm rfl ?_;refine hD.pu (.bool false) hk (fun w=>pu_pick (t:=false) rfl rfl rfl) ?_;refine nm rfl ?_;refine hD.e0 ?_;refine hD.cond (n:=0) false rfl rfl ?_;refine hD.k0 ?_;refine hD.s0 ?_;refine hD.r0 ?_;refine hD.mv (ptr (C.bt i)) hk ?_;refine nm rfl ?_;refine hD.cf #[ptr (C.bt i)] hk Try.func29 ?_;refine T.step (rest:=c::rest) (fun f hf=>by rcases List.mem_cons.1 hf with rfl | hf;exact⟨rfl,rfl,_,Try.func38⟩;exact hc f hf) hm fun K F cs st X w n a T h1 h2=>?_;have hK:=T.cl;have hD:=hK.det;obtain⟨by1,rd1,wt1,hb1,hX,hne,heq⟩:=hres K F cs st X w n a T h1 h2;refine fin0 (some 15) ?_;refine nm rfl ?_;refine hD.e0 ?_;refine hD.s0 ?_;refine hD.s0 ?_;obtain⟨ba,sa,ck,ga,ca,hrn⟩:=T.rn;refine hK.seg fits shut (b:=base 38) ⟨_,Try.func38⟩ nofun (c:=(sL (sL (sR (sR (sR q38)))))) (by decide +kernel) (Q:=lQ 26 (fun x=>x 0=ptr hb∧x 1=ptr (C.bt i)∧x 22=.bool (decide (by1≠i))) w) (fun t w' τ d h=>lQ_re h τ d) (fun τ d=>Code.wp_mono (fun e a w' ⟨h1,h2,h3⟩=>⟨h1,h2,lQ_un h3⟩) (oq38 (re w τ d) _ hb (C.bt i) by1 i (hb1.cell 1) (fun w' k=>who_calls w' _ _ _ _ _ _ _ _ _ ((Keeps.kp k).cel (re_cel T.bt) (by simp)) ((Keeps.kp k).cel (re_cel hrn) (by simp))) rfl rfl)) fun t w1 ⟨x',ex',⟨g0,g1,g22⟩,ksw1⟩=>?_;subst ex';rw[allK.self (x:=x') (l:=[(0,ptr hb),(1,ptr (C.bt i)),(22,.bool (decide (by1≠i)))]) ⟨g0,g1,g22,trivial⟩];have hb1':=ksw1.blk hb1 (by simp);have T:=T.kp ksw1;by_cases hbi:by1=i
 ·refine hD.cond (n:=0) false (show Value.bool (decide (by1≠(i:Int)))=_ by rw[decide_eq_false (fun h=>h hbi)]) rfl ?_
  refine hD.k0 ?_;refine hD.s0 ?_;refine hD.r0 ?_;refine hD.mv (ptr hb) hk ?_;refine nm rfl ?_;refine hD.nc ⟨hb,0,none⟩ hk ?_;refine nm rfl ?_;refine hD.field (n:=0) (v:=(ptrAt hb 1)) (u:=(ptr hb)) hk rfl ⟨rfl,rfl,rfl,rfl,nofun⟩ rfl fa86_1 ?_;refine nm rfl ?_;refine hD.store (n:=0) (u:=(ptrAt hb 1)) (z:=(.int .i64 (-1))) hk rfl ⟨rfl,rfl,rfl,rfl,nofun⟩ rfl rfl (fun τ d=>((s_3 (w:=re w1 τ d) (hb1'.cell 1) (hb1'.frozen 1)).trans (congrArg (Result.ok ()) re_setCell))) (Nat.le_of_eq (World.size_setCell _ _ _).symm) ?_;obtain⟨w2,hsw2⟩:∃ z,z=w1.setCell ⟨hb,1,none⟩ (.int .i64 (-1)):=⟨_,rfl⟩;have ksw2:Kp [hb] w1 w2:=by rw[hsw2];exact⟨Nat.le_of_eq (World.size_setCell _ _ _).symm,fun c hc hn=>setCell_frame (by simpa using hn)⟩
  have bw2:Blk w2 hb [.bool true,.int .i64 (-1),.int .i64 rd1,.int .i64 wt1] 93:=by rw[hsw2];exact hb1'.set 1 _
  rw[← hsw2];clear hsw2;refine hD.e0 ?_;refine hD.s0 ?_;refine hD.r0 ?_;refine hD.as (.int .i64 0) hk ?_;refine nm rfl ?_;refine hD.e0 ?_;refine hD.ret (n:=0) ?_;exact hD.leave (n:=0) (b:=base 38) (v:=.int .i64 0) rfl rfl Try.func38 (fun τ d=>res1v rfl rfl) (hc c (by simp)).1 (heq hbi _ (ksw1.kp1 ksw2) bw2 (T.kp1 (Blk.cel hb1') (by decide) (by decide) hX ksw2))
 ·refine hD.cond (n:=0) true (show Value.bool (decide (by1≠(i:Int)))=_ by rw[decide_eq_true hbi]) rfl ?_
  refine hD.s0 ?_;refine hD.r0 ?_;refine hD.as (.int .i64 90) hk ?_;refine nm rfl ?_;refine hD.e0 ?_;refine hD.ret (n:=0) ?_;exact hD.leave (n:=0) (b:=base 38) (v:=.int .i64 90) rfl rfl Try.func38 (fun τ d=>res1v rfl rfl) (hc c (by simp)).1 (hne hbi _ ksw1 hb1' T)
theorem mutex_unlock {hb:Nat}{by0:Int}  (T:Th p C (k+1) i K F cs st X w n (a,some l))(hc:∀ f∈c::rest,OkFr f)(hmb:Cel w hb [.bool true,.int .i64 by0] 91)(hm:p.mem a (updT st i (.susp (l,g) .nilFunc)) X w)(hres:∀ K F cs st X w n a,Th p C k i K F cs st X w n (p.go i (.susp l) a n)→(∃ rv,st i=.susp (l,g) rv)→p.mem a st X w→∃ by1 ,Blk w hb [.bool true,.int .i64 by1] 91∧X hb∧(by1≠(i:Int)→∀ w',Kp [] w w'→Blk w' hb [.bool true,.int .i64 by1] 91→Th p C k i K F cs st X w' n (p.go i (.susp l) a n)→K (gs (c.finish (.int .i64 90)) (rest++F::cs)) w')∧(by1=(i:Int)→∀ w',Kp [hb] w w'→Blk w' hb [.bool true,.int .i64 (-1)] 91→Th p C k i K F cs st X w' n (p.go i (.susp l) a n)→K (gs (c.finish (.int .i64 0)) (rest++F::cs)) w')):K (gs (Frame.enter Try.prog 30 #[ptr hb,ptr (C.bt i)] .normal) (c::(rest++F::cs))) w:=by
 have hk:(base 30).kind≠.early:=nofun;have hK:=T.cl;have hD:=hK.det;rw[show(#[ptr hb,ptr (C.bt i)]:Array Value)=[ptr hb,ptr (C.bt i)].toArray from rfl,enter_fg (n:=12) (c:=q30) Try.func30 rfl rfl rfl];refine hD.s0 ?_;refine hD.r0 ?_;refine hD.as (.int .i64 0) hk ?_;refine nm rfl ?_;refine hD.e0 ?_;refine hD.s0 ?_;refine hD.s0 ?_;refine hD.r0 ?_;refine hD.mv (ptr hb) hk ?_;refine nm rfl ?_;refine hD.pu (.bool false) hk (fun w=>w_eql48_p rfl rfl) ?_;refine nm rfl ?_;refine hD.e0 ?_;refine hD.cond (n:=0) false rfl rfl ?_;refine hD.k0 ?_;refine hD.s0 ?_;refine hD.r0 ?_;refine hD.mv (ptr hb) hk ?_;refine nm rfl ?_;refine hD.nc ⟨hb,0,none⟩ hk ?_;refine nm rfl ?_;refine hD.field (n:=0) (v:=(ptr hb)) (u:=(ptr hb)) hk rfl ⟨rfl,rfl,rfl,rfl,nofun⟩ rfl fa91_0 ?_;refine nm rfl ?_;refine hD.mv (ptr (C.bt i)) hk ?_;refine nm rfl ?_;refine hD.cf #[ptr hb,ptr (C.bt i)] hk Try.func38 ?_;refine held_unlock (rest:=c::rest) T (fun f hf=>by rcases List.mem_cons.1 hf with rfl | hf;exact⟨rfl,rfl,_,Try.func30⟩;exact hc f hf) hmb hm fun K F cs st X w n a T h1 h2=>?_;obtain⟨by1,hb1,hX,hne,heq⟩:=hres K F cs st X w n a T h1 h2;refine⟨by1,hb1,hX,fun e w k1 b1 T=>?_,fun e w k1 b1 T=>?_⟩
 ·have hK:=T.cl
  have hD:=hK.det;refine fin0 (some 11) ?_;refine nm rfl ?_;refine hD.as (.int .i64 90) hk ?_;refine nm rfl ?_;refine hD.e0 ?_;refine hD.ret (n:=0) ?_;exact hD.leave (n:=0) (b:=base 30) (v:=.int .i64 90) rfl rfl Try.func30 (fun τ d=>res1v rfl rfl) (hc c (by simp)).1 (hne e _ k1 b1 T)
 ·have hK:=T.cl
  have hD:=hK.det;refine fin0 (some 11) ?_;refine nm rfl ?_;refine hD.as (.int .i64 0) hk ?_;refine nm rfl ?_;refine hD.e0 ?_;refine hD.ret (n:=0) ?_;exact hD.leave (n:=0) (b:=base 30) (v:=.int .i64 0) rfl rfl Try.func30 (fun τ d=>res1v rfl rfl) (hc c (by simp)).1 (heq e _ k1 b1 T)
theorem fair_unlock {hb:Nat}{by0:Int}{as0:Int}{ha0:Int}(T:Th p C (k+1) i K F cs st X w n (a,some l))(hc:∀ f∈c::rest,OkFr f)(hmb:Cel w hb [.bool true,.int .i64 by0,.int .i64 as0,.int .i64 ha0] 88)(hm:p.mem a (updT st i (.susp (l,g) .nilFunc)) X w)(hres:∀ K F cs st X w n a,Th p C k i K F cs st X w n (p.go i (.susp l) a n)→(∃ rv,st i=.susp (l,g) rv)→p.mem a st X w→∃ by1 as1 ha1,Blk w hb [.bool true,.int .i64 by1,.int .i64 as1,.int .i64 ha1] 88∧X hb∧(by1≠(i:Int)→∀ w',Kp [] w w'→Blk w' hb [.bool true,.int .i64 by1,.int .i64 as1,.int .i64 ha1] 88→Th p C k i K F cs st X w' n (p.go i (.susp l) a n)→K (gs (c.finish (.int .i64 90)) (rest++F::cs)) w')∧(by1=(i:Int)→∀ w',Kp [hb] w w'→Blk w' hb [.bool true,.int .i64 (-1),.int .i64 as1,.int .i64 ha1] 88→Th p C k i K F cs st X w' n (p.go i (.susp l) a n)→K (gs (c.finish (.int .i64 0)) (rest++F::cs)) w')):K (gs (Frame.enter Try.prog 16 #[ptr hb,ptr (C.bt i)] .normal) (c::(rest++F::cs))) w:=by
 have hk:(base 16).kind≠.early:=nofun;have hK:=T.cl;have hD:=hK.det;rw[show(#[ptr hb,ptr (C.bt i)]:Array Value)=[ptr hb,ptr (C.bt i)].toArray from rfl,enter_fg (n:=12) (c:=q16) Try.func16 rfl rfl rfl];refine hD.s0 ?_;refine hD.r0 ?_;refine hD.as (.int .i64 0) hk ?_;refine nm rfl ?_;refine hD.e0 ?_;refine hD.s0 ?_;refine hD.s0 ?_;refine hD.r0 ?_;refine hD.mv (ptr hb) hk ?_;refine nm rfl ?_;refine hD.pu (.bool false) hk (fun w=>w_eql39_p rfl rfl) ?_;refine nm rfl ?_;refine hD.e0 ?_;refine hD.cond (n:=0) false rfl rfl ?_;refine hD.k0 ?_;refine hD.s0 ?_;refine hD.r0 ?_;refine hD.mv (ptr hb) hk ?_;refine nm rfl ?_;refine hD.nc ⟨hb,0,none⟩ hk ?_;refine nm rfl ?_;refine hD.field (n:=0) (v:=(ptr hb)) (u:=(ptr hb)) hk rfl ⟨rfl,rfl,rfl,rfl,nofun⟩ rfl fa88_0 ?_;refine nm rfl ?_;refine hD.mv (ptr (C.bt i)) hk ?_;refine nm rfl ?_;refine hD.cf #[ptr hb,ptr (C.bt i)] hk Try.func38 ?_;refine held_unlockF (rest:=c::rest) T (fun f hf=>by rcases List.mem_cons.1 hf with rfl | hf;exact⟨rfl,rfl,_,Try.func16⟩;exact hc f hf) hmb hm fun K F cs st X w n a T h1 h2=>?_;obtain⟨by1,as1,ha1,hb1,hX,hne,heq⟩:=hres K F cs st X w n a T h1 h2;refine⟨by1,as1,ha1,hb1,hX,fun e w k1 b1 T=>?_,fun e w k1 b1 T=>?_⟩
 ·have hK:=T.cl
  have hD:=hK.det;refine fin0 (some 11) ?_;refine nm rfl ?_;refine hD.as (.int .i64 90) hk ?_;refine nm rfl ?_;refine hD.e0 ?_;refine hD.ret (n:=0) ?_;exact hD.leave (n:=0) (b:=base 16) (v:=.int .i64 90) rfl rfl Try.func16 (fun τ d=>res1v rfl rfl) (hc c (by simp)).1 (hne e _ k1 b1 T)
 ·have hK:=T.cl
  have hD:=hK.det;refine fin0 (some 11) ?_;refine nm rfl ?_;refine hD.as (.int .i64 0) hk ?_;refine nm rfl ?_;refine hD.e0 ?_;refine hD.ret (n:=0) ?_;exact hD.leave (n:=0) (b:=base 16) (v:=.int .i64 0) rfl rfl Try.func16 (fun τ d=>res1v rfl rfl) (hc c (by simp)).1 (heq e _ k1 b1 T)
theorem rw_unlock {hb:Nat}{by0:Int}{rd0:Int}{wt0:Int}(T:Th p C (k+1) i K F cs st X w n (a,some l))(hc:∀ f∈c::rest,OkFr f)(hmb:Cel w hb [.bool true,.int .i64 by0,.int .i64 rd0,.int .i64 wt0] 93)(hm:p.mem a (updT st i (.susp (l,g) .nilFunc)) X w)(hres:∀ K F cs st X w n a,Th p C k i K F cs st X w n (p.go i (.susp l) a n)→(∃ rv,st i=.susp (l,g) rv)→p.mem a st X w→∃ by1 rd1 wt1,Blk w hb [.bool true,.int .i64 by1,.int .i64 rd1,.int .i64 wt1] 93∧X hb∧(by1≠(i:Int)→∀ w',Kp [] w w'→Blk w' hb [.bool true,.int .i64 by1,.int .i64 rd1,.int .i64 wt1] 93→Th p C k i K F cs st X w' n (p.go i (.susp l) a n)→K (gs (c.finish (.int .i64 90)) (rest++F::cs)) w')∧(by1=(i:Int)→∀ w',Kp [hb] w w'→Blk w' hb [.bool true,.int .i64 (-1),.int .i64 rd1,.int .i64 wt1] 93→Th p C k i K F cs st X w' n (p.go i (.susp l) a n)→K (gs (c.finish (.int .i64 0)) (rest++F::cs)) w')):K (gs (Frame.enter Try.prog 49 #[ptr hb,ptr (C.bt i)] .normal) (c::(rest++F::cs))) w:=by
 have hk:(base 49).kind≠.early:=nofun;have hK:=T.cl;have hD:=hK.det;rw[show(#[ptr hb,ptr (C.bt i)]:Array Value)=[ptr hb,ptr (C.bt i)].toArray from rfl,enter_fg (n:=12) (c:=q49) Try.func49 rfl rfl rfl];refine hD.s0 ?_;refine hD.r0 ?_;refine hD.as (.int .i64 0) hk ?_;refine nm rfl ?_;refine hD.e0 ?_;refine hD.s0 ?_;refine hD.s0 ?_;refine hD.r0 ?_;refine hD.mv (ptr hb) hk ?_;refine nm rfl ?_;refine hD.pu (.bool false) hk (fun w=>w_eql50_p rfl rfl) ?_;refine nm rfl ?_;refine hD.e0 ?_;refine hD.cond (n:=0) false rfl rfl ?_;refine hD.k0 ?_;refine hD.s0 ?_;refine hD.r0 ?_;refine hD.mv (ptr hb) hk ?_;refine nm rfl ?_;refine hD.nc ⟨hb,0,none⟩ hk ?_;refine nm rfl ?_;refine hD.field (n:=0) (v:=(ptr hb)) (u:=(ptr hb)) hk rfl ⟨rfl,rfl,rfl,rfl,nofun⟩ rfl fa93_0 ?_;refine nm rfl ?_;refine hD.mv (ptr (C.bt i)) hk ?_;refine nm rfl ?_;refine hD.cf #[ptr hb,ptr (C.bt i)] hk Try.func38 ?_;refine held_unlockR (rest:=c::rest) T (fun f hf=>by rcases List.mem_cons.1 hf with rfl | hf;exact⟨rfl,rfl,_,Try.func49⟩;exact hc f hf) hmb hm fun K F cs st X w n a T h1 h2=>?_;obtain⟨by1,rd1,wt1,hb1,hX,hne,heq⟩:=hres K F cs st X w n a T h1 h2;refine⟨by1,rd1,wt1,hb1,hX,fun e w k1 b1 T=>?_,fun e w k1 b1 T=>?_⟩
 ·have hK:=T.cl
  have hD:=hK.det;refine fin0 (some 11) ?_;refine nm rfl ?_;refine hD.as (.int .i64 90) hk ?_;refine nm rfl ?_;refine hD.e0 ?_;refine hD.ret (n:=0) ?_;exact hD.leave (n:=0) (b:=base 49) (v:=.int .i64 90) rfl rfl Try.func49 (fun τ d=>res1v rfl rfl) (hc c (by simp)).1 (hne e _ k1 b1 T)
 ·have hK:=T.cl
  have hD:=hK.det;refine fin0 (some 11) ?_;refine nm rfl ?_;refine hD.as (.int .i64 0) hk ?_;refine nm rfl ?_;refine hD.e0 ?_;refine hD.ret (n:=0) ?_;exact hD.leave (n:=0) (b:=base 49) (v:=.int .i64 0) rfl rfl Try.func49 (fun τ d=>res1v rfl rfl) (hc c (by simp)).1 (heq e _ k1 b1 T)
end
theorem l_48 {w:World}{a:Addr}{v:Value}(hc:w.cell? a=some v):(Instr.loadAt 48 (.pointer (some a))).run Try.prog w=.ok v w:=by simp[go_sem,hc,Try.underlying48,Try.runUnderlying48,Try.sizeOf48,Try.isAgg48]
inductive WkL
 | lock
 | step
 | unlock
structure WkA where
 by':Int
 n:Int
def wkGo (i:Nat)(t:ES WkL)(a:WkA)(_:Nat):WkA × Option WkL:=match t with
 | .fresh=>(a,some .lock)
 | .susp .lock=>(⟨i,wrap64 (a.n+1)⟩,some .step)
 | .susp .step=>(a,some .unlock)
 | .susp .unlock=>if a.by'=i then (⟨-1,a.n⟩,none) else (a,none)
 | .done=>(a,none)
def wkRdy (_:Nat)(l:WkL)(a:WkA):Bool:=match l with
 | .lock=>decide (a.by' = -1)
 | _=>true
def wkRv (mb:Nat):WkL→Value
 | .lock=>.func (.func 34) #[ptr mb] #[]
 | _=>.nilFunc
structure WkM (mx mb nb:Nat)(a:WkA)(st:Nat→TS WkL)(X:Nat→Prop)(w:World):Prop where
 x:∀ b,X b↔b=mx∨b=mb∨b=nb
 m:Blk w mx [ptr mb] 48
 l:Blk w mb [.bool true,.int .i64 a.by'] 91
 n:Blk w nb [.int .i64 a.n] 3
 rv:∀ i l rv,st i=.susp l rv→rv=wkRv mb l.1
def wkPlan (mx mb nb:Nat):Plan WkL WkA:=⟨WkM mx mb nb,wkGo,wkRdy⟩
theorem WkM.up {mx mb nb:Nat}{a a':WkA}{st:Nat→TS WkL}{X:Nat→Prop}{w w':World}(h:WkM mx mb nb a st X w)(i:Nat)(l:WkL)(hm:Blk w' mx [ptr mb] 48)(hl:Blk w' mb [.bool true,.int .i64 a'.by'] 91)(hn:Blk w' nb [.int .i64 a'.n] 3):WkM mx mb nb a' (updT st i (.susp (l,[]) (wkRv mb l))) X w' :=
 ⟨h.x,hm,hl,hn,fun j l' rv e=>by
  unfold updT at e;split at e
  ·cases e;rfl
  ·exact h.rv j l' rv e⟩
theorem WkM.over {mx mb nb:Nat}{a a':WkA}{st:Nat→TS WkL}{X:Nat→Prop}{w w':World}(h:WkM mx mb nb a st X w)(i:Nat)(hm:Blk w' mx [ptr mb] 48)(hl:Blk w' mb [.bool true,.int .i64 a'.by'] 91)(hn:Blk w' nb [.int .i64 a'.n] 3):WkM mx mb nb a' (updT st i .done) X w' :=
 ⟨h.x,hm,hl,hn,fun j l' rv e=>by
  unfold updT at e;split at e
  ·cases e
  ·exact h.rv j l' rv e⟩
theorem wk_body {C:WC}{i n:Nat}{K:Goroutine→World→Prop}{F:Frame}{cs:List Frame}{st:Nat→TS WkL}{X:Nat→Prop}{w:World}{a:WkA}{mx mb nb:Nat}(T:Th (wkPlan mx mb nb) C 3 i K F cs st X w n (a,some .lock))(hm:(wkPlan mx mb nb).mem a st X w):K (gs (Frame.enter Try.prog 27 #[ptr (C.bt i),ptr mx,ptr nb] .normal) (F::cs)) w:=by
 obtain⟨hx,b1,b2,b3,hw⟩:=id hm;have hk:(base 27).kind≠.early:=nofun;have hK:=T.cl;have hD:=hK.det;rw[show(#[ptr (C.bt i),ptr mx,ptr nb]:Array Value)=[ptr (C.bt i),ptr mx,ptr nb].toArray from rfl,enter_fg (n:=15) (c:=q27) Try.func27 rfl rfl rfl];refine hD.s0 ?_;refine hD.r0 ?_;refine hD.ld (ptr mb) hk (fun τ d=>l_48 (b1.cell 0)) ?_;refine nm rfl ?_;refine hD.mv (ptr (C.bt i)) hk ?_;refine nm rfl ?_;refine hD.cf #[ptr mb,ptr (C.bt i)] hk Try.func28 ?_;refine mutex_lock (rest:=[]) T (fun f hf=>by rcases List.mem_cons.1 hf with rfl | hf;exact⟨rfl,rfl,_,Try.func27⟩;exact absurd hf (by simp)) (Blk.cel b2) (hm.up i .lock b1 b2 b3) fun K F cs st X w n a T h1 hm=>?_;obtain⟨hx,b1,b2,b3,hw⟩:=id hm;refine⟨a.by',b2,(hx _).2 (.inr (.inl rfl)),fun w1 k1 b2' T=>?_⟩;have hK:=T.cl;have hD:=hK.det;have b1:=k1.blk b1 (by simpa using cel_ne (Blk.cel b1) (Blk.cel b2) (by decide));have b3:=k1.blk b3 (by simpa using cel_ne (Blk.cel b3) (Blk.cel b2) (by decide));clear b2;refine fin0 (some 6) ?_;refine nm rfl ?_;refine hD.pu (.bool (decide ((0:Int)=0))) hk (fun w=>w_eql35 rfl rfl rfl) ?_;refine nm rfl ?_;refine hD.e0 ?_;refine hD.cond (n:=0) true rfl rfl ?_;refine hD.s0 ?_;refine hD.r0 ?_;refine hD.ld (.int .i64 a.n) hk (fun τ d=>l_3 (b3.cell 0)) ?_;refine nm rfl ?_;refine hD.pu (.int .i64 (wrap64 (a.n+1))) hk (fun w=>w_add3 rfl rfl rfl) ?_;refine nm rfl ?_;refine hD.store (n:=0) (u:=(ptr nb)) (z:=(.int .i64 (wrap64 (a.n+1)))) hk rfl ⟨rfl,rfl,rfl,rfl,nofun⟩ rfl rfl (fun τ d=>((s_3 (w:=re w1 τ d) (b3.cell 0) (b3.frozen 0)).trans (congrArg (Result.ok ()) re_setCell))) (Nat.le_of_eq (World.size_setCell _ _ _).symm) ?_;obtain⟨w2,hsw2⟩:∃ z,z=w1.setCell ⟨nb,0,none⟩ (.int .i64 (wrap64 (a.n+1))):=⟨_,rfl⟩;have ksw2:Kp [nb] w1 w2:=by rw[hsw2];exact⟨Nat.le_of_eq (World.size_setCell _ _ _).symm,fun c hc hn=>setCell_frame (by simpa using hn)⟩
 have bw2:Blk w2 nb [.int .i64 (wrap64 (a.n+1))] 3:=by rw[hsw2];exact b3.set 0 _
 rw[← hsw2];clear hsw2;have b1':=ksw2.blk b1 (by simpa using (cel_ne (Blk.cel b1) (Blk.cel b3) (by decide)));have b2'':=ksw2.blk b2' (by simpa using (cel_ne (Blk.cel b2') (Blk.cel b3) (by decide)));have T:=T.kp1 (Blk.cel b3) (by decide) (by decide) ((hm.x _).2 (.inr (.inr rfl))) ksw2;refine hD.e0 ?_;refine hD.s0 ?_;refine hD.r0 ?_;refine hD.mv (ptr (C.bt i)) hk ?_;refine nm rfl ?_;refine hD.cf #[ptr (C.bt i)] hk Try.func29 ?_;refine ThR.step (a:=(⟨i,wrap64 (a.n+1)⟩:WkA)) (l:=WkL.step) (rest:=[]) T (fun f hf=>by rcases List.mem_cons.1 hf with rfl | hf;exact⟨rfl,rfl,_,Try.func27⟩;exact absurd hf (by simp)) (hm.up i .step b1' b2'' bw2) fun K F cs st X w n a T h1 hm=>?_;obtain⟨hx,b1,b2,b3,hw⟩:=id hm;have hK:=T.cl;have hD:=hK.det;refine fin0 (some 11) ?_;refine nm rfl ?_;refine hD.e0 ?_;refine hD.r0 ?_;refine hD.ld (ptr mb) hk (fun τ d=>l_48 (b1.cell 0)) ?_;refine nm rfl ?_;refine hD.mv (ptr (C.bt i)) hk ?_;refine nm rfl ?_;refine hD.cf #[ptr mb,ptr (C.bt i)] hk Try.func30 ?_;refine mutex_unlock (a:=a) (l:=WkL.unlock) (rest:=[]) T (fun f hf=>by rcases List.mem_cons.1 hf with rfl | hf;exact⟨rfl,rfl,_,Try.func27⟩;exact absurd hf (by simp)) (Blk.cel b2) (hm.up i .unlock b1 b2 b3) fun K F cs st X w n a T h1 hm=>?_;obtain⟨hx,b1,b2,b3,hw⟩:=id hm;refine⟨a.by',b2,(hx _).2 (.inr (.inl rfl)),fun e w1 k1 b2' T=>?_,fun e w1 k1 b2' T=>?_⟩
 ·have hK:=T.cl
  have hD:=hK.det;have b1:=k1.blk b1 (by simp);have b3:=k1.blk b3 (by simp);refine fin0 (some 14) ?_;refine nm rfl ?_;refine hD.e0 ?_;refine hD.end (n:=0) ?_;exact hD.leave (n:=0) (b:=base 27) (v:=.tuple #[]) rfl rfl Try.func27 (fun τ d=>res0 rfl) T.fm (T.hd a X w1 (if_neg e) (hm.over (a':=a) i b1 b2' b3) (Kx.refl' X w1))
 ·have hK:=T.cl
  have hD:=hK.det;have b1:=k1.blk b1 (by simpa using cel_ne (Blk.cel b1) (Blk.cel b2) (by decide));have b3:=k1.blk b3 (by simpa using cel_ne (Blk.cel b3) (Blk.cel b2) (by decide));refine fin0 (some 14) ?_;refine nm rfl ?_;refine hD.e0 ?_;refine hD.end (n:=0) ?_;exact hD.leave (n:=0) (b:=base 27) (v:=.tuple #[]) rfl rfl Try.func27 (fun τ d=>res0 rfl) T.fm (T.hd ⟨-1,a.n⟩ X w1 (if_pos e) (hm.over (a':=⟨-1,a.n⟩) i b1 b2' b3) (Kx.refl' X w1))
theorem wk_ok {C:WC}{mx mb nb:Nat}(hfn:∀ i,i<C.n→C.fn i=27)(hcap:∀ i,i<C.n→C.cap i=#[ptr mx,ptr nb]):BOk ((wkPlan mx mb nb).bods C) C:=by
 refine Plan.ok (fun {a st X w b} h hb=>?_) (fun {a st X w w'} h hb hs=>?_) (fun {a st X w i l rv} h hi e=>?_) (fun {i} hi=>?_) (fun i hi=>⟨3,fun K F cs st X w n a args T e hm ha=>?_⟩)
 ·rcases (h.x b).1 hb with rfl | rfl | rfl
  ·exact h.m.lt
  ·exact h.l.lt
  ·exact h.n.lt
 ·exact⟨h.x,(hb _ ((h.x _).2 (.inl rfl))).trans h.m,(hb _ ((h.x _).2 (.inr (.inl rfl)))).trans h.l,(hb _ ((h.x _).2 (.inr (.inr rfl)))).trans h.n,h.rv⟩
 ·have hr:=h.rv i l rv e
  obtain⟨l,gh⟩:=l;cases l with
  | lock =>
   refine .inr ⟨34,#[ptr mb],#[],_,_,hr,Try.func34,rfl,rfl,fun m K hK c cs w1 hc k1 hk=>?_⟩;refine hK.callp fits shut (f:=34) rfl (v:=.bool (decide (a.by' = -1))) (fun τ d=>free_calls _ mb ((k1.blk h.l (by simp)).cell 1)) ?_;exact hk w1 ⟨Nat.le_refl _,fun _ _ _=>rfl⟩
  | step=>exact .inl ⟨hr,rfl⟩
  | unlock=>exact .inl ⟨hr,rfl⟩
 ·rw[hfn i hi];exact⟨_,_,Try.func27,rfl,rfl⟩
 ·obtain rfl:args=#[ptr (C.bt i),ptr mx,ptr nb]:=by
   rw[hcap i hi] at ha;exact Array.ext' ha.symm
  rw[hfn i hi];exact wk_body T hm
def wkB:Bods WkL WkA:=⟨fun _ _ _ _=>True,fun _ _ _=>True,wkGo,wkRdy,fun _=>True⟩
theorem wkB_run:(runF wkB 2 (fun a=>a) (50:Int).toNat ⟨fun _=>.fresh,⟨-1,0⟩,[],[]⟩).a=⟨-1,2⟩∧(runF wkB 2 (fun a=>a) (50:Int).toNat ⟨fun _=>.fresh,⟨-1,0⟩,[],[]⟩).st 0=.done∧(runF wkB 2 (fun a=>a) (50:Int).toNat ⟨fun _=>.fresh,⟨-1,0⟩,[],[]⟩).st 1=.done∧(runF wkB 2 (fun a=>a) (50:Int).toNat ⟨fun _=>.fresh,⟨-1,0⟩,[],[]⟩).acts.length=8:=by
 refine⟨?_,?_,?_,?_⟩<;>kernel_rfl
theorem wk_run {B:Bods WkL WkA}(hg:B.go=wkGo)(hr:B.rdy=wkRdy):(runF B 2 (fun a=>a) (50:Int).toNat ⟨fun _=>.fresh,⟨-1,0⟩,[],[]⟩).a=⟨-1,2⟩∧(runF B 2 (fun a=>a) (50:Int).toNat ⟨fun _=>.fresh,⟨-1,0⟩,[],[]⟩).st 0=.done∧(runF B 2 (fun a=>a) (50:Int).toNat ⟨fun _=>.fresh,⟨-1,0⟩,[],[]⟩).st 1=.done∧(runF B 2 (fun a=>a) (50:Int).toNat ⟨fun _=>.fresh,⟨-1,0⟩,[],[]⟩).acts.length=8:=by
 rw[runF_congr (B':=wkB) hg hr];exact wkB_run
theorem fp_cel {α:Type}{w:World}{e:TypeId}{k:Nat}{f:α→List Value}{v:Value}{xs:List α}(h:Rep e k f w v xs):∀ b∈fp v,∃ cs,Cel w b cs e:=by
 intro b hb;rcases h.2 with⟨h0,_⟩ | ⟨g,cap,cur,h0,_,h1,_⟩
 ·rw[h0] at hb;simp[fp,Value.ownBlock] at hb
 ·rw[h0] at hb
  obtain rfl:b=g:=by simpa[fp,Value.ownBlock] using hb
  exact⟨cur.toList,_,h1⟩
theorem runF_acts_le {L A:Type}{B:Bods L A}{n:Nat}{beh:A→A}:∀ k (x:RunSt L A),(runF B n beh k x).acts.length≤x.acts.length+k
 | 0,x=>Nat.le_refl _
 | k+1,x=>by
  unfold runF;split
  ·omega
  ·refine Nat.le_trans (runF_acts_le k _) ?_
   show(x.acts++[_]).length+k≤_;rw[la',List.length_singleton];omega
def Plan.run {L A:Type}(p:Plan L A)(n:Nat)(most:Int)(a0:A)(picks:List Nat):RunSt L A:=runF (⟨fun _ _ _ _=>True,fun _ _ _=>True,p.go,p.rdy,fun _=>True⟩:Bods L A) n (fun a=>a) most.toNat ⟨fun _=>.fresh,a0,[],picks⟩
structure Ran {L A:Type}(p:Plan L A)(n:Nat)(most:Int)(y:RunSt L A)(S S':SC)(X:Nat→Prop)(va ve:Value):Prop where
 idle:Idle S'
 n0:S'.n0=S.n0
 W0:S'.W0=S.W0
 size:S.w.heap.size≤S'.w.heap.size
 block:∀ b,b<S.w.heap.size→¬ X b→S'.w.heap[b]?=S.w.heap[b]?
 mem:∃ st X',p.mem y.a st X' S'.w∧(∀ b,X' b→X b∨S.w.heap.size≤b)∧∀ i,er (st i)=y.st i
 acts:RepU S'.w va y.acts
 ends:RepE S'.w ve (endsM (decide (most≤(y.acts.length:Int))) (donesE n y.st))
section
variable {L A:Type}{p:Plan L A}{Post:Value→World→Prop}{S:SC}{cl:Frame}{cs:List Frame}{n c0:Nat}{vp:Value}{most:Int}{picks:List Nat}{X:Nat→Prop}{a0:A}{fb fo pb:Nat}{fn:Nat→FuncId}{cap:Nat→Array Value}
theorem run_plan (hok:∀ C:WC,C.n=n→C.fn=fn→C.cap=cap→BOk (p.bods C) C)(hfr:∀ {a st X w w'},p.mem a st X w→(∀ b,X b→w'.heap[b]?=w.heap[b]?)→w.heap.size≤w'.heap.size→p.mem a st X w')(hid:Idle S)(hn:0<n)(hn8:n≤8)(hcl:cl.mode=.run)
  (hfb:fb<S.w.heap.size) (hfv:∀ j,j<n→S.w.cell? ⟨fb,fo+j,none⟩=some (.func (.func (fn j)) #[] (cap j))) (hpk:Bytes pb S.w vp picks) (hpb:pb<S.w.heap.size) (hpx:¬ X pb) (hpl:picks.length≤65536) (hm0:0≤most) (hm1:most<4294967295)
  (hmem:p.mem a0 (fun _=>.fresh) X S.w) (hXl:∀ b,X b→b<S.w.heap.size)
  (hnext:∀ S' ga ca ge ne ce,Ran p n most (p.run n most a0 picks) S S' X (.slice ga (p.run n most a0 picks).acts.length ca) (.slice ge ne ce) →
   Sound Try.prog link.tWg Post 0 S' (gs (cl.finish (.tuple #[.agg #[.slice ga (p.run n most a0 picks).acts.length ca,.slice ge ne ce,.int .i64 ((picks.length-(p.run n most a0 picks).left.length:Nat):Int)],.int .i64 (codeM (decide (most≤((p.run n most a0 picks).acts.length:Int))) (donesE n (p.run n most a0 picks).st))])) cs)) :
  Sound Try.prog link.tWg Post 0 S (gs (Frame.enter Try.prog 12 #[.slice (some ⟨fb,fo,none⟩) n c0,vp,.int .i64 most] .normal) (cl::cs)):=by
 have hK:=clS (Post:=Post) S;refine ks (S:=S) (run_enter hK.det ?_) rfl;have kob:=Kp.alloc [] S.w (.cells #[.slice none 0 0,.slice none 0 0,.int .i64 0] 34);have bob:Blk (S.w.alloc (.cells #[.slice none 0 0,.slice none 0 0,.int .i64 0] 34)) S.w.heap.size [.slice none 0 0,.slice none 0 0,.int .i64 0] 34:=Blk.new _ _ _;obtain⟨ob,hob⟩:∃ ob,ob=S.w.heap.size:=⟨_,rfl⟩;rw[← hob] at bob ⊢;generalize S.w.alloc (.cells #[.slice none 0 0,.slice none 0 0,.int .i64 0] 34)=w1 at kob bob ⊢;have s1:=kob.size;have hbob:=bob.lt;have hrun:∀ C,runF (p.bods C) n (fun a=>a) most.toNat ⟨fun _=>.fresh,a0,[],picks⟩=p.run n most a0 picks:=fun C=>by unfold Plan.run;exact runF_congr (B:=p.bods C) (B':=⟨fun _ _ _ _=>True,fun _ _ _=>True,p.go,p.rdy,fun _=>True⟩) rfl rfl _ _
 show Sound Try.prog link.tWg Post 0 { S with w:=w1} _;refine watch_runs (S:={S with w:=w1}) (Bf:=fun C=>p.bods C) (go:=p.go) (rdy:=p.rdy) (n:=n) (c0:=c0) (most:=most) (fn:=fn) (cap:=cap) (beh:=fun a=>a) (a0:=a0) (X:=X) (pb:=pb) (fb:=fb) (fo:=fo) (picks:=picks) (fun _=>rfl) (fun _=>rfl)
  (fun C _ h1 h2 h3=>hok C h1 h2 h3) (fun C=>.inl ⟨rfl,fun _=>rfl⟩) ⟨hid.roles,hid.grps,hid.pos⟩ hn hn8 rfl (nl' hfb s1) (fun j hj=>(kob.cell hfb).trans (hfv j hj)) (hpk.same (kob.block pb hpb (by simp))) (nl' hpb s1) hpx hpl hm0
  (fun C=>hfr hmem (fun b hb=>kob.block b (hXl b hb) (by simp)) s1) (fun b hb=>nl' (hXl b hb) s1) (fun C=>?_) fun C S6 st' X' ga ca ge ne ce hC hCn W=>?_
 ·rw[hrun C]
  have:=runF_acts_le (B:=(⟨fun _ _ _ _=>True,fun _ _ _=>True,p.go,p.rdy,fun _=>True⟩:Bods L A)) (n:=n) (beh:=fun a=>a) most.toNat ⟨fun _=>.fresh,a0,[],picks⟩;have h0:([]:List Nat).length=0:=rfl;show(Plan.run p n most a0 picks).acts.length<_;unfold Plan.run;dsimp only at this;rw[h0] at this;omega
 rw[hrun C] at W ⊢;have hobX:¬ X ob:=fun h=>by have:=hXl ob h;omega
 have bob6:Blk S6.w ob [.slice none 0 0,.slice none 0 0,.int .i64 0] 34:=(W.block ob hbob hobX).trans bob;have s6:w1.heap.size≤S6.w.heap.size:=W.size;have hK6:=clS (Post:=Post) S6;refine ks (S:=S6) (run_back hK6.det hcl bob6 fun w7 f7 s7=>?_) rfl;have hX'ob:¬ X' ob:=fun h=>by
  rcases W.own ob h with h | h
  ·exact hobX h
  ·have:w1.heap.size≤ob:=h
   omega
 show Sound Try.prog link.tWg Post 0 { S6 with w:=w7} _;refine hnext { S6 with w:=w7} ga ca ge ne ce ⟨⟨W.idle.roles,W.idle.grps,W.idle.pos⟩,W.n0,W.W0,?_,fun b hb hX=>?_,⟨st',X',hfr W.mem (fun b hb=>f7 b fun e=>hX'ob (e▸hb)) (Nat.le_of_eq s7.symm),fun b hb=>?_,W.erased⟩,?_,?_⟩
 ·show S.w.heap.size≤w7.heap.size
  omega
 ·show w7.heap[b]?=S.w.heap[b]?
  rw[f7 b (by omega),W.block b (show b<w1.heap.size by omega) hX,kob.block b hb (by simp)]
 ·rcases W.own b hb with h | h
  ·exact .inl h
  ·have:w1.heap.size≤b:=h
   exact .inr (by omega)
 ·exact rep_same W.actsv (Nat.le_of_eq s7.symm) fun b hb=>f7 b fun e=>by
   subst e;obtain⟨c,h⟩:=fp_cel W.actsv b hb;exact cel_ne h (Blk.cel bob6) (by decide) rfl
 ·have h:=W.ends
  rw[hCn] at h;exact rep_same h (Nat.le_of_eq s7.symm) fun b hb=>f7 b fun e=>by
   subst e;obtain⟨c,h⟩:=fp_cel h b hb;exact cel_ne h (Blk.cel bob6) (by decide) rfl
end
theorem Kp.new {F:List Nat}{w w' w'':World}(h:Kp [] w w')(k:Kp F w' w'')(hF:∀ b∈F,w.heap.size≤b):Kp [] w w'' :=
 ⟨Nat.le_trans h.size k.size,fun b hb _=>(k.block b (nl' hb h.size) fun hm=>absurd hb (Nat.not_lt.2 (hF b hm))).trans (h.block b hb (by simp))⟩
theorem Ran.kp {L A:Type}{p:Plan L A}{n:Nat}{most:Int}{y:RunSt L A}{S S':SC}{X:Nat→Prop}{va ve:Value}(R:Ran p n most y S S' X va ve){w:World}(k:Kp [] w S.w)(hX:∀ b,X b→w.heap.size≤b):Kp [] w S'.w :=
 ⟨Nat.le_trans k.size R.size,fun b hb _=>(R.block b (nl' hb k.size) fun h=>absurd hb (Nat.not_lt.2 (hX b h))).trans (k.block b hb (by simp))⟩
theorem call_new {m:Bool}{K:Goroutine→World→Prop}(hK:Cl Try.prog m K){f:FuncId}{args:Array Value}{cells:List Value}{t:TypeId}{w:World}{c:Frame}{low:List Frame}(hf:fam f=true)(hc:∀ w,Calls Try.prog f args w fun e w'=>e=.returned (ptr w.heap.size)∧w'=w.alloc (.cells cells.toArray t))
  (h:∀ w' b,b=w.heap.size→Kp [] w w'→Blk w' b cells t→K (gs (c.finish (ptr b)) low) w'):K (gs (Frame.enter Try.prog f args .normal) (c::low)) w:=by
 refine hK.call fits shut hf (R:=fun v w'=>v=ptr w.heap.size∧Kp [] w w'∧Blk w' w.heap.size cells t) (fun v w' τ d ⟨h1,h2,h3⟩=>⟨h1,⟨h2.size,h2.block⟩,h3⟩) (fun τ d=>(hc (re w τ d)).mono fun e w' ⟨h1,h2⟩=>⟨_,h1,rfl,?_,?_⟩) ?_
 ·subst h2
  have:=Kp.alloc [] (re w τ d) (.cells cells.toArray t);exact⟨this.size,this.block⟩
 ·subst h2
  exact Blk.new (re w τ d) cells t
 ·rintro v w' ⟨rfl,k,b⟩
  exact h w' _ rfl k b
theorem mutex_new (w:World):Calls Try.prog 18 #[] w fun e w'=>e=.returned (ptr w.heap.size)∧w'=w.alloc (.cells [.bool true,.int .i64 (-1)].toArray 91):=by
 go_enter Try.func18,Try.ntmps18
 go_wp2
 go_ret
 exact⟨rfl,rfl⟩
theorem cell_new (w:World)(v:Int):Calls Try.prog 8 #[.int .i64 v] w fun e w'=>e=.returned (ptr w.heap.size)∧w'=w.alloc (.cells [.bool true,.int .i64 v,.int .i64 0].toArray 82):=by
 go_enter Try.func8,Try.ntmps8
 go_wp2
 go_ret
 exact⟨rfl,rfl⟩
theorem fair_new (w:World):Calls Try.prog 13 #[] w fun e w'=>e=.returned (ptr w.heap.size)∧w'=w.alloc (.cells [.bool true,.int .i64 (-1),.int .i64 0,.int .i64 0].toArray 88):=by
 go_enter Try.func13,Try.ntmps13
 go_wp2
 go_ret
 exact⟨rfl,rfl⟩
theorem rw_new (w:World):Calls Try.prog 19 #[] w fun e w'=>e=.returned (ptr w.heap.size)∧w'=w.alloc (.cells [.bool true,.int .i64 (-1),.int .i64 0,.int .i64 0].toArray 93):=by
 go_enter Try.func19,Try.ntmps19
 go_wp2
 go_ret
 exact⟨rfl,rfl⟩
theorem holder_calls (w:World)(mb:Nat){by0:Int}(h0:w.cell? ⟨mb,0,none⟩=some (.bool true))(h1:w.cell? ⟨mb,1,none⟩=some (.int .i64 by0)):Calls Try.prog 31 #[ptr mb] w fun e w'=>e=.returned (.int .i64 by0)∧w'=w:=by
 go_enter Try.func31,Try.ntmps31
 go_wp2
 go_ret
 exact⟨rfl,rfl⟩
def q7:Code:=Try.f7.body.getD .skip
theorem al_48:∀ w:World,(Instr.alloc 48 true (.tuple #[])).run Try.prog w=.ok (ptr w.heap.size) (w.alloc (.cells #[.pointer none] 48)):=fun w=>by
 simp[go_sem,Try.underlying48,Try.runUnderlying48,Try.sizeOf48,Try.isAgg48,Try.zeroValue48]
theorem s_48 {w:World}{a:Addr}{x:Value}{y:Option Addr}(hc:w.cell? a=some x)(hf:w.frozen? a=false):(Instr.storeAt 48 (.pointer (some a)) (.pointer y)).run Try.prog w=.ok () (w.setCell a (.pointer y)):=by simp[go_sem,hc,hf,Try.underlying48,Try.runUnderlying48,Try.sizeOf48,Try.isAgg48]
theorem al_3:∀ w:World,(Instr.alloc 3 true (.tuple #[])).run Try.prog w=.ok (ptr w.heap.size) (w.alloc (.cells #[.int .i64 0] 3)):=fun w=>by
 simp[go_sem,Try.underlying3,Try.runUnderlying3,Try.sizeOf3,Try.isAgg3,Try.zeroValue3]
theorem w_mk0_2 {a:Act}{oo:Oper}{w:World}{y0 y1:Operand}{u0 u1:Value}{ff:FuncId}(h:oo.op=.makeFunc (.func ff) #[] #[y0,y1])(hy0:a.eval y0=u0)(hy1:a.eval y1=u1):(execOp a.eval oo).run Try.prog w=.ok (.value (.func (.func ff) #[] #[u0,u1])) w:=by
 unfold execOp;rw[h];exact run_vv (by simp only[List.map_toArray,List.map_cons,List.map_nil,hy0,hy1];simp[go_sem])
theorem x_bs27_2 {a:Act}{oo:Oper}{w:World}{x0 x1:Operand}{f0 f1:FuncId}{d0 c0 d1 c1:Array Value}(h:oo.op=.buildSlice 27 2 #[(0,x0),(1,x1)])(h0:a.eval x0=.func (.func f0) d0 c0)(h1:a.eval x1=.func (.func f1) d1 c1):(execOp a.eval oo).run Try.prog w=.ok (.value (.slice (some ⟨w.heap.size,0,none⟩) 2 2)) (w.alloc (.cells #[.func (.func f0) d0 c0,.func (.func f1) d1 c1] 31)):=by
 unfold execOp;rw[h];generalize a.eval=ρ at h0 h1 ⊢;simp only[Array.map_map,List.map_toArray,List.map,Function.comp,h0,h1];exact run_vv (by simp[go_sem,Try.underlying27,Try.runUnderlying27,Try.sizeOf31,Try.isAgg31,Try.zeroValue31])
theorem al_34:∀ w:World,(Instr.alloc 34 true (.tuple #[])).run Try.prog w=.ok (ptr w.heap.size) (w.alloc (.cells #[.slice none 0 0,.slice none 0 0,.int .i64 0] 34)):=fun w=>by
 simp[go_sem,Try.underlying34,Try.runUnderlying34,Try.sizeOf34,Try.isAgg34,Try.zeroValue34]
theorem wk5 (w:World)(x:Nat→Value)(mx mb nb:Nat)(c1:w.cell? ⟨mx,0,none⟩=some (ptr mb))(c2:w.cell? ⟨nb,0,none⟩=some (.int .i64 2))(hh:Calls Try.prog 31 #[ptr mb] w fun e w'=>e=.returned (.int .i64 (-1))∧w'=w)(h1:x 1=ptr mx)(h2:x 2=ptr nb)(h5:x 5=.int .i64 0) :
  (sL (sR (sR (sR (sR (sR q7)))))).wp Try.prog (fun e a' w'=>e=.normal∧a'.defers=[]∧lQ 30 (fun x=>x 0=.bool true) w a'.tmps w') ⟨fg 30 x,[]⟩ w:=by
 have HQ:Hid (∀ (t:Array Value) (w':World),lQ 30 (fun x=>x 0=.bool true) w t w'→lQ 30 (fun x=>x 0=.bool true) w t w'):=Lib.hid fun _ _ h=>h;generalize hG:lQ 30 (fun x=>x 0=.bool true) w=G at HQ ⊢;have HG:=Lib.hid hG;clear hG;rw[show fg 30 x=#[x 0,x 1,x 2,x 3,x 4,x 5,x 6,x 7,x 8,x 9,x 10,x 11,x 12,x 13,x 14,x 15,x 16,x 17,x 18,x 19,x 20,x 21,x 22,x 23,x 24,x 25,x 26,x 27,x 28,x 29] from rfl];simp only[q7,Try.f7,Option.getD_some,sL,sR,sB,sT,sF,h1,h2,h5];have HH:=Lib.hid hh;clear hh
 go_wp2_with (go_at_call 31;refine(HH.out).mono ?_;rintro e w' ⟨rfl,rfl⟩)
 refine HQ.out _ _ ?_;rw[← HG.out];exact lQ_mk rfl rfl (Keeps.refl _ _)
theorem works_runs {Post:Value→World→Prop}{S:SC}{cl:Frame}{cs:List Frame}(hid:Idle S)(hcl:cl.mode=.run)(hnext:∀ S',Idle S'→S'.n0=S.n0→S'.W0=S.W0→Kp [] S.w S'.w→Sound Try.prog link.tWg Post 0 S' (gs (cl.finish (.bool true)) cs)):Sound Try.prog link.tWg Post 0 S (gs (Frame.enter Try.prog 7 #[] .normal) (cl::cs)):=by
 have hk:(base 7).kind≠.early:=nofun;have hK:=clS (Post:=Post) S;have hD:=hK.det;refine ks (S:=S) ?_ rfl;obtain⟨w,hw⟩:∃ w,w=S.w:=⟨_,rfl⟩;rw[← hw];have kk:Kp [] w w:=⟨Nat.le_refl _,fun _ _ _=>rfl⟩;rw[show(#[]:Array Value)=([]:List Value).toArray from rfl,enter_fg (n:=30) (c:=q7) Try.func7 rfl rfl rfl];refine hD.s0 ?_;refine hD.r0 ?_;refine hD.as (.bool false) hk ?_;refine nm rfl ?_;refine hD.e0 ?_;refine hD.s0 ?_;refine hD.r0 ?_;refine hD.cf #[] hk Try.func18 ?_;refine call_new hK (f:=18) rfl (fun w=>mutex_new w) fun w1 nw1 hnw1 ksw1 bw1=>?_;have genw1:w.heap.size≤nw1:=by rw[hnw1];exact kk.size
 have kk:=kk.trans ksw1;refine fin_at (Kn:=fun _=>KS Try.prog link.tWg Post 0 S) (n:=0) (dst:=some 6) rfl rfl ?_;refine nm rfl ?_;refine hD.alloc (n:=0) (ob:=.cells #[.pointer none] 48) hk rfl ⟨rfl,rfl,rfl,(by decide +kernel),nofun⟩ al_48 ?_;obtain⟨w2,hsw2⟩:∃ z,z=w1.alloc (.cells #[.pointer none] 48):=⟨_,rfl⟩;obtain⟨nw2,hnw2⟩:∃ z,z=w1.heap.size:=⟨_,rfl⟩;have ksw2:Kp [] w1 w2:=by rw[hsw2];exact Kp.alloc [] _ _
 have bw2:Blk w2 nw2 [.pointer none] 48:=by rw[hsw2,hnw2];exact Blk.new _ _ _
 rw[← hsw2,← hnw2];clear hsw2;have genw2:w.heap.size≤nw2:=by rw[hnw2];exact kk.size
 have bw1':=ksw2.blk bw1 (by simp);have kk:=kk.trans ksw2;refine nm rfl ?_;refine hD.store (n:=0) (u:=(ptr nw2)) (z:=(ptr nw1)) hk rfl ⟨rfl,rfl,rfl,rfl,nofun⟩ rfl rfl (fun τ d=>((s_48 (w:=re w2 τ d) (bw2.cell 0) (bw2.frozen 0)).trans (congrArg (Result.ok ()) re_setCell))) (Nat.le_of_eq (World.size_setCell _ _ _).symm) ?_;obtain⟨w3,hsw3⟩:∃ z,z=w2.setCell ⟨nw2,0,none⟩ (ptr nw1):=⟨_,rfl⟩;have ksw3:Kp [nw2] w2 w3:=by rw[hsw3];exact⟨Nat.le_of_eq (World.size_setCell _ _ _).symm,fun c hc hn=>setCell_frame (by simpa using hn)⟩
 have bw3:Blk w3 nw2 [ptr nw1] 48:=by rw[hsw3];exact bw2.set 0 _
 rw[← hsw3];clear hsw3;have bw1'':=ksw3.blk bw1' (by simpa using (cel_ne (Blk.cel bw1') (Blk.cel bw2) (by decide)));have kk:=kk.new ksw3 (by simpa using genw2);refine hD.e0 ?_;refine hD.s0 ?_;refine hD.r0 ?_;refine hD.alloc (n:=0) (ob:=.cells #[.int .i64 0] 3) hk rfl ⟨rfl,rfl,rfl,(by decide +kernel),nofun⟩ al_3 ?_;obtain⟨w4,hsw4⟩:∃ z,z=w3.alloc (.cells #[.int .i64 0] 3):=⟨_,rfl⟩;obtain⟨nw4,hnw4⟩:∃ z,z=w3.heap.size:=⟨_,rfl⟩;have ksw4:Kp [] w3 w4:=by rw[hsw4];exact Kp.alloc [] _ _
 have bw4:Blk w4 nw4 [.int .i64 0] 3:=by rw[hsw4,hnw4];exact Blk.new _ _ _
 rw[← hsw4,← hnw4];clear hsw4;have genw4:w.heap.size≤nw4:=by rw[hnw4];exact kk.size
 have bw1''':=ksw4.blk bw1'' (by simp);have bw3':=ksw4.blk bw3 (by simp);have kk:=kk.trans ksw4;refine nm rfl ?_;refine hD.store (n:=0) (u:=(ptr nw4)) (z:=(.int .i64 0)) hk rfl ⟨rfl,rfl,rfl,rfl,nofun⟩ rfl rfl (fun τ d=>((s_3 (w:=re w4 τ d) (bw4.cell 0) (bw4.frozen 0)).trans (congrArg (Result.ok ()) re_setCell))) (Nat.le_of_eq (World.size_setCell _ _ _).symm) ?_;obtain⟨w5,hsw5⟩:∃ z,z=w4.setCell ⟨nw4,0,none⟩ (.int .i64 0):=⟨_,rfl⟩;have ksw5:Kp [nw4] w4 w5:=by rw[hsw5];exact⟨Nat.le_of_eq (World.size_setCell _ _ _).symm,fun c hc hn=>setCell_frame (by simpa using hn)⟩
 have bw5:Blk w5 nw4 [.int .i64 0] 3:=by rw[hsw5];exact bw4.set 0 _
 rw[← hsw5];clear hsw5;have bw1'''':=ksw5.blk bw1''' (by simpa using (cel_ne (Blk.cel bw1''') (Blk.cel bw4) (by decide)));have bw3'':=ksw5.blk bw3' (by simpa using (cel_ne (Blk.cel bw3') (Blk.cel bw4) (by decide)));have kk:=kk.new ksw5 (by simpa using genw4);refine hD.e0 ?_;refine hD.s0 ?_;refine hD.r0 ?_;refine hD.pu (.func (.func 27) #[] #[ptr nw2,ptr nw4]) hk (fun w=>w_mk0_2 rfl rfl rfl) ?_;refine nm rfl ?_;refine hD.as (.func (.func 27) #[] #[ptr nw2,ptr nw4]) hk ?_;refine nm rfl ?_;refine hD.e0 ?_;refine hD.s0 ?_;refine hD.r0 ?_;refine hD.mv (.func (.func 27) #[] #[ptr nw2,ptr nw4]) hk ?_;refine nm rfl ?_;refine hD.mv (.func (.func 27) #[] #[ptr nw2,ptr nw4]) hk ?_;refine nm rfl ?_;refine hD.opv (n:=0) (w':=w5.alloc (.cells #[(.func (.func 27) #[] #[ptr nw2,ptr nw4]),(.func (.func 27) #[] #[ptr nw2,ptr nw4])] 31)) (v:=(.slice (some ⟨w5.heap.size,0,none⟩) 2 2)) hk rfl ⟨rfl,rfl,rfl,(by decide +kernel),nofun⟩ (fun τ d=>x_bs27_2 rfl rfl rfl) (by rw[wz'];omega) ?_;obtain⟨w6,hsw6⟩:∃ z,z=w5.alloc (.cells #[(.func (.func 27) #[] #[ptr nw2,ptr nw4]),(.func (.func 27) #[] #[ptr nw2,ptr nw4])] 31):=⟨_,rfl⟩;obtain⟨nw6,hnw6⟩:∃ z,z=w5.heap.size:=⟨_,rfl⟩;have ksw6:Kp [] w5 w6:=by rw[hsw6];exact Kp.alloc [] _ _
 have bw6:Blk w6 nw6 [(.func (.func 27) #[] #[ptr nw2,ptr nw4]),(.func (.func 27) #[] #[ptr nw2,ptr nw4])] 31:=by rw[hsw6,hnw6];exact Blk.new _ _ _
 rw[← hsw6,← hnw6];clear hsw6;have genw6:w.heap.size≤nw6:=by rw[hnw6];exact kk.size
 have bw1''''':=ksw6.blk bw1'''' (by simp);have bw3''':=ksw6.blk bw3'' (by simp);have bw5':=ksw6.blk bw5 (by simp);have kk:=kk.trans ksw6;refine nm rfl ?_;refine hD.cf #[.slice (some ⟨nw6,0,none⟩) 2 2,.slice none 0 0,.int .i64 50] hk Try.func12 ?_;have ne1:nw2≠nw1:=cel_ne (Blk.cel bw3''') (Blk.cel bw1''''') (by decide);have nf1:nw6≠nw2:=cel_ne (Blk.cel bw6) (Blk.cel bw3''') (by decide);have nf2:nw6≠nw1:=cel_ne (Blk.cel bw6) (Blk.cel bw1''''') (by decide);have nf3:nw6≠nw4:=cel_ne (Blk.cel bw6) (Blk.cel bw5') (by decide);show Sound Try.prog link.tWg Post 0 { S with w:=w6} _;obtain⟨r1,r2,r3,r4⟩:=wk_run (B:=(⟨fun _ _ _ _=>True,fun _ _ _=>True,wkGo,wkRdy,fun _=>True⟩:Bods WkL WkA)) rfl rfl;obtain⟨y,hy⟩:∃ y,y=(wkPlan nw2 nw1 nw4).run 2 50 ⟨-1,0⟩ []:=⟨_,rfl⟩;have hy':y=runF (⟨fun _ _ _ _=>True,fun _ _ _=>True,wkGo,wkRdy,fun _=>True⟩:Bods WkL WkA) 2 (fun a=>a) (50:Int).toNat ⟨fun _=>.fresh,⟨-1,0⟩,[],[]⟩:=hy;rw[← hy'] at r1 r2 r3 r4;clear hy';have hfv:∀ j,j<2→w6.cell? ⟨nw6,0+j,none⟩=some (.func (.func 27) #[] #[ptr nw2,ptr nw4]):=fun j hj=>by
  obtain rfl | rfl:j=0∨j=1:=by omega
  ·exact bw6.cell 0
  ·exact bw6.cell 1
 have hpx:¬ (nw6=nw2∨nw6=nw1∨nw6=nw4):=fun e=>by
  rcases e with e | e | e
  ·exact nf1 e
  ·exact nf2 e
  ·exact nf3 e
 have hXl:∀ b,b=nw2∨b=nw1∨b=nw4→b<w6.heap.size:=fun b hb=>by
  rcases hb with rfl | rfl | rfl
  ·exact bw3'''.lt
  ·exact bw1'''''.lt
  ·exact bw5'.lt
 refine run_plan (S:={S with w:=w6}) (p:=wkPlan nw2 nw1 nw4) (n:=2) (most:=50) (picks:=[]) (X:=fun b=>b=nw2∨b=nw1∨b=nw4) (a0:=⟨-1,0⟩) (fb:=nw6) (fo:=0) (pb:=nw6) (fn:=fun _=>27) (cap:=fun _=>#[ptr nw2,ptr nw4])
  (fun C _ h1 h2=>wk_ok (fun i _=>by rw[h1]) (fun i _=>by rw[h2])) (fun h hb hs=>⟨h.x,(hb _ ((h.x _).2 (.inl rfl))).trans h.m,(hb _ ((h.x _).2 (.inr (.inl rfl)))).trans h.l,(hb _ ((h.x _).2 (.inr (.inr rfl)))).trans h.n,h.rv⟩) ⟨hid.roles,hid.grps,hid.pos⟩ (by decide) (by decide) rfl bw6.lt
  hfv ⟨none,0,rfl,Nat.le_refl _,Nat.zero_le _,(fun u hu=>by cases hu),fun h=>absurd rfl h⟩ bw6.lt hpx (by decide) (by decide) (by decide)
  ⟨fun _=>Iff.rfl,bw3''',bw1''''',bw5',fun i l rv e=>by cases e⟩ hXl fun S6 ga ca ge ne ce R=>?_
 rw[← hy] at R ⊢;obtain⟨st',X',hm,hX',_⟩:=R.mem;have c1:=hm.m;have c2:=hm.l;have c3:=hm.n;rw[r1] at c2 c3;have hdn:donesE 2 y.st=List.replicate 2 true:=by
  show [isDoneE (y.st 0),isDoneE (y.st 1)]=_;rw[r2,r3];rfl
 rw[hdn,codeM_done,r4];have hK6:=clS (Post:=Post) S6;refine ks (S:=S6) ?_ rfl;have hK:=hK6;have hD:=hK.det;obtain⟨w6,hw6⟩:∃ w,w=S6.w:=⟨_,rfl⟩;have kk:Kp [] w w6:=by
  rw[hw6];exact R.kp (w:=w) kk fun b hb=>by
   rcases hb with rfl | rfl | rfl
   ·exact genw2
   ·exact genw1
   ·exact genw4
 rw[← hw6] at c1 c2 c3 ⊢;refine fin_at (Kn:=fun _=>KS Try.prog link.tWg Post 0 S6) (n:=0) (dst:=some 12) rfl rfl ?_;refine nm rfl ?_;refine hD.mv (.tuple #[.agg #[.slice ga 8 ca,.slice ge ne ce,.int .i64 (([]:List Nat).length-y.left.length:Nat)],.int .i64 0]) hk ?_;refine nm rfl ?_;refine hD.pu (.agg #[.slice ga 8 ca,.slice ge ne ce,.int .i64 (([]:List Nat).length-y.left.length:Nat)]) hk (fun w=>pu_ext rfl rfl rfl) ?_;refine nm rfl ?_;refine hD.pu (.int .i64 0) hk (fun w=>pu_ext rfl rfl rfl) ?_;refine nm rfl ?_;refine hD.alloc (n:=0) (ob:=.cells #[.slice none 0 0,.slice none 0 0,.int .i64 0] 34) hk rfl ⟨rfl,rfl,rfl,(by decide +kernel),nofun⟩ al_34 ?_;obtain⟨w7,hsw7⟩:∃ z,z=w6.alloc (.cells #[.slice none 0 0,.slice none 0 0,.int .i64 0] 34):=⟨_,rfl⟩;obtain⟨nw7,hnw7⟩:∃ z,z=w6.heap.size:=⟨_,rfl⟩;have ksw7:Kp [] w6 w7:=by rw[hsw7];exact Kp.alloc [] _ _
 have bw7:Blk w7 nw7 [.slice none 0 0,.slice none 0 0,.int .i64 0] 34:=by rw[hsw7,hnw7];exact Blk.new _ _ _
 rw[← hsw7,← hnw7];clear hsw7;have genw7:w.heap.size≤nw7:=by rw[hnw7];exact kk.size
 have c1':=ksw7.blk c1 (by simp);have c2':=ksw7.blk c2 (by simp);have c3':=ksw7.blk c3 (by simp);have kk:=kk.trans ksw7;refine nm rfl ?_;refine hD.store (n:=0) (u:=(ptr nw7)) (z:=(.agg #[.slice ga 8 ca,.slice ge ne ce,.int .i64 (([]:List Nat).length-y.left.length:Nat)])) hk rfl ⟨rfl,rfl,rfl,rfl,nofun⟩ rfl rfl (fun τ d=>((st30 (w:=re w7 τ d) bw7).trans (congrArg (Result.ok ()) re_set3))) (Nat.le_of_eq set3_size.symm) ?_;obtain⟨w8,hsw8⟩:∃ z,z=set3 w7 nw7 (.slice ga 8 ca) (.slice ge ne ce) (.int .i64 (([]:List Nat).length-y.left.length:Nat)):=⟨_,rfl⟩;have ksw8:Kp [nw7] w7 w8:=by rw[hsw8];exact⟨Nat.le_of_eq set3_size.symm,fun c hc hn=>set3_frame (by simpa using hn)⟩
 have bw8:Blk w8 nw7 [.slice ga 8 ca,.slice ge ne ce,.int .i64 (([]:List Nat).length-y.left.length:Nat)] 34:=by rw[hsw8];exact set3_blk bw7
 rw[← hsw8];clear hsw8;have c1'':=ksw8.blk c1' (by simpa using (cel_ne (Blk.cel c1') (Blk.cel bw7) (by decide)));have c2'':=ksw8.blk c2' (by simpa using (cel_ne (Blk.cel c2') (Blk.cel bw7) (by decide)));have c3'':=ksw8.blk c3' (by simpa using (cel_ne (Blk.cel c3') (Blk.cel bw7) (by decide)));have kk:=kk.new ksw8 (by simpa using genw7);refine hD.as (.int .i64 0) hk ?_;refine nm rfl ?_;refine hD.e0 ?_;refine hD.s0 ?_;refine hK.seg fits shut (b:=base 7) ⟨_,Try.func7⟩ nofun (c:=(sL (sR (sR (sR (sR (sR q7))))))) (by decide +kernel) (Q:=lQ 30 (fun x=>x 0=.bool true) w8) (fun t w' τ d h=>lQ_re h τ d) (fun τ d=>Code.wp_mono (fun e a w' ⟨h1,h2,h3⟩=>⟨h1,h2,lQ_un h3⟩) (wk5 (re w8 τ d) _ nw2 nw1 nw4 (c1''.cell 0) (c3''.cell 0) (holder_calls _ _ (c2''.cell 0) (c2''.cell 1)) rfl rfl rfl)) fun t w9 ⟨x',ex',g0,ksw9⟩=>?_;subst ex';rw[allK.self (x:=x') (l:=[(0,.bool true)]) ⟨g0,trivial⟩];have c1''':=ksw9.blk c1'' (by simp);have c2''':=ksw9.blk c2'' (by simp);have c3''':=ksw9.blk c3'' (by simp);have bw8':=ksw9.blk bw8 (by simp);have kk:=kk.trans ksw9;refine hD.ret (n:=0) ?_;exact hD.leave (n:=0) (b:=base 7) (v:=.bool true) rfl rfl Try.func7 (fun τ d=>res1v rfl rfl) hcl (hnext { S6 with w:=w9} ⟨R.idle.roles,R.idle.grps,R.idle.pos⟩ R.n0 R.W0 (hw▸kk))
theorem runF_ends {L A:Type}{B:Bods L A}{n:Nat}{beh:A→A}{I:(Nat→ES L)→A→Prop}{φ:(Nat→ES L)→A→Nat}
  (hstep:∀ st a i m,i<n→rdyE B i (st i) a=true→I st a→I (updE st i (toT (B.go i (st i) a m).2)) (beh (B.go i (st i) a m).1)∧φ (updE st i (toT (B.go i (st i) a m).2)) (beh (B.go i (st i) a m).1)<φ st a) :
  ∀ k x,I x.st x.a→φ x.st x.a≤k→I (runF B n beh k x).st (runF B n beh k x).a∧readies B n (runF B n beh k x)=[]
 | 0,x,hI,hk=>by
  refine⟨hI,?_⟩;show readies B n x=[];cases e:readies B n x with
  | nil=>rfl
  | cons i l =>
   have hm:i∈readies B n x:=by rw[e];exact mc'
   unfold readies at hm;obtain⟨h1,h2⟩:=List.mem_filter.1 hm;have:=(hstep x.st x.a i 0 (List.mem_range.1 h1) h2 hI).2;omega
 | k+1,x,hI,hk=>by
  unfold runF;by_cases e:readies B n x=[]
  ·rw[if_pos e];exact⟨hI,e⟩
  ·rw[if_neg e]
   have hm:=chosen_mem (acts:=x.acts) (left:=x.left) e;generalize (chosen (readies B n x) x.acts x.left).1=i at hm ⊢;generalize (chosen (readies B n x) x.acts x.left).2=left;unfold readies at hm;obtain⟨h1,h2⟩:=List.mem_filter.1 hm;obtain⟨h3,h4⟩:=hstep x.st x.a i (x.acts.length+1) (List.mem_range.1 h1) h2 hI;exact runF_ends hstep k (oneAct B beh x i left) h3 (Nat.le_of_lt_succ (nl' h4 hk))
theorem sumTo_mono {f g:Nat→Nat}:∀ {n:Nat},(∀ j,j<n→f j≤g j)→sumTo n f≤sumTo n g
 | 0,_=>Nat.le_refl _
 | n+1,h=>Nat.add_le_add (sumTo_mono fun j hj=>h j (by omega)) (h n (by omega))
theorem sumTo_mono1 {f g:Nat→Nat}{i d:Nat}:∀ {n:Nat},(∀ j,j<n→j≠i→f j≤g j)→i<n→f i+d≤g i→sumTo n f+d≤sumTo n g
 | n+1,h,hi,hd=>by
  show sumTo n f+f n+d≤sumTo n g+g n;by_cases e:i=n
  ·subst e
   have:=sumTo_mono (f:=f) (g:=g) (n:=i) fun j hj=>h j (by omega) (by omega);omega
  ·have:=sumTo_mono1 (f:=f) (g:=g) (i:=i) (d:=d) (n:=n) (fun j hj hne=>h j (by omega) hne) (by omega) hd
   have:=h n (by omega) (fun e'=>e e'.symm);omega
theorem sumTo_plus {f:Nat→Nat}{c:Nat}:∀ n:Nat,sumTo n (fun j=>f j+c)=sumTo n f+c*n
 | 0=>rfl
 | n+1=>by
  show sumTo n (fun j=>f j+c)+(f n+c)=sumTo n f+f n+c*(n+1);rw[sumTo_plus n,Nat.mul_succ];omega
theorem sumTo_ext {f g:Nat→Nat}{n:Nat}(h:∀ j,j<n→f j=g j):sumTo n f=sumTo n g:=Nat.le_antisymm (sumTo_mono fun j hj=>Nat.le_of_eq (h j hj)) (sumTo_mono fun j hj=>Nat.le_of_eq (h j hj).symm)
inductive CeL
 | load (j t:Nat)
 | cas (j t:Nat) (v:Int)
def ceNext (k j:Nat)(v:Int):Int × Option CeL:=if j+1<k then (v,some (.load (j+1) 0)) else (v,none)
def ceGo (k:Nat→Nat)(i:Nat)(t:ES CeL)(a:Int)(_n:Nat):Int × Option CeL:=match t with
 | .fresh=>if 0<k i then (a,some (.load 0 0)) else (a,none)
 | .susp (.load j t)=>(a,some (.cas j t a))
 | .susp (.cas j t v)=>if a=v then ceNext (k i) j (wrap64 (v+1)) else if t+1<500 then (a,some (.load j (t+1))) else ceNext (k i) j a
 | .done=>(a,none)
def ceDone (k:Nat):ES CeL→Nat
 | .fresh=>0
 | .susp (.load j _)=>j
 | .susp (.cas j _ _)=>j
 | .done=>k
def ceOwn (k:Nat)(a:Int):ES CeL→Nat
 | .fresh=>1+2*k
 | .susp (.load j _)=>2*(k-j)
 | .susp (.cas j _ v)=>2*(k-j)-1+(if v=a then 0 else 2)
 | .done=>0
def ceOk (k:Nat)(a:Int)(D:Nat):ES CeL→Prop
 | .fresh=>True
 | .susp (.load j t)=>j<k∧t≤D
 | .susp (.cas j t v)=>j<k∧t≤D∧(v≠a→t+1≤D)∧v≤a
 | .done=>True
section
variable {n:Nat}{k:Nat→Nat}{from':Int}{B:Bods CeL Int}
def ceI (n:Nat)(k:Nat→Nat)(from':Int)(st:Nat→ES CeL)(a:Int):Prop :=
 a=from'+(sumTo n (fun i=>ceDone (k i) (st i)):Nat)∧sumTo n (fun i=>ceDone (k i) (st i))≤sumTo n k∧∀ i,i<n→ceOk (k i) a (sumTo n (fun i=>ceDone (k i) (st i))) (st i)
def cePhi (n:Nat)(k:Nat→Nat)(st:Nat→ES CeL)(a:Int):Nat:=sumTo n (fun i=>ceOwn (k i) a (st i))+14*(sumTo n k-sumTo n (fun i=>ceDone (k i) (st i)))
theorem ceOk_up {k:Nat}{a:Int}{D:Nat}{t:ES CeL}(h:ceOk k a D t):ceOk k (a+1) (D+1) t:=by
 match t,h with
 | .fresh,_=>trivial
 | .susp (.load j t),h=>exact⟨h.1,by have:=h.2;omega⟩
 | .susp (.cas j t v),⟨h1,h2,h3,h4⟩=>exact⟨h1,by omega,fun _=>by omega,by omega⟩
 | .done,_=>trivial
theorem ceOwn_up {k:Nat}{a:Int}{t:ES CeL}:ceOwn k (a+1) t≤ceOwn k a t+2:=by
 match t with
 | .fresh=>exact Nat.le_add_right _ _
 | .susp (.load j t)=>exact Nat.le_add_right _ _
 | .susp (.cas j t v) =>
  show 2*(k-j)-1+(if v=a+1 then 0 else 2)≤2*(k-j)-1+(if v=a then 0 else 2)+2;split<;>split<;>omega
 | .done=>exact Nat.le_add_right _ _
theorem updE_self {L:Type}(st:Nat→ES L)(i:Nat)(t:ES L):updE st i t i=t:=if_pos rfl
theorem updE_ne {L:Type}{st:Nat→ES L}{i j:Nat}{t:ES L}(h:j≠i):updE st i t j=st j:=if_neg h
theorem sumTo_one' {f g:Nat→Nat}{i:Nat}:∀ {n:Nat},i<n→(∀ j,j<n→j≠i→f j=g j)→sumTo n f+g i=sumTo n g+f i
 | n+1,hi,h=>by
  show sumTo n f+f n+g i=sumTo n g+g n+f i;by_cases e:i=n
  ·subst e
   have:=sumTo_ext (f:=f) (g:=g) (n:=i) fun j hj=>h j (by omega) (by omega);omega
  ·have:=sumTo_one' (f:=f) (g:=g) (i:=i) (n:=n) (by omega) fun j hj hne=>h j (by omega) hne
   have:=h n (by omega) (fun e'=>e e'.symm);omega
theorem sumTo_one {f g:Nat→Nat}{i:Nat}(hi:i<n)(h:∀ j,j<n→j≠i→f j=g j):sumTo n f+g i=sumTo n g+f i:=sumTo_one' hi h
theorem ce_step (hk:∀ i,i<n→k i≤5)(hn:n≤8)(hf:-1099511627776≤from'∧from'≤1099511627776)(hg:B.go=ceGo k)(st:Nat→ES CeL)(a:Int)(i m:Nat)(hi:i<n)(hr:rdyE B i (st i) a=true)(hI:ceI n k from' st a) :
  ceI n k from' (updE st i (toT (B.go i (st i) a m).2)) (B.go i (st i) a m).1∧cePhi n k (updE st i (toT (B.go i (st i) a m).2)) (B.go i (st i) a m).1<cePhi n k st a:=by
 obtain⟨h1,h2,h3⟩:=hI;have hN:sumTo n k≤40:=by
  have:sumTo n k≤sumTo n (fun j=>0+5):=sumTo_mono fun j hj=>by have:=hk j hj;omega
  rw[sumTo_plus] at this;have h0:∀ n,sumTo n (fun _=>0)=0:=fun n=>by
   induction n with
   | zero=>rfl
   | succ n ih=>show sumTo n _+0=0;rw[ih]
  rw[h0] at this;omega
 have h3i:=h3 i hi;rw[hg];have same:∀ t':ES CeL,ceDone (k i) t'=ceDone (k i) (st i)→ceOk (k i) a (sumTo n (fun i=>ceDone (k i) (st i))) t'→ceOwn (k i) a t'<ceOwn (k i) a (st i)→ceI n k from' (updE st i t') a∧cePhi n k (updE st i t') a<cePhi n k st a:=fun t' q1 q2 q3=>by
  have e:sumTo n (fun j=>ceDone (k j) (updE st i t' j))=sumTo n (fun j=>ceDone (k j) (st j)):=sumTo_ext fun j hj=>by
   by_cases e:j=i
   ·subst e;rw[updE_self,q1]
   ·rw[updE_ne e]
  refine⟨⟨by rw[e];exact h1,by rw[e];exact h2,fun j hj=>?_⟩,?_⟩
  ·rw[e]
   by_cases ej:j=i
   ·subst ej;rw[updE_self];exact q2
   ·rw[updE_ne ej];exact h3 j hj
  ·unfold cePhi
   rw[e];have:=sumTo_mono1 (f:=fun j=>ceOwn (k j) a (updE st i t' j)) (g:=fun j=>ceOwn (k j) a (st j)) (i:=i) (d:=1) (n:=n) (fun j hj hne=>by rw[updE_ne hne];exact Nat.le_refl _) hi (by rw[updE_self];exact q3);omega
 match hs:st i,h3i with
 | .fresh,_ =>
  rw[hs] at same;by_cases hp:0<k i
  ·rw[show ceGo k i .fresh a m=(a,some (.load 0 0)) from if_pos hp]
   exact same (.susp (.load 0 0)) rfl ⟨hp,Nat.zero_le _⟩ (by show 2*(k i-0)<1+2*k i;omega)
  ·rw[show ceGo k i .fresh a m=(a,none) from if_neg hp]
   exact same .done (by show k i=0;omega) trivial (by show 0<1+2*k i;omega)
 | .susp (.load j t),h3i =>
  rw[hs] at same;obtain⟨q1,q2⟩:=h3i;exact same (.susp (.cas j t a)) rfl ⟨q1,q2,fun h=>absurd rfl h,Int.le_refl _⟩ (by
   show 2*(k i-j)-1+(if a=a then 0 else 2)<2*(k i-j);rw[if_pos rfl];omega)
 | .susp (.cas j t v),h3i =>
  obtain⟨q1,q2,q3,q4⟩:=h3i;have hgo:ceGo k i (.susp (.cas j t v)) a m=if a=v then ceNext (k i) j (wrap64 (v+1)) else if t+1<500 then (a,some (.load j (t+1))) else ceNext (k i) j a:=rfl;rw[hgo];by_cases e:a=v
  ·rw[if_pos e]
   have hD:sumTo n (fun i=>ceDone (k i) (st i))<sumTo n k:=by
    refine nl' (Nat.lt_succ_self _) (sumTo_mono1 (f:=fun i=>ceDone (k i) (st i)) (g:=k) (i:=i) (d:=1) (fun j' hj' _=>?_) hi (by rw[hs];exact q1));have:=h3 j' hj'
    match hs':st j',this with
    | .fresh,_=>exact Nat.zero_le _
    | .susp (.load j t),h=>exact Nat.le_of_lt h.1
    | .susp (.cas j t v),h=>exact Nat.le_of_lt h.1
    | .done,_=>exact Nat.le_refl _
   have hw:wrap64 (v+1)=a+1:=by rw[IntWalk.wrap64_in _ (by omega)];omega
   rw[hw];have more:∀ t':ES CeL,ceDone (k i) t'=j+1→ceOwn (k i) (a+1) t'=2*(k i-j)-2→ceOk (k i) (a+1) (sumTo n (fun i=>ceDone (k i) (st i))+1) t'→ceI n k from' (updE st i t') (a+1)∧cePhi n k (updE st i t') (a+1)<cePhi n k st a:=fun t' w1 w2 w3=>by
    have e1:=sumTo_one (n:=n) (f:=fun j=>ceDone (k j) (updE st i t' j)) (g:=fun j=>ceDone (k j) (st j)) hi (fun j _ hne=>by rw[updE_ne hne]);rw[updE_self,w1,hs] at e1;have e2:sumTo n (fun j=>ceDone (k j) (updE st i t' j))=sumTo n (fun j=>ceDone (k j) (st j))+1:=by
     have:ceDone (k i) (.susp (.cas j t v))=j:=rfl;omega
    refine⟨⟨by rw[e2];omega,by rw[e2];omega,fun j' hj'=>?_⟩,?_⟩
    ·rw[e2]
     by_cases ej:j'=i
     ·subst ej;rw[updE_self];exact w3
     ·rw[updE_ne ej];exact ceOk_up (h3 j' hj')
    ·unfold cePhi
     rw[e2];have hown:ceOwn (k i) a (st i)=2*(k i-j)-1:=by
      rw[hs];show 2*(k i-j)-1+(if v=a then 0 else 2)=_;rw[if_pos e.symm];rfl
     have:=sumTo_mono1 (f:=fun j=>ceOwn (k j) (a+1) (updE st i t' j)) (g:=fun j=>ceOwn (k j) a (st j)+2) (i:=i) (d:=3) (n:=n) (fun j hj hne=>by rw[updE_ne hne];exact ceOwn_up) hi (by rw[updE_self,w2,hown];omega);rw[sumTo_plus] at this;omega
   unfold ceNext;split
   ·rename_i hp
    exact more (.susp (.load (j+1) 0)) rfl (by show 2*(k i-(j+1))=_;omega) ⟨hp,Nat.zero_le _⟩
   ·rename_i hp
    exact more .done (by show k i=j+1;omega) (by show 0=_;omega) trivial
  ·rw[if_neg e]
   have q5:=q3 (fun h=>e h.symm);have ht:t+1<500:=by omega
   rw[if_pos ht];rw[hs] at same;exact same (.susp (.load j (t+1))) rfl ⟨q1,q5⟩ (by
    show 2*(k i-j)<2*(k i-j)-1+(if v=a then 0 else 2);rw[if_neg (fun h=>e h.symm)];omega)
 | .done,_=>rw[hs] at hr;cases hr
theorem sq_bound:∀ N,N≤40→8+16*N≤4*N*N+100:=by decide
theorem ce_run (hk:∀ i,i<n→k i≤5)(hn:n≤8)(hf:-1099511627776≤from'∧from'≤1099511627776)(hg:B.go=ceGo k)(hr:∀ i l a,B.rdy i l a=true)(picks:List Nat) :
  (∀ i,i<n→(runF B n (fun a=>a) (4*sumTo n k*sumTo n k+100) ⟨fun _=>.fresh,from',[],picks⟩).st i=.done)∧(runF B n (fun a=>a) (4*sumTo n k*sumTo n k+100) ⟨fun _=>.fresh,from',[],picks⟩).a=from'+(sumTo n k:Nat):=by
 have h0:∀ n,sumTo n (fun _=>0)=0:=fun n=>by
  induction n with
  | zero=>rfl
  | succ n ih=>show sumTo n _+0=0;rw[ih]
 have hN:sumTo n k≤40:=by
  have:sumTo n k≤sumTo n (fun j=>0+5):=sumTo_mono fun j hj=>by have:=hk j hj;omega
  rw[sumTo_plus,h0] at this;omega
 have hI:ceI n k from' (fun _=>.fresh) from':=by
  refine⟨?_,?_,fun i hi=>trivial⟩
  ·rw[show(fun i=>ceDone (k i) .fresh)=fun _=>0 from rfl,h0];simp
  ·rw[show(fun i=>ceDone (k i) .fresh)=fun _=>0 from rfl,h0];exact Nat.zero_le _
 have hP:cePhi n k (fun _=>.fresh) from'≤4*sumTo n k*sumTo n k+100:=by
  refine Nat.le_trans ?_ (sq_bound _ hN);unfold cePhi;rw[show(fun i=>ceDone (k i) .fresh)=fun _=>0 from rfl,h0];have e:sumTo n (fun i=>ceOwn (k i) from' .fresh)=2*sumTo n k+n:=by
   clear hN hI hk hn
   induction n with
   | zero=>rfl
   | succ n ih =>
    show sumTo n _+(1+2*k n)=2*(sumTo n k+k n)+(n+1);rw[ih];omega
  rw[e];omega
 obtain⟨⟨h1,h2,h3⟩,h4⟩:=runF_ends (B:=B) (n:=n) (beh:=fun a=>a) (I:=ceI n k from') (φ:=cePhi n k) (fun st a i m hi hr' hI=>ce_step hk hn hf hg st a i m hi hr' hI) (4*sumTo n k*sumTo n k+100) ⟨fun _=>.fresh,from',[],picks⟩ hI hP;generalize runF B n (fun a=>a) (4*sumTo n k*sumTo n k+100) ⟨fun _=>.fresh,from',[],picks⟩=y at h1 h2 h3 h4 ⊢;have hd:∀ i,i<n→y.st i=.done:=fun i hi=>by
  have:i∉readies B n y:=by rw[h4];simp
  unfold readies at this;rw[List.mem_filter] at this;have hne:¬ rdyE B i (y.st i) y.a=true:=fun h=>this ⟨List.mem_range.2 hi,h⟩
  match hs:y.st i with
  | .fresh=>rw[hs] at hne;exact absurd rfl hne
  | .susp l=>rw[hs] at hne;exact absurd (hr i l y.a) hne
  | .done=>rfl
 refine⟨hd,?_⟩;rw[h1,sumTo_ext (g:=k) fun i hi=>by rw[hd i hi];rfl]
end
theorem w_lss3 {a:Act}{oo:Oper}{w:World}{x y:Operand}{i j:Int}(h:oo.op=.binOp .lss 3 x y 3)(hx:a.eval x=.int .i64 i)(hy:a.eval y=.int .i64 j):(execOp a.eval oo).run Try.prog w=.ok (.value (.bool (decide (i<j)))) w:=by
 unfold execOp;rw[h];simp only[hx,hy];exact run_vv (by simp[go_sem,Try.underlying3,Try.runUnderlying3])
theorem l_25 {w:World}{a:Addr}{v:Value}(hc:w.cell? a=some v):(Instr.loadAt 25 (.pointer (some a))).run Try.prog w=.ok v w:=by simp[go_sem,hc,Try.underlying25,Try.runUnderlying25,Try.sizeOf25,Try.isAgg25]
structure CeM (n:Nat)(kx:Nat→Nat)(cx cb:Nat)(k:Nat→Nat)(a:Int)(st:Nat→TS CeL)(X:Nat→Prop)(w:World):Prop where
 x:∀ b,X b↔b=cx∨b=cb∨∃ i,i<n∧b=kx i
 ks:∀ i,i<n→Blk w (kx i) [.int .i64 (k i:Int)] 3
 cx:Blk w cx [ptr cb] 25
 cb:∃ m,Blk w cb [.bool true,.int .i64 a,.int .i64 m] 82
 rv:∀ i l rv,st i=.susp l rv→rv=.nilFunc
def cePlan (n:Nat)(kx:Nat→Nat)(cx cb:Nat)(k:Nat→Nat):Plan CeL Int:=⟨CeM n kx cx cb k,ceGo k,fun _ _ _=>true⟩
section
variable {n:Nat}{kx:Nat→Nat}{cx cb:Nat}{k:Nat→Nat}{a a':Int}{st:Nat→TS CeL}{X:Nat→Prop}{w w':World}
theorem CeM.up (h:CeM n kx cx cb k a st X w)(i:Nat)(l:CeL):CeM n kx cx cb k a (updT st i (.susp (l,[]) .nilFunc)) X w :=
 ⟨h.x,h.ks,h.cx,h.cb,fun j l' rv e=>by
  unfold updT at e;split at e
  ·cases e;rfl
  ·exact h.rv j l' rv e⟩
theorem CeM.over (h:CeM n kx cx cb k a st X w)(i:Nat):CeM n kx cx cb k a (updT st i .done) X w :=
 ⟨h.x,h.ks,h.cx,h.cb,fun j l' rv e=>by
  unfold updT at e;split at e
  ·cases e
  ·exact h.rv j l' rv e⟩
theorem CeM.frame (h:CeM n kx cx cb k a st X w)(hb:∀ b,X b→w'.heap[b]?=w.heap[b]?):CeM n kx cx cb k a st X w' :=
 ⟨h.x,fun i hi=>(hb _ ((h.x _).2 (.inr (.inr ⟨i,hi,rfl⟩)))).trans (h.ks i hi),(hb _ ((h.x _).2 (.inl rfl))).trans h.cx,h.cb.imp fun m hm=>(hb _ ((h.x _).2 (.inr (.inl rfl)))).trans hm,h.rv⟩
theorem CeM.set (h:CeM n kx cx cb k a st X w)(kp:Kp [cb] w w'){m:Int}(hb:Blk w' cb [.bool true,.int .i64 a',.int .i64 m] 82):CeM n kx cx cb k a' st X w':=by
 obtain⟨m0,hm0⟩:=h.cb;exact⟨h.x,fun i hi=>kp.blk (h.ks i hi) (by simpa using cel_ne (Blk.cel (h.ks i hi)) (Blk.cel hm0) (by decide)),kp.blk h.cx (by simpa using cel_ne (Blk.cel h.cx) (Blk.cel hm0) (by decide)),⟨m,hb⟩,h.rv⟩
theorem CeM.kp (h:CeM n kx cx cb k a st X w)(kp:Kp [] w w'):CeM n kx cx cb k a st X w':=h.frame fun b hb=>by
 rcases (h.x b).1 hb with rfl | rfl | ⟨i,hi,rfl⟩
 ·exact kp.block _ h.cx.lt (by simp)
 ·exact kp.block _ (let ⟨_,hm⟩:=h.cb;hm.lt) (by simp)
 ·exact kp.block _ (h.ks i hi).lt (by simp)
end
theorem next_nat (j:Nat)(h:j<1099511627776):Value.int .i64 (wrap64 ((j:Int)+1))=.int .i64 ((j+1:Nat):Int):=by
 rw[IntWalk.wrap64_in _ (by omega)];rfl
structure ceOut (n0:Nat)(kx:Nat→Nat)(cx cb:Nat)(k:Nat→Nat)(C:WC)(fu:Nat):Prop where
 h:∀ {i j n:Nat} {K:Goroutine→World→Prop} {F:Frame} {cs:List Frame} {st:Nat→TS CeL} {X:Nat→Prop} {w:World} {a:Int} {x:Nat→Value},i<n0→k i≤5→1000*(k i-j)≤fu→j≤k i→Th (cePlan n0 kx cx cb k) C fu i K F cs st X w n (if j<k i then (a,some (.load j 0)) else (a,none))→CeM n0 kx cx cb k a st X w→x 0=ptr (C.bt i)→x 1=ptr (kx i)→x 2=ptr cx→x 4=.int .i64 (j:Int)→K (gs ((base 9).at ⟨fg 25 x,[]⟩ [.code (sB (sB (sR q9))),.inLoop (sB (sB (sR q9))),.inBlock 0]) (F::cs)) w
structure ceIn (n0:Nat)(kx:Nat→Nat)(cx cb:Nat)(k:Nat→Nat)(C:WC)(fu:Nat):Prop where
 h:∀ {i j t n:Nat} {K:Goroutine→World→Prop} {F:Frame} {cs:List Frame} {st:Nat→TS CeL} {X:Nat→Prop} {w:World} {a:Int} {x:Nat→Value},i<n0→k i≤5→t<500→j<k i→1000*(k i-j)-2*t≤fu→Th (cePlan n0 kx cx cb k) C fu i K F cs st X w n (a,some (.load j t))→CeM n0 kx cx cb k a st X w→x 0=ptr (C.bt i)→x 1=ptr (kx i)→x 2=ptr cx→x 4=.int .i64 (j:Int)→x 5=.int .i64 (t:Int)→K (gs ((base 9).at ⟨fg 25 x,[]⟩ [.code (sB (sB (sR (sB (sL (sR (sB (sB (sR q9))))))))),.inLoop (sB (sB (sR (sB (sL (sR (sB (sB (sR q9))))))))),.inBlock 2,.inBlock 1,.code (sR (sR (sB (sB (sR q9))))),.inLoop (sB (sB (sR q9))),.inBlock 0]) (F::cs)) w
theorem ce_in {n0:Nat}{kx:Nat→Nat}{cx cb:Nat}{k:Nat→Nat}{C:WC}{fu:Nat}(ih:∀ f,f<fu→ceOut n0 kx cx cb k C f∧ceIn n0 kx cx cb k C f):ceIn n0 kx cx cb k C fu:=by
 refine⟨fun {i j t n K F cs st X w a x} hi hk5 ht hj hfu T hm h0 h1 h2 h4 h5=>?_⟩;have hk:(base 9).kind≠.early:=nofun;have hD:=T.cl.det;have hcx:=hm.cx;refine hD.s0 ?_;refine hD.s0 ?_;refine hD.r0 ?_;refine hD.move (n:=0) (v:=(.int .i64 (t:Int))) hk rfl ⟨rfl,rfl,rfl,rfl,nofun⟩ h5 ?_;refine nm rfl ?_;refine hD.pu (.bool (decide ((t:Int)<500))) hk (fun w=>w_lss3 rfl rfl rfl) ?_;refine nm rfl ?_;refine hD.e0 ?_;refine hD.cond (n:=0) true (show Value.bool (decide ((t:Int)<500))=_ by rw[decide_eq_true (by omega)]) rfl ?_;refine hD.k0 ?_;refine hD.s0 ?_;refine hD.block (n:=0) ?_;refine hD.s0 ?_;refine hD.r0 ?_;refine hD.load (n:=0) (v:=(ptr cb)) (u:=(ptr cx)) hk rfl ⟨rfl,rfl,rfl,rfl,nofun⟩ h2 (fun τ d=>l_25 (hcx.cell 0)) ?_;refine nm rfl ?_;refine hD.move (n:=0) (v:=(ptr (C.bt i))) hk rfl ⟨rfl,rfl,rfl,rfl,nofun⟩ h0 ?_;refine nm rfl ?_;refine hD.cf #[ptr cb,ptr (C.bt i)] hk Try.func10 ?_;obtain⟨fu1,rfl⟩:∃ f,fu=f+1:=⟨fu-1,by omega⟩;obtain⟨m0,hcb⟩:=hm.cb;refine cell_load (rest:=[]) T (fun f hf=>by rcases List.mem_cons.1 hf with rfl | hf;exact⟨rfl,rfl,_,Try.func9⟩;exact absurd hf (by simp)) (Blk.cel hcb) (hm.up i _) fun K F cs st X w n a T q1 hm=>?_;obtain⟨m1,hcb⟩:=hm.cb;refine⟨a,m1,hcb,(hm.x _).2 (.inr (.inl rfl)),fun w1 k1 b1 T=>?_⟩;have hm:=CeM.set hm k1 b1;have hcx:=hm.cx;have hD:=T.cl.det;refine fin0 (some 18) ?_;refine nm rfl ?_;refine hD.as (.int .i64 a) hk ?_;refine nm rfl ?_;refine hD.e0 ?_;refine hD.s0 ?_;refine hD.r0 ?_;refine hD.load (n:=0) (v:=(ptr cb)) (u:=(ptr cx)) hk rfl ⟨rfl,rfl,rfl,rfl,nofun⟩ h2 (fun τ d=>l_25 (hcx.cell 0)) ?_;refine nm rfl ?_;refine hD.move (n:=0) (v:=(ptr (C.bt i))) hk rfl ⟨rfl,rfl,rfl,rfl,nofun⟩ h0 ?_;refine nm rfl ?_;refine hD.mv (.int .i64 a) hk ?_;refine nm rfl ?_;refine hD.mv (.int .i64 a) hk ?_;refine nm rfl ?_;refine hD.pu (.int .i64 (wrap64 (a+1))) hk (fun w=>w_add3 rfl rfl rfl) ?_;refine nm rfl ?_;refine hD.cf #[ptr cb,ptr (C.bt i),.int .i64 a,.int .i64 (wrap64 (a+1))] hk Try.func11 ?_;obtain⟨fu2,rfl⟩:∃ f,fu1=f+1:=⟨fu1-1,by omega⟩;obtain⟨v,hv⟩:∃ v,v=a:=⟨_,rfl⟩;have b1':=b1;refine cell_cas (rest:=[]) T (fun f hf=>by rcases List.mem_cons.1 hf with rfl | hf;exact⟨rfl,rfl,_,Try.func9⟩;exact absurd hf (by simp)) (Blk.cel b1') (hm.up i _) fun K F cs st X w n a2 T q1 hm=>?_;obtain⟨m2,hcb⟩:=hm.cb;refine⟨a2,m2,hcb,(hm.x _).2 (.inr (.inl rfl)),fun e w2 k2 b2 T=>?_,fun e w2 k2 b2 T=>?_⟩
 ·have hm:=CeM.set hm k2 b2
  have hD:=T.cl.det;refine fin0 (some 24) ?_;refine nm rfl ?_;have hgo:ceGo k i (.susp (.cas j t a)) a2 n=if t+1<500 then (a2,some (.load j (t+1))) else ceNext (k i) j a2:=if_neg e;have T:=T.eqP hgo;refine hD.e0 ?_;refine hD.cond (n:=0) false rfl rfl ?_;refine hD.k0 ?_;refine hD.inBlock (n:=0) ?_;refine hD.r0 ?_;refine hD.move (n:=0) (v:=(.int .i64 (t:Int))) hk rfl ⟨rfl,rfl,rfl,rfl,nofun⟩ h5 ?_;refine nm rfl ?_;refine hD.pu (.int .i64 (wrap64 ((t:Int)+1))) hk (fun w=>w_add3 rfl rfl rfl) ?_;refine nm rfl ?_;refine hD.as (.int .i64 (wrap64 ((t:Int)+1))) hk ?_;refine nm rfl ?_;refine hD.e0 ?_;refine hD.inLoop (n:=0) ?_;by_cases ht1:t+1<500
  ·rw[if_pos ht1] at T
   exact(ih fu2 (by omega)).2.h (j:=j) (t:=t+1) hi hk5 ht1 hj (by omega) T hm h0 h1 h2 h4 (next_nat t (by omega))
  ·rw[if_neg ht1] at T
   refine hD.s0 ?_;refine hD.s0 ?_;refine hD.r0 ?_;refine hD.mv (.int .i64 (wrap64 ((t:Int)+1))) hk ?_;refine nm rfl ?_;refine hD.pu (.bool (decide ((wrap64 ((t:Int)+1))<500))) hk (fun w=>w_lss3 rfl rfl rfl) ?_;refine nm rfl ?_;refine hD.e0 ?_;refine hD.cond (n:=0) false (show Value.bool (decide (wrap64 ((t:Int)+1)<500))=_ by rw[decide_eq_false (by rw[IntWalk.wrap64_in _ (by omega)];omega)]) rfl ?_;refine hD.exit (n:=0) rfl ?_;refine hD.inBlock (n:=0) ?_;refine hD.r0 ?_;refine hD.move (n:=0) (v:=(.int .i64 (j:Int))) hk rfl ⟨rfl,rfl,rfl,rfl,nofun⟩ h4 ?_;refine nm rfl ?_;refine hD.pu (.int .i64 (wrap64 ((j:Int)+1))) hk (fun w=>w_add3 rfl rfl rfl) ?_;refine nm rfl ?_;refine hD.as (.int .i64 (wrap64 ((j:Int)+1))) hk ?_;refine nm rfl ?_;refine hD.e0 ?_;refine hD.inLoop (n:=0) ?_;exact(ih fu2 (by omega)).1.h (j:=j+1) hi hk5 (by omega) (by omega) T hm h0 h1 h2 (next_nat j (by omega))
 ·have hm:=CeM.set hm k2 b2
  have hD:=T.cl.det;refine fin0 (some 24) ?_;refine nm rfl ?_;have hgo:ceGo k i (.susp (.cas j t a)) a2 n=ceNext (k i) j (wrap64 (a+1)):=if_pos e;have T:=T.eqP hgo;refine hD.e0 ?_;refine hD.cond (n:=0) true rfl rfl ?_;refine hD.exit (n:=0) rfl ?_;refine hD.inBlock (n:=0) ?_;refine hD.r0 ?_;refine hD.move (n:=0) (v:=(.int .i64 (j:Int))) hk rfl ⟨rfl,rfl,rfl,rfl,nofun⟩ h4 ?_;refine nm rfl ?_;refine hD.pu (.int .i64 (wrap64 ((j:Int)+1))) hk (fun w=>w_add3 rfl rfl rfl) ?_;refine nm rfl ?_;refine hD.as (.int .i64 (wrap64 ((j:Int)+1))) hk ?_;refine nm rfl ?_;refine hD.e0 ?_;refine hD.inLoop (n:=0) ?_;exact(ih fu2 (by omega)).1.h (j:=j+1) hi hk5 (by omega) (by omega) T hm h0 h1 h2 (next_nat j (by omega))
theorem ce_out {n0:Nat}{kx:Nat→Nat}{cx cb:Nat}{k:Nat→Nat}{C:WC}{fu:Nat}(hin:ceIn n0 kx cx cb k C fu):ceOut n0 kx cx cb k C fu:=by
 refine⟨fun {i j n K F cs st X w a x} hi hk5 hfu hj T hm h0 h1 h2 h4=>?_⟩;have hk:(base 9).kind≠.early:=nofun;have hD:=T.cl.det;have hk1:=hm.ks i hi;refine hD.s0 ?_;refine hD.s0 ?_;refine hD.r0 ?_;refine hD.move (n:=0) (v:=(.int .i64 (j:Int))) hk rfl ⟨rfl,rfl,rfl,rfl,nofun⟩ h4 ?_;refine nm rfl ?_;refine hD.load (n:=0) (v:=(.int .i64 (k i:Int))) (u:=(ptr (kx i))) hk rfl ⟨rfl,rfl,rfl,rfl,nofun⟩ h1 (fun τ d=>l_3 (hk1.cell 0)) ?_;refine nm rfl ?_;refine hD.pu (.bool (decide ((j:Int)<(k i:Int)))) hk (fun w=>w_lss3 rfl rfl rfl) ?_;refine nm rfl ?_;refine hD.e0 ?_;by_cases hjk:j<k i
 ·rw[if_pos hjk] at T
  refine hD.cond (n:=0) true (show Value.bool (decide ((j:Int)<(k i:Int)))=_ by rw[decide_eq_true (by omega)]) rfl ?_;refine hD.k0 ?_;refine hD.s0 ?_;refine hD.block (n:=0) ?_;refine hD.s0 ?_;refine hD.r0 ?_;refine hD.as (.int .i64 0) hk ?_;refine nm rfl ?_;refine hD.e0 ?_;refine hD.block (n:=0) ?_;refine hD.loop (n:=0) ?_;exact hin.h (j:=j) (t:=0) hi hk5 (by decide) hjk (by omega) T hm h0 h1 h2 h4 rfl
 ·rw[if_neg hjk] at T
  refine hD.cond (n:=0) false (show Value.bool (decide ((j:Int)<(k i:Int)))=_ by rw[decide_eq_false (by omega)]) rfl ?_;refine hD.exit (n:=0) rfl ?_;refine hD.end (n:=0) ?_;exact hD.leave (n:=0) (b:=base 9) (v:=.tuple #[]) rfl rfl Try.func9 (fun τ d=>res0 rfl) T.fm (T.hd a X w rfl (hm.over i) (Kx.refl' X w))
theorem ce_all {n0:Nat}{kx:Nat→Nat}{cx cb:Nat}{k:Nat→Nat}{C:WC}(fu:Nat):ceOut n0 kx cx cb k C fu∧ceIn n0 kx cx cb k C fu:=by
 induction fu using Nat.strongRecOn with
 | _ fu ih =>
  have h:=ce_in fun f hf=>ih f hf;exact⟨ce_out h,h⟩
theorem ce_body {n0:Nat}{kx:Nat→Nat}{cx cb:Nat}{k:Nat→Nat}{C:WC}{i n:Nat}{K:Goroutine→World→Prop}{F:Frame}{cs:List Frame}{st:Nat→TS CeL}{X:Nat→Prop}{w:World}{a:Int}(hi:i<n0)(hk5:k i≤5)(T:Th (cePlan n0 kx cx cb k) C 5000 i K F cs st X w n (if 0<k i then (a,some (.load 0 0)) else (a,none)))(hm:CeM n0 kx cx cb k a st X w):K (gs (Frame.enter Try.prog 9 #[ptr (C.bt i),ptr (kx i),ptr cx] .normal) (F::cs)) w:=by
 have hk:(base 9).kind≠.early:=nofun;have hK:=T.cl;have hD:=hK.det;rw[show(#[ptr (C.bt i),ptr (kx i),ptr cx]:Array Value)=[ptr (C.bt i),ptr (kx i),ptr cx].toArray from rfl,enter_fg (n:=25) (c:=q9) Try.func9 rfl rfl rfl];refine hD.s0 ?_;refine hD.r0 ?_;refine hD.as (.int .i64 0) hk ?_;refine nm rfl ?_;refine hD.e0 ?_;refine hD.block (n:=0) ?_;refine hD.loop (n:=0) ?_;exact(ce_all 5000).1.h (j:=0) hi hk5 (by omega) (Nat.zero_le _) T hm rfl rfl rfl rfl
theorem ce_ok {C:WC}{n0:Nat}{kx:Nat→Nat}{cx cb:Nat}{k:Nat→Nat}(hn:C.n=n0)(hk5:∀ i,i<n0→k i≤5)(hfn:∀ i,i<C.n→C.fn i=9)(hcap:∀ i,i<C.n→C.cap i=#[ptr (kx i),ptr cx]):BOk ((cePlan n0 kx cx cb k).bods C) C:=by
 refine Plan.ok (fun {a st X w b} h hb=>?_) (fun {a st X w w'} h hb hs=>CeM.frame h hb) (fun {a st X w i l rv} h hi e=>.inl ⟨CeM.rv h i l rv e,rfl⟩) (fun {i} hi=>?_) (fun i hi=>⟨5000,fun K F cs st X w n a args T e hm ha=>?_⟩)
 ·rcases (CeM.x h b).1 hb with rfl | rfl | ⟨i,hi,rfl⟩
  ·exact(CeM.cx h).lt
  ·obtain⟨m,hm⟩:=CeM.cb h
   exact hm.lt
  ·exact(CeM.ks h i hi).lt
 ·rw[hfn i hi];exact⟨_,_,Try.func9,rfl,rfl⟩
 ·obtain rfl:args=#[ptr (C.bt i),ptr (kx i),ptr cx]:=by
   rw[hcap i hi] at ha;exact Array.ext' ha.symm
  rw[hfn i hi];exact ce_body (hn▸hi) (hk5 i (hn▸hi)) T hm
def q3:Code:=Try.f3.body.getD .skip
theorem lent_rel {w wr w2:World}{g2 cap2:Nat}{v:Value}{m:Nat}(h1:Keeps [] w wr)(h2:∀ b∈fp v,w.heap.size≤b)(k:Keeps (fp v) wr w2)(a2:g2∈fp v∨g2=wr.heap.size):Keeps [] w w2∧∀ b∈fp (.slice (some ⟨g2,0,none⟩) m cap2),w.heap.size≤b:=by
 have hz:=h1.size;refine⟨⟨k.os.trans h1.os,k.tape.trans h1.tape,k.output.trans h1.output,Nat.le_trans hz k.size,fun b hb _=>?_⟩,fun b hb=>?_⟩
 ·exact(k.block b (by omega) (fun hm=>by have:=h2 b hm;omega)).trans (h1.block b hb (by simp))
 ·obtain rfl:b=g2:=by simpa[fp,Value.ownBlock] using hb
  rcases a2 with q | q
  ·exact h2 _ q
  ·omega
theorem Kp.cells {w w':World}(h:Kp [] w w')(b o:Nat)(v:Value)(hc:w.cell? ⟨b,o,none⟩=some v):w'.cell? ⟨b,o,none⟩=some v:=by
 have hl:b<w.heap.size:=by
  unfold World.cell? at hc;cases e:w.heap[b]? with
  | none=>rw[e] at hc;simp at hc
  | some x=>exact(aq' e).1
 exact(cell_same (h.block b hl (by simp))).trans hc
section
variable {P:Program}{m:Bool}{Kn:Nat→Goroutine→World→Prop}{b:Frame}{a:Act}{k:List Item}{cs:List Frame}{w:World}{n:Nat}{ops:Array Oper}{i:Nat}{rest:List Nat}{o:Oper}
theorem Det.entg (hK:Det P m Kn){f:FuncId}{args:Array Value}(hk:b.kind≠.early)(ho:ops[i]?=some o)(hw:Region.wanted o (yielded ops a.tmps)=true)(hok:okOp P o.op=true)(hnp:∀ x,o.op≠.panic x)(hr:∀ τ d,(execOp a.eval o).run P (re w τ d)=.ok (.enter f args) (re w τ d))
  (h:Kn n (gs (Frame.enter P f args .normal) (b.at a (.inRegion ops (i::rest)::k)::cs)) w):Kn (n+1) (gs (b.at a (.inRegion ops (i::rest)::k)) cs) w :=
 hK _ _ _ _ _ rfl ⟨fun _=>okHd_op ho hok hnp,fun τ d=>⟨_,stepG_enter ho hw hk (hr τ d)⟩,⟨rfl,rfl⟩,Nat.le_refl _⟩ h
end
theorem step_nil {m:Bool}{K:Goroutine→World→Prop}{w:World}{cs:List Frame}(hK:Cl Try.prog m K){cl:Frame}(hcm:cl.mode=.run)(h:∀ w',Kp [] w w'→K (gs (cl.finish (.tuple #[])) cs) w'):K (gs (Frame.enter Try.prog 29 #[.pointer none] .normal) (cl::cs)) w:=step_idle hK hcm idle_none h
section
variable {m:Bool}{K:Goroutine→World→Prop}{w:World}{cl:Frame}{cs:List Frame}{cb:Nat}{v0 n0:Int}
theorem cell_begins_nil (hK:Cl Try.prog m K)(hcm:cl.mode=.run)(hcb:Blk w cb [.bool true,.int .i64 v0,.int .i64 n0] 82)(h:∀ w',Kp [cb] w w'→Blk w' cb [.bool true,.int .i64 v0,.int .i64 (wrap64 (n0+1))] 82→K (gs (cl.finish (.bool true)) cs) w'):K (gs (Frame.enter Try.prog 32 #[ptr cb,.pointer none] .normal) (cl::cs)) w:=by
 have hk:(base 32).kind≠.early:=nofun;have hD:=hK.det;rw[show(#[ptr cb,(.pointer none)]:Array Value)=[ptr cb,(.pointer none)].toArray from rfl,enter_fg (n:=23) (c:=q32) Try.func32 rfl rfl rfl];refine hD.s0 ?_;refine hD.r0 ?_;refine hD.as (.bool false) hk ?_;refine nm rfl ?_;refine hD.e0 ?_;refine hD.s0 ?_;refine hD.s0 ?_;refine hD.r0 ?_;refine hD.mv (ptr cb) hk ?_;refine nm rfl ?_;refine hD.pu (.bool false) hk (fun w=>w_eql25_p rfl rfl) ?_;refine nm rfl ?_;refine hD.mv (.bool false) hk ?_;refine nm rfl ?_;refine hD.gv (n:=0) (v:=(ptr cb)) hk rfl rfl rfl (by decide +kernel) nofun (fun τ d=>ex_move rfl rfl) ?_;refine nm rfl ?_;refine hD.gv (n:=0) (v:=(ptr cb)) hk rfl rfl rfl (by decide +kernel) nofun (fun τ d=>ex_nilc rfl rfl) ?_;refine nm rfl ?_;refine hD.gv (n:=0) (v:=(ptr cb)) hk rfl rfl rfl (by decide +kernel) nofun (fun τ d=>ex_field (v:=(ptr cb)) rfl rfl fa82_0) ?_;refine nm rfl ?_;refine hD.gv (n:=0) (v:=(.bool true)) hk rfl rfl rfl (by decide +kernel) nofun (fun τ d=>ex_load rfl rfl (l_4 (hcb.cell 0))) ?_;refine nm rfl ?_;refine hD.gv (n:=0) (v:=(.bool false)) hk rfl rfl rfl (by decide +kernel) nofun (fun τ d=>pu_not (y:=true) rfl rfl) ?_;refine nm rfl ?_;refine hD.pu (.bool false) hk (fun w=>pu_pick (t:=false) rfl rfl rfl) ?_;refine nm rfl ?_;refine hD.e0 ?_;refine hD.cond (n:=0) false rfl rfl ?_;refine hD.k0 ?_;refine hD.s0 ?_;refine hD.r0 ?_;refine hD.mv (.pointer none) hk ?_;refine nm rfl ?_;refine hD.cf #[(.pointer none)] hk Try.func29 ?_;refine step_nil hK rfl fun w1 k1=>?_;have hcb':=k1.blk hcb (by simp);refine fin0 (some 15) ?_;refine nm rfl ?_;refine hD.e0 ?_;refine hD.s0 ?_;refine hD.r0 ?_;refine hD.mv (ptr cb) hk ?_;refine nm rfl ?_;refine hD.nc ⟨cb,0,none⟩ hk ?_;refine nm rfl ?_;refine hD.field (n:=0) (v:=(ptrAt cb 2)) (u:=(ptr cb)) hk rfl ⟨rfl,rfl,rfl,rfl,nofun⟩ rfl fa82_2 ?_;refine nm rfl ?_;refine hD.ld (.int .i64 n0) hk (fun τ d=>l_3 (hcb'.cell 2)) ?_;refine nm rfl ?_;refine hD.pu (.int .i64 (wrap64 (n0+1))) hk (fun w=>w_add3 rfl rfl rfl) ?_;refine nm rfl ?_;refine hD.nc ⟨cb,0,none⟩ hk ?_;refine nm rfl ?_;refine hD.field (n:=0) (v:=(ptrAt cb 2)) (u:=(ptr cb)) hk rfl ⟨rfl,rfl,rfl,rfl,nofun⟩ rfl fa82_2 ?_;refine nm rfl ?_;refine hD.store (n:=0) (u:=(ptrAt cb 2)) (z:=(.int .i64 (wrap64 (n0+1)))) hk rfl ⟨rfl,rfl,rfl,rfl,nofun⟩ rfl rfl (fun τ d=>((s_3 (w:=re w1 τ d) (hcb'.cell 2) (hcb'.frozen 2)).trans (congrArg (Result.ok ()) re_setCell))) (Nat.le_of_eq (World.size_setCell _ _ _).symm) ?_;obtain⟨w2,hsw2⟩:∃ z,z=w1.setCell ⟨cb,2,none⟩ (.int .i64 (wrap64 (n0+1))):=⟨_,rfl⟩;have ksw2:Kp [cb] w1 w2:=by rw[hsw2];exact⟨Nat.le_of_eq (World.size_setCell _ _ _).symm,fun c hc hn=>setCell_frame (by simpa using hn)⟩
 have bw2:Blk w2 cb [.bool true,.int .i64 v0,.int .i64 (wrap64 (n0+1))] 82:=by rw[hsw2];exact hcb'.set 2 _
 rw[← hsw2];clear hsw2;refine hD.e0 ?_;refine hD.s0 ?_;refine hD.r0 ?_;refine hD.as (.bool true) hk ?_;refine nm rfl ?_;refine hD.e0 ?_;refine hD.ret (n:=0) ?_;exact hD.leave (n:=0) (b:=base 32) (v:=.bool true) rfl rfl Try.func32 (fun τ d=>res1v rfl rfl) hcm (h _ (k1.kp1 ksw2) bw2)
theorem cell_load_nil (hK:Cl Try.prog m K)(hcm:cl.mode=.run)(hcb:Blk w cb [.bool true,.int .i64 v0,.int .i64 n0] 82)(h:∀ w',Kp [cb] w w'→Blk w' cb [.bool true,.int .i64 v0,.int .i64 (wrap64 (n0+1))] 82→K (gs (cl.finish (.int .i64 v0)) cs) w'):K (gs (Frame.enter Try.prog 10 #[ptr cb,.pointer none] .normal) (cl::cs)) w:=by
 have hk:(base 10).kind≠.early:=nofun;have hD:=hK.det;rw[show(#[ptr cb,(.pointer none)]:Array Value)=[ptr cb,(.pointer none)].toArray from rfl,enter_fg (n:=15) (c:=q10) Try.func10 rfl rfl rfl];refine hD.s0 ?_;refine hD.r0 ?_;refine hD.as (.int .i64 0) hk ?_;refine nm rfl ?_;refine hD.e0 ?_;refine hD.s0 ?_;refine hD.r0 ?_;refine hD.as (.int .i64 0) hk ?_;refine nm rfl ?_;refine hD.e0 ?_;refine hD.s0 ?_;refine hD.s0 ?_;refine hD.r0 ?_;refine hD.mv (ptr cb) hk ?_;refine nm rfl ?_;refine hD.mv (.pointer none) hk ?_;refine nm rfl ?_;refine hD.cf #[ptr cb,(.pointer none)] hk Try.func32 ?_;refine cell_begins_nil hK rfl hcb fun w1 k1 hcb=>?_;refine fin0 (some 8) ?_;refine nm rfl ?_;refine hD.pu (.bool false) hk (fun w=>pu_not (y:=true) rfl rfl) ?_;refine nm rfl ?_;refine hD.e0 ?_;refine hD.cond (n:=0) false rfl rfl ?_;refine hD.k0 ?_;refine hD.s0 ?_;refine hD.r0 ?_;refine hD.mv (ptr cb) hk ?_;refine nm rfl ?_;refine hD.nc ⟨cb,0,none⟩ hk ?_;refine nm rfl ?_;refine hD.field (n:=0) (v:=(ptrAt cb 1)) (u:=(ptr cb)) hk rfl ⟨rfl,rfl,rfl,rfl,nofun⟩ rfl fa82_1 ?_;refine nm rfl ?_;refine hD.ld (.int .i64 v0) hk (fun τ d=>l_3 (hcb.cell 1)) ?_;refine nm rfl ?_;refine hD.as (.int .i64 v0) hk ?_;refine nm rfl ?_;refine hD.e0 ?_;refine hD.ret (n:=0) ?_;exact hD.leave (n:=0) (b:=base 10) (v:=.int .i64 v0) rfl rfl Try.func10 (fun τ d=>res1v rfl rfl) hcm (h _ k1 hcb)
end
def addsOf (xs:List Int)(i:Nat):Nat:=(((xs.getD i 0).tmod 6+6).tmod 6).toNat
theorem adds_le (xs:List Int)(i:Nat):addsOf xs i≤5:=by
 unfold addsOf;have:=Int.tmod_lt_of_pos ((xs.getD i 0).tmod 6+6) (show(0:Int)<6 by decide);omega
theorem adds_eq (xs:List Int)(i:Nat):((xs.getD i 0).tmod 6+6).tmod 6=(addsOf xs i:Int):=by
 unfold addsOf;have h1:-6<(xs.getD i 0).tmod 6:=Int.lt_tmod_of_pos _ (by decide);have:=Int.tmod_nonneg 6 (show(0:Int)≤(xs.getD i 0).tmod 6+6 by omega);omega
def ceV (cx:Nat)(b:Nat):Value:=.func (.func 9) #[] #[ptr b,ptr cx]
structure CeB (w:World)(xs:List Int)(cx N j:Nat)(bs:List Nat)(v:Value):Prop where
 len:bs.length=j
 rep:RepF w v (bs.map (ceV cx))
 fresh:∀ b∈fp v,N≤b
 made:∀ i b,bs[i]?=some b→N≤b∧b∉fp v∧Blk w b [.int .i64 (addsOf xs i:Int)] 3
theorem CeB.zero {w:World}{xs:List Int}{cx N:Nat}:CeB w xs cx N 0 [] (.slice none 0 0):=⟨rfl,Rep.nil,by simp[fp,Value.ownBlock],fun i b h=>by simp at h⟩
theorem CeB.keeps {w w':World}{xs:List Int}{cx N j:Nat}{bs:List Nat}{v:Value}(h:CeB w xs cx N j bs v)(k:Keeps [] w w'):CeB w' xs cx N j bs v :=
 ⟨h.len,h.rep.keeps k (by simp),h.fresh,fun i b hb=>⟨(h.made i b hb).1,(h.made i b hb).2.1,k.blk (h.made i b hb).2.2 (by simp)⟩⟩
theorem CeB.next {w W w2:World}{xs:List Int}{cx N j g cap kb:Nat}{bs:List Nat}{v:Value}(h:CeB w xs cx N j bs v)(hN:N≤w.heap.size)(hkb:kb=w.heap.size)(k0:Kp [] w W)(b0:Blk W kb [.int .i64 (addsOf xs j:Int)] 3)
  (r:RepF w2 (.slice (some ⟨g,0,none⟩) (j+1) cap) (bs.map (ceV cx)++[ceV cx kb])) (k:Keeps (fp v) W w2) (a:g∈fp v∨g=W.heap.size):CeB w2 xs cx N (j+1) (bs++[kb]) (.slice (some ⟨g,0,none⟩) (j+1) cap):=by
 have hf:∀ b,b∈fp (.slice (some ⟨g,0,none⟩) (j+1) cap)→b=g:=fun b hb=>by simpa[fp,Value.ownBlock] using hb
 have hgl:∀ b∈fp v,b<w.heap.size:=fun b hb=>h.rep.fp_lt b hb;have hWl:=k0.size;have hb0:=b0.lt;have hne:∀ b,b∉fp v→b<W.heap.size→b∉fp (.slice (some ⟨g,0,none⟩) (j+1) cap):=fun b hb hl hm=>by
  have e:=hf b hm;subst e;rcases a with q | q
  ·exact hb q
  ·omega
 have hkv:kb∉fp v:=fun hm=>by have:=hgl kb hm;omega
 refine⟨by rw[la',h.len];rfl,by rw[List.map_append];exact r,fun b hb=>?_,fun i b hb=>?_⟩
 ·rw[hf b hb]
  rcases a with q | q
  ·exact h.fresh g q
  ·omega
 ·by_cases hi:i<j
  ·rw[List.getElem?_append_left (by rw[h.len];exact hi)] at hb
   obtain⟨q1,q2,q3⟩:=h.made i b hb;exact⟨q1,hne b q2 (nl' q3.lt hWl),k.blk (k0.blk q3 (by simp)) q2⟩
  ·have hij:i=j:=by
    have:=(List.getElem?_eq_some_iff.1 hb).1;rw[la',h.len] at this;have h1:[kb].length=1:=rfl;omega
   subst hij;rw[List.getElem?_append_right (by rw[h.len];exact Nat.le_refl _),h.len,Nat.sub_self] at hb;obtain rfl:kb=b:=by simpa using hb
   exact⟨by omega,hne kb hkv hb0,k.blk b0 hkv⟩
def lcQ (fr:Int)(gt:Option Addr)(n ct:Nat)(gp:Option Addr)(np cp cx:Nat)(xs:List Int)(w:World)(t:Array Value)(w':World):Prop:=∃ x bs v,t=fg 82 x∧(x 0=.int .i64 fr∧x 1=.slice gt n ct∧x 2=.slice gp np cp∧x 7=ptr cx∧x 8=.int .i64 (Go.ConcN.sumTo n (addsOf xs):Nat)∧x 9=v)∧CeB w' xs cx w.heap.size n bs v∧Kp [] w w'
theorem lcQ_mk {fr:Int}{gt gp:Option Addr}{n ct np cp cx:Nat}{xs:List Int}{w w':World}{t:Array Value}{bs:List Nat}{v:Value}(hs:t.size=82)(h:t.getD 0 undef=.int .i64 fr∧t.getD 1 undef=.slice gt n ct∧t.getD 2 undef=.slice gp np cp∧t.getD 7 undef=ptr cx∧t.getD 8 undef=.int .i64 (Go.ConcN.sumTo n (addsOf xs):Nat)∧t.getD 9 undef=v)(b:CeB w' xs cx w.heap.size n bs v)(k:Keeps [] w w'):lcQ fr gt n ct gp np cp cx xs w t w':=⟨_,bs,v,t_fg hs,h,b,Keeps.kp k⟩
theorem ix22 {n c b o j:Nat}(hj:j<n):∀ w,(Instr.indexAt 22 (.slice (some ⟨b,o,none⟩) n c) (.int .i64 j)).run Try.prog w=.ok (.pointer (some ⟨b,o+j,none⟩)) w:=fun w=>by
 simp[go_sem,Try.underlying22,Try.runUnderlying22,Try.sizeOf22,Try.isAgg22,hj,Try.sizeOf3]
theorem lc1 (w:World)(x:Nat→Value)(fr:Int)(gt gp:Option Addr)(n ct np cp:Nat)(h0:x 0=.int .i64 fr)(h1:x 1=.slice gt n ct)(h2:x 2=.slice gp np cp) :
  (sL (sL (sR q3))).wp Try.prog (fun e a' w'=>e=.normal∧a'.defers=[]∧lQ 82 (fun x=>x 0=.int .i64 fr∧x 1=.slice gt n ct∧x 2=.slice gp np cp∧x 34=.bool (decide (n<1∨8<n∨65536<np∨1099511627776<fr∨fr < -1099511627776))) w a'.tmps w') ⟨fg 82 x,[]⟩ w:=by
 have HQ:Hid (∀ (t:Array Value) (w':World),lQ 82 (fun x=>x 0=.int .i64 fr∧x 1=.slice gt n ct∧x 2=.slice gp np cp∧x 34=.bool (decide (n<1∨8<n∨65536<np∨1099511627776<fr∨fr < -1099511627776))) w t w'→lQ 82 (fun x=>x 0=.int .i64 fr∧x 1=.slice gt n ct∧x 2=.slice gp np cp∧x 34=.bool (decide (n<1∨8<n∨65536<np∨1099511627776<fr∨fr < -1099511627776))) w t w'):=Lib.hid fun _ _ h=>h;generalize hG:lQ 82 (fun x=>x 0=.int .i64 fr∧x 1=.slice gt n ct∧x 2=.slice gp np cp∧x 34=.bool (decide (n<1∨8<n∨65536<np∨1099511627776<fr∨fr < -1099511627776))) w=G at HQ ⊢;have HG:=Lib.hid hG;clear hG;rw[show fg 82 x=#[x 0,x 1,x 2,x 3,x 4,x 5,x 6,x 7,x 8,x 9,x 10,x 11,x 12,x 13,x 14,x 15,x 16,x 17,x 18,x 19,x 20,x 21,x 22,x 23,x 24,x 25,x 26,x 27,x 28,x 29,x 30,x 31,x 32,x 33,x 34,x 35,x 36,x 37,x 38,x 39,x 40,x 41,x 42,x 43,x 44,x 45,x 46,x 47,x 48,x 49,x 50,x 51,x 52,x 53,x 54,x 55,x 56,x 57,x 58,x 59,x 60,x 61,x 62,x 63,x 64,x 65,x 66,x 67,x 68,x 69,x 70,x 71,x 72,x 73,x 74,x 75,x 76,x 77,x 78,x 79,x 80,x 81] from rfl];simp only[q3,Try.f3,Option.getD_some,sL,sR,sB,sT,sF,h0,h1,h2];by_cases q1:n<1
 ·go_wp2
  all_goals first
   | (exfalso;omega)
   | (refine HQ.out _ _ ?_;rw[← HG.out];exact lQ_mk rfl ⟨rfl,rfl,rfl,congrArg Value.bool (by rw[decide_eq_true (show(n<1∨8<n∨65536<np∨1099511627776<fr∨fr < -1099511627776) by omega)];try (first | rfl | (simp only[Bool.false_or,Bool.or_eq_false_iff,decide_eq_false_iff_not];omega)))⟩ (Keeps.refl _ _))
 by_cases q2:8<n
 ·go_wp2
  all_goals first
   | (exfalso;omega)
   | (refine HQ.out _ _ ?_;rw[← HG.out];exact lQ_mk rfl ⟨rfl,rfl,rfl,congrArg Value.bool (by rw[decide_eq_true (show(n<1∨8<n∨65536<np∨1099511627776<fr∨fr < -1099511627776) by omega)];try (first | rfl | (simp only[Bool.false_or,Bool.or_eq_false_iff,decide_eq_false_iff_not];omega)))⟩ (Keeps.refl _ _))
 by_cases q3:65536<np
 ·go_wp2
  all_goals first
   | (exfalso;omega)
   | (refine HQ.out _ _ ?_;rw[← HG.out];exact lQ_mk rfl ⟨rfl,rfl,rfl,congrArg Value.bool (by rw[decide_eq_true (show(n<1∨8<n∨65536<np∨1099511627776<fr∨fr < -1099511627776) by omega)];try (first | rfl | (simp only[Bool.false_or,Bool.or_eq_false_iff,decide_eq_false_iff_not];omega)))⟩ (Keeps.refl _ _))
 by_cases q4:1099511627776<fr
 ·go_wp2
  all_goals first
   | (exfalso;omega)
   | (refine HQ.out _ _ ?_;rw[← HG.out];exact lQ_mk rfl ⟨rfl,rfl,rfl,congrArg Value.bool (by rw[decide_eq_true (show(n<1∨8<n∨65536<np∨1099511627776<fr∨fr < -1099511627776) by omega)];try (first | rfl | (simp only[Bool.false_or,Bool.or_eq_false_iff,decide_eq_false_iff_not];omega)))⟩ (Keeps.refl _ _))
 by_cases q5:fr < -1099511627776
 ·go_wp2
  all_goals first
   | (exfalso;omega)
   | (refine HQ.out _ _ ?_;rw[← HG.out];exact lQ_mk rfl ⟨rfl,rfl,rfl,congrArg Value.bool (by rw[decide_eq_true (show(n<1∨8<n∨65536<np∨1099511627776<fr∨fr < -1099511627776) by omega)];try (first | rfl | (simp only[Bool.false_or,Bool.or_eq_false_iff,decide_eq_false_iff_not];omega)))⟩ (Keeps.refl _ _))
 go_wp2
 all_goals first
  | (exfalso;omega)
  | (refine HQ.out _ _ ?_;rw[← HG.out];exact lQ_mk rfl ⟨rfl,rfl,rfl,congrArg Value.bool (by rw[decide_eq_false (show ¬ (n<1∨8<n∨65536<np∨1099511627776<fr∨fr < -1099511627776) by omega)];try (first | rfl | (simp only[Bool.false_or,Bool.or_eq_false_iff,decide_eq_false_iff_not];omega)))⟩ (Keeps.refl _ _))
theorem lc2 (w:World)(x:Nat→Value)(fr:Int)(gt gp:Option Addr)(n ct np cp cx:Nat)(xs:List Int)(hl:xs.length=n)(hn:n≤8)(hx:∀ j u,xs[j]?=some u→∃ b o,gt=some ⟨b,o,none⟩∧w.cell? ⟨b,o+j,none⟩=some (.int .i64 u))(hn0:0<n)(h0:x 0=.int .i64 fr)(h1:x 1=.slice gt n ct)(h2:x 2=.slice gp np cp)(h7:x 7=ptr cx)(h8:x 8=.int .i64 0)(h9:x 9=.slice none 0 0)(h10:x 10=.int .i64 0) :
  (sR (sL (sR (sR (sR (sR (sR q3))))))).wp Try.prog (fun e a' w'=>e=.normal∧a'.defers=[]∧lcQ fr gt n ct gp np cp cx xs w a'.tmps w') ⟨fg 82 x,[]⟩ w:=by
 have HQ:Hid (∀ (t:Array Value) (w':World),lcQ fr gt n ct gp np cp cx xs w t w'→lcQ fr gt n ct gp np cp cx xs w t w'):=Lib.hid fun _ _ h=>h;generalize hG:lcQ fr gt n ct gp np cp cx xs w=G at HQ ⊢;have HG:=Lib.hid hG;clear hG;obtain⟨tb,to,hg⟩:∃ tb to,gt=some ⟨tb,to,none⟩:=by
  obtain⟨b,o,h,_⟩:=hx 0 _ (List.getElem?_eq_getElem (by omega));exact⟨b,o,h⟩
 subst hg;have HX:=Lib.hid (fun(W:World) (q:Keeps [] w W) (j:Nat) (hj:j<n)=>(show W.cell? ⟨tb,to+j,none⟩=some (.int .i64 (xs.getD j 0)) by
  obtain⟨b,o,h,hc⟩:=hx j _ (List.getElem?_eq_getElem (show j<xs.length by omega));cases h;rw[List.getD_eq_getElem?_getD,List.getElem?_eq_getElem (show j<xs.length by omega)];exact(Keeps.kp q).cells _ _ _ hc))
 clear hx;rw[show fg 82 x=#[x 0,x 1,x 2,x 3,x 4,x 5,x 6,x 7,x 8,x 9,x 10,x 11,x 12,x 13,x 14,x 15,x 16,x 17,x 18,x 19,x 20,x 21,x 22,x 23,x 24,x 25,x 26,x 27,x 28,x 29,x 30,x 31,x 32,x 33,x 34,x 35,x 36,x 37,x 38,x 39,x 40,x 41,x 42,x 43,x 44,x 45,x 46,x 47,x 48,x 49,x 50,x 51,x 52,x 53,x 54,x 55,x 56,x 57,x 58,x 59,x 60,x 61,x 62,x 63,x 64,x 65,x 66,x 67,x 68,x 69,x 70,x 71,x 72,x 73,x 74,x 75,x 76,x 77,x 78,x 79,x 80,x 81] from rfl];simp only[q3,Try.f3,Option.getD_some,sL,sR,sB,sT,sF,h0,h1,h2,h7,h8,h9,h10]
 go_wp2
 go_loopw [8,9,10] (fun sv lv iv wr=>∃ (j:Nat) (bs:List Nat),j≤n∧sv=.int .i64 (Go.ConcN.sumTo j (addsOf xs):Nat)∧iv=.int .i64 j∧CeB wr xs cx w.heap.size j bs lv∧Keeps [] w wr) (fun _ _ iv _=>n-(intOf iv).toNat)
 case atStart=>exact⟨0,[],Nat.zero_le _,rfl,rfl,CeB.zero,Keeps.refl _ _⟩
 case round =>
  obtain⟨j,bs,hj,rfl,rfl,hB,hkp⟩:=hrel;have hbl:=hB.len;have hfm:=hB.rep.form;rw[List.length_map,hbl] at hfm;obtain⟨gl,cl,rfl,_⟩:=hfm;have HB:=Lib.hid hB;have HK:=Lib.hid hkp;have hsz:=hkp.size;have hS:Go.ConcN.sumTo j (addsOf xs)≤5*j:=by
   have h:=sumTo_mono (f:=addsOf xs) (g:=fun _=>0+5) (n:=j) fun i _=>by have:=adds_le xs i;omega
   rw[sumTo_plus] at h;have h0:∀ n,Go.ConcN.sumTo n (fun _=>0)=0:=fun n=>by
    induction n with
    | zero=>rfl
    | succ n ih=>show Go.ConcN.sumTo n _+0=0;rw[ih]
   rw[h0] at h;omega
  clear hB hkp;by_cases hlt:j<n
  ·have hc:=HX.out wr HK.out j hlt
   have hal:=adds_le xs j;obtain⟨u,hu⟩:∃ u,u=xs.getD j 0:=⟨_,rfl⟩;have hmu:(wrap64 (u.tmod 6+6)).tmod 6=(addsOf xs j:Int):=by
    have hm1:-6<u.tmod 6∧u.tmod 6<6:=⟨Int.lt_tmod_of_pos _ (by decide),Int.tmod_lt_of_pos _ (by decide)⟩;rw[IntWalk.wrap64_in _ (by omega),hu];exact adds_eq xs j
   rw[← hu] at hc;clear hu;have hml:(bs.map (ceV cx)).length=j:=by rw[List.length_map,hbl]
   have HML:=Lib.hid hml;have HO:=Lib.hid (cell_one_at (wr.alloc (.cells #[.int .i64 (addsOf xs j:Int)] 3)) (ceV cx wr.heap.size) 31 (N:=wr.heap.size+1) (by rw[wz']));have HR:=Lib.hid (fun(W:World) (q:Keeps [] wr W)=>HB.out.rep.keeps q (by simp));clear hml
   go_wp2_with (refine wpList_rep_append rfl (.tmp 54) (.tmp 56) 27 rfl .nilFunc 8 Try.underlying27 info54 rfl (by decide) (.slice gl j cl) (bs.map (ceV cx)) rfl (HR.out _ (((Keeps.refl _ _).alloc _).alloc _)) (fun _=>rfl) ⟨wr.heap.size+1,0,none⟩ 1 1 [ceV cx wr.heap.size] rfl rfl HO.out (by simp[ceV,Value.oneCell']) (by decide) (by rw[HML.out];unfold maxLen;omega) (by rw[HML.out];omega) ?_;rw[HML.out];intro g2 cap2 w2 r2 k2 a2 lg q2;have R2:=Lib.hid r2;have K2:=Lib.hid k2;have A2:=Lib.hid a2;clear r2 k2 a2)
   go_roundw
   case rel =>
    have hz:((wr.alloc (.cells #[.int .i64 (addsOf xs j:Int)] 3)).alloc (.cells #[ceV cx wr.heap.size] 31)).heap.size=wr.heap.size+2:=by rw[wz',wz']
    have hB2:=HB.out.next (W:=(wr.alloc (.cells #[.int .i64 (addsOf xs j:Int)] 3)).alloc (.cells #[ceV cx wr.heap.size] 31)) hsz rfl ((Kp.alloc [] wr _).trans (Kp.alloc [] _ _)) ((Blk.new wr [.int .i64 (addsOf xs j:Int)] 3).alloc _) R2.out K2.out A2.out;have hk2:=lent_rel (m:=j+1) (cap2:=cap2) ((HK.out.alloc _).alloc _) HB.out.fresh K2.out A2.out;refine⟨j+1,bs++[wr.heap.size],by omega,?_,by go_num,hB2,hk2.1⟩;rfl
   case measure=>simp[intOf];omega
  ·obtain rfl:j=n:=by omega
   go_wp2
   refine HQ.out _ _ ?_;rw[← HG.out];exact lcQ_mk rfl ⟨rfl,rfl,rfl,rfl,rfl,rfl⟩ HB.out HK.out
end Go.Proofs.Ytgapgmigmlideaa.Lift
