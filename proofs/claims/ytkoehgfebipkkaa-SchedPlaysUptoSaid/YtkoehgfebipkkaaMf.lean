/- SchedPlays keeps its law for every input that may come: SchedPlaysUptoSaid, as given. Conditions: none. -/
import Derived.Test.YtkoehgfebipkkaaRows
import Derived.Conc.Holds
import Derived.JoinedCond
import Derived.WalkKit
import Derived.ProofKit
import Derived.OpenShut
import Derived.Deep.Slices
import Derived.Deep.Fields
import Derived.ChangeSame
import Derived.Test.YtkoehgfebipkkaaMe
set_option linter.unusedVariables false
set_option linter.unusedSimpArgs false
set_option maxRecDepth 100000
set_option maxHeartbeats 6400000
noncomputable section
namespace Go.Proofs.Ytkoehgfebipkkaa.Lift
open Go Go.Conc Go.RowKit Pl
def c3:Code:=Try.f3.body.getD .skip
theorem ld25 {w:World}{b:Nat}{x0 x1 x2 x3 x4:Value}(hb:Cel w b [x0,x1,x2,x3,x4] 25):(Instr.loadAt 25 (ptr b)).run Try.prog w=.ok (.agg #[x0,x1,x2,x3,x4]) w:=by
 have h0:=hb.cell 0;have h1:=hb.cell 1;have h2:=hb.cell 2;have h3:=hb.cell 3;have h4:=hb.cell 4;simp only[List.getElem?_cons_zero,List.getElem?_cons_succ] at h0 h1 h2 h3 h4;simp[go_sem,h0,h1,h2,h3,h4,Try.underlying25,Try.runUnderlying25,Try.sizeOf25,Try.isAgg25,List.range,List.range.loop]
theorem fld41 {b f:Nat}(hf:f<2):∀ w,(Instr.fieldAt 41 (.pointer (some ⟨b,0,none⟩)) f).run Try.prog w=.ok (.pointer (some ⟨b,f,none⟩)) w:=fun w=>by
 obtain rfl | rfl:f=0∨f=1:=by omega
 all_goals simp[go_sem,Try.underlying41,Try.runUnderlying41,Try.sizeOf41,Try.isAgg41,Try.sizeOf3,Try.sizeOf39]
theorem fld44 {b f:Nat}(hf:f<4):∀ w,(Instr.fieldAt 44 (.pointer (some ⟨b,0,none⟩)) f).run Try.prog w=.ok (.pointer (some ⟨b,f,none⟩)) w:=fun w=>by
 obtain rfl | rfl | rfl | rfl:f=0∨f=1∨f=2∨f=3:=by omega
 all_goals simp[go_sem,Try.underlying44,Try.runUnderlying44,Try.sizeOf44,Try.isAgg44,Try.sizeOf42,Try.sizeOf3,Try.sizeOf39,Try.sizeOf23]
theorem ex_eq31 {a:Act}{o:Oper}{w:World}{x y:Operand}{i:Int}(h:o.op=.binOp .eql 31 x y 31)(hx:a.eval x=.int .i64 i)(hy:a.eval y=.int .i64 i):(execOp a.eval o).run Try.prog w=.ok (.value (.bool true)) w:=by
 unfold execOp;rw[h];simp only[hx,hy];exact run_vv (by simp[go_sem,Try.underlying31,Try.runUnderlying31])
theorem ex_eq3 {a:Act}{o:Oper}{w:World}{x y:Operand}{i:Int}(h:o.op=.binOp .eql 3 x y 3)(hx:a.eval x=.int .i64 i)(hy:a.eval y=.int .i64 i):(execOp a.eval o).run Try.prog w=.ok (.value (.bool true)) w:=by
 unfold execOp;rw[h];simp only[hx,hy];exact run_vv (by simp[go_sem,Try.underlying3,Try.runUnderlying3])
theorem ex_pick {P:Program}{a:Act}{o:Oper}{w:World}{c x y:Operand}{v:Value}(h:o.op=.pick c x y)(hc:a.eval c=.bool true)(hx:a.eval x=v):(execOp a.eval o).run P w=.ok (.value v) w:=by
 unfold execOp;rw[h];generalize a.eval=ρ at hc hx ⊢;simp[hc,hx,go_sem]
section
variable {K:Goroutine→World→Prop}{m:Bool}{w:World}{cs:List Frame}{vt vp:Value}{most bump:Int}{wt:Bool}
theorem enter3:Frame.enter Try.prog 3 #[.agg #[.int .i64 bump,vt,vp,.int .i64 most,.bool wt]] .normal=(base 3).at ⟨(List.toArray ((.agg #[.int .i64 bump,vt,vp,.int .i64 most,.bool wt])::(ur 68))),[]⟩ [.code c3]:=enter_lit Try.func3 rfl rfl
def plNew (bump:Int)(vt vp:Value)(most:Int)(wt:Bool)(bx:Nat):Frame:=(base 3).at ⟨(List.toArray ((.agg #[.int .i64 bump,vt,vp,.int .i64 most,.bool wt])::ptr bx::.bool false::(ur 7++(ptrAt bx 1)::vt::(ur 57)))),[]⟩ [.inRegion (sO (sL (sR c3))) [2,3],.code (sR (sR c3))]
theorem plays_enter {g1 g2:Option Addr}{n1 c1 n2 c2:Nat}(hD:Det Try.prog m fun _=>K)(h1:vt=.slice g1 n1 c1)(h2:vp=.slice g2 n2 c2)(h:∀ bx w',Kp [] w w'→Blk w' bx [.int .i64 bump,vt,vp,.int .i64 most,.bool wt] 25→K (gs (Frame.enter Try.prog 7 #[vt] .normal) (plNew bump vt vp most wt bx::cs)) w'):K (gs (Frame.enter Try.prog 3 #[.agg #[.int .i64 bump,vt,vp,.int .i64 most,.bool wt]] .normal) cs) w:=by
 rw[enter3];have hk:(base 3).kind≠.early:=nofun;refine hD.s0 ?_;refine hD.r0 ?_;have kbx:=Kp.alloc [] w (.cells #[.int .i64 bump,vt,vp,.int .i64 most,.bool wt] 25);have bbx:Blk (w.alloc (.cells #[.int .i64 bump,vt,vp,.int .i64 most,.bool wt] 25)) w.heap.size [.int .i64 bump,vt,vp,.int .i64 most,.bool wt] 25:=Blk.new _ _ _;have zbx:(w.alloc (.cells #[.int .i64 bump,vt,vp,.int .i64 most,.bool wt] 25)).heap.size=w.heap.size+1:=wz' _ _;refine hD.box (n:=0) (u:=(.agg #[.int .i64 bump,vt,vp,.int .i64 most,.bool wt])) hk rfl ⟨rfl,rfl,rfl,rfl,nofun⟩ rfl (bx25 h1 h2) ?_;obtain⟨bx,hbx⟩:∃ x,x=w.heap.size:=⟨_,rfl⟩;rw[← hbx] at bbx ⊢;generalize w.alloc (.cells #[.int .i64 bump,vt,vp,.int .i64 most,.bool wt] 25)=w1 at kbx bbx zbx ⊢;refine hD.as (.bool false) hk ?_;simp only[Act.put,n1',n2',n3'];refine hD.e0 ?_;refine hD.s0 ?_;refine hD.r0 ?_;refine hD.fd (ptrAt bx 1) hk (fld25 (by omega)) ?_;refine hD.ld vt hk (fun τ d=>ld22 (bbx.cell 1)) ?_;simp only[Act.put,n1',n2',n3'];refine hD.cf #[vt] hk Try.func7 ?_;exact h bx w1 kbx bbx
def plRun (bump:Int)(vt vp:Value)(most:Int)(wt:Bool)(bx:Nat)(r:Nat):Frame:=(base 3).at ⟨(List.toArray ((.agg #[.int .i64 bump,vt,vp,.int .i64 most,.bool wt])::ptr bx::.bool false::ptr r::(ur 6++(ptrAt bx 1)::vt::ptr r::uu::ptr r::ptrAt bx 2::vp::ptrAt bx 3::.int .i64 most::ptrAt bx 4::.bool wt::ptrAt bx 0::.int .i64 bump::(ur 46)))),[]⟩ [.inRegion (sO (sL (sR (sR c3)))) [9,10,11,12,13,14,15],.code (sR (sR (sR c3)))]
theorem plays_run {bx r:Nat}(hD:Det Try.prog m fun _=>K)(hb:Cel w bx [.int .i64 bump,vt,vp,.int .i64 most,.bool wt] 25)(h:K (gs (Frame.enter Try.prog 8 #[ptr r,vp,.int .i64 most,.bool wt,.int .i64 (-77),.int .i64 bump] .normal) (plRun bump vt vp most wt bx r::cs)) w):K (gs ((plNew bump vt vp most wt bx).finish (ptr r)) cs) w:=by
 have hk:(base 3).kind≠.early:=nofun;unfold plNew;refine fin0 (some 12) ?_;refine hD.as (ptr r) hk ?_;refine norm0 (a':=⟨(List.toArray ((.agg #[.int .i64 bump,vt,vp,.int .i64 most,.bool wt])::ptr bx::.bool false::ptr r::(ur 6++(ptrAt bx 1)::vt::ptr r::(ur 56)))),[]⟩) ?_;refine hD.e0 ?_;refine hD.s0 ?_;refine hD.r0 ?_;refine hD.mv (ptr r) hk ?_;refine hD.fd (ptrAt bx 2) hk (fld25 (by omega)) ?_;refine hD.ld vp hk (fun τ d=>ld23 (hb.cell 2)) ?_;refine norm0 (a':=⟨(List.toArray ((.agg #[.int .i64 bump,vt,vp,.int .i64 most,.bool wt])::ptr bx::.bool false::ptr r::(ur 6++(ptrAt bx 1)::vt::ptr r::uu::ptr r::ptrAt bx 2::vp::(ur 52)))),[]⟩) ?_;refine hD.fd (ptrAt bx 3) hk (fld25 (by omega)) ?_;refine hD.ld (.int .i64 most) hk (fun τ d=>ld3 (hb.cell 3)) ?_;refine hD.fd (ptrAt bx 4) hk (fld25 (by omega)) ?_;refine hD.ld (.bool wt) hk (fun τ d=>ld4 (hb.cell 4)) ?_;refine norm0 (a':=⟨(List.toArray ((.agg #[.int .i64 bump,vt,vp,.int .i64 most,.bool wt])::ptr bx::.bool false::ptr r::(ur 6++(ptrAt bx 1)::vt::ptr r::uu::ptr r::ptrAt bx 2::vp::ptrAt bx 3::.int .i64 most::ptrAt bx 4::.bool wt::(ur 48)))),[]⟩) ?_;refine hD.fd (ptrAt bx 0) hk (fld25 (by omega)) ?_;refine hD.ld (.int .i64 bump) hk (fun τ d=>ld3 (hb.cell 0)) ?_;refine norm0 (a':=⟨(List.toArray ((.agg #[.int .i64 bump,vt,vp,.int .i64 most,.bool wt])::ptr bx::.bool false::ptr r::(ur 6++(ptrAt bx 1)::vt::ptr r::uu::ptr r::ptrAt bx 2::vp::ptrAt bx 3::.int .i64 most::ptrAt bx 4::.bool wt::ptrAt bx 0::.int .i64 bump::(ur 46)))),[]⟩) ?_;refine hD.cf #[ptr r,vp,.int .i64 most,.bool wt,.int .i64 (-77),.int .i64 bump] hk Try.func8 ?_;exact h
def plPlay (bump:Int)(vt vp:Value)(most:Int)(wt:Bool)(bx:Nat)(r rb:Nat)(ga1:Option Addr)(na1 ca1:Nat)(ge1:Option Addr)(ne1 ce1:Nat)(u1 e1:Int):Frame:=(base 3).at ⟨(List.toArray ((.agg #[.int .i64 bump,vt,vp,.int .i64 most,.bool wt])::ptr bx::.bool false::ptr r::ptr rb::.int .i64 e1::(ur 4++(ptrAt bx 1)::vt::ptr r::.tuple #[(.agg #[.slice ga1 na1 ca1,.slice ge1 ne1 ce1,.int .i64 u1]),.int .i64 e1]::ptr r::ptrAt bx 2::vp::ptrAt bx 3::.int .i64 most::ptrAt bx 4::.bool wt::ptrAt bx 0::.int .i64 bump::.tuple #[(.agg #[.slice ga1 na1 ca1,.slice ge1 ne1 ce1,.int .i64 u1]),.int .i64 e1]::.agg #[.slice ga1 na1 ca1,.slice ge1 ne1 ce1,.int .i64 u1]::.int .i64 e1::uu::.agg #[.int .i64 bump,vt,vp,.int .i64 most,.bool wt]::(ur 41)))),[]⟩ [.inRegion (sO (sL (sR (sR (sR c3))))) [1,2,3,4,5,6,7,8,9,10,11],.code (sR (sR (sR (sR c3))))]
theorem plays_play {bx r:Nat}{ga1:Option Addr}{na1 ca1:Nat}{ge1:Option Addr}{ne1 ce1:Nat}{u1 e1:Int}(hD:Det Try.prog m fun _=>K)(hb:Cel w bx [.int .i64 bump,vt,vp,.int .i64 most,.bool wt] 25)(h:∀ rb w',Kp [] w w'→Blk w' rb [.slice ga1 na1 ca1,.slice ge1 ne1 ce1,.int .i64 u1] 30→K (gs (Frame.enter Try.prog 9 #[.agg #[.int .i64 bump,vt,vp,.int .i64 most,.bool wt]] .normal) (plPlay bump vt vp most wt bx r rb ga1 na1 ca1 ge1 ne1 ce1 u1 e1::cs)) w'):K (gs ((plRun bump vt vp most wt bx r).finish (.tuple #[.agg #[.slice ga1 na1 ca1,.slice ge1 ne1 ce1,.int .i64 u1],.int .i64 e1])) cs) w:=by
 have hk:(base 3).kind≠.early:=nofun;unfold plRun;refine fin0 (some 23) ?_;refine hD.mv (.tuple #[.agg #[.slice ga1 na1 ca1,.slice ge1 ne1 ce1,.int .i64 u1],.int .i64 e1]) hk ?_;refine hD.pu (.agg #[.slice ga1 na1 ca1,.slice ge1 ne1 ce1,.int .i64 u1]) hk (fun w=>pu_ext rfl rfl rfl) ?_;refine hD.pu (.int .i64 e1) hk (fun w=>pu_ext rfl rfl rfl) ?_;refine norm0 (a':=⟨(List.toArray ((.agg #[.int .i64 bump,vt,vp,.int .i64 most,.bool wt])::ptr bx::.bool false::ptr r::(ur 6++(ptrAt bx 1)::vt::ptr r::.tuple #[(.agg #[.slice ga1 na1 ca1,.slice ge1 ne1 ce1,.int .i64 u1]),.int .i64 e1]::ptr r::ptrAt bx 2::vp::ptrAt bx 3::.int .i64 most::ptrAt bx 4::.bool wt::ptrAt bx 0::.int .i64 bump::.tuple #[(.agg #[.slice ga1 na1 ca1,.slice ge1 ne1 ce1,.int .i64 u1]),.int .i64 e1]::.agg #[.slice ga1 na1 ca1,.slice ge1 ne1 ce1,.int .i64 u1]::.int .i64 e1::(ur 43)))),[]⟩) ?_;have krb:=Kp.alloc [] w (.cells #[.slice none 0 0,.slice none 0 0,.int .i64 0] 30);have brb:Blk (w.alloc (.cells #[.slice none 0 0,.slice none 0 0,.int .i64 0] 30)) w.heap.size [.slice none 0 0,.slice none 0 0,.int .i64 0] 30:=Blk.new _ _ _;have zrb:(w.alloc (.cells #[.slice none 0 0,.slice none 0 0,.int .i64 0] 30)).heap.size=w.heap.size+1:=wz' _ _;refine hD.alloc (n:=0) hk rfl ⟨rfl,rfl,rfl,(by decide +kernel),nofun⟩ al30 ?_;obtain⟨rb,hrb⟩:∃ x,x=w.heap.size:=⟨_,rfl⟩;rw[← hrb] at brb ⊢;generalize w.alloc (.cells #[.slice none 0 0,.slice none 0 0,.int .i64 0] 30)=w1 at krb brb zrb ⊢;refine norm0 (a':=⟨(List.toArray ((.agg #[.int .i64 bump,vt,vp,.int .i64 most,.bool wt])::ptr bx::.bool false::ptr r::ptr rb::(ur 5++(ptrAt bx 1)::vt::ptr r::.tuple #[(.agg #[.slice ga1 na1 ca1,.slice ge1 ne1 ce1,.int .i64 u1]),.int .i64 e1]::ptr r::ptrAt bx 2::vp::ptrAt bx 3::.int .i64 most::ptrAt bx 4::.bool wt::ptrAt bx 0::.int .i64 bump::.tuple #[(.agg #[.slice ga1 na1 ca1,.slice ge1 ne1 ce1,.int .i64 u1]),.int .i64 e1]::.agg #[.slice ga1 na1 ca1,.slice ge1 ne1 ce1,.int .i64 u1]::.int .i64 e1::(ur 43)))),[]⟩) ?_;refine hD.store (n:=0) (u:=(ptr rb)) (z:=(.agg #[.slice ga1 na1 ca1,.slice ge1 ne1 ce1,.int .i64 u1])) hk rfl ⟨rfl,rfl,rfl,rfl,nofun⟩ rfl rfl (fun τ d=>((st30 (w:=re w1 τ d) brb).trans (congrArg (Result.ok ()) re_set3))) (Nat.le_of_eq set3_size.symm) ?_;have k2:Kp [rb] w1 (set3 w1 rb (.slice ga1 na1 ca1) (.slice ge1 ne1 ce1) (.int .i64 u1)):=⟨Nat.le_of_eq set3_size.symm,fun b _ hn=>set3_frame (by simpa using hn)⟩;have b2:Blk (set3 w1 rb (.slice ga1 na1 ca1) (.slice ge1 ne1 ce1) (.int .i64 u1)) rb [.slice ga1 na1 ca1,.slice ge1 ne1 ce1,.int .i64 u1] 30:=set3_blk brb;generalize (set3 w1 rb (.slice ga1 na1 ca1) (.slice ge1 ne1 ce1) (.int .i64 u1))=w2 at k2 b2 ⊢;refine hD.as (.int .i64 e1) hk ?_;refine norm0 (a':=⟨(List.toArray ((.agg #[.int .i64 bump,vt,vp,.int .i64 most,.bool wt])::ptr bx::.bool false::ptr r::ptr rb::.int .i64 e1::(ur 4++(ptrAt bx 1)::vt::ptr r::.tuple #[(.agg #[.slice ga1 na1 ca1,.slice ge1 ne1 ce1,.int .i64 u1]),.int .i64 e1]::ptr r::ptrAt bx 2::vp::ptrAt bx 3::.int .i64 most::ptrAt bx 4::.bool wt::ptrAt bx 0::.int .i64 bump::.tuple #[(.agg #[.slice ga1 na1 ca1,.slice ge1 ne1 ce1,.int .i64 u1]),.int .i64 e1]::.agg #[.slice ga1 na1 ca1,.slice ge1 ne1 ce1,.int .i64 u1]::.int .i64 e1::(ur 43)))),[]⟩) ?_
 refine hD.e0 ?_;refine hD.s0 ?_;refine hD.r0 ?_;have k12:Kp [] w w2:=⟨by have:=krb.size;have:=k2.size;omega,fun b hb _=>by rw[k2.block b (by have:=krb.size;omega) (by simp;omega),krb.block b hb (by simp)]⟩;refine hD.ld (.agg #[.int .i64 bump,vt,vp,.int .i64 most,.bool wt]) hk (fun τ d=>ld25 (k12.cel hb (by simp))) ?_;refine norm0 (a':=⟨(List.toArray ((.agg #[.int .i64 bump,vt,vp,.int .i64 most,.bool wt])::ptr bx::.bool false::ptr r::ptr rb::.int .i64 e1::(ur 4++(ptrAt bx 1)::vt::ptr r::.tuple #[(.agg #[.slice ga1 na1 ca1,.slice ge1 ne1 ce1,.int .i64 u1]),.int .i64 e1]::ptr r::ptrAt bx 2::vp::ptrAt bx 3::.int .i64 most::ptrAt bx 4::.bool wt::ptrAt bx 0::.int .i64 bump::.tuple #[(.agg #[.slice ga1 na1 ca1,.slice ge1 ne1 ce1,.int .i64 u1]),.int .i64 e1]::.agg #[.slice ga1 na1 ca1,.slice ge1 ne1 ce1,.int .i64 u1]::.int .i64 e1::uu::.agg #[.int .i64 bump,vt,vp,.int .i64 most,.bool wt]::(ur 41)))),[]⟩) ?_;refine hD.cf #[.agg #[.int .i64 bump,vt,vp,.int .i64 most,.bool wt]] hk Try.func9 ?_;exact h rb w2 k12 b2
def plTm (bump:Int)(vt vp:Value)(most:Int)(wt:Bool)(bx:Nat)(r rb:Nat)(ga1:Option Addr)(na1 ca1:Nat)(ge1:Option Addr)(ne1 ce1:Nat)(u1 e1:Int)(s rc:Nat)(ga2:Option Addr)(na2 ca2:Nat)(ge2:Option Addr)(ne2 ce2:Nat)(u2 e2:Int):Array Value:=(List.toArray ((.agg #[.int .i64 bump,vt,vp,.int .i64 most,.bool wt])::ptr bx::.bool false::ptr r::ptr rb::.int .i64 e1::ptr s::ptr rc::.int .i64 e2::.bool true::ptrAt bx 1::vt::ptr r::.tuple #[(.agg #[.slice ga1 na1 ca1,.slice ge1 ne1 ce1,.int .i64 u1]),.int .i64 e1]::ptr r::ptrAt bx 2::vp::ptrAt bx 3::.int .i64 most::ptrAt bx 4::.bool wt::ptrAt bx 0::.int .i64 bump::.tuple #[(.agg #[.slice ga1 na1 ca1,.slice ge1 ne1 ce1,.int .i64 u1]),.int .i64 e1]::.agg #[.slice ga1 na1 ca1,.slice ge1 ne1 ce1,.int .i64 u1]::.int .i64 e1::.tuple #[ptr s,(.agg #[.slice ga2 na2 ca2,.slice ge2 ne2 ce2,.int .i64 u2]),.int .i64 e2,.bool true]::.agg #[.int .i64 bump,vt,vp,.int .i64 most,.bool wt]::.tuple #[ptr s,(.agg #[.slice ga2 na2 ca2,.slice ge2 ne2 ce2,.int .i64 u2]),.int .i64 e2,.bool true]::ptr s::.agg #[.slice ga2 na2 ca2,.slice ge2 ne2 ce2,.int .i64 u2]::.int .i64 e2::.bool true::(ur 36)))
theorem plays_last {bx r rb s:Nat}{ga1:Option Addr}{na1 ca1:Nat}{ge1:Option Addr}{ne1 ce1:Nat}{u1 e1:Int}{ga2:Option Addr}{na2 ca2:Nat}{ge2:Option Addr}{ne2 ce2:Nat}{u2 e2:Int}(hD:Det Try.prog m fun _=>K)(h:∀ rc w',Kp [] w w'→Blk w' rc [.slice ga2 na2 ca2,.slice ge2 ne2 ce2,.int .i64 u2] 30→K (gs ((base 3).at ⟨plTm bump vt vp most wt bx r rb ga1 na1 ca1 ge1 ne1 ce1 u1 e1 s rc ga2 na2 ca2 ge2 ne2 ce2 u2 e2,[]⟩ [.code (sL (sR (sR (sR (sR c3))))),.code (sR (sR (sR (sR (sR c3)))))]) cs) w'):K (gs ((plPlay bump vt vp most wt bx r rb ga1 na1 ca1 ge1 ne1 ce1 u1 e1).finish (.tuple #[ptr s,.agg #[.slice ga2 na2 ca2,.slice ge2 ne2 ce2,.int .i64 u2],.int .i64 e2,.bool true])) cs) w:=by
 have hk:(base 3).kind≠.early:=nofun;unfold plPlay;refine fin0 (some 28) ?_;refine hD.mv (.tuple #[ptr s,.agg #[.slice ga2 na2 ca2,.slice ge2 ne2 ce2,.int .i64 u2],.int .i64 e2,.bool true]) hk ?_;refine hD.pu (ptr s) hk (fun w=>pu_ext rfl rfl rfl) ?_;refine hD.pu (.agg #[.slice ga2 na2 ca2,.slice ge2 ne2 ce2,.int .i64 u2]) hk (fun w=>pu_ext rfl rfl rfl) ?_;refine norm0 (a':=⟨(List.toArray ((.agg #[.int .i64 bump,vt,vp,.int .i64 most,.bool wt])::ptr bx::.bool false::ptr r::ptr rb::.int .i64 e1::(ur 4++(ptrAt bx 1)::vt::ptr r::.tuple #[(.agg #[.slice ga1 na1 ca1,.slice ge1 ne1 ce1,.int .i64 u1]),.int .i64 e1]::ptr r::ptrAt bx 2::vp::ptrAt bx 3::.int .i64 most::ptrAt bx 4::.bool wt::ptrAt bx 0::.int .i64 bump::.tuple #[(.agg #[.slice ga1 na1 ca1,.slice ge1 ne1 ce1,.int .i64 u1]),.int .i64 e1]::.agg #[.slice ga1 na1 ca1,.slice ge1 ne1 ce1,.int .i64 u1]::.int .i64 e1::.tuple #[ptr s,(.agg #[.slice ga2 na2 ca2,.slice ge2 ne2 ce2,.int .i64 u2]),.int .i64 e2,.bool true]::.agg #[.int .i64 bump,vt,vp,.int .i64 most,.bool wt]::.tuple #[ptr s,(.agg #[.slice ga2 na2 ca2,.slice ge2 ne2 ce2,.int .i64 u2]),.int .i64 e2,.bool true]::ptr s::.agg #[.slice ga2 na2 ca2,.slice ge2 ne2 ce2,.int .i64 u2]::(ur 38)))),[]⟩) ?_;refine hD.pu (.int .i64 e2) hk (fun w=>pu_ext rfl rfl rfl) ?_;refine hD.pu (.bool true) hk (fun w=>pu_ext rfl rfl rfl) ?_;refine norm0 (a':=⟨(List.toArray ((.agg #[.int .i64 bump,vt,vp,.int .i64 most,.bool wt])::ptr bx::.bool false::ptr r::ptr rb::.int .i64 e1::(ur 4++(ptrAt bx 1)::vt::ptr r::.tuple #[(.agg #[.slice ga1 na1 ca1,.slice ge1 ne1 ce1,.int .i64 u1]),.int .i64 e1]::ptr r::ptrAt bx 2::vp::ptrAt bx 3::.int .i64 most::ptrAt bx 4::.bool wt::ptrAt bx 0::.int .i64 bump::.tuple #[(.agg #[.slice ga1 na1 ca1,.slice ge1 ne1 ce1,.int .i64 u1]),.int .i64 e1]::.agg #[.slice ga1 na1 ca1,.slice ge1 ne1 ce1,.int .i64 u1]::.int .i64 e1::.tuple #[ptr s,(.agg #[.slice ga2 na2 ca2,.slice ge2 ne2 ce2,.int .i64 u2]),.int .i64 e2,.bool true]::.agg #[.int .i64 bump,vt,vp,.int .i64 most,.bool wt]::.tuple #[ptr s,(.agg #[.slice ga2 na2 ca2,.slice ge2 ne2 ce2,.int .i64 u2]),.int .i64 e2,.bool true]::ptr s::.agg #[.slice ga2 na2 ca2,.slice ge2 ne2 ce2,.int .i64 u2]::.int .i64 e2::.bool true::(ur 36)))),[]⟩) ?_;have krc:=Kp.alloc [] w (.cells #[.slice none 0 0,.slice none 0 0,.int .i64 0] 30);have brc:Blk (w.alloc (.cells #[.slice none 0 0,.slice none 0 0,.int .i64 0] 30)) w.heap.size [.slice none 0 0,.slice none 0 0,.int .i64 0] 30:=Blk.new _ _ _;have zrc:(w.alloc (.cells #[.slice none 0 0,.slice none 0 0,.int .i64 0] 30)).heap.size=w.heap.size+1:=wz' _ _;refine hD.alloc (n:=0) hk rfl ⟨rfl,rfl,rfl,(by decide +kernel),nofun⟩ al30 ?_;obtain⟨rc,hrc⟩:∃ x,x=w.heap.size:=⟨_,rfl⟩;rw[← hrc] at brc ⊢;generalize w.alloc (.cells #[.slice none 0 0,.slice none 0 0,.int .i64 0] 30)=w1 at krc brc zrc ⊢;refine hD.as (ptr s) hk ?_;refine norm0 (a':=⟨(List.toArray ((.agg #[.int .i64 bump,vt,vp,.int .i64 most,.bool wt])::ptr bx::.bool false::ptr r::ptr rb::.int .i64 e1::ptr s::ptr rc::uu::uu::ptrAt bx 1::vt::ptr r::.tuple #[(.agg #[.slice ga1 na1 ca1,.slice ge1 ne1 ce1,.int .i64 u1]),.int .i64 e1]::ptr r::ptrAt bx 2::vp::ptrAt bx 3::.int .i64 most::ptrAt bx 4::.bool wt::ptrAt bx 0::.int .i64 bump::.tuple #[(.agg #[.slice ga1 na1 ca1,.slice ge1 ne1 ce1,.int .i64 u1]),.int .i64 e1]::.agg #[.slice ga1 na1 ca1,.slice ge1 ne1 ce1,.int .i64 u1]::.int .i64 e1::.tuple #[ptr s,(.agg #[.slice ga2 na2 ca2,.slice ge2 ne2 ce2,.int .i64 u2]),.int .i64 e2,.bool true]::.agg #[.int .i64 bump,vt,vp,.int .i64 most,.bool wt]::.tuple #[ptr s,(.agg #[.slice ga2 na2 ca2,.slice ge2 ne2 ce2,.int .i64 u2]),.int .i64 e2,.bool true]::ptr s::.agg #[.slice ga2 na2 ca2,.slice ge2 ne2 ce2,.int .i64 u2]::.int .i64 e2::.bool true::(ur 36))),[]⟩) ?_
 refine hD.store (n:=0) (u:=(ptr rc)) (z:=(.agg #[.slice ga2 na2 ca2,.slice ge2 ne2 ce2,.int .i64 u2])) hk rfl ⟨rfl,rfl,rfl,rfl,nofun⟩ rfl rfl (fun τ d=>((st30 (w:=re w1 τ d) brc).trans (congrArg (Result.ok ()) re_set3))) (Nat.le_of_eq set3_size.symm) ?_;have k2:Kp [rc] w1 (set3 w1 rc (.slice ga2 na2 ca2) (.slice ge2 ne2 ce2) (.int .i64 u2)):=⟨Nat.le_of_eq set3_size.symm,fun b _ hn=>set3_frame (by simpa using hn)⟩;have b2:Blk (set3 w1 rc (.slice ga2 na2 ca2) (.slice ge2 ne2 ce2) (.int .i64 u2)) rc [.slice ga2 na2 ca2,.slice ge2 ne2 ce2,.int .i64 u2] 30:=set3_blk brc;generalize (set3 w1 rc (.slice ga2 na2 ca2) (.slice ge2 ne2 ce2) (.int .i64 u2))=w2 at k2 b2 ⊢;refine hD.as (.int .i64 e2) hk ?_;refine hD.as (.bool true) hk ?_;refine norm0 (a':=⟨(List.toArray ((.agg #[.int .i64 bump,vt,vp,.int .i64 most,.bool wt])::ptr bx::.bool false::ptr r::ptr rb::.int .i64 e1::ptr s::ptr rc::.int .i64 e2::.bool true::ptrAt bx 1::vt::ptr r::.tuple #[(.agg #[.slice ga1 na1 ca1,.slice ge1 ne1 ce1,.int .i64 u1]),.int .i64 e1]::ptr r::ptrAt bx 2::vp::ptrAt bx 3::.int .i64 most::ptrAt bx 4::.bool wt::ptrAt bx 0::.int .i64 bump::.tuple #[(.agg #[.slice ga1 na1 ca1,.slice ge1 ne1 ce1,.int .i64 u1]),.int .i64 e1]::.agg #[.slice ga1 na1 ca1,.slice ge1 ne1 ce1,.int .i64 u1]::.int .i64 e1::.tuple #[ptr s,(.agg #[.slice ga2 na2 ca2,.slice ge2 ne2 ce2,.int .i64 u2]),.int .i64 e2,.bool true]::.agg #[.int .i64 bump,vt,vp,.int .i64 most,.bool wt]::.tuple #[ptr s,(.agg #[.slice ga2 na2 ca2,.slice ge2 ne2 ce2,.int .i64 u2]),.int .i64 e2,.bool true]::ptr s::.agg #[.slice ga2 na2 ca2,.slice ge2 ne2 ce2,.int .i64 u2]::.int .i64 e2::.bool true::(ur 36))),[]⟩) ?_;refine hD.e0 ?_;refine hD.s0 ?_;exact h rc w2 ⟨by have:=krc.size;have:=k2.size;omega,fun b hb _=>by rw[k2.block b (by have:=krc.size;omega) (by simp;omega),krc.block b hb (by simp)]⟩ b2
end
def q4ops:Array Oper:=sO (sL (sR (sR (sR (sR c3)))))
def q4sp (i:Nat):Bool:=i==9||i==20||i==34
def q4fin (bump:Int)(vt vp:Value)(most:Int)(wt:Bool)(bx:Nat)(r rb:Nat)(ga1:Option Addr)(na1 ca1:Nat)(ge1:Option Addr)(ne1 ce1:Nat)(u1 e1:Int)(s rc:Nat)(ga2:Option Addr)(na2 ca2:Nat)(ge2:Option Addr)(ne2 ce2:Nat)(u2:Int)(vn1 vn2:Value)(sum:Int):Array Value:=#[.agg #[.int .i64 bump,vt,vp,.int .i64 most,.bool wt],ptr bx,.bool true,ptr r,ptr rb,.int .i64 e1,ptr s,ptr rc,.int .i64 e1,.bool true,ptrAt bx 1,vt,ptr r,.tuple #[(.agg #[.slice ga1 na1 ca1,.slice ge1 ne1 ce1,.int .i64 u1]),.int .i64 e1],ptr r,ptrAt bx 2,vp,ptrAt bx 3,.int .i64 most,ptrAt bx 4,.bool wt,ptrAt bx 0,.int .i64 bump,.tuple #[(.agg #[.slice ga1 na1 ca1,.slice ge1 ne1 ce1,.int .i64 u1]),.int .i64 e1],.agg #[.slice ga1 na1 ca1,.slice ge1 ne1 ce1,.int .i64 u1],.int .i64 e1,.tuple #[ptr s,(.agg #[.slice ga2 na2 ca2,.slice ge2 ne2 ce2,.int .i64 u2]),.int .i64 e1,.bool true],.agg #[.int .i64 bump,vt,vp,.int .i64 most,.bool wt],.tuple #[ptr s,(.agg #[.slice ga2 na2 ca2,.slice ge2 ne2 ce2,.int .i64 u2]),.int .i64 e1,.bool true],ptr s,.agg #[.slice ga2 na2 ca2,.slice ge2 ne2 ce2,.int .i64 u2],.int .i64 e1,.bool true,.bool true,.bool true,.int .i64 e1,.int .i64 e1,.bool true,.bool true,.bool true,.agg #[.slice ga2 na2 ca2,.slice ge2 ne2 ce2,.int .i64 u2],.agg #[.slice ga1 na1 ca1,.slice ge1 ne1 ce1,.int .i64 u1],.bool true,.bool true,.bool true,ptr s,ptr s,ptrAt s 1,vn2,ptr r,ptr r,ptrAt r 2,vn1,.bool true,.bool true,.bool true,ptr s,ptr s,ptrAt s 0,.int .i64 sum,ptr r,ptr r,ptrAt r 1,.int .i64 sum,.bool true,.bool true,.bool true,.bool true,.bool true]
theorem q4_good {bump most:Int}{vt vp:Value}{wt:Bool}{bx r rb s rc:Nat}{ga1:Option Addr}{na1 ca1:Nat}{ge1:Option Addr}{ne1 ce1:Nat}{u1 e1:Int}{ga2:Option Addr}{na2 ca2:Nat}{ge2:Option Addr}{ne2 ce2:Nat}{u2:Int}{vn1 vn2 vx vy:Value}{sum:Int}{w:World}(hs:Cel w s [.int .i64 sum,vn2] 41)(hr:Cel w r [vx,.int .i64 sum,vn1,vy] 44)(hc:Cel w rc [.slice ga2 na2 ca2,.slice ge2 ne2 ce2,.int .i64 u2] 30)(hb:Cel w rb [.slice ga1 na1 ca1,.slice ge1 ne1 ce1,.int .i64 u1] 30):OrdG Try.prog q4ops (q4fin bump vt vp most wt bx r rb ga1 na1 ca1 ge1 ne1 ce1 u1 e1 s rc ga2 na2 ca2 ge2 ne2 ce2 u2 vn1 vn2 sum) [] q4sp w:=by
 refine⟨fun i o ho hs'=>?_,fun i o g b ho hg=>?_⟩
 ·match i,ho,hs' with
  | 0,ho,_ =>
   obtain rfl:=so' ho;exact⟨33,⟨rfl,(by decide +kernel),nofun⟩,(show 33<69 by decide),fun a h τ δ=>ex_move rfl (h _ m0')⟩
  | 1,ho,_ =>
   obtain rfl:=so' ho;exact⟨34,⟨rfl,(by decide +kernel),nofun⟩,(show 34<69 by decide),fun a h τ δ=>ex_move rfl (h _ m0')⟩
  | 2,ho,_ =>
   obtain rfl:=so' ho;exact⟨35,⟨rfl,(by decide +kernel),nofun⟩,(show 35<69 by decide),fun a h τ δ=>ex_move rfl (h _ m0')⟩
  | 3,ho,_ =>
   obtain rfl:=so' ho;exact⟨36,⟨rfl,(by decide +kernel),nofun⟩,(show 36<69 by decide),fun a h τ δ=>ex_move rfl (h _ m0')⟩
  | 4,ho,_ =>
   obtain rfl:=so' ho;exact⟨37,⟨rfl,(by decide +kernel),nofun⟩,(show 37<69 by decide),fun a h τ δ=>ex_eq31 rfl (h _ m0') (h _ m1')⟩
  | 5,ho,_ =>
   obtain rfl:=so' ho;exact⟨38,⟨rfl,(by decide +kernel),nofun⟩,(show 38<69 by decide),fun a h τ δ=>ex_pick rfl (h _ m0') (h _ m1')⟩
  | 6,ho,_ =>
   obtain rfl:=so' ho;exact⟨39,⟨rfl,(by decide +kernel),nofun⟩,(show 39<69 by decide),fun a h τ δ=>ex_move rfl (h _ m0')⟩
  | 7,ho,_ =>
   obtain rfl:=so' ho;exact⟨40,⟨rfl,(by decide +kernel),nofun⟩,(show 40<69 by decide),fun a h τ δ=>ex_load (v:=(.agg #[.slice ga2 na2 ca2,.slice ge2 ne2 ce2,.int .i64 u2])) rfl (h _ m0') (ld30' hc)⟩
  | 8,ho,_ =>
   obtain rfl:=so' ho;exact⟨41,⟨rfl,(by decide +kernel),nofun⟩,(show 41<69 by decide),fun a h τ δ=>ex_load (v:=(.agg #[.slice ga1 na1 ca1,.slice ge1 ne1 ce1,.int .i64 u1])) rfl (h _ m0') (ld30' hb)⟩
  | 9,_,hs'=>cases hs'
  | 10,ho,_ =>
   obtain rfl:=so' ho;exact⟨43,⟨rfl,(by decide +kernel),nofun⟩,(show 43<69 by decide),fun a h τ δ=>ex_pick rfl (h _ m0') (h _ m1')⟩
  | 11,ho,_ =>
   obtain rfl:=so' ho;exact⟨44,⟨rfl,(by decide +kernel),nofun⟩,(show 44<69 by decide),fun a h τ δ=>ex_move rfl (h _ m0')⟩
  | 12,ho,_ =>
   obtain rfl:=so' ho;exact⟨45,⟨rfl,(by decide +kernel),nofun⟩,(show 45<69 by decide),fun a h τ δ=>ex_move rfl (h _ m0')⟩
  | 13,ho,_ =>
   obtain rfl:=so' ho;exact⟨46,⟨rfl,(by decide +kernel),nofun⟩,(show 46<69 by decide),fun a h τ δ=>ex_nilc rfl (h _ m0')⟩
  | 14,ho,_ =>
   obtain rfl:=so' ho;exact⟨47,⟨rfl,(by decide +kernel),nofun⟩,(show 47<69 by decide),fun a h τ δ=>ex_field (v:=(ptrAt s 1)) rfl (h _ m0') (fld41 (by omega))⟩
  | 15,ho,_ =>
   obtain rfl:=so' ho;exact⟨48,⟨rfl,(by decide +kernel),nofun⟩,(show 48<69 by decide),fun a h τ δ=>ex_load (v:=vn2) rfl (h _ m0') (ld39 (hs.cell 1))⟩
  | 16,ho,_ =>
   obtain rfl:=so' ho;exact⟨49,⟨rfl,(by decide +kernel),nofun⟩,(show 49<69 by decide),fun a h τ δ=>ex_move rfl (h _ m0')⟩
  | 17,ho,_ =>
   obtain rfl:=so' ho;exact⟨50,⟨rfl,(by decide +kernel),nofun⟩,(show 50<69 by decide),fun a h τ δ=>ex_nilc rfl (h _ m0')⟩
  | 18,ho,_ =>
   obtain rfl:=so' ho;exact⟨51,⟨rfl,(by decide +kernel),nofun⟩,(show 51<69 by decide),fun a h τ δ=>ex_field (v:=(ptrAt r 2)) rfl (h _ m0') (fld44 (by omega))⟩
  | 19,ho,_ =>
   obtain rfl:=so' ho;exact⟨52,⟨rfl,(by decide +kernel),nofun⟩,(show 52<69 by decide),fun a h τ δ=>ex_load (v:=vn1) rfl (h _ m0') (ld39 (hr.cell 2))⟩
  | 20,_,hs'=>cases hs'
  | 21,ho,_ =>
   obtain rfl:=so' ho;exact⟨54,⟨rfl,(by decide +kernel),nofun⟩,(show 54<69 by decide),fun a h τ δ=>ex_pick rfl (h _ m0') (h _ m1')⟩
  | 22,ho,_ =>
   obtain rfl:=so' ho;exact⟨55,⟨rfl,(by decide +kernel),nofun⟩,(show 55<69 by decide),fun a h τ δ=>ex_move rfl (h _ m0')⟩
  | 23,ho,_ =>
   obtain rfl:=so' ho;exact⟨56,⟨rfl,(by decide +kernel),nofun⟩,(show 56<69 by decide),fun a h τ δ=>ex_move rfl (h _ m0')⟩
  | 24,ho,_ =>
   obtain rfl:=so' ho;exact⟨57,⟨rfl,(by decide +kernel),nofun⟩,(show 57<69 by decide),fun a h τ δ=>ex_nilc rfl (h _ m0')⟩
  | 25,ho,_ =>
   obtain rfl:=so' ho;exact⟨58,⟨rfl,(by decide +kernel),nofun⟩,(show 58<69 by decide),fun a h τ δ=>ex_field (v:=(ptrAt s 0)) rfl (h _ m0') (fld41 (by omega))⟩
  | 26,ho,_ =>
   obtain rfl:=so' ho;exact⟨59,⟨rfl,(by decide +kernel),nofun⟩,(show 59<69 by decide),fun a h τ δ=>ex_load (v:=(.int .i64 sum)) rfl (h _ m0') (ld3 (hs.cell 0))⟩
  | 27,ho,_ =>
   obtain rfl:=so' ho;exact⟨60,⟨rfl,(by decide +kernel),nofun⟩,(show 60<69 by decide),fun a h τ δ=>ex_move rfl (h _ m0')⟩
  | 28,ho,_ =>
   obtain rfl:=so' ho;exact⟨61,⟨rfl,(by decide +kernel),nofun⟩,(show 61<69 by decide),fun a h τ δ=>ex_nilc rfl (h _ m0')⟩
  | 29,ho,_ =>
   obtain rfl:=so' ho;exact⟨62,⟨rfl,(by decide +kernel),nofun⟩,(show 62<69 by decide),fun a h τ δ=>ex_field (v:=(ptrAt r 1)) rfl (h _ m0') (fld44 (by omega))⟩
  | 30,ho,_ =>
   obtain rfl:=so' ho;exact⟨63,⟨rfl,(by decide +kernel),nofun⟩,(show 63<69 by decide),fun a h τ δ=>ex_load (v:=(.int .i64 sum)) rfl (h _ m0') (ld3 (hr.cell 1))⟩
  | 31,ho,_ =>
   obtain rfl:=so' ho;exact⟨64,⟨rfl,(by decide +kernel),nofun⟩,(show 64<69 by decide),fun a h τ δ=>ex_eq3 rfl (h _ m0') (h _ m1')⟩
  | 32,ho,_ =>
   obtain rfl:=so' ho;exact⟨65,⟨rfl,(by decide +kernel),nofun⟩,(show 65<69 by decide),fun a h τ δ=>ex_pick rfl (h _ m0') (h _ m1')⟩
  | 33,ho,_ =>
   obtain rfl:=so' ho;exact⟨66,⟨rfl,(by decide +kernel),nofun⟩,(show 66<69 by decide),fun a h τ δ=>ex_move rfl (h _ m0')⟩
  | 34,_,hs'=>cases hs'
  | 35,ho,_ =>
   obtain rfl:=so' ho;exact⟨68,⟨rfl,(by decide +kernel),nofun⟩,(show 68<69 by decide),fun a h τ δ=>ex_pick rfl (h _ m0') (h _ m1')⟩
  | 36,ho,_ =>
   obtain rfl:=so' ho;exact⟨2,⟨rfl,(by decide +kernel),nofun⟩,(show 2<69 by decide),fun a h τ δ=>ex_assign rfl (h _ m0')⟩
  | n+37,ho,_ =>
   have:=lt_of_op ho;exact absurd this (by show ¬ n+37<37;omega)
 ·match i,ho with
  | 0,ho =>
   obtain rfl:=so' ho;cases hg
  | 1,ho =>
   obtain rfl:=so' ho;cases hg
  | 2,ho =>
   obtain rfl:=so' ho;cases hg;exact⟨_,34,rfl,rfl,(show(34:Nat)<69 by decide),rfl⟩
  | 3,ho =>
   obtain rfl:=so' ho;cases hg;exact⟨_,34,rfl,rfl,(show(34:Nat)<69 by decide),rfl⟩
  | 4,ho =>
   obtain rfl:=so' ho;cases hg;exact⟨_,34,rfl,rfl,(show(34:Nat)<69 by decide),rfl⟩
  | 5,ho =>
   obtain rfl:=so' ho;cases hg
  | 6,ho =>
   obtain rfl:=so' ho;cases hg
  | 7,ho =>
   obtain rfl:=so' ho;cases hg;exact⟨_,39,rfl,rfl,(show(39:Nat)<69 by decide),rfl⟩
  | 8,ho =>
   obtain rfl:=so' ho;cases hg;exact⟨_,39,rfl,rfl,(show(39:Nat)<69 by decide),rfl⟩
  | 9,ho =>
   obtain rfl:=so' ho;cases hg;exact⟨_,39,rfl,rfl,(show(39:Nat)<69 by decide),rfl⟩
  | 10,ho =>
   obtain rfl:=so' ho;cases hg
  | 11,ho =>
   obtain rfl:=so' ho;cases hg
  | 12,ho =>
   obtain rfl:=so' ho;cases hg;exact⟨_,44,rfl,rfl,(show(44:Nat)<69 by decide),rfl⟩
  | 13,ho =>
   obtain rfl:=so' ho;cases hg;exact⟨_,44,rfl,rfl,(show(44:Nat)<69 by decide),rfl⟩
  | 14,ho =>
   obtain rfl:=so' ho;cases hg;exact⟨_,44,rfl,rfl,(show(44:Nat)<69 by decide),rfl⟩
  | 15,ho =>
   obtain rfl:=so' ho;cases hg;exact⟨_,44,rfl,rfl,(show(44:Nat)<69 by decide),rfl⟩
  | 16,ho =>
   obtain rfl:=so' ho;cases hg;exact⟨_,44,rfl,rfl,(show(44:Nat)<69 by decide),rfl⟩
  | 17,ho =>
   obtain rfl:=so' ho;cases hg;exact⟨_,44,rfl,rfl,(show(44:Nat)<69 by decide),rfl⟩
  | 18,ho =>
   obtain rfl:=so' ho;cases hg;exact⟨_,44,rfl,rfl,(show(44:Nat)<69 by decide),rfl⟩
  | 19,ho =>
   obtain rfl:=so' ho;cases hg;exact⟨_,44,rfl,rfl,(show(44:Nat)<69 by decide),rfl⟩
  | 20,ho =>
   obtain rfl:=so' ho;cases hg;exact⟨_,44,rfl,rfl,(show(44:Nat)<69 by decide),rfl⟩
  | 21,ho =>
   obtain rfl:=so' ho;cases hg
  | 22,ho =>
   obtain rfl:=so' ho;cases hg
  | 23,ho =>
   obtain rfl:=so' ho;cases hg;exact⟨_,55,rfl,rfl,(show(55:Nat)<69 by decide),rfl⟩
  | 24,ho =>
   obtain rfl:=so' ho;cases hg;exact⟨_,55,rfl,rfl,(show(55:Nat)<69 by decide),rfl⟩
  | 25,ho =>
   obtain rfl:=so' ho;cases hg;exact⟨_,55,rfl,rfl,(show(55:Nat)<69 by decide),rfl⟩
  | 26,ho =>
   obtain rfl:=so' ho;cases hg;exact⟨_,55,rfl,rfl,(show(55:Nat)<69 by decide),rfl⟩
  | 27,ho =>
   obtain rfl:=so' ho;cases hg;exact⟨_,55,rfl,rfl,(show(55:Nat)<69 by decide),rfl⟩
  | 28,ho =>
   obtain rfl:=so' ho;cases hg;exact⟨_,55,rfl,rfl,(show(55:Nat)<69 by decide),rfl⟩
  | 29,ho =>
   obtain rfl:=so' ho;cases hg;exact⟨_,55,rfl,rfl,(show(55:Nat)<69 by decide),rfl⟩
  | 30,ho =>
   obtain rfl:=so' ho;cases hg;exact⟨_,55,rfl,rfl,(show(55:Nat)<69 by decide),rfl⟩
  | 31,ho =>
   obtain rfl:=so' ho;cases hg;exact⟨_,55,rfl,rfl,(show(55:Nat)<69 by decide),rfl⟩
  | 32,ho =>
   obtain rfl:=so' ho;cases hg
  | 33,ho =>
   obtain rfl:=so' ho;cases hg
  | 34,ho =>
   obtain rfl:=so' ho;cases hg;exact⟨_,66,rfl,rfl,(show(66:Nat)<69 by decide),rfl⟩
  | 35,ho =>
   obtain rfl:=so' ho;cases hg
  | 36,ho =>
   obtain rfl:=so' ho;cases hg
  | n+37,ho =>
   have:=lt_of_op ho;exact absurd this (by show ¬ n+37<37;omega)
end Go.Proofs.Ytkoehgfebipkkaa.Lift
namespace Go.Proofs.Ytkoehgfebipkkaa.Lift
open Go Go.Conc Go.RowKit Pl
theorem end_bool {P:Program}{fn:Func}{f d:Nat}{todo:List Item}{t:Array Value}{b:Bool}{ρ:Ren}{G:Goroutine}{W:World}(hf:P.funcs[f]?=some fn)(hi:P.inits.idxOf? f=none)(hres:fn.results=#[.tmp d])(ht:t.getD d undef=.bool b)(h:GRel ρ (gs { (base f).at ⟨t,[]⟩ todo with mode:=.returning} []) G):stepG P true G W=.ended (.done (.bool b)) W #[]:=by
 obtain⟨hfr,hcs,hst,hdy⟩:=h;obtain⟨⟨fn',tm,todo',ds,mo,kd,ro⟩,callers,status,dying,offers⟩:=G;obtain⟨h1,h2,h3,h4,h5,h6,h7,h8⟩:=hfr;dsimp only at *;cases hcs;obtain⟨_,rfl⟩:=hdy;have hds:ds=[]:=by cases h5;rfl
 subst hds;have hmo:mo=.returning:=by
  have:MRel ρ .returning mo:=h6;cases this;rfl
 subst hmo;have hfn:fn'=f:=h1.symm;subst hfn;have hkd:kd=.normal:=h2.symm;subst hkd;have htm:tm.getD d undef=.bool b:=by
  have h4':ARel ρ t tm:=h4;by_cases hd:d<t.size
  ·have e1:t[d]?=some t[d]:=as' hd
   have e2:tm[d]?=some (tm[d]'(by have:=h4'.1;omega)):=as' _;have hv:=h4'.2 d _ _ e1 e2;have e3:t[d]=.bool b:=by rw[gd',e1] at ht;exact ht
   rw[e3] at hv;rw[gd',e2];generalize tm[d]'(by have:=h4'.1;omega)=v at hv ⊢;cases hv;rfl
  ·rw[gd',ae' (by omega)] at ht
   cases ht
 have hr:∀ es,(results fn tm).runT P W es=(.ok (.bool b) W,es):=fun es=>by
  simp only[gd'] at htm;simp[results,hres,htm,go_sem,Sem.runT_eq]
 unfold stepG;dsimp only;unfold unwind;dsimp only;rw[hf];dsimp only;rw[hr];dsimp only;unfold doReturn;simp[hi,seen,GStep.after]
theorem sound_true {Post:Value→World→Prop}{S:SC}{fn:Func}{f d:Nat}{todo:List Item}{t:Array Value}(hid:Idle S)(hf:Try.prog.funcs[f]?=some fn)(hi:Try.prog.inits.idxOf? f=none)(hres:fn.results=#[.tmp d])(ht:t.getD d undef=.bool true)(hpost:∀ W,Go.RowKit.Below S.n0 S.W0 W→Post (.bool true) W) :
  Sound Try.prog link.tWg Post 0 S (gs { (base f).at ⟨t,[]⟩ todo with mode:=.returning} []) :=
 sound_end fits hid.roles (fun ρ G W h=>end_bool hf hi hres ht h) hpost
def thsOf (n:Nat)(its:Nat→List (Int × Int))(gi:Nat→Option Addr)(ci:Nat→Nat):List Th:=(List.range n).map fun i=>⟨gi i,ci i,its i,0,false,false,0⟩
theorem thsOf_len {n:Nat}{its:Nat→List (Int × Int)}{gi:Nat→Option Addr}{ci:Nat→Nat}:(thsOf n its gi ci).length=n:=by simp[thsOf]
theorem thsOf_rd {w:World}{n:Nat}{its:Nat→List (Int × Int)}{gi:Nat→Option Addr}{ci:Nat→Nat}{vt:Value}(h:Rd (fun x:Value=>x) w vt ((List.range n).map fun i=>.slice (gi i) (its i).length (ci i))):Rd Th.items w vt (thsOf n its gi ci):=by
 obtain⟨g,c,rfl,h1⟩:=h;refine⟨g,c,by simp[thsOf],fun hne=>?_⟩;obtain⟨b,o,h2,h3⟩:=h1 (by intro e;apply hne;simpa[thsOf] using e);refine⟨b,o,h2,fun j t hj=>h3 j _ ?_⟩;unfold thsOf at hj;rw[List.getElem?_map] at hj ⊢;cases hr:(List.range n)[j]? with
 | none=>rw[hr] at hj;cases hj
 | some i =>
  rw[hr] at hj;cases hj;rfl
theorem thsOf_new {n:Nat}{its:Nat→List (Int × Int)}{gi:Nat→Option Addr}{ci:Nat→Nat}:∀ t∈thsOf n its gi ci,t.newT:=fun t ht=>by
 obtain⟨i,_,rfl⟩:=List.mem_map.1 ht;exact⟨rfl,rfl,rfl,rfl⟩
open Go.ConcN (sumTo) in
theorem doc_any (w:World)(N:Nat→Prop)(r n:Nat)(its:Nat→List (Int × Int))(gi:Nat→Option Addr)(ci:Nat→Nat)(vt:Value)(hM:Mach N r (thsOf n its gi ci) 0 [] [] vt (.slice none 0 0) (.slice none 0 0) w)(hN:LowN N w)(hits:∀ i,i<n→ItsAt N w (gi i) (its i))(vp:Value)(pb:Nat)(picks:List Nat)(hpb:N pb)(hpv:Bytes pb w vp picks)
  (most:Int) (wt:Bool) (bump:Int) (hn:n<1048576) (hpl:picks.length<1099511627776) (hlen:∀ i,i<n→(its i).length<4294967295) (hsum:sumTo n (fun j=>(its j).length+1)<4294967295) :
  Calls Try.prog 8 #[ptr r,vp,.int .i64 most,.bool wt,.int .i64 (-77),.int .i64 bump] w fun e w'=>∃ ga na ca ge ne ce,e=.returned (.tuple #[.agg #[.slice ga na ca,.slice ge ne ce,.int .i64 ((playR n its picks most wt bump).used:Nat)],.int .i64 (playR n its picks most wt bump).code]) ∧
   RepU w' (.slice ga na ca) (playR n its picks most wt bump).acts∧RepE w' (.slice ge ne ce) (playR n its picks most wt bump).ends∧(∃ x vn y,Blk w' r [x,.int .i64 (playR n its picks most wt bump).sum,vn,y] 44∧RepI w' vn (playR n its picks most wt bump).notes)∧KN N w w':=by
 by_cases hbad:badM n most picks.length≠0
 ·have hplay:playR n its picks most wt bump=⟨0,[],[],[],0,badM n most picks.length⟩:=if_pos hbad
  rw[hplay];obtain⟨gp,cp,rfl,_⟩:=id hpv;have h:=docrun_bad w N r (thsOf n its gi ci) 0 [] [] vt _ _ hM gp picks.length cp most wt (-77) bump (by rw[thsOf_len];exact hn) hpl (by rw[thsOf_len];exact hbad);rw[thsOf_len] at h;refine h.mono fun e w' ⟨h1,h2⟩=>⟨none,0,0,none,0,0,h1,Rep.nil,Rep.nil,⟨_,_,_,h2.blk hM.b (by simp),Rep.nil⟩,KN.of h2 hN (by simp)⟩
 ·have hb0:badM n most picks.length=0:=Classical.not_not.1 hbad
  have hplay:playR n its picks most wt bump=⟨(runD n its wt (-77) bump most picks).a.sum,(runD n its wt (-77) bump most picks).a.notes,(runD n its wt (-77) bump most picks).acts,endsM (decide (most≤((runD n its wt (-77) bump most picks).acts.length:Int))) (donesE n (runD n its wt (-77) bump most picks).st),picks.length-(runD n its wt (-77) bump most picks).left.length,codeM (decide (most≤((runD n its wt (-77) bump most picks).acts.length:Int))) (donesE n (runD n its wt (-77) bump most picks).st)⟩:=if_neg hbad;have hlim:0<n∧n≤8∧0≤most∧picks.length≤65536:=by
   unfold badM at hb0;split at hb0
   ·cases hb0
   ·split at hb0
    ·cases hb0
    ·omega
  obtain⟨hn0,hn8,hm0,hp0⟩:=hlim;obtain⟨Q,hQ⟩:∃ Q:ShC,Q={Qpl n its with gi:=gi,M:=sumTo n (fun j=>(its j).length+1)}:=⟨_,rfl⟩;have hQn:Q.n=n:=by rw[hQ];rfl
  have hQi:Q.its=its:=by rw[hQ];rfl
  have hQg:Q.gi=gi:=by rw[hQ]
  have hrun:Q.out C0w wt (-77) bump most picks=runD n its wt (-77) bump most picks:=by
   have:=out_eq Q C0w wt (-77) bump most picks;rw[hQn,hQi] at this;exact this
  obtain⟨gt,ct,e,_,_⟩:=hM.t.ex (by rw[thsOf_len];exact hn0);rw[thsOf_len] at e;subst e;have hM0:MOf Q ⟨fun _=>.fresh,⟨0,[],0⟩,[],picks⟩ (thsOf n its gi ci):=by
   refine⟨by rw[thsOf_len,hQn],fun i hi=>⟨⟨gi i,ci i,its i,0,false,false,0⟩,?_,⟨rfl,rfl,rfl⟩,by rw[hQi],by rw[hQg],Nat.zero_le _⟩⟩;unfold thsOf;rw[List.getElem?_map,List.getElem?_range (by omega)];rfl
  have hact:=runD_acts n its wt (-77) bump most picks;have h:=docrun_calls Q C0w w N r gt ct picks (thsOf n its gi ci) _ _ hM0 (by rw[hQn];exact hM) hN (by rw[hQn,hQi,hQg];exact hits) vp pb hpb hpv (by omega) (by omega) most hm0 wt (-77) bump hp0 (fun i hi=>by rw[hQi];have:=hlen i (by omega);omega) (by
   show 0+0+sumTo Q.n (fun i=>(Q.its i).length+1)≤Q.M;rw[hQ];show 0+0+sumTo n (fun i=>(its i).length+1)≤sumTo n (fun j=>(its j).length+1);omega) (by rw[hQ];show sumTo n (fun j=>(its j).length+1)+4294967296<1099511627776;omega) (by rw[hrun];omega)
  rw[hrun] at h;rw[hplay];refine h.mono fun e w' ⟨v1,v2,ths',vn,va,h1,h2,h3,h4,h5⟩=>?_;obtain⟨ga,ca,rfl,_⟩:=h2.form;obtain⟨ge,ce,rfl,_⟩:=h3.form;rw[hQn] at h1 h3;exact⟨ga,_,ca,ge,_,ce,h1,h2,h3,⟨_,_,_,h4.b,h4.n⟩,h5⟩
end Go.Proofs.Ytkoehgfebipkkaa.Lift
namespace Go.Proofs.Ytkoehgfebipkkaa.Lift
open Go Go.Conc Go.RowKit Pl
open Go.ConcN (sumTo)
structure Later (S S1:SC):Prop where
 idle:Idle S1
 n0:S1.n0=S.n0
 W0:S1.W0=S.W0
 kp:Kp [] S.w S1.w
theorem Later.refl {S:SC}(h:Idle S):Later S S:=⟨h,rfl,rfl,⟨Nat.le_refl _,fun _ _ _=>rfl⟩⟩
theorem Later.kp' {S S1:SC}{w:World}(h:Later S S1)(k:Kp [] S1.w w):Later S { S1 with w:=w}:=⟨⟨h.idle.roles,h.idle.grps,h.idle.pos⟩,h.n0,h.W0,h.kp.trans k⟩
theorem Later.trans {S S1 S2:SC}(h:Later S S1)(k:Later S1 S2):Later S S2:=⟨k.idle,k.n0.trans h.n0,k.W0.trans h.W0,h.kp.trans k.kp⟩
theorem q4_runs {Post:Value→World→Prop}{cs:List Frame}{S0:SC}{bump most:Int}{vt vp:Value}{wt:Bool}{bx r rb s rc:Nat}{ga1 ge1 ga2 ge2:Option Addr}{na1 ca1 ne1 ce1 na2 ca2 ne2 ce2:Nat}{u1 e1 u2 sum:Int}{vn1 vn2 vx vy:Value}{acts ends:List Nat}{notes:List Int}(hid:Idle S0)
  (hs:Cel S0.w s [.int .i64 sum,vn2] 41) (hr:Cel S0.w r [vx,.int .i64 sum,vn1,vy] 44) (hc:Cel S0.w rc [.slice ga2 na2 ca2,.slice ge2 ne2 ce2,.int .i64 u2] 30) (hb:Cel S0.w rb [.slice ga1 na1 ca1,.slice ge1 ne1 ce1,.int .i64 u1] 30) (hu:u1=u2)
  (ha1:Rd u8 S0.w (.slice ga1 na1 ca1) acts) (ha2:Rd u8 S0.w (.slice ga2 na2 ca2) acts) (he1:Rd u8 S0.w (.slice ge1 ne1 ce1) ends) (he2:Rd u8 S0.w (.slice ge2 ne2 ce2) ends) (hn1:Rd (fun x:Int=>Value.int .i64 x) S0.w vn1 notes) (hn2:Rd (fun x:Int=>Value.int .i64 x) S0.w vn2 notes) (la:acts.length<1099511627776) (le:ends.length<1099511627776) (ln:notes.length<1099511627776)
  (h:∀ S1 t todo,Later S0 S1→t.getD 2 undef=.bool true→Sound Try.prog link.tWg Post 0 S1 (gs { (base 3).at ⟨t,[]⟩ todo with mode:=.returning} cs)) :
  Sound Try.prog link.tWg Post 0 S0 (gs ((base 3).at ⟨plTm bump vt vp most wt bx r rb ga1 na1 ca1 ge1 ne1 ce1 u1 e1 s rc ga2 na2 ca2 ge2 ne2 ce2 u2 e1,[]⟩ [.code (sL (sR (sR (sR (sR c3))))),.code (sR (sR (sR (sR (sR c3)))))]) cs):=by
 have hk:(base 3).kind≠.early:=nofun;show Sound Try.prog link.tWg Post 0 S0 (gs ((base 3).at ⟨plTm bump vt vp most wt bx r rb ga1 na1 ca1 ge1 ne1 ce1 u1 e1 s rc ga2 na2 ca2 ge2 ne2 ce2 u2 e1,[]⟩ (.code (.region 4 q4ops true)::[.code (sR (sR (sR (sR (sR c3)))))])) cs);refine ord_begin fits mixed fun t=>?_;refine ord_run (sp:=q4sp) fits hk (by decide +kernel) (by decide +kernel) (by decide +kernel) (by decide +kernel) (fun fin _ S=>fin=q4fin bump vt vp most wt bx r rb ga1 na1 ca1 ge1 ne1 ce1 u1 e1 s rc ga2 na2 ca2 ge2 ne2 ce2 u2 vn1 vn2 sum∧Later S0 S) (fun fin li S hJ=>?_) (fun fin li S i hJ hr hs=>hJ) (fun fin li tm S i o rest hJ hI hr' hs' ho hw hev hgo=>?_) (fun fin li S hJ hall=>?_) _ t _ _ _ S0 ⟨rfl,Later.refl hid⟩ (OInv.init [(33,(.bool true)),(34,(.bool true)),(35,(.int .i64 e1)),(36,(.int .i64 e1)),(37,(.bool true)),(38,(.bool true)),(39,(.bool true)),(40,(.agg #[.slice ga2 na2 ca2,.slice ge2 ne2 ce2,.int .i64 u2])),(41,(.agg #[.slice ga1 na1 ca1,.slice ge1 ne1 ce1,.int .i64 u1])),(42,(.bool true)),(43,(.bool true)),(44,(.bool true)),(45,(ptr s)),(46,(ptr s)),(47,(ptrAt s 1)),(48,vn2),(49,(ptr r)),(50,(ptr r)),(51,(ptrAt r 2)),(52,vn1),(53,(.bool true)),(54,(.bool true)),(55,(.bool true)),(56,(ptr s)),(57,(ptr s)),(58,(ptrAt s 0)),(59,(.int .i64 sum)),(60,(ptr r)),(61,(ptr r)),(62,(ptrAt r 1)),(63,(.int .i64 sum)),(64,(.bool true)),(65,(.bool true)),(66,(.bool true)),(67,(.bool true)),(68,(.bool true)),(2,(.bool true))] (by simp[q4fin,plTm]) (show([33,34,35,36,37,38,39,40,41,42,43,44,45,46,47,48,49,50,51,52,53,54,55,56,57,58,59,60,61,62,63,64,65,66,67,68,2]:List Tmp).all (fun d=>q4ops.any fun o=>o.dst==some d)=true by decide +kernel)) leftN_init
 ·obtain⟨rfl,L⟩:=hJ
  exact q4_good (L.kp.cel hs (by simp)) (L.kp.cel hr (by simp)) (L.kp.cel hc (by simp)) (L.kp.cel hb (by simp))
 ·obtain⟨rfl,L⟩:=hJ
  have hcase:i=9∨i=20∨i=34:=by
   simp only[q4sp,Bool.or_eq_true,beq_iff_eq] at hs';omega
  have hK:=clS (Post:=Post) S;rcases hcase with rfl | rfl | rfl
  ·have hoo:=ho
   obtain rfl:=oj' (show some _=some o from hoo);have q1:Act.eval ⟨tm,[]⟩ (.tmp 40)=(.agg #[.slice ga2 na2 ca2,.slice ge2 ne2 ce2,.int .i64 u2]):=hev _ (show Operand.tmp 40∈(#[Operand.func 10,Operand.tmp 40,Operand.tmp 41]:Array Operand) by simp);have q2:Act.eval ⟨tm,[]⟩ (.tmp 41)=(.agg #[.slice ga1 na1 ca1,.slice ge1 ne1 ce1,.int .i64 u1]):=hev _ (show Operand.tmp 41∈(#[Operand.func 10,Operand.tmp 40,Operand.tmp 41]:Array Operand) by simp);refine sound_enter fits hk ho hw (by decide +kernel) nofun (fun w=>x_call (args:=#[.agg #[.slice ga2 na2 ca2,.slice ge2 ne2 ce2,.int .i64 u2],.agg #[.slice ga1 na1 ca1,.slice ge1 ne1 ce1,.int .i64 u1]]) rfl rfl Try.func10 rfl rfl (by show [Act.eval ⟨tm,[]⟩ (.tmp 40),Act.eval ⟨tm,[]⟩ (.tmp 41)]++[]=_;rw[q1,q2];rfl)) ?_;refine ks (S:=S) (hK.call fits shut (f:=10) rfl (R:=fun v w'=>v=.bool true∧Kp [] S.w w') (fun v w τ d ⟨q1,q2⟩=>⟨q1,⟨q2.size,q2.block⟩⟩) (fun τ d=>?_) ?_) rfl
   ·have kk:Kp [] S0.w (Lift.re S.w τ d):=⟨L.kp.size,L.kp.block⟩
    refine(same_calls (Lift.re S.w τ d) _ _ acts ends acts ends u2 u1 ⟨_,_,rfl,ha2.kp kk (by simp),he2.kp kk (by simp)⟩ ⟨_,_,rfl,ha1.kp kk (by simp),he1.kp kk (by simp)⟩ la la le le).mono fun e w' ⟨q1,q2⟩=>⟨_,q1,?_,⟨q2.size,q2.block⟩⟩;rw[decide_eq_true ⟨rfl,rfl,hu.symm⟩]
   ·rintro v w' ⟨rfl,k⟩
    refine fin_at (Kn:=fun _=>KS Try.prog link.tWg Post 0 S) (n:=0) ho rfl ?_;exact hgo _ _ { S with w:=w'} (hI.put (by decide +kernel) ho rfl (show(42:Nat)<69 by decide) hr') ⟨rfl,L.kp' k⟩
  ·have hoo:=ho
   obtain rfl:=oj' (show some _=some o from hoo);have q1:Act.eval ⟨tm,[]⟩ (.tmp 48)=vn2:=hev _ (show Operand.tmp 48∈(#[Operand.func 11,Operand.tmp 48,Operand.tmp 52]:Array Operand) by simp);have q2:Act.eval ⟨tm,[]⟩ (.tmp 52)=vn1:=hev _ (show Operand.tmp 52∈(#[Operand.func 11,Operand.tmp 48,Operand.tmp 52]:Array Operand) by simp);refine sound_enter fits hk ho hw (by decide +kernel) nofun (fun w=>x_call (args:=#[vn2,vn1]) rfl rfl Try.func11 rfl rfl (by show [Act.eval ⟨tm,[]⟩ (.tmp 48),Act.eval ⟨tm,[]⟩ (.tmp 52)]++[]=_;rw[q1,q2];rfl)) ?_;refine ks (S:=S) (hK.call fits shut (f:=11) rfl (R:=fun v w'=>v=.bool true∧Kp [] S.w w') (fun v w τ d ⟨q1,q2⟩=>⟨q1,⟨q2.size,q2.block⟩⟩) (fun τ d=>?_) ?_) rfl
   ·have kk:Kp [] S0.w (Lift.re S.w τ d):=⟨L.kp.size,L.kp.block⟩
    refine(ints_calls (Lift.re S.w τ d) vn2 vn1 notes notes (hn2.kp kk (by simp)) (hn1.kp kk (by simp)) ln ln).mono fun e w' ⟨q1,n,q2⟩=>⟨_,q1,by rw[decide_eq_true rfl],?_⟩;rw[q2];exact⟨Nat.le_refl _,fun _ _ _=>rfl⟩
   ·rintro v w' ⟨rfl,k⟩
    refine fin_at (Kn:=fun _=>KS Try.prog link.tWg Post 0 S) (n:=0) ho rfl ?_;exact hgo _ _ { S with w:=w'} (hI.put (by decide +kernel) ho rfl (show(53:Nat)<69 by decide) hr') ⟨rfl,L.kp' k⟩
  ·have hoo:=ho
   obtain rfl:=oj' (show some _=some o from hoo);refine sound_enter fits hk ho hw (by decide +kernel) nofun (fun w=>x_call (args:=#[]) rfl rfl Try.func12 rfl rfl rfl) ?_;refine lives_runs L.idle rfl fun S' j1 j2 j3 j4=>?_;refine ks (S:=S') (fin_at (Kn:=fun _=>KS Try.prog link.tWg Post 0 S') (n:=0) ho rfl ?_) rfl;exact hgo _ _ S' (hI.put (by decide +kernel) ho rfl (show(67:Nat)<69 by decide) hr') ⟨rfl,L.trans ⟨j1,j2,j3,j4⟩⟩
 ·obtain⟨rfl,L⟩:=hJ
  have hD:=(clS (Post:=Post) S).det;refine ks (S:=S) (hD.regionEnd (n:=0) ?_) rfl;refine hD.ret (n:=0) ?_;exact h S _ _ L rfl
theorem plays_law {Post:Value→World→Prop}{S:SC}{n:Nat}{its:Nat→List (Int × Int)}{gi:Nat→Option Addr}{ci:Nat→Nat}{vt vp:Value}{picks:List Nat}{most bump:Int}{wt:Bool}(hid:Idle S)(A:PlA S.w n its gi ci vt vp picks)(hnotes:(playR n its picks most wt bump).notes.length<1099511627776)(hacts:(playR n its picks most wt bump).acts.length<1099511627776)(hends:(playR n its picks most wt bump).ends.length<1099511627776)
  (hpost:∀ W,Go.RowKit.Below S.n0 S.W0 W→Post (.bool true) W):Sound Try.prog link.tWg Post 0 S (gs (Frame.enter Try.prog 3 #[.agg #[.int .i64 bump,vt,vp,.int .i64 most,.bool wt]] .normal) []):=by
 obtain⟨gt,ct,e1⟩:=A.thr.slice;obtain⟨pb,hpb2,hpk⟩:=A.pk;obtain⟨gp,cp,e2,_⟩:=id hpk;have hK:=clS (Post:=Post) S;refine ks (S:=S) (plays_enter hK.det e1 e2 fun bx w1 k1 bb=>?_) rfl;have A1:=A.kp k1 (by simp);refine hK.call fits shut (f:=7) rfl (R:=fun v w'=>∃ r vt',v=ptr r∧Mach (fun x=>x<w1.heap.size) r (thsOf n its gi ci) 0 [] [] vt' (.slice none 0 0) (.slice none 0 0) w'∧Kp [] w1 w') (fun v w τ d ⟨r,vt',h1,h2,h3⟩=>⟨r,vt',h1,⟨h2.b,h2.t,h2.n,h2.a,h2.hr,h2.ht,h2.hn,h2.ha⟩,⟨h3.size,h3.block⟩⟩) (fun τ d=>?_) ?_
 ·exact(new_calls (Lift.re w1 τ d) vt _ (thsOf_rd A1.thr) thsOf_new (by rw[thsOf_len];have:=A.n40;omega)).mono fun e w' ⟨r,v,h1,h2,h3⟩=>⟨_,h1,r,v,rfl,h2,⟨(Keeps.kp h3).size,(Keeps.kp h3).block⟩⟩
 ·rintro _ w2 ⟨r,vt',rfl,hM,k2⟩
  have k12:=k1.trans k2;have A2:=A1.kp k2 (by simp);refine plays_run hK.det (k2.cel (Blk.cel bb) (by simp)) ?_;refine hK.call fits shut (f:=8) rfl (R:=fun v w'=>∃ ga na ca ge ne ce,v=.tuple #[.agg #[.slice ga na ca,.slice ge ne ce,.int .i64 ((playR n its picks most wt bump).used:Nat)],.int .i64 (playR n its picks most wt bump).code]∧RepU w' (.slice ga na ca) (playR n its picks most wt bump).acts∧RepE w' (.slice ge ne ce) (playR n its picks most wt bump).ends∧(∃ x vn y,Blk w' r [x,.int .i64 (playR n its picks most wt bump).sum,vn,y] 44∧RepI w' vn (playR n its picks most wt bump).notes)∧KN (fun x=>x<w1.heap.size) w2 w')
   (fun v w τ d ⟨ga,na,ca,ge,ne,ce,h1,h2,h3,h4,h5⟩=>⟨ga,na,ca,ge,ne,ce,h1,h2,h3,h4,⟨h5.size,h5.block⟩⟩) (fun τ d=>?_) ?_
  ·obtain⟨pb',_,hpk2⟩:=A2.pk
   refine(doc_any (Lift.re w2 τ d) (fun x=>x<w1.heap.size) r n its gi ci vt' ⟨hM.b,hM.t,hM.n,hM.a,hM.hr,hM.ht,hM.hn,hM.ha⟩ (fun x hx=>nl' hx k2.size) (fun i hi=>?_) vp pb picks (nl' hpb2 k1.size) (hpk.same (k12.block pb hpb2 (by simp))) most wt bump A.n40 A.pkl A.len A.sum).mono fun e w' ⟨ga,na,ca,ge,ne,ce,h1,h2,h3,h4,h5⟩=>⟨_,h1,ga,na,ca,ge,ne,ce,rfl,h2,h3,h4,⟨h5.size,h5.block⟩⟩;intro j d' x hj;obtain⟨ab,ao,q1,q2,q3,q4⟩:=A2.items i hi j d' x hj;exact⟨ab,ao,q1,nl' (A.low ab q2) k1.size,q3,q4⟩
  ·rintro _ w3 ⟨ga1,na1,ca1,ge1,ne1,ce1,rfl,d1,d2,⟨vx,vn1,vy,d3,d4⟩,k3⟩
   have k03:Kp [] S.w w3:=⟨by have:=k12.size;have:=k3.size;omega,fun b hb _=>(k3.block b (nl' hb k1.size)).trans (k12.block b hb (by simp))⟩;have hbx3:Cel w3 bx [.int .i64 bump,vt,vp,.int .i64 most,.bool wt] 25:=(k2.cel (Blk.cel bb) (by simp)).same (k3.block bx bb.lt);refine plays_play hK.det hbx3 fun rb w4 k4 brb=>?_;have k04:=k03.trans k4;have A4:=A.kp k04 (by simp);show Sound Try.prog link.tWg Post 0 { S with w:=w4} _;refine played_runs (S:={S with w:=w4}) (cl:=plPlay bump vt vp most wt bx r rb ga1 na1 ca1 ge1 ne1 ce1 ((playR n its picks most wt bump).used:Nat) (playR n its picks most wt bump).code) ⟨hid.roles,hid.grps,hid.pos⟩ rfl A4 fun S5 s ga2 na2 ca2 ge2 ne2 ce2 j1 j2 j3 j4 _ D=>?_;obtain⟨vn2,s1,s2⟩:=D.sh;have hK5:=clS (Post:=Post) S5;refine ks (S:=S5) (plays_last hK5.det fun rc w6 k6 brc=>?_) rfl;have k46:Kp [] w4 w6:=Kp.trans j4 k6;have up:∀ {α:Type} {e:TypeId} {f:α→List Value} {v:Value} {xs:List α},Rep e 1 f w3 v xs→Rep e 1 f w6 v xs:=fun h=>by
    have k36:=k4.trans k46;exact rep_same h k36.size fun b hb=>k36.block b (h.fp_lt b hb) (by simp)
   refine q4_runs (S0:={S5 with w:=w6}) (vx:=vx) (vy:=vy) (vn1:=vn1) (vn2:=vn2) (sum:=(playR n its picks most wt bump).sum) (acts:=(playR n its picks most wt bump).acts) (ends:=(playR n its picks most wt bump).ends) (notes:=(playR n its picks most wt bump).notes) ⟨j1.roles,j1.grps,j1.pos⟩ (Blk.cel (k6.blk s1 (by simp))) (Blk.cel ((k4.trans k46).blk d3 (by simp))) (Blk.cel brc) (Blk.cel (k46.blk brb (by simp))) rfl (rep_rd (up d1))
    ((rep_rd D.acts).kp k6 (by simp)) (rep_rd (up d2)) ((rep_rd D.ends).kp k6 (by simp)) (rep_rd (up d4)) ((rep_rd s2).kp k6 (by simp)) hacts hends hnotes fun S7 t todo L ht=>?_
   exact sound_true L.idle Try.func3 (by decide +kernel) rfl ht fun W hW=>hpost W (by
    have e1:S7.n0=S.n0:=L.n0.trans j2;have e2:S7.W0=S.W0:=L.W0.trans j3;rw[e1,e2] at hW;exact hW)
open Go.ChangeShapes
theorem own:ownKnob Try.prog.godebug=none:=by kernel_rfl
theorem holds_upto {p:Pinned}{s:OpenSpec}{c:OpenClaim}(f:FuncId)(fn:Func)
  (hn:c.program=p.name) (hs:c.sum=p.sum) (hsp:c.spec=s.name)
  (hstart:c.start=.entering) (hout:c.outside=[]) (hin:c.inits=[]) (hun:c.under=none) (hi4:c.initsInPlace=[]∧c.initsUnfollowed=false∧c.initsRecurse=false∧c.initsNamed=[]∧c.initsPassed=[]) (hnb:c.noBlocks=false) (hlv:c.leaving=true) (hfo:c.followed=none) (hnar:c.narrowed=s.cond.isSome) (hstill:c.still=false)
  (hfn:p.checked.prog.funcNamed c.func=some f) (hf:p.checked.prog.funcs[f]?=some fn)
  (closed:joinedFacts p.checked.prog f fn s.bare c=true)
  (hinst:fn.isInstance p.checked.prog c.origin c.targs) (hwrap:fn.isWrapper p.checked.prog c.wrapper c.mainSum)
  (h:∀ os:Os,os.Started→∀ (H:Type) (enc:TypeId × Value→H),(∀ a b,enc a=enc b→a=b)→∀ F:Stop.Interp,
   ReturnsInLeavingWide c.assume p.checked os f .any (c.pre enc p.checked.prog fn s) ((s.at F).post enc p.checked.prog fn c.apart c.fresh c.handsOn c.again)):c.holds p s:=by
 simp only[joinedFacts,Bool.and_eq_true,beq_iff_eq,Array.all_eq_true_iff_forall_mem,List.all_eq_true,decide_eq_true_eq] at closed;obtain⟨⟨⟨⟨⟨⟨⟨⟨⟨⟨⟨⟨⟨⟨⟨⟨⟨⟨⟨⟨⟨⟨⟨⟨⟨⟨⟨⟨⟨⟨⟨k1,k2⟩,k3⟩,k4⟩,k5⟩,k6⟩,k7⟩,k8⟩,k9⟩,k10⟩,k11⟩,k12⟩,k13⟩,k14⟩,k15⟩,k16⟩,k17⟩,k17b⟩,k18⟩,k19⟩,k20⟩,k21⟩,k22⟩,k23⟩,k23b⟩,k24⟩,k24b⟩,k24c⟩,k25⟩,k26⟩,k27⟩,k28⟩:=closed;have hq:∀ os:Os,Stop.quiet p.checked.prog os:=fun os k hk=>by rw[k9] at hk;cases hk
 refine⟨k1,hn,hs,hsp,k2,k3,by unfold OpenClaim.startFits;rw[hstart];exact k24,by unfold OpenClaim.startTold;rw[hstart];exact⟨hin,hun,hi4⟩,f,fn,hfn,hf,⟨k4,k19⟩,(fun hb=>by rw[hnb] at hb;cases hb),by unfold OpenClaim.namedList;rw[hfo];exact k5,hinst,hwrap,
  k6.trans k7.symm,⟨k8.trans k9.symm,by unfold Program.envWorded;rw[k9];rfl,k23b⟩,k10,k11,k12,k13,k14,⟨k15,k27,k28⟩,⟨k16,k20⟩,⟨k17,k21,k25,k26⟩,⟨k22,k24b,k24c,k17b⟩,(by rw[hout,hnar];cases hsh:c.shortTexts with | none=>simp | some _=>rw[hsh] at k23;cases k23),fun n hn'=>varReadable_some (k18 n hn'),
  ⟨_,by unfold OpenClaim.world;rw[hout,hstart];exact WideRow.started_initial,hq _⟩,[],by unfold OpenClaim.lists;rw[hfo],fun os st _ H enc inj=>?_⟩
 have st':os.Started:=by unfold OpenClaim.world at st;rw[hout,hstart] at st;exact st
 rw[OpenClaim.post_not_still hstill];unfold OpenClaim.form;rw[hstart,k6];intro F;have e1:c.okInput=Input.okWide:=by unfold OpenClaim.okInput;rw[hnb]
 have e2:c.atReturn p.checked.prog=leavingAtReturn p.checked.prog:=by unfold OpenClaim.atReturn;rw[hlv]
 have e3:c.always p.checked.prog []=nothingAlways:=by unfold OpenClaim.always;rw[hfo]
 have e4:s.post enc p.checked.prog fn F c.outside c.apart c.fresh c.handsOn c.again=(s.at F).post enc p.checked.prog fn c.apart c.fresh c.handsOn c.again:=by rw[hout];rfl
 rw[e1,e2,e3];show ReturnsInOpen _ _ _ _ _ _ _ _ (s.post enc p.checked.prog fn F c.outside c.apart c.fresh c.handsOn c.again) _ _;rw[e4];exact h os st' H enc inj F k24
theorem leaving_of_cond {H:Type}{enc:TypeId × Value→H}{a:Assume}{C:Checked}{os:Os}{f:FuncId}{fn:Func}{s:OpenSpec}{k:(H:Type)→List (DataW H)→Bool}(hk:s.cond=some k){F:Stop.Interp}{conds:List PathCond}{apart fresh handsOn again:Bool}
  (own:ownKnob C.prog.godebug=none) (started:os.Started) (hfn:C.prog.funcs[f]?=some fn) (hne:C.prog.globals.size<(begin C.prog (fun _ _=>0) default).world.heap.size)
  (witness:∃ (w:World) (tape:Tape) (i:Input),w.os=os∧(w.forCall tape i).Shaped C.prog∧i.vars=[]∧Input.okWide C.prog (w.forCall tape i) .any w.heap.size f i ∧
   s.pre6 enc C.prog fn conds apart (w.forCall tape i).memory i.args∧a.holds C.prog (lone (Frame.enter C.prog f i.args .normal) [] (w.forCall tape i)))
  (contract:∀ (W:World) (base:Nat) (args:Array Value) (ds gs:List (DataW H)) (before:List MemPlace),
   (∀ (j:Nat) t v,fn.params[j]?=some t→args[j]?=some v→Value.okWide C.prog W .any base t v) →
   DataW.Whole enc C.prog fn.params.toList s.vars apart W args.toList ds gs before→k H (ds++gs)=true→0<W.heap.size →
   ∃ N last o w' t',runNT C.prog (N+1) (solo (G (Frame.enter C.prog f args .normal) []) W) #[]=(.ended o w',t')∧runN C.prog N (solo (G (Frame.enter C.prog f args .normal) []) W)=.next last ∧
    step C.prog last=.ended o w'∧Go.Conc.Good C.prog (fun v w'=>(s.at F).post enc C.prog fn apart fresh handsOn again W args v w') last o w' t') :
  ReturnsInLeavingWide a C os f .any (s.pre6 enc C.prog fn conds apart) ((s.at F).post enc C.prog fn apart fresh handsOn again):=by
 refine returnsInLeavingWide_of_good own started witness ?_;intro w tape i _ hsh _ hok hpre _;have h0:0<(w.forCall tape i).heap.size:=by
  obtain⟨o,_,ho,_⟩:=hsh.2 _ (Nat.le_refl _) hne;have:=(aq' ho).1;omega
 obtain⟨_,_,_,fn',hfn',_,_,_,_,hval⟩:=hok;have e:fn'=fn:=oj' (hfn'.symm.trans hfn);subst e;obtain⟨ds,gs,before,hw,hc,hkk⟩:=(OpenSpec.pre_some hk conds apart _ _).1 hpre.1;have hw':=DataW.Whole.of_heap (w':=w.forCall tape i) (by rfl) hw;obtain⟨N,last,o,w',t',h1,h2,h3,v,rfl,hp,hrest⟩:=contract (w.forCall tape i) w.heap.size i.args ds gs before hval hw' hkk h0;exact⟨N,last,_,w',t',h1,h2,h3,v,rfl,ChangeSpec.post_blind hp,hrest⟩
theorem runF_pot (Q:ShC)(C:WC)(wt:Bool)(bh bump:Int):∀ (k:Nat) (x:RunSt ItL ShA),Q.pot x.a x.st→Q.pot (runF (Q.bods C) Q.n (behD wt bh bump) k x).a (runF (Q.bods C) Q.n (behD wt bh bump) k x).st
 | 0,_,h=>h
 | k+1,x,h=>by
  unfold runF;split
  ·exact h
  ·rename_i hne
   obtain⟨h1,h2⟩:=readies_lt (chosen_mem (left:=x.left) (acts:=x.acts) hne);exact runF_pot Q C wt bh bump k _ (act_pot Q C wt bh bump _ h1 h2 h)
theorem runD_notes (n:Nat)(its:Nat→List (Int × Int))(wt:Bool)(bh bump:Int)(most:Int)(picks:List Nat):(runD n its wt bh bump most picks).a.notes.length≤sumTo n (fun j=>(its j).length+1):=by
 obtain⟨Q,hQ⟩:∃ Q:ShC,Q={Qpl n its with M:=sumTo n (fun j=>(its j).length+1)}:=⟨_,rfl⟩;have hQn:Q.n=n:=by rw[hQ];rfl
 have hQi:Q.its=its:=by rw[hQ];rfl
 have h:=runF_pot Q C0w wt bh bump most.toNat ⟨fun _=>.fresh,⟨0,[],0⟩,[],picks⟩ (by
  show 0+0+sumTo Q.n (fun i=>(Q.its i).length+1)≤Q.M;rw[hQ];show 0+0+sumTo n (fun i=>(its i).length+1)≤sumTo n (fun j=>(its j).length+1);omega)
 have e:=out_eq Q C0w wt bh bump most picks;rw[hQn,hQi] at e;have e':runF (Q.bods C0w) Q.n (behD wt bh bump) most.toNat ⟨fun _=>.fresh,⟨0,[],0⟩,[],picks⟩=runD n its wt bh bump most picks:=e;rw[e'] at h;unfold ShC.pot at h;have hM:Q.M=sumTo n (fun j=>(its j).length+1):=by rw[hQ]
 omega
theorem playR_bounds {n:Nat}{its:Nat→List (Int × Int)}{picks:List Nat}{most bump:Int}{wt:Bool}(hs:sumTo n (fun j=>(its j).length+1)<4294967295)(hn:n<1048576):(playR n its picks most wt bump).notes.length<1099511627776∧(playR n its picks most wt bump).acts.length<1099511627776∧(playR n its picks most wt bump).ends.length<1099511627776:=by
 unfold playR;split
 ·exact⟨(show(0:Nat)<1099511627776 by decide),(show(0:Nat)<1099511627776 by decide),(show(0:Nat)<1099511627776 by decide)⟩
 ·have h1:=runD_notes n its wt (-77) bump most picks
  have h2:=runD_acts n its wt (-77) bump most picks;refine⟨?_,?_,?_⟩
  ·show(runD n its wt (-77) bump most picks).a.notes.length<_
   omega
  ·show(runD n its wt (-77) bump most picks).acts.length<_
   omega
  ·show(endsM _ (donesE n _)).length<_
   simp[endsM,donesE];omega
theorem plays_any {Post:Value→World→Prop}{S:SC}{n:Nat}{its:Nat→List (Int × Int)}{gi:Nat→Option Addr}{ci:Nat→Nat}{vt vp:Value}{picks:List Nat}{most bump:Int}{wt:Bool}(hid:Idle S)(A:PlA S.w n its gi ci vt vp picks)
  (hpost:∀ W,Go.RowKit.Below S.n0 S.W0 W→Post (.bool true) W):Sound Try.prog link.tWg Post 0 S (gs (Frame.enter Try.prog 3 #[.agg #[.int .i64 bump,vt,vp,.int .i64 most,.bool wt]] .normal) []):=by
 obtain⟨h1,h2,h3⟩:=playR_bounds (picks:=picks) (most:=most) (bump:=bump) (wt:=wt) A.sum A.n40;exact plays_law hid A h1 h2 h3 hpost
end Go.Proofs.Ytkoehgfebipkkaa.Lift
namespace Go.Proofs.Ytkoehgfebipkkaa.Z
open Go Go.ChangeShapes Go.WideShapes Go.ChangeAt Go.RowKit Go.Deep
theorem laidOut:laidOutB Try.prog=true:=by kernel_rfl
theorem bulk_pos {H:Type}(d:DataW H):0<Rows.uptoBulk d:=by
 cases d<;>try (simp[Rows.uptoBulk];done)
 rename_i l;cases l<;>simp[Rows.uptoBulk]
theorem bulk_len {H:Type}:∀ l:List (DataW H),l.length≤Rows.uptoBulkAll l
 | []=>Nat.zero_le _
 | d::l=>by
  have ih:=bulk_len l;have hd:=bulk_pos d;rw[Rows.uptoBulkAll,List.length_cons];omega
theorem bulk_of {H:Type}{l:List (DataW H)}(hk:Rows.uptoSmall H l=true):Rows.uptoBulkAll l≤1048576:=by
 unfold Rows.uptoSmall at hk;exact of_decide_eq_true hk
theorem bulk_sum {H:Type}{α:Type}(f:α→Nat)(D:α→DataW H):∀ l:List α,(∀ i∈l,f i≤Rows.uptoBulk (D i))→(l.map f).sum≤Rows.uptoBulkAll (l.map D)
 | [],_=>Nat.zero_le _
 | a::l,h=>by
  have ih:=bulk_sum f D l fun i hi=>h i (List.mem_cons_of_mem _ hi);have ha:=h a (List.mem_cons_self ..);rw[List.map_cons,List.map_cons,List.sum_cons,Rows.uptoBulkAll];omega
theorem cell_spot {w:World}{a:Addr}{v:Value}(h:w.cell? a=some v):a=⟨a.block,a.off,none⟩:=by
 obtain⟨b,o,s⟩:=a;unfold World.cell? at h;split at h
 ·cases s with
  | none=>rfl
  | some x=>simp at h
 ·cases h
theorem cell_row {w:World}{a:Addr}{v:Value}(h:w.cell? a=some v):∃ c t fz,w.heap[a.block]?=some (.cells c t fz):=by
 unfold World.cell? at h;cases e:w.heap[a.block]? with
 | none=>simp[e] at h
 | some x =>
  cases x<;>simp[e] at h
  exact⟨_,_,_,rfl⟩
theorem add_at (b o j:Nat):(⟨b,o,none⟩:Addr).add j=⟨b,o+j,none⟩:=by unfold Addr.add;split<;>simp_all
theorem spot_of {w:World}{a:Addr}{n:Nat}{cs:List Value}(h:w.cells? 0 (a.add (0*n)) n=some cs)(hn:0<n):a.spot=none:=by
 obtain⟨_,hl,hat⟩:=World.cells?_some h;have h0:=hat 0 hn;rw[Nat.zero_mul,show ∀ a:Addr,a.add 0=a from fun a=>if_pos rfl,show ∀ a:Addr,a.add 0=a from fun a=>if_pos rfl,List.getElem?_eq_getElem (by omega)] at h0;exact congrArg Addr.spot (cell_spot h0)
theorem list_of {α:Type}{p:Nat→α→Prop}:∀ n,(∀ i,i<n→∃ x,p i x)→∃ l:List α,l.length=n∧∀ i x,l[i]?=some x→p i x
 | 0,_=>⟨[],rfl,fun i x h=>by simp at h⟩
 | n+1,h=>by
  obtain⟨l,hl,hp⟩:=list_of n (fun i hi=>h i (by omega));obtain⟨x,hx⟩:=h n (by omega);refine⟨l++[x],by simp[hl],fun i y hy=>?_⟩;by_cases hi:i<n
  ·rw[List.getElem?_append_left (by omega)] at hy;exact hp i y hy
  ·rw[List.getElem?_append_right (by omega),hl] at hy
   by_cases he:i=n
   ·subst he;simp at hy;subst hy;exact hx
   ·rw[List.getElem?_eq_none (by simp;omega)] at hy;cases hy
def SlOk (w:World)(g:Option Addr)(n cap:Nat):Prop:=∀ a,g=some a→(∃ c t fz,w.heap[a.block]?=some (.cells c t fz))∨n=0∧cap=0
def ItemsIn (w:World)(g:Option Addr)(its:List (Int × Int)):Prop :=
 ∀ (k:Nat) (d x:Int),its[k]?=some (d,x)→∃ ab ao,g=some ⟨ab,ao,none⟩∧w.cell? ⟨ab,ao+k*2,none⟩=some (.int .i64 d)∧w.cell? ⟨ab,ao+k*2+1,none⟩=some (.int .i64 x)
theorem cells53:Try.prog.cellsOf 53=2:=by kernel_rfl
theorem cells51:Try.prog.cellsOf 51=1:=by kernel_rfl
theorem cells5:Try.prog.cellsOf 5=1:=by kernel_rfl
theorem cells3:Try.prog.cellsOf 3=1:=by kernel_rfl
theorem cells4:Try.prog.cellsOf 4=1:=by kernel_rfl
theorem cells22:Try.prog.cellsOf 22=1:=by kernel_rfl
theorem cells23:Try.prog.cellsOf 23=1:=by kernel_rfl
section
variable {H:Type}{enc:TypeId × Value→H}{w:World}{held:Bool}{fuel:Nat}{cs:List Value}{x:DataW H × List MemPlace}
theorem open_item {a b:Value}(h:DataW.trod enc Try.prog w 0 (fun _=>true) held fuel 53 [a,b]=some x):∃ d n:Int,a=.int .i64 d∧b=.int .i64 n:=by
 obtain⟨xs,k,_,_,_,hxl,hf⟩:=DataW.trod_struct Try.underlying53 h;have f0:=hf 0 { name := "Do",type:=3,offset:=0,embedded:=false,tag := "",pkgPath := "",byteOffset:=0} rfl;have f1:=hf 1 { name := "N",type:=3,offset:=1,embedded:=false,tag := "",pkgPath := "",byteOffset:=8} rfl;dsimp only at f0 f1;rw[cells3] at f0 f1;have hx2:xs.length=2:=hxl;change DataW.trod enc Try.prog w 0 (fun _=>true) held k 3 [a]=_ at f0;change DataW.trod enc Try.prog w 0 (fun _=>true) held k 3 [b]=_ at f1;rw[List.getElem?_eq_getElem (by omega)] at f0 f1;obtain⟨d,h0,_,_⟩:=DataW.trod_int Try.underlying3 f0;obtain⟨n,h1,_,_⟩:=DataW.trod_int Try.underlying3 f1;cases h0;cases h1;exact⟨d,n,rfl,rfl⟩
theorem open_items (h:DataW.trod enc Try.prog w 0 (fun _=>true) held fuel 51 cs=some x) :
  ∃ (g:Option Addr) (cap:Nat) (its:List (Int × Int)),cs=[.slice g its.length cap]∧its.length+1≤Rows.uptoBulk x.1∧ItemsIn w g its∧SlOk w g its.length cap:=by
 rcases open_slice Try.underlying51 h with⟨rfl,rfl⟩ | ⟨a,len,cap,m,n,D,Pl,rfl,_,hle,_,hm,rfl,hi⟩
 ·exact⟨none,0,[],rfl,by simp[Rows.uptoBulk],fun k d x hk=>by simp at hk,fun a ha=>by cases ha⟩
 ·rw[if_pos rfl] at hm
  subst hm;rw[cells53] at hi;have hcell:∀ i,i<m→∃ p:Int × Int,a.spot=none∧w.cell? ⟨a.block,a.off+i*2,none⟩=some (.int .i64 p.1)∧w.cell? ⟨a.block,a.off+i*2+1,none⟩=some (.int .i64 p.2):=by
   intro i hlt;obtain⟨cs',hc,hd⟩:=hi i hlt;obtain⟨_,hcl,hat⟩:=World.cells?_some hc
   match cs',hcl with
   | [u,v],_ =>
    obtain⟨d,n,rfl,rfl⟩:=open_item hd;have h0:=hat 0 (by omega);have h1:=hat 1 (by omega);have hs:a.spot=none:=spot_of (hi 0 (by omega)).choose_spec.1 (by omega);obtain⟨b,o,s⟩:=a;simp only at hs;subst hs;rw[add_at,add_at] at h0 h1;exact⟨(d,n),rfl,h0,h1⟩
  obtain⟨its,hl,hits⟩:=list_of (α:=Int × Int) len fun i hlt=>hcell i (by omega);refine⟨some a,m,its,by rw[hl],?_,fun k d y hk=>?_,fun a' ha=>?_⟩
  ·show its.length+1≤Rows.uptoBulk (.slice _ _)
   have:=bulk_len ((List.range len).map D);simp only[Rows.uptoBulk];simp only[List.length_map,List.length_range] at this;omega
  ·obtain⟨h1,h2,h3⟩:=hits k (d,y) hk
   obtain⟨b,o,s⟩:=a;simp only at h1;subst h1;exact⟨b,o,rfl,h2,h3⟩
  ·cases ha
   by_cases h0:m=0
   ·exact .inr ⟨by omega,h0⟩
   ·obtain⟨_,_,h2,_⟩:=hcell 0 (by omega)
    exact .inl (cell_row (a:=⟨a.block,_,none⟩) h2)
structure ThrIn (w:World)(n:Nat)(its:Nat→List (Int × Int))(gi:Nat→Option Addr)(ci:Nat→Nat)(vt:Value):Prop where
 thr:∃ g c,vt=.slice g n c∧SlOk w g n c∧∀ i,i<n→∃ b o,g=some ⟨b,o,none⟩∧w.cell? ⟨b,o+i,none⟩=some (.slice (gi i) (its i).length (ci i))
 sl:∀ i,i<n→SlOk w (gi i) (its i).length (ci i)
 items:∀ i,i<n→ItemsIn w (gi i) (its i)
theorem open_threads (h:DataW.trod enc Try.prog w 0 (fun _=>true) held fuel 22 cs=some x) :
  ∃ (vt:Value) (n:Nat) (its:Nat→List (Int × Int)) (gi:Nat→Option Addr) (ci:Nat→Nat),cs=[vt]∧ThrIn w n its gi ci vt∧((List.range n).map fun i=>(its i).length+1).sum+1≤Rows.uptoBulk x.1:=by
 rcases open_slice Try.underlying22 h with⟨rfl,rfl⟩ | ⟨a,len,cap,m,n,D,Pl,rfl,_,hle,_,hm,rfl,hi⟩
 ·exact⟨_,0,fun _=>[],fun _=>none,fun _=>0,rfl,⟨⟨none,0,rfl,fun a ha=>by (cases ha),fun i hi=>by omega⟩,fun i hi=>by omega,fun i hi=>by omega⟩,by simp[Rows.uptoBulk]⟩
 ·rw[if_pos rfl] at hm
  subst hm;rw[cells51] at hi;have hcell:∀ i,i<m→∃ p:Option Addr × Nat × List (Int × Int),a.spot=none∧w.cell? ⟨a.block,a.off+i,none⟩=some (.slice p.1 p.2.2.length p.2.1)∧p.2.2.length+1≤Rows.uptoBulk (D i)∧ItemsIn w p.1 p.2.2∧SlOk w p.1 p.2.2.length p.2.1:=by
   intro i hlt;obtain⟨cs',hc,hd⟩:=hi i hlt;obtain⟨_,hcl,hat⟩:=World.cells?_some hc;obtain⟨g,cp,its,rfl,hb,h1,h2⟩:=open_items hd;have h0:=hat 0 (by omega);have hs:a.spot=none:=spot_of (hi 0 (by omega)).choose_spec.1 (by omega);obtain⟨b,o,s⟩:=a;simp only at hs;subst hs;rw[add_at,add_at,Nat.mul_one,Nat.add_zero] at h0;exact⟨(g,cp,its),rfl,h0,hb,h1,h2⟩
  obtain⟨f,hf⟩:=choose_lt (α:=Option Addr × Nat × List (Int × Int)) (n:=len) (fun i hlt=>hcell i (by omega));refine⟨_,len,fun i=>(f i).2.2,fun i=>(f i).1,fun i=>(f i).2.1,rfl,⟨⟨some a,m,rfl,fun a' ha=>?_,fun i hlt=>?_⟩,fun i hlt=>(hf i hlt).2.2.2.2,fun i hlt=>(hf i hlt).2.2.2.1⟩,?_⟩
  ·cases ha
   by_cases h0:m=0
   ·exact .inr ⟨by omega,h0⟩
   ·obtain⟨_,_,h2,_⟩:=hcell 0 (by omega)
    exact .inl (cell_row (a:=⟨a.block,_,none⟩) h2)
  ·obtain⟨h1,h2,_⟩:=hf i hlt
   obtain⟨b,o,s⟩:=a;simp only at h1;subst h1;exact⟨b,o,rfl,h2⟩
  ·have:=bulk_sum (fun i=>(f i).2.2.length+1) D (List.range len) fun i hi=>(hf i (List.mem_range.1 hi)).2.2.1
   show _+1≤Rows.uptoBulk (.slice _ _);simp only[Rows.uptoBulk];omega
structure BytesIn (w:World)(vp:Value)(xs:List Nat):Prop where
 sl:∃ g c,vp=.slice g xs.length c∧xs.length≤c∧c≤maxLen∧SlOk w g xs.length c∧∀ (j u:Nat),xs[j]?=some u→∃ b o,g=some ⟨b,o,none⟩∧w.cell? ⟨b,o+j,none⟩=some (.int .u8 u)
 byte:∀ u∈xs,u<256
theorem open_bytes (h:DataW.trod enc Try.prog w 0 (fun _=>true) held fuel 23 cs=some x) :
  ∃ (vp:Value) (xs:List Nat),cs=[vp]∧BytesIn w vp xs∧xs.length+1≤Rows.uptoBulk x.1:=by
 rcases open_slice Try.underlying23 h with⟨rfl,rfl⟩ | ⟨a,len,cap,m,n,D,Pl,rfl,_,hle,hmx,hm,rfl,hi⟩
 ·exact⟨_,[],rfl,⟨⟨none,0,rfl,Nat.le_refl _,Nat.zero_le _,fun a ha=>by (cases ha),fun j u hj=>by simp at hj⟩,fun u hu=>by simp at hu⟩,by simp[Rows.uptoBulk]⟩
 ·rw[if_pos rfl] at hm
  subst hm;rw[cells5] at hi;have hcell:∀ i,i<m→∃ u:Nat,a.spot=none∧w.cell? ⟨a.block,a.off+i,none⟩=some (.int .u8 u)∧u<256:=by
   intro i hlt;obtain⟨cs',hc,hd⟩:=hi i hlt;obtain⟨_,hcl,hat⟩:=World.cells?_some hc;obtain⟨v,rfl,_,hw⟩:=DataW.trod_int Try.underlying5 hd;have h0:=hat 0 (by omega);have hs:a.spot=none:=spot_of (hi 0 (by omega)).choose_spec.1 (by omega);obtain⟨b,o,s⟩:=a;simp only at hs;subst hs;rw[add_at,add_at,Nat.mul_one,Nat.add_zero] at h0;have hr:0≤v∧v<256:=by
    simp[Lit.wf,IntKind.min,IntKind.max,IntKind.bits,IntKind.signed] at hw;omega
   refine⟨v.toNat,rfl,?_,by omega⟩;rw[Int.toNat_of_nonneg hr.1];exact h0
  obtain⟨xs,hl,hxs⟩:=list_of (α:=Nat) len fun i hlt=>hcell i (by omega);refine⟨_,xs,rfl,⟨⟨some a,m,by rw[hl],by omega,hmx,fun a' ha=>?_,fun j u hj=>?_⟩,fun u hu=>?_⟩,?_⟩
  ·cases ha
   by_cases h0:m=0
   ·exact .inr ⟨by omega,h0⟩
   ·obtain⟨_,_,h2,_⟩:=hcell 0 (by omega)
    exact .inl (cell_row (a:=⟨a.block,_,none⟩) h2)
  ·obtain⟨h1,h2,_⟩:=hxs j u hj
   obtain⟨b,o,s⟩:=a;simp only at h1;subst h1;exact⟨b,o,rfl,h2⟩
  ·obtain⟨j,hj⟩:=List.getElem?_of_mem hu
   exact(hxs j u hj).2.2
  ·have:=bulk_len ((List.range len).map D)
   show _+1≤Rows.uptoBulk (.slice _ _);simp only[Rows.uptoBulk];simp only[List.length_map,List.length_range] at this;omega
theorem open_play {c0 c1 c2 c3 c4:Value}(h:DataW.trod enc Try.prog w 0 (fun _=>true) held fuel 25 [c0,c1,c2,c3,c4]=some x) :
  ∃ (bump most:Int) (wt:Bool) (n:Nat) (its:Nat→List (Int × Int)) (gi:Nat→Option Addr) (ci:Nat→Nat) (picks:List Nat),c0=.int .i64 bump∧c3=.int .i64 most∧c4=.bool wt∧ThrIn w n its gi ci c1∧BytesIn w c2 picks ∧
   (Lit.int .i64 bump).wf=true∧(Lit.int .i64 most).wf=true∧((List.range n).map fun i=>(its i).length+1).sum+picks.length+1≤Rows.uptoBulk x.1:=by
 obtain⟨xs,k,_,hx,_,hxl,hf⟩:=DataW.trod_struct Try.underlying25 h;have f0:=hf 0 { name := "Bump",type:=3,offset:=0,embedded:=false,tag := "",pkgPath := "",byteOffset:=0} rfl;have f1:=hf 1 { name := "Threads",type:=22,offset:=1,embedded:=false,tag := "",pkgPath := "",byteOffset:=8} rfl;have f2:=hf 2 { name := "Picks",type:=23,offset:=2,embedded:=false,tag := "",pkgPath := "",byteOffset:=32} rfl;have f3:=hf 3 { name := "Most",type:=3,offset:=3,embedded:=false,tag := "",pkgPath := "",byteOffset:=56} rfl;have f4:=hf 4 { name := "Watch",type:=4,offset:=4,embedded:=false,tag := "",pkgPath := "",byteOffset:=64} rfl;dsimp only at f0 f1 f2 f3 f4;rw[cells3] at f0 f3;rw[cells22] at f1;rw[cells23] at f2;rw[cells4] at f4;change DataW.trod enc Try.prog w 0 (fun _=>true) held k 3 [c0]=_ at f0;change DataW.trod enc Try.prog w 0 (fun _=>true) held k 22 [c1]=_ at f1;change DataW.trod enc Try.prog w 0 (fun _=>true) held k 23 [c2]=_ at f2;change DataW.trod enc Try.prog w 0 (fun _=>true) held k 3 [c3]=_ at f3;change DataW.trod enc Try.prog w 0 (fun _=>true) held k 4 [c4]=_ at f4;have hx5:xs.length=5:=hxl;rw[List.getElem?_eq_getElem (by omega)] at f0 f1 f2 f3 f4;obtain⟨bump,e0,_,w0⟩:=DataW.trod_int Try.underlying3 f0;obtain⟨most,e3,_,w3⟩:=DataW.trod_int Try.underlying3 f3;obtain⟨wt,e4,_⟩:=DataW.trod_bool Try.underlying4 f4;obtain⟨vt,n,its,gi,ci,e1,hT,hb1⟩:=open_threads f1;obtain⟨vp,picks,e2,hB,hb2⟩:=open_bytes f2;cases e0;cases e1;cases e2;cases e3;cases e4;refine⟨bump,most,wt,n,its,gi,ci,picks,rfl,rfl,rfl,hT,hB,w0,w3,?_⟩;have hd:x.1=.agg (xs.map (·.1)):=congrArg Prod.fst hx;have h5:xs=[xs[0],xs[1],xs[2],xs[3],xs[4]]:=by
  apply List.ext_getElem
  ·simpa using hx5
  ·intro i h1 h2
   have:i=0∨i=1∨i=2∨i=3∨i=4:=by omega
   rcases this with rfl | rfl | rfl | rfl | rfl<;>rfl
 rw[hd,h5];simp only[List.map_cons,List.map_nil,Rows.uptoBulkAll,Rows.uptoBulk];omega
end
theorem post_true {H:Type}{enc:TypeId × Value→H}{f:Func}{s:ChangeSpec}{t:TypeId}{W W':World}{v0:Value}{d0:DataW H}{before:List MemPlace}(hs:s.vars=[])(hp:f.params.toList=[t])(hr:f.resultTypes=#[4])
  (hd:∀ d,s.fn H [d]={results:=[.lit (.bool true)],args:=[d]}) (ht:Try.prog.readableRec t=true) (hrow:t<Try.prog.types.size)
  (hW:DataW.Whole enc Try.prog f.params.toList s.vars false W [v0] [d0] [] before) (h0:DataW.Trod enc Try.prog W 0 (fun _=>true) true t v0 d0 before) (hb:Below W.heap.size W W') :
  s.post enc Try.prog f false true false false W #[v0] (.bool true) W':=by
 refine⟨[d0],[],before,[],before,[],hW,?_,?_,?_,hb.frame _,fun h=>by cases h⟩
 ·rw[hr,List.append_nil,hd]
  exact trodAll_mk1 (shut_bool Try.underlying4 _)
 ·rw[hp,List.append_nil,hd]
  exact trodAll_mk1 (Below.trod laidOut ht hrow h0 hb fun x hx=>hW.lt x hx)
 ·rw[hs,List.append_nil,hd]
  rfl
end Go.Proofs.Ytkoehgfebipkkaa.Z
namespace Go.Proofs.Ytkoehgfebipkkaa.Lift
open Go Go.Conc Go.RowKit Pl
open Go.ConcN (sumTo)
open Z (SlOk ThrIn BytesIn ItemsIn)
theorem slOk_rel {W:World}{g:Option Addr}{n c:Nat}(h:SlOk W g n c):VRel (seenR W) (.slice g n c) (.slice g n c):=by
 cases g with
 | none=>exact .flat rfl
 | some a =>
  rcases h a rfl with e | ⟨rfl,rfl⟩
  ·obtain⟨b,o,s⟩:=a
   exact .slice (seenR_in e)
  ·exact .void
theorem sum_sumTo (f:Nat→Nat):∀ n,((List.range n).map f).sum=sumTo n f
 | 0=>rfl
 | n+1=>by
  rw[List.range_succ,List.map_append,List.sum_append,sum_sumTo f n];simp[sumTo]
theorem le_sumTo (f:Nat→Nat){i:Nat}:∀ {n:Nat},i<n→f i≤sumTo n f
 | n+1,h=>by
  unfold sumTo;by_cases e:i=n
  ·subst e;omega
  ·have:=le_sumTo f (show i<n by omega);omega
theorem count_sumTo (f:Nat→Nat):∀ n:Nat,n≤sumTo n (fun i=>f i+1)
 | 0=>Nat.zero_le _
 | n+1=>by
  have:=count_sumTo f n;unfold sumTo;show n+1≤sumTo n (fun i=>f i+1)+(f n+1);omega
theorem plA_seen {W:World}{n:Nat}{its:Nat→List (Int × Int)}{gi:Nat→Option Addr}{ci:Nat→Nat}{vt vp:Value}{picks:List Nat}(T:ThrIn W n its gi ci vt)(B:BytesIn W vp picks)
  (hb:((List.range n).map fun i=>(its i).length+1).sum+picks.length+1≤1048576) (h0:0<W.heap.size):PlA (seenW W) n its gi ci vt vp picks:=by
 rw[sum_sumTo] at hb;have hn:=count_sumTo (fun i=>(its i).length) n;refine⟨?_,fun i hi k d x hk=>?_,fun b hB=>?_,?_,by omega,fun i hi=>?_,by omega,by omega⟩
 ·obtain⟨g,c,rfl,_,hc⟩:=T.thr
  refine⟨g,c,by simp,fun hne=>?_⟩;have hpos:0<n:=by
   rcases Nat.eq_zero_or_pos n with e | e
   ·subst e;simp at hne
   ·exact e
  obtain⟨b,o,hg,_⟩:=hc 0 hpos;refine⟨b,o,hg,fun j u hj=>?_⟩;have hjn:j<n:=by have:=(List.getElem?_eq_some_iff.1 hj).1;simpa using this
  obtain⟨b',o',hg',h⟩:=hc j hjn;rw[hg] at hg';cases hg';have e:u=.slice (gi j) (its j).length (ci j):=by simpa[hjn] using hj.symm
  subst e;exact seenW_cell h (slOk_rel (T.sl j hjn))
 ·obtain⟨ab,ao,h1,h2,h3⟩:=T.items i hi k d x hk
  exact⟨ab,ao,h1,⟨i,ao,hi,(by rintro e;rw[e] at hk;simp at hk),h1⟩,seenW_cell h2 (.flat rfl),seenW_cell h3 (.flat rfl)⟩
 ·obtain⟨i,o,hi,hne,hg⟩:=hB
  obtain⟨⟨d,x⟩,l,e⟩:=List.exists_cons_of_ne_nil hne;obtain⟨ab,ao,h1,h2,_⟩:=T.items i hi 0 d x (by rw[e];rfl);rw[hg] at h1;cases h1;rw[seenW_size];obtain⟨_,_,_,h⟩:=cell_isC h2;exact(aq' h).1
 ·obtain⟨g,c,rfl,h1,h2,_,hc⟩:=B.sl
  by_cases hne:picks=[]
  ·subst hne
   exact⟨0,by rw[seenW_size];exact h0,g,c,rfl,h1,h2,B.byte,fun h=>absurd rfl h⟩
  ·obtain⟨u,l,e⟩:=List.exists_cons_of_ne_nil hne
   obtain⟨b,o,hg,h⟩:=hc 0 u (by rw[e];rfl);obtain⟨_,_,_,hh⟩:=cell_isC h;refine⟨b,by rw[seenW_size];exact(aq' hh).1,g,c,rfl,h1,h2,B.byte,fun _=>⟨o,hg,fun j u hj=>?_⟩⟩;obtain⟨b',o',hg',h'⟩:=hc j u hj;rw[hg] at hg';cases hg';exact seenW_cell h' (.flat rfl)
 ·have:=le_sumTo (fun i=>(its i).length+1) hi
  have h2:(its i).length+1≤sumTo n (fun i=>(its i).length+1):=this;omega
theorem start_idle (W:World):Idle (SC.start W):=⟨fun _=>rfl,fun _=>rfl,Nat.one_pos⟩
theorem bytes_rel {W:World}{vp:Value}{picks:List Nat}(B:BytesIn W vp picks):VRel (seenR W) vp vp:=by
 obtain⟨g,c,rfl,_,_,h,_⟩:=B.sl;exact slOk_rel h
theorem thr_rel {W:World}{n:Nat}{its:Nat→List (Int × Int)}{gi:Nat→Option Addr}{ci:Nat→Nat}{vt:Value}(T:ThrIn W n its gi ci vt):VRel (seenR W) vt vt:=by
 obtain⟨g,c,rfl,h,_⟩:=T.thr;exact slOk_rel h
theorem play_rel {W:World}{vt vp:Value}{bump most:Int}{wt:Bool}(h1:VRel (seenR W) vt vt)(h2:VRel (seenR W) vp vp):VRel (seenR W) (.agg #[.int .i64 bump,vt,vp,.int .i64 most,.bool wt]) (.agg #[.int .i64 bump,vt,vp,.int .i64 most,.bool wt]):=by
 refine .agg rfl fun i v V a b=>?_;rw[a] at b;cases b
 match i,a with
 | 0,a=>cases a;exact .flat rfl
 | 1,a=>cases a;exact h1
 | 2,a=>cases a;exact h2
 | 3,a=>cases a;exact .flat rfl
 | 4,a=>cases a;exact .flat rfl
 | _+5,a=>simp at a
theorem some_heap:Try.prog.globals.size<(begin Try.prog (fun _ _=>0) default).world.heap.size:=of_decide_eq_true (by kernel_rfl)
end Go.Proofs.Ytkoehgfebipkkaa.Lift
namespace Go.Proofs.Ytkoehgfebipkkaa.Z
open Go Go.Conc Go.ChangeShapes Go.WideShapes Go.ChangeAt Go.RowKit Go.Deep Lift
theorem list5 {α:Type}{l:List α}(h:l.length=5):∃ a b c d e,l=[a,b,c,d,e]:=by
 match l,h with
 | [a,b,c,d,e],_=>exact⟨a,b,c,d,e,rfl⟩
theorem cells25:Try.prog.cellsOf 25=5:=by kernel_rfl
theorem plays_contract (H:Type)(enc:TypeId × Value→H)(W:World)(base:Nat)(args:Array Value)(ds gs:List (DataW H))(before:List MemPlace)
  (hval:∀ (j:Nat) t v,Try.f3.params[j]?=some t→args[j]?=some v→Value.okWide Try.prog W .any base t v)
  (hW:DataW.Whole enc Try.prog Try.f3.params.toList Rows.schedPlaysSpec.vars false W args.toList ds gs before) (hk:Rows.uptoSmall H (ds++gs)=true) (h00:0<W.heap.size) :
  ∃ N last o w' t',runNT Try.prog (N+1) (solo (G (Frame.enter Try.prog 3 args .normal) []) W) #[]=(.ended o w',t')∧runN Try.prog N (solo (G (Frame.enter Try.prog 3 args .normal) []) W)=.next last ∧
    step Try.prog last=.ended o w'∧Go.Conc.Good Try.prog (fun v w'=>Rows.schedPlaysSpec.post enc Try.prog Try.f3 false true false false W args v w') last o w' t':=by
 have hW':=hW;obtain⟨p,q,hA0,hV,rfl,hfz,hnd⟩:=hW;have hA:DataW.TrodAll enc Try.prog W 0 (fun _=>true) true Try.f3.params.toList args.toList ds p:=hA0;rw[Try.params3] at hA hval;obtain⟨v0,vs0,d0,ds0,p0,q0,hargs,rfl,rfl,h0,r0⟩:=trodAll_cons hA;obtain⟨rfl,rfl,rfl⟩:=trodAll_nil r0;obtain rfl:args=#[v0]:=by cases args;simp_all
 obtain⟨rfl,rfl⟩:=trodVars_none hV;obtain⟨cs,rfl,hsz⟩:=okWide_struct Try.underlying25 (hval 0 25 v0 rfl rfl);rw[cells25] at hsz;obtain⟨c0,c1,c2,c3,c4,hcs⟩:=list5 (by rw[Array.length_toList];exact hsz);obtain rfl:cs=#[c0,c1,c2,c3,c4]:=by cases cs;simp_all
 have h0':=h0;obtain⟨fuel,ht⟩:=h0';change DataW.trod enc Try.prog W 0 (fun _=>true) true fuel 25 [c0,c1,c2,c3,c4]=_ at ht;obtain⟨bump,most,wt,n,its,gi,ci,picks,rfl,rfl,rfl,hT,hB,_,_,hbk⟩:=open_play ht;have hb:((List.range n).map fun i=>(its i).length+1).sum+picks.length+1≤1048576:=by
  rw[List.append_nil] at hk;have h:=bulk_of hk;simp only[Rows.uptoBulkAll] at h;exact Nat.le_trans hbk h
 clear hA0 hA ht;simp only[List.append_nil] at hW' h0;refine sound_start (ty:=link.tWg) (fun i v hi=>?_) (plays_any (start_idle W) (plA_seen hT hB hb h00) fun W' hB'=>?_)
 ·match i,hi with
  | 0,hi=>cases hi;exact play_rel (thr_rel hT) (bytes_rel hB)
  | _+1,hi=>simp at hi
 ·exact post_true rfl rfl rfl (fun _=>rfl) (by kernel_rfl) (of_decide_eq_true (by kernel_rfl)) hW' h0 hB'
theorem plays_lifted (os:Os)(started:os.Started)(H:Type)(enc:TypeId × Value→H)(F:Stop.Interp) :
  ReturnsInLeavingWide {} Try.checked os 3 .any ((Rows.OpenSpec.upto Rows.schedPlaysSpec).pre6 enc Try.prog Try.f3 Rows.schedPlaysUptoRow.domain false) (((Rows.OpenSpec.upto Rows.schedPlaysSpec).at F).post enc Try.prog Try.f3 false true false false):=by
 refine leaving_of_cond (C:=Try.checked) (s:=Rows.OpenSpec.upto Rows.schedPlaysSpec) (k:=Rows.uptoSmall) rfl own started Try.func3 some_heap
  (OpenSpec.witness (enc:=enc) (C:=Try.checked) (s:=Rows.OpenSpec.upto Rows.schedPlaysSpec) (k:=Rows.uptoSmall) rfl false ⟨#[],#[.agg #[.int .i64 0,.slice none 0 0,.slice none 0 0,.int .i64 0,.bool false]],[]⟩ 8 (by kernel_rfl) (by kernel_rfl) (by kernel_rfl)
   (x:=([.agg [.lit (.int .i64 0),.nil,.nil,.lit (.int .i64 0),.lit (.bool false)]],[],[])) (by kernel_rfl) rfl (by kernel_rfl)) ?_
 intro W base args ds gs before hval hW hk h0;exact plays_contract H enc W base args ds gs before hval hW hk h0
theorem schedPlays_upto:Rows.SchedPlaysUptoSaid :=
 holds_upto 3 Try.f3 rfl rfl rfl rfl rfl rfl rfl ⟨rfl,rfl,rfl,rfl,rfl⟩ rfl rfl rfl rfl rfl (by kernel_rfl) Try.func3 (by kernel_rfl)
  (of_decide_eq_true (by kernel_rfl)) (by unfold Func.isWrapper;first | (rw[if_pos (by decide +kernel)];kernel_rfl) | (rw[if_neg (by decide +kernel)];exact⟨rfl,rfl⟩))
  (fun os started H enc _ F=>plays_lifted os started H enc F)
end Go.Proofs.Ytkoehgfebipkkaa.Z
