/- SchedAgain keeps its law for every input that may come: SchedAgainUptoSaid, as given. Conditions: none. -/
import Derived.Test.YtkoehgfebipkkaaMe
set_option linter.unusedVariables false
set_option linter.unusedSimpArgs false
set_option maxRecDepth 100000
set_option maxHeartbeats 6400000
noncomputable section
namespace Go.Proofs.Ytkoehgfebipkkaa.Lift
open Go Go.Conc Go.RowKit Pl
theorem ex_ne31 {a:Act}{o:Oper}{w:World}{x y:Operand}{i:Int}(h:o.op=.binOp .neq 31 x y 31)(hx:a.eval x=.int .i64 i)(hy:a.eval y=.int .i64 i):(execOp a.eval o).run Try.prog w=.ok (.value (.bool false)) w:=by
 unfold execOp;rw[h];simp only[hx,hy];exact run_vv (by simp[go_sem,Try.underlying31,Try.runUnderlying31])
theorem ex_ne3 {a:Act}{o:Oper}{w:World}{x y:Operand}{i:Int}(h:o.op=.binOp .neq 3 x y 3)(hx:a.eval x=.int .i64 i)(hy:a.eval y=.int .i64 i):(execOp a.eval o).run Try.prog w=.ok (.value (.bool false)) w:=by
 unfold execOp;rw[h];simp only[hx,hy];exact run_vv (by simp[go_sem,Try.underlying3,Try.runUnderlying3])
theorem ex_pickF {P:Program}{a:Act}{o:Oper}{w:World}{c x y:Operand}{v:Value}(h:o.op=.pick c x y)(hc:a.eval c=.bool false)(hx:a.eval y=v):(execOp a.eval o).run P w=.ok (.value v) w:=by
 unfold execOp;rw[h];generalize a.eval=ρ at hc hx ⊢;simp[hc,hx,go_sem]
def q5ops:Array Oper:=sO (sL (sL (sR (sR (sR (sR c4))))))
def q5sp (i:Nat):Bool:=i==6||i==18
def q5fin (bump:Int)(vt vp:Value)(most:Int)(wt:Bool)(vm:Value)(extra:Int)(bx:Nat)(s rb:Nat)(ga1:Option Addr)(na1 ca1:Nat)(ge1:Option Addr)(ne1 ce1:Nat)(u1 e1:Int)(t rc:Nat)(ga2:Option Addr)(na2 ca2:Nat)(ge2:Option Addr)(ne2 ce2:Nat)(vn1 vn2:Value)(sum:Int):Array Value:=#[.agg #[.int .i64 bump,vt,vp,.int .i64 most,.bool wt],vm,.int .i64 extra,ptr bx,uu,uu,.bool false,ptr s,ptr rb,.int .i64 e1,.bool true,ptr t,ptr rc,.int .i64 e1,.bool true,uu,uu,uu,uu,uu,uu,.bool true,.bool false,.tuple #[ptr s,(.agg #[.slice ga1 na1 ca1,.slice ge1 ne1 ce1,.int .i64 u1]),.int .i64 e1,.bool true],.agg #[.int .i64 bump,vt,vp,.int .i64 most,.bool wt],.tuple #[ptr s,(.agg #[.slice ga1 na1 ca1,.slice ge1 ne1 ce1,.int .i64 u1]),.int .i64 e1,.bool true],ptr s,.agg #[.slice ga1 na1 ca1,.slice ge1 ne1 ce1,.int .i64 u1],.int .i64 e1,.bool true,.tuple #[ptr t,(.agg #[.slice ga2 na2 ca2,.slice ge2 ne2 ce2,.int .i64 u1]),.int .i64 e1,.bool true],.agg #[.int .i64 bump,vt,vp,.int .i64 most,.bool wt],.tuple #[ptr t,(.agg #[.slice ga2 na2 ca2,.slice ge2 ne2 ce2,.int .i64 u1]),.int .i64 e1,.bool true],ptr t,.agg #[.slice ga2 na2 ca2,.slice ge2 ne2 ce2,.int .i64 u1],.int .i64 e1,.bool true,.int .i64 e1,.int .i64 e1,.bool false,.bool false,.agg #[.slice ga1 na1 ca1,.slice ge1 ne1 ce1,.int .i64 u1],.agg #[.slice ga2 na2 ca2,.slice ge2 ne2 ce2,.int .i64 u1],.bool true,.bool false,.bool false,.bool false,ptr s,ptr s,ptrAt s 1,vn1,ptr t,ptr t,ptrAt t 1,vn2,.bool true,.bool false,.bool false,.bool false,ptr s,ptr s,ptrAt s 0,.int .i64 sum,ptr t,ptr t,ptrAt t 0,.int .i64 sum,.bool false,.bool false,uu,uu,uu,uu,uu,uu,uu,uu,uu,uu,uu,uu,uu,uu,uu,uu,uu,uu,uu,uu,uu,uu,uu,uu,uu,uu,uu,uu,uu,uu,uu,uu,uu,uu,uu,uu,uu,uu,uu,uu,uu,uu,uu,uu,uu,uu,uu,uu,uu,uu,uu,uu,uu,uu,uu,uu,uu,uu,uu,uu,uu,uu,uu,uu,uu,uu,uu,uu,uu,uu,uu,uu,uu,uu,uu,uu,uu,uu,uu,uu,uu,uu,uu,uu,uu,uu,uu,uu,uu,uu,uu,uu]
theorem q5_good {bump:Int}{vt vp:Value}{most:Int}{wt:Bool}{vm:Value}{extra:Int}{bx:Nat}{s rb:Nat}{ga1:Option Addr}{na1 ca1:Nat}{ge1:Option Addr}{ne1 ce1:Nat}{u1 e1:Int}{t rc:Nat}{ga2:Option Addr}{na2 ca2:Nat}{ge2:Option Addr}{ne2 ce2:Nat}{vn1 vn2:Value}{sum:Int}{w:World}(hs:Cel w s [.int .i64 sum,vn1] 41)(ht:Cel w t [.int .i64 sum,vn2] 41)(hb:Cel w rb [.slice ga1 na1 ca1,.slice ge1 ne1 ce1,.int .i64 u1] 30)(hc:Cel w rc [.slice ga2 na2 ca2,.slice ge2 ne2 ce2,.int .i64 u1] 30):OrdG Try.prog q5ops (q5fin bump vt vp most wt vm extra bx s rb ga1 na1 ca1 ge1 ne1 ce1 u1 e1 t rc ga2 na2 ca2 ge2 ne2 ce2 vn1 vn2 sum) [] q5sp w:=by
 refine⟨fun i o ho hs'=>?_,fun i o g b ho hg=>?_⟩
 ·match i,ho,hs' with
  | 0,ho,_ =>
   obtain rfl:=so' ho;exact⟨37,⟨rfl,(by decide +kernel),nofun⟩,(show 37<161 by decide),fun a h τ δ=>ex_move rfl (h _ m0')⟩
  | 1,ho,_ =>
   obtain rfl:=so' ho;exact⟨38,⟨rfl,(by decide +kernel),nofun⟩,(show 38<161 by decide),fun a h τ δ=>ex_move rfl (h _ m0')⟩
  | 2,ho,_ =>
   obtain rfl:=so' ho;exact⟨39,⟨rfl,(by decide +kernel),nofun⟩,(show 39<161 by decide),fun a h τ δ=>ex_ne31 rfl (h _ m0') (h _ m1')⟩
  | 3,ho,_ =>
   obtain rfl:=so' ho;exact⟨40,⟨rfl,(by decide +kernel),nofun⟩,(show 40<161 by decide),fun a h τ δ=>ex_move rfl (h _ m0')⟩
  | 4,ho,_ =>
   obtain rfl:=so' ho;exact⟨41,⟨rfl,(by decide +kernel),nofun⟩,(show 41<161 by decide),fun a h τ δ=>ex_load (v:=(.agg #[.slice ga1 na1 ca1,.slice ge1 ne1 ce1,.int .i64 u1])) rfl (h _ m0') (ld30' hb)⟩
  | 5,ho,_ =>
   obtain rfl:=so' ho;exact⟨42,⟨rfl,(by decide +kernel),nofun⟩,(show 42<161 by decide),fun a h τ δ=>ex_load (v:=(.agg #[.slice ga2 na2 ca2,.slice ge2 ne2 ce2,.int .i64 u1])) rfl (h _ m0') (ld30' hc)⟩
  | 6,_,hs'=>cases hs'
  | 7,ho,_ =>
   obtain rfl:=so' ho;exact⟨44,⟨rfl,(by decide +kernel),nofun⟩,(show 44<161 by decide),fun a h τ δ=>pu_not (y:=true) rfl (h _ m0')⟩
  | 8,ho,_ =>
   obtain rfl:=so' ho;exact⟨45,⟨rfl,(by decide +kernel),nofun⟩,(show 45<161 by decide),fun a h τ δ=>ex_pickF rfl (h _ m0') (h _ m2')⟩
  | 9,ho,_ =>
   obtain rfl:=so' ho;exact⟨46,⟨rfl,(by decide +kernel),nofun⟩,(show 46<161 by decide),fun a h τ δ=>ex_move rfl (h _ m0')⟩
  | 10,ho,_ =>
   obtain rfl:=so' ho;exact⟨47,⟨rfl,(by decide +kernel),nofun⟩,(show 47<161 by decide),fun a h τ δ=>ex_move rfl (h _ m0')⟩
  | 11,ho,_ =>
   obtain rfl:=so' ho;exact⟨48,⟨rfl,(by decide +kernel),nofun⟩,(show 48<161 by decide),fun a h τ δ=>ex_nilc rfl (h _ m0')⟩
  | 12,ho,_ =>
   obtain rfl:=so' ho;exact⟨49,⟨rfl,(by decide +kernel),nofun⟩,(show 49<161 by decide),fun a h τ δ=>ex_field (v:=(ptrAt s 1)) rfl (h _ m0') (fld41 (by omega))⟩
  | 13,ho,_ =>
   obtain rfl:=so' ho;exact⟨50,⟨rfl,(by decide +kernel),nofun⟩,(show 50<161 by decide),fun a h τ δ=>ex_load (v:=vn1) rfl (h _ m0') (ld39 (hs.cell 1))⟩
  | 14,ho,_ =>
   obtain rfl:=so' ho;exact⟨51,⟨rfl,(by decide +kernel),nofun⟩,(show 51<161 by decide),fun a h τ δ=>ex_move rfl (h _ m0')⟩
  | 15,ho,_ =>
   obtain rfl:=so' ho;exact⟨52,⟨rfl,(by decide +kernel),nofun⟩,(show 52<161 by decide),fun a h τ δ=>ex_nilc rfl (h _ m0')⟩
  | 16,ho,_ =>
   obtain rfl:=so' ho;exact⟨53,⟨rfl,(by decide +kernel),nofun⟩,(show 53<161 by decide),fun a h τ δ=>ex_field (v:=(ptrAt t 1)) rfl (h _ m0') (fld41 (by omega))⟩
  | 17,ho,_ =>
   obtain rfl:=so' ho;exact⟨54,⟨rfl,(by decide +kernel),nofun⟩,(show 54<161 by decide),fun a h τ δ=>ex_load (v:=vn2) rfl (h _ m0') (ld39 (ht.cell 1))⟩
  | 18,_,hs'=>cases hs'
  | 19,ho,_ =>
   obtain rfl:=so' ho;exact⟨56,⟨rfl,(by decide +kernel),nofun⟩,(show 56<161 by decide),fun a h τ δ=>pu_not (y:=true) rfl (h _ m0')⟩
  | 20,ho,_ =>
   obtain rfl:=so' ho;exact⟨57,⟨rfl,(by decide +kernel),nofun⟩,(show 57<161 by decide),fun a h τ δ=>ex_pickF rfl (h _ m0') (h _ m2')⟩
  | 21,ho,_ =>
   obtain rfl:=so' ho;exact⟨58,⟨rfl,(by decide +kernel),nofun⟩,(show 58<161 by decide),fun a h τ δ=>ex_move rfl (h _ m0')⟩
  | 22,ho,_ =>
   obtain rfl:=so' ho;exact⟨59,⟨rfl,(by decide +kernel),nofun⟩,(show 59<161 by decide),fun a h τ δ=>ex_move rfl (h _ m0')⟩
  | 23,ho,_ =>
   obtain rfl:=so' ho;exact⟨60,⟨rfl,(by decide +kernel),nofun⟩,(show 60<161 by decide),fun a h τ δ=>ex_nilc rfl (h _ m0')⟩
  | 24,ho,_ =>
   obtain rfl:=so' ho;exact⟨61,⟨rfl,(by decide +kernel),nofun⟩,(show 61<161 by decide),fun a h τ δ=>ex_field (v:=(ptrAt s 0)) rfl (h _ m0') (fld41 (by omega))⟩
  | 25,ho,_ =>
   obtain rfl:=so' ho;exact⟨62,⟨rfl,(by decide +kernel),nofun⟩,(show 62<161 by decide),fun a h τ δ=>ex_load (v:=(.int .i64 sum)) rfl (h _ m0') (ld3 (hs.cell 0))⟩
  | 26,ho,_ =>
   obtain rfl:=so' ho;exact⟨63,⟨rfl,(by decide +kernel),nofun⟩,(show 63<161 by decide),fun a h τ δ=>ex_move rfl (h _ m0')⟩
  | 27,ho,_ =>
   obtain rfl:=so' ho;exact⟨64,⟨rfl,(by decide +kernel),nofun⟩,(show 64<161 by decide),fun a h τ δ=>ex_nilc rfl (h _ m0')⟩
  | 28,ho,_ =>
   obtain rfl:=so' ho;exact⟨65,⟨rfl,(by decide +kernel),nofun⟩,(show 65<161 by decide),fun a h τ δ=>ex_field (v:=(ptrAt t 0)) rfl (h _ m0') (fld41 (by omega))⟩
  | 29,ho,_ =>
   obtain rfl:=so' ho;exact⟨66,⟨rfl,(by decide +kernel),nofun⟩,(show 66<161 by decide),fun a h τ δ=>ex_load (v:=(.int .i64 sum)) rfl (h _ m0') (ld3 (ht.cell 0))⟩
  | 30,ho,_ =>
   obtain rfl:=so' ho;exact⟨67,⟨rfl,(by decide +kernel),nofun⟩,(show 67<161 by decide),fun a h τ δ=>ex_ne3 rfl (h _ m0') (h _ m1')⟩
  | 31,ho,_ =>
   obtain rfl:=so' ho;exact⟨68,⟨rfl,(by decide +kernel),nofun⟩,(show 68<161 by decide),fun a h τ δ=>ex_pickF rfl (h _ m0') (h _ m2')⟩
  | n+32,ho,_ =>
   have:=lt_of_op ho;exact absurd this (by show ¬ n+32<32;omega)
 ·match i,ho with
  | 0,ho =>
   obtain rfl:=so' ho;cases hg
  | 1,ho =>
   obtain rfl:=so' ho;cases hg
  | 2,ho =>
   obtain rfl:=so' ho;cases hg
  | 3,ho =>
   obtain rfl:=so' ho;cases hg
  | 4,ho =>
   obtain rfl:=so' ho;cases hg;exact⟨_,40,rfl,rfl,(show(40:Nat)<161 by decide),rfl⟩
  | 5,ho =>
   obtain rfl:=so' ho;cases hg;exact⟨_,40,rfl,rfl,(show(40:Nat)<161 by decide),rfl⟩
  | 6,ho =>
   obtain rfl:=so' ho;cases hg;exact⟨_,40,rfl,rfl,(show(40:Nat)<161 by decide),rfl⟩
  | 7,ho =>
   obtain rfl:=so' ho;cases hg;exact⟨_,40,rfl,rfl,(show(40:Nat)<161 by decide),rfl⟩
  | 8,ho =>
   obtain rfl:=so' ho;cases hg
  | 9,ho =>
   obtain rfl:=so' ho;cases hg
  | 10,ho =>
   obtain rfl:=so' ho;cases hg;exact⟨_,46,rfl,rfl,(show(46:Nat)<161 by decide),rfl⟩
  | 11,ho =>
   obtain rfl:=so' ho;cases hg;exact⟨_,46,rfl,rfl,(show(46:Nat)<161 by decide),rfl⟩
  | 12,ho =>
   obtain rfl:=so' ho;cases hg;exact⟨_,46,rfl,rfl,(show(46:Nat)<161 by decide),rfl⟩
  | 13,ho =>
   obtain rfl:=so' ho;cases hg;exact⟨_,46,rfl,rfl,(show(46:Nat)<161 by decide),rfl⟩
  | 14,ho =>
   obtain rfl:=so' ho;cases hg;exact⟨_,46,rfl,rfl,(show(46:Nat)<161 by decide),rfl⟩
  | 15,ho =>
   obtain rfl:=so' ho;cases hg;exact⟨_,46,rfl,rfl,(show(46:Nat)<161 by decide),rfl⟩
  | 16,ho =>
   obtain rfl:=so' ho;cases hg;exact⟨_,46,rfl,rfl,(show(46:Nat)<161 by decide),rfl⟩
  | 17,ho =>
   obtain rfl:=so' ho;cases hg;exact⟨_,46,rfl,rfl,(show(46:Nat)<161 by decide),rfl⟩
  | 18,ho =>
   obtain rfl:=so' ho;cases hg;exact⟨_,46,rfl,rfl,(show(46:Nat)<161 by decide),rfl⟩
  | 19,ho =>
   obtain rfl:=so' ho;cases hg;exact⟨_,46,rfl,rfl,(show(46:Nat)<161 by decide),rfl⟩
  | 20,ho =>
   obtain rfl:=so' ho;cases hg
  | 21,ho =>
   obtain rfl:=so' ho;cases hg
  | 22,ho =>
   obtain rfl:=so' ho;cases hg;exact⟨_,58,rfl,rfl,(show(58:Nat)<161 by decide),rfl⟩
  | 23,ho =>
   obtain rfl:=so' ho;cases hg;exact⟨_,58,rfl,rfl,(show(58:Nat)<161 by decide),rfl⟩
  | 24,ho =>
   obtain rfl:=so' ho;cases hg;exact⟨_,58,rfl,rfl,(show(58:Nat)<161 by decide),rfl⟩
  | 25,ho =>
   obtain rfl:=so' ho;cases hg;exact⟨_,58,rfl,rfl,(show(58:Nat)<161 by decide),rfl⟩
  | 26,ho =>
   obtain rfl:=so' ho;cases hg;exact⟨_,58,rfl,rfl,(show(58:Nat)<161 by decide),rfl⟩
  | 27,ho =>
   obtain rfl:=so' ho;cases hg;exact⟨_,58,rfl,rfl,(show(58:Nat)<161 by decide),rfl⟩
  | 28,ho =>
   obtain rfl:=so' ho;cases hg;exact⟨_,58,rfl,rfl,(show(58:Nat)<161 by decide),rfl⟩
  | 29,ho =>
   obtain rfl:=so' ho;cases hg;exact⟨_,58,rfl,rfl,(show(58:Nat)<161 by decide),rfl⟩
  | 30,ho =>
   obtain rfl:=so' ho;cases hg;exact⟨_,58,rfl,rfl,(show(58:Nat)<161 by decide),rfl⟩
  | 31,ho =>
   obtain rfl:=so' ho;cases hg
  | n+32,ho =>
   have:=lt_of_op ho;exact absurd this (by show ¬ n+32<32;omega)
theorem q5_runs {Post:Value→World→Prop}{cs:List Frame}{S0:SC}{bump:Int}{vt vp:Value}{most:Int}{wt:Bool}{vm:Value}{extra:Int}{bx:Nat}{s rb:Nat}{ga1:Option Addr}{na1 ca1:Nat}{ge1:Option Addr}{ne1 ce1:Nat}{u1 e1:Int}{t rc:Nat}{ga2:Option Addr}{na2 ca2:Nat}{ge2:Option Addr}{ne2 ce2:Nat}{vn1 vn2:Value}{sum:Int}{acts ends:List Nat}{notes:List Int}(hid:Idle S0)
  (hs:Cel S0.w s [.int .i64 sum,vn1] 41) (ht:Cel S0.w t [.int .i64 sum,vn2] 41) (hb:Cel S0.w rb [.slice ga1 na1 ca1,.slice ge1 ne1 ce1,.int .i64 u1] 30) (hc:Cel S0.w rc [.slice ga2 na2 ca2,.slice ge2 ne2 ce2,.int .i64 u1] 30)
  (ha1:Rd u8 S0.w (.slice ga1 na1 ca1) acts) (ha2:Rd u8 S0.w (.slice ga2 na2 ca2) acts) (he1:Rd u8 S0.w (.slice ge1 ne1 ce1) ends) (he2:Rd u8 S0.w (.slice ge2 ne2 ce2) ends) (hn1:Rd (fun x:Int=>Value.int .i64 x) S0.w vn1 notes) (hn2:Rd (fun x:Int=>Value.int .i64 x) S0.w vn2 notes) (la:acts.length<1099511627776) (le:ends.length<1099511627776) (ln:notes.length<1099511627776)
  (h:∀ S1 t,Later S0 S1→Sound Try.prog link.tWg Post 0 S1 (gs ((base 4).at ⟨agT vm extra bx s rb e1 t,[]⟩ [.code (sR (sR (sR (sR (sR c4)))))]) cs)) :
  Sound Try.prog link.tWg Post 0 S0 (gs ((base 4).at ⟨agTm bump vt vp most wt vm extra bx s rb ga1 na1 ca1 ge1 ne1 ce1 u1 e1 t rc ga2 na2 ca2 ge2 ne2 ce2 u1 e1,[]⟩ [.code (sL (sL (sR (sR (sR (sR c4)))))),.code (sR (sL (sR (sR (sR (sR c4)))))),.code (sR (sR (sR (sR (sR c4)))))]) cs):=by
 have hk:(base 4).kind≠.early:=nofun;show Sound Try.prog link.tWg Post 0 S0 (gs ((base 4).at ⟨agTm bump vt vp most wt vm extra bx s rb ga1 na1 ca1 ge1 ne1 ce1 u1 e1 t rc ga2 na2 ca2 ge2 ne2 ce2 u1 e1,[]⟩ (.code (.region 5 q5ops true)::[.code (sR (sL (sR (sR (sR (sR c4)))))),.code (sR (sR (sR (sR (sR c4)))))])) cs);refine ord_begin fits mixed fun q9=>?_;refine ord_run (sp:=q5sp) fits hk (by decide +kernel) (by decide +kernel) (by decide +kernel) (by decide +kernel) (fun fin _ S=>fin=q5fin bump vt vp most wt vm extra bx s rb ga1 na1 ca1 ge1 ne1 ce1 u1 e1 t rc ga2 na2 ca2 ge2 ne2 ce2 vn1 vn2 sum∧Later S0 S) (fun fin li S hJ=>?_) (fun fin li S i hJ hr hs=>hJ) (fun fin li tm S i o rest hJ hI hr' hs' ho hw hev hgo=>?_) (fun fin li S hJ hall=>?_) _ q9 _ _ _ S0 ⟨rfl,Later.refl hid⟩ (OInv.init [(37,(.int .i64 e1)),(38,(.int .i64 e1)),(39,(.bool false)),(40,(.bool false)),(41,(.agg #[.slice ga1 na1 ca1,.slice ge1 ne1 ce1,.int .i64 u1])),(42,(.agg #[.slice ga2 na2 ca2,.slice ge2 ne2 ce2,.int .i64 u1])),(43,(.bool true)),(44,(.bool false)),(45,(.bool false)),(46,(.bool false)),(47,(ptr s)),(48,(ptr s)),(49,(ptrAt s 1)),(50,vn1),(51,(ptr t)),(52,(ptr t)),(53,(ptrAt t 1)),(54,vn2),(55,(.bool true)),(56,(.bool false)),(57,(.bool false)),(58,(.bool false)),(59,(ptr s)),(60,(ptr s)),(61,(ptrAt s 0)),(62,(.int .i64 sum)),(63,(ptr t)),(64,(ptr t)),(65,(ptrAt t 0)),(66,(.int .i64 sum)),(67,(.bool false)),(68,(.bool false))] (by simp[q5fin,agTm]) (show([37,38,39,40,41,42,43,44,45,46,47,48,49,50,51,52,53,54,55,56,57,58,59,60,61,62,63,64,65,66,67,68]:List Tmp).all (fun d=>q5ops.any fun o=>o.dst==some d)=true by decide +kernel)) leftN_init
 ·obtain⟨rfl,L⟩:=hJ
  exact q5_good (L.kp.cel hs (by simp)) (L.kp.cel ht (by simp)) (L.kp.cel hb (by simp)) (L.kp.cel hc (by simp))
 ·obtain⟨rfl,L⟩:=hJ
  have hcase:i=6∨i=18:=by
   simp only[q5sp,Bool.or_eq_true,beq_iff_eq] at hs';omega
  have hK:=clS (Post:=Post) S;rcases hcase with rfl | rfl
  ·have hoo:=ho
   obtain rfl:=oj' (show some _=some o from hoo);have q1:Act.eval ⟨tm,[]⟩ (.tmp 41)=(.agg #[.slice ga1 na1 ca1,.slice ge1 ne1 ce1,.int .i64 u1]):=hev _ (show Operand.tmp 41∈(#[Operand.func 10,Operand.tmp 41,Operand.tmp 42]:Array Operand) by simp);have q2:Act.eval ⟨tm,[]⟩ (.tmp 42)=(.agg #[.slice ga2 na2 ca2,.slice ge2 ne2 ce2,.int .i64 u1]):=hev _ (show Operand.tmp 42∈(#[Operand.func 10,Operand.tmp 41,Operand.tmp 42]:Array Operand) by simp);refine sound_enter fits hk ho hw (by decide +kernel) nofun (fun w=>x_call (args:=#[.agg #[.slice ga1 na1 ca1,.slice ge1 ne1 ce1,.int .i64 u1],.agg #[.slice ga2 na2 ca2,.slice ge2 ne2 ce2,.int .i64 u1]]) rfl rfl Try.func10 rfl rfl (by show [Act.eval ⟨tm,[]⟩ (.tmp 41),Act.eval ⟨tm,[]⟩ (.tmp 42)]++[]=_;rw[q1,q2];rfl)) ?_;refine ks (S:=S) (hK.call fits shut (f:=10) rfl (R:=fun v w'=>v=.bool true∧Kp [] S.w w') (fun v w τ d ⟨q1,q2⟩=>⟨q1,⟨q2.size,q2.block⟩⟩) (fun τ d=>?_) ?_) rfl
   ·have kk:Kp [] S0.w (Lift.re S.w τ d):=⟨L.kp.size,L.kp.block⟩
    refine(same_calls (Lift.re S.w τ d) _ _ acts ends acts ends u1 u1 ⟨_,_,rfl,ha1.kp kk (by simp),he1.kp kk (by simp)⟩ ⟨_,_,rfl,ha2.kp kk (by simp),he2.kp kk (by simp)⟩ la la le le).mono fun e w' ⟨q1,q2⟩=>⟨_,q1,?_,⟨q2.size,q2.block⟩⟩;rw[decide_eq_true ⟨rfl,rfl,rfl⟩]
   ·rintro v w' ⟨rfl,k⟩
    refine fin_at (Kn:=fun _=>KS Try.prog link.tWg Post 0 S) (n:=0) ho rfl ?_;exact hgo _ _ { S with w:=w'} (hI.put (by decide +kernel) ho rfl (show(43:Nat)<161 by decide) hr') ⟨rfl,L.kp' k⟩
  ·have hoo:=ho
   obtain rfl:=oj' (show some _=some o from hoo);have q1:Act.eval ⟨tm,[]⟩ (.tmp 50)=vn1:=hev _ (show Operand.tmp 50∈(#[Operand.func 11,Operand.tmp 50,Operand.tmp 54]:Array Operand) by simp);have q2:Act.eval ⟨tm,[]⟩ (.tmp 54)=vn2:=hev _ (show Operand.tmp 54∈(#[Operand.func 11,Operand.tmp 50,Operand.tmp 54]:Array Operand) by simp);refine sound_enter fits hk ho hw (by decide +kernel) nofun (fun w=>x_call (args:=#[vn1,vn2]) rfl rfl Try.func11 rfl rfl (by show [Act.eval ⟨tm,[]⟩ (.tmp 50),Act.eval ⟨tm,[]⟩ (.tmp 54)]++[]=_;rw[q1,q2];rfl)) ?_;refine ks (S:=S) (hK.call fits shut (f:=11) rfl (R:=fun v w'=>v=.bool true∧Kp [] S.w w') (fun v w τ d ⟨q1,q2⟩=>⟨q1,⟨q2.size,q2.block⟩⟩) (fun τ d=>?_) ?_) rfl
   ·have kk:Kp [] S0.w (Lift.re S.w τ d):=⟨L.kp.size,L.kp.block⟩
    refine(ints_calls (Lift.re S.w τ d) vn1 vn2 notes notes (hn1.kp kk (by simp)) (hn2.kp kk (by simp)) ln ln).mono fun e w' ⟨q1,n,q2⟩=>⟨_,q1,by rw[decide_eq_true rfl],?_⟩;rw[q2];exact⟨Nat.le_refl _,fun _ _ _=>rfl⟩
   ·rintro v w' ⟨rfl,k⟩
    refine fin_at (Kn:=fun _=>KS Try.prog link.tWg Post 0 S) (n:=0) ho rfl ?_;exact hgo _ _ { S with w:=w'} (hI.put (by decide +kernel) ho rfl (show(55:Nat)<161 by decide) hr') ⟨rfl,L.kp' k⟩
 ·obtain⟨rfl,L⟩:=hJ
  have hD:=(clS (Post:=Post) S).det;refine ks (S:=S) (hD.regionEnd (n:=0) ?_) rfl;refine hD.cond (n:=0) false rfl rfl ?_;refine hD.k0 ?_;exact h S (fun i=>(q5fin bump vt vp most wt vm extra bx s rb ga1 na1 ca1 ge1 ne1 ce1 u1 e1 t rc ga2 na2 ca2 ge2 ne2 ce2 vn1 vn2 sum).getD i undef) L
def q20ops:Array Oper:=sO (sL (sR (sR (sR (sR (sR (sR (sR (sR (sR (sR (sR c4))))))))))))
def q20sp (i:Nat):Bool:=i==6||i==17
def q20fin (s rb:Nat)(ga1:Option Addr)(na1 ca1:Nat)(ge1:Option Addr)(ne1 ce1:Nat)(u1 e1:Int)(q rd:Nat)(ga2:Option Addr)(na2 ca2:Nat)(ge2:Option Addr)(ne2 ce2:Nat)(vn1 vn2:Value)(sum:Int)(x:Nat→Value):Array Value:=#[x 0,x 1,x 2,x 3,x 4,x 5,.bool true,ptr s,ptr rb,.int .i64 e1,x 10,x 11,x 12,x 13,x 14,x 15,x 16,ptr q,ptr rd,.int .i64 e1,x 20,x 21,x 22,x 23,x 24,x 25,x 26,x 27,x 28,x 29,x 30,x 31,x 32,x 33,x 34,x 35,x 36,x 37,x 38,x 39,x 40,x 41,x 42,x 43,x 44,x 45,x 46,x 47,x 48,x 49,x 50,x 51,x 52,x 53,x 54,x 55,x 56,x 57,x 58,x 59,x 60,x 61,x 62,x 63,x 64,x 65,x 66,x 67,x 68,x 69,x 70,x 71,x 72,x 73,x 74,x 75,x 76,x 77,x 78,x 79,x 80,x 81,x 82,x 83,x 84,x 85,x 86,x 87,x 88,x 89,x 90,x 91,x 92,x 93,x 94,x 95,x 96,x 97,x 98,x 99,x 100,x 101,x 102,x 103,x 104,x 105,x 106,x 107,x 108,x 109,x 110,x 111,x 112,x 113,x 114,x 115,x 116,x 117,x 118,x 119,x 120,x 121,x 122,x 123,x 124,x 125,x 126,x 127,x 128,x 129,x 130,.int .i64 e1,.int .i64 e1,.bool true,.bool true,.agg #[.slice ga1 na1 ca1,.slice ge1 ne1 ce1,.int .i64 u1],.agg #[.slice ga2 na2 ca2,.slice ge2 ne2 ce2,.int .i64 u1],.bool true,.bool true,.bool true,ptr s,ptr s,ptrAt s 1,vn1,ptr q,ptr q,ptrAt q 1,vn2,.bool true,.bool true,.bool true,ptr s,ptr s,ptrAt s 0,.int .i64 sum,ptr q,ptr q,ptrAt q 0,.int .i64 sum,.bool true,.bool true]
theorem q20_good {s rb:Nat}{ga1:Option Addr}{na1 ca1:Nat}{ge1:Option Addr}{ne1 ce1:Nat}{u1 e1:Int}{q rd:Nat}{ga2:Option Addr}{na2 ca2:Nat}{ge2:Option Addr}{ne2 ce2:Nat}{vn1 vn2:Value}{sum:Int}{x:Nat→Value}{w:World}(hs:Cel w s [.int .i64 sum,vn1] 41)(ht:Cel w q [.int .i64 sum,vn2] 41)(hb:Cel w rb [.slice ga1 na1 ca1,.slice ge1 ne1 ce1,.int .i64 u1] 30)(hc:Cel w rd [.slice ga2 na2 ca2,.slice ge2 ne2 ce2,.int .i64 u1] 30):OrdG Try.prog q20ops (q20fin s rb ga1 na1 ca1 ge1 ne1 ce1 u1 e1 q rd ga2 na2 ca2 ge2 ne2 ce2 vn1 vn2 sum x) [] q20sp w:=by
 refine⟨fun i o ho hs'=>?_,fun i o g b ho hg=>?_⟩
 ·match i,ho,hs' with
  | 0,ho,_ =>
   obtain rfl:=so' ho;exact⟨131,⟨rfl,(by decide +kernel),nofun⟩,(show 131<161 by decide),fun a h τ δ=>ex_move rfl (h _ m0')⟩
  | 1,ho,_ =>
   obtain rfl:=so' ho;exact⟨132,⟨rfl,(by decide +kernel),nofun⟩,(show 132<161 by decide),fun a h τ δ=>ex_move rfl (h _ m0')⟩
  | 2,ho,_ =>
   obtain rfl:=so' ho;exact⟨133,⟨rfl,(by decide +kernel),nofun⟩,(show 133<161 by decide),fun a h τ δ=>ex_eq31 rfl (h _ m0') (h _ m1')⟩
  | 3,ho,_ =>
   obtain rfl:=so' ho;exact⟨134,⟨rfl,(by decide +kernel),nofun⟩,(show 134<161 by decide),fun a h τ δ=>ex_move rfl (h _ m0')⟩
  | 4,ho,_ =>
   obtain rfl:=so' ho;exact⟨135,⟨rfl,(by decide +kernel),nofun⟩,(show 135<161 by decide),fun a h τ δ=>ex_load (v:=(.agg #[.slice ga1 na1 ca1,.slice ge1 ne1 ce1,.int .i64 u1])) rfl (h _ m0') (ld30' hb)⟩
  | 5,ho,_ =>
   obtain rfl:=so' ho;exact⟨136,⟨rfl,(by decide +kernel),nofun⟩,(show 136<161 by decide),fun a h τ δ=>ex_load (v:=(.agg #[.slice ga2 na2 ca2,.slice ge2 ne2 ce2,.int .i64 u1])) rfl (h _ m0') (ld30' hc)⟩
  | 6,_,hs'=>cases hs'
  | 7,ho,_ =>
   obtain rfl:=so' ho;exact⟨138,⟨rfl,(by decide +kernel),nofun⟩,(show 138<161 by decide),fun a h τ δ=>ex_pick rfl (h _ m0') (h _ m1')⟩
  | 8,ho,_ =>
   obtain rfl:=so' ho;exact⟨139,⟨rfl,(by decide +kernel),nofun⟩,(show 139<161 by decide),fun a h τ δ=>ex_move rfl (h _ m0')⟩
  | 9,ho,_ =>
   obtain rfl:=so' ho;exact⟨140,⟨rfl,(by decide +kernel),nofun⟩,(show 140<161 by decide),fun a h τ δ=>ex_move rfl (h _ m0')⟩
  | 10,ho,_ =>
   obtain rfl:=so' ho;exact⟨141,⟨rfl,(by decide +kernel),nofun⟩,(show 141<161 by decide),fun a h τ δ=>ex_nilc rfl (h _ m0')⟩
  | 11,ho,_ =>
   obtain rfl:=so' ho;exact⟨142,⟨rfl,(by decide +kernel),nofun⟩,(show 142<161 by decide),fun a h τ δ=>ex_field (v:=(ptrAt s 1)) rfl (h _ m0') (fld41 (by omega))⟩
  | 12,ho,_ =>
   obtain rfl:=so' ho;exact⟨143,⟨rfl,(by decide +kernel),nofun⟩,(show 143<161 by decide),fun a h τ δ=>ex_load (v:=vn1) rfl (h _ m0') (ld39 (hs.cell 1))⟩
  | 13,ho,_ =>
   obtain rfl:=so' ho;exact⟨144,⟨rfl,(by decide +kernel),nofun⟩,(show 144<161 by decide),fun a h τ δ=>ex_move rfl (h _ m0')⟩
  | 14,ho,_ =>
   obtain rfl:=so' ho;exact⟨145,⟨rfl,(by decide +kernel),nofun⟩,(show 145<161 by decide),fun a h τ δ=>ex_nilc rfl (h _ m0')⟩
  | 15,ho,_ =>
   obtain rfl:=so' ho;exact⟨146,⟨rfl,(by decide +kernel),nofun⟩,(show 146<161 by decide),fun a h τ δ=>ex_field (v:=(ptrAt q 1)) rfl (h _ m0') (fld41 (by omega))⟩
  | 16,ho,_ =>
   obtain rfl:=so' ho;exact⟨147,⟨rfl,(by decide +kernel),nofun⟩,(show 147<161 by decide),fun a h τ δ=>ex_load (v:=vn2) rfl (h _ m0') (ld39 (ht.cell 1))⟩
  | 17,_,hs'=>cases hs'
  | 18,ho,_ =>
   obtain rfl:=so' ho;exact⟨149,⟨rfl,(by decide +kernel),nofun⟩,(show 149<161 by decide),fun a h τ δ=>ex_pick rfl (h _ m0') (h _ m1')⟩
  | 19,ho,_ =>
   obtain rfl:=so' ho;exact⟨150,⟨rfl,(by decide +kernel),nofun⟩,(show 150<161 by decide),fun a h τ δ=>ex_move rfl (h _ m0')⟩
  | 20,ho,_ =>
   obtain rfl:=so' ho;exact⟨151,⟨rfl,(by decide +kernel),nofun⟩,(show 151<161 by decide),fun a h τ δ=>ex_move rfl (h _ m0')⟩
  | 21,ho,_ =>
   obtain rfl:=so' ho;exact⟨152,⟨rfl,(by decide +kernel),nofun⟩,(show 152<161 by decide),fun a h τ δ=>ex_nilc rfl (h _ m0')⟩
  | 22,ho,_ =>
   obtain rfl:=so' ho;exact⟨153,⟨rfl,(by decide +kernel),nofun⟩,(show 153<161 by decide),fun a h τ δ=>ex_field (v:=(ptrAt s 0)) rfl (h _ m0') (fld41 (by omega))⟩
  | 23,ho,_ =>
   obtain rfl:=so' ho;exact⟨154,⟨rfl,(by decide +kernel),nofun⟩,(show 154<161 by decide),fun a h τ δ=>ex_load (v:=(.int .i64 sum)) rfl (h _ m0') (ld3 (hs.cell 0))⟩
  | 24,ho,_ =>
   obtain rfl:=so' ho;exact⟨155,⟨rfl,(by decide +kernel),nofun⟩,(show 155<161 by decide),fun a h τ δ=>ex_move rfl (h _ m0')⟩
  | 25,ho,_ =>
   obtain rfl:=so' ho;exact⟨156,⟨rfl,(by decide +kernel),nofun⟩,(show 156<161 by decide),fun a h τ δ=>ex_nilc rfl (h _ m0')⟩
  | 26,ho,_ =>
   obtain rfl:=so' ho;exact⟨157,⟨rfl,(by decide +kernel),nofun⟩,(show 157<161 by decide),fun a h τ δ=>ex_field (v:=(ptrAt q 0)) rfl (h _ m0') (fld41 (by omega))⟩
  | 27,ho,_ =>
   obtain rfl:=so' ho;exact⟨158,⟨rfl,(by decide +kernel),nofun⟩,(show 158<161 by decide),fun a h τ δ=>ex_load (v:=(.int .i64 sum)) rfl (h _ m0') (ld3 (ht.cell 0))⟩
  | 28,ho,_ =>
   obtain rfl:=so' ho;exact⟨159,⟨rfl,(by decide +kernel),nofun⟩,(show 159<161 by decide),fun a h τ δ=>ex_eq3 rfl (h _ m0') (h _ m1')⟩
  | 29,ho,_ =>
   obtain rfl:=so' ho;exact⟨160,⟨rfl,(by decide +kernel),nofun⟩,(show 160<161 by decide),fun a h τ δ=>ex_pick rfl (h _ m0') (h _ m1')⟩
  | 30,ho,_ =>
   obtain rfl:=so' ho;exact⟨6,⟨rfl,(by decide +kernel),nofun⟩,(show 6<161 by decide),fun a h τ δ=>ex_assign rfl (h _ m0')⟩
  | n+31,ho,_ =>
   have:=lt_of_op ho;exact absurd this (by show ¬ n+31<31;omega)
 ·match i,ho with
  | 0,ho =>
   obtain rfl:=so' ho;cases hg
  | 1,ho =>
   obtain rfl:=so' ho;cases hg
  | 2,ho =>
   obtain rfl:=so' ho;cases hg
  | 3,ho =>
   obtain rfl:=so' ho;cases hg
  | 4,ho =>
   obtain rfl:=so' ho;cases hg;exact⟨_,134,rfl,rfl,(show(134:Nat)<161 by decide),rfl⟩
  | 5,ho =>
   obtain rfl:=so' ho;cases hg;exact⟨_,134,rfl,rfl,(show(134:Nat)<161 by decide),rfl⟩
  | 6,ho =>
   obtain rfl:=so' ho;cases hg;exact⟨_,134,rfl,rfl,(show(134:Nat)<161 by decide),rfl⟩
  | 7,ho =>
   obtain rfl:=so' ho;cases hg
  | 8,ho =>
   obtain rfl:=so' ho;cases hg
  | 9,ho =>
   obtain rfl:=so' ho;cases hg;exact⟨_,139,rfl,rfl,(show(139:Nat)<161 by decide),rfl⟩
  | 10,ho =>
   obtain rfl:=so' ho;cases hg;exact⟨_,139,rfl,rfl,(show(139:Nat)<161 by decide),rfl⟩
  | 11,ho =>
   obtain rfl:=so' ho;cases hg;exact⟨_,139,rfl,rfl,(show(139:Nat)<161 by decide),rfl⟩
  | 12,ho =>
   obtain rfl:=so' ho;cases hg;exact⟨_,139,rfl,rfl,(show(139:Nat)<161 by decide),rfl⟩
  | 13,ho =>
   obtain rfl:=so' ho;cases hg;exact⟨_,139,rfl,rfl,(show(139:Nat)<161 by decide),rfl⟩
  | 14,ho =>
   obtain rfl:=so' ho;cases hg;exact⟨_,139,rfl,rfl,(show(139:Nat)<161 by decide),rfl⟩
  | 15,ho =>
   obtain rfl:=so' ho;cases hg;exact⟨_,139,rfl,rfl,(show(139:Nat)<161 by decide),rfl⟩
  | 16,ho =>
   obtain rfl:=so' ho;cases hg;exact⟨_,139,rfl,rfl,(show(139:Nat)<161 by decide),rfl⟩
  | 17,ho =>
   obtain rfl:=so' ho;cases hg;exact⟨_,139,rfl,rfl,(show(139:Nat)<161 by decide),rfl⟩
  | 18,ho =>
   obtain rfl:=so' ho;cases hg
  | 19,ho =>
   obtain rfl:=so' ho;cases hg
  | 20,ho =>
   obtain rfl:=so' ho;cases hg;exact⟨_,150,rfl,rfl,(show(150:Nat)<161 by decide),rfl⟩
  | 21,ho =>
   obtain rfl:=so' ho;cases hg;exact⟨_,150,rfl,rfl,(show(150:Nat)<161 by decide),rfl⟩
  | 22,ho =>
   obtain rfl:=so' ho;cases hg;exact⟨_,150,rfl,rfl,(show(150:Nat)<161 by decide),rfl⟩
  | 23,ho =>
   obtain rfl:=so' ho;cases hg;exact⟨_,150,rfl,rfl,(show(150:Nat)<161 by decide),rfl⟩
  | 24,ho =>
   obtain rfl:=so' ho;cases hg;exact⟨_,150,rfl,rfl,(show(150:Nat)<161 by decide),rfl⟩
  | 25,ho =>
   obtain rfl:=so' ho;cases hg;exact⟨_,150,rfl,rfl,(show(150:Nat)<161 by decide),rfl⟩
  | 26,ho =>
   obtain rfl:=so' ho;cases hg;exact⟨_,150,rfl,rfl,(show(150:Nat)<161 by decide),rfl⟩
  | 27,ho =>
   obtain rfl:=so' ho;cases hg;exact⟨_,150,rfl,rfl,(show(150:Nat)<161 by decide),rfl⟩
  | 28,ho =>
   obtain rfl:=so' ho;cases hg;exact⟨_,150,rfl,rfl,(show(150:Nat)<161 by decide),rfl⟩
  | 29,ho =>
   obtain rfl:=so' ho;cases hg
  | 30,ho =>
   obtain rfl:=so' ho;cases hg
  | n+31,ho =>
   have:=lt_of_op ho;exact absurd this (by show ¬ n+31<31;omega)
theorem q20_runs {Post:Value→World→Prop}{cs:List Frame}{S0:SC}{s rb:Nat}{ga1:Option Addr}{na1 ca1:Nat}{ge1:Option Addr}{ne1 ce1:Nat}{u1 e1:Int}{q rd:Nat}{ga2:Option Addr}{na2 ca2:Nat}{ge2:Option Addr}{ne2 ce2:Nat}{vn1 vn2:Value}{sum:Int}{x:Nat→Value}{acts ends:List Nat}{notes:List Int}(hid:Idle S0)
  (hs:Cel S0.w s [.int .i64 sum,vn1] 41) (ht:Cel S0.w q [.int .i64 sum,vn2] 41) (hb:Cel S0.w rb [.slice ga1 na1 ca1,.slice ge1 ne1 ce1,.int .i64 u1] 30) (hc:Cel S0.w rd [.slice ga2 na2 ca2,.slice ge2 ne2 ce2,.int .i64 u1] 30)
  (ha1:Rd u8 S0.w (.slice ga1 na1 ca1) acts) (ha2:Rd u8 S0.w (.slice ga2 na2 ca2) acts) (he1:Rd u8 S0.w (.slice ge1 ne1 ce1) ends) (he2:Rd u8 S0.w (.slice ge2 ne2 ce2) ends) (hn1:Rd (fun x:Int=>Value.int .i64 x) S0.w vn1 notes) (hn2:Rd (fun x:Int=>Value.int .i64 x) S0.w vn2 notes) (la:acts.length<1099511627776) (le:ends.length<1099511627776) (ln:notes.length<1099511627776)
  (h:∀ S1 t,Later S0 S1→∀ todo,t.getD 6 undef=.bool true→Sound Try.prog link.tWg Post 0 S1 (gs { (base 4).at ⟨t,[]⟩ todo with mode:=.returning} cs)) :
  Sound Try.prog link.tWg Post 0 S0 (gs ((base 4).at ⟨agZ s rb e1 q rd e1 x,[]⟩ [.code (sL (sR (sR (sR (sR (sR (sR (sR (sR (sR (sR (sR c4)))))))))))),.code (sR (sR (sR (sR (sR (sR (sR (sR (sR (sR (sR (sR c4))))))))))))]) cs):=by
 have hk:(base 4).kind≠.early:=nofun;show Sound Try.prog link.tWg Post 0 S0 (gs ((base 4).at ⟨agZ s rb e1 q rd e1 x,[]⟩ (.code (.region 20 q20ops true)::[.code (sR (sR (sR (sR (sR (sR (sR (sR (sR (sR (sR (sR c4))))))))))))])) cs);refine ord_begin fits mixed fun q9=>?_;refine ord_run (sp:=q20sp) fits hk (by decide +kernel) (by decide +kernel) (by decide +kernel) (by decide +kernel) (fun fin _ S=>fin=q20fin s rb ga1 na1 ca1 ge1 ne1 ce1 u1 e1 q rd ga2 na2 ca2 ge2 ne2 ce2 vn1 vn2 sum x∧Later S0 S) (fun fin li S hJ=>?_) (fun fin li S i hJ hr hs=>hJ) (fun fin li tm S i o rest hJ hI hr' hs' ho hw hev hgo=>?_) (fun fin li S hJ hall=>?_) _ q9 _ _ _ S0 ⟨rfl,Later.refl hid⟩ (OInv.init [(6,(.bool true)),(131,(.int .i64 e1)),(132,(.int .i64 e1)),(133,(.bool true)),(134,(.bool true)),(135,(.agg #[.slice ga1 na1 ca1,.slice ge1 ne1 ce1,.int .i64 u1])),(136,(.agg #[.slice ga2 na2 ca2,.slice ge2 ne2 ce2,.int .i64 u1])),(137,(.bool true)),(138,(.bool true)),(139,(.bool true)),(140,(ptr s)),(141,(ptr s)),(142,(ptrAt s 1)),(143,vn1),(144,(ptr q)),(145,(ptr q)),(146,(ptrAt q 1)),(147,vn2),(148,(.bool true)),(149,(.bool true)),(150,(.bool true)),(151,(ptr s)),(152,(ptr s)),(153,(ptrAt s 0)),(154,(.int .i64 sum)),(155,(ptr q)),(156,(ptr q)),(157,(ptrAt q 0)),(158,(.int .i64 sum)),(159,(.bool true)),(160,(.bool true))] (by simp[q20fin,agZ]) (show([6,131,132,133,134,135,136,137,138,139,140,141,142,143,144,145,146,147,148,149,150,151,152,153,154,155,156,157,158,159,160]:List Tmp).all (fun d=>q20ops.any fun o=>o.dst==some d)=true by decide +kernel)) leftN_init
 ·obtain⟨rfl,L⟩:=hJ
  exact q20_good (L.kp.cel hs (by simp)) (L.kp.cel ht (by simp)) (L.kp.cel hb (by simp)) (L.kp.cel hc (by simp))
 ·obtain⟨rfl,L⟩:=hJ
  have hcase:i=6∨i=17:=by
   simp only[q20sp,Bool.or_eq_true,beq_iff_eq] at hs';omega
  have hK:=clS (Post:=Post) S;rcases hcase with rfl | rfl
  ·have hoo:=ho
   obtain rfl:=oj' (show some _=some o from hoo);have q1:Act.eval ⟨tm,[]⟩ (.tmp 135)=(.agg #[.slice ga1 na1 ca1,.slice ge1 ne1 ce1,.int .i64 u1]):=hev _ (show Operand.tmp 135∈(#[Operand.func 10,Operand.tmp 135,Operand.tmp 136]:Array Operand) by simp);have q2:Act.eval ⟨tm,[]⟩ (.tmp 136)=(.agg #[.slice ga2 na2 ca2,.slice ge2 ne2 ce2,.int .i64 u1]):=hev _ (show Operand.tmp 136∈(#[Operand.func 10,Operand.tmp 135,Operand.tmp 136]:Array Operand) by simp);refine sound_enter fits hk ho hw (by decide +kernel) nofun (fun w=>x_call (args:=#[.agg #[.slice ga1 na1 ca1,.slice ge1 ne1 ce1,.int .i64 u1],.agg #[.slice ga2 na2 ca2,.slice ge2 ne2 ce2,.int .i64 u1]]) rfl rfl Try.func10 rfl rfl (by show [Act.eval ⟨tm,[]⟩ (.tmp 135),Act.eval ⟨tm,[]⟩ (.tmp 136)]++[]=_;rw[q1,q2];rfl)) ?_;refine ks (S:=S) (hK.call fits shut (f:=10) rfl (R:=fun v w'=>v=.bool true∧Kp [] S.w w') (fun v w τ d ⟨q1,q2⟩=>⟨q1,⟨q2.size,q2.block⟩⟩) (fun τ d=>?_) ?_) rfl
   ·have kk:Kp [] S0.w (Lift.re S.w τ d):=⟨L.kp.size,L.kp.block⟩
    refine(same_calls (Lift.re S.w τ d) _ _ acts ends acts ends u1 u1 ⟨_,_,rfl,ha1.kp kk (by simp),he1.kp kk (by simp)⟩ ⟨_,_,rfl,ha2.kp kk (by simp),he2.kp kk (by simp)⟩ la la le le).mono fun e w' ⟨q1,q2⟩=>⟨_,q1,?_,⟨q2.size,q2.block⟩⟩;rw[decide_eq_true ⟨rfl,rfl,rfl⟩]
   ·rintro v w' ⟨rfl,k⟩
    refine fin_at (Kn:=fun _=>KS Try.prog link.tWg Post 0 S) (n:=0) ho rfl ?_;exact hgo _ _ { S with w:=w'} (hI.put (by decide +kernel) ho rfl (show(137:Nat)<161 by decide) hr') ⟨rfl,L.kp' k⟩
  ·have hoo:=ho
   obtain rfl:=oj' (show some _=some o from hoo);have q1:Act.eval ⟨tm,[]⟩ (.tmp 143)=vn1:=hev _ (show Operand.tmp 143∈(#[Operand.func 11,Operand.tmp 143,Operand.tmp 147]:Array Operand) by simp);have q2:Act.eval ⟨tm,[]⟩ (.tmp 147)=vn2:=hev _ (show Operand.tmp 147∈(#[Operand.func 11,Operand.tmp 143,Operand.tmp 147]:Array Operand) by simp);refine sound_enter fits hk ho hw (by decide +kernel) nofun (fun w=>x_call (args:=#[vn1,vn2]) rfl rfl Try.func11 rfl rfl (by show [Act.eval ⟨tm,[]⟩ (.tmp 143),Act.eval ⟨tm,[]⟩ (.tmp 147)]++[]=_;rw[q1,q2];rfl)) ?_;refine ks (S:=S) (hK.call fits shut (f:=11) rfl (R:=fun v w'=>v=.bool true∧Kp [] S.w w') (fun v w τ d ⟨q1,q2⟩=>⟨q1,⟨q2.size,q2.block⟩⟩) (fun τ d=>?_) ?_) rfl
   ·have kk:Kp [] S0.w (Lift.re S.w τ d):=⟨L.kp.size,L.kp.block⟩
    refine(ints_calls (Lift.re S.w τ d) vn1 vn2 notes notes (hn1.kp kk (by simp)) (hn2.kp kk (by simp)) ln ln).mono fun e w' ⟨q1,n,q2⟩=>⟨_,q1,by rw[decide_eq_true rfl],?_⟩;rw[q2];exact⟨Nat.le_refl _,fun _ _ _=>rfl⟩
   ·rintro v w' ⟨rfl,k⟩
    refine fin_at (Kn:=fun _=>KS Try.prog link.tWg Post 0 S) (n:=0) ho rfl ?_;exact hgo _ _ { S with w:=w'} (hI.put (by decide +kernel) ho rfl (show(148:Nat)<161 by decide) hr') ⟨rfl,L.kp' k⟩
 ·obtain⟨rfl,L⟩:=hJ
  have hD:=(clS (Post:=Post) S).det;refine ks (S:=S) (hD.regionEnd (n:=0) ?_) rfl;refine hD.ret (n:=0) ?_;exact h S _ L _ rfl
open Go.ConcN (sumTo)
theorem Rd.kpy {α:Type}{f:α→Value}{w w':World}{v:Value}{xs:List α}{y:Nat}(h:Rd f w v xs)(k:Kp [y] w w')(hy:w.heap.size≤y):Rd f w' v xs:=h.kp k (by simpa using hy)
structure AgM (w:World)(s rb:Nat)(ga:Option Addr)(na ca:Nat)(ge:Option Addr)(ne ce:Nat)(R:PlR)(vn:Value):Prop where
 hs:Cel w s [.int .i64 R.sum,vn] 41
 hb:Cel w rb [.slice ga na ca,.slice ge ne ce,.int .i64 (R.used:Nat)] 30
 ha:Rd u8 w (.slice ga na ca) R.acts
 he:Rd u8 w (.slice ge ne ce) R.ends
 hn:Rd (fun x:Int=>Value.int .i64 x) w vn R.notes
section
variable {w w':World}{s rb:Nat}{ga ge:Option Addr}{na ca ne ce:Nat}{R:PlR}{vn:Value}
theorem AgM.kp {F:List Nat}(h:AgM w s rb ga na ca ge ne ce R vn)(k:Kp F w w')(hf:∀ x∈F,w.heap.size≤x):AgM w' s rb ga na ca ge ne ce R vn:=by
 have h1:s∉F:=fun hm=>by have:=hf _ hm;have:=h.hs.lt;omega
 have h2:rb∉F:=fun hm=>by have:=hf _ hm;have:=h.hb.lt;omega
 exact⟨k.cel h.hs h1,k.cel h.hb h2,h.ha.kp k hf,h.he.kp k hf,h.hn.kp k hf⟩
end
theorem bytes_rep {w:World}{v:Value}{xs:List Nat}(h:RepU w v xs)(hu:∀ u∈xs,u<256)(h0:0<w.heap.size):∃ pb,pb<w.heap.size∧Bytes pb w v xs:=by
 by_cases hx:xs=[]
 ·subst hx
  obtain⟨a,cap,rfl,_,_,hc⟩:=h.form;exact⟨0,h0,a,cap,rfl,Nat.zero_le _,hc,hu,fun h=>absurd rfl h⟩
 ·obtain⟨g,cap,rfl,hg,hle⟩:=h.ex (List.length_pos_iff.2 hx)
  obtain⟨_,_,e,_,_,hc⟩:=h.form;cases e;exact⟨g,hg,_,cap,rfl,hle,hc,hu,fun _=>⟨0,rfl,fun j u hj=>by rw[Nat.zero_add];exact h.cell1 (u:=fun x:Nat=>Value.int .u8 x) (fun _=>rfl) j u hj⟩⟩
section
variable {Post:Value→World→Prop}{S:SC}{n:Nat}{its:Nat→List (Int × Int)}{gi:Nat→Option Addr}{ci:Nat→Nat}{vt vm:Value}{most bump extra:Int}{wt:Bool}{bx s rb y:Nat}{ga ge:Option Addr}{na ca ne ce:Nat}{R:PlR}{vn:Value}{x:Nat→Value}
theorem again_end {g':Option Addr}{c':Nat}{picks':List Nat}{most':Int}(hid:Idle S)(M:AgM S.w s rb ga na ca ge ne ce R vn)(hy:Blk S.w y [.int .i64 bump,vt,.slice g' picks'.length c',.int .i64 most',.bool wt] 25)(A:PlA S.w n its gi ci vt (.slice g' picks'.length c') picks')
  (hR:picks'.length≤65536→playR n its picks' most' wt bump=R) (la:R.acts.length<1099511627776) (le:R.ends.length<1099511627776) (ln:R.notes.length<1099511627776)
  (hpost:∀ W,Go.RowKit.Below S.n0 S.W0 W→Post (.bool true) W):Sound Try.prog link.tWg Post 0 S (gs ((base 4).at ⟨agY vm extra bx s rb R.code y x,[]⟩ [.code (sR (sR (sR (sR (sR (sR (sR (sR (sR c4)))))))))]) []):=by
 have hK:=clS (Post:=Post) S;refine ks (S:=S) (again_long hK.det hy fun x1 h1=>?_) rfl;by_cases hl:(65536:Int)<(picks'.length:Nat)
 ·rw[decide_eq_true hl] at h1
  exact again_quit hK.det h1 fun t todo ht=>sound_true hid Try.func4 (by decide +kernel) rfl ht hpost
 ·rw[decide_eq_false hl] at h1
  refine again_three hK.det h1 (Blk.cel hy) fun x2=>?_;refine played_runs (S:=S) (cl:=agThree vm extra bx s rb R.code y x2) hid rfl A fun S2 q ga2 na2 ca2 ge2 ne2 ce2 j1 j2 j3 j4 _ D=>?_;rw[hR (by omega)] at D ⊢;obtain⟨vn2,d1,d2⟩:=D.sh;have hK2:=clS (Post:=Post) S2;refine ks (S:=S2) (again_last hK2.det fun rd w3 x3 k3 brd=>?_) rfl;have M3:=(M.kp j4 (by simp)).kp k3 (by simp);refine q20_runs (S0:={S2 with w:=w3}) (sum:=R.sum) (vn1:=vn) (vn2:=vn2) (acts:=R.acts) (ends:=R.ends) (notes:=R.notes) ⟨j1.roles,j1.grps,j1.pos⟩ M3.hs (k3.cel (Blk.cel d1) (by simp)) M3.hb (Blk.cel brd) M3.ha ((rep_rd D.acts).kp k3 (by simp)) M3.he ((rep_rd D.ends).kp k3 (by simp)) M3.hn ((rep_rd d2).kp k3 (by simp)) la le ln fun S4 t L todo ht=>?_;exact sound_true L.idle Try.func4 (by decide +kernel) rfl ht fun W hW=>hpost W (by
   have e1:S4.n0=S.n0:=L.n0.trans j2;have e2:S4.W0=S.W0:=L.W0.trans j3;rw[e1,e2] at hW;exact hW)
theorem again_tail {g' gt' gp:Option Addr}{c' nt ct np cp:Nat}{picks picks':List Nat}(hid:Idle S)(M:AgM S.w s rb ga na ca ge ne ce R vn)(hb:Cel S.w bx [.int .i64 bump,.slice gt' nt ct,.slice gp np cp,.int .i64 most,.bool wt] 25)(hy:Blk S.w y [.int .i64 bump,.slice gt' nt ct,.slice g' picks'.length c',.int .i64 most,.bool wt] 25)(A:PlA S.w n its gi ci (.slice gt' nt ct) (.slice g' picks'.length c') picks')
  (hAy:∀ w',Kp [y] S.w w'→PlA w' n its gi ci (.slice gt' nt ct) (.slice g' picks'.length c') picks'∧AgM w' s rb ga na ca ge ne ce R vn)
  (hfine:badM n most picks.length=0) (hRR:playR n its picks most wt bump=R) (hp:picks'=picks∨(R.used<picks.length∧∃ more,picks'=picks.take R.used++more)) (la:R.acts.length<4294960000) (le:R.ends.length<1099511627776) (ln:R.notes.length<1099511627776)
  (hpost:∀ W,Go.RowKit.Below S.n0 S.W0 W→Post (.bool true) W):Sound Try.prog link.tWg Post 0 S (gs ((base 4).at ⟨agY vm extra bx s rb R.code y x,[]⟩ [.code (sR (sR (sR (sR (sR (sR (sR (sR c4))))))))]) []):=by
 have hK:=clS (Post:=Post) S;have hna:na=R.acts.length:=by
  obtain⟨_,_,e,_⟩:=M.ha;cases e;rfl
 have hag:∀ most',(most'=most∨((R.acts.length:Int)<most∧(R.acts.length:Int)<most'))→picks'.length≤65536→playR n its picks' most' wt bump=R:=fun most' hm hl=>by
  have:=playR_again (its:=its) (wt:=wt) (bump:=bump) hfine (picks':=picks') (most':=most') (by rw[hRR];exact hp) (by rw[hRR];exact hm) hl;rw[this,hRR]
 refine ks (S:=S) (again_acts hK.det hb M.hb fun x1 h1=>?_) rfl;by_cases hl:(na:Int)<most
 ·rw[decide_eq_true hl] at h1
  refine again_more hK.det h1 M.hb (by omega) hy fun x2 w2 mo q1 q2 by2 k2=>?_;obtain⟨A2,M2⟩:=hAy w2 k2;exact again_end (S:={S with w:=w2}) ⟨hid.roles,hid.grps,hid.pos⟩ M2 by2 A2 (hag mo (.inr ⟨by omega,by omega⟩)) (by omega) le ln hpost
 ·rw[decide_eq_false hl] at h1
  refine hK.det.cond (n:=0) false h1 rfl ?_;refine hK.det.k0 ?_;exact again_end (S:=S) hid M hy A (hag most (.inl rfl)) (by omega) le ln hpost
theorem again_mid {gt gp gm:Option Addr}{ct cp cm:Nat}{picks more:List Nat}(hid:Idle S)(hRR:playR n its picks most wt bump=R)(M:AgM S.w s rb ga na ca ge ne ce R vn)(hb:Cel S.w bx [.int .i64 bump,.slice gt n ct,.slice gp picks.length cp,.int .i64 most,.bool wt] 25)
  (A:PlA S.w n its gi ci (.slice gt n ct) (.slice gp picks.length cp) picks) (hmore:∃ mb,Bytes mb S.w (.slice gm more.length cm) more) (hml:more.length<549755813888) (hpl:picks.length<549755813888) (h0:0<S.w.heap.size) (la:R.acts.length<4294960000) (le:R.ends.length<1099511627776) (ln:R.notes.length<1099511627776)
  (hpost:∀ W,Go.RowKit.Below S.n0 S.W0 W→Post (.bool true) W):Sound Try.prog link.tWg Post 0 S (gs ((base 4).at ⟨agT (.slice gm more.length cm) extra bx s rb R.code x,[]⟩ [.code (sR (sR (sR (sR (sR c4)))))]) []):=by
 have hK:=clS (Post:=Post) S;refine ks (S:=S) (hK.det.seq (n:=0) ?_) rfl;refine hK.det.s0 ?_;refine hK.seg fits shut (b:=base 4) ⟨_,Try.func4⟩ nofun (c:=(sL (sL (sR (sR (sR (sR (sR c4)))))))) (by decide +kernel) (Q:=ag7Q (.slice gm more.length cm) extra bx s rb R.code (decide (R.code=2)||decide (R.code=4)) S.w)
  (fun t w' τ d ⟨x,q1,q2,q3⟩=>⟨x,q1,q2,⟨q3.size,q3.block⟩⟩) (fun τ d=>?_) fun t w8 ⟨x8,q1,q2,q3⟩=>?_
 ·exact Code.wp_mono (fun e a w' ⟨h1,h2,x,h3,h4,h5⟩=>⟨h1,h2,x,h3,h4,⟨h5.size,h5.block⟩⟩) (ag7_wp (re S.w τ d) (.slice gm more.length cm) extra bx s rb R.code x)
 subst q1;have M8:=M.kp q3 (by simp);have A8:=A.kp q3 (by simp);have hb8:=q3.cel hb (by simp);have hc:=playR_code (n:=n) (its:=its) (picks:=picks) (most:=most) (wt:=wt) (bump:=bump);rw[hRR] at hc;rcases hc with⟨hc,ha0,hn0⟩ | ⟨hc2,hc4,hfine⟩
 ·have hbb:(decide (R.code=2)||decide (R.code=4))=true:=by rcases hc with h | h<;>simp[h]
  rw[hbb] at q2;refine hK.det.cond (n:=0) true q2 rfl ?_;refine hK.det.s0 ?_;obtain⟨gn,cn,en,_⟩:=M8.hn;rw[hn0,List.length_nil] at en;subst en;obtain⟨_,_,ea,_⟩:=M8.ha;rw[ha0,List.length_nil] at ea;simp only[Value.slice.injEq] at ea;obtain⟨_,hna,_⟩:=ea;subst hna;refine hK.seg fits shut (b:=base 4) ⟨_,Try.func4⟩ nofun (c:=(sL (sT (sR (sL (sR (sR (sR (sR (sR c4)))))))))) (by decide +kernel) (Q:=fun t w'=>t.getD 6 undef=.bool true∧Kp [] w8 w')
   (fun t w' τ d ⟨q1,q2⟩=>⟨q1,⟨q2.size,q2.block⟩⟩) (fun τ d=>?_) fun t w9 ⟨p1,p2⟩=>?_
  ·exact Code.wp_mono (fun e a w' ⟨h1,h2,h3,h4⟩=>⟨h1,h2,h3,⟨h4.size,h4.block⟩⟩) (ag8_wp (re w8 τ d) (.slice gm more.length cm) extra bx s rb R.code x8 ga gn ca cn (M8.hb.cell 0) (M8.hs.cell 1))
  ·refine hK.det.ret (n:=0) ?_
   exact sound_true (S:={S with w:=w9}) ⟨hid.roles,hid.grps,hid.pos⟩ Try.func4 (by decide +kernel) rfl p1 hpost
 ·have hbb:(decide (R.code=2)||decide (R.code=4))=false:=by simp[hc2,hc4]
  rw[hbb] at q2;refine hK.det.cond (n:=0) false q2 rfl ?_;refine hK.det.k0 ?_;refine again_used hK.det hb8 M8.hb fun y w9 x9 k9 by9 hy hx9=>?_;have hAll:∀ w',Kp [y] w9 w'→Kp [y] w8 w':=fun w' k=>⟨Nat.le_trans k9.size k.size,fun b hb' hn=>(k.block b (nl' hb' k9.size) hn).trans (k9.block b hb' (by simp))⟩;have hMy:∀ w',Kp [y] w8 w'→AgM w' s rb ga na ca ge ne ce R vn:=fun w' k=>M8.kp k (by simp[hy]);have hAy:∀ w',Kp [y] w8 w'→PlA w' n its gi ci (.slice gt n ct) (.slice gp picks.length cp) picks:=fun w' k=>A8.kp k (by simp[hy]);have hby:∀ w',Kp [y] w8 w'→Cel w' bx [.int .i64 bump,.slice gt n ct,.slice gp picks.length cp,.int .i64 most,.bool wt] 25:=fun w' k=>k.cel hb8 (by simp only[List.mem_singleton];have:=hb8.lt;omega);have k99:Kp [y] w9 w9:=⟨Nat.le_refl _,fun _ _ _=>rfl⟩;by_cases hu:((R.used:Nat):Int)<(picks.length:Nat)
  ·rw[decide_eq_true hu] at hx9
   refine hK.det.cond (n:=0) true hx9 rfl ?_;obtain⟨pb,hpb,gp',cp',ep,hpc,hpm,hpu,hpx⟩:=(hAy w9 (hAll _ k99)).pk;simp only[Value.slice.injEq] at ep;obtain⟨rfl,_,rfl⟩:=ep;obtain⟨mb,gm',cm',em,hmc,hmm,hmu,hmx⟩:=hmore;simp only[Value.slice.injEq] at em;obtain⟨rfl,_,rfl⟩:=em;have k09:Kp [] S.w w9:=q3.trans k9;have rp:Rd u8 w9 (.slice gp picks.length cp) picks:=⟨gp,cp,rfl,fun hne=>by
    obtain⟨o,e,h⟩:=hpx hne;exact⟨pb,o,e,h⟩⟩
   have rm:Rd u8 w9 (.slice gm more.length cm) more:=Rd.kp (w:=S.w) ⟨gm,cm,rfl,fun hne=>by
    obtain⟨o,e,h⟩:=hmx hne;exact⟨mb,o,e,h⟩⟩ k09 (by simp)
   refine hK.seg fits shut (b:=base 4) ⟨_,Try.func4⟩ nofun (c:=(sT (sR (sL (sR (sR (sR (sR (sR (sR (sR c4))))))))))) (by decide +kernel) (Q:=ag11Q (.slice gm more.length cm) extra bx s rb R.code y (.int .i64 bump) (.slice gt n ct) (.int .i64 most) (.bool wt) (picks.take R.used++more) w9)
    (fun t w' τ d ⟨x,vl,q1,q2,q3,q4,q5⟩=>⟨x,vl,q1,q2,q3,⟨q4.size,q4.block⟩,q5⟩) (fun τ d=>?_) fun t w10 ⟨x10,vl,p1,p2,p3,p4,p5⟩=>?_
   ·exact Code.wp_mono (fun e a w' ⟨h1,h2,x,vl,h3,h4,h5,h6,h7⟩=>⟨h1,h2,x,vl,h3,h4,h5,⟨h6.size,h6.block⟩,h7⟩) (ag11_wp (re w9 τ d) extra bx s rb R.code y x9 _ _ (.slice gp picks.length cp) _ _ gp gm picks.length cp more.length cm R.used picks more ((hby w9 (hAll _ k99)).cell 2) ((hMy w9 (hAll _ k99)).hb.cell 2) by9 rp rm (by omega) hpc hpm (by omega) (by omega))
   ·subst p1
    obtain⟨g',c',ev,_⟩:=p2.form;subst ev;have hu':∀ u∈picks.take R.used++more,u<256:=fun u hu'=>by
     rcases List.mem_append.1 hu' with h | h
     ·exact hpu u (List.mem_of_mem_take h)
     ·exact hmu u h
    have hPk:∀ w',Kp [y] w10 w'→PlA w' n its gi ci (.slice gt n ct) (.slice g' (picks.take R.used++more).length c') (picks.take R.used++more):=fun w' k=>by
     have A':=hAy w' (Kp.trans (hAll _ p4) k);have hr:RepU w' (.slice g' (picks.take R.used++more).length c') (picks.take R.used++more):=rep_same p2 k.size fun b hb'=>k.block b (p2.fp_lt b hb') (by
      have:=p5 b hb';have:=by9.lt;simp only[List.mem_singleton];omega)
     exact⟨A'.thr,A'.items,A'.low,bytes_rep hr hu' (nl' h0 (Nat.le_trans k09.size (Nat.le_trans p4.size k.size))),A'.n40,A'.len,by rw[la',List.length_take];omega,A'.sum⟩
    have k1010:Kp [y] w10 w10:=⟨Nat.le_refl _,fun _ _ _=>rfl⟩;exact again_tail (S:={S with w:=w10}) ⟨hid.roles,hid.grps,hid.pos⟩ (hMy _ (hAll _ p4)) (hby _ (hAll _ p4)) p3 (hPk _ k1010) (fun w' k=>⟨hPk w' k,hMy _ (Kp.trans (hAll _ p4) k)⟩) hfine hRR (.inr ⟨by omega,more,rfl⟩) la le ln hpost
  ·rw[decide_eq_false hu] at hx9
   refine hK.det.cond (n:=0) false hx9 rfl ?_;refine hK.det.k0 ?_;exact again_tail (S:={S with w:=w9}) ⟨hid.roles,hid.grps,hid.pos⟩ (hMy _ (hAll _ k99)) (hby _ (hAll _ k99)) by9 (hAy _ (hAll _ k99)) (fun w' k=>⟨hAy _ (hAll _ k),hMy _ (hAll _ k)⟩) hfine hRR (.inl rfl) la le ln hpost
theorem again_law {vp:Value}{picks more:List Nat}(hid:Idle S)(A:PlA S.w n its gi ci vt vp picks)(hmore:∃ mb,mb<S.w.heap.size∧Bytes mb S.w vm more)(hml:more.length<549755813888)(hpl:picks.length<549755813888)(hsum:sumTo n (fun j=>(its j).length+1)≤1048576)
  (hpost:∀ W,Go.RowKit.Below S.n0 S.W0 W→Post (.bool true) W):Sound Try.prog link.tWg Post 0 S (gs (Frame.enter Try.prog 4 #[.agg #[.int .i64 bump,vt,vp,.int .i64 most,.bool wt],vm,.int .i64 extra] .normal) []):=by
 obtain⟨gt,ct,e1⟩:=A.thr.slice;rw[show((List.range n).map fun i=>Value.slice (gi i) (its i).length (ci i)).length=n by simp] at e1;obtain⟨pb,hpb,hpk⟩:=A.pk;obtain⟨gp,cp,e2,_⟩:=id hpk;obtain⟨mb,hmb,hmk⟩:=hmore;obtain⟨gm,cm,e3,_⟩:=id hmk;subst e1 e2 e3;obtain⟨R,hR⟩:∃ R,R=playR n its picks most wt bump:=⟨_,rfl⟩;obtain⟨b1,b2,b3⟩:=playR_bounds (picks:=picks) (most:=most) (bump:=bump) (wt:=wt) A.sum A.n40;have b4:(playR n its picks most wt bump).acts.length≤1048576:=by
  unfold playR;split
  ·exact Nat.zero_le _
  ·exact Nat.le_trans (runD_acts n its wt (-77) bump most picks) hsum
 rw[← hR] at b1 b2 b3 b4;have hK:=clS (Post:=Post) S;refine ks (S:=S) (again_enter hK.det rfl rfl fun bx w1 k1 bb=>?_) rfl;show Sound Try.prog link.tWg Post 0 { S with w:=w1} _;refine lives_runs (S:={S with w:=w1}) ⟨hid.roles,hid.grps,hid.pos⟩ rfl fun S2 i2 n2 z2 k2=>?_;have hK2:=clS (Post:=Post) S2;have k02:Kp [] S.w S2.w:=k1.trans k2;have hb2:=k2.cel (Blk.cel bb) (by simp);refine ks (S:=S2) (again_one hK2.det hb2 ?_) rfl;refine played_runs (S:=S2) i2 rfl (A.kp k02 (by simp)) fun S3 s ga1 na1 ca1 ge1 ne1 ce1 i3 n3 z3 k3 A3 D1=>?_;rw[← hR] at D1 ⊢;obtain⟨vn1,d1,d2⟩:=D1.sh;have hK3:=clS (Post:=Post) S3;have hb3:=k3.cel hb2 (by simp);refine ks (S:=S3) (again_two hK3.det hb3 fun rb w4 k4 brb=>?_) rfl;have M4:AgM w4 s rb ga1 na1 ca1 ge1 ne1 ce1 R vn1:=⟨k4.cel (Blk.cel d1) (by simp),Blk.cel brb,(rep_rd D1.acts).kp k4 (by simp),(rep_rd D1.ends).kp k4 (by simp),(rep_rd d2).kp k4 (by simp)⟩;have hb4:=k4.cel hb3 (by simp);show Sound Try.prog link.tWg Post 0 { S3 with w:=w4} _;refine played_runs (S:={S3 with w:=w4}) ⟨i3.roles,i3.grps,i3.pos⟩ rfl (A3.kp k4 (by simp)) fun S5 t ga2 na2 ca2 ge2 ne2 ce2 i5 n5 z5 k5 A5 D2=>?_;rw[← hR] at D2 ⊢;obtain⟨vn2,f1,f2⟩:=D2.sh;have hK5:=clS (Post:=Post) S5;refine ks (S:=S5) (again_same hK5.det fun rc w6 k6 brc=>?_) rfl;have M6:=(M4.kp k5 (by simp)).kp k6 (by simp);have hb6:=k6.cel (k5.cel hb4 (by simp)) (by simp);refine q5_runs (S0:={S5 with w:=w6}) (sum:=R.sum) (vn1:=vn1) (vn2:=vn2) (acts:=R.acts) (ends:=R.ends) (notes:=R.notes) ⟨i5.roles,i5.grps,i5.pos⟩ M6.hs (k6.cel (Blk.cel f1) (by simp)) M6.hb (Blk.cel brc) M6.ha ((rep_rd D2.acts).kp k6 (by simp)) M6.he ((rep_rd D2.ends).kp k6 (by simp)) M6.hn ((rep_rd f2).kp k6 (by simp)) b2 b3 b1 fun S7 x L=>?_;have k07:Kp [] S.w S7.w:=((((k02.trans k3).trans k4).trans k5).trans k6).trans L.kp;have h07:S.w.heap.size≤S7.w.heap.size:=k07.size;refine again_mid (S:=S7) (picks:=picks) (more:=more) (cm:=cm) L.idle hR.symm (M6.kp L.kp (by simp)) (L.kp.cel hb6 (by simp)) (A.kp k07 (by simp)) ⟨mb,hmk.same (k07.block mb hmb (by simp))⟩ hml hpl (by omega) (by omega) b3 b1 fun W hW=>hpost W (by
  have e1:S7.n0=S.n0:=L.n0.trans (n5.trans (n3.trans n2));have e2:S7.W0=S.W0:=L.W0.trans (z5.trans (z3.trans z2));rw[e1,e2] at hW;exact hW)
end
end Go.Proofs.Ytkoehgfebipkkaa.Lift
namespace Go.Proofs.Ytkoehgfebipkkaa.Z
open Go Go.Conc Go.ChangeShapes Go.WideShapes Go.ChangeAt Go.RowKit Go.Deep Lift
theorem list5' {α:Type}{l:List α}(h:l.length=5):∃ a b c d e,l=[a,b,c,d,e]:=by
 match l,h with
 | [a,b,c,d,e],_=>exact⟨a,b,c,d,e,rfl⟩
theorem cells25':Try.prog.cellsOf 25=5:=by kernel_rfl
theorem post_true3 {H:Type}{enc:TypeId × Value→H}{f:Func}{s:ChangeSpec}{t0 t1 t2:TypeId}{W W':World}{v0 v1 v2:Value}{d0 d1 d2:DataW H}{p0 p1 p2:List MemPlace}(hs:s.vars=[])(hp:f.params.toList=[t0,t1,t2])(hr:f.resultTypes=#[4])
  (hd:∀ a b c,s.fn H [a,b,c]={results:=[.lit (.bool true)],args:=[a,b,c]}) (ht0:Try.prog.readableRec t0=true) (hrow0:t0<Try.prog.types.size) (ht1:Try.prog.readableRec t1=true) (hrow1:t1<Try.prog.types.size) (ht2:Try.prog.readableRec t2=true) (hrow2:t2<Try.prog.types.size)
  (hW:DataW.Whole enc Try.prog f.params.toList s.vars false W [v0,v1,v2] [d0,d1,d2] [] (p0++(p1++p2))) (h0:DataW.Trod enc Try.prog W 0 (fun _=>true) true t0 v0 d0 p0) (h1:DataW.Trod enc Try.prog W 0 (fun _=>true) true t1 v1 d1 p1) (h2:DataW.Trod enc Try.prog W 0 (fun _=>true) true t2 v2 d2 p2) (hb:Below W.heap.size W W') :
  s.post enc Try.prog f false true false false W #[v0,v1,v2] (.bool true) W':=by
 have hlt:=fun x hx=>hW.lt x hx;refine⟨[d0,d1,d2],[],p0++(p1++p2),[],p0++(p1++p2),[],hW,?_,?_,?_,hb.frame _,fun h=>by cases h⟩
 ·rw[hr,List.append_nil,hd]
  exact trodAll_mk1 (shut_bool Try.underlying4 _)
 ·rw[hp,List.append_nil,hd]
  exact trodAll_mk3 (Below.trod laidOut ht0 hrow0 h0 hb fun x hx=>hlt x (by simp[hx])) (Below.trod laidOut ht1 hrow1 h1 hb fun x hx=>hlt x (by simp[hx])) (Below.trod laidOut ht2 hrow2 h2 hb fun x hx=>hlt x (by simp[hx]))
 ·rw[hs,List.append_nil,hd]
  rfl
theorem again_contract (H:Type)(enc:TypeId × Value→H)(W:World)(base:Nat)(args:Array Value)(ds gs:List (DataW H))(before:List MemPlace)
  (hval:∀ (j:Nat) t v,Try.f4.params[j]?=some t→args[j]?=some v→Value.okWide Try.prog W .any base t v)
  (hW:DataW.Whole enc Try.prog Try.f4.params.toList Rows.schedAgainSpec.vars false W args.toList ds gs before) (hk:Rows.uptoSmall H (ds++gs)=true) (h00:0<W.heap.size) :
  ∃ N last o w' t',runNT Try.prog (N+1) (solo (G (Frame.enter Try.prog 4 args .normal) []) W) #[]=(.ended o w',t')∧runN Try.prog N (solo (G (Frame.enter Try.prog 4 args .normal) []) W)=.next last ∧
    step Try.prog last=.ended o w'∧Go.Conc.Good Try.prog (fun v w'=>Rows.schedAgainSpec.post enc Try.prog Try.f4 false true false false W args v w') last o w' t':=by
 have hW':=hW;obtain⟨p,q,hA0,hV,rfl,hfz,hnd⟩:=hW;have hA:DataW.TrodAll enc Try.prog W 0 (fun _=>true) true Try.f4.params.toList args.toList ds p:=hA0;rw[Try.params4] at hA hval;obtain⟨v0,vs0,d0,ds0,p0,q0,hargs,rfl,rfl,h0,r0⟩:=trodAll_cons hA;obtain⟨v1,vs1,d1,ds1,p1,q1,rfl,rfl,rfl,h1,r1⟩:=trodAll_cons r0;obtain⟨v2,vs2,d2,ds2,p2,q2,rfl,rfl,rfl,h2,r2⟩:=trodAll_cons r1;obtain⟨rfl,rfl,rfl⟩:=trodAll_nil r2;obtain rfl:args=#[v0,v1,v2]:=by cases args;simp_all
 obtain⟨rfl,rfl⟩:=trodVars_none hV;obtain⟨cs,rfl,hsz⟩:=okWide_struct Try.underlying25 (hval 0 25 v0 rfl rfl);rw[cells25'] at hsz;obtain⟨c0,c1,c2,c3,c4,hcs⟩:=list5' (by rw[Array.length_toList];exact hsz);obtain rfl:cs=#[c0,c1,c2,c3,c4]:=by cases cs;simp_all
 have h0':=h0;have h1':=h1;have h2':=h2;obtain⟨fuel,ht⟩:=h0';obtain⟨fuel1,ht1⟩:=h1';obtain⟨fuel2,ht2⟩:=h2';change DataW.trod enc Try.prog W 0 (fun _=>true) true fuel 25 [c0,c1,c2,c3,c4]=_ at ht;obtain⟨bump,most,wt,n,its,gi,ci,picks,rfl,rfl,rfl,hT,hB,_,_,hbk⟩:=open_play ht;obtain⟨vm,more,e1,hM,hbm⟩:=open_bytes ht1;obtain⟨ex,e2,_,_⟩:=DataW.trod_int Try.underlying3 ht2;have hc1:v1.cells=#[v1]:=by
  have:=hval 1 23 v1 rfl rfl;cases v1<;>first | rfl | (simp[Value.okWide,Try.underlying23,Cell.okWide,Cell.ok] at this;done)
 have hc2:v2.cells=#[v2]:=by
  have:=hval 2 3 v2 rfl rfl;cases v2<;>first | rfl | (simp[Value.okWide,Try.underlying3,Cell.okWide,Cell.ok] at this;done)
 have hv1:v1=vm:=by
  rw[hc1] at e1;exact(List.cons.inj e1).1
 have hv2:v2=.int .i64 ex:=by
  rw[hc2] at e2;exact(List.cons.inj e2).1
 subst hv1 hv2;have hk2:Rows.uptoBulk d0+Rows.uptoBulk d1≤1048576:=by
  rw[List.append_nil] at hk;have h:=bulk_of hk;simp only[Rows.uptoBulkAll] at h;omega
 have hb:((List.range n).map fun i=>(its i).length+1).sum+picks.length+1≤1048576:=by
  have:_≤Rows.uptoBulk d0:=hbk;omega
 have hb1:more.length+1≤1048576:=by
  have:_≤Rows.uptoBulk d1:=hbm;omega
 have hsum:Go.ConcN.sumTo n (fun j=>(its j).length+1)≤1048576:=by
  rw[← sum_sumTo];omega
 clear hA0 hA ht;simp only[List.append_nil] at hW' h2;have hMore:∃ mb,mb<(seenW W).heap.size∧Bytes mb (seenW W) v1 more:=by
  have:=(plA_seen (its:=fun _=>[]) (gi:=fun _=>none) (ci:=fun _=>0) (n:=0) (vt:=.slice none 0 0) ⟨⟨none,0,rfl,fun a ha=>(by cases ha),fun i hi=>absurd hi (Nat.not_lt_zero i)⟩,fun i hi=>absurd hi (Nat.not_lt_zero i),fun i hi=>absurd hi (Nat.not_lt_zero i)⟩ hM (by simpa using hb1) h00).pk;exact this
 refine sound_start (ty:=link.tWg) (fun i v hi=>?_) (again_law (start_idle W) (plA_seen hT hB hb h00) hMore (by omega) (by omega) hsum fun W' hB'=>?_)
 ·match i,hi with
  | 0,hi=>cases hi;exact play_rel (thr_rel hT) (bytes_rel hB)
  | 1,hi=>cases hi;exact bytes_rel hM
  | 2,hi=>cases hi;exact .flat rfl
  | _+3,hi=>simp at hi
 ·exact post_true3 rfl rfl rfl (fun _ _ _=>rfl) (by kernel_rfl) (of_decide_eq_true (by kernel_rfl)) (by kernel_rfl) (of_decide_eq_true (by kernel_rfl)) (by kernel_rfl) (of_decide_eq_true (by kernel_rfl)) hW' h0 h1 h2 hB'
theorem again_lifted (os:Os)(started:os.Started)(H:Type)(enc:TypeId × Value→H)(F:Stop.Interp) :
  ReturnsInLeavingWide {} Try.checked os 4 .any ((Rows.OpenSpec.upto Rows.schedAgainSpec).pre6 enc Try.prog Try.f4 Rows.schedAgainUptoRow.domain false) (((Rows.OpenSpec.upto Rows.schedAgainSpec).at F).post enc Try.prog Try.f4 false true false false):=by
 refine leaving_of_cond (C:=Try.checked) (s:=Rows.OpenSpec.upto Rows.schedAgainSpec) (k:=Rows.uptoSmall) rfl own started Try.func4 some_heap
  (OpenSpec.witness (enc:=enc) (C:=Try.checked) (s:=Rows.OpenSpec.upto Rows.schedAgainSpec) (k:=Rows.uptoSmall) rfl false ⟨#[],#[.agg #[.int .i64 0,.slice none 0 0,.slice none 0 0,.int .i64 0,.bool false],.slice none 0 0,.int .i64 0],[]⟩ 8 (by kernel_rfl) (by kernel_rfl) (by kernel_rfl)
   (x:=([.agg [.lit (.int .i64 0),.nil,.nil,.lit (.int .i64 0),.lit (.bool false)],.nil,.lit (.int .i64 0)],[],[])) (by kernel_rfl) rfl (by kernel_rfl)) ?_
 intro W base args ds gs before hval hW hk h0;exact again_contract H enc W base args ds gs before hval hW hk h0
theorem schedAgain_upto:Rows.SchedAgainUptoSaid :=
 holds_upto 4 Try.f4 rfl rfl rfl rfl rfl rfl rfl ⟨rfl,rfl,rfl,rfl,rfl⟩ rfl rfl rfl rfl rfl (by kernel_rfl) Try.func4 (by kernel_rfl)
  (of_decide_eq_true (by kernel_rfl)) (by unfold Func.isWrapper;first | (rw[if_pos (by decide +kernel)];kernel_rfl) | (rw[if_neg (by decide +kernel)];exact⟨rfl,rfl⟩))
  (fun os started H enc _ F=>again_lifted os started H enc F)
end Go.Proofs.Ytkoehgfebipkkaa.Z
