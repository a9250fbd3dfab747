/- Sa Ta Wa Wb Wc Wd We Wf Wg -/
import Derived.Deep.RegionWith
import Derived.Test.YtgapgmigmlideaaMe
set_option linter.unusedVariables false
set_option linter.unusedSimpArgs false
set_option maxRecDepth 100000
set_option maxHeartbeats 6400000
noncomputable section
namespace Go.Proofs.Ytgapgmigmlideaa.Lift
open Go Go.Conc Go.RowKit Pl
def q15:Code:=Try.f15.body.getD .skip
theorem bx_39 {p:Option Addr}:∀ w:World,(Instr.box 39 (.pointer p)).run Try.prog w=.ok (ptr w.heap.size) (w.alloc (.cells #[.pointer p] 39)):=fun w=>by
 simp[go_sem,Try.underlying39,Try.runUnderlying39,Try.sizeOf39,Try.isAgg39,Try.zeroValue39]
theorem l_39 {w:World}{a:Addr}{v:Value}(hc:w.cell? a=some v):(Instr.loadAt 39 (.pointer (some a))).run Try.prog w=.ok v w:=by simp[go_sem,hc,Try.underlying39,Try.runUnderlying39,Try.sizeOf39,Try.isAgg39]
theorem fa88_1 {b o:Nat}:∀ w,(Instr.fieldAt 88 (.pointer (some ⟨b,o,none⟩)) 1).run Try.prog w=.ok (.pointer (some ⟨b,o+2,none⟩)) w:=fun w=>by
 simp[go_sem,Try.underlying88,Try.runUnderlying88,Try.sizeOf88,Try.isAgg88,Try.sizeOf3,Try.sizeOf86]
theorem fa88_2 {b o:Nat}:∀ w,(Instr.fieldAt 88 (.pointer (some ⟨b,o,none⟩)) 2).run Try.prog w=.ok (.pointer (some ⟨b,o+3,none⟩)) w:=fun w=>by
 simp[go_sem,Try.underlying88,Try.runUnderlying88,Try.sizeOf88,Try.isAgg88,Try.sizeOf3,Try.sizeOf86]
def sQ (n:Nat)(Pr:(Nat→Value)→Prop)(b:Nat)(cells:List Value)(ty:TypeId)(w:World)(t:Array Value)(w':World):Prop:=∃ x,t=fg n x∧Pr x∧Kp [b] w w'∧Blk w' b cells ty
theorem sQ_mk {n:Nat}{Pr:(Nat→Value)→Prop}{w w':World}{t:Array Value}{b:Nat}{cells:List Value}{ty:TypeId}(hs:t.size=n)(h:Pr fun q=>t.getD q undef)(k:Kp [b] w w')(hb:Blk w' b cells ty):sQ n Pr b cells ty w t w':=⟨_,t_fg hs,h,k,hb⟩
theorem sQ_re {n:Nat}{Pr:(Nat→Value)→Prop}{w w':World}{t:Array Value}{b:Nat}{cells:List Value}{ty:TypeId}(h:sQ n Pr b cells ty w t w')(τ:Nat→Question→Nat)(d:Nat):sQ n Pr b cells ty w t (re w' τ d):=let ⟨x,h1,h2,h3,h4⟩:=h;⟨x,h1,h2,⟨h3.size,h3.block⟩,h4⟩
theorem sQ_un {n:Nat}{Pr:(Nat→Value)→Prop}{w w':World}{t:Array Value}{b:Nat}{cells:List Value}{ty:TypeId}{τ:Nat→Question→Nat}{d:Nat}(h:sQ n Pr b cells ty (re w τ d) t w'):sQ n Pr b cells ty w t w':=let ⟨x,h1,h2,h3,h4⟩:=h;⟨x,h1,h2,⟨h3.size,h3.block⟩,h4⟩
section
variable {L A:Type}{p:Plan L A}{C:WC}{k i n:Nat}{K:Goroutine→World→Prop}{F c:Frame}{cs rest:List Frame}{st:Nat→TS L}{X:Nat→Prop}{w:World}{a:A}{l:L}{g gh:List Nat}{P:A × Option L}
end
theorem waiting_calls (w:World)(mb:Nat){by0 as0 ha0:Int}(hm:Blk w mb [.bool true,.int .i64 by0,.int .i64 as0,.int .i64 ha0] 88):Calls Try.prog 17 #[ptr mb] w fun e w'=>e=.returned (.int .i64 (wrap64 (as0-ha0)))∧Keeps [] w w':=by
 have c2:=hm.cell 2;have c3:=hm.cell 3;clear hm
 go_enter Try.func17,Try.ntmps17
 go_wp2
 go_quiet (fail)
 go_wp2
 go_ret
 exact⟨rfl,(Keeps.refl _ _).drewN _⟩
def q46:Code:=Try.f46.body.getD .skip
def q47:Code:=Try.f47.body.getD .skip
def q48:Code:=Try.f48.body.getD .skip
theorem bx_50 {p:Option Addr}:∀ w:World,(Instr.box 50 (.pointer p)).run Try.prog w=.ok (ptr w.heap.size) (w.alloc (.cells #[.pointer p] 50)):=fun w=>by
 simp[go_sem,Try.underlying50,Try.runUnderlying50,Try.sizeOf50,Try.isAgg50,Try.zeroValue50]
theorem l_50 {w:World}{a:Addr}{v:Value}(hc:w.cell? a=some v):(Instr.loadAt 50 (.pointer (some a))).run Try.prog w=.ok v w:=by simp[go_sem,hc,Try.underlying50,Try.runUnderlying50,Try.sizeOf50,Try.isAgg50]
theorem w_mk0_1 {a:Act}{oo:Oper}{w:World}{y0:Operand}{u0:Value}{ff:FuncId}(h:oo.op=.makeFunc (.func ff) #[] #[y0])(hy0:a.eval y0=u0):(execOp a.eval oo).run Try.prog w=.ok (.value (.func (.func ff) #[] #[u0])) w:=by
 unfold execOp;rw[h];exact run_vv (by simp only[List.map_toArray,List.map_cons,List.map_nil,hy0];simp[go_sem])
theorem fa93_1 {b o:Nat}:∀ w,(Instr.fieldAt 93 (.pointer (some ⟨b,o,none⟩)) 1).run Try.prog w=.ok (.pointer (some ⟨b,o+2,none⟩)) w:=fun w=>by
 simp[go_sem,Try.underlying93,Try.runUnderlying93,Try.sizeOf93,Try.isAgg93,Try.sizeOf3,Try.sizeOf86]
theorem w_eql3 {a:Act}{oo:Oper}{w:World}{x y:Operand}{i j:Int}(h:oo.op=.binOp .eql 3 x y 3)(hx:a.eval x=.int .i64 i)(hy:a.eval y=.int .i64 j):(execOp a.eval oo).run Try.prog w=.ok (.value (.bool (decide (i=j)))) w:=by
 unfold execOp;rw[h];simp only[hx,hy];exact run_vv (by simp[go_sem,Try.underlying3,Try.runUnderlying3]<;>rfl)
theorem w_sub3 {a:Act}{oo:Oper}{w:World}{x y:Operand}{i j:Int}(h:oo.op=.binOp .sub 3 x y 3)(hx:a.eval x=.int .i64 i)(hy:a.eval y=.int .i64 j):(execOp a.eval oo).run Try.prog w=.ok (.value (.int .i64 (wrap64 (i-j)))) w:=by
 unfold execOp;rw[h];simp only[hx,hy];exact run_vv (by simp[go_sem,Try.underlying3,Try.runUnderlying3,IntKind.wrap_i64,wrap64])
theorem fa93_2 {b o:Nat}:∀ w,(Instr.fieldAt 93 (.pointer (some ⟨b,o,none⟩)) 2).run Try.prog w=.ok (.pointer (some ⟨b,o+3,none⟩)) w:=fun w=>by
 simp[go_sem,Try.underlying93,Try.runUnderlying93,Try.sizeOf93,Try.isAgg93,Try.sizeOf3,Try.sizeOf86]
theorem there_calls (w:World)(wb:Nat){by0 rd0 wt0:Int}(h:Cel w wb [.bool true,.int .i64 by0,.int .i64 rd0,.int .i64 wt0] 93):Calls Try.prog 70 #[ptr wb] w fun e w'=>e=.returned (.bool true)∧w'=w:=by
 have c0:=h.cell 0;clear h
 go_enter Try.func70,Try.ntmps70
 go_wp2
 go_ret
 exact⟨rfl,rfl⟩
theorem rdy71 (w:World)(wb bb:Nat){by0 rd0 wt0:Int}(hw:Blk w wb [.bool true,.int .i64 by0,.int .i64 rd0,.int .i64 wt0] 93)(hbb:Blk w bb [ptr wb] 50):Calls Try.prog 71 #[ptr bb] w fun e w'=>e=.returned (.bool (decide (by0 = -1)&&decide (wt0=0)))∧w'=w:=by
 have c0:=hbb.cell 0;have c1:=hw.cell 1;have c3:=hw.cell 3;by_cases h:by0 = -1
 ·have HF:Hid (Calls Try.prog 34 #[ptr wb] w fun e w'=>e=.returned (.bool true)∧w'=w):=Lib.hid ((free_calls w wb (by0:=by0) c1).mono fun e w' ⟨h1,h2⟩=>⟨h1.trans (by rw[decide_eq_true h]),h2⟩)
  rw[decide_eq_true h,Bool.true_and];clear hw hbb c1 h
  go_enter Try.func71,Try.ntmps71
  go_wp2_with (go_at_call 34;refine(HF.out).mono ?_;rintro e w' ⟨rfl,rfl⟩)
  go_ret
  exact⟨congrArg Ending.returned (congrArg Value.bool (by first | rfl | simp[BEq.beq])),rfl⟩
 ·have HF:Hid (Calls Try.prog 34 #[ptr wb] w fun e w'=>e=.returned (.bool false)∧w'=w):=Lib.hid ((free_calls w wb (by0:=by0) c1).mono fun e w' ⟨h1,h2⟩=>⟨h1.trans (by rw[decide_eq_false h]),h2⟩)
  rw[decide_eq_false h,Bool.false_and];clear hw hbb c1 h
  go_enter Try.func71,Try.ntmps71
  go_wp2_with (go_at_call 34;refine(HF.out).mono ?_;rintro e w' ⟨rfl,rfl⟩)
  go_ret
  exact⟨rfl,rfl⟩
theorem rdy72 (w:World)(wb bb:Nat){by0 rd0 wt0:Int}(hw:Blk w wb [.bool true,.int .i64 by0,.int .i64 rd0,.int .i64 wt0] 93)(hbb:Blk w bb [ptr wb] 50):Calls Try.prog 72 #[ptr bb] w fun e w'=>e=.returned (.bool (decide (by0 = -1)&&decide (rd0=0)))∧w'=w:=by
 have c0:=hbb.cell 0;have c1:=hw.cell 1;have c3:=hw.cell 2;by_cases h:by0 = -1
 ·have HF:Hid (Calls Try.prog 34 #[ptr wb] w fun e w'=>e=.returned (.bool true)∧w'=w):=Lib.hid ((free_calls w wb (by0:=by0) c1).mono fun e w' ⟨h1,h2⟩=>⟨h1.trans (by rw[decide_eq_true h]),h2⟩)
  rw[decide_eq_true h,Bool.true_and];clear hw hbb c1 h
  go_enter Try.func72,Try.ntmps72
  go_wp2_with (go_at_call 34;refine(HF.out).mono ?_;rintro e w' ⟨rfl,rfl⟩)
  go_ret
  exact⟨congrArg Ending.returned (congrArg Value.bool (by first | rfl | simp[BEq.beq])),rfl⟩
 ·have HF:Hid (Calls Try.prog 34 #[ptr wb] w fun e w'=>e=.returned (.bool false)∧w'=w):=Lib.hid ((free_calls w wb (by0:=by0) c1).mono fun e w' ⟨h1,h2⟩=>⟨h1.trans (by rw[decide_eq_false h]),h2⟩)
  rw[decide_eq_false h,Bool.false_and];clear hw hbb c1 h
  go_enter Try.func72,Try.ntmps72
  go_wp2_with (go_at_call 34;refine(HF.out).mono ?_;rintro e w' ⟨rfl,rfl⟩)
  go_ret
  exact⟨rfl,rfl⟩
section
variable {L A:Type}{p:Plan L A}{C:WC}{k i n:Nat}{K:Goroutine→World→Prop}{F c:Frame}{cs rest:List Frame}{st:Nat→TS L}{X:Nat→Prop}{w:World}{a:A}{l:L}{g gh:List Nat}{P:A × Option L}
end
def q44:Code:=Try.f44.body.getD .skip
def q76:Code:=Try.f76.body.getD .skip
def q77:Code:=Try.f77.body.getD .skip
def q78:Code:=Try.f78.body.getD .skip
def fam3 (f:FuncId):Bool:=[69,80,34,37,31,17,50,51,70,45,103,73,74,75,79,23,25,53,54,55,56,57,26,22,8,13,18,19,43].contains f
theorem shut3:Shut fam3 Try.prog:=by
 refine⟨fun f hf=>?_⟩;have key:[69,80,34,37,31,17,50,51,70,45,103,73,74,75,79,23,25,53,54,55,56,57,26,22,8,13,18,19,43].all (fun f=>okF f&&(match Try.prog.funcs[f]? with | some fn=>!(fn.name == "runtime.NumGoroutine")&&(match fn.body with | some c=>okC fam3 Try.prog c | none=>false) | none=>false))=true:=by decide +kernel
 have hm:f∈[69,80,34,37,31,17,50,51,70,45,103,73,74,75,79,23,25,53,54,55,56,57,26,22,8,13,18,19,43]:=List.contains_iff_mem.1 hf;have:=List.all_eq_true.1 key f hm;rw[Bool.and_eq_true] at this;refine⟨this.1,?_⟩;have h2:=this.2;cases e:Try.prog.funcs[f]? with
 | none=>rw[e] at h2;cases h2
 | some fn =>
  rw[e] at h2;simp only[Bool.and_eq_true,Bool.not_eq_true'] at h2;cases ec:fn.body with
  | none=>rw[ec] at h2;exact absurd h2.2 (by simp)
  | some c=>rw[ec] at h2;exact⟨fn,c,rfl,ec,h2.1,h2.2⟩
def CCn (f:FuncId)(args:Array Value)(w:World)(R:Value→World→Prop):Prop:=∀ ⦃m:Bool⦄ ⦃K:Goroutine→World→Prop⦄,Cl Try.prog m K→∀ ⦃cl:Frame⦄ ⦃cs:List Frame⦄,cl.mode=.run→(∀ v w',R v w'→K (gs (cl.finish v) cs) w')→K (gs (Frame.enter Try.prog f args .normal) (cl::cs)) w
def RB (V:Value)(b:Nat)(cells:List Value)(t:TypeId)(w:World)(v:Value)(w':World):Prop:=v=V∧Kp [b] w w'∧Blk w' b cells t
theorem Kp.wid {F:List Nat}{w w':World}(h:Kp [] w w'):Kp F w w':=⟨h.size,fun b hb _=>h.block b hb (by simp)⟩
theorem Kp.own {F:List Nat}{w w' w'':World}{b:Nat}(h:Kp F w w')(k:Kp [b] w' w'')(hb:w.heap.size≤b):Kp F w w'':=⟨Nat.le_trans h.size k.size,fun x hx hn=>(k.block x (nl' hx h.size) (by simp;omega)).trans (h.block x hx hn)⟩
theorem res2v {P:Program}{fn:Func}{tm:Array Value}{w:World}{s t:Tmp}{u v:Value}(h:fn.results=#[.tmp s,.tmp t])(hs:tm.getD s undef=u)(ht:tm.getD t undef=v):(results fn tm).run P w=.ok (.tuple #[u,v]) w:=by
 unfold results;rw[h,← hs,← ht];simp[go_sem]
theorem hideP {c:Code}{a:Act}{w:World}{Q:Array Value→World→Prop}(h:∀ G:Array Value→World→Prop,Hid (∀ t w',Q t w'→G t w')→c.wp Try.prog (fun e a' w'=>e=.normal∧a'.defers=[]∧G a'.tmps w') a w):c.wp Try.prog (fun e a' w'=>e=.normal∧a'.defers=[]∧Q a'.tmps w') a w:=h Q (Lib.hid fun _ _ h=>h)
theorem hideQ {c:Code}{a:Act}{w:World}{Q:Array Value→World→Prop}(h:∀ G:Array Value→World→Prop,Hid (∀ t w',Q t w'→G t w')→c.wp Try.prog (fun e a' w'=>match e with | .normal=>a'.defers=[]∧G a'.tmps w' | _=>False) a w):c.wp Try.prog (fun e a' w'=>e=.normal∧a'.defers=[]∧Q a'.tmps w') a w:=Code.wp_mono (fun e a' w' h=>by cases e<;>first | exact⟨rfl,h.1,h.2⟩ | exact h.elim) (h Q (Lib.hid fun _ _ h=>h))
theorem who_nil (w:World):Calls Try.prog 37 #[.pointer none] w fun e w'=>e=.returned (.int .i64 (-2))∧w'=w:=by
 go_enter Try.func37,Try.ntmps37
 go_wp2
 go_ret
 exact⟨rfl,rfl⟩
theorem gthere_calls (w:World)(gb:Nat){g0:Int}(h:Cel w gb [.bool true,.int .i64 g0] 141):Calls Try.prog 103 #[ptr gb] w fun e w'=>e=.returned (.bool true)∧w'=w:=by
 have c0:=h.cell 0;clear h
 go_enter Try.func103,Try.ntmps103
 go_wp2
 go_ret
 exact⟨rfl,rfl⟩
theorem w_gtr3 {a:Act}{oo:Oper}{w:World}{x y:Operand}{i j:Int}(h:oo.op=.binOp .gtr 3 x y 3)(hx:a.eval x=.int .i64 i)(hy:a.eval y=.int .i64 j):(execOp a.eval oo).run Try.prog w=.ok (.value (.bool (decide (j<i)))) w:=by
 unfold execOp;rw[h];simp only[hx,hy];exact run_vv (by simp[go_sem,Try.underlying3,Try.runUnderlying3])
theorem w_eql28_n {a:Act}{oo:Oper}{w:World}{x:Operand}(h:oo.op=.binOp .eql 28 x (.const (.pointer none)) 28)(hx:a.eval x=.pointer none):(execOp a.eval oo).run Try.prog w=.ok (.value (.bool true)) w:=by
 unfold execOp;rw[h];simp only[hx];rw[show a.eval (.const (.pointer none))=.pointer none from rfl];exact run_vv (by simp[go_sem,Try.underlying28,Try.runUnderlying28])
theorem bx_69 {p:Option Addr}:∀ w:World,(Instr.box 69 (.pointer p)).run Try.prog w=.ok (ptr w.heap.size) (w.alloc (.cells #[.pointer p] 69)):=fun w=>by
 simp[go_sem,Try.underlying69,Try.runUnderlying69,Try.sizeOf69,Try.isAgg69,Try.zeroValue69]
theorem l_69 {w:World}{a:Addr}{v:Value}(hc:w.cell? a=some v):(Instr.loadAt 69 (.pointer (some a))).run Try.prog w=.ok v w:=by simp[go_sem,hc,Try.underlying69,Try.runUnderlying69,Try.sizeOf69,Try.isAgg69]
theorem fa141_1 {b o:Nat}:∀ w,(Instr.fieldAt 141 (.pointer (some ⟨b,o,none⟩)) 1).run Try.prog w=.ok (.pointer (some ⟨b,o+1,none⟩)) w:=fun w=>by
 simp[go_sem,Try.underlying141,Try.runUnderlying141,Try.sizeOf141,Try.isAgg141,Try.sizeOf3,Try.sizeOf4]
theorem oq28n {mb:Nat}{w:World}{x:Nat→Value}(e0:x 0=(ptr mb))(e1:x 1=(.pointer none))  : OrdOk Try.prog (sO (sL (sR (sR q28)))) (fg 34 (up (up (up (up (up (up (up (up x 16 (ptr mb)) 17 (ptr mb)) 18 (ptr mb)) 19 (.pointer none)) 20 (ptr mb)) 21 (ptr mb)) 22 (ptr mb)) 23 (.func (.func 34) #[ptr mb] #[]))) [] (fun j=>decide (8≤j)) w:=by
 refine⟨fun q9 o ho hs=>?_,by decide +kernel,by decide +kernel⟩
 match q9,ho,hs with
 | 0,ho,_ =>
  obtain rfl:=so' ho;exact⟨16,⟨rfl,rfl,rfl,(by decide +kernel),nofun⟩,(show 16<34 by decide),fun a h τ δ=>ex_move rfl (show a.eval (.tmp 0)=(ptr mb) from(h _ (show Operand.tmp 0∈(#[Operand.tmp 0]:Array Operand) by simp)).trans e0)⟩
 | 1,ho,_ =>
  obtain rfl:=so' ho;exact⟨17,⟨rfl,rfl,rfl,(by decide +kernel),nofun⟩,(show 17<34 by decide),fun a h τ δ=>ex_nilc rfl (show a.eval (.tmp 16)=(ptr mb) from(h _ (show Operand.tmp 16∈(#[Operand.tmp 16]:Array Operand) by simp)))⟩
 | 2,ho,_ =>
  obtain rfl:=so' ho;exact⟨18,⟨rfl,rfl,rfl,(by decide +kernel),nofun⟩,(show 18<34 by decide),fun a h τ δ=>ex_field (v:=(ptr mb)) rfl (show a.eval (.tmp 17)=(ptr mb) from(h _ (show Operand.tmp 17∈(#[Operand.tmp 17]:Array Operand) by simp))) fa91_0⟩
 | 3,ho,_ =>
  obtain rfl:=so' ho;exact⟨19,⟨rfl,rfl,rfl,(by decide +kernel),nofun⟩,(show 19<34 by decide),fun a h τ δ=>ex_move rfl (show a.eval (.tmp 1)=(.pointer none) from(h _ (show Operand.tmp 1∈(#[Operand.tmp 1]:Array Operand) by simp)).trans e1)⟩
 | 4,ho,_ =>
  obtain rfl:=so' ho;exact⟨20,⟨rfl,rfl,rfl,(by decide +kernel),nofun⟩,(show 20<34 by decide),fun a h τ δ=>ex_move rfl (show a.eval (.tmp 0)=(ptr mb) from(h _ (show Operand.tmp 0∈(#[Operand.tmp 0]:Array Operand) by simp)).trans e0)⟩
 | 5,ho,_ =>
  obtain rfl:=so' ho;exact⟨21,⟨rfl,rfl,rfl,(by decide +kernel),nofun⟩,(show 21<34 by decide),fun a h τ δ=>ex_nilc rfl (show a.eval (.tmp 20)=(ptr mb) from(h _ (show Operand.tmp 20∈(#[Operand.tmp 20]:Array Operand) by simp)))⟩
 | 6,ho,_ =>
  obtain rfl:=so' ho;exact⟨22,⟨rfl,rfl,rfl,(by decide +kernel),nofun⟩,(show 22<34 by decide),fun a h τ δ=>ex_field (v:=(ptr mb)) rfl (show a.eval (.tmp 21)=(ptr mb) from(h _ (show Operand.tmp 21∈(#[Operand.tmp 21]:Array Operand) by simp))) fa91_0⟩
 | 7,ho,_ =>
  obtain rfl:=so' ho;exact⟨23,⟨rfl,rfl,rfl,(by decide +kernel),nofun⟩,(show 23<34 by decide),fun a h τ δ=>w_mk1_0 rfl (show a.eval (.tmp 22)=(ptr mb) from(h _ (show Operand.tmp 22∈(#[Operand.tmp 22]:Array Operand) by simp)))⟩
 | 8,_,hs=>cases hs
 | 9,_,hs=>cases hs
 | n+10,ho,_ =>
  have:=lt_of_op ho;exact absurd this (by show ¬ n+10<10;omega)
theorem oq38n (w:World)(x:Nat→Value)(hb:Nat)(by1:Int)(c1:w.cell? ⟨hb,1,none⟩=some (.int .i64 by1))(h0:x 0=ptr hb)(h1:x 1=.pointer none) :
  (sL (sL (sR (sR (sR q38))))).wp Try.prog (fun e a' w'=>e=.normal∧a'.defers=[]∧lQ 26 (fun x=>x 0=ptr hb∧x 1=.pointer none∧x 22=.bool (decide (by1≠-2))) w a'.tmps w') ⟨fg 26 x,[]⟩ w:=by
 refine hideP fun G HQ=>?_;rw[show fg 26 x=#[x 0,x 1,x 2,x 3,x 4,x 5,x 6,x 7,x 8,x 9,x 10,x 11,x 12,x 13,x 14,x 15,x 16,x 17,x 18,x 19,x 20,x 21,x 22,x 23,x 24,x 25] from rfl];simp only[q38,Try.f38,Option.getD_some,sL,sR,sB,sT,sF,h0,h1];have HW:=Lib.hid who_nil
 go_wp2
 go_quiet (first | (go_at_call 37;exact Calls.quiet_of_same (HW.out _)))
 go_wp2
 refine HQ.out _ _ ?_;exact lQ_mk rfl ⟨rfl,rfl,congrArg Value.bool (bne_dec _ _)⟩ ((Keeps.refl _ _).drewN _)
theorem oq15ntrue (w:World)(x:Nat→Value)(mb bb:Nat)(by0 q0:Int)(hby:by0 = -1)(hm:Blk w mb [.bool true,.int .i64 by0,.int .i64 q0,.int .i64 q0] 88)(hbb:Blk w bb [ptr mb] 39)(h0:x 0=ptr mb)(h1:x 1=.pointer none)(h2:x 2=ptr bb)(h4:x 4=.int .i64 0) :
  (sL (sL (sR (sR q15)))).wp Try.prog (fun e a' w'=>e=.normal∧a'.defers=[]∧lQ 65 (fun x=>x 0=ptr mb∧x 1=.pointer none∧x 2=ptr bb∧x 4=.int .i64 0∧x 35=.bool false) w a'.tmps w') ⟨fg 65 x,[]⟩ w:=by
 refine hideP fun G HQ=>?_;rw[show fg 65 x=#[x 0,x 1,x 2,x 3,x 4,x 5,x 6,x 7,x 8,x 9,x 10,x 11,x 12,x 13,x 14,x 15,x 16,x 17,x 18,x 19,x 20,x 21,x 22,x 23,x 24,x 25,x 26,x 27,x 28,x 29,x 30,x 31,x 32,x 33,x 34,x 35,x 36,x 37,x 38,x 39,x 40,x 41,x 42,x 43,x 44,x 45,x 46,x 47,x 48,x 49,x 50,x 51,x 52,x 53,x 54,x 55,x 56,x 57,x 58,x 59,x 60,x 61,x 62,x 63,x 64] from rfl];simp only[q15,Try.f15,Option.getD_some,sL,sR,sB,sT,sF,h0,h1,h2,h4];have HF:Hid (∀ n,Calls Try.prog 34 #[ptr mb] (w.drewN n) fun e w'=>e=.returned (.bool true)∧w'=w.drewN n):=Lib.hid fun n=>(free_calls (w.drewN n) mb (by0:=by0) (hm.cell 1)).mono fun e w' ⟨h1,h2⟩=>⟨h1.trans (by rw[decide_eq_true hby]),h2⟩;have c0:=hbb.cell 0;have c2:=hm.cell 2;have c3:=hm.cell 3;clear hm hbb
 go_wp2
 go_quiet (first | (go_at_call 34;exact Calls.quiet_of_same (HF.out _)))
 go_wp2
 refine HQ.out _ _ ?_;exact lQ_mk rfl ⟨rfl,rfl,rfl,rfl,congrArg Value.bool (by simp)⟩ ((Keeps.refl _ _).drewN _)
theorem oq15nb (w:World)(x:Nat→Value)(mb bb:Nat)(by1 as1 ha1:Int)(hm:Blk w mb [.bool true,.int .i64 by1,.int .i64 as1,.int .i64 ha1] 88)(hbb:Blk w bb [ptr mb] 39)(h0:x 0=ptr mb)(h1:x 1=.pointer none)(h2:x 2=ptr bb) :
  (sL (sR (sR (sR (sR (sR (sR (sR (sR q15))))))))).wp Try.prog (fun e a' w'=>e=.normal∧a'.defers=[]∧sQ 65 (fun x=>x 0=ptr mb) mb [.bool true,.int .i64 (-2),.int .i64 as1,.int .i64 ha1] 88 w a'.tmps w') ⟨fg 65 x,[]⟩ w:=by
 refine hideQ fun G HQ=>?_;rw[show fg 65 x=#[x 0,x 1,x 2,x 3,x 4,x 5,x 6,x 7,x 8,x 9,x 10,x 11,x 12,x 13,x 14,x 15,x 16,x 17,x 18,x 19,x 20,x 21,x 22,x 23,x 24,x 25,x 26,x 27,x 28,x 29,x 30,x 31,x 32,x 33,x 34,x 35,x 36,x 37,x 38,x 39,x 40,x 41,x 42,x 43,x 44,x 45,x 46,x 47,x 48,x 49,x 50,x 51,x 52,x 53,x 54,x 55,x 56,x 57,x 58,x 59,x 60,x 61,x 62,x 63,x 64] from rfl];simp only[q15,Try.f15,Option.getD_some,sL,sR,sB,sT,sF,h0,h1,h2];have HW:=Lib.hid who_nil;have c0:=hbb.cell 0;have c1:=hm.cell 1;have z1:=hm.frozen 1;have HM:=Lib.hid hm;clear hbb hm
 go_region_with (go_at_call 37;refine(HW.out _).mono ?_;rintro e w' ⟨rfl,rfl⟩)
 all_goals
  refine⟨rfl,?_⟩;refine HQ.out _ _ ?_;exact sQ_mk rfl rfl ⟨Nat.le_of_eq (World.size_setCell _ _ _).symm,fun c hc hn=>setCell_frame (by simpa using hn)⟩ (HM.out.set 1 _)
theorem oq15nfalse (w:World)(x:Nat→Value)(mb bb:Nat)(by0 q0:Int)(hby:¬ by0 = -1)(hm:Blk w mb [.bool true,.int .i64 by0,.int .i64 q0,.int .i64 q0] 88)(hbb:Blk w bb [ptr mb] 39)(h0:x 0=ptr mb)(h1:x 1=.pointer none)(h2:x 2=ptr bb)(h4:x 4=.int .i64 0) :
  (sL (sL (sR (sR q15)))).wp Try.prog (fun e a' w'=>e=.normal∧a'.defers=[]∧lQ 65 (fun x=>x 0=ptr mb∧x 1=.pointer none∧x 2=ptr bb∧x 4=.int .i64 0∧x 35=.bool true) w a'.tmps w') ⟨fg 65 x,[]⟩ w:=by
 refine hideP fun G HQ=>?_;rw[show fg 65 x=#[x 0,x 1,x 2,x 3,x 4,x 5,x 6,x 7,x 8,x 9,x 10,x 11,x 12,x 13,x 14,x 15,x 16,x 17,x 18,x 19,x 20,x 21,x 22,x 23,x 24,x 25,x 26,x 27,x 28,x 29,x 30,x 31,x 32,x 33,x 34,x 35,x 36,x 37,x 38,x 39,x 40,x 41,x 42,x 43,x 44,x 45,x 46,x 47,x 48,x 49,x 50,x 51,x 52,x 53,x 54,x 55,x 56,x 57,x 58,x 59,x 60,x 61,x 62,x 63,x 64] from rfl];simp only[q15,Try.f15,Option.getD_some,sL,sR,sB,sT,sF,h0,h1,h2,h4];have HF:Hid (∀ n,Calls Try.prog 34 #[ptr mb] (w.drewN n) fun e w'=>e=.returned (.bool false)∧w'=w.drewN n):=Lib.hid fun n=>(free_calls (w.drewN n) mb (by0:=by0) (hm.cell 1)).mono fun e w' ⟨h1,h2⟩=>⟨h1.trans (by rw[decide_eq_false hby]),h2⟩;have c0:=hbb.cell 0;have c2:=hm.cell 2;have c3:=hm.cell 3;clear hm hbb
 go_wp2
 go_quiet (first | (go_at_call 34;exact Calls.quiet_of_same (HF.out _)))
 go_wp2
 refine HQ.out _ _ ?_;exact lQ_mk rfl ⟨rfl,rfl,rfl,rfl,congrArg Value.bool (by simp)⟩ ((Keeps.refl _ _).drewN _)
theorem oq48nb (w:World)(x:Nat→Value)(mb bb:Nat)(by1 rd1 wt1:Int)(hm:Blk w mb [.bool true,.int .i64 by1,.int .i64 rd1,.int .i64 wt1] 93)(hbb:Blk w bb [ptr mb] 50)(h0:x 0=ptr mb)(h1:x 1=.pointer none)(h2:x 2=ptr bb) :
  (sL (sR (sR (sR (sR (sR (sR (sR (sR q48))))))))).wp Try.prog (fun e a' w'=>e=.normal∧a'.defers=[]∧sQ 42 (fun x=>x 0=ptr mb) mb [.bool true,.int .i64 (-2),.int .i64 rd1,.int .i64 wt1] 93 w a'.tmps w') ⟨fg 42 x,[]⟩ w:=by
 refine hideQ fun G HQ=>?_;rw[show fg 42 x=#[x 0,x 1,x 2,x 3,x 4,x 5,x 6,x 7,x 8,x 9,x 10,x 11,x 12,x 13,x 14,x 15,x 16,x 17,x 18,x 19,x 20,x 21,x 22,x 23,x 24,x 25,x 26,x 27,x 28,x 29,x 30,x 31,x 32,x 33,x 34,x 35,x 36,x 37,x 38,x 39,x 40,x 41] from rfl];simp only[q48,Try.f48,Option.getD_some,sL,sR,sB,sT,sF,h0,h1,h2];have HW:=Lib.hid who_nil;have c0:=hbb.cell 0;have c1:=hm.cell 1;have z1:=hm.frozen 1;have HM:=Lib.hid hm;clear hbb hm
 go_region_with (go_at_call 37;refine(HW.out _).mono ?_;rintro e w' ⟨rfl,rfl⟩)
 all_goals
  refine⟨rfl,?_⟩;refine HQ.out _ _ ?_;exact sQ_mk rfl rfl ⟨Nat.le_of_eq (World.size_setCell _ _ _).symm,fun c hc hn=>setCell_frame (by simpa using hn)⟩ (HM.out.set 1 _)
theorem wait58_34_true {w:World}{hb bb:Nat}(hc:∀ τ d,Calls Try.prog 34 #[ptr hb] (re w τ d) fun e w2=>e=.returned (.bool true)∧w2=re w τ d):CCn 58 #[ptr hb,(.pointer none),(.func (.func 34) #[ptr hb] #[])] w (fun v w'=>v=.int .i64 0∧Kp [] w w'):=by
 intro m K hK cl cs hcm h;have hk:(base 58).kind≠.early:=nofun;have hD:=hK.det;rw[show(#[ptr hb,(.pointer none),(.func (.func 34) #[ptr hb] #[])]:Array Value)=[ptr hb,(.pointer none),(.func (.func 34) #[ptr hb] #[])].toArray from rfl,enter_fg (n:=17) (c:=q58) Try.func58 rfl rfl rfl];have kk:Kp [] w w:=⟨Nat.le_refl _,fun _ _ _=>rfl⟩;refine hD.sr (hD.asn (.int .i64 0) ?_);refine hD.e0 (hD.s0 (hD.sr (hD.mvn (.pointer none) ?_)));refine hD.pun (.bool true) (fun w=>w_eql28_n rfl rfl) ?_;refine hD.mvn (.bool true) ?_;refine hD.gwn (.func (.func 34) #[ptr hb] #[]) rfl (fun τ d=>ex_move rfl rfl) ?_;refine hD.entg (n:=0) (args:=#[ptr hb]) hk rfl rfl (by decide +kernel) nofun (fun τ d=>x_callb rfl rfl Try.func34 rfl rfl (by simp)) ?_;refine hK.callp fits shut (f:=34) rfl (v:=.bool true) hc ?_;refine finn 11 ?_;refine hD.gwn (.bool false) rfl (fun τ d=>pu_not (y:=true) rfl rfl) ?_;refine hD.pun (.bool false) (fun w=>pu_pick (t:=true) rfl rfl rfl) ?_;refine hD.e0 (hD.cc false (hD.k0 (hD.sr (hD.mvn (.pointer none) ?_))));refine hD.mvn (.func (.func 34) #[ptr hb] #[]) ?_;refine hD.cf #[(.pointer none),(.func (.func 34) #[ptr hb] #[])] hk Try.func35 ?_;refine wait_idle hK (.inr ⟨_,_,_,rfl⟩) rfl idle_none fun w1 kw1=>?_;have kk:=kk.trans kw1;refine finn 16 ?_;refine hD.z0 (hD.asn (.int .i64 0) ?_);refine hD.e0 (hD.ret (n:=0) ?_);exact hD.leave (n:=0) (b:=base 58) (v:=.int .i64 0) rfl rfl Try.func58 (fun τ d=>res1v rfl rfl) hcm (h _ _ ⟨rfl,kk⟩)
theorem wait58_34_false {w:World}{hb bb:Nat}(hc:∀ τ d,Calls Try.prog 34 #[ptr hb] (re w τ d) fun e w2=>e=.returned (.bool false)∧w2=re w τ d):CCn 58 #[ptr hb,(.pointer none),(.func (.func 34) #[ptr hb] #[])] w (fun v w'=>v=.int .i64 91∧Kp [] w w'):=by
 intro m K hK cl cs hcm h;have hk:(base 58).kind≠.early:=nofun;have hD:=hK.det;rw[show(#[ptr hb,(.pointer none),(.func (.func 34) #[ptr hb] #[])]:Array Value)=[ptr hb,(.pointer none),(.func (.func 34) #[ptr hb] #[])].toArray from rfl,enter_fg (n:=17) (c:=q58) Try.func58 rfl rfl rfl];have kk:Kp [] w w:=⟨Nat.le_refl _,fun _ _ _=>rfl⟩;refine hD.sr (hD.asn (.int .i64 0) ?_);refine hD.e0 (hD.s0 (hD.sr (hD.mvn (.pointer none) ?_)));refine hD.pun (.bool true) (fun w=>w_eql28_n rfl rfl) ?_;refine hD.mvn (.bool true) ?_;refine hD.gwn (.func (.func 34) #[ptr hb] #[]) rfl (fun τ d=>ex_move rfl rfl) ?_;refine hD.entg (n:=0) (args:=#[ptr hb]) hk rfl rfl (by decide +kernel) nofun (fun τ d=>x_callb rfl rfl Try.func34 rfl rfl (by simp)) ?_;refine hK.callp fits shut (f:=34) rfl (v:=.bool false) hc ?_;refine finn 11 ?_;refine hD.gwn (.bool true) rfl (fun τ d=>pu_not (y:=false) rfl rfl) ?_;refine hD.pun (.bool true) (fun w=>pu_pick (t:=true) rfl rfl rfl) ?_;refine hD.e0 (hD.cc true (hD.sr (hD.asn (.int .i64 91) ?_)));refine hD.e0 (hD.ret (n:=0) ?_);exact hD.leave (n:=0) (b:=base 58) (v:=.int .i64 91) rfl rfl Try.func58 (fun τ d=>res1v rfl rfl) hcm (h _ _ ⟨rfl,kk⟩)
theorem wait58_71_true {w:World}{hb bb:Nat}(hc:∀ τ d,Calls Try.prog 71 #[ptr bb] (re w τ d) fun e w2=>e=.returned (.bool true)∧w2=re w τ d):CCn 58 #[ptr hb,(.pointer none),(.func (.func 71) #[] #[ptr bb])] w (fun v w'=>v=.int .i64 0∧Kp [] w w'):=by
 intro m K hK cl cs hcm h;have hk:(base 58).kind≠.early:=nofun;have hD:=hK.det;rw[show(#[ptr hb,(.pointer none),(.func (.func 71) #[] #[ptr bb])]:Array Value)=[ptr hb,(.pointer none),(.func (.func 71) #[] #[ptr bb])].toArray from rfl,enter_fg (n:=17) (c:=q58) Try.func58 rfl rfl rfl];have kk:Kp [] w w:=⟨Nat.le_refl _,fun _ _ _=>rfl⟩;refine hD.sr (hD.asn (.int .i64 0) ?_);refine hD.e0 (hD.s0 (hD.sr (hD.mvn (.pointer none) ?_)));refine hD.pun (.bool true) (fun w=>w_eql28_n rfl rfl) ?_;refine hD.mvn (.bool true) ?_;refine hD.gwn (.func (.func 71) #[] #[ptr bb]) rfl (fun τ d=>ex_move rfl rfl) ?_;refine hD.entg (n:=0) (args:=#[ptr bb]) hk rfl rfl (by decide +kernel) nofun (fun τ d=>x_callb rfl rfl Try.func71 rfl rfl (by simp)) ?_;refine hK.callp fits shut (f:=71) rfl (v:=.bool true) hc ?_;refine finn 11 ?_;refine hD.gwn (.bool false) rfl (fun τ d=>pu_not (y:=true) rfl rfl) ?_;refine hD.pun (.bool false) (fun w=>pu_pick (t:=true) rfl rfl rfl) ?_;refine hD.e0 (hD.cc false (hD.k0 (hD.sr (hD.mvn (.pointer none) ?_))));refine hD.mvn (.func (.func 71) #[] #[ptr bb]) ?_;refine hD.cf #[(.pointer none),(.func (.func 71) #[] #[ptr bb])] hk Try.func35 ?_;refine wait_idle hK (.inr ⟨_,_,_,rfl⟩) rfl idle_none fun w1 kw1=>?_;have kk:=kk.trans kw1;refine finn 16 ?_;refine hD.z0 (hD.asn (.int .i64 0) ?_);refine hD.e0 (hD.ret (n:=0) ?_);exact hD.leave (n:=0) (b:=base 58) (v:=.int .i64 0) rfl rfl Try.func58 (fun τ d=>res1v rfl rfl) hcm (h _ _ ⟨rfl,kk⟩)
theorem wait58_71_false {w:World}{hb bb:Nat}(hc:∀ τ d,Calls Try.prog 71 #[ptr bb] (re w τ d) fun e w2=>e=.returned (.bool false)∧w2=re w τ d):CCn 58 #[ptr hb,(.pointer none),(.func (.func 71) #[] #[ptr bb])] w (fun v w'=>v=.int .i64 91∧Kp [] w w'):=by
 intro m K hK cl cs hcm h;have hk:(base 58).kind≠.early:=nofun;have hD:=hK.det;rw[show(#[ptr hb,(.pointer none),(.func (.func 71) #[] #[ptr bb])]:Array Value)=[ptr hb,(.pointer none),(.func (.func 71) #[] #[ptr bb])].toArray from rfl,enter_fg (n:=17) (c:=q58) Try.func58 rfl rfl rfl];have kk:Kp [] w w:=⟨Nat.le_refl _,fun _ _ _=>rfl⟩;refine hD.sr (hD.asn (.int .i64 0) ?_);refine hD.e0 (hD.s0 (hD.sr (hD.mvn (.pointer none) ?_)));refine hD.pun (.bool true) (fun w=>w_eql28_n rfl rfl) ?_;refine hD.mvn (.bool true) ?_;refine hD.gwn (.func (.func 71) #[] #[ptr bb]) rfl (fun τ d=>ex_move rfl rfl) ?_;refine hD.entg (n:=0) (args:=#[ptr bb]) hk rfl rfl (by decide +kernel) nofun (fun τ d=>x_callb rfl rfl Try.func71 rfl rfl (by simp)) ?_;refine hK.callp fits shut (f:=71) rfl (v:=.bool false) hc ?_;refine finn 11 ?_;refine hD.gwn (.bool true) rfl (fun τ d=>pu_not (y:=false) rfl rfl) ?_;refine hD.pun (.bool true) (fun w=>pu_pick (t:=true) rfl rfl rfl) ?_;refine hD.e0 (hD.cc true (hD.sr (hD.asn (.int .i64 91) ?_)));refine hD.e0 (hD.ret (n:=0) ?_);exact hD.leave (n:=0) (b:=base 58) (v:=.int .i64 91) rfl rfl Try.func58 (fun τ d=>res1v rfl rfl) hcm (h _ _ ⟨rfl,kk⟩)
theorem lock_nil_true {w:World}{mb:Nat}{by0:Int}(hby:by0 = -1)(hblk:Blk w mb [.bool true,.int .i64 by0] 91):CCn 28 #[ptr mb,(.pointer none)] w (RB (.int .i64 0) mb [.bool true,.int .i64 (-2)] 91 w):=by
 intro m K hK cl cs hcm h;have hk:(base 28).kind≠.early:=nofun;have hD:=hK.det;rw[show(#[ptr mb,(.pointer none)]:Array Value)=[ptr mb,(.pointer none)].toArray from rfl,enter_fg (n:=34) (c:=q28) Try.func28 rfl rfl rfl];have kk:Kp [mb] w w:=⟨Nat.le_refl _,fun _ _ _=>rfl⟩;refine hD.sr (hD.asn (.int .i64 0) ?_);refine hD.e0 (hD.s0 (hD.sr (hD.mvn (ptr mb) ?_)));refine hD.pun (.bool false) (fun w=>w_eql48_p rfl rfl) ?_;refine hD.mvn (.bool false) ?_;refine hD.gwn (ptr mb) rfl (fun τ d=>ex_move rfl rfl) ?_;refine hD.gwn (ptr mb) rfl (fun τ d=>ex_nilc rfl rfl) ?_;refine hD.gwn (ptr mb) rfl (fun τ d=>ex_field (v:=(ptr mb)) rfl rfl fa91_0) ?_;refine hD.gwn (ptr mb) rfl (fun τ d=>ex_field (v:=(ptr mb)) rfl rfl fa86_0) ?_;refine hD.gwn (.bool true) rfl (fun τ d=>ex_load rfl rfl (l_4 (hblk.cell 0))) ?_;refine hD.gwn (.bool false) rfl (fun τ d=>pu_not (y:=true) rfl rfl) ?_;refine hD.pun (.bool false) (fun w=>pu_pick (t:=false) rfl rfl rfl) ?_;refine hD.e0 (hD.cc false (hD.k0 (hD.s0 ?_)));refine draw_call (s:=8) hK [(16,(ptr mb)),(17,(ptr mb)),(18,(ptr mb)),(19,(.pointer none)),(20,(ptr mb)),(21,(ptr mb)),(22,(ptr mb)),(23,(.func (.func 34) #[ptr mb] #[]))] rfl mixed (oq28n rfl rfl) (by decide +kernel) (by decide +kernel) (by decide +kernel)
  [(0,(ptr mb)),(1,(.pointer none)),(4,(.int .i64 0)),(6,(ptr mb)),(7,(.bool false)),(8,(.bool false)),(9,(ptr mb)),(10,(ptr mb)),(11,(ptr mb)),(12,(ptr mb)),(13,(.bool true)),(14,(.bool false)),(15,(.bool false)),(16,(ptr mb)),(17,(ptr mb)),(18,(ptr mb)),(19,(.pointer none)),(20,(ptr mb)),(21,(ptr mb)),(22,(ptr mb)),(23,(.func (.func 34) #[ptr mb] #[]))] ⟨⟨(show 0<34 by decide),(show freeOf (sO (sL (sR (sR q28)))) 8 0=true by decide +kernel),rfl⟩,⟨(show 1<34 by decide),(show freeOf (sO (sL (sR (sR q28)))) 8 1=true by decide +kernel),rfl⟩,⟨(show 4<34 by decide),(show freeOf (sO (sL (sR (sR q28)))) 8 4=true by decide +kernel),rfl⟩,⟨(show 6<34 by decide),(show freeOf (sO (sL (sR (sR q28)))) 8 6=true by decide +kernel),rfl⟩,⟨(show 7<34 by decide),(show freeOf (sO (sL (sR (sR q28)))) 8 7=true by decide +kernel),rfl⟩,⟨(show 8<34 by decide),(show freeOf (sO (sL (sR (sR q28)))) 8 8=true by decide +kernel),rfl⟩,⟨(show 9<34 by decide),(show freeOf (sO (sL (sR (sR q28)))) 8 9=true by decide +kernel),rfl⟩,⟨(show 10<34 by decide),(show freeOf (sO (sL (sR (sR q28)))) 8 10=true by decide +kernel),rfl⟩,⟨(show 11<34 by decide),(show freeOf (sO (sL (sR (sR q28)))) 8 11=true by decide +kernel),rfl⟩,⟨(show 12<34 by decide),(show freeOf (sO (sL (sR (sR q28)))) 8 12=true by decide +kernel),rfl⟩,⟨(show 13<34 by decide),(show freeOf (sO (sL (sR (sR q28)))) 8 13=true by decide +kernel),rfl⟩,⟨(show 14<34 by decide),(show freeOf (sO (sL (sR (sR q28)))) 8 14=true by decide +kernel),rfl⟩,⟨(show 15<34 by decide),(show freeOf (sO (sL (sR (sR q28)))) 8 15=true by decide +kernel),rfl⟩,⟨(show 16<34 by decide),(show freeOf (sO (sL (sR (sR q28)))) 8 16=true by decide +kernel),rfl⟩,⟨(show 17<34 by decide),(show freeOf (sO (sL (sR (sR q28)))) 8 17=true by decide +kernel),rfl⟩,⟨(show 18<34 by decide),(show freeOf (sO (sL (sR (sR q28)))) 8 18=true by decide +kernel),rfl⟩,⟨(show 19<34 by decide),(show freeOf (sO (sL (sR (sR q28)))) 8 19=true by decide +kernel),rfl⟩,⟨(show 20<34 by decide),(show freeOf (sO (sL (sR (sR q28)))) 8 20=true by decide +kernel),rfl⟩,⟨(show 21<34 by decide),(show freeOf (sO (sL (sR (sR q28)))) 8 21=true by decide +kernel),rfl⟩,⟨(show 22<34 by decide),(show freeOf (sO (sL (sR (sR q28)))) 8 22=true by decide +kernel),rfl⟩,⟨(show 23<34 by decide),(show freeOf (sO (sL (sR (sR q28)))) 8 23=true by decide +kernel),rfl⟩,trivial⟩ (fun x2 fu te hfu=>?_) (show(([16,17,18,19,20,21,22,23]:List Nat).all fun d=>(sO (sL (sR (sR q28)))).any fun o=>o.dst==some d)=true by decide +kernel)
 refine hD.cf #[ptr mb,(.pointer none),(.func (.func 34) #[ptr mb] #[])] hk Try.func58 ?_;refine wait58_34_true (bb:=0) (fun τ d=>(free_calls (re w τ d) mb (by0:=by0) (hblk.cell 1)).mono fun e w' ⟨h1,h2⟩=>⟨h1.trans (by rw[decide_eq_true hby]),h2⟩) hK rfl fun v w1 ⟨hv,kw1⟩=>?_;subst hv;have hblk':=kw1.blk hblk (by simp);have kk:=kk.trans (Kp.wid kw1);refine finn 24 ?_;refine lin_last (by decide +kernel) (by decide +kernel) (by decide +kernel) hfu ?_;refine hD.asn (.int .i64 0) ?_;refine hD.e0 (hD.s0 (hD.sr (hD.mvn (.int .i64 0) ?_)));refine hD.pun (.bool true) (fun w=>w_eql35 (i:=0) (j:=0) rfl rfl rfl) ?_;refine hD.e0 (hD.cc true (hD.r0 (hD.mvn (ptr mb) ?_)));refine hD.mvn (.pointer none) ?_;refine hD.cf #[(.pointer none)] hk Try.func37 ?_;refine hK.callp fits shut (f:=37) rfl (v:=.int .i64 (-2)) (fun τ d=>who_nil _) ?_;refine finn 29 ?_;refine hD.ncn ⟨mb,0,none⟩ ?_;refine hD.fdn (ptr mb) fa91_0 ?_;refine hD.fdn (ptrAt mb 1) fa86_1 ?_;refine hD.so hblk' 1 (.int .i64 (-2)) s_3 fun w2 ksw2 bw2=>?_;have kk:=kk.trans ksw2;refine hD.z0 (hD.mvn (.int .i64 0) ?_);refine hD.asn (.int .i64 0) ?_;refine hD.e0 (hD.ret (n:=0) ?_);exact hD.leave (n:=0) (b:=base 28) (v:=.int .i64 0) rfl rfl Try.func28 (fun τ d=>res1v rfl rfl) hcm (h _ _ ⟨rfl,kk,bw2⟩)
theorem lock_nil_false {w:World}{mb:Nat}{by0:Int}(hby:¬ by0 = -1)(hblk:Blk w mb [.bool true,.int .i64 by0] 91):CCn 28 #[ptr mb,(.pointer none)] w (RB (.int .i64 91) mb [.bool true,.int .i64 by0] 91 w):=by
 intro m K hK cl cs hcm h;have hk:(base 28).kind≠.early:=nofun;have hD:=hK.det;rw[show(#[ptr mb,(.pointer none)]:Array Value)=[ptr mb,(.pointer none)].toArray from rfl,enter_fg (n:=34) (c:=q28) Try.func28 rfl rfl rfl];have kk:Kp [mb] w w:=⟨Nat.le_refl _,fun _ _ _=>rfl⟩;refine hD.sr (hD.asn (.int .i64 0) ?_);refine hD.e0 (hD.s0 (hD.sr (hD.mvn (ptr mb) ?_)));refine hD.pun (.bool false) (fun w=>w_eql48_p rfl rfl) ?_;refine hD.mvn (.bool false) ?_;refine hD.gwn (ptr mb) rfl (fun τ d=>ex_move rfl rfl) ?_;refine hD.gwn (ptr mb) rfl (fun τ d=>ex_nilc rfl rfl) ?_;refine hD.gwn (ptr mb) rfl (fun τ d=>ex_field (v:=(ptr mb)) rfl rfl fa91_0) ?_;refine hD.gwn (ptr mb) rfl (fun τ d=>ex_field (v:=(ptr mb)) rfl rfl fa86_0) ?_;refine hD.gwn (.bool true) rfl (fun τ d=>ex_load rfl rfl (l_4 (hblk.cell 0))) ?_;refine hD.gwn (.bool false) rfl (fun τ d=>pu_not (y:=true) rfl rfl) ?_;refine hD.pun (.bool false) (fun w=>pu_pick (t:=false) rfl rfl rfl) ?_;refine hD.e0 (hD.cc false (hD.k0 (hD.s0 ?_)));refine draw_call (s:=8) hK [(16,(ptr mb)),(17,(ptr mb)),(18,(ptr mb)),(19,(.pointer none)),(20,(ptr mb)),(21,(ptr mb)),(22,(ptr mb)),(23,(.func (.func 34) #[ptr mb] #[]))] rfl mixed (oq28n rfl rfl) (by decide +kernel) (by decide +kernel) (by decide +kernel)
  [(0,(ptr mb)),(1,(.pointer none)),(4,(.int .i64 0)),(6,(ptr mb)),(7,(.bool false)),(8,(.bool false)),(9,(ptr mb)),(10,(ptr mb)),(11,(ptr mb)),(12,(ptr mb)),(13,(.bool true)),(14,(.bool false)),(15,(.bool false)),(16,(ptr mb)),(17,(ptr mb)),(18,(ptr mb)),(19,(.pointer none)),(20,(ptr mb)),(21,(ptr mb)),(22,(ptr mb)),(23,(.func (.func 34) #[ptr mb] #[]))] ⟨⟨(show 0<34 by decide),(show freeOf (sO (sL (sR (sR q28)))) 8 0=true by decide +kernel),rfl⟩,⟨(show 1<34 by decide),(show freeOf (sO (sL (sR (sR q28)))) 8 1=true by decide +kernel),rfl⟩,⟨(show 4<34 by decide),(show freeOf (sO (sL (sR (sR q28)))) 8 4=true by decide +kernel),rfl⟩,⟨(show 6<34 by decide),(show freeOf (sO (sL (sR (sR q28)))) 8 6=true by decide +kernel),rfl⟩,⟨(show 7<34 by decide),(show freeOf (sO (sL (sR (sR q28)))) 8 7=true by decide +kernel),rfl⟩,⟨(show 8<34 by decide),(show freeOf (sO (sL (sR (sR q28)))) 8 8=true by decide +kernel),rfl⟩,⟨(show 9<34 by decide),(show freeOf (sO (sL (sR (sR q28)))) 8 9=true by decide +kernel),rfl⟩,⟨(show 10<34 by decide),(show freeOf (sO (sL (sR (sR q28)))) 8 10=true by decide +kernel),rfl⟩,⟨(show 11<34 by decide),(show freeOf (sO (sL (sR (sR q28)))) 8 11=true by decide +kernel),rfl⟩,⟨(show 12<34 by decide),(show freeOf (sO (sL (sR (sR q28)))) 8 12=true by decide +kernel),rfl⟩,⟨(show 13<34 by decide),(show freeOf (sO (sL (sR (sR q28)))) 8 13=true by decide +kernel),rfl⟩,⟨(show 14<34 by decide),(show freeOf (sO (sL (sR (sR q28)))) 8 14=true by decide +kernel),rfl⟩,⟨(show 15<34 by decide),(show freeOf (sO (sL (sR (sR q28)))) 8 15=true by decide +kernel),rfl⟩,⟨(show 16<34 by decide),(show freeOf (sO (sL (sR (sR q28)))) 8 16=true by decide +kernel),rfl⟩,⟨(show 17<34 by decide),(show freeOf (sO (sL (sR (sR q28)))) 8 17=true by decide +kernel),rfl⟩,⟨(show 18<34 by decide),(show freeOf (sO (sL (sR (sR q28)))) 8 18=true by decide +kernel),rfl⟩,⟨(show 19<34 by decide),(show freeOf (sO (sL (sR (sR q28)))) 8 19=true by decide +kernel),rfl⟩,⟨(show 20<34 by decide),(show freeOf (sO (sL (sR (sR q28)))) 8 20=true by decide +kernel),rfl⟩,⟨(show 21<34 by decide),(show freeOf (sO (sL (sR (sR q28)))) 8 21=true by decide +kernel),rfl⟩,⟨(show 22<34 by decide),(show freeOf (sO (sL (sR (sR q28)))) 8 22=true by decide +kernel),rfl⟩,⟨(show 23<34 by decide),(show freeOf (sO (sL (sR (sR q28)))) 8 23=true by decide +kernel),rfl⟩,trivial⟩ (fun x2 fu te hfu=>?_) (show(([16,17,18,19,20,21,22,23]:List Nat).all fun d=>(sO (sL (sR (sR q28)))).any fun o=>o.dst==some d)=true by decide +kernel)
 refine hD.cf #[ptr mb,(.pointer none),(.func (.func 34) #[ptr mb] #[])] hk Try.func58 ?_;refine wait58_34_false (bb:=0) (fun τ d=>(free_calls (re w τ d) mb (by0:=by0) (hblk.cell 1)).mono fun e w' ⟨h1,h2⟩=>⟨h1.trans (by rw[decide_eq_false hby]),h2⟩) hK rfl fun v w1 ⟨hv,kw1⟩=>?_;subst hv;have hblk':=kw1.blk hblk (by simp);have kk:=kk.trans (Kp.wid kw1);refine finn 24 ?_;refine lin_last (by decide +kernel) (by decide +kernel) (by decide +kernel) hfu ?_;refine hD.asn (.int .i64 91) ?_;refine hD.e0 (hD.s0 (hD.sr (hD.mvn (.int .i64 91) ?_)));refine hD.pun (.bool false) (fun w=>w_eql35 (i:=91) (j:=0) rfl rfl rfl) ?_;refine hD.e0 (hD.cc false (hD.k0 (hD.sr (hD.mvn (.int .i64 91) ?_))));refine hD.asn (.int .i64 91) ?_;refine hD.e0 (hD.ret (n:=0) ?_);exact hD.leave (n:=0) (b:=base 28) (v:=.int .i64 91) rfl rfl Try.func28 (fun τ d=>res1v rfl rfl) hcm (h _ _ ⟨rfl,kk,hblk'⟩)
theorem try_nil_true {w:World}{mb:Nat}{by0:Int}(hby:by0 = -1)(hblk:Blk w mb [.bool true,.int .i64 by0] 91):CCn 44 #[ptr mb,(.pointer none)] w (RB (.tuple #[.bool true,.int .i64 0]) mb [.bool true,.int .i64 (-2)] 91 w):=by
 intro m K hK cl cs hcm h;have hk:(base 44).kind≠.early:=nofun;have hD:=hK.det;rw[show(#[ptr mb,(.pointer none)]:Array Value)=[ptr mb,(.pointer none)].toArray from rfl,enter_fg (n:=29) (c:=q44) Try.func44 rfl rfl rfl];have kk:Kp [mb] w w:=⟨Nat.le_refl _,fun _ _ _=>rfl⟩;refine hD.sr (hD.asn (.bool false) ?_);refine hD.asn (.int .i64 0) ?_;refine hD.e0 (hD.s0 (hD.sr (hD.mvn (ptr mb) ?_)));refine hD.pun (.bool false) (fun w=>w_eql48_p rfl rfl) ?_;refine hD.mvn (.bool false) ?_;refine hD.gwn (ptr mb) rfl (fun τ d=>ex_move rfl rfl) ?_;refine hD.gwn (ptr mb) rfl (fun τ d=>ex_nilc rfl rfl) ?_;refine hD.gwn (ptr mb) rfl (fun τ d=>ex_field (v:=(ptr mb)) rfl rfl fa91_0) ?_;refine hD.gwn (ptr mb) rfl (fun τ d=>ex_field (v:=(ptr mb)) rfl rfl fa86_0) ?_;refine hD.gwn (.bool true) rfl (fun τ d=>ex_load rfl rfl (l_4 (hblk.cell 0))) ?_;refine hD.gwn (.bool false) rfl (fun τ d=>pu_not (y:=true) rfl rfl) ?_;refine hD.pun (.bool false) (fun w=>pu_pick (t:=false) rfl rfl rfl) ?_;refine hD.e0 (hD.cc false (hD.k0 (hD.sr (hD.mvn (.pointer none) ?_))));refine hD.cf #[(.pointer none)] hk Try.func29 ?_;refine step_nil hK rfl fun w1 kw1=>?_;have hblk':=kw1.blk hblk (by simp);have kk:=kk.trans (Kp.wid kw1);refine finn 17 ?_;refine hD.e0 (hD.s0 (hD.sr (hD.mvn (ptr mb) ?_)));refine hD.ncn ⟨mb,0,none⟩ ?_;refine hD.fdn (ptr mb) fa91_0 ?_;refine hD.cf #[ptr mb] hk Try.func34 ?_;refine hK.callp fits shut (f:=34) rfl (v:=.bool true) (fun τ d=>(free_calls (re w1 τ d) mb (by0:=by0) (hblk'.cell 1)).mono fun e w' ⟨h1,h2⟩=>⟨h1.trans (by rw[decide_eq_true hby]),h2⟩) ?_;refine finn 21 ?_;refine hD.pun (.bool false) (fun w=>pu_not (y:=true) rfl rfl) ?_;refine hD.e0 (hD.cc false (hD.k0 (hD.sr (hD.mvn (ptr mb) ?_))));refine hD.mvn (.pointer none) ?_;refine hD.cf #[(.pointer none)] hk Try.func37 ?_;refine hK.callp fits shut (f:=37) rfl (v:=.int .i64 (-2)) (fun τ d=>who_nil _) ?_;refine finn 25 ?_;refine hD.ncn ⟨mb,0,none⟩ ?_;refine hD.fdn (ptr mb) fa91_0 ?_;refine hD.fdn (ptrAt mb 1) fa86_1 ?_;refine hD.so hblk' 1 (.int .i64 (-2)) s_3 fun w2 ksw2 bw2=>?_;have kk:=kk.trans ksw2;refine hD.z0 (hD.asn (.bool true) ?_);refine hD.asn (.int .i64 0) ?_;refine hD.e0 (hD.ret (n:=0) ?_);exact hD.leave (n:=0) (b:=base 44) (v:=.tuple #[.bool true,.int .i64 0]) rfl rfl Try.func44 (fun τ d=>res2v rfl rfl rfl) hcm (h _ _ ⟨rfl,kk,bw2⟩)
theorem try_nil_false {w:World}{mb:Nat}{by0:Int}(hby:¬ by0 = -1)(hblk:Blk w mb [.bool true,.int .i64 by0] 91):CCn 44 #[ptr mb,(.pointer none)] w (RB (.tuple #[.bool false,.int .i64 0]) mb [.bool true,.int .i64 by0] 91 w):=by
 intro m K hK cl cs hcm h;have hk:(base 44).kind≠.early:=nofun;have hD:=hK.det;rw[show(#[ptr mb,(.pointer none)]:Array Value)=[ptr mb,(.pointer none)].toArray from rfl,enter_fg (n:=29) (c:=q44) Try.func44 rfl rfl rfl];have kk:Kp [mb] w w:=⟨Nat.le_refl _,fun _ _ _=>rfl⟩;refine hD.sr (hD.asn (.bool false) ?_);refine hD.asn (.int .i64 0) ?_;refine hD.e0 (hD.s0 (hD.sr (hD.mvn (ptr mb) ?_)));refine hD.pun (.bool false) (fun w=>w_eql48_p rfl rfl) ?_;refine hD.mvn (.bool false) ?_;refine hD.gwn (ptr mb) rfl (fun τ d=>ex_move rfl rfl) ?_;refine hD.gwn (ptr mb) rfl (fun τ d=>ex_nilc rfl rfl) ?_;refine hD.gwn (ptr mb) rfl (fun τ d=>ex_field (v:=(ptr mb)) rfl rfl fa91_0) ?_;refine hD.gwn (ptr mb) rfl (fun τ d=>ex_field (v:=(ptr mb)) rfl rfl fa86_0) ?_;refine hD.gwn (.bool true) rfl (fun τ d=>ex_load rfl rfl (l_4 (hblk.cell 0))) ?_;refine hD.gwn (.bool false) rfl (fun τ d=>pu_not (y:=true) rfl rfl) ?_;refine hD.pun (.bool false) (fun w=>pu_pick (t:=false) rfl rfl rfl) ?_;refine hD.e0 (hD.cc false (hD.k0 (hD.sr (hD.mvn (.pointer none) ?_))));refine hD.cf #[(.pointer none)] hk Try.func29 ?_;refine step_nil hK rfl fun w1 kw1=>?_;have hblk':=kw1.blk hblk (by simp);have kk:=kk.trans (Kp.wid kw1);refine finn 17 ?_;refine hD.e0 (hD.s0 (hD.sr (hD.mvn (ptr mb) ?_)));refine hD.ncn ⟨mb,0,none⟩ ?_;refine hD.fdn (ptr mb) fa91_0 ?_;refine hD.cf #[ptr mb] hk Try.func34 ?_;refine hK.callp fits shut (f:=34) rfl (v:=.bool false) (fun τ d=>(free_calls (re w1 τ d) mb (by0:=by0) (hblk'.cell 1)).mono fun e w' ⟨h1,h2⟩=>⟨h1.trans (by rw[decide_eq_false hby]),h2⟩) ?_;refine finn 21 ?_;refine hD.pun (.bool true) (fun w=>pu_not (y:=false) rfl rfl) ?_;refine hD.e0 (hD.cc true (hD.sr (hD.asn (.bool false) ?_)));refine hD.asn (.int .i64 0) ?_;refine hD.e0 (hD.ret (n:=0) ?_);exact hD.leave (n:=0) (b:=base 44) (v:=.tuple #[.bool false,.int .i64 0]) rfl rfl Try.func44 (fun τ d=>res2v rfl rfl rfl) hcm (h _ _ ⟨rfl,kk,hblk'⟩)
theorem un38_true {w:World}{mb:Nat}{by0:Int}{ex:List Value}{t:TypeId}(hby:by0 = -2)(hblk:Blk w mb (.bool true::.int .i64 by0::ex) t):CCn 38 #[ptr mb,(.pointer none)] w (RB (.int .i64 0) mb (.bool true::.int .i64 (-1)::ex) t w):=by
 intro m K hK cl cs hcm h;have hk:(base 38).kind≠.early:=nofun;have hD:=hK.det;rw[show(#[ptr mb,(.pointer none)]:Array Value)=[ptr mb,(.pointer none)].toArray from rfl,enter_fg (n:=26) (c:=q38) Try.func38 rfl rfl rfl];have kk:Kp [mb] w w:=⟨Nat.le_refl _,fun _ _ _=>rfl⟩;refine hD.sr (hD.asn (.int .i64 0) ?_);refine hD.e0 (hD.s0 (hD.sr (hD.mvn (ptr mb) ?_)));refine hD.pun (.bool false) (fun w=>w_eql139_p rfl rfl) ?_;refine hD.mvn (.bool false) ?_;refine hD.gwn (ptr mb) rfl (fun τ d=>ex_move rfl rfl) ?_;refine hD.gwn (ptr mb) rfl (fun τ d=>ex_nilc rfl rfl) ?_;refine hD.gwn (ptr mb) rfl (fun τ d=>ex_field (v:=(ptr mb)) rfl rfl fa86_0) ?_;refine hD.gwn (.bool true) rfl (fun τ d=>ex_load rfl rfl (l_4 (hblk.cell 0))) ?_;refine hD.gwn (.bool false) rfl (fun τ d=>pu_not (y:=true) rfl rfl) ?_;refine hD.pun (.bool false) (fun w=>pu_pick (t:=false) rfl rfl rfl) ?_;refine hD.e0 (hD.cc false (hD.k0 (hD.sr (hD.mvn (.pointer none) ?_))));refine hD.cf #[(.pointer none)] hk Try.func29 ?_;refine step_nil hK rfl fun w1 kw1=>?_;have hblk':=kw1.blk hblk (by simp);have kk:=kk.trans (Kp.wid kw1);refine finn 15 ?_;refine hD.e0 (hD.s0 (hD.s0 (hK.seg fits shut (b:=base 38) ⟨_,Try.func38⟩ nofun (c:=(sL (sL (sR (sR (sR q38)))))) (by decide +kernel) (Q:=lQ 26 (fun x=>x 0=ptr mb∧x 1=.pointer none∧x 22=.bool (decide (by0≠-2))) w1) (fun t w' τ d h=>lQ_re h τ d) (fun τ d=>Code.wp_mono (fun e a w' ⟨h1,h2,h3⟩=>⟨h1,h2,lQ_un h3⟩) (oq38n (re w1 τ d) _ mb by0 (hblk'.cell 1) rfl rfl)) fun t w2 ⟨x',ex',⟨g0,g1,g22⟩,ksw2⟩=>?_)));subst ex';rw[allK.self (x:=x') (l:=[(0,ptr mb),(1,.pointer none),(22,.bool (decide (by0≠-2)))]) ⟨g0,g1,g22,trivial⟩];have hblk'':=ksw2.blk hblk' (by simp);have kk:=kk.trans (Kp.wid ksw2);refine hD.cx false (bF (fun h=>h hby)) ?_;refine hD.k0 (hD.sr (hD.mvn (ptr mb) ?_));refine hD.ncn ⟨mb,0,none⟩ ?_;refine hD.fdn (ptrAt mb 1) fa86_1 ?_;refine hD.so hblk'' 1 (.int .i64 (-1)) s_3 fun w3 ksw3 bw3=>?_;have kk:=kk.trans ksw3;refine hD.z0 (hD.asn (.int .i64 0) ?_);refine hD.e0 (hD.ret (n:=0) ?_);exact hD.leave (n:=0) (b:=base 38) (v:=.int .i64 0) rfl rfl Try.func38 (fun τ d=>res1v rfl rfl) hcm (h _ _ ⟨rfl,kk,bw3⟩)
theorem un38_false {w:World}{mb:Nat}{by0:Int}{ex:List Value}{t:TypeId}(hby:¬ by0 = -2)(hblk:Blk w mb (.bool true::.int .i64 by0::ex) t):CCn 38 #[ptr mb,(.pointer none)] w (RB (.int .i64 90) mb (.bool true::.int .i64 by0::ex) t w):=by
 intro m K hK cl cs hcm h;have hk:(base 38).kind≠.early:=nofun;have hD:=hK.det;rw[show(#[ptr mb,(.pointer none)]:Array Value)=[ptr mb,(.pointer none)].toArray from rfl,enter_fg (n:=26) (c:=q38) Try.func38 rfl rfl rfl];have kk:Kp [mb] w w:=⟨Nat.le_refl _,fun _ _ _=>rfl⟩;refine hD.sr (hD.asn (.int .i64 0) ?_);refine hD.e0 (hD.s0 (hD.sr (hD.mvn (ptr mb) ?_)));refine hD.pun (.bool false) (fun w=>w_eql139_p rfl rfl) ?_;refine hD.mvn (.bool false) ?_;refine hD.gwn (ptr mb) rfl (fun τ d=>ex_move rfl rfl) ?_;refine hD.gwn (ptr mb) rfl (fun τ d=>ex_nilc rfl rfl) ?_;refine hD.gwn (ptr mb) rfl (fun τ d=>ex_field (v:=(ptr mb)) rfl rfl fa86_0) ?_;refine hD.gwn (.bool true) rfl (fun τ d=>ex_load rfl rfl (l_4 (hblk.cell 0))) ?_;refine hD.gwn (.bool false) rfl (fun τ d=>pu_not (y:=true) rfl rfl) ?_;refine hD.pun (.bool false) (fun w=>pu_pick (t:=false) rfl rfl rfl) ?_;refine hD.e0 (hD.cc false (hD.k0 (hD.sr (hD.mvn (.pointer none) ?_))));refine hD.cf #[(.pointer none)] hk Try.func29 ?_;refine step_nil hK rfl fun w1 kw1=>?_;have hblk':=kw1.blk hblk (by simp);have kk:=kk.trans (Kp.wid kw1);refine finn 15 ?_;refine hD.e0 (hD.s0 (hD.s0 (hK.seg fits shut (b:=base 38) ⟨_,Try.func38⟩ nofun (c:=(sL (sL (sR (sR (sR q38)))))) (by decide +kernel) (Q:=lQ 26 (fun x=>x 0=ptr mb∧x 1=.pointer none∧x 22=.bool (decide (by0≠-2))) w1) (fun t w' τ d h=>lQ_re h τ d) (fun τ d=>Code.wp_mono (fun e a w' ⟨h1,h2,h3⟩=>⟨h1,h2,lQ_un h3⟩) (oq38n (re w1 τ d) _ mb by0 (hblk'.cell 1) rfl rfl)) fun t w2 ⟨x',ex',⟨g0,g1,g22⟩,ksw2⟩=>?_)));subst ex';rw[allK.self (x:=x') (l:=[(0,ptr mb),(1,.pointer none),(22,.bool (decide (by0≠-2)))]) ⟨g0,g1,g22,trivial⟩];have hblk'':=ksw2.blk hblk' (by simp);have kk:=kk.trans (Kp.wid ksw2);refine hD.cx true (bT hby) ?_;refine hD.sr (hD.asn (.int .i64 90) ?_);refine hD.e0 (hD.ret (n:=0) ?_);exact hD.leave (n:=0) (b:=base 38) (v:=.int .i64 90) rfl rfl Try.func38 (fun τ d=>res1v rfl rfl) hcm (h _ _ ⟨rfl,kk,hblk''⟩)
theorem un30 {w:World}{mb:Nat}{R:Value→World→Prop}(H:CCn 38 #[ptr mb,.pointer none] w R):CCn 30 #[ptr mb,.pointer none] w R:=by
 intro m K hK cl cs hcm h;have hk:(base 30).kind≠.early:=nofun;have hD:=hK.det;rw[show(#[ptr mb,(.pointer none)]:Array Value)=[ptr mb,(.pointer none)].toArray from rfl,enter_fg (n:=12) (c:=q30) Try.func30 rfl rfl rfl];refine hD.sr (hD.asn (.int .i64 0) ?_);refine hD.e0 (hD.s0 (hD.sr (hD.mvn (ptr mb) ?_)));refine hD.pun (.bool false) (fun w=>w_eql48_p rfl rfl) ?_;refine hD.e0 (hD.cc false (hD.k0 (hD.sr (hD.mvn (ptr mb) ?_))));refine hD.ncn ⟨mb,0,none⟩ ?_;refine hD.fdn (ptr mb) fa91_0 ?_;refine hD.mvn (.pointer none) ?_;refine hD.cf #[ptr mb,(.pointer none)] hk Try.func38 ?_;refine H hK rfl fun v w1 hR=>?_;refine finn 11 ?_;refine hD.asn v ?_;refine hD.e0 (hD.ret (n:=0) ?_);exact hD.leave (n:=0) (b:=base 30) (v:=v) rfl rfl Try.func30 (fun τ d=>res1v rfl rfl) hcm (h _ _ hR)
theorem un16 {w:World}{mb:Nat}{R:Value→World→Prop}(H:CCn 38 #[ptr mb,.pointer none] w R):CCn 16 #[ptr mb,.pointer none] w R:=by
 intro m K hK cl cs hcm h;have hk:(base 16).kind≠.early:=nofun;have hD:=hK.det;rw[show(#[ptr mb,(.pointer none)]:Array Value)=[ptr mb,(.pointer none)].toArray from rfl,enter_fg (n:=12) (c:=q16) Try.func16 rfl rfl rfl];refine hD.sr (hD.asn (.int .i64 0) ?_);refine hD.e0 (hD.s0 (hD.sr (hD.mvn (ptr mb) ?_)));refine hD.pun (.bool false) (fun w=>w_eql39_p rfl rfl) ?_;refine hD.e0 (hD.cc false (hD.k0 (hD.sr (hD.mvn (ptr mb) ?_))));refine hD.ncn ⟨mb,0,none⟩ ?_;refine hD.fdn (ptr mb) fa88_0 ?_;refine hD.mvn (.pointer none) ?_;refine hD.cf #[ptr mb,(.pointer none)] hk Try.func38 ?_;refine H hK rfl fun v w1 hR=>?_;refine finn 11 ?_;refine hD.asn v ?_;refine hD.e0 (hD.ret (n:=0) ?_);exact hD.leave (n:=0) (b:=base 16) (v:=v) rfl rfl Try.func16 (fun τ d=>res1v rfl rfl) hcm (h _ _ hR)
theorem un49 {w:World}{mb:Nat}{R:Value→World→Prop}(H:CCn 38 #[ptr mb,.pointer none] w R):CCn 49 #[ptr mb,.pointer none] w R:=by
 intro m K hK cl cs hcm h;have hk:(base 49).kind≠.early:=nofun;have hD:=hK.det;rw[show(#[ptr mb,(.pointer none)]:Array Value)=[ptr mb,(.pointer none)].toArray from rfl,enter_fg (n:=12) (c:=q49) Try.func49 rfl rfl rfl];refine hD.sr (hD.asn (.int .i64 0) ?_);refine hD.e0 (hD.s0 (hD.sr (hD.mvn (ptr mb) ?_)));refine hD.pun (.bool false) (fun w=>w_eql50_p rfl rfl) ?_;refine hD.e0 (hD.cc false (hD.k0 (hD.sr (hD.mvn (ptr mb) ?_))));refine hD.ncn ⟨mb,0,none⟩ ?_;refine hD.fdn (ptr mb) fa93_0 ?_;refine hD.mvn (.pointer none) ?_;refine hD.cf #[ptr mb,(.pointer none)] hk Try.func38 ?_;refine H hK rfl fun v w1 hR=>?_;refine finn 11 ?_;refine hD.asn v ?_;refine hD.e0 (hD.ret (n:=0) ?_);exact hD.leave (n:=0) (b:=base 49) (v:=v) rfl rfl Try.func49 (fun τ d=>res1v rfl rfl) hcm (h _ _ hR)
theorem fair_nil_true {w:World}{mb:Nat}{by0 q0:Int}(hby:by0 = -1)(hblk:Blk w mb [.bool true,.int .i64 by0,.int .i64 q0,.int .i64 q0] 88):CCn 15 #[ptr mb,(.pointer none)] w (RB (.int .i64 0) mb [.bool true,.int .i64 (-2),.int .i64 (wrap64 (q0+1)),.int .i64 (wrap64 (q0+1))] 88 w):=by
 intro m K hK cl cs hcm h;have hk:(base 15).kind≠.early:=nofun;have hD:=hK.det;rw[show(#[ptr mb,(.pointer none)]:Array Value)=[ptr mb,(.pointer none)].toArray from rfl,enter_fg (n:=65) (c:=q15) Try.func15 rfl rfl rfl];have kk:Kp [mb] w w:=⟨Nat.le_refl _,fun _ _ _=>rfl⟩;refine hD.sr (hD.bo [ptr mb] bx_39 fun w1 nw1 hnw1 ksw1 bw1=>?_);have genw1:w.heap.size≤nw1:=by rw[hnw1];exact kk.size
 have hblk':=ksw1.blk hblk (by simp);have kk:=kk.trans (Kp.wid ksw1);refine hD.asn (.int .i64 0) ?_;refine hD.e0 (hD.s0 (hD.sr (hD.ldn (ptr mb) (fun τ d=>l_39 (bw1.cell 0)) ?_)));refine hD.pun (.bool false) (fun w=>w_eql39_p rfl rfl) ?_;refine hD.mvn (.bool false) ?_;refine hD.gwn (ptr mb) rfl (fun τ d=>ex_load rfl rfl (l_39 (bw1.cell 0))) ?_;refine hD.gwn (ptr mb) rfl (fun τ d=>ex_nilc rfl rfl) ?_;refine hD.gwn (ptr mb) rfl (fun τ d=>ex_field (v:=(ptr mb)) rfl rfl fa88_0) ?_;refine hD.gwn (ptr mb) rfl (fun τ d=>ex_field (v:=(ptr mb)) rfl rfl fa86_0) ?_;refine hD.gwn (.bool true) rfl (fun τ d=>ex_load rfl rfl (l_4 (hblk'.cell 0))) ?_;refine hD.gwn (.bool false) rfl (fun τ d=>pu_not (y:=true) rfl rfl) ?_;refine hD.pun (.bool false) (fun w=>pu_pick (t:=false) rfl rfl rfl) ?_;refine hD.e0 (hD.cc false (hD.k0 (hD.s0 (hD.s0 (hK.seg fits shut (b:=base 15) ⟨_,Try.func15⟩ nofun (c:=(sL (sL (sR (sR q15))))) (by decide +kernel) (Q:=lQ 65 (fun x=>x 0=ptr mb∧x 1=.pointer none∧x 2=ptr nw1∧x 4=.int .i64 0∧x 35=.bool false) w1) (fun t w' τ d h=>lQ_re h τ d) (fun τ d=>Code.wp_mono (fun e a w' ⟨h1,h2,h3⟩=>⟨h1,h2,lQ_un h3⟩) (oq15ntrue (re w1 τ d) _ mb nw1 by0 q0 hby hblk' bw1 rfl rfl rfl rfl)) fun t w2 ⟨x',ex',⟨g0,g1,g2,g4,g35⟩,ksw2⟩=>?_)))));subst ex';rw[allK.self (x:=x') (l:=[(0,ptr mb),(1,.pointer none),(2,ptr nw1),(4,.int .i64 0),(35,.bool false)]) ⟨g0,g1,g2,g4,g35,trivial⟩];have hblk'':=ksw2.blk hblk' (by simp);have bw1':=ksw2.blk bw1 (by simp);have kk:=kk.trans (Kp.wid ksw2);refine hD.cc false (hD.k0 (hD.sr (hD.mvn (.pointer none) ?_)));refine hD.cf #[(.pointer none)] hk Try.func29 ?_;refine step_nil hK rfl fun w3 kw3=>?_;have hblk''':=kw3.blk hblk'' (by simp);have bw1'':=kw3.blk bw1' (by simp);have kk:=kk.trans (Kp.wid kw3);refine finn 37 ?_;refine hD.z0 (hD.ldn (ptr mb) (fun τ d=>l_39 (bw1''.cell 0)) ?_);refine hD.ncn ⟨mb,0,none⟩ ?_;refine hD.fdn (ptrAt mb 2) fa88_1 ?_;refine hD.ldn (.int .i64 q0) (fun τ d=>l_3 (hblk'''.cell 2)) ?_;refine hD.alloc (n:=0) (ob:=.cells #[.int .i64 0] 3) hk rfl ⟨rfl,rfl,rfl,(by decide +kernel),nofun⟩ al_3 ?_;obtain⟨w4,hsw4⟩:∃ z9,z9=w3.alloc (.cells #[.int .i64 0] 3):=⟨_,rfl⟩;obtain⟨nw4,hnw4⟩:∃ z9,z9=w3.heap.size:=⟨_,rfl⟩;have ksw4:Kp [] w3 w4:=by rw[hsw4];exact Kp.alloc [] _ _
 have bw4:Blk w4 nw4 [.int .i64 0] 3:=by rw[hsw4,hnw4];exact Blk.new _ _ _
 rw[← hsw4,← hnw4];clear hsw4;have genw4:w.heap.size≤nw4:=by rw[hnw4];exact kk.size
 have hblk'''':=ksw4.blk hblk''' (by simp);have bw1''':=ksw4.blk bw1'' (by simp);have kk:=kk.trans (Kp.wid ksw4);refine nm rfl ?_;refine hD.so bw4 0 (.int .i64 q0) s_3 fun w5 ksw5 bw5=>?_;have hblk''''':=ksw5.blk hblk'''' (by simpa using (cel_ne (Blk.cel hblk'''') (Blk.cel bw4) (by decide)));have bw1'''':=ksw5.blk bw1''' (by simpa using (cel_ne (Blk.cel bw1''') (Blk.cel bw4) (by decide)));have kk:=kk.own ksw5 genw4;refine hD.z0 (hD.ldn (ptr mb) (fun τ d=>l_39 (bw1''''.cell 0)) ?_);refine hD.ncn ⟨mb,0,none⟩ ?_;refine hD.fdn (ptrAt mb 2) fa88_1 ?_;refine hD.ldn (.int .i64 q0) (fun τ d=>l_3 (hblk'''''.cell 2)) ?_;refine hD.pun (.int .i64 (wrap64 (q0+1))) (fun w=>w_add3 rfl rfl rfl) ?_;refine hD.ncn ⟨mb,0,none⟩ ?_;refine hD.fdn (ptrAt mb 2) fa88_1 ?_;refine hD.so hblk''''' 2 (.int .i64 (wrap64 (q0+1))) s_3 fun w6 ksw6 bw6=>?_;have bw1''''':=ksw6.blk bw1'''' (by simpa using (cel_ne (Blk.cel bw1'''') (Blk.cel hblk''''') (by decide)));have bw5':=ksw6.blk bw5 (by simpa using (cel_ne (Blk.cel bw5) (Blk.cel hblk''''') (by decide)));have kk:=kk.trans ksw6;refine hD.z0 (hD.mvn (.pointer none) ?_);refine hD.pun (.func (.func 36) #[] #[ptr nw1,ptr nw4]) (fun w=>w_mk0_2 rfl rfl rfl) ?_;refine hD.cf #[(.pointer none),(.func (.func 36) #[] #[ptr nw1,ptr nw4])] hk Try.func35 ?_;refine wait_idle hK (.inr ⟨_,_,_,rfl⟩) rfl idle_none fun w7 kw7=>?_;have bw6':=kw7.blk bw6 (by simp);have bw1'''''':=kw7.blk bw1''''' (by simp);have bw5'':=kw7.blk bw5' (by simp);have kk:=kk.trans (Kp.wid kw7);refine finn 51 ?_;refine hD.z0 (hD.ldn (ptr mb) (fun τ d=>l_39 (bw1''''''.cell 0)) ?_);refine hD.ncn ⟨mb,0,none⟩ ?_;refine hD.fdn (ptrAt mb 3) fa88_2 ?_;refine hD.ldn (.int .i64 q0) (fun τ d=>l_3 (bw6'.cell 3)) ?_;refine hD.pun (.int .i64 (wrap64 (q0+1))) (fun w=>w_add3 rfl rfl rfl) ?_;refine hD.ncn ⟨mb,0,none⟩ ?_;refine hD.fdn (ptrAt mb 3) fa88_2 ?_;refine hD.so bw6' 3 (.int .i64 (wrap64 (q0+1))) s_3 fun w8 ksw8 bw8=>?_;have bw1''''''':=ksw8.blk bw1'''''' (by simpa using (cel_ne (Blk.cel bw1'''''') (Blk.cel bw6') (by decide)));have bw5''':=ksw8.blk bw5'' (by simpa using (cel_ne (Blk.cel bw5'') (Blk.cel bw6') (by decide)));have kk:=kk.trans ksw8;refine hD.e0 (hD.s0 (hK.seg fits shut (b:=base 15) ⟨_,Try.func15⟩ nofun (c:=(sL (sR (sR (sR (sR (sR (sR (sR (sR q15)))))))))) (by decide +kernel) (Q:=sQ 65 (fun x=>x 0=ptr mb) mb [.bool true,.int .i64 (-2),.int .i64 (wrap64 (q0+1)),.int .i64 (wrap64 (q0+1))] 88 w8) (fun t w' τ d h=>sQ_re h τ d) (fun τ d=>Code.wp_mono (fun e a w' ⟨h1,h2,h3⟩=>⟨h1,h2,sQ_un h3⟩) (oq15nb (re w8 τ d) _ mb nw1 by0 _ _ bw8 bw1''''''' rfl rfl rfl)) fun t w9 ⟨x',ex',g0,ksw9,bw9⟩=>?_));subst ex';rw[allK.self (x:=x') (l:=[(0,ptr mb)]) ⟨g0,trivial⟩];have bw1'''''''':=ksw9.blk bw1''''''' (by simpa using (cel_ne (Blk.cel bw1''''''') (Blk.cel bw8) (by decide)));have bw5'''':=ksw9.blk bw5''' (by simpa using (cel_ne (Blk.cel bw5''') (Blk.cel bw8) (by decide)));have kk:=kk.trans ksw9;refine hD.sr (hD.asn (.int .i64 0) ?_);refine hD.e0 (hD.ret (n:=0) ?_);exact hD.leave (n:=0) (b:=base 15) (v:=.int .i64 0) rfl rfl Try.func15 (fun τ d=>res1v rfl rfl) hcm (h _ _ ⟨rfl,kk,bw9⟩)
theorem fair_nil_false {w:World}{mb:Nat}{by0 q0:Int}(hby:¬ by0 = -1)(hblk:Blk w mb [.bool true,.int .i64 by0,.int .i64 q0,.int .i64 q0] 88):CCn 15 #[ptr mb,(.pointer none)] w (RB (.int .i64 91) mb [.bool true,.int .i64 by0,.int .i64 q0,.int .i64 q0] 88 w):=by
 intro m K hK cl cs hcm h;have hD:=hK.det;rw[show(#[ptr mb,(.pointer none)]:Array Value)=[ptr mb,(.pointer none)].toArray from rfl,enter_fg (n:=65) (c:=q15) Try.func15 rfl rfl rfl];have kk:Kp [mb] w w:=⟨Nat.le_refl _,fun _ _ _=>rfl⟩;refine hD.sr (hD.bo [ptr mb] bx_39 fun w1 nw1 hnw1 ksw1 bw1=>?_);have genw1:w.heap.size≤nw1:=by rw[hnw1];exact kk.size
 have hblk':=ksw1.blk hblk (by simp);have kk:=kk.trans (Kp.wid ksw1);refine hD.asn (.int .i64 0) ?_;refine hD.e0 (hD.s0 (hD.sr (hD.ldn (ptr mb) (fun τ d=>l_39 (bw1.cell 0)) ?_)));refine hD.pun (.bool false) (fun w=>w_eql39_p rfl rfl) ?_;refine hD.mvn (.bool false) ?_;refine hD.gwn (ptr mb) rfl (fun τ d=>ex_load rfl rfl (l_39 (bw1.cell 0))) ?_;refine hD.gwn (ptr mb) rfl (fun τ d=>ex_nilc rfl rfl) ?_;refine hD.gwn (ptr mb) rfl (fun τ d=>ex_field (v:=(ptr mb)) rfl rfl fa88_0) ?_;refine hD.gwn (ptr mb) rfl (fun τ d=>ex_field (v:=(ptr mb)) rfl rfl fa86_0) ?_;refine hD.gwn (.bool true) rfl (fun τ d=>ex_load rfl rfl (l_4 (hblk'.cell 0))) ?_;refine hD.gwn (.bool false) rfl (fun τ d=>pu_not (y:=true) rfl rfl) ?_;refine hD.pun (.bool false) (fun w=>pu_pick (t:=false) rfl rfl rfl) ?_;refine hD.e0 (hD.cc false (hD.k0 (hD.s0 (hD.s0 (hK.seg fits shut (b:=base 15) ⟨_,Try.func15⟩ nofun (c:=(sL (sL (sR (sR q15))))) (by decide +kernel) (Q:=lQ 65 (fun x=>x 0=ptr mb∧x 1=.pointer none∧x 2=ptr nw1∧x 4=.int .i64 0∧x 35=.bool true) w1) (fun t w' τ d h=>lQ_re h τ d) (fun τ d=>Code.wp_mono (fun e a w' ⟨h1,h2,h3⟩=>⟨h1,h2,lQ_un h3⟩) (oq15nfalse (re w1 τ d) _ mb nw1 by0 q0 hby hblk' bw1 rfl rfl rfl rfl)) fun t w2 ⟨x',ex',⟨g0,g1,g2,g4,g35⟩,ksw2⟩=>?_)))));subst ex';rw[allK.self (x:=x') (l:=[(0,ptr mb),(1,.pointer none),(2,ptr nw1),(4,.int .i64 0),(35,.bool true)]) ⟨g0,g1,g2,g4,g35,trivial⟩];have hblk'':=ksw2.blk hblk' (by simp);have bw1':=ksw2.blk bw1 (by simp);have kk:=kk.trans (Kp.wid ksw2);refine hD.cc true (hD.sr (hD.asn (.int .i64 91) ?_));refine hD.e0 (hD.ret (n:=0) ?_);exact hD.leave (n:=0) (b:=base 15) (v:=.int .i64 91) rfl rfl Try.func15 (fun τ d=>res1v rfl rfl) hcm (h _ _ ⟨rfl,kk,hblk''⟩)
theorem rlock_nil_true {w:World}{mb:Nat}{by0 rd0:Int}(hby:by0 = -1)(hblk:Blk w mb [.bool true,.int .i64 by0,.int .i64 rd0,.int .i64 0] 93):CCn 46 #[ptr mb,(.pointer none)] w (RB (.int .i64 0) mb [.bool true,.int .i64 by0,.int .i64 (wrap64 (rd0+1)),.int .i64 0] 93 w):=by
 intro m K hK cl cs hcm h;have hk:(base 46).kind≠.early:=nofun;have hD:=hK.det;rw[show(#[ptr mb,(.pointer none)]:Array Value)=[ptr mb,(.pointer none)].toArray from rfl,enter_fg (n:=25) (c:=q46) Try.func46 rfl rfl rfl];have kk:Kp [mb] w w:=⟨Nat.le_refl _,fun _ _ _=>rfl⟩;refine hD.sr (hD.bo [ptr mb] bx_50 fun w1 nw1 hnw1 ksw1 bw1=>?_);have genw1:w.heap.size≤nw1:=by rw[hnw1];exact kk.size
 have hblk':=ksw1.blk hblk (by simp);have kk:=kk.trans (Kp.wid ksw1);refine hD.asn (.int .i64 0) ?_;refine hD.e0 (hD.s0 (hD.sr (hD.ldn (ptr mb) (fun τ d=>l_50 (bw1.cell 0)) ?_)));refine hD.cf #[ptr mb] hk Try.func70 ?_;refine hK.callp fits shut (f:=70) rfl (v:=.bool true) (fun τ d=>there_calls (re w1 τ d) mb (re_cel (Blk.cel hblk'))) ?_;refine finn 7 ?_;refine hD.pun (.bool false) (fun w=>pu_not (y:=true) rfl rfl) ?_;refine hD.e0 (hD.cc false (hD.k0 (hD.sr (hD.ldn (ptr mb) (fun τ d=>l_50 (bw1.cell 0)) ?_))));refine hD.ncn ⟨mb,0,none⟩ ?_;refine hD.fdn (ptr mb) fa93_0 ?_;refine hD.mvn (.pointer none) ?_;refine hD.pun (.func (.func 71) #[] #[ptr nw1]) (fun w=>w_mk0_1 rfl rfl) ?_;refine hD.cf #[ptr mb,(.pointer none),(.func (.func 71) #[] #[ptr nw1])] hk Try.func58 ?_;refine wait58_71_true  (fun τ d=>(rdy71 (re w1 τ d) mb nw1 hblk' bw1).mono fun e w' ⟨h1,h2⟩=>⟨h1.trans (by rw[decide_eq_true hby];rfl),h2⟩) hK rfl fun v w2 ⟨hv,kw2⟩=>?_;subst hv;have hblk'':=kw2.blk hblk' (by simp);have bw1':=kw2.blk bw1 (by simp);have kk:=kk.trans (Kp.wid kw2);refine finn 14 ?_;refine hD.asn (.int .i64 0) ?_;refine hD.e0 (hD.s0 (hD.sr (hD.mvn (.int .i64 0) ?_)));refine hD.pun (.bool true) (fun w=>w_eql35 (i:=0) (j:=0) rfl rfl rfl) ?_;refine hD.e0 (hD.cc true (hD.r0 (hD.ldn (ptr mb) (fun τ d=>l_50 (bw1'.cell 0)) ?_)));refine hD.ncn ⟨mb,0,none⟩ ?_;refine hD.fdn (ptrAt mb 2) fa93_1 ?_;refine hD.ldn (.int .i64 rd0) (fun τ d=>l_3 (hblk''.cell 2)) ?_;refine hD.pun (.int .i64 (wrap64 (rd0+1))) (fun w=>w_add3 rfl rfl rfl) ?_;refine hD.ncn ⟨mb,0,none⟩ ?_;refine hD.fdn (ptrAt mb 2) fa93_1 ?_;refine hD.so hblk'' 2 (.int .i64 (wrap64 (rd0+1))) s_3 fun w3 ksw3 bw3=>?_;have bw1'':=ksw3.blk bw1' (by simpa using (cel_ne (Blk.cel bw1') (Blk.cel hblk'') (by decide)));have kk:=kk.trans ksw3;refine hD.z0 (hD.mvn (.int .i64 0) ?_);refine hD.asn (.int .i64 0) ?_;refine hD.e0 (hD.ret (n:=0) ?_);exact hD.leave (n:=0) (b:=base 46) (v:=.int .i64 0) rfl rfl Try.func46 (fun τ d=>res1v rfl rfl) hcm (h _ _ ⟨rfl,kk,bw3⟩)
theorem rlock_nil_false {w:World}{mb:Nat}{by0 rd0:Int}(hby:¬ by0 = -1)(hblk:Blk w mb [.bool true,.int .i64 by0,.int .i64 rd0,.int .i64 0] 93):CCn 46 #[ptr mb,(.pointer none)] w (RB (.int .i64 91) mb [.bool true,.int .i64 by0,.int .i64 rd0,.int .i64 0] 93 w):=by
 intro m K hK cl cs hcm h;have hk:(base 46).kind≠.early:=nofun;have hD:=hK.det;rw[show(#[ptr mb,(.pointer none)]:Array Value)=[ptr mb,(.pointer none)].toArray from rfl,enter_fg (n:=25) (c:=q46) Try.func46 rfl rfl rfl];have kk:Kp [mb] w w:=⟨Nat.le_refl _,fun _ _ _=>rfl⟩;refine hD.sr (hD.bo [ptr mb] bx_50 fun w1 nw1 hnw1 ksw1 bw1=>?_);have genw1:w.heap.size≤nw1:=by rw[hnw1];exact kk.size
 have hblk':=ksw1.blk hblk (by simp);have kk:=kk.trans (Kp.wid ksw1);refine hD.asn (.int .i64 0) ?_;refine hD.e0 (hD.s0 (hD.sr (hD.ldn (ptr mb) (fun τ d=>l_50 (bw1.cell 0)) ?_)));refine hD.cf #[ptr mb] hk Try.func70 ?_;refine hK.callp fits shut (f:=70) rfl (v:=.bool true) (fun τ d=>there_calls (re w1 τ d) mb (re_cel (Blk.cel hblk'))) ?_;refine finn 7 ?_;refine hD.pun (.bool false) (fun w=>pu_not (y:=true) rfl rfl) ?_;refine hD.e0 (hD.cc false (hD.k0 (hD.sr (hD.ldn (ptr mb) (fun τ d=>l_50 (bw1.cell 0)) ?_))));refine hD.ncn ⟨mb,0,none⟩ ?_;refine hD.fdn (ptr mb) fa93_0 ?_;refine hD.mvn (.pointer none) ?_;refine hD.pun (.func (.func 71) #[] #[ptr nw1]) (fun w=>w_mk0_1 rfl rfl) ?_;refine hD.cf #[ptr mb,(.pointer none),(.func (.func 71) #[] #[ptr nw1])] hk Try.func58 ?_;refine wait58_71_false  (fun τ d=>(rdy71 (re w1 τ d) mb nw1 hblk' bw1).mono fun e w' ⟨h1,h2⟩=>⟨h1.trans (by rw[decide_eq_false hby];rfl),h2⟩) hK rfl fun v w2 ⟨hv,kw2⟩=>?_;subst hv;have hblk'':=kw2.blk hblk' (by simp);have bw1':=kw2.blk bw1 (by simp);have kk:=kk.trans (Kp.wid kw2);refine finn 14 ?_;refine hD.asn (.int .i64 91) ?_;refine hD.e0 (hD.s0 (hD.sr (hD.mvn (.int .i64 91) ?_)));refine hD.pun (.bool false) (fun w=>w_eql35 (i:=91) (j:=0) rfl rfl rfl) ?_;refine hD.e0 (hD.cc false (hD.k0 (hD.sr (hD.mvn (.int .i64 91) ?_))));refine hD.asn (.int .i64 91) ?_;refine hD.e0 (hD.ret (n:=0) ?_);exact hD.leave (n:=0) (b:=base 46) (v:=.int .i64 91) rfl rfl Try.func46 (fun τ d=>res1v rfl rfl) hcm (h _ _ ⟨rfl,kk,hblk''⟩)
theorem runlock_nil_true {w:World}{mb:Nat}{by0 rd0 wt0:Int}(hrd:¬ rd0=0)(hblk:Blk w mb [.bool true,.int .i64 by0,.int .i64 rd0,.int .i64 wt0] 93):CCn 47 #[ptr mb,(.pointer none)] w (RB (.int .i64 0) mb [.bool true,.int .i64 by0,.int .i64 (wrap64 (rd0-1)),.int .i64 wt0] 93 w):=by
 intro m K hK cl cs hcm h;have hk:(base 47).kind≠.early:=nofun;have hD:=hK.det;rw[show(#[ptr mb,(.pointer none)]:Array Value)=[ptr mb,(.pointer none)].toArray from rfl,enter_fg (n:=22) (c:=q47) Try.func47 rfl rfl rfl];have kk:Kp [mb] w w:=⟨Nat.le_refl _,fun _ _ _=>rfl⟩;refine hD.sr (hD.asn (.int .i64 0) ?_);refine hD.e0 (hD.s0 (hD.sr (hD.mvn (ptr mb) ?_)));refine hD.cf #[ptr mb] hk Try.func70 ?_;refine hK.callp fits shut (f:=70) rfl (v:=.bool true) (fun τ d=>there_calls (re w τ d) mb (re_cel (Blk.cel hblk))) ?_;refine finn 6 ?_;refine hD.pun (.bool false) (fun w=>pu_not (y:=true) rfl rfl) ?_;refine hD.e0 (hD.cc false (hD.k0 (hD.sr (hD.mvn (.pointer none) ?_))));refine hD.cf #[(.pointer none)] hk Try.func29 ?_;refine step_nil hK rfl fun w1 kw1=>?_;have hblk':=kw1.blk hblk (by simp);have kk:=kk.trans (Kp.wid kw1);refine finn 9 ?_;refine hD.e0 (hD.s0 (hD.sr (hD.mvn (ptr mb) ?_)));refine hD.ncn ⟨mb,0,none⟩ ?_;refine hD.fdn (ptrAt mb 2) fa93_1 ?_;refine hD.ldn (.int .i64 rd0) (fun τ d=>l_3 (hblk'.cell 2)) ?_;refine hD.pun (.bool (decide (rd0=0))) (fun w=>w_eql3 rfl rfl rfl) ?_;refine hD.e0 (hD.cx false (bF hrd) ?_);refine hD.k0 (hD.sr (hD.mvn (ptr mb) ?_));refine hD.ncn ⟨mb,0,none⟩ ?_;refine hD.fdn (ptrAt mb 2) fa93_1 ?_;refine hD.ldn (.int .i64 rd0) (fun τ d=>l_3 (hblk'.cell 2)) ?_;refine hD.pun (.int .i64 (wrap64 (rd0-1))) (fun w=>w_sub3 rfl rfl rfl) ?_;refine hD.ncn ⟨mb,0,none⟩ ?_;refine hD.fdn (ptrAt mb 2) fa93_1 ?_;refine hD.so hblk' 2 (.int .i64 (wrap64 (rd0-1))) s_3 fun w2 ksw2 bw2=>?_;have kk:=kk.trans ksw2;refine hD.z0 (hD.asn (.int .i64 0) ?_);refine hD.e0 (hD.ret (n:=0) ?_);exact hD.leave (n:=0) (b:=base 47) (v:=.int .i64 0) rfl rfl Try.func47 (fun τ d=>res1v rfl rfl) hcm (h _ _ ⟨rfl,kk,bw2⟩)
theorem runlock_nil_false {w:World}{mb:Nat}{by0 rd0 wt0:Int}(hrd:rd0=0)(hblk:Blk w mb [.bool true,.int .i64 by0,.int .i64 rd0,.int .i64 wt0] 93):CCn 47 #[ptr mb,(.pointer none)] w (RB (.int .i64 90) mb [.bool true,.int .i64 by0,.int .i64 rd0,.int .i64 wt0] 93 w):=by
 intro m K hK cl cs hcm h;have hk:(base 47).kind≠.early:=nofun;have hD:=hK.det;rw[show(#[ptr mb,(.pointer none)]:Array Value)=[ptr mb,(.pointer none)].toArray from rfl,enter_fg (n:=22) (c:=q47) Try.func47 rfl rfl rfl];have kk:Kp [mb] w w:=⟨Nat.le_refl _,fun _ _ _=>rfl⟩;refine hD.sr (hD.asn (.int .i64 0) ?_);refine hD.e0 (hD.s0 (hD.sr (hD.mvn (ptr mb) ?_)));refine hD.cf #[ptr mb] hk Try.func70 ?_;refine hK.callp fits shut (f:=70) rfl (v:=.bool true) (fun τ d=>there_calls (re w τ d) mb (re_cel (Blk.cel hblk))) ?_;refine finn 6 ?_;refine hD.pun (.bool false) (fun w=>pu_not (y:=true) rfl rfl) ?_;refine hD.e0 (hD.cc false (hD.k0 (hD.sr (hD.mvn (.pointer none) ?_))));refine hD.cf #[(.pointer none)] hk Try.func29 ?_;refine step_nil hK rfl fun w1 kw1=>?_;have hblk':=kw1.blk hblk (by simp);have kk:=kk.trans (Kp.wid kw1);refine finn 9 ?_;refine hD.e0 (hD.s0 (hD.sr (hD.mvn (ptr mb) ?_)));refine hD.ncn ⟨mb,0,none⟩ ?_;refine hD.fdn (ptrAt mb 2) fa93_1 ?_;refine hD.ldn (.int .i64 rd0) (fun τ d=>l_3 (hblk'.cell 2)) ?_;refine hD.pun (.bool (decide (rd0=0))) (fun w=>w_eql3 rfl rfl rfl) ?_;refine hD.e0 (hD.cx true (bT hrd) ?_);refine hD.sr (hD.asn (.int .i64 90) ?_);refine hD.e0 (hD.ret (n:=0) ?_);exact hD.leave (n:=0) (b:=base 47) (v:=.int .i64 90) rfl rfl Try.func47 (fun τ d=>res1v rfl rfl) hcm (h _ _ ⟨rfl,kk,hblk'⟩)
theorem wlock_nil_true {w:World}{mb:Nat}{by0 rd0:Int}(hby:(decide (by0 = -1)&&decide (rd0=0))=true)(hblk:Blk w mb [.bool true,.int .i64 by0,.int .i64 rd0,.int .i64 0] 93):CCn 48 #[ptr mb,(.pointer none)] w (RB (.int .i64 0) mb [.bool true,.int .i64 (-2),.int .i64 rd0,.int .i64 (wrap64 (wrap64 (0+1)-1))] 93 w):=by
 intro m K hK cl cs hcm h;have hk:(base 48).kind≠.early:=nofun;have hD:=hK.det;rw[show(#[ptr mb,(.pointer none)]:Array Value)=[ptr mb,(.pointer none)].toArray from rfl,enter_fg (n:=42) (c:=q48) Try.func48 rfl rfl rfl];have kk:Kp [mb] w w:=⟨Nat.le_refl _,fun _ _ _=>rfl⟩;refine hD.sr (hD.bo [ptr mb] bx_50 fun w1 nw1 hnw1 ksw1 bw1=>?_);have genw1:w.heap.size≤nw1:=by rw[hnw1];exact kk.size
 have hblk':=ksw1.blk hblk (by simp);have kk:=kk.trans (Kp.wid ksw1);refine hD.asn (.int .i64 0) ?_;refine hD.e0 (hD.s0 (hD.sr (hD.ldn (ptr mb) (fun τ d=>l_50 (bw1.cell 0)) ?_)));refine hD.cf #[ptr mb] hk Try.func70 ?_;refine hK.callp fits shut (f:=70) rfl (v:=.bool true) (fun τ d=>there_calls (re w1 τ d) mb (re_cel (Blk.cel hblk'))) ?_;refine finn 7 ?_;refine hD.pun (.bool false) (fun w=>pu_not (y:=true) rfl rfl) ?_;refine hD.e0 (hD.cc false (hD.k0 (hD.sr (hD.pun (.func (.func 72) #[] #[ptr nw1]) (fun w=>w_mk0_1 rfl rfl) ?_))));refine hD.asn (.func (.func 72) #[] #[ptr nw1]) ?_;refine hD.e0 (hD.s0 (hD.sr (hD.mvn (.pointer none) ?_)));refine hD.pun (.bool true) (fun w=>w_eql28_n rfl rfl) ?_;refine hD.mvn (.bool true) ?_;refine hD.gwn (.func (.func 72) #[] #[ptr nw1]) rfl (fun τ d=>ex_move rfl rfl) ?_;refine hD.entg (n:=0) (args:=#[ptr nw1]) hk rfl rfl (by decide +kernel) nofun (fun τ d=>x_callb rfl rfl Try.func72 rfl rfl (by simp)) ?_;refine hK.callp fits shut (f:=72) rfl (v:=.bool true) (fun τ d=>(rdy72 (re w1 τ d) mb nw1 hblk' bw1).mono fun e w' ⟨h1,h2⟩=>⟨h1.trans (by rw[hby]),h2⟩) ?_;refine finn 14 ?_;refine hD.gwn (.bool false) rfl (fun τ d=>pu_not (y:=true) rfl rfl) ?_;refine hD.pun (.bool false) (fun w=>pu_pick (t:=true) rfl rfl rfl) ?_;refine hD.e0 (hD.cc false (hD.k0 (hD.sr (hD.mvn (.pointer none) ?_))));refine hD.cf #[(.pointer none)] hk Try.func29 ?_;refine step_nil hK rfl fun w2 kw2=>?_;have hblk'':=kw2.blk hblk' (by simp);have bw1':=kw2.blk bw1 (by simp);have kk:=kk.trans (Kp.wid kw2);refine finn 18 ?_;refine hD.z0 (hD.ldn (ptr mb) (fun τ d=>l_50 (bw1'.cell 0)) ?_);refine hD.ncn ⟨mb,0,none⟩ ?_;refine hD.fdn (ptrAt mb 3) fa93_2 ?_;refine hD.ldn (.int .i64 0) (fun τ d=>l_3 (hblk''.cell 3)) ?_;refine hD.pun (.int .i64 (wrap64 ((0:Int)+1))) (fun w=>w_add3 rfl rfl rfl) ?_;refine hD.ncn ⟨mb,0,none⟩ ?_;refine hD.fdn (ptrAt mb 3) fa93_2 ?_;refine hD.so hblk'' 3 (.int .i64 (wrap64 ((0:Int)+1))) s_3 fun w3 ksw3 bw3=>?_;have bw1'':=ksw3.blk bw1' (by simpa using (cel_ne (Blk.cel bw1') (Blk.cel hblk'') (by decide)));have kk:=kk.trans ksw3;refine hD.z0 (hD.mvn (.pointer none) ?_);refine hD.mvn (.func (.func 72) #[] #[ptr nw1]) ?_;refine hD.cf #[(.pointer none),(.func (.func 72) #[] #[ptr nw1])] hk Try.func35 ?_;refine wait_idle hK (.inr ⟨_,_,_,rfl⟩) rfl idle_none fun w4 kw4=>?_;have bw3':=kw4.blk bw3 (by simp);have bw1''':=kw4.blk bw1'' (by simp);have kk:=kk.trans (Kp.wid kw4);refine finn 28 ?_;refine hD.z0 (hD.ldn (ptr mb) (fun τ d=>l_50 (bw1'''.cell 0)) ?_);refine hD.ncn ⟨mb,0,none⟩ ?_;refine hD.fdn (ptrAt mb 3) fa93_2 ?_;refine hD.ldn (.int .i64 (wrap64 ((0:Int)+1))) (fun τ d=>l_3 (bw3'.cell 3)) ?_;refine hD.pun (.int .i64 (wrap64 ((wrap64 ((0:Int)+1))-1))) (fun w=>w_sub3 rfl rfl rfl) ?_;refine hD.ncn ⟨mb,0,none⟩ ?_;refine hD.fdn (ptrAt mb 3) fa93_2 ?_;refine hD.so bw3' 3 (.int .i64 (wrap64 ((wrap64 ((0:Int)+1))-1))) s_3 fun w5 ksw5 bw5=>?_;have bw1'''':=ksw5.blk bw1''' (by simpa using (cel_ne (Blk.cel bw1''') (Blk.cel bw3') (by decide)));have kk:=kk.trans ksw5
 refine hD.e0 (hD.s0 (hK.seg fits shut (b:=base 48) ⟨_,Try.func48⟩ nofun (c:=(sL (sR (sR (sR (sR (sR (sR (sR (sR q48)))))))))) (by decide +kernel) (Q:=sQ 42 (fun x=>x 0=ptr mb) mb [.bool true,.int .i64 (-2),.int .i64 rd0,.int .i64 (wrap64 ((wrap64 ((0:Int)+1))-1))] 93 w5) (fun t w' τ d h=>sQ_re h τ d) (fun τ d=>Code.wp_mono (fun e a w' ⟨h1,h2,h3⟩=>⟨h1,h2,sQ_un h3⟩) (oq48nb (re w5 τ d) _ mb nw1 by0 rd0 _ bw5 bw1'''' rfl rfl rfl)) fun t w6 ⟨x',ex',g0,ksw6,bw6⟩=>?_));subst ex';rw[allK.self (x:=x') (l:=[(0,ptr mb)]) ⟨g0,trivial⟩];have bw1''''':=ksw6.blk bw1'''' (by simpa using (cel_ne (Blk.cel bw1'''') (Blk.cel bw5) (by decide)));have kk:=kk.trans ksw6;refine hD.sr (hD.asn (.int .i64 0) ?_);refine hD.e0 (hD.ret (n:=0) ?_);exact hD.leave (n:=0) (b:=base 48) (v:=.int .i64 0) rfl rfl Try.func48 (fun τ d=>res1v rfl rfl) hcm (h _ _ ⟨rfl,kk,bw6⟩)
theorem wlock_nil_false {w:World}{mb:Nat}{by0 rd0:Int}(hby:(decide (by0 = -1)&&decide (rd0=0))=false)(hblk:Blk w mb [.bool true,.int .i64 by0,.int .i64 rd0,.int .i64 0] 93):CCn 48 #[ptr mb,(.pointer none)] w (RB (.int .i64 91) mb [.bool true,.int .i64 by0,.int .i64 rd0,.int .i64 0] 93 w):=by
 intro m K hK cl cs hcm h;have hk:(base 48).kind≠.early:=nofun;have hD:=hK.det;rw[show(#[ptr mb,(.pointer none)]:Array Value)=[ptr mb,(.pointer none)].toArray from rfl,enter_fg (n:=42) (c:=q48) Try.func48 rfl rfl rfl];have kk:Kp [mb] w w:=⟨Nat.le_refl _,fun _ _ _=>rfl⟩;refine hD.sr (hD.bo [ptr mb] bx_50 fun w1 nw1 hnw1 ksw1 bw1=>?_);have genw1:w.heap.size≤nw1:=by rw[hnw1];exact kk.size
 have hblk':=ksw1.blk hblk (by simp);have kk:=kk.trans (Kp.wid ksw1);refine hD.asn (.int .i64 0) ?_;refine hD.e0 (hD.s0 (hD.sr (hD.ldn (ptr mb) (fun τ d=>l_50 (bw1.cell 0)) ?_)));refine hD.cf #[ptr mb] hk Try.func70 ?_;refine hK.callp fits shut (f:=70) rfl (v:=.bool true) (fun τ d=>there_calls (re w1 τ d) mb (re_cel (Blk.cel hblk'))) ?_;refine finn 7 ?_;refine hD.pun (.bool false) (fun w=>pu_not (y:=true) rfl rfl) ?_;refine hD.e0 (hD.cc false (hD.k0 (hD.sr (hD.pun (.func (.func 72) #[] #[ptr nw1]) (fun w=>w_mk0_1 rfl rfl) ?_))));refine hD.asn (.func (.func 72) #[] #[ptr nw1]) ?_;refine hD.e0 (hD.s0 (hD.sr (hD.mvn (.pointer none) ?_)));refine hD.pun (.bool true) (fun w=>w_eql28_n rfl rfl) ?_;refine hD.mvn (.bool true) ?_;refine hD.gwn (.func (.func 72) #[] #[ptr nw1]) rfl (fun τ d=>ex_move rfl rfl) ?_;refine hD.entg (n:=0) (args:=#[ptr nw1]) hk rfl rfl (by decide +kernel) nofun (fun τ d=>x_callb rfl rfl Try.func72 rfl rfl (by simp)) ?_;refine hK.callp fits shut (f:=72) rfl (v:=.bool false) (fun τ d=>(rdy72 (re w1 τ d) mb nw1 hblk' bw1).mono fun e w' ⟨h1,h2⟩=>⟨h1.trans (by rw[hby]),h2⟩) ?_;refine finn 14 ?_;refine hD.gwn (.bool true) rfl (fun τ d=>pu_not (y:=false) rfl rfl) ?_;refine hD.pun (.bool true) (fun w=>pu_pick (t:=true) rfl rfl rfl) ?_;refine hD.e0 (hD.cc true (hD.sr (hD.asn (.int .i64 91) ?_)));refine hD.e0 (hD.ret (n:=0) ?_);exact hD.leave (n:=0) (b:=base 48) (v:=.int .i64 91) rfl rfl Try.func48 (fun τ d=>res1v rfl rfl) hcm (h _ _ ⟨rfl,kk,hblk'⟩)
theorem gwait_nil_true {w:World}{mb:Nat}{g0:Int}(hg:¬ 0<g0)(hblk:Blk w mb [.bool true,.int .i64 g0] 141):CCn 76 #[ptr mb,(.pointer none)] w (RB (.int .i64 0) mb [.bool true,.int .i64 g0] 141 w):=by
 intro m K hK cl cs hcm h;have hk:(base 76).kind≠.early:=nofun;have hD:=hK.det;rw[show(#[ptr mb,(.pointer none)]:Array Value)=[ptr mb,(.pointer none)].toArray from rfl,enter_fg (n:=20) (c:=q76) Try.func76 rfl rfl rfl];have kk:Kp [mb] w w:=⟨Nat.le_refl _,fun _ _ _=>rfl⟩;refine hD.sr (hD.bo [ptr mb] bx_69 fun w1 nw1 hnw1 ksw1 bw1=>?_);have genw1:w.heap.size≤nw1:=by rw[hnw1];exact kk.size
 have hblk':=ksw1.blk hblk (by simp);have kk:=kk.trans (Kp.wid ksw1);refine hD.asn (.int .i64 0) ?_;refine hD.e0 (hD.s0 (hD.sr (hD.ldn (ptr mb) (fun τ d=>l_69 (bw1.cell 0)) ?_)));refine hD.cf #[ptr mb] hk Try.func103 ?_;refine hK.callp fits shut3 (f:=103) rfl (v:=.bool true) (fun τ d=>gthere_calls (re w1 τ d) mb (re_cel (Blk.cel hblk'))) ?_;refine finn 6 ?_;refine hD.pun (.bool false) (fun w=>pu_not (y:=true) rfl rfl) ?_;refine hD.e0 (hD.cc false (hD.k0 (hD.s0 (hD.sr (hD.mvn (.pointer none) ?_)))));refine hD.pun (.bool true) (fun w=>w_eql28_n rfl rfl) ?_;refine hD.mvn (.bool true) ?_;refine hD.gwn (ptr mb) rfl (fun τ d=>ex_load rfl rfl (l_69 (bw1.cell 0))) ?_;refine hD.gwn (ptr mb) rfl (fun τ d=>ex_nilc rfl rfl) ?_;refine hD.gwn (ptrAt mb 1) rfl (fun τ d=>ex_field (v:=(ptrAt mb 1)) rfl rfl fa141_1) ?_;refine hD.gwn (.int .i64 g0) rfl (fun τ d=>ex_load rfl rfl (l_3 (hblk'.cell 1))) ?_;refine hD.gwn (.bool false) rfl (fun τ d=>(w_gtr3 (i:=g0) (j:=0) rfl rfl rfl).trans (by rw[decide_eq_false hg])) ?_;refine hD.pun (.bool false) (fun w=>pu_pick (t:=true) rfl rfl rfl) ?_;refine hD.e0 (hD.cc false (hD.k0 (hD.sr (hD.mvn (.pointer none) ?_))));refine hD.pun (.func (.func 104) #[] #[ptr nw1]) (fun w=>w_mk0_1 rfl rfl) ?_;refine hD.cf #[(.pointer none),(.func (.func 104) #[] #[ptr nw1])] hk Try.func35 ?_;refine wait_idle hK (.inr ⟨_,_,_,rfl⟩) rfl idle_none fun w2 kw2=>?_;have hblk'':=kw2.blk hblk' (by simp);have bw1':=kw2.blk bw1 (by simp);have kk:=kk.trans (Kp.wid kw2);refine finn 19 ?_;refine hD.z0 (hD.asn (.int .i64 0) ?_);refine hD.e0 (hD.ret (n:=0) ?_);exact hD.leave (n:=0) (b:=base 76) (v:=.int .i64 0) rfl rfl Try.func76 (fun τ d=>res1v rfl rfl) hcm (h _ _ ⟨rfl,kk,hblk''⟩)
theorem gwait_nil_false {w:World}{mb:Nat}{g0:Int}(hg:0<g0)(hblk:Blk w mb [.bool true,.int .i64 g0] 141):CCn 76 #[ptr mb,(.pointer none)] w (RB (.int .i64 91) mb [.bool true,.int .i64 g0] 141 w):=by
 intro m K hK cl cs hcm h;have hk:(base 76).kind≠.early:=nofun;have hD:=hK.det;rw[show(#[ptr mb,(.pointer none)]:Array Value)=[ptr mb,(.pointer none)].toArray from rfl,enter_fg (n:=20) (c:=q76) Try.func76 rfl rfl rfl];have kk:Kp [mb] w w:=⟨Nat.le_refl _,fun _ _ _=>rfl⟩;refine hD.sr (hD.bo [ptr mb] bx_69 fun w1 nw1 hnw1 ksw1 bw1=>?_);have genw1:w.heap.size≤nw1:=by rw[hnw1];exact kk.size
 have hblk':=ksw1.blk hblk (by simp);have kk:=kk.trans (Kp.wid ksw1);refine hD.asn (.int .i64 0) ?_;refine hD.e0 (hD.s0 (hD.sr (hD.ldn (ptr mb) (fun τ d=>l_69 (bw1.cell 0)) ?_)));refine hD.cf #[ptr mb] hk Try.func103 ?_;refine hK.callp fits shut3 (f:=103) rfl (v:=.bool true) (fun τ d=>gthere_calls (re w1 τ d) mb (re_cel (Blk.cel hblk'))) ?_;refine finn 6 ?_;refine hD.pun (.bool false) (fun w=>pu_not (y:=true) rfl rfl) ?_;refine hD.e0 (hD.cc false (hD.k0 (hD.s0 (hD.sr (hD.mvn (.pointer none) ?_)))));refine hD.pun (.bool true) (fun w=>w_eql28_n rfl rfl) ?_;refine hD.mvn (.bool true) ?_;refine hD.gwn (ptr mb) rfl (fun τ d=>ex_load rfl rfl (l_69 (bw1.cell 0))) ?_;refine hD.gwn (ptr mb) rfl (fun τ d=>ex_nilc rfl rfl) ?_;refine hD.gwn (ptrAt mb 1) rfl (fun τ d=>ex_field (v:=(ptrAt mb 1)) rfl rfl fa141_1) ?_;refine hD.gwn (.int .i64 g0) rfl (fun τ d=>ex_load rfl rfl (l_3 (hblk'.cell 1))) ?_;refine hD.gwn (.bool true) rfl (fun τ d=>(w_gtr3 (i:=g0) (j:=0) rfl rfl rfl).trans (by rw[decide_eq_true hg])) ?_;refine hD.pun (.bool true) (fun w=>pu_pick (t:=true) rfl rfl rfl) ?_;refine hD.e0 (hD.cc true (hD.sr (hD.asn (.int .i64 91) ?_)));refine hD.e0 (hD.ret (n:=0) ?_);exact hD.leave (n:=0) (b:=base 76) (v:=.int .i64 91) rfl rfl Try.func76 (fun τ d=>res1v rfl rfl) hcm (h _ _ ⟨rfl,kk,hblk'⟩)
theorem store_nil {w:World}{mb:Nat}{v0 n0 a:Int}(hblk:Blk w mb [.bool true,.int .i64 v0,.int .i64 n0] 82):CCn 77 #[ptr mb,(.pointer none),.int .i64 a] w (RB (.tuple #[]) mb [.bool true,.int .i64 a,.int .i64 (wrap64 (n0+1))] 82 w):=by
 intro m K hK cl cs hcm h;have hk:(base 77).kind≠.early:=nofun;have hD:=hK.det;rw[show(#[ptr mb,(.pointer none),.int .i64 a]:Array Value)=[ptr mb,(.pointer none),.int .i64 a].toArray from rfl,enter_fg (n:=13) (c:=q77) Try.func77 rfl rfl rfl];have kk:Kp [mb] w w:=⟨Nat.le_refl _,fun _ _ _=>rfl⟩;refine hD.sr (hD.mvn (ptr mb) ?_);refine hD.mvn (.pointer none) ?_;refine hD.cf #[ptr mb,(.pointer none)] hk Try.func32 ?_;refine cell_begins_nil hK rfl hblk fun w1 kw1 bw1=>?_;have kk:=kk.trans kw1;refine finn 8 ?_;refine hD.e0 (hD.cc true (hD.r0 (hD.mvn (ptr mb) ?_)));refine hD.mvn (.int .i64 a) ?_;refine hD.ncn ⟨mb,0,none⟩ ?_;refine hD.fdn (ptrAt mb 1) fa82_1 ?_;refine hD.so bw1 1 (.int .i64 a) s_3 fun w2 ksw2 bw2=>?_;have kk:=kk.trans ksw2;refine hD.e0 (hD.end (n:=0) ?_);exact hD.leave (n:=0) (b:=base 77) (v:=.tuple #[]) rfl rfl Try.func77 (fun τ d=>res0 rfl) hcm (h _ _ ⟨rfl,kk,bw2⟩)
theorem swap_nil {w:World}{mb:Nat}{v0 n0 a:Int}(hblk:Blk w mb [.bool true,.int .i64 v0,.int .i64 n0] 82):CCn 78 #[ptr mb,(.pointer none),.int .i64 a] w (RB (.int .i64 v0) mb [.bool true,.int .i64 a,.int .i64 (wrap64 (n0+1))] 82 w):=by
 intro m K hK cl cs hcm h;have hk:(base 78).kind≠.early:=nofun;have hD:=hK.det;rw[show(#[ptr mb,(.pointer none),.int .i64 a]:Array Value)=[ptr mb,(.pointer none),.int .i64 a].toArray from rfl,enter_fg (n:=20) (c:=q78) Try.func78 rfl rfl rfl];have kk:Kp [mb] w w:=⟨Nat.le_refl _,fun _ _ _=>rfl⟩;refine hD.sr (hD.asn (.int .i64 0) ?_);refine hD.z0 (hD.asn (.int .i64 0) ?_);refine hD.e0 (hD.s0 (hD.sr (hD.mvn (ptr mb) ?_)));refine hD.mvn (.pointer none) ?_;refine hD.cf #[ptr mb,(.pointer none)] hk Try.func32 ?_;refine cell_begins_nil hK rfl hblk fun w1 kw1 bw1=>?_;have kk:=kk.trans kw1;refine finn 10 ?_;refine hD.e0 (hD.cc true (hD.r0 (hD.mvn (ptr mb) ?_)));refine hD.mvn (ptr mb) ?_;refine hD.ncn ⟨mb,0,none⟩ ?_;refine hD.fdn (ptrAt mb 1) fa82_1 ?_;refine hD.ldn (.int .i64 v0) (fun τ d=>l_3 (bw1.cell 1)) ?_;refine hD.mvn (.int .i64 a) ?_;refine hD.asn (.int .i64 v0) ?_;refine hD.ncn ⟨mb,0,none⟩ ?_;refine hD.fdn (ptrAt mb 1) fa82_1 ?_;refine hD.so bw1 1 (.int .i64 a) s_3 fun w2 ksw2 bw2=>?_;have kk:=kk.trans ksw2;refine hD.z0 (hD.mvn (.int .i64 v0) ?_);refine hD.asn (.int .i64 v0) ?_;refine hD.e0 (hD.ret (n:=0) ?_);exact hD.leave (n:=0) (b:=base 78) (v:=.int .i64 v0) rfl rfl Try.func78 (fun τ d=>res1v rfl rfl) hcm (h _ _ ⟨rfl,kk,bw2⟩)
theorem load_nil {w:World}{mb:Nat}{v0 n0:Int}(hblk:Blk w mb [.bool true,.int .i64 v0,.int .i64 n0] 82):CCn 10 #[ptr mb,(.pointer none)] w (RB (.int .i64 v0) mb [.bool true,.int .i64 v0,.int .i64 (wrap64 (n0+1))] 82 w):=by
 intro m K hK cl cs hcm h;have hk:(base 10).kind≠.early:=nofun;have hD:=hK.det;rw[show(#[ptr mb,(.pointer none)]:Array Value)=[ptr mb,(.pointer none)].toArray from rfl,enter_fg (n:=15) (c:=q10) Try.func10 rfl rfl rfl];have kk:Kp [mb] w w:=⟨Nat.le_refl _,fun _ _ _=>rfl⟩;refine hD.sr (hD.asn (.int .i64 0) ?_);refine hD.z0 (hD.asn (.int .i64 0) ?_);refine hD.e0 (hD.s0 (hD.sr (hD.mvn (ptr mb) ?_)));refine hD.mvn (.pointer none) ?_;refine hD.cf #[ptr mb,(.pointer none)] hk Try.func32 ?_;refine cell_begins_nil hK rfl hblk fun w1 kw1 bw1=>?_;have kk:=kk.trans kw1;refine finn 8 ?_;refine hD.pun (.bool false) (fun w=>pu_not (y:=true) rfl rfl) ?_;refine hD.e0 (hD.cc false (hD.k0 (hD.sr (hD.mvn (ptr mb) ?_))));refine hD.ncn ⟨mb,0,none⟩ ?_;refine hD.fdn (ptrAt mb 1) fa82_1 ?_;refine hD.ldn (.int .i64 v0) (fun τ d=>l_3 (bw1.cell 1)) ?_;refine hD.asn (.int .i64 v0) ?_;refine hD.e0 (hD.ret (n:=0) ?_);exact hD.leave (n:=0) (b:=base 10) (v:=.int .i64 v0) rfl rfl Try.func10 (fun τ d=>res1v rfl rfl) hcm (h _ _ ⟨rfl,kk,bw1⟩)
theorem cas_nil_true {w:World}{mb:Nat}{v0 n0 a b:Int}(hv:v0=a)(hblk:Blk w mb [.bool true,.int .i64 v0,.int .i64 n0] 82):CCn 11 #[ptr mb,(.pointer none),.int .i64 a,.int .i64 b] w (RB (.bool true) mb [.bool true,.int .i64 b,.int .i64 (wrap64 (n0+1))] 82 w):=by
 intro m K hK cl cs hcm h;have hk:(base 11).kind≠.early:=nofun;have hD:=hK.det;rw[show(#[ptr mb,(.pointer none),.int .i64 a,.int .i64 b]:Array Value)=[ptr mb,(.pointer none),.int .i64 a,.int .i64 b].toArray from rfl,enter_fg (n:=25) (c:=q11) Try.func11 rfl rfl rfl];have kk:Kp [mb] w w:=⟨Nat.le_refl _,fun _ _ _=>rfl⟩;refine hD.sr (hD.asn (.bool false) ?_);refine hD.e0 (hD.s0 (hD.sr (hD.mvn (ptr mb) ?_)));refine hD.mvn (.pointer none) ?_;refine hD.cf #[ptr mb,(.pointer none)] hk Try.func32 ?_;refine cell_begins_nil hK rfl hblk fun w1 kw1 bw1=>?_;have kk:=kk.trans kw1;refine finn 11 ?_;refine hD.pun (.bool false) (fun w=>pu_not (y:=true) rfl rfl) ?_;refine hD.mvn (.bool false) ?_;refine hD.gwn (ptr mb) rfl (fun τ d=>ex_move rfl rfl) ?_;refine hD.gwn (ptr mb) rfl (fun τ d=>ex_nilc rfl rfl) ?_;refine hD.gwn (ptrAt mb 1) rfl (fun τ d=>ex_field (v:=(ptrAt mb 1)) rfl rfl fa82_1) ?_;refine hD.gwn (.int .i64 v0) rfl (fun τ d=>ex_load rfl rfl (l_3 (bw1.cell 1))) ?_;refine hD.gwn (.int .i64 a) rfl (fun τ d=>ex_move rfl rfl) ?_;refine hD.gwn (.bool false) rfl (fun τ d=>(w_neq3 (i:=v0) (j:=a) rfl rfl rfl).trans (by rw[decide_eq_false (fun h=>h hv)])) ?_;refine hD.pun (.bool false) (fun w=>pu_pick (t:=false) rfl rfl rfl) ?_;refine hD.e0 (hD.cc false (hD.k0 (hD.sr (hD.mvn (ptr mb) ?_))));refine hD.mvn (.int .i64 b) ?_;refine hD.ncn ⟨mb,0,none⟩ ?_;refine hD.fdn (ptrAt mb 1) fa82_1 ?_;refine hD.so bw1 1 (.int .i64 b) s_3 fun w2 ksw2 bw2=>?_;have kk:=kk.trans ksw2;refine hD.z0 (hD.asn (.bool true) ?_);refine hD.e0 (hD.ret (n:=0) ?_);exact hD.leave (n:=0) (b:=base 11) (v:=.bool true) rfl rfl Try.func11 (fun τ d=>res1v rfl rfl) hcm (h _ _ ⟨rfl,kk,bw2⟩)
theorem cas_nil_false {w:World}{mb:Nat}{v0 n0 a b:Int}(hv:¬ v0=a)(hblk:Blk w mb [.bool true,.int .i64 v0,.int .i64 n0] 82):CCn 11 #[ptr mb,(.pointer none),.int .i64 a,.int .i64 b] w (RB (.bool false) mb [.bool true,.int .i64 v0,.int .i64 (wrap64 (n0+1))] 82 w):=by
 intro m K hK cl cs hcm h;have hk:(base 11).kind≠.early:=nofun;have hD:=hK.det;rw[show(#[ptr mb,(.pointer none),.int .i64 a,.int .i64 b]:Array Value)=[ptr mb,(.pointer none),.int .i64 a,.int .i64 b].toArray from rfl,enter_fg (n:=25) (c:=q11) Try.func11 rfl rfl rfl];have kk:Kp [mb] w w:=⟨Nat.le_refl _,fun _ _ _=>rfl⟩;refine hD.sr (hD.asn (.bool false) ?_);refine hD.e0 (hD.s0 (hD.sr (hD.mvn (ptr mb) ?_)));refine hD.mvn (.pointer none) ?_;refine hD.cf #[ptr mb,(.pointer none)] hk Try.func32 ?_;refine cell_begins_nil hK rfl hblk fun w1 kw1 bw1=>?_;have kk:=kk.trans kw1;refine finn 11 ?_;refine hD.pun (.bool false) (fun w=>pu_not (y:=true) rfl rfl) ?_;refine hD.mvn (.bool false) ?_;refine hD.gwn (ptr mb) rfl (fun τ d=>ex_move rfl rfl) ?_;refine hD.gwn (ptr mb) rfl (fun τ d=>ex_nilc rfl rfl) ?_;refine hD.gwn (ptrAt mb 1) rfl (fun τ d=>ex_field (v:=(ptrAt mb 1)) rfl rfl fa82_1) ?_;refine hD.gwn (.int .i64 v0) rfl (fun τ d=>ex_load rfl rfl (l_3 (bw1.cell 1))) ?_;refine hD.gwn (.int .i64 a) rfl (fun τ d=>ex_move rfl rfl) ?_;refine hD.gwn (.bool true) rfl (fun τ d=>(w_neq3 (i:=v0) (j:=a) rfl rfl rfl).trans (by rw[decide_eq_true hv])) ?_;refine hD.pun (.bool true) (fun w=>pu_pick (t:=false) rfl rfl rfl) ?_;refine hD.e0 (hD.cc true (hD.sr (hD.asn (.bool false) ?_)));refine hD.e0 (hD.ret (n:=0) ?_);exact hD.leave (n:=0) (b:=base 11) (v:=.bool false) rfl rfl Try.func11 (fun τ d=>res1v rfl rfl) hcm (h _ _ ⟨rfl,kk,bw1⟩)
theorem w_eql25_n {a:Act}{oo:Oper}{w:World}{x:Operand}(h:oo.op=.binOp .eql 25 x (.const (.pointer none)) 25)(hx:a.eval x=.pointer none):(execOp a.eval oo).run Try.prog w=.ok (.value (.bool true)) w:=by
 unfold execOp;rw[h];simp only[hx];rw[show a.eval (.const (.pointer none))=.pointer none from rfl];exact run_vv (by simp[go_sem,Try.underlying25,Try.runUnderlying25])
theorem w_eql48_n {a:Act}{oo:Oper}{w:World}{x:Operand}(h:oo.op=.binOp .eql 48 x (.const (.pointer none)) 48)(hx:a.eval x=.pointer none):(execOp a.eval oo).run Try.prog w=.ok (.value (.bool true)) w:=by
 unfold execOp;rw[h];simp only[hx];rw[show a.eval (.const (.pointer none))=.pointer none from rfl];exact run_vv (by simp[go_sem,Try.underlying48,Try.runUnderlying48])
theorem w_eql39_n {a:Act}{oo:Oper}{w:World}{x:Operand}(h:oo.op=.binOp .eql 39 x (.const (.pointer none)) 39)(hx:a.eval x=.pointer none):(execOp a.eval oo).run Try.prog w=.ok (.value (.bool true)) w:=by
 unfold execOp;rw[h];simp only[hx];rw[show a.eval (.const (.pointer none))=.pointer none from rfl];exact run_vv (by simp[go_sem,Try.underlying39,Try.runUnderlying39])
theorem w_eql50_n {a:Act}{oo:Oper}{w:World}{x:Operand}(h:oo.op=.binOp .eql 50 x (.const (.pointer none)) 50)(hx:a.eval x=.pointer none):(execOp a.eval oo).run Try.prog w=.ok (.value (.bool true)) w:=by
 unfold execOp;rw[h];simp only[hx];rw[show a.eval (.const (.pointer none))=.pointer none from rfl];exact run_vv (by simp[go_sem,Try.underlying50,Try.runUnderlying50])
theorem there_nil (w:World)  : Calls Try.prog 70 #[(.pointer none)] w fun e w'=>e=.returned (.bool false)∧w'=w:=by
 go_enter Try.func70,Try.ntmps70
 go_wp2
 go_ret
 exact⟨rfl,rfl⟩
theorem gthere_nil (w:World)  : Calls Try.prog 103 #[(.pointer none)] w fun e w'=>e=.returned (.bool false)∧w'=w:=by
 go_enter Try.func103,Try.ntmps103
 go_wp2
 go_ret
 exact⟨rfl,rfl⟩
theorem begins_nn {w:World}:CCn 32 #[(.pointer none),(.pointer none)] w (fun v w'=>v=.bool false∧Kp [] w w'):=by
 intro m K hK cl cs hcm h;have hD:=hK.det;rw[show(#[(.pointer none),(.pointer none)]:Array Value)=[(.pointer none),(.pointer none)].toArray from rfl,enter_fg (n:=23) (c:=q32) Try.func32 rfl rfl rfl];have kk:Kp [] w w:=⟨Nat.le_refl _,fun _ _ _=>rfl⟩;refine hD.sr (hD.asn (.bool false) ?_);refine hD.e0 (hD.s0 (hD.sr (hD.mvn (.pointer none) ?_)));refine hD.pun (.bool true) (fun w=>w_eql25_n rfl rfl) ?_;refine hD.mvn (.bool true) ?_;refine hD.gun ?_;refine hD.gun ?_;refine hD.gun ?_;refine hD.gun ?_;refine hD.gun ?_;refine hD.pun (.bool true) (fun w=>pu_pick (t:=true) rfl rfl rfl) ?_;refine hD.e0 (hD.cc true (hD.sr (hD.asn (.bool false) ?_)));refine hD.e0 (hD.ret (n:=0) ?_);exact hD.leave (n:=0) (b:=base 32) (v:=.bool false) rfl rfl Try.func32 (fun τ d=>res1v rfl rfl) hcm (h _ _ ⟨rfl,kk⟩)
theorem lock_nn {w:World}:CCn 28 #[(.pointer none),(.pointer none)] w (fun v w'=>v=.int .i64 1∧Kp [] w w'):=by
 intro m K hK cl cs hcm h;have hD:=hK.det;rw[show(#[(.pointer none),(.pointer none)]:Array Value)=[(.pointer none),(.pointer none)].toArray from rfl,enter_fg (n:=34) (c:=q28) Try.func28 rfl rfl rfl];have kk:Kp [] w w:=⟨Nat.le_refl _,fun _ _ _=>rfl⟩;refine hD.sr (hD.asn (.int .i64 0) ?_);refine hD.e0 (hD.s0 (hD.sr (hD.mvn (.pointer none) ?_)));refine hD.pun (.bool true) (fun w=>w_eql48_n rfl rfl) ?_;refine hD.mvn (.bool true) ?_;refine hD.gun ?_;refine hD.gun ?_;refine hD.gun ?_;refine hD.gun ?_;refine hD.gun ?_;refine hD.gun ?_;refine hD.pun (.bool true) (fun w=>pu_pick (t:=true) rfl rfl rfl) ?_;refine hD.e0 (hD.cc true (hD.sr (hD.asn (.int .i64 1) ?_)));refine hD.e0 (hD.ret (n:=0) ?_);exact hD.leave (n:=0) (b:=base 28) (v:=.int .i64 1) rfl rfl Try.func28 (fun τ d=>res1v rfl rfl) hcm (h _ _ ⟨rfl,kk⟩)
theorem unlockM_nn {w:World}:CCn 30 #[(.pointer none),(.pointer none)] w (fun v w'=>v=.int .i64 1∧Kp [] w w'):=by
 intro m K hK cl cs hcm h;have hD:=hK.det;rw[show(#[(.pointer none),(.pointer none)]:Array Value)=[(.pointer none),(.pointer none)].toArray from rfl,enter_fg (n:=12) (c:=q30) Try.func30 rfl rfl rfl];have kk:Kp [] w w:=⟨Nat.le_refl _,fun _ _ _=>rfl⟩;refine hD.sr (hD.asn (.int .i64 0) ?_);refine hD.e0 (hD.s0 (hD.sr (hD.mvn (.pointer none) ?_)));refine hD.pun (.bool true) (fun w=>w_eql48_n rfl rfl) ?_;refine hD.e0 (hD.cc true (hD.sr (hD.asn (.int .i64 1) ?_)));refine hD.e0 (hD.ret (n:=0) ?_);exact hD.leave (n:=0) (b:=base 30) (v:=.int .i64 1) rfl rfl Try.func30 (fun τ d=>res1v rfl rfl) hcm (h _ _ ⟨rfl,kk⟩)
theorem fair_nn {w:World}:CCn 15 #[(.pointer none),(.pointer none)] w (fun v w'=>v=.int .i64 1∧Kp [] w w'):=by
 intro m K hK cl cs hcm h;have hD:=hK.det;rw[show(#[(.pointer none),(.pointer none)]:Array Value)=[(.pointer none),(.pointer none)].toArray from rfl,enter_fg (n:=65) (c:=q15) Try.func15 rfl rfl rfl];have kk:Kp [] w w:=⟨Nat.le_refl _,fun _ _ _=>rfl⟩;refine hD.sr (hD.bo [(.pointer none)] bx_39 fun w1 nw1 hnw1 ksw1 bw1=>?_);have kk:=kk.trans ksw1;refine hD.asn (.int .i64 0) ?_;refine hD.e0 (hD.s0 (hD.sr (hD.ldn (.pointer none) (fun τ d=>l_39 (bw1.cell 0)) ?_)));refine hD.pun (.bool true) (fun w=>w_eql39_n rfl rfl) ?_;refine hD.mvn (.bool true) ?_;refine hD.gun ?_;refine hD.gun ?_;refine hD.gun ?_;refine hD.gun ?_;refine hD.gun ?_;refine hD.gun ?_;refine hD.pun (.bool true) (fun w=>pu_pick (t:=true) rfl rfl rfl) ?_;refine hD.e0 (hD.cc true (hD.sr (hD.asn (.int .i64 1) ?_)));refine hD.e0 (hD.ret (n:=0) ?_);exact hD.leave (n:=0) (b:=base 15) (v:=.int .i64 1) rfl rfl Try.func15 (fun τ d=>res1v rfl rfl) hcm (h _ _ ⟨rfl,kk⟩)
theorem unlockF_nn {w:World}:CCn 16 #[(.pointer none),(.pointer none)] w (fun v w'=>v=.int .i64 1∧Kp [] w w'):=by
 intro m K hK cl cs hcm h;have hD:=hK.det;rw[show(#[(.pointer none),(.pointer none)]:Array Value)=[(.pointer none),(.pointer none)].toArray from rfl,enter_fg (n:=12) (c:=q16) Try.func16 rfl rfl rfl];have kk:Kp [] w w:=⟨Nat.le_refl _,fun _ _ _=>rfl⟩;refine hD.sr (hD.asn (.int .i64 0) ?_);refine hD.e0 (hD.s0 (hD.sr (hD.mvn (.pointer none) ?_)));refine hD.pun (.bool true) (fun w=>w_eql39_n rfl rfl) ?_;refine hD.e0 (hD.cc true (hD.sr (hD.asn (.int .i64 1) ?_)));refine hD.e0 (hD.ret (n:=0) ?_);exact hD.leave (n:=0) (b:=base 16) (v:=.int .i64 1) rfl rfl Try.func16 (fun τ d=>res1v rfl rfl) hcm (h _ _ ⟨rfl,kk⟩)
theorem rlock_nn {w:World}:CCn 46 #[(.pointer none),(.pointer none)] w (fun v w'=>v=.int .i64 1∧Kp [] w w'):=by
 intro m K hK cl cs hcm h;have hk:(base 46).kind≠.early:=nofun;have hD:=hK.det;rw[show(#[(.pointer none),(.pointer none)]:Array Value)=[(.pointer none),(.pointer none)].toArray from rfl,enter_fg (n:=25) (c:=q46) Try.func46 rfl rfl rfl];have kk:Kp [] w w:=⟨Nat.le_refl _,fun _ _ _=>rfl⟩;refine hD.sr (hD.bo [(.pointer none)] bx_50 fun w1 nw1 hnw1 ksw1 bw1=>?_);have kk:=kk.trans ksw1;refine hD.asn (.int .i64 0) ?_;refine hD.e0 (hD.s0 (hD.sr (hD.ldn (.pointer none) (fun τ d=>l_50 (bw1.cell 0)) ?_)));refine hD.cf #[(.pointer none)] hk Try.func70 ?_;refine hK.callp fits shut3 (f:=70) rfl (v:=.bool false) (fun τ d=>there_nil _) ?_;refine finn 7 ?_;refine hD.pun (.bool true) (fun w=>pu_not (y:=false) rfl rfl) ?_;refine hD.e0 (hD.cc true (hD.sr (hD.asn (.int .i64 1) ?_)));refine hD.e0 (hD.ret (n:=0) ?_);exact hD.leave (n:=0) (b:=base 46) (v:=.int .i64 1) rfl rfl Try.func46 (fun τ d=>res1v rfl rfl) hcm (h _ _ ⟨rfl,kk⟩)
theorem runlock_nn {w:World}:CCn 47 #[(.pointer none),(.pointer none)] w (fun v w'=>v=.int .i64 1∧Kp [] w w'):=by
 intro m K hK cl cs hcm h;have hk:(base 47).kind≠.early:=nofun;have hD:=hK.det;rw[show(#[(.pointer none),(.pointer none)]:Array Value)=[(.pointer none),(.pointer none)].toArray from rfl,enter_fg (n:=22) (c:=q47) Try.func47 rfl rfl rfl];have kk:Kp [] w w:=⟨Nat.le_refl _,fun _ _ _=>rfl⟩;refine hD.sr (hD.asn (.int .i64 0) ?_);refine hD.e0 (hD.s0 (hD.sr (hD.mvn (.pointer none) ?_)));refine hD.cf #[(.pointer none)] hk Try.func70 ?_;refine hK.callp fits shut3 (f:=70) rfl (v:=.bool false) (fun τ d=>there_nil _) ?_;refine finn 6 ?_;refine hD.pun (.bool true) (fun w=>pu_not (y:=false) rfl rfl) ?_;refine hD.e0 (hD.cc true (hD.sr (hD.asn (.int .i64 1) ?_)));refine hD.e0 (hD.ret (n:=0) ?_);exact hD.leave (n:=0) (b:=base 47) (v:=.int .i64 1) rfl rfl Try.func47 (fun τ d=>res1v rfl rfl) hcm (h _ _ ⟨rfl,kk⟩)
theorem wlock_nn {w:World}:CCn 48 #[(.pointer none),(.pointer none)] w (fun v w'=>v=.int .i64 1∧Kp [] w w'):=by
 intro m K hK cl cs hcm h;have hk:(base 48).kind≠.early:=nofun;have hD:=hK.det;rw[show(#[(.pointer none),(.pointer none)]:Array Value)=[(.pointer none),(.pointer none)].toArray from rfl,enter_fg (n:=42) (c:=q48) Try.func48 rfl rfl rfl];have kk:Kp [] w w:=⟨Nat.le_refl _,fun _ _ _=>rfl⟩;refine hD.sr (hD.bo [(.pointer none)] bx_50 fun w1 nw1 hnw1 ksw1 bw1=>?_);have kk:=kk.trans ksw1;refine hD.asn (.int .i64 0) ?_;refine hD.e0 (hD.s0 (hD.sr (hD.ldn (.pointer none) (fun τ d=>l_50 (bw1.cell 0)) ?_)));refine hD.cf #[(.pointer none)] hk Try.func70 ?_;refine hK.callp fits shut3 (f:=70) rfl (v:=.bool false) (fun τ d=>there_nil _) ?_;refine finn 7 ?_;refine hD.pun (.bool true) (fun w=>pu_not (y:=false) rfl rfl) ?_;refine hD.e0 (hD.cc true (hD.sr (hD.asn (.int .i64 1) ?_)));refine hD.e0 (hD.ret (n:=0) ?_);exact hD.leave (n:=0) (b:=base 48) (v:=.int .i64 1) rfl rfl Try.func48 (fun τ d=>res1v rfl rfl) hcm (h _ _ ⟨rfl,kk⟩)
theorem unlockR_nn {w:World}:CCn 49 #[(.pointer none),(.pointer none)] w (fun v w'=>v=.int .i64 1∧Kp [] w w'):=by
 intro m K hK cl cs hcm h;have hD:=hK.det;rw[show(#[(.pointer none),(.pointer none)]:Array Value)=[(.pointer none),(.pointer none)].toArray from rfl,enter_fg (n:=12) (c:=q49) Try.func49 rfl rfl rfl];have kk:Kp [] w w:=⟨Nat.le_refl _,fun _ _ _=>rfl⟩;refine hD.sr (hD.asn (.int .i64 0) ?_);refine hD.e0 (hD.s0 (hD.sr (hD.mvn (.pointer none) ?_)));refine hD.pun (.bool true) (fun w=>w_eql50_n rfl rfl) ?_;refine hD.e0 (hD.cc true (hD.sr (hD.asn (.int .i64 1) ?_)));refine hD.e0 (hD.ret (n:=0) ?_);exact hD.leave (n:=0) (b:=base 49) (v:=.int .i64 1) rfl rfl Try.func49 (fun τ d=>res1v rfl rfl) hcm (h _ _ ⟨rfl,kk⟩)
theorem gwait_nn {w:World}:CCn 76 #[(.pointer none),(.pointer none)] w (fun v w'=>v=.int .i64 1∧Kp [] w w'):=by
 intro m K hK cl cs hcm h;have hk:(base 76).kind≠.early:=nofun;have hD:=hK.det;rw[show(#[(.pointer none),(.pointer none)]:Array Value)=[(.pointer none),(.pointer none)].toArray from rfl,enter_fg (n:=20) (c:=q76) Try.func76 rfl rfl rfl];have kk:Kp [] w w:=⟨Nat.le_refl _,fun _ _ _=>rfl⟩;refine hD.sr (hD.bo [(.pointer none)] bx_69 fun w1 nw1 hnw1 ksw1 bw1=>?_);have kk:=kk.trans ksw1;refine hD.asn (.int .i64 0) ?_;refine hD.e0 (hD.s0 (hD.sr (hD.ldn (.pointer none) (fun τ d=>l_69 (bw1.cell 0)) ?_)));refine hD.cf #[(.pointer none)] hk Try.func103 ?_;refine hK.callp fits shut3 (f:=103) rfl (v:=.bool false) (fun τ d=>gthere_nil _) ?_;refine finn 6 ?_;refine hD.pun (.bool true) (fun w=>pu_not (y:=false) rfl rfl) ?_;refine hD.e0 (hD.cc true (hD.sr (hD.asn (.int .i64 1) ?_)));refine hD.e0 (hD.ret (n:=0) ?_);exact hD.leave (n:=0) (b:=base 76) (v:=.int .i64 1) rfl rfl Try.func76 (fun τ d=>res1v rfl rfl) hcm (h _ _ ⟨rfl,kk⟩)
theorem try_nn {w:World}:CCn 44 #[(.pointer none),(.pointer none)] w (fun v w'=>v=.tuple #[.bool false,.int .i64 1]∧Kp [] w w'):=by
 intro m K hK cl cs hcm h;have hD:=hK.det;rw[show(#[(.pointer none),(.pointer none)]:Array Value)=[(.pointer none),(.pointer none)].toArray from rfl,enter_fg (n:=29) (c:=q44) Try.func44 rfl rfl rfl];have kk:Kp [] w w:=⟨Nat.le_refl _,fun _ _ _=>rfl⟩;refine hD.sr (hD.asn (.bool false) ?_);refine hD.asn (.int .i64 0) ?_;refine hD.e0 (hD.s0 (hD.sr (hD.mvn (.pointer none) ?_)));refine hD.pun (.bool true) (fun w=>w_eql48_n rfl rfl) ?_;refine hD.mvn (.bool true) ?_;refine hD.gun ?_;refine hD.gun ?_;refine hD.gun ?_;refine hD.gun ?_;refine hD.gun ?_;refine hD.gun ?_;refine hD.pun (.bool true) (fun w=>pu_pick (t:=true) rfl rfl rfl) ?_;refine hD.e0 (hD.cc true (hD.sr (hD.asn (.bool false) ?_)));refine hD.asn (.int .i64 1) ?_;refine hD.e0 (hD.ret (n:=0) ?_);exact hD.leave (n:=0) (b:=base 44) (v:=.tuple #[.bool false,.int .i64 1]) rfl rfl Try.func44 (fun τ d=>res2v rfl rfl rfl) hcm (h _ _ ⟨rfl,kk⟩)
theorem load_nn {w:World}:CCn 10 #[(.pointer none),(.pointer none)] w (fun v w'=>v=.int .i64 0∧Kp [] w w'):=by
 intro m K hK cl cs hcm h;have hk:(base 10).kind≠.early:=nofun;have hD:=hK.det;rw[show(#[(.pointer none),(.pointer none)]:Array Value)=[(.pointer none),(.pointer none)].toArray from rfl,enter_fg (n:=15) (c:=q10) Try.func10 rfl rfl rfl];have kk:Kp [] w w:=⟨Nat.le_refl _,fun _ _ _=>rfl⟩;refine hD.sr (hD.asn (.int .i64 0) ?_);refine hD.z0 (hD.asn (.int .i64 0) ?_);refine hD.e0 (hD.s0 (hD.sr (hD.mvn (.pointer none) ?_)));refine hD.mvn (.pointer none) ?_;refine hD.cf #[(.pointer none),(.pointer none)] hk Try.func32 ?_;refine begins_nn hK rfl fun v w1 ⟨hv,kw1⟩=>?_;subst hv;have kk:=kk.trans kw1;refine finn 8 ?_;refine hD.pun (.bool true) (fun w=>pu_not (y:=false) rfl rfl) ?_;refine hD.e0 (hD.cc true (hD.sr (hD.mvn (.int .i64 0) ?_)));refine hD.asn (.int .i64 0) ?_;refine hD.e0 (hD.ret (n:=0) ?_);exact hD.leave (n:=0) (b:=base 10) (v:=.int .i64 0) rfl rfl Try.func10 (fun τ d=>res1v rfl rfl) hcm (h _ _ ⟨rfl,kk⟩)
theorem store_nn {w:World}{a:Int}:CCn 77 #[(.pointer none),(.pointer none),.int .i64 a] w (fun v w'=>v=.tuple #[]∧Kp [] w w'):=by
 intro m K hK cl cs hcm h;have hk:(base 77).kind≠.early:=nofun;have hD:=hK.det;rw[show(#[(.pointer none),(.pointer none),.int .i64 a]:Array Value)=[(.pointer none),(.pointer none),.int .i64 a].toArray from rfl,enter_fg (n:=13) (c:=q77) Try.func77 rfl rfl rfl];have kk:Kp [] w w:=⟨Nat.le_refl _,fun _ _ _=>rfl⟩;refine hD.sr (hD.mvn (.pointer none) ?_);refine hD.mvn (.pointer none) ?_;refine hD.cf #[(.pointer none),(.pointer none)] hk Try.func32 ?_;refine begins_nn hK rfl fun v w1 ⟨hv,kw1⟩=>?_;subst hv;have kk:=kk.trans kw1;refine finn 8 ?_;refine hD.e0 (hD.cc false (hD.k0 (hD.end (n:=0) ?_)));exact hD.leave (n:=0) (b:=base 77) (v:=.tuple #[]) rfl rfl Try.func77 (fun τ d=>res0 rfl) hcm (h _ _ ⟨rfl,kk⟩)
theorem swap_nn {w:World}{a:Int}:CCn 78 #[(.pointer none),(.pointer none),.int .i64 a] w (fun v w'=>v=.int .i64 0∧Kp [] w w'):=by
 intro m K hK cl cs hcm h;have hk:(base 78).kind≠.early:=nofun;have hD:=hK.det;rw[show(#[(.pointer none),(.pointer none),.int .i64 a]:Array Value)=[(.pointer none),(.pointer none),.int .i64 a].toArray from rfl,enter_fg (n:=20) (c:=q78) Try.func78 rfl rfl rfl];have kk:Kp [] w w:=⟨Nat.le_refl _,fun _ _ _=>rfl⟩;refine hD.sr (hD.asn (.int .i64 0) ?_);refine hD.z0 (hD.asn (.int .i64 0) ?_);refine hD.e0 (hD.s0 (hD.sr (hD.mvn (.pointer none) ?_)));refine hD.mvn (.pointer none) ?_;refine hD.cf #[(.pointer none),(.pointer none)] hk Try.func32 ?_;refine begins_nn hK rfl fun v w1 ⟨hv,kw1⟩=>?_;subst hv;have kk:=kk.trans kw1;refine finn 10 ?_;refine hD.e0 (hD.cc false (hD.k0 (hD.sr (hD.mvn (.int .i64 0) ?_))));refine hD.asn (.int .i64 0) ?_;refine hD.e0 (hD.ret (n:=0) ?_);exact hD.leave (n:=0) (b:=base 78) (v:=.int .i64 0) rfl rfl Try.func78 (fun τ d=>res1v rfl rfl) hcm (h _ _ ⟨rfl,kk⟩)
theorem cas_nn {w:World}{a b:Int}:CCn 11 #[(.pointer none),(.pointer none),.int .i64 a,.int .i64 b] w (fun v w'=>v=.bool false∧Kp [] w w'):=by
 intro m K hK cl cs hcm h;have hk:(base 11).kind≠.early:=nofun;have hD:=hK.det;rw[show(#[(.pointer none),(.pointer none),.int .i64 a,.int .i64 b]:Array Value)=[(.pointer none),(.pointer none),.int .i64 a,.int .i64 b].toArray from rfl,enter_fg (n:=25) (c:=q11) Try.func11 rfl rfl rfl];have kk:Kp [] w w:=⟨Nat.le_refl _,fun _ _ _=>rfl⟩;refine hD.sr (hD.asn (.bool false) ?_);refine hD.e0 (hD.s0 (hD.sr (hD.mvn (.pointer none) ?_)));refine hD.mvn (.pointer none) ?_;refine hD.cf #[(.pointer none),(.pointer none)] hk Try.func32 ?_;refine begins_nn hK rfl fun v w1 ⟨hv,kw1⟩=>?_;subst hv;have kk:=kk.trans kw1;refine finn 11 ?_;refine hD.pun (.bool true) (fun w=>pu_not (y:=false) rfl rfl) ?_;refine hD.mvn (.bool true) ?_;refine hD.gun ?_;refine hD.gun ?_;refine hD.gun ?_;refine hD.gun ?_;refine hD.gun ?_;refine hD.gun ?_;refine hD.pun (.bool true) (fun w=>pu_pick (t:=true) rfl rfl rfl) ?_;refine hD.e0 (hD.cc true (hD.sr (hD.asn (.bool false) ?_)));refine hD.e0 (hD.ret (n:=0) ?_);exact hD.leave (n:=0) (b:=base 11) (v:=.bool false) rfl rfl Try.func11 (fun τ d=>res1v rfl rfl) hcm (h _ _ ⟨rfl,kk⟩)
theorem readers_calls (w:World){wb:Nat}{by0 rd0 wt0:Int}(h:Blk w wb [.bool true,.int .i64 by0,.int .i64 rd0,.int .i64 wt0] 93):Calls Try.prog 50 #[ptr wb] w fun e w'=>e=.returned (.int .i64 rd0)∧w'=w:=by
 have c2:=h.cell 2;clear h
 go_enter Try.func50,Try.ntmps50
 go_wp2
 go_ret
 exact⟨rfl,rfl⟩
theorem readers_nil (w:World)  : Calls Try.prog 50 #[(.pointer none)] w fun e w'=>e=.returned (.int .i64 0)∧w'=w:=by
 go_enter Try.func50,Try.ntmps50
 go_wp2
 go_ret
 exact⟨rfl,rfl⟩
theorem gcount_calls (w:World){gb:Nat}{g0:Int}(h:Blk w gb [.bool true,.int .i64 g0] 141):Calls Try.prog 75 #[ptr gb] w fun e w'=>e=.returned (.int .i64 g0)∧w'=w:=by
 have c1:=h.cell 1;clear h
 go_enter Try.func75,Try.ntmps75
 go_wp2
 go_ret
 exact⟨rfl,rfl⟩
theorem gcount_nil (w:World)  : Calls Try.prog 75 #[(.pointer none)] w fun e w'=>e=.returned (.int .i64 0)∧w'=w:=by
 go_enter Try.func75,Try.ntmps75
 go_wp2
 go_ret
 exact⟨rfl,rfl⟩
theorem acts_calls (w:World){cb:Nat}{v0 n0:Int}(h:Blk w cb [.bool true,.int .i64 v0,.int .i64 n0] 82):Calls Try.prog 79 #[ptr cb] w fun e w'=>e=.returned (.int .i64 n0)∧w'=w:=by
 have c2:=h.cell 2;clear h
 go_enter Try.func79,Try.ntmps79
 go_wp2
 go_ret
 exact⟨rfl,rfl⟩
theorem acts_nil (w:World)  : Calls Try.prog 79 #[(.pointer none)] w fun e w'=>e=.returned (.int .i64 0)∧w'=w:=by
 go_enter Try.func79,Try.ntmps79
 go_wp2
 go_ret
 exact⟨rfl,rfl⟩
theorem holder_nil (w:World)  : Calls Try.prog 31 #[(.pointer none)] w fun e w'=>e=.returned (.int .i64 (-1))∧w'=w:=by
 go_enter Try.func31,Try.ntmps31
 go_wp2
 go_ret
 exact⟨rfl,rfl⟩
theorem waiting_nil (w:World)  : Calls Try.prog 17 #[(.pointer none)] w fun e w'=>e=.returned (.int .i64 0)∧w'=w:=by
 go_enter Try.func17,Try.ntmps17
 go_wp2
 go_ret
 exact⟨rfl,rfl⟩
theorem truth45 (w:World)(b:Bool):Calls Try.prog 45 #[.bool b] w fun e w'=>e=.returned (.int .i64 (if b then 1 else 0))∧w'=w:=by
 cases b with
 | true =>
  go_enter Try.func45,Try.ntmps45
  go_wp2
  go_ret
  exact⟨rfl,rfl⟩
 | false =>
  go_enter Try.func45,Try.ntmps45
  go_wp2
  go_ret
  exact⟨rfl,rfl⟩
theorem truth54 (w:World)(b:Bool):Calls Try.prog 54 #[.bool b] w fun e w'=>e=.returned (.int .i64 (if b then 1 else 0))∧w'=w:=by
 cases b with
 | true =>
  go_enter Try.func54,Try.ntmps54
  go_wp2
  go_ret
  exact⟨rfl,rfl⟩
 | false =>
  go_enter Try.func54,Try.ntmps54
  go_wp2
  go_ret
  exact⟨rfl,rfl⟩
theorem writer_calls (w:World){wb:Nat}{by0 rd0 wt0:Int}(h:Blk w wb [.bool true,.int .i64 by0,.int .i64 rd0,.int .i64 wt0] 93):Calls Try.prog 51 #[ptr wb] w fun e w'=>e=.returned (.bool (!decide (by0 = -1)))∧w'=w:=by
 by_cases hb:by0 = -1
 ·have HT:=Lib.hid (there_calls w wb (Blk.cel h))
  have HF:Hid (Calls Try.prog 34 #[ptr wb] w fun e w'=>e=.returned (.bool true)∧w'=w):=Lib.hid ((free_calls w wb (by0:=by0) (h.cell 1)).mono fun e w' ⟨h1,h2⟩=>⟨h1.trans (by rw[decide_eq_true hb]),h2⟩);rw[decide_eq_true hb];clear h hb
  go_enter Try.func51,Try.ntmps51
  go_wp2_with (first | (go_at_call 70;refine(HT.out).mono ?_;rintro e w' ⟨rfl,rfl⟩) | (go_at_call 34;refine(HF.out).mono ?_;rintro e w' ⟨rfl,rfl⟩))
  go_ret
  exact⟨rfl,rfl⟩
 ·have HT:=Lib.hid (there_calls w wb (Blk.cel h))
  have HF:Hid (Calls Try.prog 34 #[ptr wb] w fun e w'=>e=.returned (.bool false)∧w'=w):=Lib.hid ((free_calls w wb (by0:=by0) (h.cell 1)).mono fun e w' ⟨h1,h2⟩=>⟨h1.trans (by rw[decide_eq_false hb]),h2⟩);rw[decide_eq_false hb];clear h hb
  go_enter Try.func51,Try.ntmps51
  go_wp2_with (first | (go_at_call 70;refine(HT.out).mono ?_;rintro e w' ⟨rfl,rfl⟩) | (go_at_call 34;refine(HF.out).mono ?_;rintro e w' ⟨rfl,rfl⟩))
  go_ret
  exact⟨rfl,rfl⟩
theorem writer_nil (w:World):Calls Try.prog 51 #[.pointer none] w fun e w'=>e=.returned (.bool false)∧w'=w:=by
 have HT:=Lib.hid (there_nil w)
 go_enter Try.func51,Try.ntmps51
 go_wp2_with (go_at_call 70;refine(HT.out).mono ?_;rintro e w' ⟨rfl,rfl⟩)
 go_ret
 exact⟨rfl,rfl⟩
theorem genter_calls (w:World){gb:Nat}{g0:Int}(h:Blk w gb [.bool true,.int .i64 g0] 141):Calls Try.prog 73 #[ptr gb] w fun e w'=>e=.returned (.int .i64 0)∧w'=w.setCell ⟨gb,1,none⟩ (.int .i64 (wrap64 (g0+1))):=by
 have HT:=Lib.hid (gthere_calls w gb (Blk.cel h));have c1:=h.cell 1;have z1:=h.frozen 1;clear h
 go_enter Try.func73,Try.ntmps73
 go_wp2_with (go_at_call 103;refine(HT.out).mono ?_;rintro e w' ⟨rfl,rfl⟩)
 go_ret
 exact⟨rfl,by first | rfl | simp only[IntKind.wrap_i64,wrap64]⟩
theorem gleave_calls (w:World){gb:Nat}{g0:Int}(h:Blk w gb [.bool true,.int .i64 g0] 141):Calls Try.prog 74 #[ptr gb] w fun e w'=>e=.returned (.int .i64 (if g0=0 then 90 else 0))∧w'=if g0=0 then w else w.setCell ⟨gb,1,none⟩ (.int .i64 (wrap64 (g0-1))):=by
 have HT:=Lib.hid (gthere_calls w gb (Blk.cel h));have c1:=h.cell 1;have z1:=h.frozen 1;clear h;by_cases hg:g0=0
 ·rw[if_pos hg,if_pos hg]
  subst hg
  go_enter Try.func74,Try.ntmps74
  go_wp2_with (go_at_call 103;refine(HT.out).mono ?_;rintro e w' ⟨rfl,rfl⟩)
  go_ret
  exact⟨rfl,rfl⟩
 ·rw[if_neg hg,if_neg hg]
  go_enter Try.func74,Try.ntmps74
  go_wp2_with (go_at_call 103;refine(HT.out).mono ?_;rintro e w' ⟨rfl,rfl⟩)
  go_ret
  exact⟨rfl,by first | rfl | simp only[IntKind.wrap_i64,wrap64]⟩
theorem genter_nil (w:World):Calls Try.prog 73 #[.pointer none] w fun e w'=>e=.returned (.int .i64 1)∧w'=w:=by
 have HT:=Lib.hid (gthere_nil w)
 go_enter Try.func73,Try.ntmps73
 go_wp2_with (go_at_call 103;refine(HT.out).mono ?_;rintro e w' ⟨rfl,rfl⟩)
 go_ret
 exact⟨rfl,rfl⟩
theorem gleave_nil (w:World):Calls Try.prog 74 #[.pointer none] w fun e w'=>e=.returned (.int .i64 1)∧w'=w:=by
 have HT:=Lib.hid (gthere_nil w)
 go_enter Try.func74,Try.ntmps74
 go_wp2_with (go_at_call 103;refine(HT.out).mono ?_;rintro e w' ⟨rfl,rfl⟩)
 go_ret
 exact⟨rfl,rfl⟩
structure LoneSt where
 m:Int
 f:Int
 wr:Int
 rd:Int
 g:Int
 c:Int
 ac:Int
abbrev LoneSt.cells (l:LoneSt):List Value:=[.int .i64 l.m,.int .i64 l.f,.int .i64 l.wr,.int .i64 l.rd,.int .i64 l.g,.int .i64 l.c,.int .i64 l.ac]
def loneRest (k a b:Int)(l:LoneSt):LoneSt × Int :=
 if k=14 then ({l with g:=wrap64 (l.g+1)},0)
 else if k=15 then (if l.g=0 then (l,90) else ({l with g:=wrap64 (l.g-1)},0))
 else if k=16 then (l,l.g)
 else if k=17 then (l,if 0<l.g then 91 else 0)
 else if k=22 then (l,l.ac)
 else if k=18 then ({l with ac:=wrap64 (l.ac+1)},l.c)
 else if k=19 then ({l with ac:=wrap64 (l.ac+1),c:=a},0)
 else if k=20 then ({l with ac:=wrap64 (l.ac+1),c:=a},l.c)
 else if k=21 then (if l.c=a then ({l with ac:=wrap64 (l.ac+1),c:=b},1) else ({l with ac:=wrap64 (l.ac+1)},0))
 else (l,0)
def loneDo (k a b:Int)(l:LoneSt):LoneSt × Int × Int :=
 if k=1 then (if l.m = -1 then ({l with m:=-2},0,0) else (l,91,0))
 else if k=2 then (if l.m = -1 then ({l with m:=-2},0,1) else (l,0,0))
 else if k=3 then (if l.m = -2 then ({l with m:=-1},0,0) else (l,90,0))
 else if k=4 then (l,l.m,0)
 else if k=5 then (if l.f = -1 then ({l with f:=-2},0,0) else (l,91,0))
 else if k=6 then (if l.f = -2 then ({l with f:=-1},0,0) else (l,90,0))
 else if k=8 then (if l.wr = -1 then ({l with rd:=wrap64 (l.rd+1)},0,0) else (l,91,0))
 else if k=9 then (if l.rd=0 then (l,90,0) else ({l with rd:=wrap64 (l.rd-1)},0,0))
 else if k=10 then (if l.wr = -1∧l.rd=0 then ({l with wr:=-2},0,0) else (l,91,0))
 else if k=11 then (if l.wr = -2 then ({l with wr:=-1},0,0) else (l,90,0))
 else if k=12 then (l,l.rd,0)
 else if k=13 then (l,(if l.wr = -1 then 0 else 1),0)
 else ((loneRest k a b l).1,(loneRest k a b l).2,0)
def noneDo (k:Int):Int × Int:=if k=1∨k=2∨k=3∨k=5∨k=6∨k=8∨k=9∨k=10∨k=11∨k=14∨k=15∨k=17 then (1,0) else if k=4 then (-1,0) else (0,0)
theorem takes53 (w:World){a:Addr}{v:Int}{may:Bool}(c:w.cell? a=some (.int .i64 v))(z:w.frozen? a=false):Calls Try.prog 53 #[.pointer (some a),.bool may] w fun e w'=>e=.returned (.int .i64 (if v = -1∧may=true then 0 else 91))∧w'=if v = -1∧may=true then w.setCell a (.int .i64 (-2)) else w:=by
 cases may with
 | false =>
  rw[if_neg (by simp),if_neg (by simp)];by_cases hv:v = -1
  ·subst hv
   go_enter Try.func53,Try.ntmps53
   go_wp2
   go_ret
   exact⟨rfl,rfl⟩
  ·go_enter Try.func53,Try.ntmps53
   go_wp2
   go_ret
   exact⟨rfl,rfl⟩
 | true =>
  by_cases hv:v = -1
  ·rw[if_pos ⟨hv,rfl⟩,if_pos ⟨hv,rfl⟩]
   subst hv
   go_enter Try.func53,Try.ntmps53
   go_wp2
   go_ret
   exact⟨rfl,rfl⟩
  ·rw[if_neg (fun h=>hv h.1),if_neg (fun h=>hv h.1)]
   go_enter Try.func53,Try.ntmps53
   go_wp2
   go_ret
   exact⟨rfl,rfl⟩
theorem let55 (w:World){a:Addr}{v:Int}(c:w.cell? a=some (.int .i64 v))(z:w.frozen? a=false):Calls Try.prog 55 #[.pointer (some a),.int .i64 (-2)] w fun e w'=>e=.returned (.int .i64 (if v = -2 then 0 else 90))∧w'=if v = -2 then w.setCell a (.int .i64 (-1)) else w:=by
 by_cases hv:v = -2
 ·rw[if_pos hv,if_pos hv]
  subst hv
  go_enter Try.func55,Try.ntmps55
  go_wp2
  go_ret
  exact⟨rfl,rfl⟩
 ·rw[if_neg hv,if_neg hv]
  go_enter Try.func55,Try.ntmps55
  go_wp2
  go_ret
  exact⟨rfl,rfl⟩
theorem less56 (w:World){a:Addr}{v:Int}(c:w.cell? a=some (.int .i64 v))(z:w.frozen? a=false):Calls Try.prog 56 #[.pointer (some a)] w fun e w'=>e=.returned (.int .i64 (if v=0 then 90 else 0))∧w'=if v=0 then w else w.setCell a (.int .i64 (wrap64 (v-1))):=by
 by_cases hv:v=0
 ·rw[if_pos hv,if_pos hv]
  subst hv
  go_enter Try.func56,Try.ntmps56
  go_wp2
  go_ret
  exact⟨rfl,rfl⟩
 ·rw[if_neg hv,if_neg hv]
  go_enter Try.func56,Try.ntmps56
  go_wp2
  go_ret
  exact⟨rfl,by first | rfl | simp only[IntKind.wrap_i64,wrap64]⟩
def LQ (lb:Nat)(l:LoneSt)(w w':World):Prop:=Keeps [lb] w w'∧Blk w' lb l.cells 98
abbrev L7 (m f wr rd g c ac:Int):List Value:=[.int .i64 m,.int .i64 f,.int .i64 wr,.int .i64 rd,.int .i64 g,.int .i64 c,.int .i64 ac]
abbrev T2 (x y:Int):Value:=.tuple #[.int .i64 x,.int .i64 y]
abbrev R7 (n:FuncId)(w:World)(lb:Nat)(k o a b:Int)(V:Value)(C:List Value):Prop:=Calls Try.prog n #[ptr lb,.agg #[.int .i64 k,.int .i64 o,.int .i64 a,.int .i64 b]] w fun e w'=>e=.returned V∧Keeps [lb] w w'∧Blk w' lb C 98
theorem cells7 {w:World}{lb:Nat}{m f wr rd g c ac:Int}(hb:Blk w lb (L7 m f wr rd g c ac) 98):(∀ ob,(w.alloc ob).cell? ⟨lb,0,none⟩=some (.int .i64 m))∧(∀ ob,(w.alloc ob).frozen? ⟨lb,0,none⟩=false)∧(∀ ob,(w.alloc ob).cell? ⟨lb,1,none⟩=some (.int .i64 f))∧(∀ ob,(w.alloc ob).frozen? ⟨lb,1,none⟩=false)∧(∀ ob,(w.alloc ob).cell? ⟨lb,2,none⟩=some (.int .i64 wr))∧(∀ ob,(w.alloc ob).frozen? ⟨lb,2,none⟩=false)∧(∀ ob,(w.alloc ob).cell? ⟨lb,3,none⟩=some (.int .i64 rd))∧(∀ ob,(w.alloc ob).frozen? ⟨lb,3,none⟩=false)∧(∀ ob,(w.alloc ob).cell? ⟨lb,4,none⟩=some (.int .i64 g))∧(∀ ob,(w.alloc ob).frozen? ⟨lb,4,none⟩=false)∧(∀ ob,(w.alloc ob).cell? ⟨lb,5,none⟩=some (.int .i64 c))∧(∀ ob,(w.alloc ob).frozen? ⟨lb,5,none⟩=false)∧(∀ ob,(w.alloc ob).cell? ⟨lb,6,none⟩=some (.int .i64 ac))∧(∀ ob,(w.alloc ob).frozen? ⟨lb,6,none⟩=false):=⟨fun ob=>(hb.alloc ob).cell 0,fun ob=>(hb.alloc ob).frozen 0,fun ob=>(hb.alloc ob).cell 1,fun ob=>(hb.alloc ob).frozen 1,fun ob=>(hb.alloc ob).cell 2,fun ob=>(hb.alloc ob).frozen 2,fun ob=>(hb.alloc ob).cell 3,fun ob=>(hb.alloc ob).frozen 3,fun ob=>(hb.alloc ob).cell 4,fun ob=>(hb.alloc ob).frozen 4,fun ob=>(hb.alloc ob).cell 5,fun ob=>(hb.alloc ob).frozen 5,fun ob=>(hb.alloc ob).cell 6,fun ob=>(hb.alloc ob).frozen 6⟩
section
variable {w:World}{p:Addr}{v:Int}
theorem takes_t (c:∀ ob,(w.alloc ob).cell? p=some (.int .i64 v))(z:∀ ob,(w.alloc ob).frozen? p=false)(h:v = -1):Hid (∀ ob,Calls Try.prog 53 #[.pointer (some p),.bool true] (w.alloc ob) fun e w'=>e=.returned (.int .i64 0)∧w'=(w.alloc ob).setCell p (.int .i64 (-2))):=Lib.hid fun ob=>(takes53 (w.alloc ob) (c ob) (z ob)).mono fun e w' ⟨h1,h2⟩=>⟨h1.trans (by rw[if_pos ⟨h,rfl⟩]),h2.trans (by rw[if_pos ⟨h,rfl⟩])⟩
theorem takes_f (c:∀ ob,(w.alloc ob).cell? p=some (.int .i64 v))(z:∀ ob,(w.alloc ob).frozen? p=false)(h:¬ v = -1):Hid (∀ ob,Calls Try.prog 53 #[.pointer (some p),.bool true] (w.alloc ob) fun e w'=>e=.returned (.int .i64 91)∧w'=w.alloc ob):=Lib.hid fun ob=>(takes53 (w.alloc ob) (c ob) (z ob)).mono fun e w' ⟨h1,h2⟩=>⟨h1.trans (by rw[if_neg (fun q=>h q.1)]),h2.trans (by rw[if_neg (fun q=>h q.1)])⟩
theorem lets_t (c:∀ ob,(w.alloc ob).cell? p=some (.int .i64 v))(z:∀ ob,(w.alloc ob).frozen? p=false)(h:v = -2):Hid (∀ ob,Calls Try.prog 55 #[.pointer (some p),.int .i64 (-2)] (w.alloc ob) fun e w'=>e=.returned (.int .i64 0)∧w'=(w.alloc ob).setCell p (.int .i64 (-1))):=Lib.hid fun ob=>(let55 (w.alloc ob) (c ob) (z ob)).mono fun e w' ⟨h1,h2⟩=>⟨h1.trans (by rw[if_pos h]),h2.trans (by rw[if_pos h])⟩
theorem lets_f (c:∀ ob,(w.alloc ob).cell? p=some (.int .i64 v))(z:∀ ob,(w.alloc ob).frozen? p=false)(h:¬ v = -2):Hid (∀ ob,Calls Try.prog 55 #[.pointer (some p),.int .i64 (-2)] (w.alloc ob) fun e w'=>e=.returned (.int .i64 90)∧w'=w.alloc ob):=Lib.hid fun ob=>(let55 (w.alloc ob) (c ob) (z ob)).mono fun e w' ⟨h1,h2⟩=>⟨h1.trans (by rw[if_neg h]),h2.trans (by rw[if_neg h])⟩
theorem less_t (c:∀ ob,(w.alloc ob).cell? p=some (.int .i64 v))(z:∀ ob,(w.alloc ob).frozen? p=false)(h:v=0):Hid (∀ ob,Calls Try.prog 56 #[.pointer (some p)] (w.alloc ob) fun e w'=>e=.returned (.int .i64 90)∧w'=w.alloc ob):=Lib.hid fun ob=>(less56 (w.alloc ob) (c ob) (z ob)).mono fun e w' ⟨h1,h2⟩=>⟨h1.trans (by rw[if_pos h]),h2.trans (by rw[if_pos h])⟩
theorem less_f (c:∀ ob,(w.alloc ob).cell? p=some (.int .i64 v))(z:∀ ob,(w.alloc ob).frozen? p=false)(h:¬ v=0):Hid (∀ ob,Calls Try.prog 56 #[.pointer (some p)] (w.alloc ob) fun e w'=>e=.returned (.int .i64 0)∧w'=(w.alloc ob).setCell p (.int .i64 (wrap64 (v-1)))):=Lib.hid fun ob=>(less56 (w.alloc ob) (c ob) (z ob)).mono fun e w' ⟨h1,h2⟩=>⟨h1.trans (by rw[if_neg h]),h2.trans (by rw[if_neg h])⟩
end
section
variable (w:World){lb:Nat}{m f wr rd g c ac:Int}
theorem r57_14 (hb:Blk w lb (L7 m f wr rd g c ac) 98)(o a b:Int)  : R7 57 w lb 14 o a b (.int .i64 0) (L7 m f wr rd (wrap64 (g+1)) c ac):=by
 obtain⟨c0,z0,c1,z1,c2,z2,c3,z3,c4,z4,c5,z5,c6,z6⟩:=cells7 hb;have HB:=Lib.hid hb;clear hb;unfold R7
 go_enter Try.func57,Try.ntmps57
 go_wp2
 go_ret
 try rw[show IntKind.i64.wrap (g+1)=wrap64 (g+1) from by simp only[IntKind.wrap_i64,wrap64]]
 exact⟨rfl,((Keeps.refl [lb] w).alloc _).setCell _ _ (fun _=>by simp),(HB.out.alloc _).set 4 _⟩
theorem r57_15t (hb:Blk w lb (L7 m f wr rd g c ac) 98)(o a b:Int)(hc:g=0):R7 57 w lb 15 o a b (.int .i64 90) (L7 m f wr rd g c ac):=by
 obtain⟨c0,z0,c1,z1,c2,z2,c3,z3,c4,z4,c5,z5,c6,z6⟩:=cells7 hb;have HB:=Lib.hid hb;have HC:=less_t c4 z4 hc;clear hb;unfold R7
 go_enter Try.func57,Try.ntmps57
 go_wp2_with (go_at_call 56;refine(HC.out _).mono ?_;rintro e w' ⟨rfl,rfl⟩)
 go_ret
 exact⟨rfl,(Keeps.refl [lb] w).alloc _,HB.out.alloc _⟩
theorem r57_15f (hb:Blk w lb (L7 m f wr rd g c ac) 98)(o a b:Int)(hc:¬ g=0):R7 57 w lb 15 o a b (.int .i64 0) (L7 m f wr rd (wrap64 (g-1)) c ac):=by
 obtain⟨c0,z0,c1,z1,c2,z2,c3,z3,c4,z4,c5,z5,c6,z6⟩:=cells7 hb;have HB:=Lib.hid hb;have HC:=less_f c4 z4 hc;clear hb;unfold R7
 go_enter Try.func57,Try.ntmps57
 go_wp2_with (go_at_call 56;refine(HC.out _).mono ?_;rintro e w' ⟨rfl,rfl⟩)
 go_ret
 try rw[show IntKind.i64.wrap (g-1)=wrap64 (g-1) from by simp only[IntKind.wrap_i64,wrap64]]
 exact⟨rfl,((Keeps.refl [lb] w).alloc _).setCell _ _ (fun _=>by simp),(HB.out.alloc _).set 4 _⟩
theorem r57_16 (hb:Blk w lb (L7 m f wr rd g c ac) 98)(o a b:Int)  : R7 57 w lb 16 o a b (.int .i64 g) (L7 m f wr rd g c ac):=by
 obtain⟨c0,z0,c1,z1,c2,z2,c3,z3,c4,z4,c5,z5,c6,z6⟩:=cells7 hb;have HB:=Lib.hid hb;clear hb;unfold R7
 go_enter Try.func57,Try.ntmps57
 go_wp2
 go_ret
 exact⟨rfl,(Keeps.refl [lb] w).alloc _,HB.out.alloc _⟩
theorem r57_17t (hb:Blk w lb (L7 m f wr rd g c ac) 98)(o a b:Int)(hc:0<g):R7 57 w lb 17 o a b (.int .i64 91) (L7 m f wr rd g c ac):=by
 obtain⟨c0,z0,c1,z1,c2,z2,c3,z3,c4,z4,c5,z5,c6,z6⟩:=cells7 hb;have HB:=Lib.hid hb;clear hb;unfold R7
 go_enter Try.func57,Try.ntmps57
 go_wp2
 go_ret
 exact⟨rfl,(Keeps.refl [lb] w).alloc _,HB.out.alloc _⟩
theorem r57_17f (hb:Blk w lb (L7 m f wr rd g c ac) 98)(o a b:Int)(hc:¬ 0<g):R7 57 w lb 17 o a b (.int .i64 0) (L7 m f wr rd g c ac):=by
 obtain⟨c0,z0,c1,z1,c2,z2,c3,z3,c4,z4,c5,z5,c6,z6⟩:=cells7 hb;have HB:=Lib.hid hb;clear hb;unfold R7
 go_enter Try.func57,Try.ntmps57
 go_wp2
 go_ret
 exact⟨rfl,(Keeps.refl [lb] w).alloc _,HB.out.alloc _⟩
theorem r57_22 (hb:Blk w lb (L7 m f wr rd g c ac) 98)(o a b:Int)  : R7 57 w lb 22 o a b (.int .i64 ac) (L7 m f wr rd g c ac):=by
 obtain⟨c0,z0,c1,z1,c2,z2,c3,z3,c4,z4,c5,z5,c6,z6⟩:=cells7 hb;have HB:=Lib.hid hb;clear hb;unfold R7
 go_enter Try.func57,Try.ntmps57
 go_wp2
 go_ret
 exact⟨rfl,(Keeps.refl [lb] w).alloc _,HB.out.alloc _⟩
theorem r57_18 (hb:Blk w lb (L7 m f wr rd g c ac) 98)(o a b:Int)  : R7 57 w lb 18 o a b (.int .i64 c) (L7 m f wr rd g c (wrap64 (ac+1))):=by
 obtain⟨c0,z0,c1,z1,c2,z2,c3,z3,c4,z4,c5,z5,c6,z6⟩:=cells7 hb;have HB:=Lib.hid hb;clear hb;unfold R7
 go_enter Try.func57,Try.ntmps57
 go_wp2
 go_ret
 try rw[show IntKind.i64.wrap (ac+1)=wrap64 (ac+1) from by simp only[IntKind.wrap_i64,wrap64]]
 exact⟨rfl,((Keeps.refl [lb] w).alloc _).setCell _ _ (fun _=>by simp),(HB.out.alloc _).set 6 _⟩
theorem r57_19 (hb:Blk w lb (L7 m f wr rd g c ac) 98)(o a b:Int)  : R7 57 w lb 19 o a b (.int .i64 0) (L7 m f wr rd g a (wrap64 (ac+1))):=by
 obtain⟨c0,z0,c1,z1,c2,z2,c3,z3,c4,z4,c5,z5,c6,z6⟩:=cells7 hb;have HB:=Lib.hid hb;clear hb;unfold R7
 go_enter Try.func57,Try.ntmps57
 go_wp2
 go_ret
 try rw[show IntKind.i64.wrap (ac+1)=wrap64 (ac+1) from by simp only[IntKind.wrap_i64,wrap64]]
 exact⟨rfl,(((Keeps.refl [lb] w).alloc _).setCell _ _ (fun _=>by simp)).setCell _ _ (fun _=>by simp),((HB.out.alloc _).set 6 _).set 5 _⟩
theorem r57_20 (hb:Blk w lb (L7 m f wr rd g c ac) 98)(o a b:Int)  : R7 57 w lb 20 o a b (.int .i64 c) (L7 m f wr rd g a (wrap64 (ac+1))):=by
 obtain⟨c0,z0,c1,z1,c2,z2,c3,z3,c4,z4,c5,z5,c6,z6⟩:=cells7 hb;have HB:=Lib.hid hb;clear hb;unfold R7
 go_enter Try.func57,Try.ntmps57
 go_wp2
 go_ret
 try rw[show IntKind.i64.wrap (ac+1)=wrap64 (ac+1) from by simp only[IntKind.wrap_i64,wrap64]]
 exact⟨rfl,(((Keeps.refl [lb] w).alloc _).setCell _ _ (fun _=>by simp)).setCell _ _ (fun _=>by simp),((HB.out.alloc _).set 6 _).set 5 _⟩
theorem r57_21t (hb:Blk w lb (L7 m f wr rd g c ac) 98)(o a b:Int)(hc:c=a):R7 57 w lb 21 o a b (.int .i64 1) (L7 m f wr rd g b (wrap64 (ac+1))):=by
 obtain⟨c0,z0,c1,z1,c2,z2,c3,z3,c4,z4,c5,z5,c6,z6⟩:=cells7 hb;have HB:=Lib.hid hb;have HT:=Lib.hid truth54;subst hc;clear hb;unfold R7
 go_enter Try.func57,Try.ntmps57
 go_wp2_with (go_at_call 54;refine(HT.out _ _).mono ?_;rintro e w' ⟨rfl,rfl⟩)
 go_ret
 try rw[show IntKind.i64.wrap (ac+1)=wrap64 (ac+1) from by simp only[IntKind.wrap_i64,wrap64]]
 exact⟨rfl,(((Keeps.refl [lb] w).alloc _).setCell _ _ (fun _=>by simp)).setCell _ _ (fun _=>by simp),((HB.out.alloc _).set 6 _).set 5 _⟩
theorem r57_21f (hb:Blk w lb (L7 m f wr rd g c ac) 98)(o a b:Int)(hc:¬ c=a):R7 57 w lb 21 o a b (.int .i64 0) (L7 m f wr rd g c (wrap64 (ac+1))):=by
 obtain⟨c0,z0,c1,z1,c2,z2,c3,z3,c4,z4,c5,z5,c6,z6⟩:=cells7 hb;have HB:=Lib.hid hb;have HT:=Lib.hid truth54;clear hb;unfold R7
 go_enter Try.func57,Try.ntmps57
 go_wp2_with (go_at_call 54;refine(HT.out _ _).mono ?_;rintro e w' ⟨rfl,rfl⟩)
 go_ret
 try rw[show IntKind.i64.wrap (ac+1)=wrap64 (ac+1) from by simp only[IntKind.wrap_i64,wrap64]]
 exact⟨rfl,((Keeps.refl [lb] w).alloc _).setCell _ _ (fun _=>by simp),(HB.out.alloc _).set 6 _⟩
theorem r57_no (hb:Blk w lb (L7 m f wr rd g c ac) 98)(o a b:Int){k:Int}(h14:¬ k=14)(h15:¬ k=15)(h16:¬ k=16)(h17:¬ k=17)(h22:¬ k=22)(h18:¬ k=18)(h19:¬ k=19)(h20:¬ k=20)(h21:¬ k=21):R7 57 w lb k o a b (.int .i64 0) (L7 m f wr rd g c ac):=by
 obtain⟨c0,z0,c1,z1,c2,z2,c3,z3,c4,z4,c5,z5,c6,z6⟩:=cells7 hb;have HB:=Lib.hid hb;clear hb;unfold R7
 go_enter Try.func57,Try.ntmps57
 go_wp2
 go_ret
 exact⟨rfl,(Keeps.refl [lb] w).alloc _,HB.out.alloc _⟩
theorem r25_1t (hb:Blk w lb (L7 m f wr rd g c ac) 98)(o a b:Int)(hc:m = -1):R7 25 w lb 1 o a b (T2 0 0) (L7 (-2) f wr rd g c ac):=by
 obtain⟨c0,z0,c1,z1,c2,z2,c3,z3,c4,z4,c5,z5,c6,z6⟩:=cells7 hb;have HB:=Lib.hid hb;have HC:=takes_t c0 z0 hc;clear hb;unfold R7
 go_enter Try.func25,Try.ntmps25
 go_wp2_with (go_at_call 53;refine(HC.out _).mono ?_;rintro e w' ⟨rfl,rfl⟩)
 refine bodyPost_ret (res2v rfl rfl rfl) rfl ?_;exact⟨rfl,((Keeps.refl [lb] w).alloc _).setCell _ _ (fun _=>by simp),(HB.out.alloc _).set 0 _⟩
theorem r25_1f (hb:Blk w lb (L7 m f wr rd g c ac) 98)(o a b:Int)(hc:¬ m = -1):R7 25 w lb 1 o a b (T2 91 0) (L7 m f wr rd g c ac):=by
 obtain⟨c0,z0,c1,z1,c2,z2,c3,z3,c4,z4,c5,z5,c6,z6⟩:=cells7 hb;have HB:=Lib.hid hb;have HC:=takes_f c0 z0 hc;clear hb;unfold R7
 go_enter Try.func25,Try.ntmps25
 go_wp2_with (go_at_call 53;refine(HC.out _).mono ?_;rintro e w' ⟨rfl,rfl⟩)
 refine bodyPost_ret (res2v rfl rfl rfl) rfl ?_;exact⟨rfl,(Keeps.refl [lb] w).alloc _,HB.out.alloc _⟩
theorem r25_5t (hb:Blk w lb (L7 m f wr rd g c ac) 98)(o a b:Int)(hc:f = -1):R7 25 w lb 5 o a b (T2 0 0) (L7 m (-2) wr rd g c ac):=by
 obtain⟨c0,z0,c1,z1,c2,z2,c3,z3,c4,z4,c5,z5,c6,z6⟩:=cells7 hb;have HB:=Lib.hid hb;have HC:=takes_t c1 z1 hc;clear hb;unfold R7
 go_enter Try.func25,Try.ntmps25
 go_wp2_with (go_at_call 53;refine(HC.out _).mono ?_;rintro e w' ⟨rfl,rfl⟩)
 refine bodyPost_ret (res2v rfl rfl rfl) rfl ?_;exact⟨rfl,((Keeps.refl [lb] w).alloc _).setCell _ _ (fun _=>by simp),(HB.out.alloc _).set 1 _⟩
theorem r25_5f (hb:Blk w lb (L7 m f wr rd g c ac) 98)(o a b:Int)(hc:¬ f = -1):R7 25 w lb 5 o a b (T2 91 0) (L7 m f wr rd g c ac):=by
 obtain⟨c0,z0,c1,z1,c2,z2,c3,z3,c4,z4,c5,z5,c6,z6⟩:=cells7 hb;have HB:=Lib.hid hb;have HC:=takes_f c1 z1 hc;clear hb;unfold R7
 go_enter Try.func25,Try.ntmps25
 go_wp2_with (go_at_call 53;refine(HC.out _).mono ?_;rintro e w' ⟨rfl,rfl⟩)
 refine bodyPost_ret (res2v rfl rfl rfl) rfl ?_;exact⟨rfl,(Keeps.refl [lb] w).alloc _,HB.out.alloc _⟩
theorem r25_2t (hb:Blk w lb (L7 m f wr rd g c ac) 98)(o a b:Int)(hc:m = -1):R7 25 w lb 2 o a b (T2 0 1) (L7 (-2) f wr rd g c ac):=by
 obtain⟨c0,z0,c1,z1,c2,z2,c3,z3,c4,z4,c5,z5,c6,z6⟩:=cells7 hb;have HB:=Lib.hid hb;have HC:=takes_t c0 z0 hc;have HT:=Lib.hid truth54;clear hb;unfold R7
 go_enter Try.func25,Try.ntmps25
 go_wp2_with (first | (go_at_call 53;refine(HC.out _).mono ?_;rintro e w' ⟨rfl,rfl⟩) | (go_at_call 54;refine(HT.out _ _).mono ?_;rintro e w' ⟨rfl,rfl⟩))
 refine bodyPost_ret (res2v rfl rfl rfl) rfl ?_;exact⟨rfl,((Keeps.refl [lb] w).alloc _).setCell _ _ (fun _=>by simp),(HB.out.alloc _).set 0 _⟩
theorem r25_2f (hb:Blk w lb (L7 m f wr rd g c ac) 98)(o a b:Int)(hc:¬ m = -1):R7 25 w lb 2 o a b (T2 0 0) (L7 m f wr rd g c ac):=by
 obtain⟨c0,z0,c1,z1,c2,z2,c3,z3,c4,z4,c5,z5,c6,z6⟩:=cells7 hb;have HB:=Lib.hid hb;have HC:=takes_f c0 z0 hc;have HT:=Lib.hid truth54;clear hb;unfold R7
 go_enter Try.func25,Try.ntmps25
 go_wp2_with (first | (go_at_call 53;refine(HC.out _).mono ?_;rintro e w' ⟨rfl,rfl⟩) | (go_at_call 54;refine(HT.out _ _).mono ?_;rintro e w' ⟨rfl,rfl⟩))
 refine bodyPost_ret (res2v rfl rfl rfl) rfl ?_;exact⟨rfl,(Keeps.refl [lb] w).alloc _,HB.out.alloc _⟩
theorem r25_3t (hb:Blk w lb (L7 m f wr rd g c ac) 98)(o a b:Int)(hc:m = -2):R7 25 w lb 3 o a b (T2 0 0) (L7 (-1) f wr rd g c ac):=by
 obtain⟨c0,z0,c1,z1,c2,z2,c3,z3,c4,z4,c5,z5,c6,z6⟩:=cells7 hb;have HB:=Lib.hid hb;have HC:=lets_t c0 z0 hc;clear hb;unfold R7
 go_enter Try.func25,Try.ntmps25
 go_wp2_with (go_at_call 55;refine(HC.out _).mono ?_;rintro e w' ⟨rfl,rfl⟩)
 refine bodyPost_ret (res2v rfl rfl rfl) rfl ?_;exact⟨rfl,((Keeps.refl [lb] w).alloc _).setCell _ _ (fun _=>by simp),(HB.out.alloc _).set 0 _⟩
theorem r25_3f (hb:Blk w lb (L7 m f wr rd g c ac) 98)(o a b:Int)(hc:¬ m = -2):R7 25 w lb 3 o a b (T2 90 0) (L7 m f wr rd g c ac):=by
 obtain⟨c0,z0,c1,z1,c2,z2,c3,z3,c4,z4,c5,z5,c6,z6⟩:=cells7 hb;have HB:=Lib.hid hb;have HC:=lets_f c0 z0 hc;clear hb;unfold R7
 go_enter Try.func25,Try.ntmps25
 go_wp2_with (go_at_call 55;refine(HC.out _).mono ?_;rintro e w' ⟨rfl,rfl⟩)
 refine bodyPost_ret (res2v rfl rfl rfl) rfl ?_;exact⟨rfl,(Keeps.refl [lb] w).alloc _,HB.out.alloc _⟩
theorem r25_6t (hb:Blk w lb (L7 m f wr rd g c ac) 98)(o a b:Int)(hc:f = -2):R7 25 w lb 6 o a b (T2 0 0) (L7 m (-1) wr rd g c ac):=by
 obtain⟨c0,z0,c1,z1,c2,z2,c3,z3,c4,z4,c5,z5,c6,z6⟩:=cells7 hb;have HB:=Lib.hid hb;have HC:=lets_t c1 z1 hc;clear hb;unfold R7
 go_enter Try.func25,Try.ntmps25
 go_wp2_with (go_at_call 55;refine(HC.out _).mono ?_;rintro e w' ⟨rfl,rfl⟩)
 refine bodyPost_ret (res2v rfl rfl rfl) rfl ?_;exact⟨rfl,((Keeps.refl [lb] w).alloc _).setCell _ _ (fun _=>by simp),(HB.out.alloc _).set 1 _⟩
theorem r25_6f (hb:Blk w lb (L7 m f wr rd g c ac) 98)(o a b:Int)(hc:¬ f = -2):R7 25 w lb 6 o a b (T2 90 0) (L7 m f wr rd g c ac):=by
 obtain⟨c0,z0,c1,z1,c2,z2,c3,z3,c4,z4,c5,z5,c6,z6⟩:=cells7 hb;have HB:=Lib.hid hb;have HC:=lets_f c1 z1 hc;clear hb;unfold R7
 go_enter Try.func25,Try.ntmps25
 go_wp2_with (go_at_call 55;refine(HC.out _).mono ?_;rintro e w' ⟨rfl,rfl⟩)
 refine bodyPost_ret (res2v rfl rfl rfl) rfl ?_;exact⟨rfl,(Keeps.refl [lb] w).alloc _,HB.out.alloc _⟩
theorem r25_11t (hb:Blk w lb (L7 m f wr rd g c ac) 98)(o a b:Int)(hc:wr = -2):R7 25 w lb 11 o a b (T2 0 0) (L7 m f (-1) rd g c ac):=by
 obtain⟨c0,z0,c1,z1,c2,z2,c3,z3,c4,z4,c5,z5,c6,z6⟩:=cells7 hb;have HB:=Lib.hid hb;have HC:=lets_t c2 z2 hc;clear hb;unfold R7
 go_enter Try.func25,Try.ntmps25
 go_wp2_with (go_at_call 55;refine(HC.out _).mono ?_;rintro e w' ⟨rfl,rfl⟩)
 refine bodyPost_ret (res2v rfl rfl rfl) rfl ?_;exact⟨rfl,((Keeps.refl [lb] w).alloc _).setCell _ _ (fun _=>by simp),(HB.out.alloc _).set 2 _⟩
theorem r25_11f (hb:Blk w lb (L7 m f wr rd g c ac) 98)(o a b:Int)(hc:¬ wr = -2):R7 25 w lb 11 o a b (T2 90 0) (L7 m f wr rd g c ac):=by
 obtain⟨c0,z0,c1,z1,c2,z2,c3,z3,c4,z4,c5,z5,c6,z6⟩:=cells7 hb;have HB:=Lib.hid hb;have HC:=lets_f c2 z2 hc;clear hb;unfold R7
 go_enter Try.func25,Try.ntmps25
 go_wp2_with (go_at_call 55;refine(HC.out _).mono ?_;rintro e w' ⟨rfl,rfl⟩)
 refine bodyPost_ret (res2v rfl rfl rfl) rfl ?_;exact⟨rfl,(Keeps.refl [lb] w).alloc _,HB.out.alloc _⟩
theorem r25_4 (hb:Blk w lb (L7 m f wr rd g c ac) 98)(o a b:Int)  : R7 25 w lb 4 o a b (T2 m 0) (L7 m f wr rd g c ac):=by
 obtain⟨c0,z0,c1,z1,c2,z2,c3,z3,c4,z4,c5,z5,c6,z6⟩:=cells7 hb;have HB:=Lib.hid hb;clear hb;unfold R7
 go_enter Try.func25,Try.ntmps25
 go_wp2
 refine bodyPost_ret (res2v rfl rfl rfl) rfl ?_;exact⟨rfl,(Keeps.refl [lb] w).alloc _,HB.out.alloc _⟩
theorem r25_8t (hb:Blk w lb (L7 m f wr rd g c ac) 98)(o a b:Int)(hc:wr = -1):R7 25 w lb 8 o a b (T2 0 0) (L7 m f wr (wrap64 (rd+1)) g c ac):=by
 obtain⟨c0,z0,c1,z1,c2,z2,c3,z3,c4,z4,c5,z5,c6,z6⟩:=cells7 hb;have HB:=Lib.hid hb;clear hb;unfold R7
 go_enter Try.func25,Try.ntmps25
 go_wp2
 refine bodyPost_ret (res2v rfl rfl rfl) rfl ?_
 try rw[show IntKind.i64.wrap (rd+1)=wrap64 (rd+1) from by simp only[IntKind.wrap_i64,wrap64]]
 exact⟨rfl,((Keeps.refl [lb] w).alloc _).setCell _ _ (fun _=>by simp),(HB.out.alloc _).set 3 _⟩
theorem r25_8f (hb:Blk w lb (L7 m f wr rd g c ac) 98)(o a b:Int)(hc:¬ wr = -1):R7 25 w lb 8 o a b (T2 91 0) (L7 m f wr rd g c ac):=by
 obtain⟨c0,z0,c1,z1,c2,z2,c3,z3,c4,z4,c5,z5,c6,z6⟩:=cells7 hb;have HB:=Lib.hid hb;clear hb;unfold R7
 go_enter Try.func25,Try.ntmps25
 go_wp2
 refine bodyPost_ret (res2v rfl rfl rfl) rfl ?_;exact⟨rfl,(Keeps.refl [lb] w).alloc _,HB.out.alloc _⟩
theorem r25_9t (hb:Blk w lb (L7 m f wr rd g c ac) 98)(o a b:Int)(hc:rd=0):R7 25 w lb 9 o a b (T2 90 0) (L7 m f wr rd g c ac):=by
 obtain⟨c0,z0,c1,z1,c2,z2,c3,z3,c4,z4,c5,z5,c6,z6⟩:=cells7 hb;have HB:=Lib.hid hb;have HC:=less_t c3 z3 hc;clear hb;unfold R7
 go_enter Try.func25,Try.ntmps25
 go_wp2_with (go_at_call 56;refine(HC.out _).mono ?_;rintro e w' ⟨rfl,rfl⟩)
 refine bodyPost_ret (res2v rfl rfl rfl) rfl ?_;exact⟨rfl,(Keeps.refl [lb] w).alloc _,HB.out.alloc _⟩
theorem r25_9f (hb:Blk w lb (L7 m f wr rd g c ac) 98)(o a b:Int)(hc:¬ rd=0):R7 25 w lb 9 o a b (T2 0 0) (L7 m f wr (wrap64 (rd-1)) g c ac):=by
 obtain⟨c0,z0,c1,z1,c2,z2,c3,z3,c4,z4,c5,z5,c6,z6⟩:=cells7 hb;have HB:=Lib.hid hb;have HC:=less_f c3 z3 hc;clear hb;unfold R7
 go_enter Try.func25,Try.ntmps25
 go_wp2_with (go_at_call 56;refine(HC.out _).mono ?_;rintro e w' ⟨rfl,rfl⟩)
 refine bodyPost_ret (res2v rfl rfl rfl) rfl ?_
 try rw[show IntKind.i64.wrap (rd-1)=wrap64 (rd-1) from by simp only[IntKind.wrap_i64,wrap64]]
 exact⟨rfl,((Keeps.refl [lb] w).alloc _).setCell _ _ (fun _=>by simp),(HB.out.alloc _).set 3 _⟩
theorem r25_12 (hb:Blk w lb (L7 m f wr rd g c ac) 98)(o a b:Int)  : R7 25 w lb 12 o a b (T2 rd 0) (L7 m f wr rd g c ac):=by
 obtain⟨c0,z0,c1,z1,c2,z2,c3,z3,c4,z4,c5,z5,c6,z6⟩:=cells7 hb;have HB:=Lib.hid hb;clear hb;unfold R7
 go_enter Try.func25,Try.ntmps25
 go_wp2
 refine bodyPost_ret (res2v rfl rfl rfl) rfl ?_;exact⟨rfl,(Keeps.refl [lb] w).alloc _,HB.out.alloc _⟩
theorem r25_13t (hb:Blk w lb (L7 m f wr rd g c ac) 98)(o a b:Int)(hc:wr = -1):R7 25 w lb 13 o a b (T2 0 0) (L7 m f wr rd g c ac):=by
 obtain⟨c0,z0,c1,z1,c2,z2,c3,z3,c4,z4,c5,z5,c6,z6⟩:=cells7 hb;have HB:=Lib.hid hb;have HT:=Lib.hid truth54;clear hb;unfold R7
 go_enter Try.func25,Try.ntmps25
 go_wp2_with (go_at_call 54;refine(HT.out _ _).mono ?_;rintro e w' ⟨rfl,rfl⟩)
 refine bodyPost_ret (res2v rfl rfl rfl) rfl ?_;exact⟨rfl,(Keeps.refl [lb] w).alloc _,HB.out.alloc _⟩
theorem r25_13f (hb:Blk w lb (L7 m f wr rd g c ac) 98)(o a b:Int)(hc:¬ wr = -1):R7 25 w lb 13 o a b (T2 1 0) (L7 m f wr rd g c ac):=by
 obtain⟨c0,z0,c1,z1,c2,z2,c3,z3,c4,z4,c5,z5,c6,z6⟩:=cells7 hb;have HB:=Lib.hid hb;have HT:=Lib.hid truth54;clear hb;unfold R7
 go_enter Try.func25,Try.ntmps25
 go_wp2_with (go_at_call 54;refine(HT.out _ _).mono ?_;rintro e w' ⟨rfl,rfl⟩)
 refine bodyPost_ret (res2v rfl rfl rfl) rfl ?_;exact⟨rfl,(Keeps.refl [lb] w).alloc _,HB.out.alloc _⟩
end
section
variable (w:World){lb:Nat}{m f wr rd g c ac:Int}
theorem r25_10t (hb:Blk w lb (L7 m f wr rd g c ac) 98)(o a b:Int)(hc:wr = -1)(hr:rd=0):R7 25 w lb 10 o a b (T2 0 0) (L7 m f (-2) rd g c ac):=by
 obtain⟨c0,z0,c1,z1,c2,z2,c3,z3,c4,z4,c5,z5,c6,z6⟩:=cells7 hb;have HB:=Lib.hid hb;have HC:Hid (∀ ob,Calls Try.prog 53 #[.pointer (some ⟨lb,2,none⟩),.bool true] (w.alloc ob).drew fun e w'=>e=.returned (.int .i64 0)∧w'=(w.alloc ob).drew.setCell ⟨lb,2,none⟩ (.int .i64 (-2))):=Lib.hid fun ob=>(takes53 (w.alloc ob).drew (c2 ob) (z2 ob)).mono fun e w' ⟨h1,h2⟩=>⟨h1.trans (by rw[if_pos ⟨hc,rfl⟩]),h2.trans (by rw[if_pos ⟨hc,rfl⟩])⟩;subst hr;clear hb;unfold R7
 go_enter Try.func25,Try.ntmps25
 go_wp2
 go_region_with (go_at_call 53;refine(HC.out _).mono ?_;rintro e w' ⟨rfl,rfl⟩)
 all_goals
  go_wp2
  refine bodyPost_ret (res2v rfl rfl rfl) rfl ?_;exact⟨rfl,(((Keeps.refl [lb] w).alloc _).drew).setCell _ _ (fun _=>by simp),(HB.out.alloc _).set 2 _⟩
theorem r25_10f (hb:Blk w lb (L7 m f wr rd g c ac) 98)(o a b:Int)(hc:¬ wr = -1)(hr:rd=0):R7 25 w lb 10 o a b (T2 91 0) (L7 m f wr rd g c ac):=by
 obtain⟨c0,z0,c1,z1,c2,z2,c3,z3,c4,z4,c5,z5,c6,z6⟩:=cells7 hb;have HB:=Lib.hid hb;have HC:Hid (∀ ob,Calls Try.prog 53 #[.pointer (some ⟨lb,2,none⟩),.bool true] (w.alloc ob).drew fun e w'=>e=.returned (.int .i64 91)∧w'=(w.alloc ob).drew):=Lib.hid fun ob=>(takes53 (w.alloc ob).drew (c2 ob) (z2 ob)).mono fun e w' ⟨h1,h2⟩=>⟨h1.trans (by rw[if_neg (fun h=>hc h.1)]),h2.trans (by rw[if_neg (fun h=>hc h.1)])⟩;subst hr;clear hb;unfold R7
 go_enter Try.func25,Try.ntmps25
 go_wp2
 go_region_with (go_at_call 53;refine(HC.out _).mono ?_;rintro e w' ⟨rfl,rfl⟩)
 all_goals
  go_wp2
  refine bodyPost_ret (res2v rfl rfl rfl) rfl ?_;exact⟨rfl,((Keeps.refl [lb] w).alloc _).drew,HB.out.alloc _⟩
theorem r25_10g (hb:Blk w lb (L7 m f wr rd g c ac) 98)(o a b:Int)(hr:¬ rd=0):R7 25 w lb 10 o a b (T2 91 0) (L7 m f wr rd g c ac):=by
 obtain⟨c0,z0,c1,z1,c2,z2,c3,z3,c4,z4,c5,z5,c6,z6⟩:=cells7 hb;have HB:=Lib.hid hb;have HC:Hid (∀ ob,Calls Try.prog 53 #[.pointer (some ⟨lb,2,none⟩),.bool (decide (rd=0))] (w.alloc ob).drew fun e w'=>e=.returned (.int .i64 91)∧w'=(w.alloc ob).drew):=Lib.hid fun ob=>(takes53 (w.alloc ob).drew (c2 ob) (z2 ob)).mono fun e w' ⟨h1,h2⟩=>⟨h1.trans (by rw[if_neg (fun h=>hr (of_decide_eq_true h.2))]),h2.trans (by rw[if_neg (fun h=>hr (of_decide_eq_true h.2))])⟩;clear hb;unfold R7
 go_enter Try.func25,Try.ntmps25
 go_wp2
 go_region_with (go_at_call 53;refine(HC.out _).mono ?_;rintro e w' ⟨rfl,rfl⟩)
 all_goals
  go_wp2
  refine bodyPost_ret (res2v rfl rfl rfl) rfl ?_;exact⟨rfl,((Keeps.refl [lb] w).alloc _).drew,HB.out.alloc _⟩
end
theorem rest57 (w:World){lb:Nat}{l:LoneSt}(hb:Blk w lb l.cells 98)(k o a b:Int):Calls Try.prog 57 #[ptr lb,.agg #[.int .i64 k,.int .i64 o,.int .i64 a,.int .i64 b]] w fun e w'=>e=.returned (.int .i64 (loneRest k a b l).2)∧LQ lb (loneRest k a b l).1 w w':=by
 obtain⟨m,f,wr,rd,g,c,ac⟩:=l;have hb:Blk w lb (L7 m f wr rd g c ac) 98:=hb;unfold loneRest LQ;dsimp only;by_cases h14:k=14
 ·subst h14
  rw[if_pos rfl];exact r57_14 w hb o a b
 rw[if_neg h14];by_cases h15:k=15
 ·subst h15
  rw[if_pos rfl];by_cases hc:g=0
  ·rw[if_pos hc];exact r57_15t w hb o a b hc
  ·rw[if_neg hc];exact r57_15f w hb o a b hc
 rw[if_neg h15];by_cases h16:k=16
 ·subst h16
  rw[if_pos rfl];exact r57_16 w hb o a b
 rw[if_neg h16];by_cases h17:k=17
 ·subst h17
  rw[if_pos rfl];by_cases hc:0<g
  ·rw[if_pos hc];exact r57_17t w hb o a b hc
  ·rw[if_neg hc];exact r57_17f w hb o a b hc
 rw[if_neg h17];by_cases h22:k=22
 ·subst h22
  rw[if_pos rfl];exact r57_22 w hb o a b
 rw[if_neg h22];by_cases h18:k=18
 ·subst h18
  rw[if_pos rfl];exact r57_18 w hb o a b
 rw[if_neg h18];by_cases h19:k=19
 ·subst h19
  rw[if_pos rfl];exact r57_19 w hb o a b
 rw[if_neg h19];by_cases h20:k=20
 ·subst h20
  rw[if_pos rfl];exact r57_20 w hb o a b
 rw[if_neg h20];by_cases h21:k=21
 ·subst h21
  rw[if_pos rfl];by_cases hc:c=a
  ·rw[if_pos hc];exact r57_21t w hb o a b hc
  ·rw[if_neg hc];exact r57_21f w hb o a b hc
 rw[if_neg h21];exact r57_no w hb o a b h14 h15 h16 h17 h22 h18 h19 h20 h21
theorem r25_no (w:World){lb:Nat}{l:LoneSt}(hb:Blk w lb l.cells 98)(k o a b:Int)(h1:¬ k=1)(h2:¬ k=2)(h3:¬ k=3)(h4:¬ k=4)(h5:¬ k=5)(h6:¬ k=6)(h8:¬ k=8)(h9:¬ k=9)(h10:¬ k=10)(h11:¬ k=11)(h12:¬ k=12)(h13:¬ k=13):Calls Try.prog 25 #[ptr lb,.agg #[.int .i64 k,.int .i64 o,.int .i64 a,.int .i64 b]] w fun e w'=>e=.returned (.tuple #[.int .i64 (loneRest k a b l).2,.int .i64 0])∧LQ lb (loneRest k a b l).1 w w':=by
 have HR:Hid (∀ ob,Calls Try.prog 57 #[ptr lb,.agg #[.int .i64 k,.int .i64 o,.int .i64 a,.int .i64 b]] (w.alloc ob) fun e w'=>e=.returned (.int .i64 (loneRest k a b l).2)∧LQ lb (loneRest k a b l).1 (w.alloc ob) w'):=Lib.hid fun ob=>rest57 (w.alloc ob) (hb.alloc ob) k o a b;clear hb
 go_enter Try.func25,Try.ntmps25
 go_wp2_with (go_at_call 57;refine(HR.out _).mono ?_;rintro e w' ⟨rfl,hq⟩)
 refine bodyPost_ret (res2v rfl rfl rfl) rfl ?_;exact⟨rfl,((Keeps.refl [lb] w).alloc _).trans hq.1 (fun x hx _=>hx),hq.2⟩
theorem lone25 (w:World){lb:Nat}{l:LoneSt}(hb:Blk w lb l.cells 98)(k o a b:Int):Calls Try.prog 25 #[ptr lb,.agg #[.int .i64 k,.int .i64 o,.int .i64 a,.int .i64 b]] w fun e w'=>e=.returned (.tuple #[.int .i64 (loneDo k a b l).2.1,.int .i64 (loneDo k a b l).2.2])∧LQ lb (loneDo k a b l).1 w w':=by
 have hno:=r25_no w hb k o a b;obtain⟨m,f,wr,rd,g,c,ac⟩:=l;have hb:Blk w lb (L7 m f wr rd g c ac) 98:=hb;unfold loneDo;dsimp only;by_cases h1:k=1
 ·subst h1
  rw[if_pos rfl];by_cases hc:m = -1
  ·rw[if_pos hc];exact r25_1t w hb o a b hc
  ·rw[if_neg hc];exact r25_1f w hb o a b hc
 rw[if_neg h1];by_cases h2:k=2
 ·subst h2
  rw[if_pos rfl];by_cases hc:m = -1
  ·rw[if_pos hc];exact r25_2t w hb o a b hc
  ·rw[if_neg hc];exact r25_2f w hb o a b hc
 rw[if_neg h2];by_cases h3:k=3
 ·subst h3
  rw[if_pos rfl];by_cases hc:m = -2
  ·rw[if_pos hc];exact r25_3t w hb o a b hc
  ·rw[if_neg hc];exact r25_3f w hb o a b hc
 rw[if_neg h3];by_cases h4:k=4
 ·subst h4
  rw[if_pos rfl];exact r25_4 w hb o a b
 rw[if_neg h4];by_cases h5:k=5
 ·subst h5
  rw[if_pos rfl];by_cases hc:f = -1
  ·rw[if_pos hc];exact r25_5t w hb o a b hc
  ·rw[if_neg hc];exact r25_5f w hb o a b hc
 rw[if_neg h5];by_cases h6:k=6
 ·subst h6
  rw[if_pos rfl];by_cases hc:f = -2
  ·rw[if_pos hc];exact r25_6t w hb o a b hc
  ·rw[if_neg hc];exact r25_6f w hb o a b hc
 rw[if_neg h6];by_cases h8:k=8
 ·subst h8
  rw[if_pos rfl];by_cases hc:wr = -1
  ·rw[if_pos hc];exact r25_8t w hb o a b hc
  ·rw[if_neg hc];exact r25_8f w hb o a b hc
 rw[if_neg h8];by_cases h9:k=9
 ·subst h9
  rw[if_pos rfl];by_cases hc:rd=0
  ·rw[if_pos hc];exact r25_9t w hb o a b hc
  ·rw[if_neg hc];exact r25_9f w hb o a b hc
 rw[if_neg h9];by_cases h10:k=10
 ·subst h10
  rw[if_pos rfl];by_cases hr:rd=0
  ·by_cases hc:wr = -1
   ·rw[if_pos ⟨hc,hr⟩];exact r25_10t w hb o a b hc hr
   ·rw[if_neg (fun h=>hc h.1)];exact r25_10f w hb o a b hc hr
  ·rw[if_neg (fun h=>hr h.2)];exact r25_10g w hb o a b hr
 rw[if_neg h10];by_cases h11:k=11
 ·subst h11
  rw[if_pos rfl];by_cases hc:wr = -2
  ·rw[if_pos hc];exact r25_11t w hb o a b hc
  ·rw[if_neg hc];exact r25_11f w hb o a b hc
 rw[if_neg h11];by_cases h12:k=12
 ·subst h12
  rw[if_pos rfl];exact r25_12 w hb o a b
 rw[if_neg h12];by_cases h13:k=13
 ·subst h13
  rw[if_pos rfl];by_cases hc:wr = -1
  ·rw[if_pos hc];exact r25_13t w hb o a b hc
  ·rw[if_neg hc];exact r25_13f w hb o a b hc
 rw[if_neg h13];exact hno h1 h2 h3 h4 h5 h6 h8 h9 h10 h11 h12 h13
theorem r26_1 (w:World)  (o a b:Int):Calls Try.prog 26 #[.agg #[.int .i64 1,.int .i64 o,.int .i64 a,.int .i64 b]] w fun e w'=>e=.returned (T2 1 0)∧Keeps [] w w':=by
 go_enter Try.func26,Try.ntmps26
 go_wp2
 refine bodyPost_ret (res2v rfl rfl rfl) rfl ?_;exact⟨rfl,(Keeps.refl [] w).alloc _⟩
theorem r26_2 (w:World)  (o a b:Int):Calls Try.prog 26 #[.agg #[.int .i64 2,.int .i64 o,.int .i64 a,.int .i64 b]] w fun e w'=>e=.returned (T2 1 0)∧Keeps [] w w':=by
 go_enter Try.func26,Try.ntmps26
 go_wp2
 refine bodyPost_ret (res2v rfl rfl rfl) rfl ?_;exact⟨rfl,(Keeps.refl [] w).alloc _⟩
theorem r26_3 (w:World)  (o a b:Int):Calls Try.prog 26 #[.agg #[.int .i64 3,.int .i64 o,.int .i64 a,.int .i64 b]] w fun e w'=>e=.returned (T2 1 0)∧Keeps [] w w':=by
 go_enter Try.func26,Try.ntmps26
 go_wp2
 refine bodyPost_ret (res2v rfl rfl rfl) rfl ?_;exact⟨rfl,(Keeps.refl [] w).alloc _⟩
theorem r26_5 (w:World)  (o a b:Int):Calls Try.prog 26 #[.agg #[.int .i64 5,.int .i64 o,.int .i64 a,.int .i64 b]] w fun e w'=>e=.returned (T2 1 0)∧Keeps [] w w':=by
 go_enter Try.func26,Try.ntmps26
 go_wp2
 refine bodyPost_ret (res2v rfl rfl rfl) rfl ?_;exact⟨rfl,(Keeps.refl [] w).alloc _⟩
theorem r26_6 (w:World)  (o a b:Int):Calls Try.prog 26 #[.agg #[.int .i64 6,.int .i64 o,.int .i64 a,.int .i64 b]] w fun e w'=>e=.returned (T2 1 0)∧Keeps [] w w':=by
 go_enter Try.func26,Try.ntmps26
 go_wp2
 refine bodyPost_ret (res2v rfl rfl rfl) rfl ?_;exact⟨rfl,(Keeps.refl [] w).alloc _⟩
theorem r26_8 (w:World)  (o a b:Int):Calls Try.prog 26 #[.agg #[.int .i64 8,.int .i64 o,.int .i64 a,.int .i64 b]] w fun e w'=>e=.returned (T2 1 0)∧Keeps [] w w':=by
 go_enter Try.func26,Try.ntmps26
 go_wp2
 refine bodyPost_ret (res2v rfl rfl rfl) rfl ?_;exact⟨rfl,(Keeps.refl [] w).alloc _⟩
theorem r26_9 (w:World)  (o a b:Int):Calls Try.prog 26 #[.agg #[.int .i64 9,.int .i64 o,.int .i64 a,.int .i64 b]] w fun e w'=>e=.returned (T2 1 0)∧Keeps [] w w':=by
 go_enter Try.func26,Try.ntmps26
 go_wp2
 refine bodyPost_ret (res2v rfl rfl rfl) rfl ?_;exact⟨rfl,(Keeps.refl [] w).alloc _⟩
theorem r26_10 (w:World)  (o a b:Int):Calls Try.prog 26 #[.agg #[.int .i64 10,.int .i64 o,.int .i64 a,.int .i64 b]] w fun e w'=>e=.returned (T2 1 0)∧Keeps [] w w':=by
 go_enter Try.func26,Try.ntmps26
 go_wp2
 refine bodyPost_ret (res2v rfl rfl rfl) rfl ?_;exact⟨rfl,(Keeps.refl [] w).alloc _⟩
theorem r26_11 (w:World)  (o a b:Int):Calls Try.prog 26 #[.agg #[.int .i64 11,.int .i64 o,.int .i64 a,.int .i64 b]] w fun e w'=>e=.returned (T2 1 0)∧Keeps [] w w':=by
 go_enter Try.func26,Try.ntmps26
 go_wp2
 refine bodyPost_ret (res2v rfl rfl rfl) rfl ?_;exact⟨rfl,(Keeps.refl [] w).alloc _⟩
theorem r26_14 (w:World)  (o a b:Int):Calls Try.prog 26 #[.agg #[.int .i64 14,.int .i64 o,.int .i64 a,.int .i64 b]] w fun e w'=>e=.returned (T2 1 0)∧Keeps [] w w':=by
 go_enter Try.func26,Try.ntmps26
 go_wp2
 refine bodyPost_ret (res2v rfl rfl rfl) rfl ?_;exact⟨rfl,(Keeps.refl [] w).alloc _⟩
theorem r26_15 (w:World)  (o a b:Int):Calls Try.prog 26 #[.agg #[.int .i64 15,.int .i64 o,.int .i64 a,.int .i64 b]] w fun e w'=>e=.returned (T2 1 0)∧Keeps [] w w':=by
 go_enter Try.func26,Try.ntmps26
 go_wp2
 refine bodyPost_ret (res2v rfl rfl rfl) rfl ?_;exact⟨rfl,(Keeps.refl [] w).alloc _⟩
theorem r26_17 (w:World)  (o a b:Int):Calls Try.prog 26 #[.agg #[.int .i64 17,.int .i64 o,.int .i64 a,.int .i64 b]] w fun e w'=>e=.returned (T2 1 0)∧Keeps [] w w':=by
 go_enter Try.func26,Try.ntmps26
 go_wp2
 refine bodyPost_ret (res2v rfl rfl rfl) rfl ?_;exact⟨rfl,(Keeps.refl [] w).alloc _⟩
theorem r26_4 (w:World)  (o a b:Int):Calls Try.prog 26 #[.agg #[.int .i64 4,.int .i64 o,.int .i64 a,.int .i64 b]] w fun e w'=>e=.returned (T2 (-1) 0)∧Keeps [] w w':=by
 go_enter Try.func26,Try.ntmps26
 go_wp2
 refine bodyPost_ret (res2v rfl rfl rfl) rfl ?_;exact⟨rfl,(Keeps.refl [] w).alloc _⟩
theorem r26_no (w:World){k:Int}(h1:¬ k=1)(h2:¬ k=2)(h3:¬ k=3)(h5:¬ k=5)(h6:¬ k=6)(h8:¬ k=8)(h9:¬ k=9)(h10:¬ k=10)(h11:¬ k=11)(h14:¬ k=14)(h15:¬ k=15)(h17:¬ k=17)(h4:¬ k=4)(o a b:Int):Calls Try.prog 26 #[.agg #[.int .i64 k,.int .i64 o,.int .i64 a,.int .i64 b]] w fun e w'=>e=.returned (T2 0 0)∧Keeps [] w w':=by
 go_enter Try.func26,Try.ntmps26
 go_wp2
 refine bodyPost_ret (res2v rfl rfl rfl) rfl ?_;exact⟨rfl,(Keeps.refl [] w).alloc _⟩
theorem none26 (w:World)(k o a b:Int):Calls Try.prog 26 #[.agg #[.int .i64 k,.int .i64 o,.int .i64 a,.int .i64 b]] w fun e w'=>e=.returned (.tuple #[.int .i64 (noneDo k).1,.int .i64 (noneDo k).2])∧Keeps [] w w':=by
 unfold noneDo;by_cases h1:k=1
 ·subst h1
  exact r26_1 w o a b
 by_cases h2:k=2
 ·subst h2
  exact r26_2 w o a b
 by_cases h3:k=3
 ·subst h3
  exact r26_3 w o a b
 by_cases h5:k=5
 ·subst h5
  exact r26_5 w o a b
 by_cases h6:k=6
 ·subst h6
  exact r26_6 w o a b
 by_cases h8:k=8
 ·subst h8
  exact r26_8 w o a b
 by_cases h9:k=9
 ·subst h9
  exact r26_9 w o a b
 by_cases h10:k=10
 ·subst h10
  exact r26_10 w o a b
 by_cases h11:k=11
 ·subst h11
  exact r26_11 w o a b
 by_cases h14:k=14
 ·subst h14
  exact r26_14 w o a b
 by_cases h15:k=15
 ·subst h15
  exact r26_15 w o a b
 by_cases h17:k=17
 ·subst h17
  exact r26_17 w o a b
 rw[if_neg (by simp only[not_or];exact⟨h1,h2,h3,h5,h6,h8,h9,h10,h11,h14,h15,h17⟩)];by_cases h4:k=4
 ·subst h4
  exact r26_4 w o a b
 rw[if_neg h4];exact r26_no w h1 h2 h3 h5 h6 h8 h9 h10 h11 h14 h15 h17 h4 o a b
def q24:Code:=Try.f24.body.getD .skip
def q52:Code:=Try.f52.body.getD .skip
abbrev I1 (R:Value→World→Prop)(v:Value)(w:World):Prop:=∃ x,v=.int .i64 x∧R (.tuple #[.int .i64 x,.int .i64 0]) w
abbrev I2 (R:Value→World→Prop)(v:Value)(w:World):Prop:=∃ t x,v=.tuple #[.bool t,.int .i64 x]∧R (.tuple #[.int .i64 x,.int .i64 (if t then 1 else 0)]) w
abbrev IB (R:Value→World→Prop)(v:Value)(w:World):Prop:=∃ t,v=.bool t∧R (.tuple #[.int .i64 (if t then 1 else 0),.int .i64 0]) w
abbrev I0 (R:Value→World→Prop)(v:Value)(w:World):Prop:=v=.tuple #[]∧R (.tuple #[.int .i64 0,.int .i64 0]) w
structure DW (t:Nat)(m:Bool)(K:Goroutine→World→Prop)(cl:Frame)(cs:List Frame)(w1:World)(sb nw1 o:Nat)(p:Nat→Option Addr)(k ob va vb:Int)(x:Nat→Value)(R:Value→World→Prop):Prop where
 hK:Cl Try.prog m K
 hcm:cl.mode=.run
 hs1:∀ j,j<10→w1.cell? ⟨sb,j,none⟩=some (.pointer (p j))
 bw1:Blk w1 nw1 [.int .i64 k,.int .i64 ob,.int .i64 va,.int .i64 vb] 78
 ho2:o<2
 h0:x 0=ptr sb
 h1:x 1=.pointer none
 h5:x 5=ptr nw1
 h8:x t=.int .i64 (o:Int)
 h:∀ v w',R v w'→K (gs (cl.finish v) cs) w'
def bitO (v:Int):Nat:=(BitVec.ofInt 64 v&&&BitVec.ofInt 64 1).toNat
theorem bitO_lt (v:Int):bitO v<2:=by
 have h:bitO v≤1:=by
  unfold bitO;rw[show BitVec.ofInt 64 1=BitVec.ofNat 64 1 from rfl,BitVec.toNat_and,BitVec.toNat_ofNat,Nat.mod_eq_of_lt (by omega)];exact Nat.and_le_right
 omega
theorem bitO_bits (v:Int):bits BinOp.and IntKind.i64 v 1=(bitO v:Int):=by
 have hlt:=bitO_lt v;have hw:IntKind.i64.wrap (bitO v:Int)=(bitO v:Int):=by rw[IntKind.wrap_i64];omega
 rw[← hw];rfl
theorem w_and1 {a:Act}{oo:Oper}{w:World}{x y:Operand}{i:Int}{n:Nat}(h:oo.op=.binOp .and 3 x y 3)(hx:a.eval x=.int .i64 i)(hy:a.eval y=.int .i64 1)(hn:n=bitO i):(execOp a.eval oo).run Try.prog w=.ok (.value (.int .i64 (n:Int))) w:=by
 unfold execOp;rw[h];simp only[hx,hy];exact run_vv (by simp[go_sem,bitO_bits,hn,Try.underlying3,Try.runUnderlying3])
theorem lin_next {K:Goroutine→World→Prop}{b:Frame}{a:Act}{k:List Item}{cs:List Frame}{w:World}{ops:Array Oper}{s fu t m:Nat}(hr:Region.ready .any ops (firsts ops.size s)=[s])(hl:leftN ops (firsts ops.size s)=m+1)(hl':leftN ops (firsts ops.size (s+1))=m)(hf:(firsts ops.size s).setIfInBounds s true=firsts ops.size (s+1))(h:leftN ops (firsts ops.size s)≤fu)
  (hK:∀ fu' t',leftN ops (firsts ops.size (s+1))≤fu'→K (gs (b.at a (.inRegion ops (s::Region.linearise.go .any ops fu' t' (firsts ops.size (s+1)) [])::k)) cs) w):K (gs (b.at a (.inRegion ops (Region.linearise.go .any ops fu t (firsts ops.size s) [])::k)) cs) w:=by
 obtain⟨fu',rfl⟩:∃ f',fu=f'+1:=⟨fu-1,by omega⟩;obtain⟨t',e⟩:=lin_one (ops:=ops) (fuel:=fu') (t:=t) (i:=s) (listed:=firsts ops.size s) hr;rw[e,hf];exact hK fu' t' (by omega)
theorem bx_78 {a b c d:Int}:∀ w:World,(Instr.box 78 (.agg #[.int .i64 a,.int .i64 b,.int .i64 c,.int .i64 d])).run Try.prog w=.ok (ptr w.heap.size) (w.alloc (.cells #[.int .i64 a,.int .i64 b,.int .i64 c,.int .i64 d] 78)):=fun w=>by
 simp[go_sem,Try.underlying78,Try.runUnderlying78,Try.sizeOf78,Try.isAgg78,Try.sizeOf3]
theorem ld78s {b o:Nat}{u v x y:Value}{w:World}(h0:w.cell? ⟨b,o,none⟩=some u)(h1:w.cell? ⟨b,o+1,none⟩=some v)(h2:w.cell? ⟨b,o+2,none⟩=some x)(h3:w.cell? ⟨b,o+3,none⟩=some y):(Instr.loadAt 78 (.pointer (some ⟨b,o,none⟩))).run Try.prog w=.ok (.agg #[u,v,x,y]) w:=by
 simp[go_sem,h0,h1,h2,h3,Try.underlying78,Try.runUnderlying78,Try.sizeOf78,Try.sizeOf3,Try.isAgg78,Addr.add]
theorem ixA66 {b f o:Nat}(h:o<2):∀ w,(Instr.indexAt 66 (.pointer (some ⟨b,f,none⟩)) (.int .i64 (o:Int))).run Try.prog w=.ok (.pointer (some ⟨b,f+o,none⟩)) w:=fun w=>by
 have h0:(0:Int)≤o:=by omega
 have h1:(o:Int)<2:=by omega
 simp[go_sem,Try.underlying66,Try.runUnderlying66,Try.sizeOf48,Try.sizeOf66,h1,h,Addr.add]
theorem ixA67 {b f o:Nat}(h:o<2):∀ w,(Instr.indexAt 67 (.pointer (some ⟨b,f,none⟩)) (.int .i64 (o:Int))).run Try.prog w=.ok (.pointer (some ⟨b,f+o,none⟩)) w:=fun w=>by
 have h0:(0:Int)≤o:=by omega
 have h1:(o:Int)<2:=by omega
 simp[go_sem,Try.underlying67,Try.runUnderlying67,Try.sizeOf39,Try.sizeOf67,h1,h,Addr.add]
theorem ixA68 {b f o:Nat}(h:o<2):∀ w,(Instr.indexAt 68 (.pointer (some ⟨b,f,none⟩)) (.int .i64 (o:Int))).run Try.prog w=.ok (.pointer (some ⟨b,f+o,none⟩)) w:=fun w=>by
 have h0:(0:Int)≤o:=by omega
 have h1:(o:Int)<2:=by omega
 simp[go_sem,Try.underlying68,Try.runUnderlying68,Try.sizeOf50,Try.sizeOf68,h1,h,Addr.add]
theorem ixA70 {b f o:Nat}(h:o<2):∀ w,(Instr.indexAt 70 (.pointer (some ⟨b,f,none⟩)) (.int .i64 (o:Int))).run Try.prog w=.ok (.pointer (some ⟨b,f+o,none⟩)) w:=fun w=>by
 have h0:(0:Int)≤o:=by omega
 have h1:(o:Int)<2:=by omega
 simp[go_sem,Try.underlying70,Try.runUnderlying70,Try.sizeOf69,Try.sizeOf70,h1,h,Addr.add]
theorem ixA71 {b f o:Nat}(h:o<2):∀ w,(Instr.indexAt 71 (.pointer (some ⟨b,f,none⟩)) (.int .i64 (o:Int))).run Try.prog w=.ok (.pointer (some ⟨b,f+o,none⟩)) w:=fun w=>by
 have h0:(0:Int)≤o:=by omega
 have h1:(o:Int)<2:=by omega
 simp[go_sem,Try.underlying71,Try.runUnderlying71,Try.sizeOf25,Try.sizeOf71,h1,h,Addr.add]
theorem fa78_1 {b o:Nat}:∀ w,(Instr.fieldAt 78 (.pointer (some ⟨b,o,none⟩)) 1).run Try.prog w=.ok (.pointer (some ⟨b,o+1,none⟩)) w:=fun w=>by
 simp[go_sem,Try.underlying78,Try.runUnderlying78,Try.sizeOf78,Try.isAgg78,Try.sizeOf3]
theorem fa78_0 {b o:Nat}:∀ w,(Instr.fieldAt 78 (.pointer (some ⟨b,o,none⟩)) 0).run Try.prog w=.ok (.pointer (some ⟨b,o+0,none⟩)) w:=fun w=>by
 simp[go_sem,Try.underlying78,Try.runUnderlying78,Try.sizeOf78,Try.isAgg78,Try.sizeOf3]
theorem fa74_0 {b o:Nat}:∀ w,(Instr.fieldAt 74 (.pointer (some ⟨b,o,none⟩)) 0).run Try.prog w=.ok (.pointer (some ⟨b,o+0,none⟩)) w:=fun w=>by
 simp[go_sem,Try.underlying74,Try.runUnderlying74,Try.sizeOf74,Try.isAgg74,Try.sizeOf66]
theorem fa74_1 {b o:Nat}:∀ w,(Instr.fieldAt 74 (.pointer (some ⟨b,o,none⟩)) 1).run Try.prog w=.ok (.pointer (some ⟨b,o+2,none⟩)) w:=fun w=>by
 simp[go_sem,Try.underlying74,Try.runUnderlying74,Try.sizeOf74,Try.isAgg74,Try.sizeOf66,Try.sizeOf67]
theorem fa74_2 {b o:Nat}:∀ w,(Instr.fieldAt 74 (.pointer (some ⟨b,o,none⟩)) 2).run Try.prog w=.ok (.pointer (some ⟨b,o+4,none⟩)) w:=fun w=>by
 simp[go_sem,Try.underlying74,Try.runUnderlying74,Try.sizeOf74,Try.isAgg74,Try.sizeOf66,Try.sizeOf67,Try.sizeOf68]
theorem fa74_3 {b o:Nat}:∀ w,(Instr.fieldAt 74 (.pointer (some ⟨b,o,none⟩)) 3).run Try.prog w=.ok (.pointer (some ⟨b,o+6,none⟩)) w:=fun w=>by
 simp[go_sem,Try.underlying74,Try.runUnderlying74,Try.sizeOf74,Try.isAgg74,Try.sizeOf66,Try.sizeOf67,Try.sizeOf68,Try.sizeOf70]
theorem fa74_4 {b o:Nat}:∀ w,(Instr.fieldAt 74 (.pointer (some ⟨b,o,none⟩)) 4).run Try.prog w=.ok (.pointer (some ⟨b,o+8,none⟩)) w:=fun w=>by
 simp[go_sem,Try.underlying74,Try.runUnderlying74,Try.sizeOf74,Try.isAgg74,Try.sizeOf66,Try.sizeOf67,Try.sizeOf68,Try.sizeOf70,Try.sizeOf71]
theorem fa78_2 {b o:Nat}:∀ w,(Instr.fieldAt 78 (.pointer (some ⟨b,o,none⟩)) 2).run Try.prog w=.ok (.pointer (some ⟨b,o+2,none⟩)) w:=fun w=>by
 simp[go_sem,Try.underlying78,Try.runUnderlying78,Try.sizeOf78,Try.isAgg78,Try.sizeOf3]
theorem fa78_3 {b o:Nat}:∀ w,(Instr.fieldAt 78 (.pointer (some ⟨b,o,none⟩)) 3).run Try.prog w=.ok (.pointer (some ⟨b,o+3,none⟩)) w:=fun w=>by
 simp[go_sem,Try.underlying78,Try.runUnderlying78,Try.sizeOf78,Try.isAgg78,Try.sizeOf3]
theorem oq52_77 {sb nw1 o:Nat}{p:Nat→Option Addr}{k ob va vb:Int}{w:World}{x:Nat→Value}(e0:x 0=(ptr sb))(e1:x 1=(.pointer none))(e5:x 5=(ptr nw1))(e7:x 7=(.int .i64 (o:Int)))(hs8:w.cell? ⟨sb,8+o,none⟩=some (.pointer (p (8+o))))(bw1:Blk w nw1 [.int .i64 k,.int .i64 ob,.int .i64 va,.int .i64 vb] 78)(ho2:o<2):OrdOk Try.prog (sO (sT (sR (sF (sR (sF (sR (sF (sR (sF (sR (sF (sR (sB (sR (sL (sR (sR q52)))))))))))))))))) (fg 112 (up (up (up (up (up (up (up (up (up x 62 (ptr sb)) 63 (.int .i64 (o:Int))) 64 (ptr sb)) 65 (ptrAt sb 8)) 66 (.pointer (some ⟨sb,8+o,none⟩))) 67 (.pointer (p (8+o)))) 68 (.pointer none)) 69 (ptrAt nw1 2)) 70 (.int .i64 va))) [] (fun j=>decide (9≤j)) w:=by
 refine⟨fun q9 o ho hs=>?_,by decide +kernel,by decide +kernel⟩
 match q9,ho,hs with
 | 0,ho,_ =>
  obtain rfl:=so' ho;exact⟨62,⟨rfl,rfl,rfl,(by decide +kernel),nofun⟩,(show 62<112 by decide),fun a h τ δ=>ex_move rfl (show a.eval (.tmp 0)=(ptr sb) from(h _ (show Operand.tmp 0∈(#[Operand.tmp 0]:Array Operand) by simp)).trans e0)⟩
 | 1,ho,_ =>
  obtain rfl:=so' ho;exact⟨63,⟨rfl,rfl,rfl,(by decide +kernel),nofun⟩,(show 63<112 by decide),fun a h τ δ=>ex_move rfl (show a.eval (.tmp 7)=(.int .i64 (o:Int)) from(h _ (show Operand.tmp 7∈(#[Operand.tmp 7]:Array Operand) by simp)).trans e7)⟩
 | 2,ho,_ =>
  obtain rfl:=so' ho;exact⟨64,⟨rfl,rfl,rfl,(by decide +kernel),nofun⟩,(show 64<112 by decide),fun a h τ δ=>ex_nilc rfl (show a.eval (.tmp 62)=(ptr sb) from(h _ (show Operand.tmp 62∈(#[Operand.tmp 62]:Array Operand) by simp)))⟩
 | 3,ho,_ =>
  obtain rfl:=so' ho;exact⟨65,⟨rfl,rfl,rfl,(by decide +kernel),nofun⟩,(show 65<112 by decide),fun a h τ δ=>ex_field (v:=(ptrAt sb 8)) rfl (show a.eval (.tmp 64)=(ptr sb) from(h _ (show Operand.tmp 64∈(#[Operand.tmp 64]:Array Operand) by simp))) fa74_4⟩
 | 4,ho,_ =>
  obtain rfl:=so' ho;exact⟨66,⟨rfl,rfl,rfl,(by decide +kernel),nofun⟩,(show 66<112 by decide),fun a h τ δ=>ex_index rfl (show a.eval (.tmp 65)=(ptrAt sb 8) from(h _ (show Operand.tmp 65∈(#[Operand.tmp 65,Operand.tmp 63]:Array Operand) by simp))) (show a.eval (.tmp 63)=(.int .i64 (o:Int)) from(h _ (show Operand.tmp 63∈(#[Operand.tmp 65,Operand.tmp 63]:Array Operand) by simp))) (ixA71 ho2)⟩
 | 5,ho,_ =>
  obtain rfl:=so' ho;exact⟨67,⟨rfl,rfl,rfl,(by decide +kernel),nofun⟩,(show 67<112 by decide),fun a h τ δ=>ex_load (v:=.pointer (p (8+o))) rfl (show a.eval (.tmp 66)=(.pointer (some ⟨sb,8+o,none⟩)) from(h _ (show Operand.tmp 66∈(#[Operand.tmp 66]:Array Operand) by simp))) (l_25 hs8)⟩
 | 6,ho,_ =>
  obtain rfl:=so' ho;exact⟨68,⟨rfl,rfl,rfl,(by decide +kernel),nofun⟩,(show 68<112 by decide),fun a h τ δ=>ex_move rfl (show a.eval (.tmp 1)=(.pointer none) from(h _ (show Operand.tmp 1∈(#[Operand.tmp 1]:Array Operand) by simp)).trans e1)⟩
 | 7,ho,_ =>
  obtain rfl:=so' ho;exact⟨69,⟨rfl,rfl,rfl,(by decide +kernel),nofun⟩,(show 69<112 by decide),fun a h τ δ=>ex_field (v:=(ptrAt nw1 2)) rfl (show a.eval (.tmp 5)=(ptr nw1) from(h _ (show Operand.tmp 5∈(#[Operand.tmp 5]:Array Operand) by simp)).trans e5) fa78_2⟩
 | 8,ho,_ =>
  obtain rfl:=so' ho;exact⟨70,⟨rfl,rfl,rfl,(by decide +kernel),nofun⟩,(show 70<112 by decide),fun a h τ δ=>ex_load (v:=(.int .i64 va)) rfl (show a.eval (.tmp 69)=(ptrAt nw1 2) from(h _ (show Operand.tmp 69∈(#[Operand.tmp 69]:Array Operand) by simp))) (l_3 (bw1.cell 2))⟩
 | 9,_,hs=>cases hs
 | n+10,ho,_ =>
  have:=lt_of_op ho;exact absurd this (by show ¬ n+10<10;omega)
theorem oq52_78 {sb nw1 o:Nat}{p:Nat→Option Addr}{k ob va vb:Int}{w:World}{x:Nat→Value}(e0:x 0=(ptr sb))(e1:x 1=(.pointer none))(e5:x 5=(ptr nw1))(e7:x 7=(.int .i64 (o:Int)))(hs8:w.cell? ⟨sb,8+o,none⟩=some (.pointer (p (8+o))))(bw1:Blk w nw1 [.int .i64 k,.int .i64 ob,.int .i64 va,.int .i64 vb] 78)(ho2:o<2):OrdOk Try.prog (sO (sL (sT (sR (sF (sR (sF (sR (sF (sR (sF (sR (sF (sR (sF (sR (sB (sR (sL (sR (sR q52))))))))))))))))))))) (fg 112 (up (up (up (up (up (up (up (up (up x 74 (ptr sb)) 75 (.int .i64 (o:Int))) 76 (ptr sb)) 77 (ptrAt sb 8)) 78 (.pointer (some ⟨sb,8+o,none⟩))) 79 (.pointer (p (8+o)))) 80 (.pointer none)) 81 (ptrAt nw1 2)) 82 (.int .i64 va))) [] (fun j=>decide (9≤j)) w:=by
 refine⟨fun q9 o ho hs=>?_,by decide +kernel,by decide +kernel⟩
 match q9,ho,hs with
 | 0,ho,_ =>
  obtain rfl:=so' ho;exact⟨74,⟨rfl,rfl,rfl,(by decide +kernel),nofun⟩,(show 74<112 by decide),fun a h τ δ=>ex_move rfl (show a.eval (.tmp 0)=(ptr sb) from(h _ (show Operand.tmp 0∈(#[Operand.tmp 0]:Array Operand) by simp)).trans e0)⟩
 | 1,ho,_ =>
  obtain rfl:=so' ho;exact⟨75,⟨rfl,rfl,rfl,(by decide +kernel),nofun⟩,(show 75<112 by decide),fun a h τ δ=>ex_move rfl (show a.eval (.tmp 7)=(.int .i64 (o:Int)) from(h _ (show Operand.tmp 7∈(#[Operand.tmp 7]:Array Operand) by simp)).trans e7)⟩
 | 2,ho,_ =>
  obtain rfl:=so' ho;exact⟨76,⟨rfl,rfl,rfl,(by decide +kernel),nofun⟩,(show 76<112 by decide),fun a h τ δ=>ex_nilc rfl (show a.eval (.tmp 74)=(ptr sb) from(h _ (show Operand.tmp 74∈(#[Operand.tmp 74]:Array Operand) by simp)))⟩
 | 3,ho,_ =>
  obtain rfl:=so' ho;exact⟨77,⟨rfl,rfl,rfl,(by decide +kernel),nofun⟩,(show 77<112 by decide),fun a h τ δ=>ex_field (v:=(ptrAt sb 8)) rfl (show a.eval (.tmp 76)=(ptr sb) from(h _ (show Operand.tmp 76∈(#[Operand.tmp 76]:Array Operand) by simp))) fa74_4⟩
 | 4,ho,_ =>
  obtain rfl:=so' ho;exact⟨78,⟨rfl,rfl,rfl,(by decide +kernel),nofun⟩,(show 78<112 by decide),fun a h τ δ=>ex_index rfl (show a.eval (.tmp 77)=(ptrAt sb 8) from(h _ (show Operand.tmp 77∈(#[Operand.tmp 77,Operand.tmp 75]:Array Operand) by simp))) (show a.eval (.tmp 75)=(.int .i64 (o:Int)) from(h _ (show Operand.tmp 75∈(#[Operand.tmp 77,Operand.tmp 75]:Array Operand) by simp))) (ixA71 ho2)⟩
 | 5,ho,_ =>
  obtain rfl:=so' ho;exact⟨79,⟨rfl,rfl,rfl,(by decide +kernel),nofun⟩,(show 79<112 by decide),fun a h τ δ=>ex_load (v:=.pointer (p (8+o))) rfl (show a.eval (.tmp 78)=(.pointer (some ⟨sb,8+o,none⟩)) from(h _ (show Operand.tmp 78∈(#[Operand.tmp 78]:Array Operand) by simp))) (l_25 hs8)⟩
 | 6,ho,_ =>
  obtain rfl:=so' ho;exact⟨80,⟨rfl,rfl,rfl,(by decide +kernel),nofun⟩,(show 80<112 by decide),fun a h τ δ=>ex_move rfl (show a.eval (.tmp 1)=(.pointer none) from(h _ (show Operand.tmp 1∈(#[Operand.tmp 1]:Array Operand) by simp)).trans e1)⟩
 | 7,ho,_ =>
  obtain rfl:=so' ho;exact⟨81,⟨rfl,rfl,rfl,(by decide +kernel),nofun⟩,(show 81<112 by decide),fun a h τ δ=>ex_field (v:=(ptrAt nw1 2)) rfl (show a.eval (.tmp 5)=(ptr nw1) from(h _ (show Operand.tmp 5∈(#[Operand.tmp 5]:Array Operand) by simp)).trans e5) fa78_2⟩
 | 8,ho,_ =>
  obtain rfl:=so' ho;exact⟨82,⟨rfl,rfl,rfl,(by decide +kernel),nofun⟩,(show 82<112 by decide),fun a h τ δ=>ex_load (v:=(.int .i64 va)) rfl (show a.eval (.tmp 81)=(ptrAt nw1 2) from(h _ (show Operand.tmp 81∈(#[Operand.tmp 81]:Array Operand) by simp))) (l_3 (bw1.cell 2))⟩
 | 9,_,hs=>cases hs
 | 10,_,hs=>cases hs
 | n+11,ho,_ =>
  have:=lt_of_op ho;exact absurd this (by show ¬ n+11<11;omega)
theorem oq52_11 {sb nw1 o:Nat}{p:Nat→Option Addr}{k ob va vb:Int}{w:World}{x:Nat→Value}(e0:x 0=(ptr sb))(e1:x 1=(.pointer none))(e5:x 5=(ptr nw1))(e7:x 7=(.int .i64 (o:Int)))(hs8:w.cell? ⟨sb,8+o,none⟩=some (.pointer (p (8+o))))(bw1:Blk w nw1 [.int .i64 k,.int .i64 ob,.int .i64 va,.int .i64 vb] 78)(ho2:o<2):OrdOk Try.prog (sO (sL (sT (sR (sF (sR (sF (sR (sF (sR (sF (sR (sF (sR (sF (sR (sF (sR (sB (sR (sL (sR (sR q52))))))))))))))))))))))) (fg 112 (up (up (up (up (up (up (up (up (up (up (up x 86 (ptr sb)) 87 (.int .i64 (o:Int))) 88 (ptr sb)) 89 (ptrAt sb 8)) 90 (.pointer (some ⟨sb,8+o,none⟩))) 91 (.pointer (p (8+o)))) 92 (.pointer none)) 93 (ptrAt nw1 2)) 94 (.int .i64 va)) 95 (ptrAt nw1 3)) 96 (.int .i64 vb))) [] (fun j=>decide (11≤j)) w:=by
 refine⟨fun q9 o ho hs=>?_,by decide +kernel,by decide +kernel⟩
 match q9,ho,hs with
 | 0,ho,_ =>
  obtain rfl:=so' ho;exact⟨86,⟨rfl,rfl,rfl,(by decide +kernel),nofun⟩,(show 86<112 by decide),fun a h τ δ=>ex_move rfl (show a.eval (.tmp 0)=(ptr sb) from(h _ (show Operand.tmp 0∈(#[Operand.tmp 0]:Array Operand) by simp)).trans e0)⟩
 | 1,ho,_ =>
  obtain rfl:=so' ho;exact⟨87,⟨rfl,rfl,rfl,(by decide +kernel),nofun⟩,(show 87<112 by decide),fun a h τ δ=>ex_move rfl (show a.eval (.tmp 7)=(.int .i64 (o:Int)) from(h _ (show Operand.tmp 7∈(#[Operand.tmp 7]:Array Operand) by simp)).trans e7)⟩
 | 2,ho,_ =>
  obtain rfl:=so' ho;exact⟨88,⟨rfl,rfl,rfl,(by decide +kernel),nofun⟩,(show 88<112 by decide),fun a h τ δ=>ex_nilc rfl (show a.eval (.tmp 86)=(ptr sb) from(h _ (show Operand.tmp 86∈(#[Operand.tmp 86]:Array Operand) by simp)))⟩
 | 3,ho,_ =>
  obtain rfl:=so' ho;exact⟨89,⟨rfl,rfl,rfl,(by decide +kernel),nofun⟩,(show 89<112 by decide),fun a h τ δ=>ex_field (v:=(ptrAt sb 8)) rfl (show a.eval (.tmp 88)=(ptr sb) from(h _ (show Operand.tmp 88∈(#[Operand.tmp 88]:Array Operand) by simp))) fa74_4⟩
 | 4,ho,_ =>
  obtain rfl:=so' ho;exact⟨90,⟨rfl,rfl,rfl,(by decide +kernel),nofun⟩,(show 90<112 by decide),fun a h τ δ=>ex_index rfl (show a.eval (.tmp 89)=(ptrAt sb 8) from(h _ (show Operand.tmp 89∈(#[Operand.tmp 89,Operand.tmp 87]:Array Operand) by simp))) (show a.eval (.tmp 87)=(.int .i64 (o:Int)) from(h _ (show Operand.tmp 87∈(#[Operand.tmp 89,Operand.tmp 87]:Array Operand) by simp))) (ixA71 ho2)⟩
 | 5,ho,_ =>
  obtain rfl:=so' ho;exact⟨91,⟨rfl,rfl,rfl,(by decide +kernel),nofun⟩,(show 91<112 by decide),fun a h τ δ=>ex_load (v:=.pointer (p (8+o))) rfl (show a.eval (.tmp 90)=(.pointer (some ⟨sb,8+o,none⟩)) from(h _ (show Operand.tmp 90∈(#[Operand.tmp 90]:Array Operand) by simp))) (l_25 hs8)⟩
 | 6,ho,_ =>
  obtain rfl:=so' ho;exact⟨92,⟨rfl,rfl,rfl,(by decide +kernel),nofun⟩,(show 92<112 by decide),fun a h τ δ=>ex_move rfl (show a.eval (.tmp 1)=(.pointer none) from(h _ (show Operand.tmp 1∈(#[Operand.tmp 1]:Array Operand) by simp)).trans e1)⟩
 | 7,ho,_ =>
  obtain rfl:=so' ho;exact⟨93,⟨rfl,rfl,rfl,(by decide +kernel),nofun⟩,(show 93<112 by decide),fun a h τ δ=>ex_field (v:=(ptrAt nw1 2)) rfl (show a.eval (.tmp 5)=(ptr nw1) from(h _ (show Operand.tmp 5∈(#[Operand.tmp 5]:Array Operand) by simp)).trans e5) fa78_2⟩
 | 8,ho,_ =>
  obtain rfl:=so' ho;exact⟨94,⟨rfl,rfl,rfl,(by decide +kernel),nofun⟩,(show 94<112 by decide),fun a h τ δ=>ex_load (v:=(.int .i64 va)) rfl (show a.eval (.tmp 93)=(ptrAt nw1 2) from(h _ (show Operand.tmp 93∈(#[Operand.tmp 93]:Array Operand) by simp))) (l_3 (bw1.cell 2))⟩
 | 9,ho,_ =>
  obtain rfl:=so' ho;exact⟨95,⟨rfl,rfl,rfl,(by decide +kernel),nofun⟩,(show 95<112 by decide),fun a h τ δ=>ex_field (v:=(ptrAt nw1 3)) rfl (show a.eval (.tmp 5)=(ptr nw1) from(h _ (show Operand.tmp 5∈(#[Operand.tmp 5]:Array Operand) by simp)).trans e5) fa78_3⟩
 | 10,ho,_ =>
  obtain rfl:=so' ho;exact⟨96,⟨rfl,rfl,rfl,(by decide +kernel),nofun⟩,(show 96<112 by decide),fun a h τ δ=>ex_load (v:=(.int .i64 vb)) rfl (show a.eval (.tmp 95)=(ptrAt nw1 3) from(h _ (show Operand.tmp 95∈(#[Operand.tmp 95]:Array Operand) by simp))) (l_3 (bw1.cell 3))⟩
 | 11,_,hs=>cases hs
 | 12,_,hs=>cases hs
 | 13,_,hs=>cases hs
 | n+14,ho,_ =>
  have:=lt_of_op ho;exact absurd this (by show ¬ n+14<14;omega)
section
variable {m:Bool}{K:Goroutine→World→Prop}{cl:Frame}{cs:List Frame}{w w1:World}{sb nw1 o:Nat}{p:Nat→Option Addr}{k ob va vb:Int}{R:Value→World→Prop}{x:Nat→Value}
theorem d24_1 (T:DW 8 m K cl cs w1 sb nw1 o p k ob va vb x R)  (H:CCn 28 #[.pointer (p (0+o)),.pointer none] w1 (I1 R))  : K (gs ((base 24).at ⟨fg 153 x,[]⟩ [.code (sT (sR (sB (sR (sL (sR (sR q24))))))),.inBlock 0,.code (sR (sR (sR q24)))]) (cl::cs)) w1:=by
 obtain⟨hK,hcm,hs1,bw1,ho2,h0,h1,h5,h8,h⟩:=T;have hk:(base 24).kind≠.early:=nofun;have hD:=hK.det;refine hD.sr (hD.mxn (ptr sb) rfl h0 ?_);refine hD.mxn (.int .i64 (o:Int)) rfl h8 ?_;refine hD.ncn ⟨sb,0,none⟩ ?_;refine hD.fdn (ptr sb) fa74_0 ?_;refine hD.ixn (.pointer (some ⟨sb,0+o,none⟩)) (ixA66 ho2) ?_;refine hD.ldn (.pointer (p (0+o))) (fun τ d=>l_48 (hs1 (0+o) (by omega))) ?_;refine hD.mxn (.pointer none) rfl h1 ?_;refine hD.cf #[(.pointer (p (0+o))),(.pointer none)] hk Try.func28 ?_;refine H hK rfl fun v w2 ⟨x,hv,hR⟩=>?_;subst hv;refine finn 25 ?_;refine hD.asn (.int .i64 x) ?_;refine hD.asn (.int .i64 0) ?_;refine hD.e0 (hD.ret (n:=0) ?_);exact hD.leave (n:=0) (b:=base 24) (v:=.tuple #[.int .i64 x,.int .i64 0]) rfl rfl Try.func24 (fun τ d=>res2v rfl rfl rfl) hcm (h _ _ hR)
theorem d24_2 (T:DW 8 m K cl cs w1 sb nw1 o p k ob va vb x R)  (H:CCn 44 #[.pointer (p (0+o)),.pointer none] w1 (I2 R))  : K (gs ((base 24).at ⟨fg 153 x,[]⟩ [.code (sT (sR (sF (sR (sB (sR (sL (sR (sR q24))))))))),.inBlock 0,.code (sR (sR (sR q24)))]) (cl::cs)) w1:=by
 obtain⟨hK,hcm,hs1,bw1,ho2,h0,h1,h5,h8,h⟩:=T;have hk:(base 24).kind≠.early:=nofun;have hD:=hK.det;refine hD.sr (hD.mxn (ptr sb) rfl h0 ?_);refine hD.mxn (.int .i64 (o:Int)) rfl h8 ?_;refine hD.ncn ⟨sb,0,none⟩ ?_;refine hD.fdn (ptr sb) fa74_0 ?_;refine hD.ixn (.pointer (some ⟨sb,0+o,none⟩)) (ixA66 ho2) ?_;refine hD.ldn (.pointer (p (0+o))) (fun τ d=>l_48 (hs1 (0+o) (by omega))) ?_;refine hD.mxn (.pointer none) rfl h1 ?_;refine hD.cf #[(.pointer (p (0+o))),(.pointer none)] hk Try.func44 ?_;refine H hK rfl fun v w2 ⟨t,x,hv,hR⟩=>?_;subst hv;refine finn 36 ?_;refine hD.mvn (.tuple #[.bool t,.int .i64 x]) ?_;refine hD.pun (.bool t) (fun w=>pu_ext rfl rfl rfl) ?_;refine hD.pun (.int .i64 x) (fun w=>pu_ext rfl rfl rfl) ?_;refine hD.asn (.bool t) ?_;refine hD.asn (.int .i64 x) ?_;refine hD.z0 (hD.mvn (.int .i64 x) ?_);refine hD.mvn (.bool t) ?_;refine hD.cf #[.bool t] hk Try.func45 ?_;refine hK.callp fits shut3 (f:=45) rfl (v:=.int .i64 (if t then 1 else 0)) (fun τ d=>truth45 _ t) ?_;refine finn 41 ?_;refine hD.asn (.int .i64 x) ?_;refine hD.asn (.int .i64 (if t then 1 else 0)) ?_;refine hD.e0 (hD.ret (n:=0) ?_);exact hD.leave (n:=0) (b:=base 24) (v:=.tuple #[.int .i64 x,.int .i64 (if t then 1 else 0)]) rfl rfl Try.func24 (fun τ d=>res2v rfl rfl rfl) hcm (h _ _ hR)
theorem d24_3 (T:DW 8 m K cl cs w1 sb nw1 o p k ob va vb x R)  (H:CCn 30 #[.pointer (p (0+o)),.pointer none] w1 (I1 R))  : K (gs ((base 24).at ⟨fg 153 x,[]⟩ [.code (sT (sR (sF (sR (sF (sR (sB (sR (sL (sR (sR q24))))))))))),.inBlock 0,.code (sR (sR (sR q24)))]) (cl::cs)) w1:=by
 obtain⟨hK,hcm,hs1,bw1,ho2,h0,h1,h5,h8,h⟩:=T;have hk:(base 24).kind≠.early:=nofun;have hD:=hK.det;refine hD.sr (hD.mxn (ptr sb) rfl h0 ?_);refine hD.mxn (.int .i64 (o:Int)) rfl h8 ?_;refine hD.ncn ⟨sb,0,none⟩ ?_;refine hD.fdn (ptr sb) fa74_0 ?_;refine hD.ixn (.pointer (some ⟨sb,0+o,none⟩)) (ixA66 ho2) ?_;refine hD.ldn (.pointer (p (0+o))) (fun τ d=>l_48 (hs1 (0+o) (by omega))) ?_;refine hD.mxn (.pointer none) rfl h1 ?_;refine hD.cf #[(.pointer (p (0+o))),(.pointer none)] hk Try.func30 ?_;refine H hK rfl fun v w2 ⟨x,hv,hR⟩=>?_;subst hv;refine finn 51 ?_;refine hD.asn (.int .i64 x) ?_;refine hD.asn (.int .i64 0) ?_;refine hD.e0 (hD.ret (n:=0) ?_);exact hD.leave (n:=0) (b:=base 24) (v:=.tuple #[.int .i64 x,.int .i64 0]) rfl rfl Try.func24 (fun τ d=>res2v rfl rfl rfl) hcm (h _ _ hR)
theorem d24_4 (T:DW 8 m K cl cs w1 sb nw1 o p k ob va vb x R)  (H:CCn 31 #[.pointer (p (0+o))] w1 (I1 R))  : K (gs ((base 24).at ⟨fg 153 x,[]⟩ [.code (sT (sR (sF (sR (sF (sR (sF (sR (sB (sR (sL (sR (sR q24))))))))))))),.inBlock 0,.code (sR (sR (sR q24)))]) (cl::cs)) w1:=by
 obtain⟨hK,hcm,hs1,bw1,ho2,h0,h1,h5,h8,h⟩:=T;have hk:(base 24).kind≠.early:=nofun;have hD:=hK.det;refine hD.sr (hD.mxn (ptr sb) rfl h0 ?_);refine hD.mxn (.int .i64 (o:Int)) rfl h8 ?_;refine hD.ncn ⟨sb,0,none⟩ ?_;refine hD.fdn (ptr sb) fa74_0 ?_;refine hD.ixn (.pointer (some ⟨sb,0+o,none⟩)) (ixA66 ho2) ?_;refine hD.ldn (.pointer (p (0+o))) (fun τ d=>l_48 (hs1 (0+o) (by omega))) ?_;refine hD.cf #[(.pointer (p (0+o)))] hk Try.func31 ?_;refine H hK rfl fun v w2 ⟨x,hv,hR⟩=>?_;subst hv;refine finn 60 ?_;refine hD.asn (.int .i64 x) ?_;refine hD.asn (.int .i64 0) ?_;refine hD.e0 (hD.ret (n:=0) ?_);exact hD.leave (n:=0) (b:=base 24) (v:=.tuple #[.int .i64 x,.int .i64 0]) rfl rfl Try.func24 (fun τ d=>res2v rfl rfl rfl) hcm (h _ _ hR)
theorem d24_5 (T:DW 8 m K cl cs w1 sb nw1 o p k ob va vb x R)  (H:CCn 15 #[.pointer (p (2+o)),.pointer none] w1 (I1 R))  : K (gs ((base 24).at ⟨fg 153 x,[]⟩ [.code (sT (sR (sF (sR (sF (sR (sF (sR (sF (sR (sB (sR (sL (sR (sR q24))))))))))))))),.inBlock 0,.code (sR (sR (sR q24)))]) (cl::cs)) w1:=by
 obtain⟨hK,hcm,hs1,bw1,ho2,h0,h1,h5,h8,h⟩:=T;have hk:(base 24).kind≠.early:=nofun;have hD:=hK.det;refine hD.sr (hD.mxn (ptr sb) rfl h0 ?_);refine hD.mxn (.int .i64 (o:Int)) rfl h8 ?_;refine hD.ncn ⟨sb,0,none⟩ ?_;refine hD.fdn (ptrAt sb 2) fa74_1 ?_;refine hD.ixn (.pointer (some ⟨sb,2+o,none⟩)) (ixA67 ho2) ?_;refine hD.ldn (.pointer (p (2+o))) (fun τ d=>l_39 (hs1 (2+o) (by omega))) ?_;refine hD.mxn (.pointer none) rfl h1 ?_;refine hD.cf #[(.pointer (p (2+o))),(.pointer none)] hk Try.func15 ?_;refine H hK rfl fun v w2 ⟨x,hv,hR⟩=>?_;subst hv;refine finn 70 ?_;refine hD.asn (.int .i64 x) ?_;refine hD.asn (.int .i64 0) ?_;refine hD.e0 (hD.ret (n:=0) ?_);exact hD.leave (n:=0) (b:=base 24) (v:=.tuple #[.int .i64 x,.int .i64 0]) rfl rfl Try.func24 (fun τ d=>res2v rfl rfl rfl) hcm (h _ _ hR)
theorem d24_6 (T:DW 8 m K cl cs w1 sb nw1 o p k ob va vb x R)  (H:CCn 16 #[.pointer (p (2+o)),.pointer none] w1 (I1 R))  : K (gs ((base 24).at ⟨fg 153 x,[]⟩ [.code (sT (sR (sF (sR (sF (sR (sF (sR (sF (sR (sF (sR (sB (sR (sL (sR (sR q24))))))))))))))))),.inBlock 0,.code (sR (sR (sR q24)))]) (cl::cs)) w1:=by
 obtain⟨hK,hcm,hs1,bw1,ho2,h0,h1,h5,h8,h⟩:=T;have hk:(base 24).kind≠.early:=nofun;have hD:=hK.det;refine hD.sr (hD.mxn (ptr sb) rfl h0 ?_);refine hD.mxn (.int .i64 (o:Int)) rfl h8 ?_;refine hD.ncn ⟨sb,0,none⟩ ?_;refine hD.fdn (ptrAt sb 2) fa74_1 ?_;refine hD.ixn (.pointer (some ⟨sb,2+o,none⟩)) (ixA67 ho2) ?_;refine hD.ldn (.pointer (p (2+o))) (fun τ d=>l_39 (hs1 (2+o) (by omega))) ?_;refine hD.mxn (.pointer none) rfl h1 ?_;refine hD.cf #[(.pointer (p (2+o))),(.pointer none)] hk Try.func16 ?_;refine H hK rfl fun v w2 ⟨x,hv,hR⟩=>?_;subst hv;refine finn 80 ?_;refine hD.asn (.int .i64 x) ?_;refine hD.asn (.int .i64 0) ?_;refine hD.e0 (hD.ret (n:=0) ?_);exact hD.leave (n:=0) (b:=base 24) (v:=.tuple #[.int .i64 x,.int .i64 0]) rfl rfl Try.func24 (fun τ d=>res2v rfl rfl rfl) hcm (h _ _ hR)
theorem d24_7 (T:DW 8 m K cl cs w1 sb nw1 o p k ob va vb x R)  (H:CCn 17 #[.pointer (p (2+o))] w1 (I1 R))  : K (gs ((base 24).at ⟨fg 153 x,[]⟩ [.code (sT (sR (sF (sR (sF (sR (sF (sR (sF (sR (sF (sR (sF (sR (sB (sR (sL (sR (sR q24))))))))))))))))))),.inBlock 0,.code (sR (sR (sR q24)))]) (cl::cs)) w1:=by
 obtain⟨hK,hcm,hs1,bw1,ho2,h0,h1,h5,h8,h⟩:=T;have hk:(base 24).kind≠.early:=nofun;have hD:=hK.det;refine hD.sr (hD.mxn (ptr sb) rfl h0 ?_);refine hD.mxn (.int .i64 (o:Int)) rfl h8 ?_;refine hD.ncn ⟨sb,0,none⟩ ?_;refine hD.fdn (ptrAt sb 2) fa74_1 ?_;refine hD.ixn (.pointer (some ⟨sb,2+o,none⟩)) (ixA67 ho2) ?_;refine hD.ldn (.pointer (p (2+o))) (fun τ d=>l_39 (hs1 (2+o) (by omega))) ?_;refine hD.cf #[(.pointer (p (2+o)))] hk Try.func17 ?_;refine H hK rfl fun v w2 ⟨x,hv,hR⟩=>?_;subst hv;refine finn 89 ?_;refine hD.asn (.int .i64 x) ?_;refine hD.asn (.int .i64 0) ?_;refine hD.e0 (hD.ret (n:=0) ?_);exact hD.leave (n:=0) (b:=base 24) (v:=.tuple #[.int .i64 x,.int .i64 0]) rfl rfl Try.func24 (fun τ d=>res2v rfl rfl rfl) hcm (h _ _ hR)
theorem d24_8 (T:DW 8 m K cl cs w1 sb nw1 o p k ob va vb x R)  (H:CCn 46 #[.pointer (p (4+o)),.pointer none] w1 (I1 R))  : K (gs ((base 24).at ⟨fg 153 x,[]⟩ [.code (sT (sR (sF (sR (sF (sR (sF (sR (sF (sR (sF (sR (sF (sR (sF (sR (sB (sR (sL (sR (sR q24))))))))))))))))))))),.inBlock 0,.code (sR (sR (sR q24)))]) (cl::cs)) w1:=by
 obtain⟨hK,hcm,hs1,bw1,ho2,h0,h1,h5,h8,h⟩:=T;have hk:(base 24).kind≠.early:=nofun;have hD:=hK.det;refine hD.sr (hD.mxn (ptr sb) rfl h0 ?_);refine hD.mxn (.int .i64 (o:Int)) rfl h8 ?_;refine hD.ncn ⟨sb,0,none⟩ ?_;refine hD.fdn (ptrAt sb 4) fa74_2 ?_;refine hD.ixn (.pointer (some ⟨sb,4+o,none⟩)) (ixA68 ho2) ?_;refine hD.ldn (.pointer (p (4+o))) (fun τ d=>l_50 (hs1 (4+o) (by omega))) ?_;refine hD.mxn (.pointer none) rfl h1 ?_;refine hD.cf #[(.pointer (p (4+o))),(.pointer none)] hk Try.func46 ?_;refine H hK rfl fun v w2 ⟨x,hv,hR⟩=>?_;subst hv;refine finn 99 ?_;refine hD.asn (.int .i64 x) ?_;refine hD.asn (.int .i64 0) ?_;refine hD.e0 (hD.ret (n:=0) ?_);exact hD.leave (n:=0) (b:=base 24) (v:=.tuple #[.int .i64 x,.int .i64 0]) rfl rfl Try.func24 (fun τ d=>res2v rfl rfl rfl) hcm (h _ _ hR)
theorem d24_9 (T:DW 8 m K cl cs w1 sb nw1 o p k ob va vb x R)  (H:CCn 47 #[.pointer (p (4+o)),.pointer none] w1 (I1 R))  : K (gs ((base 24).at ⟨fg 153 x,[]⟩ [.code (sT (sR (sF (sR (sF (sR (sF (sR (sF (sR (sF (sR (sF (sR (sF (sR (sF (sR (sB (sR (sL (sR (sR q24))))))))))))))))))))))),.inBlock 0,.code (sR (sR (sR q24)))]) (cl::cs)) w1:=by
 obtain⟨hK,hcm,hs1,bw1,ho2,h0,h1,h5,h8,h⟩:=T;have hk:(base 24).kind≠.early:=nofun;have hD:=hK.det;refine hD.sr (hD.mxn (ptr sb) rfl h0 ?_);refine hD.mxn (.int .i64 (o:Int)) rfl h8 ?_;refine hD.ncn ⟨sb,0,none⟩ ?_;refine hD.fdn (ptrAt sb 4) fa74_2 ?_;refine hD.ixn (.pointer (some ⟨sb,4+o,none⟩)) (ixA68 ho2) ?_;refine hD.ldn (.pointer (p (4+o))) (fun τ d=>l_50 (hs1 (4+o) (by omega))) ?_;refine hD.mxn (.pointer none) rfl h1 ?_;refine hD.cf #[(.pointer (p (4+o))),(.pointer none)] hk Try.func47 ?_;refine H hK rfl fun v w2 ⟨x,hv,hR⟩=>?_;subst hv;refine finn 109 ?_;refine hD.asn (.int .i64 x) ?_;refine hD.asn (.int .i64 0) ?_;refine hD.e0 (hD.ret (n:=0) ?_);exact hD.leave (n:=0) (b:=base 24) (v:=.tuple #[.int .i64 x,.int .i64 0]) rfl rfl Try.func24 (fun τ d=>res2v rfl rfl rfl) hcm (h _ _ hR)
theorem d24_10 (T:DW 8 m K cl cs w1 sb nw1 o p k ob va vb x R)  (H:CCn 48 #[.pointer (p (4+o)),.pointer none] w1 (I1 R))  : K (gs ((base 24).at ⟨fg 153 x,[]⟩ [.code (sT (sR (sF (sR (sF (sR (sF (sR (sF (sR (sF (sR (sF (sR (sF (sR (sF (sR (sF (sR (sB (sR (sL (sR (sR q24))))))))))))))))))))))))),.inBlock 0,.code (sR (sR (sR q24)))]) (cl::cs)) w1:=by
 obtain⟨hK,hcm,hs1,bw1,ho2,h0,h1,h5,h8,h⟩:=T;have hk:(base 24).kind≠.early:=nofun;have hD:=hK.det;refine hD.sr (hD.mxn (ptr sb) rfl h0 ?_);refine hD.mxn (.int .i64 (o:Int)) rfl h8 ?_;refine hD.ncn ⟨sb,0,none⟩ ?_;refine hD.fdn (ptrAt sb 4) fa74_2 ?_;refine hD.ixn (.pointer (some ⟨sb,4+o,none⟩)) (ixA68 ho2) ?_;refine hD.ldn (.pointer (p (4+o))) (fun τ d=>l_50 (hs1 (4+o) (by omega))) ?_;refine hD.mxn (.pointer none) rfl h1 ?_;refine hD.cf #[(.pointer (p (4+o))),(.pointer none)] hk Try.func48 ?_;refine H hK rfl fun v w2 ⟨x,hv,hR⟩=>?_;subst hv;refine finn 119 ?_;refine hD.asn (.int .i64 x) ?_;refine hD.asn (.int .i64 0) ?_;refine hD.e0 (hD.ret (n:=0) ?_);exact hD.leave (n:=0) (b:=base 24) (v:=.tuple #[.int .i64 x,.int .i64 0]) rfl rfl Try.func24 (fun τ d=>res2v rfl rfl rfl) hcm (h _ _ hR)
theorem d24_11 (T:DW 8 m K cl cs w1 sb nw1 o p k ob va vb x R)  (H:CCn 49 #[.pointer (p (4+o)),.pointer none] w1 (I1 R))  : K (gs ((base 24).at ⟨fg 153 x,[]⟩ [.code (sT (sR (sF (sR (sF (sR (sF (sR (sF (sR (sF (sR (sF (sR (sF (sR (sF (sR (sF (sR (sF (sR (sB (sR (sL (sR (sR q24))))))))))))))))))))))))))),.inBlock 0,.code (sR (sR (sR q24)))]) (cl::cs)) w1:=by
 obtain⟨hK,hcm,hs1,bw1,ho2,h0,h1,h5,h8,h⟩:=T;have hk:(base 24).kind≠.early:=nofun;have hD:=hK.det;refine hD.sr (hD.mxn (ptr sb) rfl h0 ?_);refine hD.mxn (.int .i64 (o:Int)) rfl h8 ?_;refine hD.ncn ⟨sb,0,none⟩ ?_;refine hD.fdn (ptrAt sb 4) fa74_2 ?_;refine hD.ixn (.pointer (some ⟨sb,4+o,none⟩)) (ixA68 ho2) ?_;refine hD.ldn (.pointer (p (4+o))) (fun τ d=>l_50 (hs1 (4+o) (by omega))) ?_;refine hD.mxn (.pointer none) rfl h1 ?_;refine hD.cf #[(.pointer (p (4+o))),(.pointer none)] hk Try.func49 ?_;refine H hK rfl fun v w2 ⟨x,hv,hR⟩=>?_;subst hv;refine finn 129 ?_;refine hD.asn (.int .i64 x) ?_;refine hD.asn (.int .i64 0) ?_;refine hD.e0 (hD.ret (n:=0) ?_);exact hD.leave (n:=0) (b:=base 24) (v:=.tuple #[.int .i64 x,.int .i64 0]) rfl rfl Try.func24 (fun τ d=>res2v rfl rfl rfl) hcm (h _ _ hR)
theorem d24_12 (T:DW 8 m K cl cs w1 sb nw1 o p k ob va vb x R)  (H:CCn 50 #[.pointer (p (4+o))] w1 (I1 R))  : K (gs ((base 24).at ⟨fg 153 x,[]⟩ [.code (sT (sR (sF (sR (sF (sR (sF (sR (sF (sR (sF (sR (sF (sR (sF (sR (sF (sR (sF (sR (sF (sR (sF (sR (sB (sR (sL (sR (sR q24))))))))))))))))))))))))))))),.inBlock 0,.code (sR (sR (sR q24)))]) (cl::cs)) w1:=by
 obtain⟨hK,hcm,hs1,bw1,ho2,h0,h1,h5,h8,h⟩:=T;have hk:(base 24).kind≠.early:=nofun;have hD:=hK.det;refine hD.sr (hD.mxn (ptr sb) rfl h0 ?_);refine hD.mxn (.int .i64 (o:Int)) rfl h8 ?_;refine hD.ncn ⟨sb,0,none⟩ ?_;refine hD.fdn (ptrAt sb 4) fa74_2 ?_;refine hD.ixn (.pointer (some ⟨sb,4+o,none⟩)) (ixA68 ho2) ?_;refine hD.ldn (.pointer (p (4+o))) (fun τ d=>l_50 (hs1 (4+o) (by omega))) ?_;refine hD.cf #[(.pointer (p (4+o)))] hk Try.func50 ?_;refine H hK rfl fun v w2 ⟨x,hv,hR⟩=>?_;subst hv;refine finn 138 ?_;refine hD.asn (.int .i64 x) ?_;refine hD.asn (.int .i64 0) ?_;refine hD.e0 (hD.ret (n:=0) ?_);exact hD.leave (n:=0) (b:=base 24) (v:=.tuple #[.int .i64 x,.int .i64 0]) rfl rfl Try.func24 (fun τ d=>res2v rfl rfl rfl) hcm (h _ _ hR)
theorem d24_13 (T:DW 8 m K cl cs w1 sb nw1 o p k ob va vb x R)  (H:CCn 51 #[.pointer (p (4+o))] w1 (IB R))  : K (gs ((base 24).at ⟨fg 153 x,[]⟩ [.code (sT (sR (sF (sR (sF (sR (sF (sR (sF (sR (sF (sR (sF (sR (sF (sR (sF (sR (sF (sR (sF (sR (sF (sR (sF (sR (sB (sR (sL (sR (sR q24))))))))))))))))))))))))))))))),.inBlock 0,.code (sR (sR (sR q24)))]) (cl::cs)) w1:=by
 obtain⟨hK,hcm,hs1,bw1,ho2,h0,h1,h5,h8,h⟩:=T;have hk:(base 24).kind≠.early:=nofun;have hD:=hK.det;refine hD.sr (hD.mxn (ptr sb) rfl h0 ?_);refine hD.mxn (.int .i64 (o:Int)) rfl h8 ?_;refine hD.ncn ⟨sb,0,none⟩ ?_;refine hD.fdn (ptrAt sb 4) fa74_2 ?_;refine hD.ixn (.pointer (some ⟨sb,4+o,none⟩)) (ixA68 ho2) ?_;refine hD.ldn (.pointer (p (4+o))) (fun τ d=>l_50 (hs1 (4+o) (by omega))) ?_;refine hD.cf #[(.pointer (p (4+o)))] hk Try.func51 ?_;refine H hK rfl fun v w2 ⟨t,hv,hR⟩=>?_;subst hv;refine finn 147 ?_;refine hD.cf #[.bool t] hk Try.func45 ?_;refine hK.callp fits shut3 (f:=45) rfl (v:=.int .i64 (if t then 1 else 0)) (fun τ d=>truth45 _ t) ?_;refine finn 148 ?_;refine hD.asn (.int .i64 (if t then 1 else 0)) ?_;refine hD.asn (.int .i64 0) ?_;refine hD.e0 (hD.ret (n:=0) ?_);exact hD.leave (n:=0) (b:=base 24) (v:=.tuple #[.int .i64 (if t then 1 else 0),.int .i64 0]) rfl rfl Try.func24 (fun τ d=>res2v rfl rfl rfl) hcm (h _ _ hR)
theorem does_cc (hs:∀ j,j<10→w.cell? ⟨sb,j,none⟩=some (.pointer (p j)))(H1:k=1→∀ w1,Kp [] w w1→CCn 28 #[.pointer (p (0+bitO ob)),.pointer none] w1 (I1 R))(H2:k=2→∀ w1,Kp [] w w1→CCn 44 #[.pointer (p (0+bitO ob)),.pointer none] w1 (I2 R))(H3:k=3→∀ w1,Kp [] w w1→CCn 30 #[.pointer (p (0+bitO ob)),.pointer none] w1 (I1 R))(H4:k=4→∀ w1,Kp [] w w1→CCn 31 #[.pointer (p (0+bitO ob))] w1 (I1 R))(H5:k=5→∀ w1,Kp [] w w1→CCn 15 #[.pointer (p (2+bitO ob)),.pointer none] w1 (I1 R))(H6:k=6→∀ w1,Kp [] w w1→CCn 16 #[.pointer (p (2+bitO ob)),.pointer none] w1 (I1 R))(H7:k=7→∀ w1,Kp [] w w1→CCn 17 #[.pointer (p (2+bitO ob))] w1 (I1 R))(H8:k=8→∀ w1,Kp [] w w1→CCn 46 #[.pointer (p (4+bitO ob)),.pointer none] w1 (I1 R))(H9:k=9→∀ w1,Kp [] w w1→CCn 47 #[.pointer (p (4+bitO ob)),.pointer none] w1 (I1 R))(H10:k=10→∀ w1,Kp [] w w1→CCn 48 #[.pointer (p (4+bitO ob)),.pointer none] w1 (I1 R))(H11:k=11→∀ w1,Kp [] w w1→CCn 49 #[.pointer (p (4+bitO ob)),.pointer none] w1 (I1 R))(H12:k=12→∀ w1,Kp [] w w1→CCn 50 #[.pointer (p (4+bitO ob))] w1 (I1 R))(H13:k=13→∀ w1,Kp [] w w1→CCn 51 #[.pointer (p (4+bitO ob))] w1 (IB R))(H0:k≠1∧k≠2∧k≠3∧k≠4∧k≠5∧k≠6∧k≠7∧k≠8∧k≠9∧k≠10∧k≠11∧k≠12∧k≠13→∀ w1,Kp [] w w1→CCn 52 #[ptr sb,.pointer none,.agg #[.int .i64 k,.int .i64 ob,.int .i64 va,.int .i64 vb]] w1 (I1 R)):CCn 24 #[ptr sb,.pointer none,.agg #[.int .i64 k,.int .i64 ob,.int .i64 va,.int .i64 vb]] w R:=by
 intro m K hK cl cs hcm h;have hk:(base 24).kind≠.early:=nofun;have hD:=hK.det;rw[show(#[ptr sb,(.pointer none),.agg #[(.int .i64 k),(.int .i64 ob),(.int .i64 va),(.int .i64 vb)]]:Array Value)=[ptr sb,(.pointer none),.agg #[(.int .i64 k),(.int .i64 ob),(.int .i64 va),(.int .i64 vb)]].toArray from rfl,enter_fg (n:=153) (c:=q24) Try.func24 rfl rfl rfl];obtain⟨o,ho⟩:∃ o,o=bitO ob:=⟨_,rfl⟩;have ho2:o<2:=by rw[ho];exact bitO_lt ob
 rw[← ho] at H1 H2 H3 H4 H5 H6 H7 H8 H9 H10 H11 H12 H13;refine hD.sr (hD.bo [.int .i64 k,.int .i64 ob,.int .i64 va,.int .i64 vb] bx_78 fun w1 nw1 hnw1 ksw1 bw1=>?_);have hs1:∀ j,j<10→w1.cell? ⟨sb,j,none⟩=some (.pointer (p j)):=fun j hj=>ksw1.cells _ _ _ (hs j hj);refine hD.asn (.int .i64 0) ?_;refine hD.asn (.int .i64 0) ?_;refine hD.z0 (hD.fdn (ptrAt nw1 1) fa78_1 ?_);refine hD.ldn (.int .i64 ob) (fun τ d=>l_3 (bw1.cell 1)) ?_;refine hD.pun (.int .i64 (o:Int)) (fun w=>(w_and1 rfl rfl rfl ho)) ?_;refine hD.asn (.int .i64 (o:Int)) ?_;refine hD.e0 (hD.s0 (hD.sr (hD.fdn (ptr nw1) fa78_0 ?_)));refine hD.ldn (.int .i64 k) (fun τ d=>l_3 (bw1.cell 0)) ?_;refine hD.e0 (hD.block (n:=0) ?_);refine hD.sr (hD.pun (.bool (decide (k=1))) (fun w=>w_eql3 rfl rfl rfl) ?_);refine hD.asn (.bool (decide (k=1))) ?_;refine hD.e0 ?_;by_cases h1:k=1
 ·refine hD.cond (n:=0) true (show Value.bool (decide (k=1))=_ by rw[decide_eq_true h1]) rfl ?_
  exact d24_1 ⟨hK,hcm,hs1,bw1,ho2,rfl,rfl,rfl,rfl,h⟩ (H1 h1 w1 ksw1)
 refine hD.cx false (bF h1) ?_;refine hD.sr (hD.pun (.bool (decide (k=2))) (fun w=>w_eql3 rfl rfl rfl) ?_);refine hD.asn (.bool (decide (k=2))) ?_;refine hD.e0 ?_;by_cases h2:k=2
 ·refine hD.cond (n:=0) true (show Value.bool (decide (k=2))=_ by rw[decide_eq_true h2]) rfl ?_
  exact d24_2 ⟨hK,hcm,hs1,bw1,ho2,rfl,rfl,rfl,rfl,h⟩ (H2 h2 w1 ksw1)
 refine hD.cx false (bF h2) ?_;refine hD.sr (hD.pun (.bool (decide (k=3))) (fun w=>w_eql3 rfl rfl rfl) ?_);refine hD.asn (.bool (decide (k=3))) ?_;refine hD.e0 ?_;by_cases h3:k=3
 ·refine hD.cond (n:=0) true (show Value.bool (decide (k=3))=_ by rw[decide_eq_true h3]) rfl ?_
  exact d24_3 ⟨hK,hcm,hs1,bw1,ho2,rfl,rfl,rfl,rfl,h⟩ (H3 h3 w1 ksw1)
 refine hD.cx false (bF h3) ?_;refine hD.sr (hD.pun (.bool (decide (k=4))) (fun w=>w_eql3 rfl rfl rfl) ?_);refine hD.asn (.bool (decide (k=4))) ?_;refine hD.e0 ?_;by_cases h4:k=4
 ·refine hD.cond (n:=0) true (show Value.bool (decide (k=4))=_ by rw[decide_eq_true h4]) rfl ?_
  exact d24_4 ⟨hK,hcm,hs1,bw1,ho2,rfl,rfl,rfl,rfl,h⟩ (H4 h4 w1 ksw1)
 refine hD.cx false (bF h4) ?_;refine hD.sr (hD.pun (.bool (decide (k=5))) (fun w=>w_eql3 rfl rfl rfl) ?_);refine hD.asn (.bool (decide (k=5))) ?_;refine hD.e0 ?_;by_cases h5:k=5
 ·refine hD.cond (n:=0) true (show Value.bool (decide (k=5))=_ by rw[decide_eq_true h5]) rfl ?_
  exact d24_5 ⟨hK,hcm,hs1,bw1,ho2,rfl,rfl,rfl,rfl,h⟩ (H5 h5 w1 ksw1)
 refine hD.cx false (bF h5) ?_;refine hD.sr (hD.pun (.bool (decide (k=6))) (fun w=>w_eql3 rfl rfl rfl) ?_);refine hD.asn (.bool (decide (k=6))) ?_;refine hD.e0 ?_;by_cases h6:k=6
 ·refine hD.cond (n:=0) true (show Value.bool (decide (k=6))=_ by rw[decide_eq_true h6]) rfl ?_
  exact d24_6 ⟨hK,hcm,hs1,bw1,ho2,rfl,rfl,rfl,rfl,h⟩ (H6 h6 w1 ksw1)
 refine hD.cx false (bF h6) ?_;refine hD.sr (hD.pun (.bool (decide (k=7))) (fun w=>w_eql3 rfl rfl rfl) ?_);refine hD.asn (.bool (decide (k=7))) ?_;refine hD.e0 ?_;by_cases h7:k=7
 ·refine hD.cond (n:=0) true (show Value.bool (decide (k=7))=_ by rw[decide_eq_true h7]) rfl ?_
  exact d24_7 ⟨hK,hcm,hs1,bw1,ho2,rfl,rfl,rfl,rfl,h⟩ (H7 h7 w1 ksw1)
 refine hD.cx false (bF h7) ?_;refine hD.sr (hD.pun (.bool (decide (k=8))) (fun w=>w_eql3 rfl rfl rfl) ?_);refine hD.asn (.bool (decide (k=8))) ?_;refine hD.e0 ?_;by_cases h8:k=8
 ·refine hD.cond (n:=0) true (show Value.bool (decide (k=8))=_ by rw[decide_eq_true h8]) rfl ?_
  exact d24_8 ⟨hK,hcm,hs1,bw1,ho2,rfl,rfl,rfl,rfl,h⟩ (H8 h8 w1 ksw1)
 refine hD.cx false (bF h8) ?_;refine hD.sr (hD.pun (.bool (decide (k=9))) (fun w=>w_eql3 rfl rfl rfl) ?_);refine hD.asn (.bool (decide (k=9))) ?_;refine hD.e0 ?_;by_cases h9:k=9
 ·refine hD.cond (n:=0) true (show Value.bool (decide (k=9))=_ by rw[decide_eq_true h9]) rfl ?_
  exact d24_9 ⟨hK,hcm,hs1,bw1,ho2,rfl,rfl,rfl,rfl,h⟩ (H9 h9 w1 ksw1)
 refine hD.cx false (bF h9) ?_;refine hD.sr (hD.pun (.bool (decide (k=10))) (fun w=>w_eql3 rfl rfl rfl) ?_);refine hD.asn (.bool (decide (k=10))) ?_;refine hD.e0 ?_;by_cases h10:k=10
 ·refine hD.cond (n:=0) true (show Value.bool (decide (k=10))=_ by rw[decide_eq_true h10]) rfl ?_
  exact d24_10 ⟨hK,hcm,hs1,bw1,ho2,rfl,rfl,rfl,rfl,h⟩ (H10 h10 w1 ksw1)
 refine hD.cx false (bF h10) ?_;refine hD.sr (hD.pun (.bool (decide (k=11))) (fun w=>w_eql3 rfl rfl rfl) ?_);refine hD.asn (.bool (decide (k=11))) ?_;refine hD.e0 ?_;by_cases h11:k=11
 ·refine hD.cond (n:=0) true (show Value.bool (decide (k=11))=_ by rw[decide_eq_true h11]) rfl ?_
  exact d24_11 ⟨hK,hcm,hs1,bw1,ho2,rfl,rfl,rfl,rfl,h⟩ (H11 h11 w1 ksw1)
 refine hD.cx false (bF h11) ?_;refine hD.sr (hD.pun (.bool (decide (k=12))) (fun w=>w_eql3 rfl rfl rfl) ?_);refine hD.asn (.bool (decide (k=12))) ?_;refine hD.e0 ?_;by_cases h12:k=12
 ·refine hD.cond (n:=0) true (show Value.bool (decide (k=12))=_ by rw[decide_eq_true h12]) rfl ?_
  exact d24_12 ⟨hK,hcm,hs1,bw1,ho2,rfl,rfl,rfl,rfl,h⟩ (H12 h12 w1 ksw1)
 refine hD.cx false (bF h12) ?_;refine hD.sr (hD.pun (.bool (decide (k=13))) (fun w=>w_eql3 rfl rfl rfl) ?_);refine hD.asn (.bool (decide (k=13))) ?_;refine hD.e0 ?_;by_cases h13:k=13
 ·refine hD.cond (n:=0) true (show Value.bool (decide (k=13))=_ by rw[decide_eq_true h13]) rfl ?_
  exact d24_13 ⟨hK,hcm,hs1,bw1,ho2,rfl,rfl,rfl,rfl,h⟩ (H13 h13 w1 ksw1)
 refine hD.cx false (bF h13) ?_;refine hD.k0 (hD.inBlock (n:=0) ?_);refine hD.sr (hD.mvn (ptr sb) ?_);refine hD.mvn (.pointer none) ?_;refine hD.ldn (.agg #[.int .i64 k,.int .i64 ob,.int .i64 va,.int .i64 vb]) (fun τ d=>ld78s (bw1.cell 0) (bw1.cell 1) (bw1.cell 2) (bw1.cell 3)) ?_;refine hD.cf #[ptr sb,(.pointer none),.agg #[(.int .i64 k),(.int .i64 ob),(.int .i64 va),(.int .i64 vb)]] hk Try.func52 ?_;refine H0 ⟨h1,h2,h3,h4,h5,h6,h7,h8,h9,h10,h11,h12,h13⟩ w1 ksw1 hK rfl fun v w2 ⟨x,hv,hR⟩=>?_;subst hv;refine finn 152 ?_;refine hD.asn (.int .i64 x) ?_;refine hD.asn (.int .i64 0) ?_;refine hD.e0 (hD.ret (n:=0) ?_);exact hD.leave (n:=0) (b:=base 24) (v:=.tuple #[.int .i64 x,.int .i64 0]) rfl rfl Try.func24 (fun τ d=>res2v rfl rfl rfl) hcm (h _ _ hR)
theorem d52_14 (T:DW 7 m K cl cs w1 sb nw1 o p k ob va vb x (I1 R))  (H:CCn 73 #[.pointer (p (6+o))] w1 (I1 R))  : K (gs ((base 52).at ⟨fg 112 x,[]⟩ [.code (sT (sR (sB (sR (sL (sR (sR q52))))))),.inBlock 0,.code (sR (sR (sR q52)))]) (cl::cs)) w1:=by
 obtain⟨hK,hcm,hs1,bw1,ho2,h0,h1,h5,h7,h⟩:=T;have hk:(base 52).kind≠.early:=nofun;have hD:=hK.det;refine hD.sr (hD.mxn (ptr sb) rfl h0 ?_);refine hD.mxn (.int .i64 (o:Int)) rfl h7 ?_;refine hD.ncn ⟨sb,0,none⟩ ?_;refine hD.fdn (ptrAt sb 6) fa74_3 ?_;refine hD.ixn (.pointer (some ⟨sb,6+o,none⟩)) (ixA70 ho2) ?_;refine hD.ldn (.pointer (p (6+o))) (fun τ d=>l_69 (hs1 (6+o) (by omega))) ?_;refine hD.cf #[(.pointer (p (6+o)))] hk Try.func73 ?_;refine H hK rfl fun v w2 ⟨x,hv,hR⟩=>?_;subst hv;refine finn 21 ?_;refine hD.asn (.int .i64 x) ?_;refine hD.e0 (hD.ret (n:=0) ?_);exact hD.leave (n:=0) (b:=base 52) (v:=.int .i64 x) rfl rfl Try.func52 (fun τ d=>res1v rfl rfl) hcm (h _ _ ⟨_,rfl,hR⟩)
theorem d52_15 (T:DW 7 m K cl cs w1 sb nw1 o p k ob va vb x (I1 R))  (H:CCn 74 #[.pointer (p (6+o))] w1 (I1 R))  : K (gs ((base 52).at ⟨fg 112 x,[]⟩ [.code (sT (sR (sF (sR (sB (sR (sL (sR (sR q52))))))))),.inBlock 0,.code (sR (sR (sR q52)))]) (cl::cs)) w1:=by
 obtain⟨hK,hcm,hs1,bw1,ho2,h0,h1,h5,h7,h⟩:=T;have hk:(base 52).kind≠.early:=nofun;have hD:=hK.det;refine hD.sr (hD.mxn (ptr sb) rfl h0 ?_);refine hD.mxn (.int .i64 (o:Int)) rfl h7 ?_;refine hD.ncn ⟨sb,0,none⟩ ?_;refine hD.fdn (ptrAt sb 6) fa74_3 ?_;refine hD.ixn (.pointer (some ⟨sb,6+o,none⟩)) (ixA70 ho2) ?_;refine hD.ldn (.pointer (p (6+o))) (fun τ d=>l_69 (hs1 (6+o) (by omega))) ?_;refine hD.cf #[(.pointer (p (6+o)))] hk Try.func74 ?_;refine H hK rfl fun v w2 ⟨x,hv,hR⟩=>?_;subst hv;refine finn 30 ?_;refine hD.asn (.int .i64 x) ?_;refine hD.e0 (hD.ret (n:=0) ?_);exact hD.leave (n:=0) (b:=base 52) (v:=.int .i64 x) rfl rfl Try.func52 (fun τ d=>res1v rfl rfl) hcm (h _ _ ⟨_,rfl,hR⟩)
theorem d52_16 (T:DW 7 m K cl cs w1 sb nw1 o p k ob va vb x (I1 R))  (H:CCn 75 #[.pointer (p (6+o))] w1 (I1 R))  : K (gs ((base 52).at ⟨fg 112 x,[]⟩ [.code (sT (sR (sF (sR (sF (sR (sB (sR (sL (sR (sR q52))))))))))),.inBlock 0,.code (sR (sR (sR q52)))]) (cl::cs)) w1:=by
 obtain⟨hK,hcm,hs1,bw1,ho2,h0,h1,h5,h7,h⟩:=T;have hk:(base 52).kind≠.early:=nofun;have hD:=hK.det;refine hD.sr (hD.mxn (ptr sb) rfl h0 ?_);refine hD.mxn (.int .i64 (o:Int)) rfl h7 ?_;refine hD.ncn ⟨sb,0,none⟩ ?_;refine hD.fdn (ptrAt sb 6) fa74_3 ?_;refine hD.ixn (.pointer (some ⟨sb,6+o,none⟩)) (ixA70 ho2) ?_;refine hD.ldn (.pointer (p (6+o))) (fun τ d=>l_69 (hs1 (6+o) (by omega))) ?_;refine hD.cf #[(.pointer (p (6+o)))] hk Try.func75 ?_;refine H hK rfl fun v w2 ⟨x,hv,hR⟩=>?_;subst hv;refine finn 39 ?_;refine hD.asn (.int .i64 x) ?_;refine hD.e0 (hD.ret (n:=0) ?_);exact hD.leave (n:=0) (b:=base 52) (v:=.int .i64 x) rfl rfl Try.func52 (fun τ d=>res1v rfl rfl) hcm (h _ _ ⟨_,rfl,hR⟩)
theorem d52_17 (T:DW 7 m K cl cs w1 sb nw1 o p k ob va vb x (I1 R))  (H:CCn 76 #[.pointer (p (6+o)),.pointer none] w1 (I1 R))  : K (gs ((base 52).at ⟨fg 112 x,[]⟩ [.code (sT (sR (sF (sR (sF (sR (sF (sR (sB (sR (sL (sR (sR q52))))))))))))),.inBlock 0,.code (sR (sR (sR q52)))]) (cl::cs)) w1:=by
 obtain⟨hK,hcm,hs1,bw1,ho2,h0,h1,h5,h7,h⟩:=T;have hk:(base 52).kind≠.early:=nofun;have hD:=hK.det;refine hD.sr (hD.mxn (ptr sb) rfl h0 ?_);refine hD.mxn (.int .i64 (o:Int)) rfl h7 ?_;refine hD.ncn ⟨sb,0,none⟩ ?_;refine hD.fdn (ptrAt sb 6) fa74_3 ?_;refine hD.ixn (.pointer (some ⟨sb,6+o,none⟩)) (ixA70 ho2) ?_;refine hD.ldn (.pointer (p (6+o))) (fun τ d=>l_69 (hs1 (6+o) (by omega))) ?_;refine hD.mxn (.pointer none) rfl h1 ?_;refine hD.cf #[(.pointer (p (6+o))),(.pointer none)] hk Try.func76 ?_;refine H hK rfl fun v w2 ⟨x,hv,hR⟩=>?_;subst hv;refine finn 49 ?_;refine hD.asn (.int .i64 x) ?_;refine hD.e0 (hD.ret (n:=0) ?_);exact hD.leave (n:=0) (b:=base 52) (v:=.int .i64 x) rfl rfl Try.func52 (fun τ d=>res1v rfl rfl) hcm (h _ _ ⟨_,rfl,hR⟩)
theorem d52_18 (T:DW 7 m K cl cs w1 sb nw1 o p k ob va vb x (I1 R))  (H:CCn 10 #[.pointer (p (8+o)),.pointer none] w1 (I1 R))  : K (gs ((base 52).at ⟨fg 112 x,[]⟩ [.code (sT (sR (sF (sR (sF (sR (sF (sR (sF (sR (sB (sR (sL (sR (sR q52))))))))))))))),.inBlock 0,.code (sR (sR (sR q52)))]) (cl::cs)) w1:=by
 obtain⟨hK,hcm,hs1,bw1,ho2,h0,h1,h5,h7,h⟩:=T;have hk:(base 52).kind≠.early:=nofun;have hD:=hK.det;refine hD.sr (hD.mxn (ptr sb) rfl h0 ?_);refine hD.mxn (.int .i64 (o:Int)) rfl h7 ?_;refine hD.ncn ⟨sb,0,none⟩ ?_;refine hD.fdn (ptrAt sb 8) fa74_4 ?_;refine hD.ixn (.pointer (some ⟨sb,8+o,none⟩)) (ixA71 ho2) ?_;refine hD.ldn (.pointer (p (8+o))) (fun τ d=>l_25 (hs1 (8+o) (by omega))) ?_;refine hD.mxn (.pointer none) rfl h1 ?_;refine hD.cf #[(.pointer (p (8+o))),(.pointer none)] hk Try.func10 ?_;refine H hK rfl fun v w2 ⟨x,hv,hR⟩=>?_;subst hv;refine finn 59 ?_;refine hD.asn (.int .i64 x) ?_;refine hD.e0 (hD.ret (n:=0) ?_);exact hD.leave (n:=0) (b:=base 52) (v:=.int .i64 x) rfl rfl Try.func52 (fun τ d=>res1v rfl rfl) hcm (h _ _ ⟨_,rfl,hR⟩)
theorem d52_19 (T:DW 7 m K cl cs w1 sb nw1 o p k ob va vb x (I1 R))  (H:CCn 77 #[.pointer (p (8+o)),.pointer none,.int .i64 va] w1 (I0 R))  : K (gs ((base 52).at ⟨fg 112 x,[]⟩ [.code (sT (sR (sF (sR (sF (sR (sF (sR (sF (sR (sF (sR (sB (sR (sL (sR (sR q52))))))))))))))))),.inBlock 0,.code (sR (sR (sR q52)))]) (cl::cs)) w1:=by
 obtain⟨hK,hcm,hs1,bw1,ho2,h0,h1,h5,h7,h⟩:=T;have hk:(base 52).kind≠.early:=nofun;have hD:=hK.det;refine draw_call (s:=9) hK [(62,(ptr sb)),(63,(.int .i64 (o:Int))),(64,(ptr sb)),(65,(ptrAt sb 8)),(66,(.pointer (some ⟨sb,8+o,none⟩))),(67,(.pointer (p (8+o)))),(68,(.pointer none)),(69,(ptrAt nw1 2)),(70,(.int .i64 va))] rfl mixed (oq52_77 h0 h1 h5 h7 (hs1 (8+o) (by omega)) bw1 ho2) (by decide +kernel) (by decide +kernel) (by decide +kernel)
  [(0,(ptr sb)),(1,(.pointer none)),(5,(ptr nw1)),(7,(.int .i64 (o:Int))),(62,(ptr sb)),(63,(.int .i64 (o:Int))),(64,(ptr sb)),(65,(ptrAt sb 8)),(66,(.pointer (some ⟨sb,8+o,none⟩))),(67,(.pointer (p (8+o)))),(68,(.pointer none)),(69,(ptrAt nw1 2)),(70,(.int .i64 va))] ⟨⟨(show 0<112 by decide),(show freeOf (sO (sT (sR (sF (sR (sF (sR (sF (sR (sF (sR (sF (sR (sB (sR (sL (sR (sR q52)))))))))))))))))) 9 0=true by decide +kernel),h0⟩,⟨(show 1<112 by decide),(show freeOf (sO (sT (sR (sF (sR (sF (sR (sF (sR (sF (sR (sF (sR (sB (sR (sL (sR (sR q52)))))))))))))))))) 9 1=true by decide +kernel),h1⟩,⟨(show 5<112 by decide),(show freeOf (sO (sT (sR (sF (sR (sF (sR (sF (sR (sF (sR (sF (sR (sB (sR (sL (sR (sR q52)))))))))))))))))) 9 5=true by decide +kernel),h5⟩,⟨(show 7<112 by decide),(show freeOf (sO (sT (sR (sF (sR (sF (sR (sF (sR (sF (sR (sF (sR (sB (sR (sL (sR (sR q52)))))))))))))))))) 9 7=true by decide +kernel),h7⟩,⟨(show 62<112 by decide),(show freeOf (sO (sT (sR (sF (sR (sF (sR (sF (sR (sF (sR (sF (sR (sB (sR (sL (sR (sR q52)))))))))))))))))) 9 62=true by decide +kernel),rfl⟩,⟨(show 63<112 by decide),(show freeOf (sO (sT (sR (sF (sR (sF (sR (sF (sR (sF (sR (sF (sR (sB (sR (sL (sR (sR q52)))))))))))))))))) 9 63=true by decide +kernel),rfl⟩,⟨(show 64<112 by decide),(show freeOf (sO (sT (sR (sF (sR (sF (sR (sF (sR (sF (sR (sF (sR (sB (sR (sL (sR (sR q52)))))))))))))))))) 9 64=true by decide +kernel),rfl⟩,⟨(show 65<112 by decide),(show freeOf (sO (sT (sR (sF (sR (sF (sR (sF (sR (sF (sR (sF (sR (sB (sR (sL (sR (sR q52)))))))))))))))))) 9 65=true by decide +kernel),rfl⟩,⟨(show 66<112 by decide),(show freeOf (sO (sT (sR (sF (sR (sF (sR (sF (sR (sF (sR (sF (sR (sB (sR (sL (sR (sR q52)))))))))))))))))) 9 66=true by decide +kernel),rfl⟩,⟨(show 67<112 by decide),(show freeOf (sO (sT (sR (sF (sR (sF (sR (sF (sR (sF (sR (sF (sR (sB (sR (sL (sR (sR q52)))))))))))))))))) 9 67=true by decide +kernel),rfl⟩,⟨(show 68<112 by decide),(show freeOf (sO (sT (sR (sF (sR (sF (sR (sF (sR (sF (sR (sF (sR (sB (sR (sL (sR (sR q52)))))))))))))))))) 9 68=true by decide +kernel),rfl⟩,⟨(show 69<112 by decide),(show freeOf (sO (sT (sR (sF (sR (sF (sR (sF (sR (sF (sR (sF (sR (sB (sR (sL (sR (sR q52)))))))))))))))))) 9 69=true by decide +kernel),rfl⟩,⟨(show 70<112 by decide),(show freeOf (sO (sT (sR (sF (sR (sF (sR (sF (sR (sF (sR (sF (sR (sB (sR (sL (sR (sR q52)))))))))))))))))) 9 70=true by decide +kernel),rfl⟩,trivial⟩ (fun x2 fu te hfu=>?_) (show(([62,63,64,65,66,67,68,69,70]:List Nat).all fun d=>(sO (sT (sR (sF (sR (sF (sR (sF (sR (sF (sR (sF (sR (sB (sR (sL (sR (sR q52)))))))))))))))))).any fun o=>o.dst==some d)=true by decide +kernel)
 refine hD.cf #[(.pointer (p (8+o))),(.pointer none),.int .i64 va] hk Try.func77 ?_;refine H hK rfl fun v w2 ⟨hv,hR⟩=>?_;subst hv;refine finn 71 ?_;refine lin_none (by decide +kernel) ?_;refine hD.e0 (hD.inBlock (n:=0) ?_);refine hD.sr (hD.asn (.int .i64 0) ?_);refine hD.e0 (hD.ret (n:=0) ?_);exact hD.leave (n:=0) (b:=base 52) (v:=.int .i64 0) rfl rfl Try.func52 (fun τ d=>res1v rfl rfl) hcm (h _ _ ⟨_,rfl,hR⟩)
theorem d52_20 (T:DW 7 m K cl cs w1 sb nw1 o p k ob va vb x (I1 R))  (H:CCn 78 #[.pointer (p (8+o)),.pointer none,.int .i64 va] w1 (I1 R))  : K (gs ((base 52).at ⟨fg 112 x,[]⟩ [.code (sT (sR (sF (sR (sF (sR (sF (sR (sF (sR (sF (sR (sF (sR (sB (sR (sL (sR (sR q52))))))))))))))))))),.inBlock 0,.code (sR (sR (sR q52)))]) (cl::cs)) w1:=by
 obtain⟨hK,hcm,hs1,bw1,ho2,h0,h1,h5,h7,h⟩:=T;have hk:(base 52).kind≠.early:=nofun;have hD:=hK.det;refine hD.s0 ?_;refine draw_call (s:=9) hK [(74,(ptr sb)),(75,(.int .i64 (o:Int))),(76,(ptr sb)),(77,(ptrAt sb 8)),(78,(.pointer (some ⟨sb,8+o,none⟩))),(79,(.pointer (p (8+o)))),(80,(.pointer none)),(81,(ptrAt nw1 2)),(82,(.int .i64 va))] rfl mixed (oq52_78 h0 h1 h5 h7 (hs1 (8+o) (by omega)) bw1 ho2) (by decide +kernel) (by decide +kernel) (by decide +kernel)
  [(0,(ptr sb)),(1,(.pointer none)),(5,(ptr nw1)),(7,(.int .i64 (o:Int))),(74,(ptr sb)),(75,(.int .i64 (o:Int))),(76,(ptr sb)),(77,(ptrAt sb 8)),(78,(.pointer (some ⟨sb,8+o,none⟩))),(79,(.pointer (p (8+o)))),(80,(.pointer none)),(81,(ptrAt nw1 2)),(82,(.int .i64 va))] ⟨⟨(show 0<112 by decide),(show freeOf (sO (sL (sT (sR (sF (sR (sF (sR (sF (sR (sF (sR (sF (sR (sF (sR (sB (sR (sL (sR (sR q52))))))))))))))))))))) 9 0=true by decide +kernel),h0⟩,⟨(show 1<112 by decide),(show freeOf (sO (sL (sT (sR (sF (sR (sF (sR (sF (sR (sF (sR (sF (sR (sF (sR (sB (sR (sL (sR (sR q52))))))))))))))))))))) 9 1=true by decide +kernel),h1⟩,⟨(show 5<112 by decide),(show freeOf (sO (sL (sT (sR (sF (sR (sF (sR (sF (sR (sF (sR (sF (sR (sF (sR (sB (sR (sL (sR (sR q52))))))))))))))))))))) 9 5=true by decide +kernel),h5⟩,⟨(show 7<112 by decide),(show freeOf (sO (sL (sT (sR (sF (sR (sF (sR (sF (sR (sF (sR (sF (sR (sF (sR (sB (sR (sL (sR (sR q52))))))))))))))))))))) 9 7=true by decide +kernel),h7⟩,⟨(show 74<112 by decide),(show freeOf (sO (sL (sT (sR (sF (sR (sF (sR (sF (sR (sF (sR (sF (sR (sF (sR (sB (sR (sL (sR (sR q52))))))))))))))))))))) 9 74=true by decide +kernel),rfl⟩,⟨(show 75<112 by decide),(show freeOf (sO (sL (sT (sR (sF (sR (sF (sR (sF (sR (sF (sR (sF (sR (sF (sR (sB (sR (sL (sR (sR q52))))))))))))))))))))) 9 75=true by decide +kernel),rfl⟩,⟨(show 76<112 by decide),(show freeOf (sO (sL (sT (sR (sF (sR (sF (sR (sF (sR (sF (sR (sF (sR (sF (sR (sB (sR (sL (sR (sR q52))))))))))))))))))))) 9 76=true by decide +kernel),rfl⟩,⟨(show 77<112 by decide),(show freeOf (sO (sL (sT (sR (sF (sR (sF (sR (sF (sR (sF (sR (sF (sR (sF (sR (sB (sR (sL (sR (sR q52))))))))))))))))))))) 9 77=true by decide +kernel),rfl⟩,⟨(show 78<112 by decide),(show freeOf (sO (sL (sT (sR (sF (sR (sF (sR (sF (sR (sF (sR (sF (sR (sF (sR (sB (sR (sL (sR (sR q52))))))))))))))))))))) 9 78=true by decide +kernel),rfl⟩,⟨(show 79<112 by decide),(show freeOf (sO (sL (sT (sR (sF (sR (sF (sR (sF (sR (sF (sR (sF (sR (sF (sR (sB (sR (sL (sR (sR q52))))))))))))))))))))) 9 79=true by decide +kernel),rfl⟩,⟨(show 80<112 by decide),(show freeOf (sO (sL (sT (sR (sF (sR (sF (sR (sF (sR (sF (sR (sF (sR (sF (sR (sB (sR (sL (sR (sR q52))))))))))))))))))))) 9 80=true by decide +kernel),rfl⟩,⟨(show 81<112 by decide),(show freeOf (sO (sL (sT (sR (sF (sR (sF (sR (sF (sR (sF (sR (sF (sR (sF (sR (sB (sR (sL (sR (sR q52))))))))))))))))))))) 9 81=true by decide +kernel),rfl⟩,⟨(show 82<112 by decide),(show freeOf (sO (sL (sT (sR (sF (sR (sF (sR (sF (sR (sF (sR (sF (sR (sF (sR (sB (sR (sL (sR (sR q52))))))))))))))))))))) 9 82=true by decide +kernel),rfl⟩,trivial⟩ (fun x2 fu te hfu=>?_) (show(([74,75,76,77,78,79,80,81,82]:List Nat).all fun d=>(sO (sL (sT (sR (sF (sR (sF (sR (sF (sR (sF (sR (sF (sR (sF (sR (sB (sR (sL (sR (sR q52))))))))))))))))))))).any fun o=>o.dst==some d)=true by decide +kernel)
 refine hD.cf #[(.pointer (p (8+o))),(.pointer none),.int .i64 va] hk Try.func78 ?_;refine H hK rfl fun v w2 ⟨x,hv,hR⟩=>?_;subst hv;refine finn 83 ?_;refine lin_last (by decide +kernel) (by decide +kernel) (by decide +kernel) hfu ?_;refine hD.asn (.int .i64 x) ?_;refine hD.e0 (hD.ret (n:=0) ?_);exact hD.leave (n:=0) (b:=base 52) (v:=.int .i64 x) rfl rfl Try.func52 (fun τ d=>res1v rfl rfl) hcm (h _ _ ⟨_,rfl,hR⟩)
theorem d52_21 (T:DW 7 m K cl cs w1 sb nw1 o p k ob va vb x (I1 R))  (H:CCn 11 #[.pointer (p (8+o)),.pointer none,.int .i64 va,.int .i64 vb] w1 (IB R))  : K (gs ((base 52).at ⟨fg 112 x,[]⟩ [.code (sT (sR (sF (sR (sF (sR (sF (sR (sF (sR (sF (sR (sF (sR (sF (sR (sB (sR (sL (sR (sR q52))))))))))))))))))))),.inBlock 0,.code (sR (sR (sR q52)))]) (cl::cs)) w1:=by
 obtain⟨hK,hcm,hs1,bw1,ho2,h0,h1,h5,h7,h⟩:=T;have hk:(base 52).kind≠.early:=nofun;have hD:=hK.det;refine hD.s0 ?_;refine draw_call (s:=11) hK [(86,(ptr sb)),(87,(.int .i64 (o:Int))),(88,(ptr sb)),(89,(ptrAt sb 8)),(90,(.pointer (some ⟨sb,8+o,none⟩))),(91,(.pointer (p (8+o)))),(92,(.pointer none)),(93,(ptrAt nw1 2)),(94,(.int .i64 va)),(95,(ptrAt nw1 3)),(96,(.int .i64 vb))] rfl mixed (oq52_11 h0 h1 h5 h7 (hs1 (8+o) (by omega)) bw1 ho2) (by decide +kernel) (by decide +kernel) (by decide +kernel)
  [(0,(ptr sb)),(1,(.pointer none)),(5,(ptr nw1)),(7,(.int .i64 (o:Int))),(86,(ptr sb)),(87,(.int .i64 (o:Int))),(88,(ptr sb)),(89,(ptrAt sb 8)),(90,(.pointer (some ⟨sb,8+o,none⟩))),(91,(.pointer (p (8+o)))),(92,(.pointer none)),(93,(ptrAt nw1 2)),(94,(.int .i64 va)),(95,(ptrAt nw1 3)),(96,(.int .i64 vb))] ⟨⟨(show 0<112 by decide),(show freeOf (sO (sL (sT (sR (sF (sR (sF (sR (sF (sR (sF (sR (sF (sR (sF (sR (sF (sR (sB (sR (sL (sR (sR q52))))))))))))))))))))))) 11 0=true by decide +kernel),h0⟩,⟨(show 1<112 by decide),(show freeOf (sO (sL (sT (sR (sF (sR (sF (sR (sF (sR (sF (sR (sF (sR (sF (sR (sF (sR (sB (sR (sL (sR (sR q52))))))))))))))))))))))) 11 1=true by decide +kernel),h1⟩,⟨(show 5<112 by decide),(show freeOf (sO (sL (sT (sR (sF (sR (sF (sR (sF (sR (sF (sR (sF (sR (sF (sR (sF (sR (sB (sR (sL (sR (sR q52))))))))))))))))))))))) 11 5=true by decide +kernel),h5⟩,⟨(show 7<112 by decide),(show freeOf (sO (sL (sT (sR (sF (sR (sF (sR (sF (sR (sF (sR (sF (sR (sF (sR (sF (sR (sB (sR (sL (sR (sR q52))))))))))))))))))))))) 11 7=true by decide +kernel),h7⟩,⟨(show 86<112 by decide),(show freeOf (sO (sL (sT (sR (sF (sR (sF (sR (sF (sR (sF (sR (sF (sR (sF (sR (sF (sR (sB (sR (sL (sR (sR q52))))))))))))))))))))))) 11 86=true by decide +kernel),rfl⟩,⟨(show 87<112 by decide),(show freeOf (sO (sL (sT (sR (sF (sR (sF (sR (sF (sR (sF (sR (sF (sR (sF (sR (sF (sR (sB (sR (sL (sR (sR q52))))))))))))))))))))))) 11 87=true by decide +kernel),rfl⟩,⟨(show 88<112 by decide),(show freeOf (sO (sL (sT (sR (sF (sR (sF (sR (sF (sR (sF (sR (sF (sR (sF (sR (sF (sR (sB (sR (sL (sR (sR q52))))))))))))))))))))))) 11 88=true by decide +kernel),rfl⟩,⟨(show 89<112 by decide),(show freeOf (sO (sL (sT (sR (sF (sR (sF (sR (sF (sR (sF (sR (sF (sR (sF (sR (sF (sR (sB (sR (sL (sR (sR q52))))))))))))))))))))))) 11 89=true by decide +kernel),rfl⟩,⟨(show 90<112 by decide),(show freeOf (sO (sL (sT (sR (sF (sR (sF (sR (sF (sR (sF (sR (sF (sR (sF (sR (sF (sR (sB (sR (sL (sR (sR q52))))))))))))))))))))))) 11 90=true by decide +kernel),rfl⟩,⟨(show 91<112 by decide),(show freeOf (sO (sL (sT (sR (sF (sR (sF (sR (sF (sR (sF (sR (sF (sR (sF (sR (sF (sR (sB (sR (sL (sR (sR q52))))))))))))))))))))))) 11 91=true by decide +kernel),rfl⟩,⟨(show 92<112 by decide),(show freeOf (sO (sL (sT (sR (sF (sR (sF (sR (sF (sR (sF (sR (sF (sR (sF (sR (sF (sR (sB (sR (sL (sR (sR q52))))))))))))))))))))))) 11 92=true by decide +kernel),rfl⟩,⟨(show 93<112 by decide),(show freeOf (sO (sL (sT (sR (sF (sR (sF (sR (sF (sR (sF (sR (sF (sR (sF (sR (sF (sR (sB (sR (sL (sR (sR q52))))))))))))))))))))))) 11 93=true by decide +kernel),rfl⟩,⟨(show 94<112 by decide),(show freeOf (sO (sL (sT (sR (sF (sR (sF (sR (sF (sR (sF (sR (sF (sR (sF (sR (sF (sR (sB (sR (sL (sR (sR q52))))))))))))))))))))))) 11 94=true by decide +kernel),rfl⟩,⟨(show 95<112 by decide),(show freeOf (sO (sL (sT (sR (sF (sR (sF (sR (sF (sR (sF (sR (sF (sR (sF (sR (sF (sR (sB (sR (sL (sR (sR q52))))))))))))))))))))))) 11 95=true by decide +kernel),rfl⟩,⟨(show 96<112 by decide),(show freeOf (sO (sL (sT (sR (sF (sR (sF (sR (sF (sR (sF (sR (sF (sR (sF (sR (sF (sR (sB (sR (sL (sR (sR q52))))))))))))))))))))))) 11 96=true by decide +kernel),rfl⟩,trivial⟩ (fun x2 fu te hfu=>?_) (show(([86,87,88,89,90,91,92,93,94,95,96]:List Nat).all fun d=>(sO (sL (sT (sR (sF (sR (sF (sR (sF (sR (sF (sR (sF (sR (sF (sR (sF (sR (sB (sR (sL (sR (sR q52))))))))))))))))))))))).any fun o=>o.dst==some d)=true by decide +kernel)
 refine hD.cf #[(.pointer (p (8+o))),(.pointer none),.int .i64 va,.int .i64 vb] hk Try.func11 ?_;refine H hK rfl fun v w2 ⟨t,hv,hR⟩=>?_;subst hv;refine finn 97 ?_;refine lin_next (m:=1) (by decide +kernel) (by decide +kernel) (by decide +kernel) (by decide +kernel) hfu fun fu2 te2 hfu2=>?_;refine hD.cf #[.bool t] hk Try.func45 ?_;refine hK.callp fits shut3 (f:=45) rfl (v:=.int .i64 (if t then 1 else 0)) (fun τ d=>truth45 _ t) ?_;refine finn 98 ?_;refine lin_last (by decide +kernel) (by decide +kernel) (by decide +kernel) hfu2 ?_;refine hD.asn (.int .i64 (if t then 1 else 0)) ?_;refine hD.e0 (hD.ret (n:=0) ?_);exact hD.leave (n:=0) (b:=base 52) (v:=.int .i64 (if t then 1 else 0)) rfl rfl Try.func52 (fun τ d=>res1v rfl rfl) hcm (h _ _ ⟨_,rfl,hR⟩)
theorem d52_22 (T:DW 7 m K cl cs w1 sb nw1 o p k ob va vb x (I1 R))  (H:CCn 79 #[.pointer (p (8+o))] w1 (I1 R))  : K (gs ((base 52).at ⟨fg 112 x,[]⟩ [.code (sT (sR (sF (sR (sF (sR (sF (sR (sF (sR (sF (sR (sF (sR (sF (sR (sF (sR (sB (sR (sL (sR (sR q52))))))))))))))))))))))),.inBlock 0,.code (sR (sR (sR q52)))]) (cl::cs)) w1:=by
 obtain⟨hK,hcm,hs1,bw1,ho2,h0,h1,h5,h7,h⟩:=T;have hk:(base 52).kind≠.early:=nofun;have hD:=hK.det;refine hD.sr (hD.mxn (ptr sb) rfl h0 ?_);refine hD.mxn (.int .i64 (o:Int)) rfl h7 ?_;refine hD.ncn ⟨sb,0,none⟩ ?_;refine hD.fdn (ptrAt sb 8) fa74_4 ?_;refine hD.ixn (.pointer (some ⟨sb,8+o,none⟩)) (ixA71 ho2) ?_;refine hD.ldn (.pointer (p (8+o))) (fun τ d=>l_25 (hs1 (8+o) (by omega))) ?_;refine hD.cf #[(.pointer (p (8+o)))] hk Try.func79 ?_;refine H hK rfl fun v w2 ⟨x,hv,hR⟩=>?_;subst hv;refine finn 107 ?_;refine hD.asn (.int .i64 x) ?_;refine hD.e0 (hD.ret (n:=0) ?_);exact hD.leave (n:=0) (b:=base 52) (v:=.int .i64 x) rfl rfl Try.func52 (fun τ d=>res1v rfl rfl) hcm (h _ _ ⟨_,rfl,hR⟩)
theorem d52_23 (T:DW 7 m K cl cs w1 sb nw1 o p k ob va vb x (I1 R))  (H:∀ w2,Kp [] w1 w2→R (.tuple #[.int .i64 0,.int .i64 0]) w2)  : K (gs ((base 52).at ⟨fg 112 x,[]⟩ [.code (sT (sR (sF (sR (sF (sR (sF (sR (sF (sR (sF (sR (sF (sR (sF (sR (sF (sR (sF (sR (sB (sR (sL (sR (sR q52))))))))))))))))))))))))),.inBlock 0,.code (sR (sR (sR q52)))]) (cl::cs)) w1:=by
 obtain⟨hK,hcm,hs1,bw1,ho2,h0,h1,h5,h7,h⟩:=T;have hk:(base 52).kind≠.early:=nofun;have hD:=hK.det;refine hD.r0 (hD.mxn (.pointer none) rfl h1 ?_);refine hD.cf #[(.pointer none)] hk Try.func29 ?_;refine step_nil hK rfl fun w2 k2=>?_;have hR:=H w2 k2;refine finn 111 ?_;refine hD.e0 (hD.inBlock (n:=0) ?_);refine hD.sr (hD.asn (.int .i64 0) ?_);refine hD.e0 (hD.ret (n:=0) ?_);exact hD.leave (n:=0) (b:=base 52) (v:=.int .i64 0) rfl rfl Try.func52 (fun τ d=>res1v rfl rfl) hcm (h _ _ ⟨_,rfl,hR⟩)
theorem more_cc (hs:∀ j,j<10→w.cell? ⟨sb,j,none⟩=some (.pointer (p j)))(H14:k=14→∀ w1,Kp [] w w1→CCn 73 #[.pointer (p (6+bitO ob))] w1 (I1 R))(H15:k=15→∀ w1,Kp [] w w1→CCn 74 #[.pointer (p (6+bitO ob))] w1 (I1 R))(H16:k=16→∀ w1,Kp [] w w1→CCn 75 #[.pointer (p (6+bitO ob))] w1 (I1 R))(H17:k=17→∀ w1,Kp [] w w1→CCn 76 #[.pointer (p (6+bitO ob)),.pointer none] w1 (I1 R))(H18:k=18→∀ w1,Kp [] w w1→CCn 10 #[.pointer (p (8+bitO ob)),.pointer none] w1 (I1 R))(H19:k=19→∀ w1,Kp [] w w1→CCn 77 #[.pointer (p (8+bitO ob)),.pointer none,.int .i64 va] w1 (I0 R))(H20:k=20→∀ w1,Kp [] w w1→CCn 78 #[.pointer (p (8+bitO ob)),.pointer none,.int .i64 va] w1 (I1 R))(H21:k=21→∀ w1,Kp [] w w1→CCn 11 #[.pointer (p (8+bitO ob)),.pointer none,.int .i64 va,.int .i64 vb] w1 (IB R))(H22:k=22→∀ w1,Kp [] w w1→CCn 79 #[.pointer (p (8+bitO ob))] w1 (I1 R))(H23:k=23→∀ w1,Kp [] w w1→R (.tuple #[.int .i64 0,.int .i64 0]) w1)(H0:k≠14∧k≠15∧k≠16∧k≠17∧k≠18∧k≠19∧k≠20∧k≠21∧k≠22∧k≠23→∀ w1,Kp [] w w1→R (.tuple #[.int .i64 0,.int .i64 0]) w1):CCn 52 #[ptr sb,.pointer none,.agg #[.int .i64 k,.int .i64 ob,.int .i64 va,.int .i64 vb]] w (I1 R):=by
 intro m K hK cl cs hcm h;have hD:=hK.det;rw[show(#[ptr sb,(.pointer none),.agg #[(.int .i64 k),(.int .i64 ob),(.int .i64 va),(.int .i64 vb)]]:Array Value)=[ptr sb,(.pointer none),.agg #[(.int .i64 k),(.int .i64 ob),(.int .i64 va),(.int .i64 vb)]].toArray from rfl,enter_fg (n:=112) (c:=q52) Try.func52 rfl rfl rfl];obtain⟨o,ho⟩:∃ o,o=bitO ob:=⟨_,rfl⟩;have ho2:o<2:=by rw[ho];exact bitO_lt ob
 rw[← ho] at H14 H15 H16 H17 H18 H19 H20 H21 H22;refine hD.sr (hD.bo [.int .i64 k,.int .i64 ob,.int .i64 va,.int .i64 vb] bx_78 fun w1 nw1 hnw1 ksw1 bw1=>?_);have hs1:∀ j,j<10→w1.cell? ⟨sb,j,none⟩=some (.pointer (p j)):=fun j hj=>ksw1.cells _ _ _ (hs j hj);refine hD.asn (.int .i64 0) ?_;refine hD.z0 (hD.fdn (ptrAt nw1 1) fa78_1 ?_);refine hD.ldn (.int .i64 ob) (fun τ d=>l_3 (bw1.cell 1)) ?_;refine hD.pun (.int .i64 (o:Int)) (fun w=>(w_and1 rfl rfl rfl ho)) ?_;refine hD.asn (.int .i64 (o:Int)) ?_;refine hD.e0 (hD.s0 (hD.sr (hD.fdn (ptr nw1) fa78_0 ?_)));refine hD.ldn (.int .i64 k) (fun τ d=>l_3 (bw1.cell 0)) ?_;refine hD.e0 (hD.block (n:=0) ?_);refine hD.sr (hD.pun (.bool (decide (k=14))) (fun w=>w_eql3 rfl rfl rfl) ?_);refine hD.asn (.bool (decide (k=14))) ?_;refine hD.e0 ?_;by_cases h14:k=14
 ·refine hD.cond (n:=0) true (show Value.bool (decide (k=14))=_ by rw[decide_eq_true h14]) rfl ?_
  exact d52_14 ⟨hK,hcm,hs1,bw1,ho2,rfl,rfl,rfl,rfl,h⟩ (H14 h14 w1 ksw1)
 refine hD.cx false (bF h14) ?_;refine hD.sr (hD.pun (.bool (decide (k=15))) (fun w=>w_eql3 rfl rfl rfl) ?_);refine hD.asn (.bool (decide (k=15))) ?_;refine hD.e0 ?_;by_cases h15:k=15
 ·refine hD.cond (n:=0) true (show Value.bool (decide (k=15))=_ by rw[decide_eq_true h15]) rfl ?_
  exact d52_15 ⟨hK,hcm,hs1,bw1,ho2,rfl,rfl,rfl,rfl,h⟩ (H15 h15 w1 ksw1)
 refine hD.cx false (bF h15) ?_;refine hD.sr (hD.pun (.bool (decide (k=16))) (fun w=>w_eql3 rfl rfl rfl) ?_);refine hD.asn (.bool (decide (k=16))) ?_;refine hD.e0 ?_;by_cases h16:k=16
 ·refine hD.cond (n:=0) true (show Value.bool (decide (k=16))=_ by rw[decide_eq_true h16]) rfl ?_
  exact d52_16 ⟨hK,hcm,hs1,bw1,ho2,rfl,rfl,rfl,rfl,h⟩ (H16 h16 w1 ksw1)
 refine hD.cx false (bF h16) ?_;refine hD.sr (hD.pun (.bool (decide (k=17))) (fun w=>w_eql3 rfl rfl rfl) ?_);refine hD.asn (.bool (decide (k=17))) ?_;refine hD.e0 ?_;by_cases h17:k=17
 ·refine hD.cond (n:=0) true (show Value.bool (decide (k=17))=_ by rw[decide_eq_true h17]) rfl ?_
  exact d52_17 ⟨hK,hcm,hs1,bw1,ho2,rfl,rfl,rfl,rfl,h⟩ (H17 h17 w1 ksw1)
 refine hD.cx false (bF h17) ?_;refine hD.sr (hD.pun (.bool (decide (k=18))) (fun w=>w_eql3 rfl rfl rfl) ?_);refine hD.asn (.bool (decide (k=18))) ?_;refine hD.e0 ?_;by_cases h18:k=18
 ·refine hD.cond (n:=0) true (show Value.bool (decide (k=18))=_ by rw[decide_eq_true h18]) rfl ?_
  exact d52_18 ⟨hK,hcm,hs1,bw1,ho2,rfl,rfl,rfl,rfl,h⟩ (H18 h18 w1 ksw1)
 refine hD.cx false (bF h18) ?_;refine hD.sr (hD.pun (.bool (decide (k=19))) (fun w=>w_eql3 rfl rfl rfl) ?_);refine hD.asn (.bool (decide (k=19))) ?_;refine hD.e0 ?_;by_cases h19:k=19
 ·refine hD.cond (n:=0) true (show Value.bool (decide (k=19))=_ by rw[decide_eq_true h19]) rfl ?_
  exact d52_19 ⟨hK,hcm,hs1,bw1,ho2,rfl,rfl,rfl,rfl,h⟩ (H19 h19 w1 ksw1)
 refine hD.cx false (bF h19) ?_;refine hD.sr (hD.pun (.bool (decide (k=20))) (fun w=>w_eql3 rfl rfl rfl) ?_);refine hD.asn (.bool (decide (k=20))) ?_;refine hD.e0 ?_;by_cases h20:k=20
 ·refine hD.cond (n:=0) true (show Value.bool (decide (k=20))=_ by rw[decide_eq_true h20]) rfl ?_
  exact d52_20 ⟨hK,hcm,hs1,bw1,ho2,rfl,rfl,rfl,rfl,h⟩ (H20 h20 w1 ksw1)
 refine hD.cx false (bF h20) ?_;refine hD.sr (hD.pun (.bool (decide (k=21))) (fun w=>w_eql3 rfl rfl rfl) ?_);refine hD.asn (.bool (decide (k=21))) ?_;refine hD.e0 ?_;by_cases h21:k=21
 ·refine hD.cond (n:=0) true (show Value.bool (decide (k=21))=_ by rw[decide_eq_true h21]) rfl ?_
  exact d52_21 ⟨hK,hcm,hs1,bw1,ho2,rfl,rfl,rfl,rfl,h⟩ (H21 h21 w1 ksw1)
 refine hD.cx false (bF h21) ?_;refine hD.sr (hD.pun (.bool (decide (k=22))) (fun w=>w_eql3 rfl rfl rfl) ?_);refine hD.asn (.bool (decide (k=22))) ?_;refine hD.e0 ?_;by_cases h22:k=22
 ·refine hD.cond (n:=0) true (show Value.bool (decide (k=22))=_ by rw[decide_eq_true h22]) rfl ?_
  exact d52_22 ⟨hK,hcm,hs1,bw1,ho2,rfl,rfl,rfl,rfl,h⟩ (H22 h22 w1 ksw1)
 refine hD.cx false (bF h22) ?_;refine hD.sr (hD.pun (.bool (decide (k=23))) (fun w=>w_eql3 rfl rfl rfl) ?_);refine hD.asn (.bool (decide (k=23))) ?_;refine hD.e0 ?_;by_cases h23:k=23
 ·refine hD.cond (n:=0) true (show Value.bool (decide (k=23))=_ by rw[decide_eq_true h23]) rfl ?_
  exact d52_23 ⟨hK,hcm,hs1,bw1,ho2,rfl,rfl,rfl,rfl,h⟩ (fun w2 k2=>H23 h23 w2 (ksw1.trans k2))
 refine hD.cx false (bF h23) ?_;refine hD.k0 (hD.inBlock (n:=0) ?_);refine hD.sr (hD.asn (.int .i64 0) ?_);refine hD.e0 (hD.ret (n:=0) ?_);have hR:=H0 ⟨h14,h15,h16,h17,h18,h19,h20,h21,h22,h23⟩ w1 ksw1;exact hD.leave (n:=0) (b:=base 52) (v:=.int .i64 0) rfl rfl Try.func52 (fun τ d=>res1v rfl rfl) hcm (h _ _ ⟨_,rfl,hR⟩)
end
def shCells (st:Nat→LoneSt)(q:Nat→Int):Nat→List Value
 | 0=>[.bool true,.int .i64 (st 0).m]
 | 1=>[.bool true,.int .i64 (st 1).m]
 | 2=>[.bool true,.int .i64 (st 0).f,.int .i64 (q 0),.int .i64 (q 0)]
 | 3=>[.bool true,.int .i64 (st 1).f,.int .i64 (q 1),.int .i64 (q 1)]
 | 4=>[.bool true,.int .i64 (st 0).wr,.int .i64 (st 0).rd,.int .i64 0]
 | 5=>[.bool true,.int .i64 (st 1).wr,.int .i64 (st 1).rd,.int .i64 0]
 | 6=>[.bool true,.int .i64 (st 0).g]
 | 7=>[.bool true,.int .i64 (st 1).g]
 | 8=>[.bool true,.int .i64 (st 0).c,.int .i64 (st 0).ac]
 | _=>[.bool true,.int .i64 (st 1).c,.int .i64 (st 1).ac]
def shType:Nat→TypeId
 | 0=>91
 | 1=>91
 | 2=>88
 | 3=>88
 | 4=>93
 | 5=>93
 | 6=>141
 | 7=>141
 | 8=>82
 | _=>82
structure ShM (sb:Nat)(bl:Nat→Nat)(st:Nat→LoneSt)(q:Nat→Int)(w:World):Prop where
 hs:∀ j,j<10→w.cell? ⟨sb,j,none⟩=some (ptr (bl j))
 bk:∀ j,j<10→Blk w (bl j) (shCells st q j) (shType j)
 ne:∀ i j,i<10→j<10→i≠j→bl i≠bl j
 sn:∀ j,j<10→bl j≠sb
abbrev bls (bl:Nat→Nat):List Nat:=(List.range 10).map bl
def setO (st:Nat→LoneSt)(o:Nat)(l:LoneSt):Nat→LoneSt:=fun i=>if i=o then l else st i
def setQ (q:Nat→Int)(o:Nat)(v:Int):Nat→Int:=fun i=>if i=o then v else q i
def ShR (sb:Nat)(bl:Nat→Nat)(st:Nat→LoneSt)(o:Nat)(k va vb:Int)(w:World)(v:Value)(w2:World):Prop :=
 v=.tuple #[.int .i64 (loneDo k va vb (st o)).2.1,.int .i64 (loneDo k va vb (st o)).2.2]∧(∃ q,ShM sb bl (setO st o (loneDo k va vb (st o)).1) q w2)∧Kp (bls bl) w w2
theorem CCn.mono {f:FuncId}{args:Array Value}{w:World}{R R':Value→World→Prop}(h:CCn f args w R)(hR:∀ v w',R v w'→R' v w'):CCn f args w R':=by
 intro m K hK cl cs hcm k;exact h hK hcm fun v w' hr=>k v w' (hR v w' hr)
theorem CCn.pure {f:FuncId}{args:Array Value}{w:World}{V:Value}(hf:fam3 f=true)(hc:∀ w,Calls Try.prog f args w fun e w'=>e=.returned V∧w'=w):CCn f args w (fun v w'=>v=V∧w'=w) :=
 by
 intro m K hK cl cs hcm k;exact hK.callp fits shut3 hf (fun _ _=>hc _) (k _ _ ⟨rfl,rfl⟩)
theorem CCn.pureAt {f:FuncId}{args:Array Value}{w:World}{V:Value}(hf:fam3 f=true)(hc:∀ τ d,Calls Try.prog f args (re w τ d) fun e w'=>e=.returned V∧w'=re w τ d):CCn f args w (fun v w'=>v=V∧w'=w) :=
 by
 intro m K hK cl cs hcm k;exact hK.callp fits shut3 hf hc (k _ _ ⟨rfl,rfl⟩)
theorem CCn.of {f:FuncId}{args:Array Value}{w:World}{V:Value}{F:List Nat}{Q:World→Prop}(hf:fam3 f=true)(hQ:∀ w τ d,Q w→Q (re w τ d))(hc:∀ τ d,Calls Try.prog f args (re w τ d) fun e w'=>e=.returned V∧Kp F (re w τ d) w'∧Q w'):CCn f args w (fun v w'=>v=V∧Kp F w w'∧Q w') :=
 by
 intro m K hK cl cs hcm k;exact hK.call fits shut3 hf (R:=fun v w'=>v=V∧Kp F w w'∧Q w') (fun v w' τ d ⟨h1,h2,h3⟩=>⟨h1,⟨h2.size,h2.block⟩,hQ w' τ d h3⟩) (fun τ d=>(hc τ d).mono fun e w' ⟨h1,h2,h3⟩=>⟨V,h1,rfl,⟨h2.size,h2.block⟩,h3⟩) (fun v w' hr=>k v w' hr)
section
variable {sb:Nat}{bl:Nat→Nat}{st st':Nat→LoneSt}{q q':Nat→Int}{w w1 w2:World}{o:Nat}{k va vb:Int}
theorem bl_in {j:Nat}(hj:j<10):bl j∈bls bl:=List.mem_map.2 ⟨j,List.mem_range.2 hj,rfl⟩
theorem ShM.kp (h:ShM sb bl st q w)(kk:Kp [] w w1):ShM sb bl st q w1:=⟨fun j hj=>kk.cells _ _ _ (h.hs j hj),fun j hj=>kk.blk (h.bk j hj) (by simp),h.ne,h.sn⟩
theorem ShM.step {j:Nat}(h:ShM sb bl st q w)(hj:j<10)(kk:Kp [bl j] w w1)(hnew:Blk w1 (bl j) (shCells st' q' j) (shType j))(hold:∀ i,i<10→i≠j→shCells st' q' i=shCells st q i):ShM sb bl st' q' w1:=by
 refine⟨fun i hi=>?_,fun i hi=>?_,h.ne,h.sn⟩
 ·have hc:=h.hs i hi
  have hl:sb<w.heap.size:=by
   unfold World.cell? at hc;cases e:w.heap[sb]? with
   | none=>rw[e] at hc;simp at hc
   | some x=>exact(aq' e).1
  exact(cell_same (kk.block sb hl (by simpa using (h.sn j hj).symm))).trans hc
 ·by_cases e:i=j
  ·subst e;exact hnew
  ·rw[hold i hi e]
   exact kk.blk (h.bk i hi) (by simpa using h.ne i j hi hj e)
theorem sh_R {j:Nat}{l':LoneSt}{x y:Int}(h:ShM sb bl st q w)(k1:Kp [] w w1)(hj:j<10)(k2:Kp [bl j] w1 w2)(hl:loneDo k va vb (st o)=(l',x,y))(hnew:Blk w2 (bl j) (shCells (setO st o l') q' j) (shType j))(hold:∀ i,i<10→i≠j→shCells (setO st o l') q' i=shCells st q i:=by intro i hi hne;obtain _ | _ | _ | _ | _ | _ | _ | _ | _ | _ | i:=i<;>first | rfl | exact absurd rfl hne | omega):ShR sb bl st o k va vb w (.tuple #[.int .i64 x,.int .i64 y]) w2:=by
 unfold ShR;rw[hl];exact⟨rfl,⟨q',(h.kp k1).step hj k2 hnew hold⟩,⟨Nat.le_trans k1.size k2.size,fun b hb hn=>(k2.block b (nl' hb k1.size) fun hm=>hn (by rw[List.mem_singleton.1 hm];exact bl_in hj)).trans (k1.block b hb (by simp))⟩⟩
theorem sh_same {x y:Int}(h:ShM sb bl st q w)(k1:Kp [] w w2)(hl:loneDo k va vb (st o)=(st o,x,y)):ShR sb bl st o k va vb w (.tuple #[.int .i64 x,.int .i64 y]) w2:=by
 unfold ShR;rw[hl];have e:setO st o (st o)=st:=by
  funext i;unfold setO;split
  ·rename_i e;rw[e]
  ·rfl
 rw[e];exact⟨rfl,⟨q,h.kp k1⟩,k1.size,fun b hb _=>k1.block b hb (by simp)⟩
theorem sh1 (h:ShM sb bl st q w)(k1:Kp [] w w1)(ho:o=0∨o=1):CCn 28 #[ptr (bl (0+o)),.pointer none] w1 (I1 (ShR sb bl st o 1 va vb w)):=by
 have B:=(h.kp k1).bk (0+o) (by omega);by_cases hc:(st o).m = -1
 ·have e:loneDo 1 va vb (st o)=({st o with m:=-2},0,0):=by simp[loneDo,loneRest,hc]
  rcases ho with rfl | rfl<;>exact(lock_nil_true hc B).mono fun v w2 ⟨hv,k2,b2⟩=>⟨_,hv,sh_R h k1 (q':=q) (by omega) k2 e b2⟩
 ·have e:loneDo 1 va vb (st o)=(st o,91,0):=by simp[loneDo,loneRest,hc]
  rcases ho with rfl | rfl<;>exact(lock_nil_false hc B).mono fun v w2 ⟨hv,k2,b2⟩=>⟨_,hv,sh_R h k1 (q':=q) (by omega) k2 e b2⟩
theorem sh2 (h:ShM sb bl st q w)(k1:Kp [] w w1)(ho:o=0∨o=1):CCn 44 #[ptr (bl (0+o)),.pointer none] w1 (I2 (ShR sb bl st o 2 va vb w)):=by
 have B:=(h.kp k1).bk (0+o) (by omega);by_cases hc:(st o).m = -1
 ·have e:loneDo 2 va vb (st o)=({st o with m:=-2},0,1):=by simp[loneDo,loneRest,hc]
  rcases ho with rfl | rfl<;>exact(try_nil_true hc B).mono fun v w2 ⟨hv,k2,b2⟩=>⟨_,_,hv,sh_R h k1 (q':=q) (by omega) k2 e b2⟩
 ·have e:loneDo 2 va vb (st o)=(st o,0,0):=by simp[loneDo,loneRest,hc]
  rcases ho with rfl | rfl<;>exact(try_nil_false hc B).mono fun v w2 ⟨hv,k2,b2⟩=>⟨_,_,hv,sh_R h k1 (q':=q) (by omega) k2 e b2⟩
theorem sh3 (h:ShM sb bl st q w)(k1:Kp [] w w1)(ho:o=0∨o=1):CCn 30 #[ptr (bl (0+o)),.pointer none] w1 (I1 (ShR sb bl st o 3 va vb w)):=by
 have B:=(h.kp k1).bk (0+o) (by omega);by_cases hc:(st o).m = -2
 ·have e:loneDo 3 va vb (st o)=({st o with m:=-1},0,0):=by simp[loneDo,loneRest,hc]
  rcases ho with rfl | rfl<;>exact(un30 <| un38_true hc B).mono fun v w2 ⟨hv,k2,b2⟩=>⟨_,hv,sh_R h k1 (q':=q) (by omega) k2 e b2⟩
 ·have e:loneDo 3 va vb (st o)=(st o,90,0):=by simp[loneDo,loneRest,hc]
  rcases ho with rfl | rfl<;>exact(un30 <| un38_false hc B).mono fun v w2 ⟨hv,k2,b2⟩=>⟨_,hv,sh_R h k1 (q':=q) (by omega) k2 e b2⟩
theorem sh5 (h:ShM sb bl st q w)(k1:Kp [] w w1)(ho:o=0∨o=1):CCn 15 #[ptr (bl (2+o)),.pointer none] w1 (I1 (ShR sb bl st o 5 va vb w)):=by
 have B:=(h.kp k1).bk (2+o) (by omega);by_cases hc:(st o).f = -1
 ·have e:loneDo 5 va vb (st o)=({st o with f:=-2},0,0):=by simp[loneDo,hc]
  rcases ho with rfl | rfl
  ·exact(fair_nil_true hc B).mono fun v w2 ⟨hv,k2,b2⟩=>⟨_,hv,sh_R h k1 (q':=setQ q 0 (wrap64 (q 0+1))) (by omega) k2 e b2⟩
  ·exact(fair_nil_true hc B).mono fun v w2 ⟨hv,k2,b2⟩=>⟨_,hv,sh_R h k1 (q':=setQ q 1 (wrap64 (q 1+1))) (by omega) k2 e b2⟩
 ·have e:loneDo 5 va vb (st o)=(st o,91,0):=by simp[loneDo,loneRest,hc]
  rcases ho with rfl | rfl<;>exact(fair_nil_false hc B).mono fun v w2 ⟨hv,k2,b2⟩=>⟨_,hv,sh_R h k1 (q':=q) (by omega) k2 e b2⟩
theorem sh6 (h:ShM sb bl st q w)(k1:Kp [] w w1)(ho:o=0∨o=1):CCn 16 #[ptr (bl (2+o)),.pointer none] w1 (I1 (ShR sb bl st o 6 va vb w)):=by
 have B:=(h.kp k1).bk (2+o) (by omega);by_cases hc:(st o).f = -2
 ·have e:loneDo 6 va vb (st o)=({st o with f:=-1},0,0):=by simp[loneDo,loneRest,hc]
  rcases ho with rfl | rfl<;>exact(un16 <| un38_true hc B).mono fun v w2 ⟨hv,k2,b2⟩=>⟨_,hv,sh_R h k1 (q':=q) (by omega) k2 e b2⟩
 ·have e:loneDo 6 va vb (st o)=(st o,90,0):=by simp[loneDo,loneRest,hc]
  rcases ho with rfl | rfl<;>exact(un16 <| un38_false hc B).mono fun v w2 ⟨hv,k2,b2⟩=>⟨_,hv,sh_R h k1 (q':=q) (by omega) k2 e b2⟩
theorem sh8 (h:ShM sb bl st q w)(k1:Kp [] w w1)(ho:o=0∨o=1):CCn 46 #[ptr (bl (4+o)),.pointer none] w1 (I1 (ShR sb bl st o 8 va vb w)):=by
 have B:=(h.kp k1).bk (4+o) (by omega);by_cases hc:(st o).wr = -1
 ·have e:loneDo 8 va vb (st o)=({st o with rd:=wrap64 ((st o).rd+1)},0,0):=by simp[loneDo,loneRest,hc]
  rcases ho with rfl | rfl<;>exact(rlock_nil_true hc B).mono fun v w2 ⟨hv,k2,b2⟩=>⟨_,hv,sh_R h k1 (q':=q) (by omega) k2 e b2⟩
 ·have e:loneDo 8 va vb (st o)=(st o,91,0):=by simp[loneDo,loneRest,hc]
  rcases ho with rfl | rfl<;>exact(rlock_nil_false hc B).mono fun v w2 ⟨hv,k2,b2⟩=>⟨_,hv,sh_R h k1 (q':=q) (by omega) k2 e b2⟩
theorem sh11 (h:ShM sb bl st q w)(k1:Kp [] w w1)(ho:o=0∨o=1):CCn 49 #[ptr (bl (4+o)),.pointer none] w1 (I1 (ShR sb bl st o 11 va vb w)):=by
 have B:=(h.kp k1).bk (4+o) (by omega);by_cases hc:(st o).wr = -2
 ·have e:loneDo 11 va vb (st o)=({st o with wr:=-1},0,0):=by simp[loneDo,loneRest,hc]
  rcases ho with rfl | rfl<;>exact(un49 <| un38_true hc B).mono fun v w2 ⟨hv,k2,b2⟩=>⟨_,hv,sh_R h k1 (q':=q) (by omega) k2 e b2⟩
 ·have e:loneDo 11 va vb (st o)=(st o,90,0):=by simp[loneDo,loneRest,hc]
  rcases ho with rfl | rfl<;>exact(un49 <| un38_false hc B).mono fun v w2 ⟨hv,k2,b2⟩=>⟨_,hv,sh_R h k1 (q':=q) (by omega) k2 e b2⟩
theorem sh18 (h:ShM sb bl st q w)(k1:Kp [] w w1)(ho:o=0∨o=1):CCn 10 #[ptr (bl (8+o)),.pointer none] w1 (I1 (ShR sb bl st o 18 va vb w)):=by
 have B:=(h.kp k1).bk (8+o) (by omega);have e:loneDo 18 va vb (st o)=({st o with ac:=wrap64 ((st o).ac+1)},(st o).c,0):=by simp[loneDo,loneRest]
 rcases ho with rfl | rfl<;>exact(load_nil B).mono fun v w2 ⟨hv,k2,b2⟩=>⟨_,hv,sh_R h k1 (q':=q) (by omega) k2 e b2⟩
theorem sh19 (h:ShM sb bl st q w)(k1:Kp [] w w1)(ho:o=0∨o=1):CCn 77 #[ptr (bl (8+o)),.pointer none,.int .i64 va] w1 (I0 (ShR sb bl st o 19 va vb w)):=by
 have B:=(h.kp k1).bk (8+o) (by omega);have e:loneDo 19 va vb (st o)=({st o with ac:=wrap64 ((st o).ac+1),c:=va},0,0):=by simp[loneDo,loneRest]
 rcases ho with rfl | rfl<;>exact(store_nil B).mono fun v w2 ⟨hv,k2,b2⟩=>⟨hv,sh_R h k1 (q':=q) (by omega) k2 e b2⟩
theorem sh20 (h:ShM sb bl st q w)(k1:Kp [] w w1)(ho:o=0∨o=1):CCn 78 #[ptr (bl (8+o)),.pointer none,.int .i64 va] w1 (I1 (ShR sb bl st o 20 va vb w)):=by
 have B:=(h.kp k1).bk (8+o) (by omega);have e:loneDo 20 va vb (st o)=({st o with ac:=wrap64 ((st o).ac+1),c:=va},(st o).c,0):=by simp[loneDo,loneRest]
 rcases ho with rfl | rfl<;>exact(swap_nil B).mono fun v w2 ⟨hv,k2,b2⟩=>⟨_,hv,sh_R h k1 (q':=q) (by omega) k2 e b2⟩
theorem sh21 (h:ShM sb bl st q w)(k1:Kp [] w w1)(ho:o=0∨o=1):CCn 11 #[ptr (bl (8+o)),.pointer none,.int .i64 va,.int .i64 vb] w1 (IB (ShR sb bl st o 21 va vb w)):=by
 have B:=(h.kp k1).bk (8+o) (by omega);by_cases hc:(st o).c=va
 ·have e:loneDo 21 va vb (st o)=({st o with ac:=wrap64 ((st o).ac+1),c:=vb},1,0):=by simp[loneDo,loneRest,hc]
  rcases ho with rfl | rfl<;>exact(cas_nil_true hc B).mono fun v w2 ⟨hv,k2,b2⟩=>⟨_,hv,sh_R h k1 (q':=q) (by omega) k2 e b2⟩
 ·have e:loneDo 21 va vb (st o)=({st o with ac:=wrap64 ((st o).ac+1)},0,0):=by simp[loneDo,loneRest,hc]
  rcases ho with rfl | rfl<;>exact(cas_nil_false hc B).mono fun v w2 ⟨hv,k2,b2⟩=>⟨_,hv,sh_R h k1 (q':=q) (by omega) k2 e b2⟩
theorem sh9 (h:ShM sb bl st q w)(k1:Kp [] w w1)(ho:o=0∨o=1):CCn 47 #[ptr (bl (4+o)),.pointer none] w1 (I1 (ShR sb bl st o 9 va vb w)):=by
 have B:=(h.kp k1).bk (4+o) (by omega);by_cases hc:(st o).rd=0
 ·have e:loneDo 9 va vb (st o)=(st o,90,0):=by simp[loneDo,loneRest,hc]
  rcases ho with rfl | rfl<;>exact(runlock_nil_false hc B).mono fun v w2 ⟨hv,k2,b2⟩=>⟨_,hv,sh_R h k1 (q':=q) (by omega) k2 e b2⟩
 ·have e:loneDo 9 va vb (st o)=({st o with rd:=wrap64 ((st o).rd-1)},0,0):=by simp[loneDo,loneRest,hc]
  rcases ho with rfl | rfl<;>exact(runlock_nil_true hc B).mono fun v w2 ⟨hv,k2,b2⟩=>⟨_,hv,sh_R h k1 (q':=q) (by omega) k2 e b2⟩
theorem sh10 (h:ShM sb bl st q w)(k1:Kp [] w w1)(ho:o=0∨o=1):CCn 48 #[ptr (bl (4+o)),.pointer none] w1 (I1 (ShR sb bl st o 10 va vb w)):=by
 have B:=(h.kp k1).bk (4+o) (by omega);have e0:wrap64 (wrap64 (0+1)-1)=0:=by unfold wrap64;omega
 by_cases hc:(st o).wr = -1∧(st o).rd=0
 ·have e:loneDo 10 va vb (st o)=({st o with wr:=-2},0,0):=by show(if (st o).wr = -1∧(st o).rd=0 then _ else _)=_;rw[if_pos hc]
  rcases ho with rfl | rfl<;>exact(wlock_nil_true (by rw[decide_eq_true hc.1,decide_eq_true hc.2];rfl) B).mono fun v w2 ⟨hv,k2,b2⟩=>⟨_,hv,sh_R h k1 (q':=q) (by omega) k2 e (by rw[e0] at b2;exact b2)⟩
 ·have e:loneDo 10 va vb (st o)=(st o,91,0):=by show(if (st o).wr = -1∧(st o).rd=0 then _ else _)=_;rw[if_neg hc]
  rcases ho with rfl | rfl<;>exact(wlock_nil_false (by rw[← Bool.decide_and];exact decide_eq_false hc) B).mono fun v w2 ⟨hv,k2,b2⟩=>⟨_,hv,sh_R h k1 (q':=q) (by omega) k2 e b2⟩
theorem sh17 (h:ShM sb bl st q w)(k1:Kp [] w w1)(ho:o=0∨o=1):CCn 76 #[ptr (bl (6+o)),.pointer none] w1 (I1 (ShR sb bl st o 17 va vb w)):=by
 have B:=(h.kp k1).bk (6+o) (by omega);by_cases hc:0<(st o).g
 ·have e:loneDo 17 va vb (st o)=(st o,91,0):=by simp[loneDo,loneRest,hc]
  rcases ho with rfl | rfl<;>exact(gwait_nil_false hc B).mono fun v w2 ⟨hv,k2,b2⟩=>⟨_,hv,sh_R h k1 (q':=q) (by omega) k2 e b2⟩
 ·have e:loneDo 17 va vb (st o)=(st o,0,0):=by simp[loneDo,loneRest,hc]
  rcases ho with rfl | rfl<;>exact(gwait_nil_true hc B).mono fun v w2 ⟨hv,k2,b2⟩=>⟨_,hv,sh_R h k1 (q':=q) (by omega) k2 e b2⟩
theorem sh4 (h:ShM sb bl st q w)(k1:Kp [] w w1)(ho:o=0∨o=1):CCn 31 #[ptr (bl (0+o))] w1 (I1 (ShR sb bl st o 4 va vb w)):=by
 have B:=(h.kp k1).bk (0+o) (by omega);rcases ho with rfl | rfl<;>exact(CCn.pureAt (f:=31) rfl fun τ d=>holder_calls (re w1 τ d) _ (B.cell 0) (B.cell 1)).mono fun v w2 ⟨hv,hw⟩=>⟨_,hv,sh_same h (hw▸k1) (by simp[loneDo,loneRest])⟩
theorem sh12 (h:ShM sb bl st q w)(k1:Kp [] w w1)(ho:o=0∨o=1):CCn 50 #[ptr (bl (4+o))] w1 (I1 (ShR sb bl st o 12 va vb w)):=by
 have B:=(h.kp k1).bk (4+o) (by omega);rcases ho with rfl | rfl<;>exact(CCn.pureAt (f:=50) rfl fun τ d=>readers_calls (re w1 τ d) B).mono fun v w2 ⟨hv,hw⟩=>⟨_,hv,sh_same h (hw▸k1) (by simp[loneDo,loneRest])⟩
theorem sh13 (h:ShM sb bl st q w)(k1:Kp [] w w1)(ho:o=0∨o=1):CCn 51 #[ptr (bl (4+o))] w1 (IB (ShR sb bl st o 13 va vb w)):=by
 have B:=(h.kp k1).bk (4+o) (by omega);rcases ho with rfl | rfl
 ·exact(CCn.pureAt (f:=51) rfl fun τ d=>writer_calls (re w1 τ d) B).mono fun v w2 ⟨hv,hw⟩=>⟨_,hv,sh_same h (hw▸k1) (by by_cases hc:(st 0).wr = -1<;>simp[loneDo,hc])⟩
 ·exact(CCn.pureAt (f:=51) rfl fun τ d=>writer_calls (re w1 τ d) B).mono fun v w2 ⟨hv,hw⟩=>⟨_,hv,sh_same h (hw▸k1) (by by_cases hc:(st 1).wr = -1<;>simp[loneDo,hc])⟩
theorem sh16 (h:ShM sb bl st q w)(k1:Kp [] w w1)(ho:o=0∨o=1):CCn 75 #[ptr (bl (6+o))] w1 (I1 (ShR sb bl st o 16 va vb w)):=by
 have B:=(h.kp k1).bk (6+o) (by omega);rcases ho with rfl | rfl<;>exact(CCn.pureAt (f:=75) rfl fun τ d=>gcount_calls (re w1 τ d) B).mono fun v w2 ⟨hv,hw⟩=>⟨_,hv,sh_same h (hw▸k1) (by simp[loneDo,loneRest])⟩
theorem sh22 (h:ShM sb bl st q w)(k1:Kp [] w w1)(ho:o=0∨o=1):CCn 79 #[ptr (bl (8+o))] w1 (I1 (ShR sb bl st o 22 va vb w)):=by
 have B:=(h.kp k1).bk (8+o) (by omega);rcases ho with rfl | rfl<;>exact(CCn.pureAt (f:=79) rfl fun τ d=>acts_calls (re w1 τ d) B).mono fun v w2 ⟨hv,hw⟩=>⟨_,hv,sh_same h (hw▸k1) (by simp[loneDo,loneRest])⟩
theorem sh7 (h:ShM sb bl st q w)(k1:Kp [] w w1)(ho:o=0∨o=1):CCn 17 #[ptr (bl (2+o))] w1 (I1 (ShR sb bl st o 7 va vb w)):=by
 have B:=(h.kp k1).bk (2+o) (by omega);have e0:∀ x:Int,wrap64 (x-x)=0:=fun x=>by unfold wrap64;omega
 rcases ho with rfl | rfl
 ·exact(CCn.of (f:=17) (V:=.int .i64 (wrap64 (q 0-q 0))) (F:=[]) (Q:=fun _=>True) rfl (fun _ _ _ h=>h) fun τ d=>(waiting_calls (re w1 τ d) _ B).mono fun e w' h=>⟨h.1,Keeps.kp h.2,trivial⟩).mono fun v w2 ⟨hv,k2,_⟩=>⟨_,hv,by rw[e0];exact sh_same h (k1.trans k2) (by simp[loneDo,loneRest])⟩
 ·exact(CCn.of (f:=17) (V:=.int .i64 (wrap64 (q 1-q 1))) (F:=[]) (Q:=fun _=>True) rfl (fun _ _ _ h=>h) fun τ d=>(waiting_calls (re w1 τ d) _ B).mono fun e w' h=>⟨h.1,Keeps.kp h.2,trivial⟩).mono fun v w2 ⟨hv,k2,_⟩=>⟨_,hv,by rw[e0];exact sh_same h (k1.trans k2) (by simp[loneDo,loneRest])⟩
theorem sh14 (h:ShM sb bl st q w)(k1:Kp [] w w1)(ho:o=0∨o=1):CCn 73 #[ptr (bl (6+o))] w1 (I1 (ShR sb bl st o 14 va vb w)):=by
 have B:=(h.kp k1).bk (6+o) (by omega);have B':Blk w1 (bl (6+o)) [.bool true,.int .i64 (st o).g] 141:=by rcases ho with rfl | rfl<;>exact B
 have e:loneDo 14 va vb (st o)=({st o with g:=wrap64 ((st o).g+1)},0,0):=by simp[loneDo,loneRest]
 exact(CCn.of (f:=73) (V:=.int .i64 0) (F:=[bl (6+o)]) (Q:=fun w2=>Blk w2 (bl (6+o)) [.bool true,.int .i64 (wrap64 ((st o).g+1))] 141) rfl (fun _ _ _ h=>h) fun τ d=>(genter_calls (re w1 τ d) B').mono fun e w' h=>⟨h.1,by rw[h.2];exact Kp.set _ _ _ _,by rw[h.2];exact Blk.set (w:=re w1 τ d) B' 1 _⟩).mono fun v w2 ⟨hv,k2,b2⟩=>⟨_,hv,by rcases ho with rfl | rfl<;>exact sh_R h k1 (q':=q) (by omega) k2 e b2⟩
theorem sh15 (h:ShM sb bl st q w)(k1:Kp [] w w1)(ho:o=0∨o=1):CCn 74 #[ptr (bl (6+o))] w1 (I1 (ShR sb bl st o 15 va vb w)):=by
 have B:=(h.kp k1).bk (6+o) (by omega);have B':Blk w1 (bl (6+o)) [.bool true,.int .i64 (st o).g] 141:=by rcases ho with rfl | rfl<;>exact B
 by_cases hc:(st o).g=0
 ·exact(CCn.pureAt (f:=74) (V:=.int .i64 90) rfl fun τ d=>(gleave_calls (re w1 τ d) B').mono fun e w' h=>⟨h.1.trans (by rw[if_pos hc]),h.2.trans (by rw[if_pos hc])⟩).mono fun v w2 ⟨hv,hw⟩=>⟨_,hv,sh_same h (hw▸k1) (by simp[loneDo,loneRest,hc])⟩
 ·have e:loneDo 15 va vb (st o)=({st o with g:=wrap64 ((st o).g-1)},0,0):=by simp[loneDo,loneRest,hc]
  exact(CCn.of (f:=74) (V:=.int .i64 0) (F:=[bl (6+o)]) (Q:=fun w2=>Blk w2 (bl (6+o)) [.bool true,.int .i64 (wrap64 ((st o).g-1))] 141) rfl (fun _ _ _ h=>h) fun τ d=>(gleave_calls (re w1 τ d) B').mono fun e w' h=>⟨h.1.trans (by rw[if_neg hc]),by rw[h.2,if_neg hc];exact Kp.set _ _ _ _,by rw[h.2,if_neg hc];exact Blk.set (w:=re w1 τ d) B' 1 _⟩).mono fun v w2 ⟨hv,k2,b2⟩=>⟨_,hv,by rcases ho with rfl | rfl<;>exact sh_R h k1 (q':=q) (by omega) k2 e b2⟩
theorem sh_more {ob:Int}(h:ShM sb bl st q w)(ho:bitO ob=0∨bitO ob=1)(n1:k≠1)(n2:k≠2)(n3:k≠3)(n4:k≠4)(n5:k≠5)(n6:k≠6)(n7:k≠7)(n8:k≠8)(n9:k≠9)(n10:k≠10)(n11:k≠11)(n12:k≠12)(n13:k≠13){w0:World}(k0:Kp [] w0 w)(h0:ShM sb bl st q w0):CCn 52 #[ptr sb,.pointer none,.agg #[.int .i64 k,.int .i64 ob,.int .i64 va,.int .i64 vb]] w (fun v w2=>∃ x,v=.int .i64 x∧ShR sb bl st (bitO ob) k va vb w0 (.tuple #[.int .i64 x,.int .i64 0]) w2):=by
 refine more_cc (p:=fun j=>some ⟨bl j,0,none⟩) (R:=ShR sb bl st (bitO ob) k va vb w0) h.hs (fun hk w1 k1=>by subst hk;exact sh14 h0 (k0.trans k1) ho) (fun hk w1 k1=>by subst hk;exact sh15 h0 (k0.trans k1) ho) (fun hk w1 k1=>by subst hk;exact sh16 h0 (k0.trans k1) ho) (fun hk w1 k1=>by subst hk;exact sh17 h0 (k0.trans k1) ho) (fun hk w1 k1=>by subst hk;exact sh18 h0 (k0.trans k1) ho) (fun hk w1 k1=>by subst hk;exact sh19 h0 (k0.trans k1) ho) (fun hk w1 k1=>by subst hk;exact sh20 h0 (k0.trans k1) ho) (fun hk w1 k1=>by subst hk;exact sh21 h0 (k0.trans k1) ho) (fun hk w1 k1=>by subst hk;exact sh22 h0 (k0.trans k1) ho) (fun hk w1 k1=>by subst hk;exact sh_same h0 (k0.trans k1) (by simp[loneDo,loneRest])) (fun⟨m14,m15,m16,m17,m18,m19,m20,m21,m22,m23⟩ w1 k1=>sh_same h0 (k0.trans k1) (by unfold loneDo loneRest;rw[if_neg n1,if_neg n2,if_neg n3,if_neg n4,if_neg n5,if_neg n6,if_neg n8,if_neg n9,if_neg n10,if_neg n11,if_neg n12,if_neg n13,if_neg m14,if_neg m15,if_neg m16,if_neg m17,if_neg m22,if_neg m18,if_neg m19,if_neg m20,if_neg m21]))
theorem sh_does {ob:Int}(h:ShM sb bl st q w):CCn 24 #[ptr sb,.pointer none,.agg #[.int .i64 k,.int .i64 ob,.int .i64 va,.int .i64 vb]] w (ShR sb bl st (bitO ob) k va vb w):=by
 have ho:bitO ob=0∨bitO ob=1:=by have:=bitO_lt ob;omega
 exact does_cc (p:=fun j=>some ⟨bl j,0,none⟩) (R:=ShR sb bl st (bitO ob) k va vb w) h.hs (fun hk w1 k1=>by subst hk;exact sh1 h k1 ho) (fun hk w1 k1=>by subst hk;exact sh2 h k1 ho) (fun hk w1 k1=>by subst hk;exact sh3 h k1 ho) (fun hk w1 k1=>by subst hk;exact sh4 h k1 ho) (fun hk w1 k1=>by subst hk;exact sh5 h k1 ho) (fun hk w1 k1=>by subst hk;exact sh6 h k1 ho) (fun hk w1 k1=>by subst hk;exact sh7 h k1 ho) (fun hk w1 k1=>by subst hk;exact sh8 h k1 ho) (fun hk w1 k1=>by subst hk;exact sh9 h k1 ho) (fun hk w1 k1=>by subst hk;exact sh10 h k1 ho) (fun hk w1 k1=>by subst hk;exact sh11 h k1 ho) (fun hk w1 k1=>by subst hk;exact sh12 h k1 ho) (fun hk w1 k1=>by subst hk;exact sh13 h k1 ho) (fun⟨n1,n2,n3,n4,n5,n6,n7,n8,n9,n10,n11,n12,n13⟩ w1 k1=>sh_more (h.kp k1) ho n1 n2 n3 n4 n5 n6 n7 n8 n9 n10 n11 n12 n13 k1 h)
end
section
variable {nb:Nat}{w w1:World}{k va vb:Int}
def NilR (k:Int)(w:World)(v:Value)(w2:World):Prop:=v=.tuple #[.int .i64 (noneDo k).1,.int .i64 (noneDo k).2]∧Kp [] w w2
theorem nil_more {ob:Int}(hs:∀ j,j<10→w.cell? ⟨nb,j,none⟩=some (.pointer none))(n1:k≠1)(n2:k≠2)(n3:k≠3)(n4:k≠4)(n5:k≠5)(n6:k≠6)(n7:k≠7)(n8:k≠8)(n9:k≠9)(n10:k≠10)(n11:k≠11)(n12:k≠12)(n13:k≠13){w0:World}(k0:Kp [] w0 w):CCn 52 #[ptr nb,.pointer none,.agg #[.int .i64 k,.int .i64 ob,.int .i64 va,.int .i64 vb]] w (fun v w2=>∃ x,v=.int .i64 x∧NilR k w0 (.tuple #[.int .i64 x,.int .i64 0]) w2):=by
 refine more_cc (p:=fun _=>none) (R:=NilR k w0) hs (fun hk w1 k1=>by
  subst hk;refine CCn.mono (CCn.pure (f:=73) rfl genter_nil) fun v w2 ⟨hv,hw⟩=>⟨_,hv,?_⟩;subst hw;exact⟨by simp[noneDo],k0.trans k1⟩) (fun hk w1 k1=>by
  subst hk;refine CCn.mono (CCn.pure (f:=74) rfl gleave_nil) fun v w2 ⟨hv,hw⟩=>⟨_,hv,?_⟩;subst hw;exact⟨by simp[noneDo],k0.trans k1⟩) (fun hk w1 k1=>by
  subst hk;refine CCn.mono (CCn.pure (f:=75) rfl gcount_nil) fun v w2 ⟨hv,hw⟩=>⟨_,hv,?_⟩;subst hw;exact⟨by simp[noneDo],k0.trans k1⟩) (fun hk w1 k1=>by
  subst hk;refine CCn.mono (gwait_nn) fun v w2 ⟨hv,k2⟩=>⟨_,hv,?_⟩;exact⟨by simp[noneDo],k0.trans (k1.trans k2)⟩) (fun hk w1 k1=>by
  subst hk;refine CCn.mono (load_nn) fun v w2 ⟨hv,k2⟩=>⟨_,hv,?_⟩;exact⟨by simp[noneDo],k0.trans (k1.trans k2)⟩) (fun hk w1 k1=>by
  subst hk;refine CCn.mono (store_nn) fun v w2 ⟨hv,k2⟩=>⟨hv,?_⟩;exact⟨by simp[noneDo],k0.trans (k1.trans k2)⟩) (fun hk w1 k1=>by
  subst hk;refine CCn.mono (swap_nn) fun v w2 ⟨hv,k2⟩=>⟨_,hv,?_⟩;exact⟨by simp[noneDo],k0.trans (k1.trans k2)⟩) (fun hk w1 k1=>by
  subst hk;refine CCn.mono (cas_nn) fun v w2 ⟨hv,k2⟩=>⟨_,hv,?_⟩;exact⟨by simp[noneDo],k0.trans (k1.trans k2)⟩) (fun hk w1 k1=>by
  subst hk;refine CCn.mono (CCn.pure (f:=79) rfl acts_nil) fun v w2 ⟨hv,hw⟩=>⟨_,hv,?_⟩;subst hw;exact⟨by simp[noneDo],k0.trans k1⟩) (fun hk w1 k1=>by subst hk;exact⟨by simp[noneDo],k0.trans k1⟩) (fun⟨m14,m15,m16,m17,m18,m19,m20,m21,m22,m23⟩ w1 k1=>⟨by simp[noneDo,n1,n2,n3,n4,n5,n6,n7,n8,n9,n10,n11,n12,n13,m14,m15,m17],k0.trans k1⟩)
theorem nil_does {ob:Int}(hs:∀ j,j<10→w.cell? ⟨nb,j,none⟩=some (.pointer none)):CCn 24 #[ptr nb,.pointer none,.agg #[.int .i64 k,.int .i64 ob,.int .i64 va,.int .i64 vb]] w (NilR k w):=by
 have k0:Kp [] w w:=⟨Nat.le_refl _,fun _ _ _=>rfl⟩;exact does_cc (p:=fun _=>none) (R:=NilR k w) hs (fun hk w1 k1=>by
  subst hk;refine CCn.mono (lock_nn) fun v w2 ⟨hv,k2⟩=>⟨_,hv,?_⟩;exact⟨by simp[noneDo],k0.trans (k1.trans k2)⟩) (fun hk w1 k1=>by
  subst hk;refine CCn.mono (try_nn) fun v w2 ⟨hv,k2⟩=>⟨_,_,hv,?_⟩;exact⟨by simp[noneDo],k0.trans (k1.trans k2)⟩) (fun hk w1 k1=>by
  subst hk;refine CCn.mono (unlockM_nn) fun v w2 ⟨hv,k2⟩=>⟨_,hv,?_⟩;exact⟨by simp[noneDo],k0.trans (k1.trans k2)⟩) (fun hk w1 k1=>by
  subst hk;refine CCn.mono (CCn.pure (f:=31) rfl holder_nil) fun v w2 ⟨hv,hw⟩=>⟨_,hv,?_⟩;subst hw;exact⟨by simp[noneDo],k0.trans k1⟩) (fun hk w1 k1=>by
  subst hk;refine CCn.mono (fair_nn) fun v w2 ⟨hv,k2⟩=>⟨_,hv,?_⟩;exact⟨by simp[noneDo],k0.trans (k1.trans k2)⟩) (fun hk w1 k1=>by
  subst hk;refine CCn.mono (unlockF_nn) fun v w2 ⟨hv,k2⟩=>⟨_,hv,?_⟩;exact⟨by simp[noneDo],k0.trans (k1.trans k2)⟩) (fun hk w1 k1=>by
  subst hk;refine CCn.mono (CCn.pure (f:=17) rfl waiting_nil) fun v w2 ⟨hv,hw⟩=>⟨_,hv,?_⟩;subst hw;exact⟨by simp[noneDo],k0.trans k1⟩) (fun hk w1 k1=>by
  subst hk;refine CCn.mono (rlock_nn) fun v w2 ⟨hv,k2⟩=>⟨_,hv,?_⟩;exact⟨by simp[noneDo],k0.trans (k1.trans k2)⟩) (fun hk w1 k1=>by
  subst hk;refine CCn.mono (runlock_nn) fun v w2 ⟨hv,k2⟩=>⟨_,hv,?_⟩;exact⟨by simp[noneDo],k0.trans (k1.trans k2)⟩) (fun hk w1 k1=>by
  subst hk;refine CCn.mono (wlock_nn) fun v w2 ⟨hv,k2⟩=>⟨_,hv,?_⟩;exact⟨by simp[noneDo],k0.trans (k1.trans k2)⟩) (fun hk w1 k1=>by
  subst hk;refine CCn.mono (unlockR_nn) fun v w2 ⟨hv,k2⟩=>⟨_,hv,?_⟩;exact⟨by simp[noneDo],k0.trans (k1.trans k2)⟩) (fun hk w1 k1=>by
  subst hk;refine CCn.mono (CCn.pure (f:=50) rfl readers_nil) fun v w2 ⟨hv,hw⟩=>⟨_,hv,?_⟩;subst hw;exact⟨by simp[noneDo],k0.trans k1⟩) (fun hk w1 k1=>by
  subst hk;refine CCn.mono (CCn.pure (f:=51) rfl writer_nil) fun v w2 ⟨hv,hw⟩=>⟨_,hv,?_⟩;subst hw;exact⟨by simp[noneDo],k0.trans k1⟩) (fun⟨n1,n2,n3,n4,n5,n6,n7,n8,n9,n10,n11,n12,n13⟩ w1 k1=>nil_more (fun j hj=>k1.cells _ _ _ (hs j hj)) n1 n2 n3 n4 n5 n6 n7 n8 n9 n10 n11 n12 n13 k1)
end
def q22:Code:=Try.f22.body.getD .skip
theorem fg22 (x:Nat→Value):fg 40 x=#[x 0,x 1,x 2,x 3,x 4,x 5,x 6,x 7,x 8,x 9,x 10,x 11,x 12,x 13,x 14,x 15,x 16,x 17,x 18,x 19,x 20,x 21,x 22,x 23,x 24,x 25,x 26,x 27,x 28,x 29,x 30,x 31,x 32,x 33,x 34,x 35,x 36,x 37,x 38,x 39]:=rfl
def lone0:LoneSt:=⟨-1,-1,-1,0,0,0,0⟩
def nQ (n:Nat)(Pr:(Nat→Value)→Prop)(sb:Nat)(cs:List Value)(idx:Nat)(nc:List Value)(nt:TypeId)(w:World)(t:Array Value)(w':World):Prop:=∃ x,t=fg n x∧Pr x∧Kp [sb] w w'∧Blk w' sb (cs.set idx (ptr w.heap.size)) 74∧Blk w' w.heap.size nc nt
theorem nQ_re {n:Nat}{Pr:(Nat→Value)→Prop}{sb:Nat}{cs:List Value}{idx:Nat}{nc:List Value}{nt:TypeId}{w w':World}{t:Array Value}(h:nQ n Pr sb cs idx nc nt w t w')(τ:Nat→Question→Nat)(d:Nat):nQ n Pr sb cs idx nc nt w t (re w' τ d):=let ⟨x,h1,h2,h3,h4⟩:=h;⟨x,h1,h2,⟨h3.size,h3.block⟩,h4⟩
theorem nQ_un {n:Nat}{Pr:(Nat→Value)→Prop}{sb:Nat}{cs:List Value}{idx:Nat}{nc:List Value}{nt:TypeId}{w w':World}{t:Array Value}{τ:Nat→Question→Nat}{d:Nat}(h:nQ n Pr sb cs idx nc nt (re w τ d) t w'):nQ n Pr sb cs idx nc nt w t w':=let ⟨x,h1,h2,h3,h4⟩:=h;⟨x,h1,h2,⟨h3.size,h3.block⟩,h4⟩
theorem nQ_mk {n:Nat}{Pr:(Nat→Value)→Prop}{sb:Nat}{cs:List Value}{idx:Nat}{nc:List Value}{nt:TypeId}{w:World}{t:Array Value}(hm:Blk w.drew sb cs 74)(hs:t.size=n)(h:Pr fun q=>t.getD q undef):nQ n Pr sb cs idx nc nt w t (((w.setCell ⟨sb,idx,none⟩ (ptr w.heap.size)).alloc (.cells nc.toArray nt)).drew):=by
 have hm:Blk w sb cs 74:=hm;have hz:(w.setCell ⟨sb,idx,none⟩ (ptr w.heap.size)).heap.size=w.heap.size:=World.size_setCell _ _ _;refine⟨_,t_fg hs,h,⟨?_,fun c hc hn=>?_⟩,(hm.set idx _).alloc _,?_⟩
 ·show w.heap.size≤((w.setCell ⟨sb,idx,none⟩ (ptr w.heap.size)).alloc (.cells nc.toArray nt)).heap.size
  rw[wz',hz];exact Nat.le_succ _
 ·show((w.setCell ⟨sb,idx,none⟩ (ptr w.heap.size)).alloc (.cells nc.toArray nt)).heap[c]?=w.heap[c]?
  rw[Go.RowKit.Below.heap_alloc _ _ c (by rw[hz];exact hc),setCell_frame (by simpa using hn)]
 ·have:=Blk.new (w.setCell ⟨sb,idx,none⟩ (ptr w.heap.size)) nc nt
  rw[hz] at this;exact this
structure Fr (w0:World)(sb:Nat)(cs:List Value)(L:List (Nat × List Value × TypeId))(w:World):Prop where
 kk:Kp [] w0 w
 ge:w0.heap.size≤sb
 bs:Blk w sb cs 74
 all:∀ q∈L,Blk w q.1 q.2.1 q.2.2∧w0.heap.size≤q.1∧q.2.2≠74
theorem Fr.at {w0 w:World}{sb:Nat}{cs:List Value}{L:List (Nat × List Value × TypeId)}{i:Nat}{q:Nat × List Value × TypeId}(F:Fr w0 sb cs L w)(h:L[i]?=some q):Blk w q.1 q.2.1 q.2.2∧w0.heap.size≤q.1∧q.2.2≠74:=F.all q (List.mem_of_getElem? h)
theorem fresh_step {m:Bool}{K:Goroutine→World→Prop}{cs:List Frame}{w w0:World}{x:Nat→Value}{c:Code}{k:List Item}{sb idx:Nat}{cl nc:List Value}{nt:TypeId}{L:List (Nat × List Value × TypeId)}{i:Nat}{v:Int}(hK:Cl Try.prog m K)(hc:okC fam3 Try.prog c=true)(ho:∀ τ d,c.wp Try.prog (fun e a' w'=>e=.normal∧a'.defers=[]∧nQ 40 (fun x=>x 1=ptr sb∧x 2=.int .i64 v) sb cl (idx+i) nc nt (re w0 τ d) a'.tmps w') ⟨fg 40 x,[]⟩ (re w0 τ d))(F:Fr w sb cl L w0)(hnt:nt≠74)
  (hn:∀ x w1 b,x 1=ptr sb→x 2=.int .i64 v→Fr w sb (cl.set (idx+i) (ptr b)) ((b,nc,nt)::L) w1→sb<b∧(∀ q∈L,q.1<b)→K (gs ((base 22).at ⟨fg 40 x,[]⟩ k) cs) w1):K (gs ((base 22).at ⟨fg 40 x,[]⟩ (.code c::k)) cs) w0:=by
 refine hK.seg fits shut3 (b:=base 22) ⟨_,Try.func22⟩ nofun (c:=c) hc (Q:=nQ 40 (fun x=>x 1=ptr sb∧x 2=.int .i64 v) sb cl (idx+i) nc nt w0) (fun t w' τ d h=>nQ_re h τ d) (fun τ d=>Code.wp_mono (fun e a w' ⟨h1,h2,h3⟩=>⟨h1,h2,nQ_un h3⟩) (ho τ d)) fun t w1 ⟨x',ex',⟨g1,g2⟩,ks,bs,bn⟩=>?_;subst ex';have hs:sb<w0.heap.size:=F.bs.lt;refine hn x' w1 _ g1 g2 ⟨F.kk.new ks (by simpa using F.ge),F.ge,bs,?_⟩ ⟨hs,fun q hq=>(F.all q hq).1.lt⟩;intro q hq;rcases List.mem_cons.1 hq with rfl | hq
 ·exact⟨bn,F.kk.size,hnt⟩
 ·have h:=F.all q hq
  exact⟨ks.blk h.1 (by simpa using cel_ne (Blk.cel h.1) (Blk.cel F.bs) h.2.2),h.2⟩
theorem gate_new (w:World):Calls Try.prog 43 #[] w fun e w'=>e=.returned (ptr w.heap.size)∧w'=w.alloc (.cells [.bool true,.int .i64 0].toArray 141):=by
 go_enter Try.func43,Try.ntmps43
 go_wp2
 go_ret
 exact⟨rfl,rfl⟩
theorem cell0_new (w:World):Calls Try.prog 8 #[.int .i64 0] w fun e w'=>e=.returned (ptr w.heap.size)∧w'=w.alloc (.cells [.bool true,.int .i64 0,.int .i64 0].toArray 82):=by
 go_enter Try.func8,Try.ntmps8
 go_wp2
 go_ret
 exact⟨rfl,rfl⟩
theorem lone_new (w:World):Calls Try.prog 23 #[] w fun e w'=>e=.returned (ptr w.heap.size)∧w'=w.alloc (.cells [.int .i64 (-1),.int .i64 (-1),.int .i64 (-1),.int .i64 0,.int .i64 0,.int .i64 0,.int .i64 0].toArray 98):=by
 go_enter Try.func23,Try.ntmps23
 go_wp2
 go_ret
 exact⟨rfl,rfl⟩
theorem pu_build74 {a:Act}{oo:Oper}{w:World}(h:oo.op=.build 74 #[]):(execOp a.eval oo).run Try.prog w=.ok (.value (.agg #[(.pointer none),(.pointer none),(.pointer none),(.pointer none),(.pointer none),(.pointer none),(.pointer none),(.pointer none),(.pointer none),(.pointer none),.slice none 0 0])) w:=by
 unfold execOp;rw[h];exact run_vv (by simp[go_sem,Try.underlying74,Try.runUnderlying74,Try.zeroValue74,Try.sizeOf74])
theorem bx_74:∀ w:World,(Instr.box 74 (.agg #[(.pointer none),(.pointer none),(.pointer none),(.pointer none),(.pointer none),(.pointer none),(.pointer none),(.pointer none),(.pointer none),(.pointer none),.slice none 0 0])).run Try.prog w=.ok (ptr w.heap.size) (w.alloc (.cells #[.pointer none,.pointer none,.pointer none,.pointer none,.pointer none,.pointer none,.pointer none,.pointer none,.pointer none,.pointer none,.slice none 0 0] 74)):=fun w=>by
 simp[go_sem,Try.underlying74,Try.runUnderlying74,Try.sizeOf74,Try.isAgg74]
theorem oq22_5 (w:World)(x:Nat→Value)(sb i:Nat)(v:Int){cs:List Value}{p0:Option Addr}(hi:i=0∧v=0∨i=1∧v=1)(hp:cs[0+i]?=some (.pointer p0))(hm:Blk w sb cs 74)(h1:x 1=ptr sb)(h2:x 2=.int .i64 v) :
  (sL (sB (sL (sR (sB (sB (sR (sL (sR (sR q22)))))))))).wp Try.prog (fun e a' w'=>e=.normal∧a'.defers=[]∧nQ 40 (fun x=>x 1=ptr sb∧x 2=.int .i64 v) sb cs (0+i) [.bool true,.int .i64 (-1)] 91 w a'.tmps w') ⟨fg 40 x,[]⟩ w:=by
 refine hideQ fun G HQ=>?_;have hd:Blk w.drew sb _ 74:=hm;have c1':=(hm.cell (0+i)).trans hp;have z1':=hm.frozen (0+i);have hlt:sb<w.heap.size:=hm.lt;have hne:sb≠w.heap.size:=Nat.ne_of_lt hm.lt;have HM:=Lib.hid hd;have HN:=Lib.hid mutex_new;clear hm hd hp;rw[fg22];rcases hi with⟨rfl,rfl⟩ | ⟨rfl,rfl⟩<;>(
  simp only[Nat.add_zero,Nat.reduceAdd] at c1' z1';simp only[q22,Try.f22,Option.getD_some,sL,sR,sB,sT,sF,h1,h2]
  go_region_with (go_at_call 18;refine(HN.out _).mono ?_;rintro e w' ⟨rfl,rfl⟩)
  all_goals
   refine⟨rfl,HQ.out _ _ ?_⟩;refine nQ_mk HM.out ?_ ?_<;>first | rfl | exact⟨rfl,rfl⟩)
theorem oq22_6 (w:World)(x:Nat→Value)(sb i:Nat)(v:Int){cs:List Value}{p0:Option Addr}(hi:i=0∧v=0∨i=1∧v=1)(hp:cs[2+i]?=some (.pointer p0))(hm:Blk w sb cs 74)(h1:x 1=ptr sb)(h2:x 2=.int .i64 v) :
  (sL (sR (sB (sL (sR (sB (sB (sR (sL (sR (sR q22))))))))))).wp Try.prog (fun e a' w'=>e=.normal∧a'.defers=[]∧nQ 40 (fun x=>x 1=ptr sb∧x 2=.int .i64 v) sb cs (2+i) [.bool true,.int .i64 (-1),.int .i64 0,.int .i64 0] 88 w a'.tmps w') ⟨fg 40 x,[]⟩ w:=by
 refine hideQ fun G HQ=>?_;have hd:Blk w.drew sb _ 74:=hm;have c1':=(hm.cell (2+i)).trans hp;have z1':=hm.frozen (2+i);have hlt:sb<w.heap.size:=hm.lt;have hne:sb≠w.heap.size:=Nat.ne_of_lt hm.lt;have HM:=Lib.hid hd;have HN:=Lib.hid fair_new;clear hm hd hp;rw[fg22];rcases hi with⟨rfl,rfl⟩ | ⟨rfl,rfl⟩<;>(
  simp only[Nat.add_zero,Nat.reduceAdd] at c1' z1';simp only[q22,Try.f22,Option.getD_some,sL,sR,sB,sT,sF,h1,h2]
  go_region_with (go_at_call 13;refine(HN.out _).mono ?_;rintro e w' ⟨rfl,rfl⟩)
  all_goals
   refine⟨rfl,HQ.out _ _ ?_⟩;refine nQ_mk HM.out ?_ ?_<;>first | rfl | exact⟨rfl,rfl⟩)
theorem oq22_7 (w:World)(x:Nat→Value)(sb i:Nat)(v:Int){cs:List Value}{p0:Option Addr}(hi:i=0∧v=0∨i=1∧v=1)(hp:cs[4+i]?=some (.pointer p0))(hm:Blk w sb cs 74)(h1:x 1=ptr sb)(h2:x 2=.int .i64 v) :
  (sL (sR (sR (sB (sL (sR (sB (sB (sR (sL (sR (sR q22)))))))))))).wp Try.prog (fun e a' w'=>e=.normal∧a'.defers=[]∧nQ 40 (fun x=>x 1=ptr sb∧x 2=.int .i64 v) sb cs (4+i) [.bool true,.int .i64 (-1),.int .i64 0,.int .i64 0] 93 w a'.tmps w') ⟨fg 40 x,[]⟩ w:=by
 refine hideQ fun G HQ=>?_;have hd:Blk w.drew sb _ 74:=hm;have c1':=(hm.cell (4+i)).trans hp;have z1':=hm.frozen (4+i);have hlt:sb<w.heap.size:=hm.lt;have hne:sb≠w.heap.size:=Nat.ne_of_lt hm.lt;have HM:=Lib.hid hd;have HN:=Lib.hid rw_new;clear hm hd hp;rw[fg22];rcases hi with⟨rfl,rfl⟩ | ⟨rfl,rfl⟩<;>(
  simp only[Nat.add_zero,Nat.reduceAdd] at c1' z1';simp only[q22,Try.f22,Option.getD_some,sL,sR,sB,sT,sF,h1,h2]
  go_region_with (go_at_call 19;refine(HN.out _).mono ?_;rintro e w' ⟨rfl,rfl⟩)
  all_goals
   refine⟨rfl,HQ.out _ _ ?_⟩;refine nQ_mk HM.out ?_ ?_<;>first | rfl | exact⟨rfl,rfl⟩)
theorem oq22_8 (w:World)(x:Nat→Value)(sb i:Nat)(v:Int){cs:List Value}{p0:Option Addr}(hi:i=0∧v=0∨i=1∧v=1)(hp:cs[6+i]?=some (.pointer p0))(hm:Blk w sb cs 74)(h1:x 1=ptr sb)(h2:x 2=.int .i64 v) :
  (sL (sR (sR (sR (sB (sL (sR (sB (sB (sR (sL (sR (sR q22))))))))))))).wp Try.prog (fun e a' w'=>e=.normal∧a'.defers=[]∧nQ 40 (fun x=>x 1=ptr sb∧x 2=.int .i64 v) sb cs (6+i) [.bool true,.int .i64 0] 141 w a'.tmps w') ⟨fg 40 x,[]⟩ w:=by
 refine hideQ fun G HQ=>?_;have hd:Blk w.drew sb _ 74:=hm;have c1':=(hm.cell (6+i)).trans hp;have z1':=hm.frozen (6+i);have hlt:sb<w.heap.size:=hm.lt;have hne:sb≠w.heap.size:=Nat.ne_of_lt hm.lt;have HM:=Lib.hid hd;have HN:=Lib.hid gate_new;clear hm hd hp;rw[fg22];rcases hi with⟨rfl,rfl⟩ | ⟨rfl,rfl⟩<;>(
  simp only[Nat.add_zero,Nat.reduceAdd] at c1' z1';simp only[q22,Try.f22,Option.getD_some,sL,sR,sB,sT,sF,h1,h2]
  go_region_with (go_at_call 43;refine(HN.out _).mono ?_;rintro e w' ⟨rfl,rfl⟩)
  all_goals
   refine⟨rfl,HQ.out _ _ ?_⟩;refine nQ_mk HM.out ?_ ?_<;>first | rfl | exact⟨rfl,rfl⟩)
theorem oq22_9 (w:World)(x:Nat→Value)(sb i:Nat)(v:Int){cs:List Value}{p0:Option Addr}(hi:i=0∧v=0∨i=1∧v=1)(hp:cs[8+i]?=some (.pointer p0))(hm:Blk w sb cs 74)(h1:x 1=ptr sb)(h2:x 2=.int .i64 v) :
  (sR (sR (sR (sR (sB (sL (sR (sB (sB (sR (sL (sR (sR q22))))))))))))).wp Try.prog (fun e a' w'=>e=.normal∧a'.defers=[]∧nQ 40 (fun x=>x 1=ptr sb∧x 2=.int .i64 v) sb cs (8+i) [.bool true,.int .i64 0,.int .i64 0] 82 w a'.tmps w') ⟨fg 40 x,[]⟩ w:=by
 refine hideQ fun G HQ=>?_;have hd:Blk w.drew sb _ 74:=hm;have c1':=(hm.cell (8+i)).trans hp;have z1':=hm.frozen (8+i);have hlt:sb<w.heap.size:=hm.lt;have hne:sb≠w.heap.size:=Nat.ne_of_lt hm.lt;have HM:=Lib.hid hd;have HN:=Lib.hid cell0_new;clear hm hd hp;rw[fg22];rcases hi with⟨rfl,rfl⟩ | ⟨rfl,rfl⟩<;>(
  simp only[Nat.add_zero,Nat.reduceAdd] at c1' z1';simp only[q22,Try.f22,Option.getD_some,sL,sR,sB,sT,sF,h1,h2]
  go_region_with (go_at_call 8;refine(HN.out _).mono ?_;rintro e w' ⟨rfl,rfl⟩)
  all_goals
   refine⟨rfl,HQ.out _ _ ?_⟩;refine nQ_mk HM.out ?_ ?_<;>first | rfl | exact⟨rfl,rfl⟩)
theorem fresh_cc {w:World}:CCn 22 #[] w (fun v w'=>∃ sb bl,v=ptr sb∧ShM sb bl (fun _=>lone0) (fun _=>0) w'∧Kp [] w w'∧(∀ j,j<10→w.heap.size≤bl j)∧w.heap.size≤sb):=by
 intro m K hK cl cs hcm h;have hk:(base 22).kind≠.early:=nofun;have hD:=hK.det;rw[show(#[]:Array Value)=([]:List Value).toArray from rfl,enter_fg (n:=40) (c:=q22) Try.func22 rfl rfl rfl];refine hD.sr (hD.asn (.pointer none) ?_);refine hD.z0 (hD.pun (.agg #[(.pointer none),(.pointer none),(.pointer none),(.pointer none),(.pointer none),(.pointer none),(.pointer none),(.pointer none),(.pointer none),(.pointer none),.slice none 0 0]) (fun w=>pu_build74 rfl) ?_);refine hD.bo [(.pointer none),(.pointer none),(.pointer none),(.pointer none),(.pointer none),(.pointer none),(.pointer none),(.pointer none),(.pointer none),(.pointer none),.slice none 0 0] bx_74 fun w1 nw1 hnw1 ksw1 bw1=>?_;refine hD.asn (ptr nw1) ?_;refine hD.e0 (hD.s0 (hD.sr (hD.asn (.int .i64 0) ?_)));refine hD.e0 (hD.block (n:=0) ?_);refine hD.loop (n:=0) ?_;have F:Fr w nw1 _ [] w1:=⟨ksw1,by rw[hnw1];exact Nat.le_refl _,bw1,nofun⟩;refine hD.s0 (hD.sr (hD.mvn (.int .i64 0) ?_));refine hD.pun (.bool (decide ((0:Int)<2))) (fun w=>w_lss3 rfl rfl rfl) ?_;refine hD.e0 (hD.cond (n:=0) true (show Value.bool (decide ((0:Int)<2))=_ from rfl) rfl ?_);refine hD.k0 (hD.s0 (hD.block (n:=0) ?_));refine hD.s0 (fresh_step hK (by decide +kernel) (i:=0) (v:=0) (fun τ d=>oq22_5 _ _ _ _ _ (.inl ⟨rfl,rfl⟩) rfl F.bs rfl rfl) F (by decide) fun x w2 b0 e1 e2 F l=>?_);have l0:=l.1;refine hD.s0 (fresh_step hK (by decide +kernel) (i:=0) (v:=0) (fun τ d=>oq22_6 _ _ _ _ _ (.inl ⟨rfl,rfl⟩) rfl F.bs e1 e2) F (by decide) fun x w3 b2 e1 e2 F l=>?_);have l2:=l.2 _ (.head _);refine hD.s0 (fresh_step hK (by decide +kernel) (i:=0) (v:=0) (fun τ d=>oq22_7 _ _ _ _ _ (.inl ⟨rfl,rfl⟩) rfl F.bs e1 e2) F (by decide) fun x w4 b4 e1 e2 F l=>?_);have l4:=l.2 _ (.head _);refine hD.s0 (fresh_step hK (by decide +kernel) (i:=0) (v:=0) (fun τ d=>oq22_8 _ _ _ _ _ (.inl ⟨rfl,rfl⟩) rfl F.bs e1 e2) F (by decide) fun x w5 b6 e1 e2 F l=>?_);have l6:=l.2 _ (.head _);refine fresh_step hK (by decide +kernel) (i:=0) (v:=0) (fun τ d=>oq22_9 _ _ _ _ _ (.inl ⟨rfl,rfl⟩) rfl F.bs e1 e2) F (by decide) fun x w6 b8 e1 e2 F l=>?_;have l8:=l.2 _ (.head _);refine hD.inBlock (n:=0) ?_;refine hD.r0 (hD.move (n:=0) (v:=(.int .i64 0)) hk rfl ⟨rfl,rfl,rfl,rfl,nofun⟩ e2 ?_);refine nm rfl ?_;refine hD.pun (.int .i64 1) (fun w=>(w_add3 (i:=0) (j:=1) rfl rfl rfl).trans (by rw[show wrap64 (0+1)=1 by unfold wrap64;omega])) ?_;refine hD.asn (.int .i64 1) ?_;refine hD.e0 (hD.inLoop (n:=0) ?_);refine hD.s0 (hD.sr (hD.mvn (.int .i64 1) ?_));refine hD.pun (.bool (decide ((1:Int)<2))) (fun w=>w_lss3 rfl rfl rfl) ?_;refine hD.e0 (hD.cond (n:=0) true (show Value.bool (decide ((1:Int)<2))=_ from rfl) rfl ?_);refine hD.k0 (hD.s0 (hD.block (n:=0) ?_));refine hD.s0 (fresh_step hK (by decide +kernel) (i:=1) (v:=1) (fun τ d=>oq22_5 _ _ _ _ _ (.inr ⟨rfl,rfl⟩) rfl F.bs e1 rfl) F (by decide) fun x w7 b1 e1 e2 F l=>?_);have l1:=l.2 _ (.head _);refine hD.s0 (fresh_step hK (by decide +kernel) (i:=1) (v:=1) (fun τ d=>oq22_6 _ _ _ _ _ (.inr ⟨rfl,rfl⟩) rfl F.bs e1 e2) F (by decide) fun x w8 b3 e1 e2 F l=>?_)
 have l3:=l.2 _ (.head _);refine hD.s0 (fresh_step hK (by decide +kernel) (i:=1) (v:=1) (fun τ d=>oq22_7 _ _ _ _ _ (.inr ⟨rfl,rfl⟩) rfl F.bs e1 e2) F (by decide) fun x w9 b5 e1 e2 F l=>?_);have l5:=l.2 _ (.head _);refine hD.s0 (fresh_step hK (by decide +kernel) (i:=1) (v:=1) (fun τ d=>oq22_8 _ _ _ _ _ (.inr ⟨rfl,rfl⟩) rfl F.bs e1 e2) F (by decide) fun x w10 b7 e1 e2 F l=>?_);have l7:=l.2 _ (.head _);refine fresh_step hK (by decide +kernel) (i:=1) (v:=1) (fun τ d=>oq22_9 _ _ _ _ _ (.inr ⟨rfl,rfl⟩) rfl F.bs e1 e2) F (by decide) fun x w11 b9 e1 e2 F l=>?_;have l9:=l.2 _ (.head _);refine hD.inBlock (n:=0) ?_;refine hD.r0 (hD.move (n:=0) (v:=(.int .i64 1)) hk rfl ⟨rfl,rfl,rfl,rfl,nofun⟩ e2 ?_);refine nm rfl ?_;refine hD.pun (.int .i64 2) (fun w=>(w_add3 (i:=1) (j:=1) rfl rfl rfl).trans (by rw[show wrap64 (1+1)=2 by unfold wrap64;omega])) ?_;refine hD.asn (.int .i64 2) ?_;refine hD.e0 (hD.inLoop (n:=0) ?_);refine hD.s0 (hD.sr (hD.mvn (.int .i64 2) ?_));refine hD.pun (.bool (decide ((2:Int)<2))) (fun w=>w_lss3 rfl rfl rfl) ?_;refine hD.e0 (hD.cond (n:=0) false (show Value.bool (decide ((2:Int)<2))=_ from rfl) rfl ?_);refine hD.exit (n:=0) rfl ?_;refine hD.sr (hD.move (n:=0) (v:=(ptr nw1)) hk rfl ⟨rfl,rfl,rfl,rfl,nofun⟩ e1 ?_);refine nm rfl ?_;refine hD.asn (ptr nw1) ?_;refine hD.e0 (hD.ret (n:=0) ?_);refine hD.leave (n:=0) (b:=base 22) (v:=ptr nw1) rfl rfl Try.func22 (fun τ d=>res1v rfl rfl) hcm (h _ _ ⟨nw1,fun j=>[b0,b1,b2,b3,b4,b5,b6,b7,b8,b9].getD j 0,rfl,⟨fun j hj=>?_,fun j hj=>?_,fun i j hi hj hne=>?_,fun j hj=>?_⟩,F.kk,fun j hj=>?_,F.ge⟩)
 ·obtain _ | _ | _ | _ | _ | _ | _ | _ | _ | _ | j:=j<;>first | exact F.bs.cell _ | omega
 ·obtain _ | _ | _ | _ | _ | _ | _ | _ | _ | _ | j:=j
  ·exact(F.at (i:=9) rfl).1
  ·exact(F.at (i:=4) rfl).1
  ·exact(F.at (i:=8) rfl).1
  ·exact(F.at (i:=3) rfl).1
  ·exact(F.at (i:=7) rfl).1
  ·exact(F.at (i:=2) rfl).1
  ·exact(F.at (i:=6) rfl).1
  ·exact(F.at (i:=1) rfl).1
  ·exact(F.at (i:=5) rfl).1
  ·exact(F.at (i:=0) rfl).1
  ·omega
 ·obtain _ | _ | _ | _ | _ | _ | _ | _ | _ | _ | i:=i<;>obtain _ | _ | _ | _ | _ | _ | _ | _ | _ | _ | j:=j<;>first | exact absurd rfl hne | (show _≠_;simp;omega) | omega
 ·obtain _ | _ | _ | _ | _ | _ | _ | _ | _ | _ | j:=j<;>first | (show _≠_;simp;omega) | omega
 ·obtain _ | _ | _ | _ | _ | _ | _ | _ | _ | _ | j:=j
  ·exact(F.at (i:=9) rfl).2.1
  ·exact(F.at (i:=4) rfl).2.1
  ·exact(F.at (i:=8) rfl).2.1
  ·exact(F.at (i:=3) rfl).2.1
  ·exact(F.at (i:=7) rfl).2.1
  ·exact(F.at (i:=2) rfl).2.1
  ·exact(F.at (i:=6) rfl).2.1
  ·exact(F.at (i:=1) rfl).2.1
  ·exact(F.at (i:=5) rfl).2.1
  ·exact(F.at (i:=0) rfl).2.1
  ·omega
end Go.Proofs.Ytgapgmigmlideaa.Lift
