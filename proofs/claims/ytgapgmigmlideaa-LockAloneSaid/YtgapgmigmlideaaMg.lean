/- LockAlone, whatever comes in: true, and what came in reads as it did. -/
import Derived.Test.YtgapgmigmlideaaRows
import Derived.WalkKit
import Derived.ProofKit
import Derived.OpenShut
import Derived.JoinedCond
import Derived.Deep.Slices
import Derived.Deep.Fields
import Derived.ChangeSame
import Derived.Conc.Holds
import Derived.Conc.LeavingOf
import Derived.Test.YtgapgmigmlideaaMf
set_option linter.unusedVariables false
set_option linter.unusedSimpArgs false
set_option maxRecDepth 100000
set_option maxHeartbeats 6400000
noncomputable section
namespace Go.Proofs.Ytgapgmigmlideaa.Lift
open Go Go.Conc Go.RowKit Pl
def q6:Code:=Try.f6.body.getD .skip
theorem fg6 (x:Nat→Value):fg 82 x=#[x 0,x 1,x 2,x 3,x 4,x 5,x 6,x 7,x 8,x 9,x 10,x 11,x 12,x 13,x 14,x 15,x 16,x 17,x 18,x 19,x 20,x 21,x 22,x 23,x 24,x 25,x 26,x 27,x 28,x 29,x 30,x 31,x 32,x 33,x 34,x 35,x 36,x 37,x 38,x 39,x 40,x 41,x 42,x 43,x 44,x 45,x 46,x 47,x 48,x 49,x 50,x 51,x 52,x 53,x 54,x 55,x 56,x 57,x 58,x 59,x 60,x 61,x 62,x 63,x 64,x 65,x 66,x 67,x 68,x 69,x 70,x 71,x 72,x 73,x 74,x 75,x 76,x 77,x 78,x 79,x 80,x 81]:=rfl
def aQ (Pr:(Nat→Value)→Prop)(lb:Nat)(l:LoneSt)(w:World)(t:Array Value)(w':World):Prop:=∃ x,t=fg 82 x∧Pr x∧Kp [lb] w w'∧Blk w' lb l.cells 98
theorem aQ_re {Pr:(Nat→Value)→Prop}{lb:Nat}{l:LoneSt}{w w':World}{t:Array Value}(h:aQ Pr lb l w t w')(τ:Nat→Question→Nat)(d:Nat):aQ Pr lb l w t (re w' τ d):=let ⟨x,h1,h2,h3,h4⟩:=h;⟨x,h1,h2,⟨h3.size,h3.block⟩,h4⟩
theorem aQ_un {Pr:(Nat→Value)→Prop}{lb:Nat}{l:LoneSt}{w w':World}{t:Array Value}{τ:Nat→Question→Nat}{d:Nat}(h:aQ Pr lb l (re w τ d) t w'):aQ Pr lb l w t w':=let ⟨x,h1,h2,h3,h4⟩:=h;⟨x,h1,h2,⟨h3.size,h3.block⟩,h4⟩
theorem aQ_mk {Pr:(Nat→Value)→Prop}{lb:Nat}{l:LoneSt}{w w':World}{t:Array Value}(hs:t.size=82)(h:Pr fun q=>t.getD q undef)(k:Keeps [lb] w.drew w')(b:Blk w' lb l.cells 98):aQ Pr lb l w t w':=⟨_,t_fg hs,h,⟨(Keeps.kp k).size,(Keeps.kp k).block⟩,b⟩
theorem oq6_0 (w:World)(x:Nat→Value)(tb to n ct sb ab nb la lb j:Nat)(k ob va vb X Y:Int)(l:LoneSt)(hj:j<n)(hob:bitO ob=0)(hab:Blk w ab [ptr la,ptr lb] 65)(hl:Blk w la l.cells 98)(q0:w.cell? ⟨tb,to+j*4,none⟩=some (.int .i64 k))(q1:w.cell? ⟨tb,to+j*4+1,none⟩=some (.int .i64 ob))(q2:w.cell? ⟨tb,to+j*4+2,none⟩=some (.int .i64 va))(q3:w.cell? ⟨tb,to+j*4+3,none⟩=some (.int .i64 vb))(h0:x 0=.slice (some ⟨tb,to,none⟩) n ct)(h3:x 3=ptr sb)(h4:x 4=ptr ab)(h5:x 5=ptr nb)(h6:x 6=.int .i64 (j:Int))(h7:x 7=.int .i64 X)(h8:x 8=.int .i64 Y) :
  (sL (sR (sB (sL (sR (sB (sB (sR (sL (sR (sR (sR (sR q6))))))))))))).wp Try.prog (fun e a' w'=>e=.normal∧a'.defers=[]∧aQ (fun x=>x 0=.slice (some ⟨tb,to,none⟩) n ct∧x 3=ptr sb∧x 4=ptr ab∧x 5=ptr nb∧x 6=.int .i64 (j:Int)∧x 7=.int .i64 X∧x 8=.int .i64 Y∧x 9=.int .i64 (loneDo k va vb l).2.1∧x 10=.int .i64 (loneDo k va vb l).2.2) la (loneDo k va vb l).1 w a'.tmps w') ⟨fg 82 x,[]⟩ w:=by
 refine hideQ fun G HQ=>?_;rw[fg6];simp only[q6,Try.f6,Option.getD_some,sL,sR,sB,sT,sF,h0,h3,h4,h5,h6,h7,h8];have hbits:=bitO_bits ob;rw[hob] at hbits;have hbits:bits BinOp.and IntKind.i64 ob 1=0:=hbits;have ca:=hab.cell 0;have HC:=Lib.hid (lone25 w.drew (lb:=la) (l:=l) hl k ob va vb);have hj0:(0:Int)≤j:=by omega
 have hjn:(j:Int)<n:=by omega
 clear hab hl hob
 go_region_with (go_at_call 25;refine(HC.out).mono ?_;rintro e w' ⟨rfl,hk,hb⟩;have HK:=Lib.hid hk;have HB:=Lib.hid hb;clear hk hb)
 all_goals
  refine⟨rfl,?_⟩;refine HQ.out _ _ ?_;refine aQ_mk ?_ ?_ HK.out HB.out<;>first | rfl | exact⟨rfl,rfl,rfl,rfl,rfl,rfl,rfl,rfl,rfl⟩
theorem oq6_1 (w:World)(x:Nat→Value)(tb to n ct sb ab nb la lb j:Nat)(k ob va vb X Y:Int)(l:LoneSt)(hj:j<n)(hob:bitO ob=1)(hab:Blk w ab [ptr la,ptr lb] 65)(hl:Blk w lb l.cells 98)(q0:w.cell? ⟨tb,to+j*4,none⟩=some (.int .i64 k))(q1:w.cell? ⟨tb,to+j*4+1,none⟩=some (.int .i64 ob))(q2:w.cell? ⟨tb,to+j*4+2,none⟩=some (.int .i64 va))(q3:w.cell? ⟨tb,to+j*4+3,none⟩=some (.int .i64 vb))(h0:x 0=.slice (some ⟨tb,to,none⟩) n ct)(h3:x 3=ptr sb)(h4:x 4=ptr ab)(h5:x 5=ptr nb)(h6:x 6=.int .i64 (j:Int))(h7:x 7=.int .i64 X)(h8:x 8=.int .i64 Y) :
  (sL (sR (sB (sL (sR (sB (sB (sR (sL (sR (sR (sR (sR q6))))))))))))).wp Try.prog (fun e a' w'=>e=.normal∧a'.defers=[]∧aQ (fun x=>x 0=.slice (some ⟨tb,to,none⟩) n ct∧x 3=ptr sb∧x 4=ptr ab∧x 5=ptr nb∧x 6=.int .i64 (j:Int)∧x 7=.int .i64 X∧x 8=.int .i64 Y∧x 9=.int .i64 (loneDo k va vb l).2.1∧x 10=.int .i64 (loneDo k va vb l).2.2) lb (loneDo k va vb l).1 w a'.tmps w') ⟨fg 82 x,[]⟩ w:=by
 refine hideQ fun G HQ=>?_;rw[fg6];simp only[q6,Try.f6,Option.getD_some,sL,sR,sB,sT,sF,h0,h3,h4,h5,h6,h7,h8];have hbits:=bitO_bits ob;rw[hob] at hbits;have hbits:bits BinOp.and IntKind.i64 ob 1=1:=hbits;have ca:=hab.cell 1;have HC:=Lib.hid (lone25 w.drew (lb:=lb) (l:=l) hl k ob va vb);have hj0:(0:Int)≤j:=by omega
 have hjn:(j:Int)<n:=by omega
 clear hab hl hob
 go_region_with (go_at_call 25;refine(HC.out).mono ?_;rintro e w' ⟨rfl,hk,hb⟩;have HK:=Lib.hid hk;have HB:=Lib.hid hb;clear hk hb)
 all_goals
  refine⟨rfl,?_⟩;refine HQ.out _ _ ?_;refine aQ_mk ?_ ?_ HK.out HB.out<;>first | rfl | exact⟨rfl,rfl,rfl,rfl,rfl,rfl,rfl,rfl,rfl⟩
theorem next_big (j:Nat)(h:j+1<9223372036854775808):Value.int .i64 (wrap64 ((j:Int)+1))=.int .i64 ((j+1:Nat):Int):=by
 rw[IntWalk.wrap64_in _ (by omega)];rfl
theorem ix60 {n c b o j:Nat}(hj:j<n):∀ w,(Instr.indexAt 60 (.slice (some ⟨b,o,none⟩) n c) (.int .i64 j)).run Try.prog w=.ok (.pointer (some ⟨b,o+j*4,none⟩)) w:=fun w=>by
 have h0:(0:Int)≤j:=by omega
 have h1:(j:Int)<n:=by omega
 simp[go_sem,Try.underlying60,Try.runUnderlying60,Try.sizeOf78,Try.sizeOf3,h1,Addr.add]
def ScriptAt (lo:Nat)(w:World)(gt:Option Addr)(calls:List (Int × Int × Int × Int)):Prop:=∀ (j:Nat) (k ob va vb:Int),calls[j]?=some (k,ob,va,vb)→∃ tb to,gt=some ⟨tb,to,none⟩∧tb<lo∧w.cell? ⟨tb,to+j*4,none⟩=some (.int .i64 k)∧w.cell? ⟨tb,to+j*4+1,none⟩=some (.int .i64 ob)∧w.cell? ⟨tb,to+j*4+2,none⟩=some (.int .i64 va)∧w.cell? ⟨tb,to+j*4+3,none⟩=some (.int .i64 vb)
theorem cell_block {w:World}{b o:Nat}{v:Value}(hc:w.cell? ⟨b,o,none⟩=some v):b<w.heap.size:=by
 unfold World.cell? at hc;cases e:w.heap[b]? with
 | none=>rw[e] at hc;simp at hc
 | some x=>exact(aq' e).1
theorem ScriptAt.off {lo:Nat}{w w':World}{gt:Option Addr}{calls:List (Int × Int × Int × Int)}{F:List Nat}(h:ScriptAt lo w gt calls)(hF:∀ b∈F,lo≤b)(k:Kp F w w'):ScriptAt lo w' gt calls:=fun j a b c d hj=>by
 obtain⟨tb,to,h1,h2,q0,q1,q2,q3⟩:=h j a b c d hj;have e:=k.block tb (cell_block q0) fun hm=>by have:=hF tb hm;omega
 exact⟨tb,to,h1,h2,(cell_same e).trans q0,(cell_same e).trans q1,(cell_same e).trans q2,(cell_same e).trans q3⟩
theorem ScriptAt.kp {lo:Nat}{w w':World}{gt:Option Addr}{calls:List (Int × Int × Int × Int)}(h:ScriptAt lo w gt calls)(k:Kp [] w w'):ScriptAt lo w' gt calls:=h.off (fun b hb=>by cases hb) k
theorem ScriptAt.kp1 {lo b:Nat}{w w':World}{gt:Option Addr}{calls:List (Int × Int × Int × Int)}(h:ScriptAt lo w gt calls)(hb:lo≤b)(k:Kp [b] w w'):ScriptAt lo w' gt calls:=h.off (fun c hc=>by rw[List.mem_singleton.1 hc];exact hb) k
theorem ScriptAt.kpB {lo:Nat}{bl:Nat→Nat}{w w':World}{gt:Option Addr}{calls:List (Int × Int × Int × Int)}(h:ScriptAt lo w gt calls)(hb:∀ j,j<10→lo≤bl j)(_:True)(k:Kp (bls bl) w w'):ScriptAt lo w' gt calls:=h.off (fun c hc=>by obtain⟨j,hj,rfl⟩:=List.mem_map.1 hc;exact hb j (List.mem_range.1 hj)) k
structure AlM (lo sb nb ab:Nat)(bl lc:Nat→Nat)(st:Nat→LoneSt)(q:Nat→Int)(w:World):Prop where
 sh:ShM sb bl st q w
 ls:∀ o,o<2→Blk w (lc o) (st o).cells 98
 l01:lc 0≠lc 1
 a65:Blk w ab [ptr (lc 0),ptr (lc 1)] 65
 nbs:∀ j,j<10→w.cell? ⟨nb,j,none⟩=some (.pointer none)
 n74:∃ cs,Blk w nb cs 74
 blo:∀ j,j<10→lo≤bl j
 lol:∀ {o},o<2→lo≤lc o
 big:True
theorem shType_ne {t:TypeId}(h:t≠91∧t≠88∧t≠93∧t≠141∧t≠82)(j:Nat):shType j≠t:=by
 obtain⟨h1,h2,h3,h4,h5⟩:=h;unfold shType;split<;>first | exact Ne.symm h1 | exact Ne.symm h2 | exact Ne.symm h3 | exact Ne.symm h4 | exact Ne.symm h5
section
variable {lo sb nb ab:Nat}{bl lc:Nat→Nat}{st:Nat→LoneSt}{q q':Nat→Int}{w w2 w3:World}{o:Nat}{l':LoneSt}
theorem AlM.notin (h:AlM lo sb nb ab bl lc st q w){b:Nat}{cs:List Value}{t:TypeId}(hb:Blk w b cs t)(ht:t≠91∧t≠88∧t≠93∧t≠141∧t≠82):b∉bls bl:=fun hm=>by
 obtain⟨j,hj,e⟩:=List.mem_map.1 hm;exact cel_ne (Blk.cel (h.sh.bk j (List.mem_range.1 hj))) (Blk.cel hb) (shType_ne ht j) e
theorem AlM.lone (h:AlM lo sb nb ab bl lc st q w)(k:Kp (bls bl) w w2)(ho:o<2):Blk w2 (lc o) (st o).cells 98:=k.blk (h.ls o ho) (h.notin (h.ls o ho) (by decide))
theorem AlM.abk (h:AlM lo sb nb ab bl lc st q w)(k:Kp (bls bl) w w2):Blk w2 ab [ptr (lc 0),ptr (lc 1)] 65:=k.blk h.a65 (h.notin h.a65 (by decide))
theorem AlM.kp (h:AlM lo sb nb ab bl lc st q w)(k:Kp [] w w2):AlM lo sb nb ab bl lc st q w2 :=
 ⟨h.sh.kp k,fun o ho=>k.blk (h.ls o ho) (by simp),h.l01,k.blk h.a65 (by simp),fun j hj=>k.cells _ _ _ (h.nbs j hj),h.n74.imp fun _ hb=>k.blk hb (by simp),h.blo,h.lol,trivial⟩
theorem AlM.next (h:AlM lo sb nb ab bl lc st q w)(ho:o<2)(hsh:ShM sb bl (setO st o l') q' w2)(k2:Kp (bls bl) w w2)(k3:Kp [lc o] w2 w3)(b3:Blk w3 (lc o) l'.cells 98):AlM lo sb nb ab bl lc (setO st o l') q' w3:=by
 obtain⟨cn,hn⟩:=h.n74;have hn2:Blk w2 nb cn 74:=k2.blk hn (h.notin hn (by decide));have hlo:=h.lone k2 ho;have hab:=h.abk k2;have hn3:Blk w3 nb cn 74:=k3.blk hn2 (by simpa using cel_ne (Blk.cel hn2) (Blk.cel hlo) (by decide));have hnb:∀ j,j<10→w3.cell? ⟨nb,j,none⟩=some (.pointer none):=fun j hj=>by
  rw[hn3.cell j,← hn.cell j];exact h.nbs j hj
 refine⟨⟨fun j hj=>?_,fun j hj=>k3.blk (hsh.bk j hj) (by simpa using cel_ne (Blk.cel (hsh.bk j hj)) (Blk.cel hlo) (shType_ne (by decide) j)),hsh.ne,hsh.sn⟩,fun i hi=>?_,h.l01,k3.blk hab (by simpa using cel_ne (Blk.cel hab) (Blk.cel hlo) (by decide)),hnb,⟨cn,hn3⟩,h.blo,h.lol,trivial⟩
 ·have hc:=hsh.hs j hj
  by_cases e:sb=lc o
  ·exfalso
   have hc0:=hsh.hs 0 (by omega);rw[e,hlo.cell 0] at hc0;cases hc0
  ·exact(cell_same (k3.block sb (cell_block hc) (by simpa using e))).trans hc
 ·by_cases e:i=o
  ·subst e;show Blk w3 (lc i) (if i=i then l' else st i).cells 98;rw[if_pos rfl];exact b3
  ·show Blk w3 (lc i) (if i=o then l' else st i).cells 98
   rw[if_neg e];exact k3.blk (h.lone k2 hi) (by
    have hne:lc i≠lc o:=by
     have:(i=0∧o=1)∨(i=1∧o=0):=by omega
     rcases this with⟨rfl,rfl⟩ | ⟨rfl,rfl⟩
     ·exact h.l01
     ·exact Ne.symm h.l01
    simpa using hne)
end
theorem oq6 (w:World)(x:Nat→Value)(tb to n ct sb ab nb:Nat)(lc:Nat→Nat)(o j:Nat)(k ob va vb X Y:Int)(l:LoneSt)(hj:j<n)(hob:bitO ob=o)(ho2:o<2)(hab:Blk w ab [ptr (lc 0),ptr (lc 1)] 65)(hl:Blk w (lc o) l.cells 98)(q0:w.cell? ⟨tb,to+j*4,none⟩=some (.int .i64 k))(q1:w.cell? ⟨tb,to+j*4+1,none⟩=some (.int .i64 ob))(q2:w.cell? ⟨tb,to+j*4+2,none⟩=some (.int .i64 va))(q3:w.cell? ⟨tb,to+j*4+3,none⟩=some (.int .i64 vb))(h0:x 0=.slice (some ⟨tb,to,none⟩) n ct)(h3:x 3=ptr sb)(h4:x 4=ptr ab)(h5:x 5=ptr nb)(h6:x 6=.int .i64 (j:Int))(h7:x 7=.int .i64 X)(h8:x 8=.int .i64 Y) :
  (sL (sR (sB (sL (sR (sB (sB (sR (sL (sR (sR (sR (sR q6))))))))))))).wp Try.prog (fun e a' w'=>e=.normal∧a'.defers=[]∧aQ (fun x=>x 0=.slice (some ⟨tb,to,none⟩) n ct∧x 3=ptr sb∧x 4=ptr ab∧x 5=ptr nb∧x 6=.int .i64 (j:Int)∧x 7=.int .i64 X∧x 8=.int .i64 Y∧x 9=.int .i64 (loneDo k va vb l).2.1∧x 10=.int .i64 (loneDo k va vb l).2.2) (lc o) (loneDo k va vb l).1 w a'.tmps w') ⟨fg 82 x,[]⟩ w:=by
 have:o=0∨o=1:=by omega
 rcases this with rfl | rfl
 ·exact oq6_0 w x tb to n ct sb ab nb (lc 0) (lc 1) j k ob va vb X Y l hj hob hab hl q0 q1 q2 q3 h0 h3 h4 h5 h6 h7 h8
 ·exact oq6_1 w x tb to n ct sb ab nb (lc 0) (lc 1) j k ob va vb X Y l hj hob hab hl q0 q1 q2 q3 h0 h3 h4 h5 h6 h7 h8
theorem al_loop {m:Bool}{K:Goroutine→World→Prop}(hK:Cl Try.prog m K){cs:List Frame}{lo sb nb ab n ct:Nat}{bl lc:Nat→Nat}{gt:Option Addr}{calls:List (Int × Int × Int × Int)}(hn:calls.length=n)(hn40:n<9223372036854775808)(hend:∀ w x,K (gs ((base 6).at ⟨fg 82 x,[]⟩ [.code (sL (sR (sR (sR (sR (sR q6)))))),.code (sR (sR (sR (sR (sR (sR q6))))))]) cs) w):∀ (d:Nat) {j:Nat} {st:Nat→LoneSt} {q:Nat→Int} {w:World} {x:Nat→Value},n=j+d→AlM lo sb nb ab bl lc st q w→ScriptAt lo w gt calls→x 0=.slice gt n ct→x 3=ptr sb→x 4=ptr ab→x 5=ptr nb→x 6=.int .i64 (j:Int)→K (gs ((base 6).at ⟨fg 82 x,[]⟩ [.code (sB (sB (sR (sL (sR (sR (sR (sR q6)))))))),.inLoop (sB (sB (sR (sL (sR (sR (sR (sR q6)))))))),.inBlock 0,.code (sR (sR (sR (sR (sR q6)))))]) cs) w
 | d,j,st,q,w,x,hd,hM,hs,h0,h3,h4,h5,h6=>by
  have hk:(base 6).kind≠.early:=nofun;have hD:=hK.det;refine hD.s0 (hD.sr (hD.mxn (.int .i64 (j:Int)) rfl h6 ?_));refine hD.mxn (.slice gt n ct) rfl h0 ?_;refine hD.pure (v:=(.int .i64 (n:Int))) (n:=0) hk rfl ⟨rfl,rfl,rfl,(by decide +kernel),nofun⟩ (fun w=>pu_len rfl rfl rfl) ?_;refine nm rfl ?_;refine hD.pun (.bool (decide ((j:Int)<(n:Int)))) (fun w=>w_lss3 rfl rfl rfl) ?_;refine hD.e0 ?_;by_cases hj:j<n
  ·obtain⟨d',rfl⟩:∃ d',d=d'+1:=⟨d-1,by omega⟩
   obtain⟨z,hz⟩:∃ z,calls[j]?=some z:=⟨_,List.getElem?_eq_getElem (by omega)⟩;obtain⟨k,ob,va,vb⟩:=z;obtain⟨tb,to,hgt,htl,q0,q1,q2,q3⟩:=hs j k ob va vb hz;subst hgt;refine hD.cond (n:=0) true (show Value.bool (decide ((j:Int)<(n:Int)))=_ by rw[decide_eq_true (by omega)]) rfl ?_;refine hD.k0 (hD.s0 (hD.block (n:=0) ?_));refine hD.sr (hD.mxn (ptr sb) rfl h3 ?_);refine hD.mxn (.slice (some ⟨tb,to,none⟩) n ct) rfl h0 ?_;refine hD.mxn (.int .i64 (j:Int)) rfl h6 ?_;refine hD.ixn (.pointer (some ⟨tb,to+j*4,none⟩)) (ix60 hj) ?_;refine hD.ldn (.agg #[.int .i64 k,.int .i64 ob,.int .i64 va,.int .i64 vb]) (fun τ d=>ld78s q0 q1 q2 q3) ?_;refine hD.cf #[ptr sb,(.pointer none),.agg #[(.int .i64 k),(.int .i64 ob),(.int .i64 va),(.int .i64 vb)]] hk Try.func24 ?_;obtain⟨o,ho⟩:∃ o,o=bitO ob:=⟨_,rfl⟩;have ho2:o<2:=by rw[ho];exact bitO_lt ob
   refine sh_does hM.sh hK rfl fun v w2 ⟨hv,⟨q9,hsh⟩,k2⟩=>?_;subst hv;rw[← ho] at hsh ⊢;obtain⟨l,hl⟩:∃ l,l=st o:=⟨_,rfl⟩;rw[← hl] at hsh ⊢;refine finn 29 ?_;refine hD.mvn (.tuple #[.int .i64 (loneDo k va vb l).2.1,.int .i64 (loneDo k va vb l).2.2]) ?_;refine hD.pun (.int .i64 (loneDo k va vb l).2.1) (fun w=>pu_ext rfl rfl rfl) ?_;refine hD.pun (.int .i64 (loneDo k va vb l).2.2) (fun w=>pu_ext rfl rfl rfl) ?_;refine hD.asn (.int .i64 (loneDo k va vb l).2.1) ?_;refine hD.asn (.int .i64 (loneDo k va vb l).2.2) ?_;refine hD.e0 (hD.s0 ?_);have hs2:=hs.kpB hM.blo hM.big k2;obtain⟨tb',to',hgt,_,q0,q1,q2,q3⟩:=hs2 j k ob va vb hz;cases hgt;have hab2:=hM.abk k2;have hl2:Blk w2 (lc o) l.cells 98:=by rw[hl];exact hM.lone k2 ho2
   refine hK.seg fits shut3 (b:=base 6) ⟨_,Try.func6⟩ nofun (c:=(sL (sR (sB (sL (sR (sB (sB (sR (sL (sR (sR (sR (sR q6)))))))))))))) (by decide +kernel) (Q:=aQ (fun x=>x 0=.slice (some ⟨tb,to,none⟩) n ct∧x 3=ptr sb∧x 4=ptr ab∧x 5=ptr nb∧x 6=.int .i64 (j:Int)∧x 7=.int .i64 (loneDo k va vb l).2.1∧x 8=.int .i64 (loneDo k va vb l).2.2∧x 9=.int .i64 (loneDo k va vb l).2.1∧x 10=.int .i64 (loneDo k va vb l).2.2) (lc o) (loneDo k va vb l).1 w2) (fun t w' τ d h=>aQ_re h τ d) (fun τ d=>Code.wp_mono (fun e a w' ⟨h1,h2,h3⟩=>⟨h1,h2,aQ_un h3⟩) (oq6 (re w2 τ d) _ tb to n ct sb ab nb lc o j k ob va vb (loneDo k va vb l).2.1 (loneDo k va vb l).2.2 l hj ho.symm ho2 hab2 hl2 q0 q1 q2 q3 h0 h3 h4 h5 h6 rfl rfl)) fun t w3 ⟨x',ex',⟨g0,g3,g4,g5,g6,g7,g8,g9,g10⟩,ks3,b3⟩=>?_;subst ex';rw[allK.self (x:=x') (l:=[(0,.slice (some ⟨tb,to,none⟩) n ct),(3,ptr sb),(4,ptr ab),(5,ptr nb),(6,.int .i64 (j:Int)),(7,.int .i64 (loneDo k va vb l).2.1),(8,.int .i64 (loneDo k va vb l).2.2),(9,.int .i64 (loneDo k va vb l).2.1),(10,.int .i64 (loneDo k va vb l).2.2)]) ⟨g0,g3,g4,g5,g6,g7,g8,g9,g10,trivial⟩];have hM3:=hM.next ho2 hsh k2 ks3 b3;have hs3:=hs2.kp1 (hM.lol ho2) ks3;obtain⟨tb',to',hgt,_,q0,q1,q2,q3⟩:=hs3 j k ob va vb hz;cases hgt;refine hD.s0 (hD.sr (hD.mvn (.int .i64 (loneDo k va vb l).2.1) ?_));refine hD.mvn (.int .i64 (loneDo k va vb l).2.1) ?_;refine hD.pun (.bool false) (fun w=>(w_neq3 (i:=(loneDo k va vb l).2.1) (j:=(loneDo k va vb l).2.1) rfl rfl rfl).trans (by rw[decide_eq_false (fun h=>h rfl)])) ?_;refine hD.mvn (.bool false) ?_;refine hD.gwn (.int .i64 (loneDo k va vb l).2.2) rfl (fun τ d=>ex_move rfl rfl) ?_;refine hD.gwn (.int .i64 (loneDo k va vb l).2.2) rfl (fun τ d=>ex_move rfl rfl) ?_;refine hD.gwn (.bool false) rfl (fun τ d=>(w_neq3 (i:=(loneDo k va vb l).2.2) (j:=(loneDo k va vb l).2.2) rfl rfl rfl).trans (by rw[decide_eq_false (fun h=>h rfl)])) ?_;refine hD.pun (.bool false) (fun w=>pu_pick (t:=false) rfl rfl rfl) ?_;refine hD.e0 (hD.cc false (hD.k0 (hD.sr (hD.mvn (ptr nb) ?_))));refine hD.mvn (.slice (some ⟨tb,to,none⟩) n ct) ?_;refine hD.mvn (.int .i64 (j:Int)) ?_;refine hD.ixn (.pointer (some ⟨tb,to+j*4,none⟩)) (ix60 hj) ?_;refine hD.ldn (.agg #[.int .i64 k,.int .i64 ob,.int .i64 va,.int .i64 vb]) (fun τ d=>ld78s q0 q1 q2 q3) ?_;refine hD.cf #[ptr nb,(.pointer none),.agg #[(.int .i64 k),(.int .i64 ob),(.int .i64 va),(.int .i64 vb)]] hk Try.func24 ?_;refine nil_does hM3.nbs hK rfl fun v w4 ⟨hv,k4⟩=>?_;subst hv;have hM4:=hM3.kp k4;have hs4:=hs3.kp k4;obtain⟨tb',to',hgt,_,q0,q1,q2,q3⟩:=hs4 j k ob va vb hz;cases hgt;refine finn 62 ?_;refine hD.mvn (.tuple #[.int .i64 (noneDo k).1,.int .i64 (noneDo k).2]) ?_;refine hD.pun (.int .i64 (noneDo k).1) (fun w=>pu_ext rfl rfl rfl) ?_;refine hD.pun (.int .i64 (noneDo k).2) (fun w=>pu_ext rfl rfl rfl) ?_;refine hD.asn (.int .i64 (noneDo k).1) ?_;refine hD.asn (.int .i64 (noneDo k).2) ?_;refine hD.z0 (hD.mvn (.slice (some ⟨tb,to,none⟩) n ct) ?_);refine hD.mvn (.int .i64 (j:Int)) ?_;refine hD.ixn (.pointer (some ⟨tb,to+j*4,none⟩)) (ix60 hj) ?_
   refine hD.ldn (.agg #[.int .i64 k,.int .i64 ob,.int .i64 va,.int .i64 vb]) (fun τ d=>ld78s q0 q1 q2 q3) ?_;refine hD.cf #[.agg #[(.int .i64 k),(.int .i64 ob),(.int .i64 va),(.int .i64 vb)]] hk Try.func26 ?_;refine CCn.of (f:=26) (V:=.tuple #[.int .i64 (noneDo k).1,.int .i64 (noneDo k).2]) (F:=[]) (Q:=fun _=>True) rfl (fun _ _ _ h=>h) (fun τ d=>(none26 (re w4 τ d) k ob va vb).mono fun e w' h=>⟨h.1,Keeps.kp h.2,trivial⟩) hK rfl fun v w5 ⟨hv,k5,_⟩=>?_;subst hv;refine finn 70 ?_;refine hD.mvn (.tuple #[.int .i64 (noneDo k).1,.int .i64 (noneDo k).2]) ?_;refine hD.pun (.int .i64 (noneDo k).1) (fun w=>pu_ext rfl rfl rfl) ?_;refine hD.pun (.int .i64 (noneDo k).2) (fun w=>pu_ext rfl rfl rfl) ?_;refine hD.asn (.int .i64 (noneDo k).1) ?_;refine hD.asn (.int .i64 (noneDo k).2) ?_;refine hD.z0 (hD.mvn (.int .i64 (noneDo k).1) ?_);refine hD.mvn (.int .i64 (noneDo k).1) ?_;refine hD.pun (.bool false) (fun w=>(w_neq3 (i:=(noneDo k).1) (j:=(noneDo k).1) rfl rfl rfl).trans (by rw[decide_eq_false (fun h=>h rfl)])) ?_;refine hD.mvn (.bool false) ?_;refine hD.gwn (.int .i64 (noneDo k).2) rfl (fun τ d=>ex_move rfl rfl) ?_;refine hD.gwn (.int .i64 (noneDo k).2) rfl (fun τ d=>ex_move rfl rfl) ?_;refine hD.gwn (.bool false) rfl (fun τ d=>(w_neq3 (i:=(noneDo k).2) (j:=(noneDo k).2) rfl rfl rfl).trans (by rw[decide_eq_false (fun h=>h rfl)])) ?_;refine hD.pun (.bool false) (fun w=>pu_pick (t:=false) rfl rfl rfl) ?_;refine hD.e0 (hD.cc false (hD.k0 (hD.inBlock (n:=0) ?_)));refine hD.r0 (hD.mvn (.int .i64 (j:Int)) ?_);refine hD.pun (.int .i64 (wrap64 ((j:Int)+1))) (fun w=>w_add3 rfl rfl rfl) ?_;refine hD.asn (.int .i64 (wrap64 ((j:Int)+1))) ?_;refine hD.e0 (hD.inLoop (n:=0) ?_);exact al_loop hK hn hn40 hend d' (by omega) (hM4.kp k5) (hs4.kp k5) rfl rfl rfl rfl (next_big j (by omega))
  ·refine hD.cond (n:=0) false (show Value.bool (decide ((j:Int)<(n:Int)))=_ by rw[decide_eq_false (by omega)]) rfl ?_
   refine hD.exit (n:=0) rfl ?_;exact hD.s0 (hend _ _)
end Go.Proofs.Ytgapgmigmlideaa.Lift
namespace Go.Proofs.Ytgapgmigmlideaa.Z
open Go Go.Conc Go.ChangeShapes Go.WideShapes Go.ChangeAt Go.RowKit Go.Deep Lift
theorem laidOut:laidOutB Try.prog=true:=by kernel_rfl
theorem cell_spot {w:World}{a:Addr}{v:Value}(h:w.cell? a=some v):a=⟨a.block,a.off,none⟩:=by
 obtain⟨b,o,s⟩:=a;unfold World.cell? at h;split at h
 ·cases s with
  | none=>rfl
  | some x=>simp at h
 ·cases h
theorem cell_row {w:World}{a:Addr}{v:Value}(h:w.cell? a=some v):∃ c t fz,w.heap[a.block]?=some (.cells c t fz):=by
 unfold World.cell? at h;cases e:w.heap[a.block]? with
 | none=>simp[e] at h
 | some x =>
  cases x<;>simp[e] at h
  exact⟨_,_,_,rfl⟩
theorem add_at (b o j:Nat):(⟨b,o,none⟩:Addr).add j=⟨b,o+j,none⟩:=by unfold Addr.add;split<;>simp_all
theorem spot_of {w:World}{a:Addr}{n:Nat}{cs:List Value}(h:w.cells? 0 (a.add (0*n)) n=some cs)(hn:0<n):a.spot=none:=by
 obtain⟨_,hl,hat⟩:=World.cells?_some h;have h0:=hat 0 hn;rw[Nat.zero_mul,show ∀ a:Addr,a.add 0=a from fun a=>if_pos rfl,show ∀ a:Addr,a.add 0=a from fun a=>if_pos rfl,List.getElem?_eq_getElem (by omega)] at h0;exact congrArg Addr.spot (cell_spot h0)
theorem list_of {α:Type}{p:Nat→α→Prop}:∀ n,(∀ i,i<n→∃ x,p i x)→∃ l:List α,l.length=n∧∀ i x,l[i]?=some x→p i x
 | 0,_=>⟨[],rfl,fun i x h=>by simp at h⟩
 | n+1,h=>by
  obtain⟨l,hl,hp⟩:=list_of n (fun i hi=>h i (by omega));obtain⟨x,hx⟩:=h n (by omega);refine⟨l++[x],by simp[hl],fun i y hy=>?_⟩;by_cases hi:i<n
  ·rw[List.getElem?_append_left (by omega)] at hy;exact hp i y hy
  ·rw[List.getElem?_append_right (by omega),hl] at hy
   by_cases he:i=n
   ·subst he;simp at hy;subst hy;exact hx
   ·rw[List.getElem?_eq_none (by simp;omega)] at hy;cases hy
def SlOk (w:World)(g:Option Addr)(n cap:Nat):Prop:=∀ a,g=some a→(∃ c t fz,w.heap[a.block]?=some (.cells c t fz))∨n=0∧cap=0
theorem cells3:Try.prog.cellsOf 3=1:=by kernel_rfl
def IntsIn (w:World)(vp:Value)(xs:List Int):Prop:=∃ g c,vp=.slice g xs.length c∧SlOk w g xs.length c∧∀ (j:Nat) (u:Int),xs[j]?=some u→∃ b o,g=some ⟨b,o,none⟩∧w.cell? ⟨b,o+j,none⟩=some (.int .i64 u)
section
variable {H:Type}{enc:TypeId × Value→H}{w:World}{held:Bool}{fuel:Nat}{cs:List Value}{x:DataW H × List MemPlace}
structure BytesIn (w:World)(vp:Value)(xs:List Nat):Prop where
 sl:∃ g c,vp=.slice g xs.length c∧xs.length≤c∧c≤maxLen∧SlOk w g xs.length c∧∀ (j u:Nat),xs[j]?=some u→∃ b o,g=some ⟨b,o,none⟩∧w.cell? ⟨b,o+j,none⟩=some (.int .u8 u)
 byte:∀ u∈xs,u<256
end
theorem post_true {H:Type}{enc:TypeId × Value→H}{f:Func}{s:ChangeSpec}{t:TypeId}{W W':World}{v0:Value}{d0:DataW H}{before:List MemPlace}(hs:s.vars=[])(hp:f.params.toList=[t])(hr:f.resultTypes=#[4])
  (hd:∀ d,s.fn H [d]={results:=[.lit (.bool true)],args:=[d]}) (ht:Try.prog.readableRec t=true) (hrow:t<Try.prog.types.size)
  (hW:DataW.Whole enc Try.prog f.params.toList s.vars false W [v0] [d0] [] before) (h0:DataW.Trod enc Try.prog W 0 (fun _=>true) true t v0 d0 before) (hb:Below W.heap.size W W') :
  s.post enc Try.prog f false true false false W #[v0] (.bool true) W':=by
 refine⟨[d0],[],before,[],before,[],hW,?_,?_,?_,hb.frame _,fun h=>by cases h⟩
 ·rw[hr,List.append_nil,hd]
  exact trodAll_mk1 (shut_bool Try.underlying4 _)
 ·rw[hp,List.append_nil,hd]
  exact trodAll_mk1 (Below.trod laidOut ht hrow h0 hb fun x hx=>hW.lt x hx)
 ·rw[hs,List.append_nil,hd]
  rfl
end Go.Proofs.Ytgapgmigmlideaa.Z
namespace Go.Proofs.Ytgapgmigmlideaa.Lift
open Go Go.Conc Go.RowKit Pl
open Z (SlOk BytesIn IntsIn)
theorem slOk_rel {W:World}{g:Option Addr}{n c:Nat}(h:SlOk W g n c):VRel (seenR W) (.slice g n c) (.slice g n c):=by
 cases g with
 | none=>exact .flat rfl
 | some a =>
  rcases h a rfl with e | ⟨rfl,rfl⟩
  ·obtain⟨b,o,s⟩:=a
   exact .slice (seenR_in e)
  ·exact .void
theorem start_idle (W:World):Idle (SC.start W):=⟨fun _=>rfl,fun _=>rfl,Nat.one_pos⟩
theorem some_heap:Try.prog.globals.size<(begin Try.prog (fun _ _=>0) default).world.heap.size:=of_decide_eq_true (by kernel_rfl)
theorem own:ownKnob Try.prog.godebug=none:=by kernel_rfl
theorem leaving_plain {H:Type}{enc:TypeId × Value→H}{a:Assume}{C:Checked}{os:Os}{f:FuncId}{fn:Func}{s:ChangeSpec}{conds:List PathCond}{apart fresh handsOn again:Bool}
  (own:ownKnob C.prog.godebug=none) (started:os.Started) (hfn:C.prog.funcs[f]?=some fn) (hne:C.prog.globals.size<(begin C.prog (fun _ _=>0) default).world.heap.size)
  (witness:∃ (w:World) (tape:Tape) (i:Input),w.os=os∧(w.forCall tape i).Shaped C.prog∧i.vars=[]∧Input.okWide C.prog (w.forCall tape i) .any w.heap.size f i ∧
   s.pre6 enc C.prog fn conds apart (w.forCall tape i).memory i.args∧a.holds C.prog (lone (Frame.enter C.prog f i.args .normal) [] (w.forCall tape i)))
  (runs:∀ (W:World) (base:Nat) (args:Array Value) (ds gs:List (DataW H)) (before:List MemPlace),
   (∀ (j:Nat) t v,fn.params[j]?=some t→args[j]?=some v→Value.okWide C.prog W .any base t v) →
   DataW.Whole enc C.prog fn.params.toList s.vars apart W args.toList ds gs before→0<W.heap.size →
   ∃ M last o w' t',runNT C.prog (M+1) (solo (G (Frame.enter C.prog f args .normal) []) W) #[]=(.ended o w',t')∧runN C.prog M (solo (G (Frame.enter C.prog f args .normal) []) W)=.next last ∧
    step C.prog last=.ended o w'∧Go.Conc.Good C.prog (fun v W'=>s.post enc C.prog fn apart fresh handsOn again W args v W') last o w' t') :
  ReturnsInLeavingWide a C os f .any (s.pre6 enc C.prog fn conds apart) (s.post enc C.prog fn apart fresh handsOn again):=by
 refine returnsInLeavingWide_of_good own started witness ?_;intro w tape i _ hsh _ hok hpre _;have h0:0<(w.forCall tape i).heap.size:=by
  obtain⟨o,_,ho,_⟩:=hsh.2 _ (Nat.le_refl _) hne;have:=(aq' ho).1;omega
 obtain⟨_,_,_,fn',hfn',_,_,_,_,hval⟩:=hok;have e:fn'=fn:=oj' (hfn'.symm.trans hfn);subst e;obtain⟨⟨ds,gs,before,hw,hc⟩,hz⟩:=hpre;have hw':=DataW.Whole.of_heap (w':=w.forCall tape i) (by rfl) hw;obtain⟨M,last,o,w',t',h1,h2,h3,h4⟩:=runs (w.forCall tape i) w.heap.size i.args ds gs before hval hw' h0;exact⟨M,last,o,w',t',h1,h2,h3,h4.mono fun v hp=>ChangeSpec.post_blind hp⟩
end Go.Proofs.Ytgapgmigmlideaa.Lift
namespace Go.Proofs.Ytgapgmigmlideaa.Lift
open Go Go.Conc Go.RowKit Pl
theorem al_65:∀ w:World,(Instr.alloc 65 true (.tuple #[])).run Try.prog w=.ok (ptr w.heap.size) (w.alloc (.cells #[.pointer none,.pointer none] 65)):=fun w=>by
 simp[go_sem,Try.underlying65,Try.runUnderlying65,Try.sizeOf65,Try.isAgg65,Try.zeroValue65]
theorem call_new3 {m:Bool}{K:Goroutine→World→Prop}(hK:Cl Try.prog m K){f:FuncId}{args:Array Value}{cells:List Value}{t:TypeId}{w:World}{c:Frame}{low:List Frame}(hf:fam3 f=true)(hc:∀ w,Calls Try.prog f args w fun e w'=>e=.returned (ptr w.heap.size)∧w'=w.alloc (.cells cells.toArray t))
  (h:∀ w' b,b=w.heap.size→Kp [] w w'→Blk w' b cells t→K (gs (c.finish (ptr b)) low) w'):K (gs (Frame.enter Try.prog f args .normal) (c::low)) w:=by
 refine hK.call fits shut3 hf (R:=fun v w'=>v=ptr w.heap.size∧Kp [] w w'∧Blk w' w.heap.size cells t) (fun v w' τ d ⟨h1,h2,h3⟩=>⟨h1,⟨h2.size,h2.block⟩,h3⟩) (fun τ d=>(hc (re w τ d)).mono fun e w' ⟨h1,h2⟩=>⟨_,h1,rfl,?_,?_⟩) ?_
 ·subst h2
  have:=Kp.alloc [] (re w τ d) (.cells cells.toArray t);exact⟨this.size,this.block⟩
 ·subst h2
  exact Blk.new (re w τ d) cells t
 ·rintro v w' ⟨rfl,k,b⟩
  exact h w' _ rfl k b
theorem pu_build65 {a:Act}{oo:Oper}{w:World}{x y:Operand}{p q:Nat}(h:oo.op=.build 65 #[(0,x),(1,y)])(hx:a.eval x=ptr p)(hy:a.eval y=ptr q):(execOp a.eval oo).run Try.prog w=.ok (.value (.agg #[ptr p,ptr q])) w:=by
 unfold execOp;rw[h];generalize a.eval=ρ at hx hy ⊢;exact run_vv (by simp[go_sem,hx,hy,Try.underlying65,Try.runUnderlying65,Try.sizeOf65,Try.zeroValue65,Try.sizeOf63])
theorem st65 {w:World}{b:Nat}{x0 x1:Value}{p q:Nat}(hb:Blk w b [x0,x1] 65):(Instr.storeAt 65 (ptr b) (.agg #[ptr p,ptr q])).run Try.prog w=.ok () ((w.setCell ⟨b,0,none⟩ (ptr p)).setCell ⟨b,1,none⟩ (ptr q)):=by
 have b1:=hb.set 0 (ptr p);have c0:=hb.cell 0;have c1:=b1.cell 1;have z0:=hb.frozen 0;have z1:=b1.frozen 1;simp[go_sem,c0,c1,z0,z1,Try.underlying65,Try.runUnderlying65,Try.sizeOf65,Try.sizeOf63,Try.isAgg65,Addr.add]
theorem ShM.off65 {sb b:Nat}{bl:Nat→Nat}{st:Nat→LoneSt}{q:Nat→Int}{w w':World}{cs:List Value}(h:ShM sb bl st q w)(hb:Blk w b cs 65)(hl:cs.length=2)(k:Kp [b] w w'):ShM sb bl st q w':=by
 have hn:∀ j,j<10→bl j≠b:=fun j hj=>cel_ne (Blk.cel (h.bk j hj)) (Blk.cel hb) (shType_ne (by decide) j);refine⟨fun j hj=>?_,fun j hj=>k.blk (h.bk j hj) (by simpa using hn j hj),h.ne,h.sn⟩;have hc:=h.hs j hj;by_cases e:sb=b
 ·exfalso
  subst e;have h2:=h.hs 9 (by omega);rw[hb.cell 9,List.getElem?_eq_none (by have:=hl;omega)] at h2;cases h2
 ·exact(cell_same (k.block sb (cell_block hc) (by simpa using e))).trans hc
theorem alone_law {Post:Value→World→Prop}{S:SC}{gt:Option Addr}{n ct:Nat}{calls:List (Int × Int × Int × Int)}(hid:Idle S)(hs:ScriptAt S.w.heap.size S.w gt calls)(hn:calls.length=n)(hn63:n<9223372036854775808)(hpost:∀ W,Go.RowKit.Below S.n0 S.W0 W→Post (.bool true) W):Sound Try.prog link.tWg Post 0 S (gs (Frame.enter Try.prog 6 #[.slice gt n ct] .normal) []):=by
 have hk:(base 6).kind≠.early:=nofun;have SI:=hid;have hK:=clS (Post:=Post) S;refine ks (S:=S) ?_ rfl;have hD:=hK.det;obtain⟨w,hw⟩:∃ w,w=S.w:=⟨_,rfl⟩;rw[← hw] at hs ⊢;have kk:Kp [] w w:=⟨Nat.le_refl _,fun _ _ _=>rfl⟩;rw[show(#[.slice gt n ct]:Array Value)=[.slice gt n ct].toArray from rfl,enter_fg (n:=82) (c:=q6) Try.func6 rfl rfl rfl];refine hD.sr (hD.asn (.bool false) ?_);refine hD.z0 (hD.cf #[] hk Try.func22 ?_);refine fresh_cc hK rfl fun v w1 ⟨sb,bl,hv,hsh,k1,hbl,hsb⟩=>?_;subst hv;have kk:=kk.trans k1;refine fin_at (Kn:=fun _=>KS Try.prog link.tWg Post 0 S) (n:=0) (dst:=some 11) rfl rfl ?_;refine nm rfl ?_;refine hD.asn (ptr sb) ?_;refine hD.z0 (hD.cf #[] hk Try.func23 ?_);refine call_new3 hK (f:=23) rfl (fun w=>lone_new w) fun w2 la hla ksw2 bw2=>?_;have gela:w.heap.size≤la:=by rw[hla];exact kk.size
 have hsh:=hsh.kp ksw2;have kk:=kk.trans ksw2;refine fin_at (Kn:=fun _=>KS Try.prog link.tWg Post 0 S) (n:=0) (dst:=some 12) rfl rfl ?_;refine nm rfl ?_;refine hD.cf #[] hk Try.func23 ?_;refine call_new3 hK (f:=23) rfl (fun w=>lone_new w) fun w3 lb hlb ksw3 bw3=>?_;have gelb:w.heap.size≤lb:=by rw[hlb];exact kk.size
 have hsh:=hsh.kp ksw3;have l01:la<lb:=by rw[hlb];exact bw2.lt
 have bw2':=ksw3.blk bw2 (by simp);have kk:=kk.trans ksw3;refine fin_at (Kn:=fun _=>KS Try.prog link.tWg Post 0 S) (n:=0) (dst:=some 13) rfl rfl ?_;refine nm rfl ?_;refine hD.pun (.agg #[ptr la,ptr lb]) (fun w=>pu_build65 rfl rfl rfl) ?_;refine hD.alloc (n:=0) (ob:=.cells #[.pointer none,.pointer none] 65) hk rfl ⟨rfl,rfl,rfl,(by decide +kernel),nofun⟩ al_65 ?_;obtain⟨w4,hsw4⟩:∃ z9,z9=w3.alloc (.cells #[.pointer none,.pointer none] 65):=⟨_,rfl⟩;obtain⟨nw4,hnw4⟩:∃ z9,z9=w3.heap.size:=⟨_,rfl⟩;have ksw4:Kp [] w3 w4:=by rw[hsw4];exact Kp.alloc [] _ _
 have bw4:Blk w4 nw4 [.pointer none,.pointer none] 65:=by rw[hsw4,hnw4];exact Blk.new _ _ _
 rw[← hsw4,← hnw4];clear hsw4;have genw4:w.heap.size≤nw4:=by rw[hnw4];exact kk.size
 have bw2'':=ksw4.blk bw2' (by simp);have bw3':=ksw4.blk bw3 (by simp);have kk:=kk.trans ksw4;refine nm rfl ?_;have hsh:=hsh.kp ksw4;refine hD.store (n:=0) (u:=(ptr nw4)) (z:=(.agg #[ptr la,ptr lb])) hk rfl ⟨rfl,rfl,rfl,rfl,nofun⟩ rfl rfl (fun τ d=>((st65 (w:=re w4 τ d) bw4).trans (congrArg (Result.ok ()) (by rw[re_setCell,re_setCell])))) (by rw[World.size_setCell,World.size_setCell];exact Nat.le_refl _) ?_;obtain⟨w5,hsw5⟩:∃ z9,z9=(w4.setCell ⟨nw4,0,none⟩ (ptr la)).setCell ⟨nw4,1,none⟩ (ptr lb):=⟨_,rfl⟩;have ksw5:Kp [nw4] w4 w5:=by rw[hsw5];exact(Kp.set w4 nw4 0 _).trans (Kp.set _ nw4 1 _)
 have bw5:Blk w5 nw4 [ptr la,ptr lb] 65:=by rw[hsw5];exact(bw4.set 0 _).set 1 _
 rw[← hsw5];clear hsw5;have hsh:=hsh.off65 bw4 rfl ksw5;have bw2''':=ksw5.blk bw2'' (by simpa using (cel_ne (Blk.cel bw2'') (Blk.cel bw4) (by decide)));have bw3'':=ksw5.blk bw3' (by simpa using (cel_ne (Blk.cel bw3') (Blk.cel bw4) (by decide)));have kk:=kk.new ksw5 (by simpa using genw4);refine hD.z0 (hD.pun (.agg #[(.pointer none),(.pointer none),(.pointer none),(.pointer none),(.pointer none),(.pointer none),(.pointer none),(.pointer none),(.pointer none),(.pointer none),.slice none 0 0]) (fun w=>pu_build74 rfl) ?_);refine hD.bo [(.pointer none),(.pointer none),(.pointer none),(.pointer none),(.pointer none),(.pointer none),(.pointer none),(.pointer none),(.pointer none),(.pointer none),.slice none 0 0] bx_74 fun w6 nw6 hnw6 ksw6 bw6=>?_;have genw6:w.heap.size≤nw6:=by rw[hnw6];exact kk.size
 have bw2'''':=ksw6.blk bw2''' (by simp);have bw3''':=ksw6.blk bw3'' (by simp);have bw5':=ksw6.blk bw5 (by simp);have kk:=kk.trans ksw6;refine hD.asn (ptr nw6) ?_;refine hD.e0 (hD.s0 (hD.sr (hD.asn (.int .i64 0) ?_)));refine hD.e0 (hD.block (n:=0) ?_);refine hD.loop (n:=0) ?_;have hsh:=hsh.kp ksw6;refine al_loop hK (cs:=[]) (lo:=w.heap.size) (sb:=sb) (nb:=nw6) (ab:=nw4) (n:=n) (ct:=ct) (bl:=bl) (lc:=fun o=>if o=0 then la else lb) (gt:=gt) (calls:=calls) hn hn63 (fun w x=>?_) n (j:=0) (st:=fun _=>lone0) (q:=fun _=>0) (by omega) ⟨hsh,fun o ho=>?_,Nat.ne_of_lt l01,bw5',fun j hj=>?_,⟨_,bw6⟩,hbl,fun {o} ho=>?_,trivial⟩ (hs.kp kk) rfl rfl rfl rfl rfl
 ·have kk:Kp [] w w:=⟨Nat.le_refl _,fun _ _ _=>rfl⟩
  refine hD.r0 (hD.cf #[] hk Try.func7 ?_);show Sound Try.prog link.tWg Post 0 { S with w:=w} _;refine works_runs (S:={S with w:=w}) ⟨SI.roles,SI.grps,SI.pos⟩ rfl fun S7 S7I n7 z7 k7=>?_;have kk:=kk.trans k7;have hK:=clS (Post:=Post) S7;refine ks (S:=S7) ?_ rfl;have hD:=hK.det;obtain⟨w70,hw70⟩:∃ w,w=S7.w:=⟨_,rfl⟩;rw[← hw70] at kk ⊢;have ksw70:Kp [] w w70:=by rw[hw70];exact k7
  refine fin_at (Kn:=fun _=>KS Try.prog link.tWg Post 0 S7) (n:=0) (dst:=some 81) rfl rfl ?_;refine nm rfl ?_;refine hD.asn (.bool true) ?_;refine hD.e0 (hD.ret (n:=0) ?_);exact sound_true (S:={S7 with w:=w70}) ⟨S7I.roles,S7I.grps,S7I.pos⟩ Try.func6 (by decide +kernel) rfl rfl (fun W hB=>hpost W (by rw[n7,z7] at hB;exact hB))
 ·obtain _ | _ | o:=o
  ·exact bw2''''
  ·exact bw3'''
  ·omega
 ·obtain _ | _ | _ | _ | _ | _ | _ | _ | _ | _ | j:=j<;>first | exact bw6.cell _ | omega
 ·obtain _ | _ | o:=o
  ·exact gela
  ·exact gelb
  ·omega
end Go.Proofs.Ytgapgmigmlideaa.Lift
namespace Go.Proofs.Ytgapgmigmlideaa.Z
open Go Go.Conc Go.ChangeShapes Go.WideShapes Go.ChangeAt Go.RowKit Go.Deep Lift
theorem cells78:Try.prog.cellsOf 78=4:=by kernel_rfl
def CallsIn (w:World)(vp:Value)(calls:List (Int × Int × Int × Int)):Prop:=∃ g c,vp=.slice g calls.length c∧calls.length≤maxLen∧SlOk w g calls.length c∧∀ (j:Nat) (k ob va vb:Int),calls[j]?=some (k,ob,va,vb)→∃ b o,g=some ⟨b,o,none⟩∧w.cell? ⟨b,o+j*4,none⟩=some (.int .i64 k)∧w.cell? ⟨b,o+j*4+1,none⟩=some (.int .i64 ob)∧w.cell? ⟨b,o+j*4+2,none⟩=some (.int .i64 va)∧w.cell? ⟨b,o+j*4+3,none⟩=some (.int .i64 vb)
section
variable {H:Type}{enc:TypeId × Value→H}{w:World}{held:Bool}{fuel:Nat}{cs:List Value}{x:DataW H × List MemPlace}
theorem open_call {a b c d:Value}(h:DataW.trod enc Try.prog w 0 (fun _=>true) held fuel 78 [a,b,c,d]=some x):∃ k l m n:Int,a=.int .i64 k∧b=.int .i64 l∧c=.int .i64 m∧d=.int .i64 n:=by
 obtain⟨xs,k,_,_,_,hxl,hf⟩:=DataW.trod_struct Try.underlying78 h;have f0:=hf 0 { name := "Kind",type:=3,offset:=0,embedded:=false,tag := "",pkgPath := "",byteOffset:=0} rfl;have f1:=hf 1 { name := "Obj",type:=3,offset:=1,embedded:=false,tag := "",pkgPath := "",byteOffset:=8} rfl;have f2:=hf 2 { name := "A",type:=3,offset:=2,embedded:=false,tag := "",pkgPath := "",byteOffset:=16} rfl;have f3:=hf 3 { name := "B",type:=3,offset:=3,embedded:=false,tag := "",pkgPath := "",byteOffset:=24} rfl;dsimp only at f0 f1 f2 f3;rw[cells3] at f0 f1 f2 f3;have hx2:xs.length=4:=hxl;change DataW.trod enc Try.prog w 0 (fun _=>true) held k 3 [a]=_ at f0;change DataW.trod enc Try.prog w 0 (fun _=>true) held k 3 [b]=_ at f1;change DataW.trod enc Try.prog w 0 (fun _=>true) held k 3 [c]=_ at f2;change DataW.trod enc Try.prog w 0 (fun _=>true) held k 3 [d]=_ at f3;rw[List.getElem?_eq_getElem (by omega)] at f0 f1 f2 f3;obtain⟨k0,h0,_,_⟩:=DataW.trod_int Try.underlying3 f0;obtain⟨k1,h1,_,_⟩:=DataW.trod_int Try.underlying3 f1;obtain⟨k2,h2,_,_⟩:=DataW.trod_int Try.underlying3 f2;obtain⟨k3,h3,_,_⟩:=DataW.trod_int Try.underlying3 f3;cases h0;cases h1;cases h2;cases h3;exact⟨_,_,_,_,rfl,rfl,rfl,rfl⟩
theorem open_calls (h:DataW.trod enc Try.prog w 0 (fun _=>true) held fuel 60 cs=some x):∃ (vp:Value) (calls:List (Int × Int × Int × Int)),cs=[vp]∧CallsIn w vp calls:=by
 rcases open_slice Try.underlying60 h with⟨rfl,rfl⟩ | ⟨a,len,cap,m,n,D,Pl,rfl,_,hle,hmx,hm,rfl,hi⟩
 ·exact⟨_,[],rfl,none,0,rfl,Nat.zero_le _,fun a ha=>by (cases ha),fun j k ob va vb hk=>by simp at hk⟩
 ·rw[if_pos rfl] at hm
  subst hm;rw[cells78] at hi;have hcell:∀ i,i<m→∃ p:Int × Int × Int × Int,a.spot=none∧w.cell? ⟨a.block,a.off+i*4,none⟩=some (.int .i64 p.1)∧w.cell? ⟨a.block,a.off+i*4+1,none⟩=some (.int .i64 p.2.1)∧w.cell? ⟨a.block,a.off+i*4+2,none⟩=some (.int .i64 p.2.2.1)∧w.cell? ⟨a.block,a.off+i*4+3,none⟩=some (.int .i64 p.2.2.2):=by
   intro i hlt;obtain⟨cs',hc,hd⟩:=hi i hlt;obtain⟨_,hcl,hat⟩:=World.cells?_some hc
   match cs',hcl with
   | [u,v,y,z],_ =>
    obtain⟨d,n,e,f,rfl,rfl,rfl,rfl⟩:=open_call hd;have h0:=hat 0 (by omega);have h1:=hat 1 (by omega);have h2:=hat 2 (by omega);have h3:=hat 3 (by omega);have hs:a.spot=none:=spot_of (hi 0 (by omega)).choose_spec.1 (by omega);obtain⟨b,o,s⟩:=a;simp only at hs;subst hs;rw[add_at,add_at] at h0 h1 h2 h3;exact⟨(d,n,e,f),rfl,h0,h1,h2,h3⟩
  obtain⟨its,hl,hits⟩:=list_of (α:=Int × Int × Int × Int) len fun i hlt=>hcell i (by omega);refine⟨_,its,rfl,some a,m,by rw[hl],by omega,fun a' ha=>?_,fun j k ob va vb hk=>?_⟩
  ·cases ha
   by_cases h0:m=0
   ·exact .inr ⟨by omega,h0⟩
   ·obtain⟨_,_,h2,_⟩:=hcell 0 (by omega)
    exact .inl (cell_row (a:=⟨a.block,_,none⟩) h2)
  ·obtain⟨h1,h2,h3,h4,h5⟩:=hits j _ hk
   obtain⟨b,o,s⟩:=a;simp only at h1;subst h1;exact⟨b,o,rfl,h2,h3,h4,h5⟩
end
theorem calls_seen {W:World}{g:Option Addr}{n c:Nat}{calls:List (Int × Int × Int × Int)}(B:∀ (j:Nat) (k ob va vb:Int),calls[j]?=some (k,ob,va,vb)→∃ b o,g=some ⟨b,o,none⟩∧W.cell? ⟨b,o+j*4,none⟩=some (.int .i64 k)∧W.cell? ⟨b,o+j*4+1,none⟩=some (.int .i64 ob)∧W.cell? ⟨b,o+j*4+2,none⟩=some (.int .i64 va)∧W.cell? ⟨b,o+j*4+3,none⟩=some (.int .i64 vb)):ScriptAt (seenW W).heap.size (seenW W) g calls:=fun j k ob va vb hj=>by
 obtain⟨b,o,h1,h2,h3,h4,h5⟩:=B j k ob va vb hj;obtain⟨_,_,_,hh⟩:=cell_isC h2;exact⟨b,o,h1,by rw[seenW_size];exact(aq' hh).1,seenW_cell h2 (.flat rfl),seenW_cell h3 (.flat rfl),seenW_cell h4 (.flat rfl),seenW_cell h5 (.flat rfl)⟩
theorem alone_contract (H:Type)(enc:TypeId × Value→H)(W:World)(base:Nat)(args:Array Value)(ds gs:List (DataW H))(before:List MemPlace)
  (hval:∀ (j:Nat) t v,Try.f6.params[j]?=some t→args[j]?=some v→Value.okWide Try.prog W .any base t v)
  (hW:DataW.Whole enc Try.prog Try.f6.params.toList Rows.lockAloneSpec.vars false W args.toList ds gs before) (h00:0<W.heap.size) :
  ∃ N last o w' t',runNT Try.prog (N+1) (solo (G (Frame.enter Try.prog 6 args .normal) []) W) #[]=(.ended o w',t')∧runN Try.prog N (solo (G (Frame.enter Try.prog 6 args .normal) []) W)=.next last ∧
    step Try.prog last=.ended o w'∧Go.Conc.Good Try.prog (fun v w'=>Rows.lockAloneSpec.post enc Try.prog Try.f6 false true false false W args v w') last o w' t':=by
 have hW':=hW;obtain⟨p,q,hA0,hV,rfl,hfz,hnd⟩:=hW;have hA:DataW.TrodAll enc Try.prog W 0 (fun _=>true) true Try.f6.params.toList args.toList ds p:=hA0;rw[Try.params6] at hA hval;obtain⟨v0,vs0,d0,ds0,p0,q0,hargs,rfl,rfl,h0,r0⟩:=trodAll_cons hA;obtain⟨rfl,rfl,rfl⟩:=trodAll_nil r0;obtain rfl:args=#[v0]:=by cases args;simp_all
 obtain⟨rfl,rfl⟩:=trodVars_none hV;have h0':=h0;obtain⟨fuel,ht⟩:=h0';obtain⟨vx,calls,e1,hX⟩:=open_calls ht;have hc1:v0.cells=#[v0]:=by
  have:=hval 0 60 v0 rfl rfl;cases v0<;>first | rfl | (simp[Value.okWide,Try.underlying60,Cell.okWide,Cell.ok] at this;done)
 have hv1:v0=vx:=by
  rw[hc1] at e1;exact(List.cons.inj e1).1
 subst hv1;obtain⟨g,c,rfl,hlen,hsl,hB⟩:=hX;clear hA0 hA ht;simp only[List.append_nil] at hW' h0;refine sound_start (ty:=link.tWg) (fun i v hi=>?_) (alone_law (calls:=calls) (start_idle W) (calls_seen (n:=calls.length) (c:=c) hB) rfl (by unfold maxLen at hlen;omega) fun W' hB'=>?_)
 ·match i,hi with
  | 0,hi=>cases hi;exact slOk_rel hsl
  | _+1,hi=>simp at hi
 ·exact post_true rfl rfl rfl (fun _=>rfl) (by kernel_rfl) (of_decide_eq_true (by kernel_rfl)) hW' h0 hB'
theorem alone_lifted (os:Os)(started:os.Started)(H:Type)(enc:TypeId × Value→H) :
  ReturnsInLeavingWide {} Try.checked os 6 .any (Rows.lockAloneSpec.pre6 enc Try.prog Try.f6 Rows.lockAloneRow.domain false) (Rows.lockAloneSpec.post enc Try.prog Try.f6 false true false false):=by
 refine leaving_plain (C:=Try.checked) (s:=Rows.lockAloneSpec) own started Try.func6 some_heap
  (ChangeSpec.witness6 (enc:=enc) (C:=Try.checked) (s:=Rows.lockAloneSpec) false ⟨#[],#[.slice none 0 0],[]⟩ 8 (by kernel_rfl) (by kernel_rfl) (by kernel_rfl) (by kernel_rfl)) ?_
 intro W base args ds gs before hval hW h0;exact alone_contract H enc W base args ds gs before hval hW h0
theorem lockAlone_said:Rows.LockAloneSaid :=
 OpenClaim.holds_of_wide_leaving 6 Try.f6 rfl rfl rfl rfl rfl rfl rfl ⟨rfl,rfl,rfl,rfl,rfl⟩ rfl rfl rfl rfl rfl (by kernel_rfl) Try.func6 (by kernel_rfl)
  (of_decide_eq_true (by kernel_rfl)) (by unfold Func.isWrapper;first | (rw[if_pos (by decide +kernel)];kernel_rfl) | (rw[if_neg (by decide +kernel)];exact⟨rfl,rfl⟩))
  (fun os started H enc _=>alone_lifted os started H enc)
#print axioms lockAlone_said
end Go.Proofs.Ytgapgmigmlideaa.Z
