/- LockExcludes, whatever comes in of bulk at most 2^20: true, and what came in reads as it did. -/
import Derived.Test.YtgapgmigmlideaaMf
set_option linter.unusedVariables false
set_option linter.unusedSimpArgs false
set_option maxRecDepth 100000
set_option maxHeartbeats 6400000
noncomputable section
namespace Go.Proofs.Ytgapgmigmlideaa.Z
open Go Go.Conc Go.ChangeShapes Go.WideShapes Go.ChangeAt Go.RowKit Go.Deep Lift
theorem bulk_sum {H:Type}{α:Type}(f:α→Nat)(D:α→DataW H):∀ l:List α,(∀ i∈l,f i≤Rows.uptoBulk (D i))→(l.map f).sum≤Rows.uptoBulkAll (l.map D)
 | [],_=>Nat.zero_le _
 | a::l,h=>by
  have ih:=bulk_sum f D l fun i hi=>h i (List.mem_cons_of_mem _ hi);have ha:=h a (mc' ..);rw[List.map_cons,List.map_cons,List.sum_cons,Rows.uptoBulkAll];omega
def ItemsIn (w:World)(g:Option Addr)(its:List (Int × Int)):Prop :=
 ∀ (k:Nat) (d x:Int),its[k]?=some (d,x)→∃ ab ao,g=some ⟨ab,ao,none⟩∧w.cell? ⟨ab,ao+k*2,none⟩=some (.int .i64 d)∧w.cell? ⟨ab,ao+k*2+1,none⟩=some (.int .i64 x)
theorem cells58:Try.prog.cellsOf 58=2:=by kernel_rfl
theorem cells55:Try.prog.cellsOf 55=1:=by kernel_rfl
theorem cells44:Try.prog.cellsOf 44=1:=by kernel_rfl
theorem cells23:Try.prog.cellsOf 23=1:=by kernel_rfl
theorem cells46:Try.prog.cellsOf 46=2:=by kernel_rfl
section
variable {H:Type}{enc:TypeId × Value→H}{w:World}{held:Bool}{fuel:Nat}{cs:List Value}{x:DataW H × List MemPlace}
theorem open_item {a b:Value}(h:DataW.trod enc Try.prog w 0 (fun _=>true) held fuel 58 [a,b]=some x):∃ d n:Int,a=.int .i64 d∧b=.int .i64 n:=by
 obtain⟨xs,k,_,_,_,hxl,hf⟩:=DataW.trod_struct Try.underlying58 h;have f0:=hf 0 { name := "What",type:=3,offset:=0,embedded:=false,tag := "",pkgPath := "",byteOffset:=0} rfl;have f1:=hf 1 { name := "Steps",type:=3,offset:=1,embedded:=false,tag := "",pkgPath := "",byteOffset:=8} rfl;dsimp only at f0 f1;rw[cells3] at f0 f1;have hx2:xs.length=2:=hxl;change DataW.trod enc Try.prog w 0 (fun _=>true) held k 3 [a]=_ at f0;change DataW.trod enc Try.prog w 0 (fun _=>true) held k 3 [b]=_ at f1;rw[List.getElem?_eq_getElem (by omega)] at f0 f1;obtain⟨d,h0,_,_⟩:=DataW.trod_int Try.underlying3 f0;obtain⟨n,h1,_,_⟩:=DataW.trod_int Try.underlying3 f1;cases h0;cases h1;exact⟨d,n,rfl,rfl⟩
theorem open_items (h:DataW.trod enc Try.prog w 0 (fun _=>true) held fuel 55 cs=some x) :
  ∃ (g:Option Addr) (cap:Nat) (its:List (Int × Int)),cs=[.slice g its.length cap]∧its.length+1≤Rows.uptoBulk x.1∧ItemsIn w g its∧SlOk w g its.length cap:=by
 rcases open_slice Try.underlying55 h with⟨rfl,rfl⟩ | ⟨a,len,cap,m,n,D,Pl,rfl,_,hle,_,hm,rfl,hi⟩
 ·exact⟨none,0,[],rfl,by simp[Rows.uptoBulk],fun k d x hk=>by simp at hk,fun a ha=>by cases ha⟩
 ·rw[if_pos rfl] at hm
  subst hm;rw[cells58] at hi;have hcell:∀ i,i<m→∃ p:Int × Int,a.spot=none∧w.cell? ⟨a.block,a.off+i*2,none⟩=some (.int .i64 p.1)∧w.cell? ⟨a.block,a.off+i*2+1,none⟩=some (.int .i64 p.2):=by
   intro i hlt;obtain⟨cs',hc,hd⟩:=hi i hlt;obtain⟨_,hcl,hat⟩:=World.cells?_some hc
   match cs',hcl with
   | [u,v],_ =>
    obtain⟨d,n,rfl,rfl⟩:=open_item hd;have h0:=hat 0 (by omega);have h1:=hat 1 (by omega);have hs:a.spot=none:=spot_of (hi 0 (by omega)).choose_spec.1 (by omega);obtain⟨b,o,s⟩:=a;simp only at hs;subst hs;rw[add_at,add_at] at h0 h1;exact⟨(d,n),rfl,h0,h1⟩
  obtain⟨its,hl,hits⟩:=list_of (α:=Int × Int) len fun i hlt=>hcell i (by omega);refine⟨some a,m,its,by rw[hl],?_,fun k d y hk=>?_,fun a' ha=>?_⟩
  ·show its.length+1≤Rows.uptoBulk (.slice _ _)
   have:=bulk_len ((List.range len).map D);simp only[Rows.uptoBulk];simp only[List.length_map,List.length_range] at this;omega
  ·obtain⟨h1,h2,h3⟩:=hits k (d,y) hk
   obtain⟨b,o,s⟩:=a;simp only at h1;subst h1;exact⟨b,o,rfl,h2,h3⟩
  ·cases ha
   by_cases h0:m=0
   ·exact .inr ⟨by omega,h0⟩
   ·obtain⟨_,_,h2,_⟩:=hcell 0 (by omega)
    exact .inl (cell_row (a:=⟨a.block,_,none⟩) h2)
structure ThrIn (w:World)(n:Nat)(its:Nat→List (Int × Int))(gi:Nat→Option Addr)(ci:Nat→Nat)(vt:Value):Prop where
 thr:∃ g c,vt=.slice g n c∧SlOk w g n c∧∀ i,i<n→∃ b o,g=some ⟨b,o,none⟩∧w.cell? ⟨b,o+i,none⟩=some (.slice (gi i) (its i).length (ci i))
 sl:∀ i,i<n→SlOk w (gi i) (its i).length (ci i)
 items:∀ i,i<n→ItemsIn w (gi i) (its i)
theorem open_threads (h:DataW.trod enc Try.prog w 0 (fun _=>true) held fuel 44 cs=some x) :
  ∃ (vt:Value) (n:Nat) (its:Nat→List (Int × Int)) (gi:Nat→Option Addr) (ci:Nat→Nat),cs=[vt]∧ThrIn w n its gi ci vt∧((List.range n).map fun i=>(its i).length+1).sum+1≤Rows.uptoBulk x.1:=by
 rcases open_slice Try.underlying44 h with⟨rfl,rfl⟩ | ⟨a,len,cap,m,n,D,Pl,rfl,_,hle,_,hm,rfl,hi⟩
 ·exact⟨_,0,fun _=>[],fun _=>none,fun _=>0,rfl,⟨⟨none,0,rfl,fun a ha=>by (cases ha),fun i hi=>by omega⟩,fun i hi=>by omega,fun i hi=>by omega⟩,by simp[Rows.uptoBulk]⟩
 ·rw[if_pos rfl] at hm
  subst hm;rw[cells55] at hi;have hcell:∀ i,i<m→∃ p:Option Addr × Nat × List (Int × Int),a.spot=none∧w.cell? ⟨a.block,a.off+i,none⟩=some (.slice p.1 p.2.2.length p.2.1)∧p.2.2.length+1≤Rows.uptoBulk (D i)∧ItemsIn w p.1 p.2.2∧SlOk w p.1 p.2.2.length p.2.1:=by
   intro i hlt;obtain⟨cs',hc,hd⟩:=hi i hlt;obtain⟨_,hcl,hat⟩:=World.cells?_some hc;obtain⟨g,cp,its,rfl,hb,h1,h2⟩:=open_items hd;have h0:=hat 0 (by omega);have hs:a.spot=none:=spot_of (hi 0 (by omega)).choose_spec.1 (by omega);obtain⟨b,o,s⟩:=a;simp only at hs;subst hs;rw[add_at,add_at,Nat.mul_one,Nat.add_zero] at h0;exact⟨(g,cp,its),rfl,h0,hb,h1,h2⟩
  obtain⟨f,hf⟩:=choose_lt (α:=Option Addr × Nat × List (Int × Int)) (n:=len) (fun i hlt=>hcell i (by omega));refine⟨_,len,fun i=>(f i).2.2,fun i=>(f i).1,fun i=>(f i).2.1,rfl,⟨⟨some a,m,rfl,fun a' ha=>?_,fun i hlt=>?_⟩,fun i hlt=>(hf i hlt).2.2.2.2,fun i hlt=>(hf i hlt).2.2.2.1⟩,?_⟩
  ·cases ha
   by_cases h0:m=0
   ·exact .inr ⟨by omega,h0⟩
   ·obtain⟨_,_,h2,_⟩:=hcell 0 (by omega)
    exact .inl (cell_row (a:=⟨a.block,_,none⟩) h2)
  ·obtain⟨h1,h2,_⟩:=hf i hlt
   obtain⟨b,o,s⟩:=a;simp only at h1;subst h1;exact⟨b,o,rfl,h2⟩
  ·have:=bulk_sum (fun i=>(f i).2.2.length+1) D (List.range len) fun i hi=>(hf i (List.mem_range.1 hi)).2.2.1
   show _+1≤Rows.uptoBulk (.slice _ _);simp only[Rows.uptoBulk];omega
theorem open_work {c1 c2:Value}(h:DataW.trod enc Try.prog w 0 (fun _=>true) held fuel 46 [c1,c2]=some x) :
  ∃ (n:Nat) (its:Nat→List (Int × Int)) (gi:Nat→Option Addr) (ci:Nat→Nat) (picks:List Nat),ThrIn w n its gi ci c1∧BytesIn w c2 picks∧((List.range n).map fun i=>(its i).length+1).sum+picks.length+1≤Rows.uptoBulk x.1:=by
 obtain⟨xs,k,_,hx,_,hxl,hf⟩:=DataW.trod_struct Try.underlying46 h;have f1:=hf 0 { name := "Threads",type:=44,offset:=0,embedded:=false,tag := "",pkgPath := "",byteOffset:=0} rfl;have f2:=hf 1 { name := "Picks",type:=23,offset:=1,embedded:=false,tag := "",pkgPath := "",byteOffset:=24} rfl;dsimp only at f1 f2;rw[cells44] at f1;rw[cells23] at f2;change DataW.trod enc Try.prog w 0 (fun _=>true) held k 44 [c1]=_ at f1;change DataW.trod enc Try.prog w 0 (fun _=>true) held k 23 [c2]=_ at f2;have hx5:xs.length=2:=hxl;rw[List.getElem?_eq_getElem (by omega)] at f1 f2;obtain⟨vt,n,its,gi,ci,e1,hT,hb1⟩:=open_threads f1;obtain⟨vp,picks,e2,hB,hb2⟩:=open_bytes f2;cases e1;cases e2;refine⟨n,its,gi,ci,picks,hT,hB,?_⟩;have hd:x.1=.agg (xs.map (·.1)):=congrArg Prod.fst hx;have h5:xs=[xs[0],xs[1]]:=by
  apply List.ext_getElem
  ·simpa using hx5
  ·intro i h1 h2
   have:i=0∨i=1:=by omega
   rcases this with rfl | rfl<;>rfl
 rw[hd,h5];simp only[List.map_cons,List.map_nil,Rows.uptoBulkAll,Rows.uptoBulk];omega
end
end Go.Proofs.Ytgapgmigmlideaa.Z
namespace Go.Proofs.Ytgapgmigmlideaa.Lift
open Go Go.Conc Go.ChangeShapes
theorem holds_upto {p:Pinned}{s:OpenSpec}{c:OpenClaim}(f:FuncId)(fn:Func)
  (hn:c.program=p.name) (hs:c.sum=p.sum) (hsp:c.spec=s.name)
  (hstart:c.start=.entering) (hout:c.outside=[]) (hin:c.inits=[]) (hun:c.under=none) (hi4:c.initsInPlace=[]∧c.initsUnfollowed=false∧c.initsRecurse=false∧c.initsNamed=[]∧c.initsPassed=[]) (hnb:c.noBlocks=false) (hlv:c.leaving=true) (hfo:c.followed=none) (hnar:c.narrowed=s.cond.isSome) (hstill:c.still=false)
  (hfn:p.checked.prog.funcNamed c.func=some f) (hf:p.checked.prog.funcs[f]?=some fn)
  (closed:joinedFacts p.checked.prog f fn s.bare c=true)
  (hinst:fn.isInstance p.checked.prog c.origin c.targs) (hwrap:fn.isWrapper p.checked.prog c.wrapper c.mainSum)
  (h:∀ os:Os,os.Started→∀ (H:Type) (enc:TypeId × Value→H),(∀ a b,enc a=enc b→a=b)→∀ F:Stop.Interp,
   ReturnsInLeavingWide c.assume p.checked os f .any (c.pre enc p.checked.prog fn s) ((s.at F).post enc p.checked.prog fn c.apart c.fresh c.handsOn c.again)):c.holds p s:=by
 simp only[joinedFacts,Bool.and_eq_true,beq_iff_eq,Array.all_eq_true_iff_forall_mem,List.all_eq_true,decide_eq_true_eq] at closed;obtain⟨⟨⟨⟨⟨⟨⟨⟨⟨⟨⟨⟨⟨⟨⟨⟨⟨⟨⟨⟨⟨⟨⟨⟨⟨⟨⟨⟨⟨⟨⟨k1,k2⟩,k3⟩,k4⟩,k5⟩,k6⟩,k7⟩,k8⟩,k9⟩,k10⟩,k11⟩,k12⟩,k13⟩,k14⟩,k15⟩,k16⟩,k17⟩,k17b⟩,k18⟩,k19⟩,k20⟩,k21⟩,k22⟩,k23⟩,k23b⟩,k24⟩,k24b⟩,k24c⟩,k25⟩,k26⟩,k27⟩,k28⟩:=closed;have hq:∀ os:Os,Stop.quiet p.checked.prog os:=fun os k hk=>by rw[k9] at hk;cases hk
 refine⟨k1,hn,hs,hsp,k2,k3,by unfold OpenClaim.startFits;rw[hstart];exact k24,by unfold OpenClaim.startTold;rw[hstart];exact⟨hin,hun,hi4⟩,f,fn,hfn,hf,⟨k4,k19⟩,(fun hb=>by rw[hnb] at hb;cases hb),by unfold OpenClaim.namedList;rw[hfo];exact k5,hinst,hwrap,
  k6.trans k7.symm,⟨k8.trans k9.symm,by unfold Program.envWorded;rw[k9];rfl,k23b⟩,k10,k11,k12,k13,k14,⟨k15,k27,k28⟩,⟨k16,k20⟩,⟨k17,k21,k25,k26⟩,⟨k22,k24b,k24c,k17b⟩,(by rw[hout,hnar];cases hsh:c.shortTexts with | none=>simp | some _=>rw[hsh] at k23;cases k23),fun n hn'=>varReadable_some (k18 n hn'),
  ⟨_,by unfold OpenClaim.world;rw[hout,hstart];exact WideRow.started_initial,hq _⟩,[],by unfold OpenClaim.lists;rw[hfo],fun os st _ H enc inj=>?_⟩
 have st':os.Started:=by unfold OpenClaim.world at st;rw[hout,hstart] at st;exact st
 rw[OpenClaim.post_not_still hstill];unfold OpenClaim.form;rw[hstart,k6];intro F;have e1:c.okInput=Input.okWide:=by unfold OpenClaim.okInput;rw[hnb]
 have e2:c.atReturn p.checked.prog=leavingAtReturn p.checked.prog:=by unfold OpenClaim.atReturn;rw[hlv]
 have e3:c.always p.checked.prog []=nothingAlways:=by unfold OpenClaim.always;rw[hfo]
 have e4:s.post enc p.checked.prog fn F c.outside c.apart c.fresh c.handsOn c.again=(s.at F).post enc p.checked.prog fn c.apart c.fresh c.handsOn c.again:=by rw[hout];rfl
 rw[e1,e2,e3];show ReturnsInOpen _ _ _ _ _ _ _ _ (s.post enc p.checked.prog fn F c.outside c.apart c.fresh c.handsOn c.again) _ _;rw[e4];exact h os st' H enc inj F k24
theorem leaving_of_cond {H:Type}{enc:TypeId × Value→H}{a:Assume}{C:Checked}{os:Os}{f:FuncId}{fn:Func}{s:OpenSpec}{k:(H:Type)→List (DataW H)→Bool}(hk:s.cond=some k){F:Stop.Interp}{conds:List PathCond}{apart fresh handsOn again:Bool}
  (own:ownKnob C.prog.godebug=none) (started:os.Started) (hfn:C.prog.funcs[f]?=some fn) (hne:C.prog.globals.size<(begin C.prog (fun _ _=>0) default).world.heap.size)
  (witness:∃ (w:World) (tape:Tape) (i:Input),w.os=os∧(w.forCall tape i).Shaped C.prog∧i.vars=[]∧Input.okWide C.prog (w.forCall tape i) .any w.heap.size f i ∧
   s.pre6 enc C.prog fn conds apart (w.forCall tape i).memory i.args∧a.holds C.prog (lone (Frame.enter C.prog f i.args .normal) [] (w.forCall tape i)))
  (contract:∀ (W:World) (base:Nat) (args:Array Value) (ds gs:List (DataW H)) (before:List MemPlace),
   (∀ (j:Nat) t v,fn.params[j]?=some t→args[j]?=some v→Value.okWide C.prog W .any base t v) →
   DataW.Whole enc C.prog fn.params.toList s.vars apart W args.toList ds gs before→k H (ds++gs)=true→0<W.heap.size →
   ∃ N last o w' t',runNT C.prog (N+1) (solo (G (Frame.enter C.prog f args .normal) []) W) #[]=(.ended o w',t')∧runN C.prog N (solo (G (Frame.enter C.prog f args .normal) []) W)=.next last ∧
    step C.prog last=.ended o w'∧Go.Conc.Good C.prog (fun v w'=>(s.at F).post enc C.prog fn apart fresh handsOn again W args v w') last o w' t') :
  ReturnsInLeavingWide a C os f .any (s.pre6 enc C.prog fn conds apart) ((s.at F).post enc C.prog fn apart fresh handsOn again):=by
 refine returnsInLeavingWide_of_good own started witness ?_;intro w tape i _ hsh _ hok hpre _;have h0:0<(w.forCall tape i).heap.size:=by
  obtain⟨o,_,ho,_⟩:=hsh.2 _ (Nat.le_refl _) hne;have:=(aq' ho).1;omega
 obtain⟨_,_,_,fn',hfn',_,_,_,_,hval⟩:=hok;have e:fn'=fn:=oj' (hfn'.symm.trans hfn);subst e;obtain⟨ds,gs,before,hw,hc,hkk⟩:=(OpenSpec.pre_some hk conds apart _ _).1 hpre.1;have hw':=DataW.Whole.of_heap (w':=w.forCall tape i) (by rfl) hw;obtain⟨N,last,o,w',t',h1,h2,h3,v,rfl,hp,hrest⟩:=contract (w.forCall tape i) w.heap.size i.args ds gs before hval hw' hkk h0;exact⟨N,last,_,w',t',h1,h2,h3,v,rfl,ChangeSpec.post_blind hp,hrest⟩
open Go.RowKit Pl
open Go.ConcN (sumTo)
open Z (SlOk ThrIn BytesIn ItemsIn)
theorem sum_sumTo (f:Nat→Nat):∀ n,((List.range n).map f).sum=sumTo n f
 | 0=>rfl
 | n+1=>by
  rw[List.range_succ,List.map_append,List.sum_append,sum_sumTo f n];simp[sumTo]
theorem thr_rel {W:World}{n:Nat}{its:Nat→List (Int × Int)}{gi:Nat→Option Addr}{ci:Nat→Nat}{vt:Value}(T:ThrIn W n its gi ci vt):VRel (seenR W) vt vt:=by
 obtain⟨g,c,rfl,h,_⟩:=T.thr;exact slOk_rel h
theorem work_rel {W:World}{vt vp:Value}(h1:VRel (seenR W) vt vt)(h2:VRel (seenR W) vp vp):VRel (seenR W) (.agg #[vt,vp]) (.agg #[vt,vp]):=by
 refine .agg rfl fun i v V a b=>?_;rw[a] at b;cases b
 match i,a with
 | 0,a=>cases a;exact h1
 | 1,a=>cases a;exact h2
 | _+2,a=>simp at a
theorem acts_seen {W:World}{n:Nat}{its:Nat→List (Int × Int)}{gi:Nat→Option Addr}{ci:Nat→Nat}{vt:Value}(T:ThrIn W n its gi ci vt)(j:Nat)(hj:j<n) :
  ActsAt (seenW W).heap.size (fun b=>b<(seenW W).heap.size) (seenW W) (.slice (gi j) (its j).length (ci j)) (its j):=by
 refine⟨⟨_,_,rfl⟩,fun k z hk=>?_⟩;obtain⟨d,x⟩:=z;obtain⟨ab,ao,h1,h2,h3⟩:=T.items j hj k d x hk;obtain⟨_,_,_,hh⟩:=cell_isC h2;have hl:ab<(seenW W).heap.size:=by rw[seenW_size];exact(aq' hh).1
 refine⟨ab,ao,ci j,by rw[h1],hl,hl,?_,?_⟩
 ·rw[Nat.mul_comm];exact seenW_cell h2 (.flat rfl)
 ·rw[Nat.mul_comm];exact seenW_cell h3 (.flat rfl)
theorem ex_any {Post:Value→World→Prop}{W:World}{n:Nat}{its:Nat→List (Int × Int)}{gi:Nat→Option Addr}{ci:Nat→Nat}{vt vp:Value}{picks:List Nat}(T:ThrIn W n its gi ci vt)(B:BytesIn W vp picks)(hb:((List.range n).map fun i=>(its i).length+1).sum+picks.length+1≤1048576)(h0:0<W.heap.size)
  (hpost:∀ W',Go.RowKit.Below (SC.start W).n0 (SC.start W).W0 W'→Post (.bool true) W'):Sound Try.prog link.tWg Post 0 (SC.start W) (gs (Frame.enter Try.prog 5 #[.agg #[vt,vp]] .normal) []):=by
 rw[sum_sumTo] at hb;have hle:sumTo n (fun i=>(its i).length)≤sumTo n (fun i=>(its i).length+1):=sumTo_mono fun j _=>Nat.le_succ _;have hthr:=T.thr;obtain⟨gt,ct,rfl,_,hc⟩:=hthr;have hsl:=B.sl;obtain⟨gp,cp,rfl,_⟩:=hsl;refine ex_law (gi:=gi) (ci:=ci) (acts:=its) (start_idle W) (fun j hj=>?_) (fun j hj=>acts_seen T j hj) (bytes_seen B h0) (by omega) hpost;obtain⟨b,o,hg,h⟩:=hc j hj;exact⟨b,o,hg,seenW_cell h (slOk_rel (T.sl j hj))⟩
end Go.Proofs.Ytgapgmigmlideaa.Lift
namespace Go.Proofs.Ytgapgmigmlideaa.Z
open Go Go.Conc Go.ChangeShapes Go.WideShapes Go.ChangeAt Go.RowKit Go.Deep Lift
theorem list2 {α:Type}{l:List α}(h:l.length=2):∃ a b,l=[a,b]:=by
 match l,h with
 | [a,b],_=>exact⟨a,b,rfl⟩
theorem excludes_contract (H:Type)(enc:TypeId × Value→H)(W:World)(base:Nat)(args:Array Value)(ds gs:List (DataW H))(before:List MemPlace)
  (hval:∀ (j:Nat) t v,Try.f5.params[j]?=some t→args[j]?=some v→Value.okWide Try.prog W .any base t v)
  (hW:DataW.Whole enc Try.prog Try.f5.params.toList Rows.lockExcludesSpec.vars false W args.toList ds gs before) (hk:Rows.uptoSmall H (ds++gs)=true) (h00:0<W.heap.size) :
  ∃ N last o w' t',runNT Try.prog (N+1) (solo (G (Frame.enter Try.prog 5 args .normal) []) W) #[]=(.ended o w',t')∧runN Try.prog N (solo (G (Frame.enter Try.prog 5 args .normal) []) W)=.next last ∧
    step Try.prog last=.ended o w'∧Go.Conc.Good Try.prog (fun v w'=>Rows.lockExcludesSpec.post enc Try.prog Try.f5 false true false false W args v w') last o w' t':=by
 have hW':=hW;obtain⟨p,q,hA0,hV,rfl,hfz,hnd⟩:=hW;have hA:DataW.TrodAll enc Try.prog W 0 (fun _=>true) true Try.f5.params.toList args.toList ds p:=hA0;rw[Try.params5] at hA hval;obtain⟨v0,vs0,d0,ds0,p0,q0,hargs,rfl,rfl,h0,r0⟩:=trodAll_cons hA;obtain⟨rfl,rfl,rfl⟩:=trodAll_nil r0;obtain rfl:args=#[v0]:=by cases args;simp_all
 obtain⟨rfl,rfl⟩:=trodVars_none hV;obtain⟨cs,rfl,hsz⟩:=okWide_struct Try.underlying46 (hval 0 46 v0 rfl rfl);rw[cells46] at hsz;obtain⟨c1,c2,hcs⟩:=list2 (by rw[Array.length_toList];exact hsz);obtain rfl:cs=#[c1,c2]:=by cases cs;simp_all
 have h0':=h0;obtain⟨fuel,ht⟩:=h0';change DataW.trod enc Try.prog W 0 (fun _=>true) true fuel 46 [c1,c2]=_ at ht;obtain⟨n,its,gi,ci,picks,hT,hB,hbk⟩:=open_work ht;have hb:((List.range n).map fun i=>(its i).length+1).sum+picks.length+1≤1048576:=by
  rw[List.append_nil] at hk;have h:=bulk_of hk;simp only[Rows.uptoBulkAll] at h;exact Nat.le_trans hbk h
 clear hA0 hA ht;simp only[List.append_nil] at hW' h0;refine sound_start (ty:=link.tWg) (fun i v hi=>?_) (ex_any hT hB hb h00 fun W' hB'=>?_)
 ·match i,hi with
  | 0,hi=>cases hi;exact work_rel (thr_rel hT) (bytes_rel hB)
  | _+1,hi=>simp at hi
 ·exact post_true rfl rfl rfl (fun _=>rfl) (by kernel_rfl) (of_decide_eq_true (by kernel_rfl)) hW' h0 hB'
theorem excludes_lifted (os:Os)(started:os.Started)(H:Type)(enc:TypeId × Value→H)(F:Stop.Interp) :
  ReturnsInLeavingWide {} Try.checked os 5 .any ((Rows.OpenSpec.upto Rows.lockExcludesSpec).pre6 enc Try.prog Try.f5 Rows.lockExcludesUptoRow.domain false) (((Rows.OpenSpec.upto Rows.lockExcludesSpec).at F).post enc Try.prog Try.f5 false true false false):=by
 refine leaving_of_cond (C:=Try.checked) (s:=Rows.OpenSpec.upto Rows.lockExcludesSpec) (k:=Rows.uptoSmall) rfl own started Try.func5 some_heap
  (OpenSpec.witness (enc:=enc) (C:=Try.checked) (s:=Rows.OpenSpec.upto Rows.lockExcludesSpec) (k:=Rows.uptoSmall) rfl false ⟨#[],#[.agg #[.slice none 0 0,.slice none 0 0]],[]⟩ 8 (by kernel_rfl) (by kernel_rfl) (by kernel_rfl)
   (x:=([.agg [.nil,.nil]],[],[])) (by kernel_rfl) rfl (by kernel_rfl)) ?_
 intro W base args ds gs before hval hW hk h0;exact excludes_contract H enc W base args ds gs before hval hW hk h0
theorem lockExcludes_upto:Rows.LockExcludesUptoSaid :=
 holds_upto 5 Try.f5 rfl rfl rfl rfl rfl rfl rfl ⟨rfl,rfl,rfl,rfl,rfl⟩ rfl rfl rfl rfl rfl (by kernel_rfl) Try.func5 (by kernel_rfl)
  (of_decide_eq_true (by kernel_rfl)) (by unfold Func.isWrapper;first | (rw[if_pos (by decide +kernel)];kernel_rfl) | (rw[if_neg (by decide +kernel)];exact⟨rfl,rfl⟩))
  (fun os started H enc _ F=>excludes_lifted os started H enc F)
#print axioms lockExcludes_upto
end Go.Proofs.Ytgapgmigmlideaa.Z
