/- Bd Be Bf Bg Bh Bi Bj Bk Bl Bm Bn Bo Bp Bq Br Bs Bt Bu Bv Bw Bx By Bz Ca -/
import Derived.Conc.CrowdSit
import Derived.Below
import Derived.Conc.Fork
import Derived.Conc.Token
import Derived.Conc.WgGenN2
import Derived.Conc.WgGenWait
import Derived.Test.YtfbjopkiicmiiaaMa
set_option linter.unusedVariables false
set_option linter.unusedSimpArgs false
set_option maxRecDepth 100000
set_option maxHeartbeats 6400000
noncomputable section
namespace Go.Proofs.Ytfbjopkiicmiiaa.Lift
open Go Go.Conc
open Go.ConcN (sumTo upd sumTo_upd upd_ne upd_same WgLive)
open Go.ConcR (KK WgAt stA smA DC0)
def LentG (S:SC)(ω:Ren)(j B:Nat):Prop:=∃ s b,S.role j=.seat s∧s.lent b∧ω b=some B
def OwnG (S:SC)(ω:Ren)(j B:Nat):Prop:=∃ s b,S.role j=.seat s∧s.own b∧ω b=some B
def ShunG (S:SC)(ω:Ren)(B:Nat):Prop:=∃ b,S.wgs b∧ω b=some B
def isSeat (S:SC)(j:Nat):Prop:=∃ s,S.role j=.seat s
def isDoner (S:SC)(j:Nat):Prop:=∃ b,S.role j=.doner b
structure Fair (S:SC):Prop where
 top:∀ j s,S.role j=.seat s→s.hi≤S.w.heap.size
 ownp:∀ j s b,S.role j=.seat s→s.own b→S.w.heap[b]?=some poison
 apart:∀ i j s s' b,S.role i=.seat s→S.role j=.seat s'→s.own b→s'.own b→i=j
 lent:∀ j s b,S.role j=.seat s→s.lent b→Stl S.w b∧S.w.heap[b]?≠some poison
 lento:∀ i j s s' b,S.role i=.seat s→S.role j=.seat s'→s.lent b→¬ s'.own b
 chs:∀ c,S.chs c→S.w.heap[c]?=some poison
 seatinj:∀ i j s s',S.role i=.seat s→S.role j=.seat s'→s.c=s'.c→i=j
 wgs:∀ b,S.wgs b→S.w.heap[b]?=some poison
 wgo:∀ j s b,S.role j=.seat s→s.own b→¬ S.wgs b
 few:∀ b,S.wgs b→S.pend b+sumTo S.n (cnt S (fun _=>true) b)<1000
 donerg:∀ j b,S.role j=.doner b→S.grp j=some b∧S.wgs b∧0<j
 small:∀ j,S.role j≠.none→j<S.n
 fzs:∀ b,S.fz b→∃ c t,S.w.heap[b]?=some (.cells c t (0,c.size))
 low:∀ b,b<S.n0→Stl S.w b
 n0le:S.n0≤S.W0.heap.size
 olow:∀ j s b,S.role j=.seat s→s.own b→S.n0≤b
 wlow:∀ b,S.wgs b→S.n0≤b
 clow:∀ c,S.chs c→S.n0≤c
structure Base (P:Program)(ty:TypeId)(S:SC)(Sp Dead Hear:Nat→Prop)(K:Nat→Prop)(ρ ω:Ren)(und:Nat→Bool)(T:Trace)(gs:Array Goroutine)(W:World)(q lv:Nat→Nat):Prop where
 fair:Fair S
 size:gs.size=S.n
 view:View ρ S.w W
 oinj:∀ b c B,ω b=some B→ω c=some B→b=c
 odom:∀ b B,ω b=some B→b<S.w.heap.size∧B<W.heap.size
 up:ρ.le ω
 hole:∀ j s b,S.role j=.seat s→s.own b→ρ b=none
 down:∀ b B,ω b=some B→ρ b=some B∨∃ j s,S.role j=.seat s∧s.own b
 seat:∀ j s,¬ Sp j→S.role j=.seat s→∃ G p ρp g,gs[j]?=some G∧Seated P j s ω ρ S.w W (q j) G p ρp g
 gone:∀ j,¬ Sp j→S.role j=.none→j<S.n→0<j∧∃ G,gs[j]?=some G∧QuitsD P (q j) (Deaf T j) G
 doner:∀ j b,¬ Sp j→S.role j=.doner b→∃ G,gs[j]?=some G ∧
  ((und j=true∧∃ B,ρ b=some B∧3<lv j∧DonerAt P ty B (lv j) (q j) G W∧Deaf T j=(if lv j=4 then 1 else 0))∨(und j=false∧lv j=0∧QuitsD P (q j) (Deaf T j) G))
 lv0:∀ j,(∀ b,S.role j≠.doner b)→lv j=0
 und1:∀ j,(∀ b,S.role j≠.doner b)→und j=true
 chs:∀ c,S.chs c→∃ C k,ρ c=some C∧W.heap[C]?=some (.chan 0 #[] false k k false)
 seatch:∀ j s,¬ Dead j→S.role j=.seat s→S.chs s.c
 dead:∀ j G,¬ Sp j→Dead j→gs[j]?=some G→G.status=.running
 wgs:∀ b,S.wgs b→∃ B,ρ b=some B∧WgAt ty B W ((S.pend b+sumTo S.n (cnt S und b):Nat)*KK) 0
 trace:TP (isSeat S) (isDoner S) (fun j=>isSeat S j∨Hear j) (LentG S ω) (OwnG S ω) (ShunG S ω) W.heap.size K T
 above:∀ j,S.n≤j→Deaf T j=0
 fz:∀ b B,S.fz b→ρ b=some B→∃ C t FZ,W.heap[B]?=some (.cells C t FZ)∧FZ=(0,0)
 full:∀ b o,S.w.heap[b]?=some o→o≠poison→∃ B,ρ b=some B
 low:Go.RowKit.Below S.n0 S.W0 W
 lowo:∀ b B,ω b=some B→B<S.n0→b<S.n0
section
variable {P:Program}{ty:TypeId}{S:SC}{Sp Dead Hear:Nat→Prop}{K:Nat→Prop}{ρ ω:Ren}{und:Nat→Bool}{T:Trace}{gs:Array Goroutine}{W:World}{q lv:Nat→Nat}
theorem Base.apartG (C:Base P ty S Sp Dead Hear K ρ ω und T gs W q lv):Apart (isSeat S) (LentG S ω) (OwnG S ω) (ShunG S ω) W.heap.size:=by
 refine⟨fun g g' B _ _ ⟨s,b,h1,h2,h3⟩ ⟨s',b',k1,k2,k3⟩=>?_,fun g g' B _ _ ⟨s,b,h1,h2,h3⟩ ⟨s',b',k1,k2,k3⟩=>?_,fun g B _ ⟨s,b,h1,h2,h3⟩ ⟨b',k2,k3⟩=>?_,fun g B _ ⟨s,b,h1,h2,h3⟩ ⟨b',k2,k3⟩=>?_,
  fun g B _ ⟨s,b,h1,h2,h3⟩=>(C.odom b B h3).2,fun g B _ ⟨s,b,h1,h2,h3⟩=>(C.odom b B h3).2,fun B ⟨b,_,h3⟩=>(C.odom b B h3).2⟩
 ·obtain rfl:=C.oinj _ _ _ h3 k3
  exact C.fair.apart _ _ _ _ _ h1 k1 h2 k2
 ·obtain rfl:=C.oinj _ _ _ h3 k3
  exact C.fair.lento _ _ _ _ _ k1 h1 k2 h2
 ·obtain rfl:=C.oinj _ _ _ h3 k3
  exact C.fair.wgo _ _ _ h1 h2 k2
 ·obtain rfl:=C.oinj _ _ _ h3 k3
  exact(C.fair.lent _ _ _ h1 h2).2 (C.fair.wgs _ k2)
theorem RL.same {Wg:Nat}{w w1:World}(h1:w1.heap[Wg]?=w.heap[Wg]?):RL ty Wg w w1:=fun⟨st,sm,h⟩=>⟨st,sm,h1.trans h⟩
theorem RL.live {Wg:Nat}{w w1:World}(h1:WgLive ty Wg w1):RL ty Wg w w1:=fun _=>h1
theorem rl_trans {Wg:Nat}:∀ a b c:World,RL ty Wg a b→RL ty Wg b c→RL ty Wg a c:=fun _ _ _ h k x=>k (h x)
theorem DonerAt.rely {Wg:Nat}{l n:Nat}{G:Goroutine}{W W':World}(h:DonerAt P ty Wg l n G W)(hr:RL ty Wg W W'):DonerAt P ty Wg l n G W':=by
 unfold DonerAt at h ⊢;split at h<;>first | exact Goes.rely rl_trans h hr | exact h.elim
theorem DonerAt.running {Wg:Nat}{l n:Nat}{G:Goroutine}{W:World}(h:DonerAt P ty Wg l n G W):G.status=.running:=by
 unfold DonerAt at h;split at h<;>first | exact Goes.running (fun _ _ x=>x.1) _ (RL.same rfl) h | exact h.elim
theorem Seated.stays {j:Nat}{s:SeatS}{ω' ρ':Ren}{w w' W':World}{n:Nat}{G:Goroutine}{p:World}{ρp:Ren}{g:Goroutine}(h:Seated P j s ω ρ w W n G p ρp g)(hω:ω.le ω')(hρ:∀ b B,ρ b=some B→s.own b∨ρ' b=some B)
  (hall:∀ b B,ω' b=some B→s.own b→ω b=some B) (hw:∀ b,s.lent b→w'.heap[b]?=w.heap[b]?) (hsz:W.heap.size≤W'.heap.size) (hos:W'.os=W.os)
  (hW:∀ b B,ω b=some B→s.own b∨s.lent b→W'.heap[B]?=W.heap[B]?) (hk:∀ B,CC W B→CC W' B):Seated P j s ω' ρ' w' W' n G p ρp g:=by
 refine⟨h.view.keep hsz hos fun b B hb=>?_,Ren.le_trans h.le hω,fun b B hb=>?_,fun b B hb ho=>h.all b B (hall b B hb ho) ho,fun b B hb=>?_,h.chan,h.full,h.bot,h.top,h.way⟩
 ·rcases h.keep b B hb with k | k | k
  ·exact .inr ⟨k,hk B (h.view.cc hb k)⟩
  ·exact .inl (hW b B (h.le b B hb) (.inl k))
  ·exact .inl (hW b B (h.le b B hb) (.inr k.1))
 ·rcases h.sub b B hb with k | k
  ·exact(hρ b B k).elim .inr .inl
  ·exact .inr k
 ·rcases h.keep b B hb with k | k | ⟨k,e⟩
  ·exact .inl k
  ·exact .inr (.inl k)
  ·exact .inr (.inr ⟨k,e.trans (hw b k).symm⟩)
theorem Seated.again {j:Nat}{s:SeatS}{w:World}{n:Nat}{G:Goroutine}{p:World}{ρp:Ren}{g:Goroutine}(h:Seated P j s ω ρ w W n G p ρp g)(hc:∀ C,ω s.c=some C→∃ k,W.heap[C]?=some (.chan 0 #[] false k k false)):G.again W=G:=by
 rcases h.way with⟨k,rfl,h1,h2⟩ | ⟨rfl,G0,C,hC,rfl,_⟩
 ·exact again_running _ (.inl (h1.status.symm.trans h2.runs))
 ·obtain⟨k,hk⟩:=hc C (h.le _ _ hC)
  exact again_recv_open hk
theorem Base.at (C:Base P ty S Sp Dead Hear K ρ ω und T gs W q lv)(d:Nat):Base P ty S Sp Dead Hear K ρ ω und T gs (W.at d) q lv:=by
 refine⟨C.fair,C.size,C.view.keep (Nat.le_refl _) rfl fun _ _ _=>.inl rfl,C.oinj,C.odom,C.up,C.hole,C.down,fun j s hj hs=>?_,C.gone,fun j b hj hs=>?_,C.lv0,C.und1,C.chs,C.seatch,C.dead,C.wgs,C.trace,C.above,C.fz,C.full,⟨C.low.os,C.low.tape,C.low.output,C.low.size,C.low.block⟩,C.lowo⟩
 ·obtain⟨G,p,ρp,g,h1,h2⟩:=C.seat j s hj hs
  exact⟨G,p,ρp,g,h1,h2.stays (fun _ _ h=>h) (fun _ _ h=>.inr h) (fun _ _ h _=>h) (fun _ _=>rfl) (Nat.le_refl _) rfl (fun _ _ _ _=>rfl) fun _ h=>h⟩
 ·obtain⟨G,h1,h2⟩:=C.doner j b hj hs
  exact⟨G,h1,h2.imp (fun⟨u,B,k1,k2,k3,k4⟩=>⟨u,B,k1,k2,k3.rely (RL.same rfl),k4⟩) id⟩
theorem Base.fixed (C:Base P ty S Sp Dead Hear K ρ ω und T gs W q lv){x:Nat}{y:Goroutine}(hx:¬ Sp x)(hy:gs[x]?=some y):y.again W=y:=by
 have hn:x<S.n:=C.size▸(aq' hy).1;cases e:S.role x with
 | none =>
  obtain⟨_,G,h1,h2⟩:=C.gone x hx e hn;rw[hy] at h1;cases h1;exact again_running _ h2.status
 | seat s =>
  obtain⟨G,p,ρp,g,h1,h2⟩:=C.seat x s hx e;rw[hy] at h1;cases h1;by_cases hD:Dead x
  ·exact again_running _ (.inl (C.dead x y hx hD hy))
  ·refine h2.again fun c hc=>?_
   obtain⟨c',k,h3,h4⟩:=C.chs _ (C.seatch x s hD e);rw[C.up _ _ h3] at hc;cases hc;exact⟨k,h4⟩
 | doner b =>
  obtain⟨G,h1,h2⟩:=C.doner x b hx e;rw[hy] at h1;cases h1;rcases h2 with⟨_,B,_,_,h3,_⟩ | ⟨_,_,h3⟩
  ·exact again_running _ (.inl h3.running)
  ·exact again_running _ h3.status
theorem Base.awake1 (C:Base P ty S Sp Dead Hear K ρ ω und T gs W q lv){x:Nat}{y:Goroutine}(hx:¬ Sp x)(hy:gs[x]?=some y):awake y:=by
 have hn:x<S.n:=C.size▸(aq' hy).1;cases e:S.role x with
 | none =>
  obtain⟨_,G,h1,h2⟩:=C.gone x hx e hn;rw[hy] at h1;cases h1;exact awake_of (h2.status.elim .inl fun z=>.inr (.inr z))
 | seat s =>
  obtain⟨G,p,ρp,g,h1,h2⟩:=C.seat x s hx e;rw[hy] at h1;cases h1;exact awake_of (h2.status.elim (fun z=>.inl z.1) fun z=>.inr (.inl z.1))
 | doner b =>
  obtain⟨G,h1,h2⟩:=C.doner x b hx e;rw[hy] at h1;cases h1;rcases h2 with⟨_,B,_,_,h3,_⟩ | ⟨_,_,h3⟩
  ·exact awake_of (.inl h3.running)
  ·exact awake_of (h3.status.elim .inl fun z=>.inr (.inr z))
theorem Base.noSend (C:Base P ty S Sp Dead Hear K ρ ω und T gs W q lv){x:Nat}{y:Goroutine}(hx:¬ Sp x)(hy:gs[x]?=some y)(c:Nat):offersAt y c true=[]:=by
 have hn:x<S.n:=C.size▸(aq' hy).1;have hrun:(y.status=.running∨y.status=.finished)→offersAt y c true=[]:=fun h=>offersAt_of_not_blocked (fun hb=>by rcases h with z | z<;>rw[z] at hb<;>cases hb) c true;cases e:S.role x with
 | none =>
  obtain⟨_,G,h1,h2⟩:=C.gone x hx e hn;rw[hy] at h1;cases h1;exact hrun h2.status
 | seat s =>
  obtain⟨G,p,ρp,g,h1,h2⟩:=C.seat x s hx e;rw[hy] at h1;cases h1;rcases h2.way with⟨k,_,h3,h4⟩ | ⟨_,G0,c',_,rfl,_⟩
  ·exact hrun (.inl (h3.status.symm.trans h4.runs))
  ·exact offersAt_parked_recv' _ _ _ _ _
 | doner b =>
  obtain⟨G,h1,h2⟩:=C.doner x b hx e;rw[hy] at h1;cases h1;rcases h2 with⟨_,B,_,_,h3,_⟩ | ⟨_,_,h3⟩
  ·exact hrun (.inl h3.running)
  ·exact hrun h3.status
end
section
variable {P:Program}{ty:TypeId}{S:SC}{Sp Dead Hear:Nat→Prop}{K:Nat→Prop}{ρ ω σ:Ren}{und:Nat→Bool}{T:Trace}{gs:Array Goroutine}{W W' w':World}{q lv:Nat→Nat}{ES:Array Event}{h:Nat}
theorem lt_of_heap {w:World}{b:Nat}{o:Obj}(h:w.heap[b]?=some o):b<w.heap.size:=(aq' h).1
theorem stl_fz {w:World}{b:Nat}{c:Array Value}{t:TypeId}(h:w.heap[b]?=some (.cells c t (0,c.size))):Stl w b :=
 .inr (.inl ⟨c,t,_,h,fun o ho=>by unfold inFz;simp[ho]⟩)
theorem Fair.on (F:Fair S)(hv:S.w.heap.size≤w'.heap.size)(hs:∀ b,Stl S.w b→w'.heap[b]?=S.w.heap[b]?):Fair { S with w:=w'} :=
 ⟨fun j s h=>Nat.le_trans (F.top j s h) hv,fun j s b h1 h2=>(hs b (.inl (F.ownp j s b h1 h2))).trans (F.ownp j s b h1 h2),F.apart,fun j s b h1 h2=>⟨(F.lent j s b h1 h2).1.eq (hs b (F.lent j s b h1 h2).1),by rw[hs b (F.lent j s b h1 h2).1];exact(F.lent j s b h1 h2).2⟩,F.lento,
  fun c hc=>(hs c (.inl (F.chs c hc))).trans (F.chs c hc),F.seatinj,fun b hb=>(hs b (.inl (F.wgs b hb))).trans (F.wgs b hb),F.wgo,F.few,
  F.donerg,F.small,fun b hb=>let ⟨c,t,h⟩:=F.fzs b hb;⟨c,t,(hs b (stl_fz h)).trans h⟩,fun b hb=>(F.low b hb).eq (hs b (F.low b hb)),F.n0le,F.olow,F.wlow,F.clow⟩
def onward (w:World)(ω σ:Ren):Ren:=fun b=>if b<w.heap.size then ω b else σ b
theorem onward_lt {w:World}{b:Nat}(hb:b<w.heap.size):onward w ω σ b=ω b:=if_pos hb
theorem lentG_on (F:Fair S):LentG { S with w:=w'} (onward S.w ω σ)=LentG S ω:=by
 funext j B;apply propext;constructor
 ·rintro⟨s,b,h1,h2,h3⟩
  exact⟨s,b,h1,h2,by rw[onward_lt (stl_lt (F.lent j s b h1 h2).1)] at h3;exact h3⟩
 ·rintro⟨s,b,h1,h2,h3⟩
  exact⟨s,b,h1,h2,by rw[onward_lt (stl_lt (F.lent j s b h1 h2).1)];exact h3⟩
theorem ownG_on (F:Fair S):OwnG { S with w:=w'} (onward S.w ω σ)=OwnG S ω:=by
 funext j B;apply propext;constructor
 ·rintro⟨s,b,h1,h2,h3⟩
  exact⟨s,b,h1,h2,by rw[onward_lt (nl' h2.2 (F.top j s h1))] at h3;exact h3⟩
 ·rintro⟨s,b,h1,h2,h3⟩
  exact⟨s,b,h1,h2,by rw[onward_lt (nl' h2.2 (F.top j s h1))];exact h3⟩
theorem shunG_on (F:Fair S):ShunG { S with w:=w'} (onward S.w ω σ)=ShunG S ω:=by
 funext B;apply propext;constructor
 ·rintro⟨b,h2,h3⟩
  exact⟨b,h2,by rw[onward_lt (lt_of_heap (F.wgs b h2))] at h3;exact h3⟩
 ·rintro⟨b,h2,h3⟩
  exact⟨b,h2,by rw[onward_lt (lt_of_heap (F.wgs b h2))];exact h3⟩
theorem touch_cell {a:Addr}{wr sy:Bool}{x:Touch}(h:(MemAct.ofEvent ⟨.cell a,wr,sy⟩).touch?=some x):x=⟨.cell a,wr,if sy then .atomic else .plain⟩:=by
 simp only[MemAct.ofEvent,MemAct.touch?,Option.some.injEq] at h;exact h.symm
theorem touch_obj {r:Nat}{sy:Bool}{x:Touch}(h:(MemAct.ofEvent ⟨.obj r,false,sy⟩).touch?=some x):x=⟨.obj r,false,if sy then .atomic else .plain⟩:=by
 simp only[MemAct.ofEvent,MemAct.touch?,Option.some.injEq] at h;exact h.symm
theorem EvR.cases {e:Event}{p p':World}(h:EvR ρ p p' e){Q:Event→Prop}(h1:∀ b B o s wr,ρ b=some B→p'.heap[b]?≠some poison→(wr=true→¬ Stl p b)→Q ⟨.cell ⟨B,o,s⟩,wr,false⟩)
  (h2:∀ b B sy,ρ b=some B→(sy=true∨p'.heap[b]?≠some poison)→Q ⟨.obj B,false,sy⟩) (h3:∀ wr sy,Q ⟨.mark .noRoom,wr,sy⟩) (h4:∀ f wr sy,Q ⟨.mark (.extern f),wr,sy⟩):Q e:=by
 obtain⟨l,wr,sy⟩:=e;rcases h with⟨b,B,o,s,k1,k2,k3,k4,k5⟩ | ⟨b,B,k1,k2,k3,k4⟩ | k
 ·simp only at k2 k3
  subst k2 k3;exact h1 b B o s wr k1 k4 k5
 ·simp only at k2 k3
  subst k2 k3;exact h2 b B sy k1 k4
 ·rcases k with k | ⟨f,k⟩
  ·simp only at k
   subst k;exact h3 wr sy
  ·simp only at k
   subst k;exact h4 f wr sy
theorem evR_deaf {e:Event}{p p':World}(h:EvR ρ p p' e):e.loc≠.mark .disable∧e.loc≠.mark .enable :=
 EvR.cases h (Q:=fun e=>e.loc≠.mark .disable∧e.loc≠.mark .enable) (fun _ _ _ _ _ _ _ _=>⟨by simp,by simp⟩) (fun _ _ _ _ _=>⟨by simp,by simp⟩) (fun _ _=>⟨by simp,by simp⟩) (fun _ _ _=>⟨by simp,by simp⟩)
theorem evR_low {e:Event}{p p':World}{B:Nat}(h:EvR ρ p p' e)(hd:∀ b C,ρ b=some C→C<B):(MemAct.ofEvent e).low B :=
 EvR.cases h (Q:=fun e=>(MemAct.ofEvent e).low B) (fun b C _ _ wr h _ _=>by cases wr<;>exact hd b C h) (fun b C sy h _=>by cases sy<;>exact hd b C h) (fun _ _=>trivial) (fun _ _ _=>trivial)
theorem Base.own0 (C:Base P ty S (·=h) Dead Hear (Knows T h) ρ ω und T gs W q lv)(A:Acts ρ σ S.w w' W W' ES)(fn:FuncId)(pos:String) :
  Base P ty { S with w:=w'} (·=h) Dead Hear (Knows (T++MemOp.ofEvents h fn pos ES) h) σ (onward S.w ω σ) und (T++MemOp.ofEvents h fn pos ES) gs W' q lv:=by
 have F:=C.fair;have hoi:=C.oinj;have hod:=C.odom;have hre:∀ b B,ω b=some B→(ρ b=none∨Stl S.w b)→W'.heap[B]?=W.heap[B]?:=fun b B hb hs=>A.free B (hod b B hb).2 fun b' hb'=>by
  obtain rfl:=hoi _ _ _ (C.up _ _ hb') hb;exact hs.resolve_left (by rw[hb'];simp)
 have hle:ω.le (onward S.w ω σ):=fun b B hb=>by rw[onward_lt (hod b B hb).1];exact hb
 have hnew:∀ b B,onward S.w ω σ b=some B→ω b=some B∨(σ b=some B∧S.w.heap.size≤b∧W.heap.size≤B):=fun b B hb=>by
  unfold onward at hb;split at hb
  ·exact .inl hb
  ·rename_i hn
   rcases A.newb b B hb with k | ⟨k,k'⟩
   ·exact absurd (C.view.dom b B k).1 hn
   ·exact .inr ⟨hb,k,k'⟩
 have hop:∀ op∈MemOp.ofEvents h fn pos ES,op.g=h:=fun op hop=>by obtain⟨e,_,rfl⟩:=Go.Conc.mem_ofEvents hop;rfl
 have hoks:∀ op∈MemOp.ofEvents h fn pos ES,∀ b,op.act.touch?=some b→OkH (isSeat S) (LentG S ω) (OwnG S ω) (ShunG S ω) b:=by
  intro op hop x hx;obtain⟨e,he,rfl⟩:=Go.Conc.mem_ofEvents hop;have old:∀ b B b',σ b=some B→ω b'=some B→b=b'∧ρ b=some B:=fun b B b' h1 h2=>by
   rcases A.newb b B h1 with k | ⟨_,k⟩
   ·exact⟨hoi _ _ _ (C.up _ _ k) h2,k⟩
   ·have:=(hod b' B h2).2;omega
  have hown:∀ b B,σ b=some B→∀ g,¬ OwnG S ω g B:=fun b B hb g ⟨s,b',k1,k2,k3⟩=>by
   obtain⟨rfl,k⟩:=old b B b' hb k3;rw[C.hole g s b k1 k2] at k;cases k
  have hlent:∀ b B,σ b=some B→∀ g,LentG S ω g B→Stl S.w b:=fun b B hb g ⟨s,b',k1,k2,k3⟩=>by
   obtain⟨rfl,k⟩:=old b B b' hb k3;exact(F.lent g s b k1 k2).1
  have hshun:∀ b B,σ b=some B→w'.heap[b]?≠some poison→¬ ShunG S ω B:=fun b B hb hv ⟨b',k2,k3⟩=>by
   obtain⟨rfl,k⟩:=old b B b' hb k3;exact hv ((A.still b (.inl (F.wgs b k2))).trans (F.wgs b k2))
  revert x
  refine EvR.cases (A.evs e he) (Q:=fun e=>∀ x,(MemAct.ofEvent e).touch?=some x→OkH (isSeat S) (LentG S ω) (OwnG S ω) (ShunG S ω) x) (fun b B o s wr k1 k2 k3 x hx=>?_) (fun b B sy k1 k2 x hx=>?_) (fun wr sy x hx=>?_) (fun f wr sy x hx=>?_)
  ·obtain rfl:=touch_cell hx
   refine⟨fun g y _ hy=>?_,fun g y _ hy hL=>?_,fun y hy hS=>?_,fun y hy=>by cases hy⟩
   ·cases hy;exact hown b B k1 g
   ·cases hy
    cases wr with
    | false=>rfl
    | true=>exact absurd (hlent b B k1 g hL) (k3 rfl)
   ·cases hy
    exact absurd hS (hshun b B k1 k2)
  ·obtain rfl:=touch_obj hx
   refine⟨fun g y _ hy=>?_,fun g y _ hy hL=>rfl,fun y hy hS=>?_,fun y hy hw=>by cases hw⟩
   ·cases hy;exact hown b B k1 g
   ·cases hy
    rcases k2 with rfl | k2
    ·simp
    ·exact absurd hS (hshun b B k1 k2)
  ·cases wr<;>cases sy<;>cases hx
  ·cases wr<;>cases sy<;>cases hx
 have hdf:Deaf (T++MemOp.ofEvents h fn pos ES) h=Deaf T h:=by
  rw[Deaf_own];exact deafBehind_still (fun e he=>evR_deaf (A.evs e he)) _
 have hdo:∀ x,x≠h→Deaf (T++MemOp.ofEvents h fn pos ES) x=Deaf T x:=fun x hx=>Deaf_other T (fun e=>hx e.symm) _ hop;have hdeaf:∀ x,Deaf (T++MemOp.ofEvents h fn pos ES) x=Deaf T x:=fun x=>by
  by_cases e:x=h
  ·subst e;exact hdf
  ·exact hdo x e
 have htr:=C.trace.appH (B':=W'.heap.size) A.size hop hoks (fun _=>hdf) (fun op ho=>by
  obtain⟨e,he,rfl⟩:=Go.Conc.mem_ofEvents ho;exact evR_low (A.evs e he) fun b B hb=>(A.view.dom b B hb).2)
 have hW:∀ b B,ω b=some B→(∃ j s,S.role j=.seat s∧(s.own b∨s.lent b))→W'.heap[B]?=W.heap[B]?:=fun b B hb ⟨j,s,hs,ho⟩=>hre b B hb (ho.imp (C.hole j s b hs) fun hl=>(F.lent j s b hs hl).1);refine⟨F.on A.vsize A.still,C.size,A.view,fun b c B hb hc=>?_,fun b B hb=>?_,fun b B hb=>?_,fun j s b hs ho=>?_,fun b B hb=>?_,fun j s hj hs=>?_,fun j hj hs hn=>?_,fun j b hj hs=>?_,C.lv0,C.und1,fun c hc=>?_,C.seatch,fun j G hj=>C.dead j G hj,
  fun b hb=>?_,?_,fun j hj=>(hdeaf j).trans (C.above j hj),fun b B hb hB=>?_,fun b o ho hn=>?_,⟨A.os.trans C.low.os,A.tape.trans C.low.tape,A.output.trans C.low.output,Nat.le_trans C.low.size A.size,fun B hB=>?_⟩,fun b B hb hB=>?_⟩
 ·rcases hnew b B hb with k | ⟨k,k1,k2⟩<;>rcases hnew c B hc with m | ⟨m,m1,m2⟩
  ·exact hoi _ _ _ k m
  ·have:=(hod b B k).2;omega
  ·have:=(hod c B m).2;omega
  ·exact A.view.inj _ _ _ k m
 ·rcases hnew b B hb with k | ⟨k,k1,k2⟩
  ·exact⟨nl' (hod b B k).1 A.vsize,nl' (hod b B k).2 A.size⟩
  ·exact A.view.dom b B k
 ·by_cases e:b<S.w.heap.size
  ·rw[onward_lt e]
   rcases A.newb b B hb with k | ⟨k,_⟩
   ·exact C.up b B k
   ·omega
  ·unfold onward
   rw[if_neg e];exact hb
 ·cases e:σ b with
  | none=>rfl
  | some B =>
   rcases A.newb b B e with k | ⟨k,_⟩
   ·rw[C.hole j s b hs ho] at k;cases k
   ·have:=F.top j s hs
    have:=ho.2;omega
 ·rcases hnew b B hb with k | ⟨k,_⟩
  ·exact(C.down b B k).imp (A.le b B) id
  ·exact .inl k
 ·obtain⟨G,p,ρp,g,h1,h2⟩:=C.seat j s hj hs
  refine⟨G,p,ρp,g,h1,h2.stays hle (fun b B hb=>.inr (A.le b B hb)) (fun b B hb ho=>?_) (fun b hl=>A.still b (F.lent j s b hs hl).1) A.size A.os (fun b B hb ho=>hW b B hb ⟨j,s,hs,ho⟩) A.kind⟩;rw[onward_lt (nl' ho.2 (F.top j s hs))] at hb;exact hb
 ·obtain⟨h0,G,h1,h2⟩:=C.gone j hj hs hn
  exact⟨h0,G,h1,by rw[hdeaf];exact h2⟩
 ·obtain⟨G,h1,h2⟩:=C.doner j b hj hs
  obtain⟨_,f2,_⟩:=F.donerg j b hs;refine⟨G,h1,h2.imp (fun⟨u,B,k1,k2,k3,k4⟩=>⟨u,B,A.le _ _ k1,k2,k3.rely (RL.same (hre b B (C.up _ _ k1) (.inr (.inl (F.wgs b f2))))),by rw[hdeaf];exact k4⟩) fun⟨u,l,k⟩=>⟨u,l,by rw[hdeaf];exact k⟩⟩
 ·obtain⟨c',k,h1,h2⟩:=C.chs c hc
  exact⟨c',k,A.le _ _ h1,(hre c c' (C.up _ _ h1) (.inr (.inl (F.chs c hc)))).trans h2⟩
 ·obtain⟨B,h1,h2⟩:=C.wgs b hb
  exact⟨B,A.le _ _ h1,(hre b B (C.up _ _ h1) (.inr (.inl (F.wgs b hb)))).trans h2⟩
 ·rw[lentG_on F,ownG_on F,shunG_on F]
  exact htr
 ·obtain⟨c,t,hc⟩:=F.fzs b hb
  rcases A.newb b B hB with k | ⟨k,_⟩
  ·obtain⟨C',t',FZ,h1,h2⟩:=C.fz b B hb k
   exact⟨C',t',FZ,(hre b B (C.up _ _ k) (.inr (stl_fz hc))).trans h1,h2⟩
  ·have:=lt_of_heap hc
   omega
 ·by_cases e:b<S.w.heap.size
  ·have h1:S.w.heap[b]?=some S.w.heap[b]:=as' e
   have h2:S.w.heap[b]≠poison:=fun h=>by
    rw[h] at h1;have:=(A.still b (.inl h1)).trans h1;rw[this] at ho;cases ho;exact hn rfl
   exact(C.full b _ h1 h2).imp fun B x=>A.le _ _ x
  ·exact A.full b (Nat.not_lt.1 e) (lt_of_heap ho)
 ·refine(A.free B (nl' hB (Nat.le_trans F.n0le C.low.size)) fun b hb=>?_).trans (C.low.block B hB)
  exact F.low b (C.lowo b B (C.up _ _ hb) hB)
 ·rcases hnew b B hb with k | ⟨_,_,k⟩
  ·exact C.lowo b B k hB
  ·have:=Nat.le_trans F.n0le C.low.size
   have hB':B<S.n0:=hB;omega
theorem Base.own (C:Base P ty S (·=h) Dead Hear (Knows T h) ρ ω und T gs W q lv)(A:Acts ρ σ S.w w' W W' ES){a a':Goroutine}(ha:gs[h]?=some a) :
  Base P ty { S with w:=w'} (·=h) Dead Hear (Knows (T++MemOp.ofEvents h a.frame.fn a.frame.place ES) h) σ (onward S.w ω σ) und (T++MemOp.ofEvents h a.frame.fn a.frame.place ES)
   ((gs.map (woken P a a' W')).setIfInBounds h a') W' q lv∧((gs.map (woken P a a' W')).setIfInBounds h a')[h]?=some a':=by
 have hlt:h<gs.size:=(aq' ha).1;have core:=C.own0 A a.frame.fn a.frame.place;have hfix:∀ x y,x≠h→gs[x]?=some y→woken P a a' W' y=y:=fun x y hx hy=>by
  unfold woken;split
  ·exact core.fixed hx hy
  ·rfl
 have hget:∀ x,x≠h→((gs.map (woken P a a' W')).setIfInBounds h a')[x]?=gs[x]?:=fun x hx=>by
  rw[ar' (fun e=>hx e.symm),Array.getElem?_map];cases e:gs[x]? with
  | none=>rfl
  | some y=>simp[hfix x y hx e]
 refine⟨⟨core.fair,by simpa using core.size,core.view,core.oinj,core.odom,core.up,core.hole,core.down,fun j s hj hs=>?_,fun j hj hs hn=>?_,fun j b hj hs=>?_,core.lv0,core.und1,core.chs,core.seatch,fun j G hj hD hG=>?_,core.wgs,core.trace,core.above,core.fz,core.full,core.low,core.lowo⟩,Array.getElem?_setIfInBounds_self_of_lt (by simpa using hlt)⟩
 ·rw[hget j hj];exact core.seat j s hj hs
 ·rw[hget j hj];exact core.gone j hj hs hn
 ·rw[hget j hj];exact core.doner j b hj hs
 ·rw[hget j hj] at hG;exact core.dead j G hj hD hG
end
section
variable {P:Program}{ty:TypeId}{S:SC}{Sp Dead Hear:Nat→Prop}{K K':Nat→Prop}{ρ ω σ ρp:Ren}{und:Nat→Bool}{T:Trace}{gs gs':Array Goroutine}{W W' p p':World}{q lv:Nat→Nat}{ES:Array Event}{i:Nat}
def inward (s:SeatS)(ω σ:Ren):Ren:=fun b=>if s.lo≤b∧b<s.hi then σ b else ω b
theorem inward_own {s:SeatS}{b:Nat}(h:s.own b):inward s ω σ b=σ b:=if_pos h
theorem inward_not {s:SeatS}{b:Nat}(h:¬ s.own b):inward s ω σ b=ω b:=if_neg h
theorem Base.actS (C:Base P ty S Sp Dead Hear K ρ ω und T gs W q lv){s:SeatS}(hi:¬ Sp i)(hs:S.role i=.seat s){G g:Goroutine}(hG:gs[i]?=some G)(hSt:Seated P i s ω ρ S.w W (q i) G p ρp g)
  (A:Acts ρp σ p p' W W' ES) (htop:p'.heap.size≤s.hi) {fn:FuncId} {pos:String} (hK:∀ x,K x→K' x) {G' g':Goroutine} {n':Nat}
  (hway:(∃ k,n'=k+1∧GRel σ g' G'∧WalkS P (i==0) s k g' p')∨(n'=0∧∃ G0 C,σ s.c=some C∧G'=parked G0 #[rcase C s.z] (.recv s.ok)∧GRel σ g' G0∧AtRecv P (i==0) s g' p'))
  (hsz:gs'.size=gs.size) (hself:gs'[i]?=some G') (hget:∀ x,x≠i→gs'[x]?=gs[x]?) (hdead:Dead i→G'.status=.running) :
  Base P ty S Sp Dead Hear K' ρ (inward s ω σ) und (T++MemOp.ofEvents i fn pos ES) gs' W' (upd q i n') lv:=by
 have F:=C.fair;have hoi:=C.oinj;have hod:=C.odom;have hown:∀ b B,σ b=some B→¬ s.own b→ρp b=some B:=fun b B hb hn=>by
  rcases A.newb b B hb with k | ⟨k,_⟩
  ·exact k
  ·exact absurd ⟨Nat.le_trans hSt.bot k,nl' (A.view.dom b B hb).1 htop⟩ hn
 have hstl:∀ b B,ρp b=some B→¬ s.own b→Stl p b:=fun b B hb hn=>by
  rcases hSt.keep b B hb with k | k | ⟨k,e⟩
  ·exact .inl k
  ·exact absurd k hn
  ·exact(F.lent i s b hs k).1.eq e
 have hre:∀ b B,ω b=some B→¬ s.own b→W'.heap[B]?=W.heap[B]?:=fun b B hb hn=>A.free B (hod b B hb).2 fun b' hb'=>by
  obtain rfl:=hoi _ _ _ (hSt.le _ _ hb') hb;exact hstl b' B hb' hn
 have hno:∀ b B,ρ b=some B→¬ s.own b:=fun b B hb ho=>by rw[C.hole i s b hs ho] at hb;cases hb
 have hle:ω.le (inward s ω σ):=fun b B hb=>by
  by_cases ho:s.own b
  ·rw[inward_own ho];exact A.le _ _ (hSt.all b B hb ho)
  ·rw[inward_not ho];exact hb
 have hinv:∀ b B,inward s ω σ b=some B→ω b=some B∨(s.own b∧σ b=some B∧W.heap.size≤B):=fun b B hb=>by
  by_cases ho:s.own b
  ·rw[inward_own ho] at hb
   rcases A.newb b B hb with k | ⟨_,k⟩
   ·exact .inl (hSt.le _ _ k)
   ·exact .inr ⟨ho,hb,k⟩
  ·rw[inward_not ho] at hb;exact .inl hb
 have hop:∀ op∈MemOp.ofEvents i fn pos ES,op.g=i:=fun op hop=>by obtain⟨e,_,rfl⟩:=Go.Conc.mem_ofEvents hop;rfl
 have hdf:Deaf (T++MemOp.ofEvents i fn pos ES) i=Deaf T i:=by
  rw[Deaf_own];exact deafBehind_still (fun e he=>evR_deaf (A.evs e he)) _
 have hdeaf:∀ x,Deaf (T++MemOp.ofEvents i fn pos ES) x=Deaf T x:=fun x=>by
  by_cases e:x=i
  ·subst e;exact hdf
  ·exact Deaf_other T (fun z=>e z.symm) _ hop
 have hseat:isSeat S i:=⟨s,hs⟩;have eL:LentG S (inward s ω σ)=LentG S ω:=by
  funext j B;apply propext;constructor
  ·rintro⟨s',b,h1,h2,h3⟩
   exact⟨s',b,h1,h2,by rw[inward_not (F.lento _ _ _ _ _ h1 hs h2)] at h3;exact h3⟩
  ·rintro⟨s',b,h1,h2,h3⟩
   exact⟨s',b,h1,h2,hle _ _ h3⟩
 have eS:ShunG S (inward s ω σ)=ShunG S ω:=by
  funext B;apply propext;constructor
  ·rintro⟨b,h2,h3⟩
   exact⟨b,h2,by rw[inward_not (fun ho=>F.wgo _ _ _ hs ho h2)] at h3;exact h3⟩
  ·rintro⟨b,h2,h3⟩
   exact⟨b,h2,hle _ _ h3⟩
 have htr:TP (isSeat S) (isDoner S) (fun j=>isSeat S j∨Hear j) (LentG S ω) (OwnG S (inward s ω σ)) (ShunG S ω) W'.heap.size K' (T++MemOp.ofEvents i fn pos ES):=by
  refine C.trace.appS hK C.apartG hseat A.size hop (fun j x ⟨s',b,h1,h2,h3⟩=>⟨s',b,h1,h2,hle _ _ h3⟩) (fun j x hj ⟨s',b,h1,h2,h3⟩=>⟨s',b,h1,h2,?_⟩) (fun x ⟨s',b,h1,h2,h3⟩=>?_) (fun op hop x hx=>?_) hdf (fun op hop=>?_)
  ·rw[inward_not (fun ho=>hj (F.apart _ _ _ _ _ h1 hs h2 ho))] at h3
   exact h3
  ·rcases hinv b x h3 with k | ⟨_,_,k⟩
   ·exact .inl ⟨s',b,h1,h2,k⟩
   ·exact .inr k
  ·obtain⟨e,he,rfl⟩:=Go.Conc.mem_ofEvents hop
   have hoth:∀ b B,σ b=some B→∀ j,j≠i→¬ OwnG S ω j B:=fun b B hb j hj ⟨s',b',k1,k2,k3⟩=>by
    rcases A.newb b B hb with k | ⟨_,k⟩
    ·obtain rfl:=hoi _ _ _ (hSt.le _ _ k) k3
     rcases hSt.sub b B k with m | m
     ·rw[C.hole j s' b k1 k2] at m;cases m
     ·exact hj (F.apart _ _ _ _ _ k1 hs k2 m)
    ·have:=(hod b' B k3).2;omega
   have hsh:∀ b B,σ b=some B→p'.heap[b]?≠some poison→¬ ShunG S ω B:=fun b B hb hv ⟨b',k2,k3⟩=>by
    rcases A.newb b B hb with k | ⟨_,k⟩
    ·obtain rfl:=hoi _ _ _ (hSt.le _ _ k) k3
     rcases hSt.keep b B k with m | m | ⟨m,m'⟩
     ·exact hv ((A.still b (.inl m)).trans m)
     ·exact F.wgo _ _ _ hs m k2
     ·exact(F.lent _ _ _ hs m).2 (F.wgs b k2)
    ·have:=(hod b' B k3).2;omega
   have hpr:∀ b B,σ b=some B→s.own b→OwnG S (inward s ω σ) i B:=fun b B hb ho=>⟨s,b,hs,ho,by rw[inward_own ho];exact hb⟩
   revert x
   refine EvR.cases (A.evs e he) (Q:=fun e=>∀ x,(MemAct.ofEvent e).touch?=some x→Priv (LentG S ω) (OwnG S (inward s ω σ)) i x∧(∀ y g,g≠i→isSeat S g→blk x.loc=some y→¬ OwnG S ω g y)∧(∀ y,x.loc=.obj y→x.write=false)∧(x.kind=.plain→∀ y,blk x.loc=some y→¬ ShunG S ω y)) (fun b B o s' wr k1 k2 k3 x hx=>?_) (fun b B sy k1 k2 x hx=>?_) (fun wr sy x hx=>?_) (fun f wr sy x hx=>?_)
   ·obtain rfl:=touch_cell hx
    refine⟨?_,fun y g hg _ hy=>?_,fun y hy=>(by cases hy),fun _ y hy=>?_⟩
    ·by_cases ho:s.own b
     ·exact .inr (.inl ⟨B,rfl,hpr b B k1 ho⟩)
     ·have hp:=hown b B k1 ho
      have hw:wr=false:=by
       cases wr with
       | false=>rfl
       | true=>exact absurd (hstl b B hp ho) (k3 rfl)
      rcases hSt.keep b B hp with m | m | ⟨m,_⟩
      ·exact absurd ((A.still b (.inl m)).trans m) k2
      ·exact absurd m ho
      ·exact .inl ⟨hw,B,rfl,s,b,hs,m,hSt.le _ _ hp⟩
    ·cases hy;exact hoth b B k1 g hg
    ·cases hy;exact hsh b B k1 k2
   ·obtain rfl:=touch_obj hx
    refine⟨?_,fun y g hg _ hy=>?_,fun y hy=>rfl,fun hk y hy=>?_⟩
    ·by_cases ho:s.own b
     ·exact .inr (.inl ⟨B,rfl,hpr b B k1 ho⟩)
     ·have hp:=hown b B k1 ho
      rcases hSt.keep b B hp with m | m | ⟨m,_⟩
      ·have hsy:sy=true:=k2.resolve_right fun hv=>hv ((A.still b (.inl m)).trans m)
       subst hsy;exact .inr (.inr ⟨rfl,rfl,B,rfl⟩)
      ·exact absurd m ho
      ·exact .inl ⟨rfl,B,rfl,s,b,hs,m,hSt.le _ _ hp⟩
    ·cases hy;exact hoth b B k1 g hg
    ·cases hy
     rcases k2 with rfl | k2
     ·simp at hk
     ·exact hsh b B k1 k2
   ·cases wr<;>cases sy<;>cases hx
   ·cases wr<;>cases sy<;>cases hx
  ·obtain⟨e,he,rfl⟩:=Go.Conc.mem_ofEvents hop
   exact evR_low (A.evs e he) fun b B hb=>(A.view.dom b B hb).2
 refine⟨F,hsz.trans C.size,C.view.keep A.size A.os fun b B hb=>.inl (hre b B (C.up _ _ hb) (hno b B hb)),fun b c B hb hc=>?_,fun b B hb=>?_,Ren.le_trans C.up hle,C.hole,fun b B hb=>?_,fun j s' hj hs'=>?_,fun j hj hs' hn=>?_,fun j b hj hs'=>?_,
  C.lv0,C.und1,fun c hc=>?_,C.seatch,fun j G1 hj hD hG1=>?_,fun b hb=>?_,by rw[eL,eS];exact htr,fun j hj=>(hdeaf j).trans (C.above j hj),fun b B hb hB=>?_,C.full,⟨A.os.trans C.low.os,A.tape.trans C.low.tape,A.output.trans C.low.output,Nat.le_trans C.low.size A.size,fun B hB=>?_⟩,fun b B hb hB=>?_⟩
 ·rcases hinv b B hb with k | ⟨k0,k,k1⟩<;>rcases hinv c B hc with m | ⟨m0,m,m1⟩
  ·exact hoi _ _ _ k m
  ·have:=(hod b B k).2;omega
  ·have:=(hod c B m).2;omega
  ·exact A.view.inj _ _ _ k m
 ·rcases hinv b B hb with k | ⟨k0,k,k1⟩
  ·exact⟨(hod b B k).1,nl' (hod b B k).2 A.size⟩
  ·exact⟨nl' k0.2 (F.top i s hs),(A.view.dom b B k).2⟩
 ·rcases hinv b B hb with k | ⟨k0,_⟩
  ·exact C.down b B k
  ·exact .inr ⟨i,s,hs,k0⟩
 ·by_cases e:j=i
  ·subst e
   rw[hs] at hs';cases hs';refine⟨G',p',σ,g',hself,A.view,fun b B hb=>?_,fun b B hb=>?_,fun b B hb ho=>by rw[inward_own ho] at hb;exact hb,fun b B hb=>?_,hSt.chan.imp fun _ h=>A.le _ _ h,fun b o ho hb hn=>?_,Nat.le_trans hSt.bot A.vsize,htop,by rw[upd_same];exact hway⟩
   ·by_cases ho:s.own b
    ·rw[inward_own ho];exact hb
    ·rw[inward_not ho];exact hSt.le _ _ (hown b B hb ho)
   ·by_cases ho:s.own b
    ·exact .inr ho
    ·exact hSt.sub b B (hown b B hb ho)
   ·by_cases ho:s.own b
    ·exact .inr (.inl ho)
    ·have hp:=hown b B hb ho
     have h1:=A.still b (hstl b B hp ho);rcases hSt.keep b B hp with m | m | ⟨m,e⟩
     ·exact .inl (h1.trans m)
     ·exact absurd m ho
     ·exact .inr (.inr ⟨m,h1.trans e⟩)
   ·by_cases e:b<p.heap.size
    ·have h1:p.heap[b]?=some p.heap[b]:=as' e
     have h2:p.heap[b]≠poison:=fun h=>by
      rw[h] at h1;have:=(A.still b (.inl h1)).trans h1;rw[this] at hb;cases hb;exact hn rfl
     exact(hSt.full b _ ho h1 h2).imp fun B x=>A.le _ _ x
    ·exact A.full b (Nat.not_lt.1 e) (lt_of_heap hb)
  ·obtain⟨G1,p1,ρ1,g1,h1,h2⟩:=C.seat j s' hj hs'
   refine⟨G1,p1,ρ1,g1,by rw[hget j e];exact h1,?_⟩;rw[upd_ne q n' e];refine h2.stays hle (fun b B hb=>.inr hb) (fun b B hb ho=>?_) (fun _ _=>rfl) A.size A.os (fun b B hb ho=>hre b B hb fun ho'=>?_) A.kind
   ·rw[inward_not (fun ho'=>e (F.apart _ _ _ _ _ hs' hs ho ho'))] at hb;exact hb
   ·rcases ho with ho | ho
    ·exact e (F.apart _ _ _ _ _ hs' hs ho ho')
    ·exact F.lento _ _ _ _ _ hs' hs ho ho'
 ·have e:j≠i:=fun e=>by rw[e,hs] at hs';cases hs'
  obtain⟨h0,G1,h1,h2⟩:=C.gone j hj hs' hn;exact⟨h0,G1,by rw[hget j e];exact h1,by rw[hdeaf,upd_ne q n' e];exact h2⟩
 ·have e:j≠i:=fun e=>by rw[e,hs] at hs';cases hs'
  obtain⟨G1,h1,h2⟩:=C.doner j b hj hs';refine⟨G1,by rw[hget j e];exact h1,?_⟩;rw[upd_ne q n' e,hdeaf];exact h2.imp (fun⟨u,B,k1,k2,k3,k4⟩=>⟨u,B,k1,k2,k3.rely (RL.same (hre b B (C.up _ _ k1) (hno _ _ k1))),k4⟩) id
 ·obtain⟨c',k,h1,h2⟩:=C.chs c hc
  exact⟨c',k,h1,(hre c c' (C.up _ _ h1) (hno _ _ h1)).trans h2⟩
 ·by_cases e:j=i
  ·subst e
   rw[hself] at hG1;cases hG1;exact hdead hD
  ·rw[hget j e] at hG1
   exact C.dead j G1 hj hD hG1
 ·obtain⟨B,h1,h2⟩:=C.wgs b hb
  exact⟨B,h1,(hre b B (C.up _ _ h1) (hno _ _ h1)).trans h2⟩
 ·obtain⟨C',t',FZ,h1,h2⟩:=C.fz b B hb hB
  exact⟨C',t',FZ,(hre b B (C.up _ _ hB) (hno _ _ hB)).trans h1,h2⟩
 ·refine(A.free B (nl' hB (Nat.le_trans F.n0le C.low.size)) fun b hb=>?_).trans (C.low.block B hB)
  refine hstl b B hb fun ho=>?_;have h1:=C.lowo b B (hSt.le _ _ hb) hB;have h2:=F.olow i s b hs ho;omega
 ·rcases hinv b B hb with k | ⟨_,_,k⟩
  ·exact C.lowo b B k hB
  ·have:=Nat.le_trans F.n0le C.low.size
   omega
end
section
variable {P:Program}{ty:TypeId}{S:SC}{Sp Dead Hear:Nat→Prop}{K K':Nat→Prop}{ρ ω:Ren}{und:Nat→Bool}{T:Trace}{gs gs':Array Goroutine}{W W':World}{q lv:Nat→Nat}{ES:Array Event}{j:Nat}{fn:FuncId}{pos:String}
theorem Base.put (C:Base P ty S Sp Dead Hear K ρ ω und T gs W q lv)(hn:∀ s,S.role j≠.seat s){u:Trace}(hu:∀ op∈u,op.g=j)(ht:TP (isSeat S) (isDoner S) (fun j=>isSeat S j∨Hear j) (LentG S ω) (OwnG S ω) (ShunG S ω) W.heap.size K' (T++u))
  (hlt:j<S.n) (hsz:gs'.size=gs.size) (hget:∀ x,x≠j→gs'[x]?=gs[x]?) {n' l':Nat} (hjn:¬ Sp j→S.role j=.none→0<j∧∃ G,gs'[j]?=some G∧QuitsD P n' (Deaf (T++u) j) G)
  (hjd:∀ b,¬ Sp j→S.role j=.doner b→∃ G,gs'[j]?=some G∧((und j=true∧∃ B,ρ b=some B∧3<l'∧DonerAt P ty B l' n' G W∧Deaf (T++u) j=(if l'=4 then 1 else 0))∨(und j=false∧l'=0∧QuitsD P n' (Deaf (T++u) j) G)))
  (hl0:(∀ b,S.role j≠.doner b)→l'=0) (hD:¬ Dead j):Base P ty S Sp Dead Hear K' ρ ω und (T++u) gs' W (upd q j n') (upd lv j l'):=by
 have hdo:∀ x,x≠j→Deaf (T++u) x=Deaf T x:=fun x hx=>Deaf_other T (fun e=>hx e.symm) _ hu;refine⟨C.fair,hsz.trans C.size,C.view,C.oinj,C.odom,C.up,C.hole,C.down,fun x s hx hs=>?_,fun x hx hs hlx=>?_,fun x b hx hs=>?_,fun x hx=>?_,C.und1,C.chs,C.seatch,fun x G hx hDx hG=>?_,C.wgs,ht,fun x hx=>?_,C.fz,C.full,C.low,C.lowo⟩
 ·have e:x≠j:=fun e=>hn s (e▸hs)
  obtain⟨G,p,ρp,g,h1,h2⟩:=C.seat x s hx hs;exact⟨G,p,ρp,g,by rw[hget x e];exact h1,by rw[upd_ne q n' e];exact h2⟩
 ·by_cases e:x=j
  ·subst e;rw[upd_same];exact hjn hx hs
  ·obtain⟨h0,G,h1,h2⟩:=C.gone x hx hs hlx
   exact⟨h0,G,by rw[hget x e];exact h1,by rw[upd_ne q n' e,hdo x e];exact h2⟩
 ·by_cases e:x=j
  ·subst e;rw[upd_same,upd_same];exact hjd b hx hs
  ·obtain⟨G,h1,h2⟩:=C.doner x b hx hs
   exact⟨G,by rw[hget x e];exact h1,by rw[upd_ne q n' e,upd_ne lv l' e,hdo x e];exact h2⟩
 ·by_cases e:x=j
  ·subst e;rw[upd_same];exact hl0 hx
  ·rw[upd_ne lv l' e];exact C.lv0 x hx
 ·have e:x≠j:=fun e=>hD (e▸hDx)
  rw[hget x e] at hG;exact C.dead x G hx hDx hG
 ·rw[hdo x (by omega)];exact C.above x hx
theorem mark_mute (m:Mark)(h:(MemAct.ofEvent (Go.ConcR.mk m)).touch?=Option.none):∀ e∈#[Go.ConcR.mk m],(MemAct.ofEvent e).touch?=Option.none:=by
 intro e he;simp only[List.mem_toArray,List.mem_cons,List.not_mem_nil,or_false] at he;subst he;exact h
theorem TP.muteE (C:Base P ty S Sp Dead Hear K ρ ω und T gs W q lv)(hK:∀ x,K x→K' x)(hh:¬ (isSeat S j∨Hear j))(hn:∀ e∈ES,(MemAct.ofEvent e).touch?=Option.none)(hl:∀ e∈ES,(MemAct.ofEvent e).low W.heap.size) :
  TP (isSeat S) (isDoner S) (fun j=>isSeat S j∨Hear j) (LentG S ω) (OwnG S ω) (ShunG S ω) W.heap.size K' (T++MemOp.ofEvents j fn pos ES) :=
 C.trace.appMute hK (fun op hop=>by obtain⟨e,_,rfl⟩:=Go.Conc.mem_ofEvents hop;rfl) (fun op hop=>by obtain⟨e,he,rfl⟩:=Go.Conc.mem_ofEvents hop;exact hn e he) (fun h=>absurd h hh)
  fun op hop=>by obtain⟨e,he,rfl⟩:=Go.Conc.mem_ofEvents hop;exact hl e he
theorem ops_g {es:Array Event}:∀ op∈MemOp.ofEvents j fn pos es,op.g=j:=fun op hop=>by obtain⟨e,_,rfl⟩:=Go.Conc.mem_ofEvents hop;rfl
def Less (a b:Nat × Nat):Prop:=a.1<b.1∨(a.1=b.1∧a.2<b.2)
theorem Less.wf:WellFounded Less:=by
 refine⟨fun⟨a,b⟩=>?_⟩
 induction a using Nat.strongRecOn generalizing b with
 | _ a iha =>
  induction b using Nat.strongRecOn with
  | _ b ihb =>
   refine⟨_,fun⟨c,d⟩ h=>?_⟩;rcases h with h | ⟨h,h'⟩
   ·exact iha c h d
   ·simp only at h h'
    subst h;exact ihb d h'
def meas (S:SC)(q lv:Nat→Nat):Nat × Nat:=(sumTo S.n lv,sumTo S.n q)
theorem sumTo_less {q:Nat→Nat}{n k:Nat}{j:Nat}(hj:j<n)(h:k<q j):sumTo n (upd q j k)<sumTo n q:=by
 have e:sumTo n (upd q j k)+q j=sumTo n q+k:=sumTo_upd q k id hj;omega
theorem less_q (hlt:j<S.n){k:Nat}(h:k<q j):Less (meas S (upd q j k) lv) (meas S q lv):=.inr ⟨rfl,sumTo_less hlt h⟩
theorem upd_self {f:Nat→Nat}:upd f j (f j)=f:=by
 funext x;by_cases e:x=j
 ·subst e;rw[upd_same]
 ·rw[upd_ne _ _ e]
theorem less_l (hlt:j<S.n){k l:Nat}(h:l<lv j):Less (meas S (upd q j k) (upd lv j l)) (meas S q lv):=.inl (sumTo_less hlt h)
theorem Base.actQ (C:Base P ty S Sp Dead Hear K ρ ω und T gs W q lv){G:Goroutine}(hj:¬ Sp j)(hG:gs[j]?=some G)(hrun:G.status=.running)(hh:¬ (isSeat S j∨Hear j))(hD:¬ Dead j)(h0:0<j)
  (hr:(S.role j=.none)∨∃ b,S.role j=.doner b∧und j=false) (hQ:QuitsD P (q j) (Deaf T j) G) :
  ∃ G' es k,stepG P (j==0) G W=.go G' W es∧∀ (gs':Array Goroutine) (K':Nat→Prop),(∀ x,K x→K' x)→gs'.size=gs.size→gs'[j]?=some G'→(∀ x,x≠j→gs'[x]?=gs[x]?) →
   Base P ty S Sp Dead Hear K' ρ ω und (T++MemOp.ofEvents j G.frame.fn G.frame.place es) gs' W (upd q j k) lv∧Less (meas S (upd q j k) lv) (meas S q lv):=by
 have hlt:j<S.n:=C.size▸(aq' hG).1;have hj0:(j==0)=false:=by simp;omega
 cases hq:q j with
 | zero=>rw[hq] at hQ;rw[hQ.1] at hrun;cases hrun
 | succ k =>
  rw[hq] at hQ;rcases hQ with⟨hf,_⟩ | ⟨_,G',es,hm,hst,hQ'⟩
  ·rw[hf] at hrun;cases hrun
  refine⟨G',es,k,by rw[hj0];exact hst W,fun gs' K' hK hsz hself hget=>⟨?_,less_q hlt (by omega)⟩⟩;have hdf:Deaf (T++MemOp.ofEvents j G.frame.fn G.frame.place es) j=deafBehind (Deaf T j) es:=Deaf_own ..;have hl0:lv j=0:=by
   rcases hr with hr | ⟨b,hr,hu⟩
   ·exact C.lv0 j fun b=>by rw[hr];simp
   ·obtain⟨G1,h1,h2⟩:=C.doner j b hj hr
    rcases h2 with⟨h2,_⟩ | ⟨_,h2,_⟩
    ·rw[h2] at hu;cases hu
    ·exact h2
  have:=C.put (K':=K') (gs':=gs') (j:=j) (n':=k) (l':=lv j) (u:=MemOp.ofEvents j G.frame.fn G.frame.place es) (fun s=>by rcases hr with hr | ⟨b,hr,_⟩<;>rw[hr]<;>simp) ops_g
   (TP.muteE C hK hh (fun e he=>touch_mute (hm e he)) fun e he=>low_mute (hm e he) _) hlt hsz hget (fun _ _=>⟨h0,G',hself,by rw[hdf];exact hQ'⟩)
   (fun b _ hb=>⟨G',hself,.inr ⟨by rcases hr with hr | ⟨b',_,hu⟩;(rw[hr] at hb;cases hb);exact hu,hl0,by rw[hdf];exact hQ'⟩⟩) (fun _=>hl0) hD
  rw[upd_self] at this;exact this
end
section
variable {P:Program}{ty:TypeId}{S:SC}{Sp Dead Hear:Nat→Prop}{K K':Nat→Prop}{ρ ω:Ren}{und:Nat→Bool}{T:Trace}{gs gs':Array Goroutine}{W W':World}{q lv:Nat→Nat}{ES:Array Event}{j:Nat}{fn:FuncId}{pos:String}
theorem goes_cases {Wg:Nat}{St:Goroutine→World→Prop}{n:Nat}{G:Goroutine}(h:Goes P false (RL ty Wg) DC0 St n G W) :
  St G W∨∃ n' G',n=n'+1∧stepG P false G W=.go G' W #[]∧Goes P false (RL ty Wg) DC0 St n' G' W:=by
 cases n with
 | zero=>exact .inl (h W (RL.same rfl))
 | succ n =>
  rcases h with h | ⟨_,h⟩
  ·exact .inl (h W (RL.same rfl))
  ·have hs:=h W (RL.same rfl)
   cases e:stepG P false G W with
   | go G' W' es =>
    rw[e,goes_go] at hs;obtain⟨⟨rfl,rfl⟩,h'⟩:=hs;exact .inr ⟨n,G',rfl,rfl,h'⟩
   | _=>rw[e] at hs;exact hs.elim
theorem setCell_cc {a:Addr}{v:Value}{B:Nat}(h:CC W B):CC (W.setCell a v) B:=by
 by_cases e:B=a.block
 ·unfold CC World.setCell at *
  simp only;rw[Array.getElem?_modify,if_pos e.symm];rcases h with⟨C,t,fz,h⟩ | ⟨cap,buf,cl,s,r,tm,h⟩
  ·rw[h];exact .inl ⟨_,_,_,rfl⟩
  ·rw[h];exact .inr ⟨_,_,_,_,_,_,rfl⟩
 ·unfold CC
  rw[heap_set_ne _ _ _ e];exact h
def lower (und:Nat→Bool)(j:Nat):Nat→Bool:=fun x=>if x=j then false else und x
theorem cnt_lower {b n:Nat}(hj:j<n)(hg:S.grp j=some b)(hu:und j=true):sumTo n (cnt S und b)=sumTo n (cnt S (lower und j) b)+1:=by
 have h1:cnt S und b j=1:=by unfold cnt;rw[if_pos ⟨hg,hu⟩]
 have h2:cnt S (lower und j) b=upd (cnt S und b) j 0:=by
  funext x;unfold cnt lower;by_cases e:x=j
  ·subst e;rw[upd_same];simp
  ·rw[upd_ne _ _ e];simp[e,cnt]
 rw[h2];have e:sumTo n (upd (cnt S und b) j 0)+cnt S und b j=sumTo n (cnt S und b)+0:=sumTo_upd (cnt S und b) 0 id hj;omega
theorem cnt_other {b b':Nat}(hg:S.grp j=some b)(hb:b'≠b):cnt S (lower und j) b'=cnt S und b':=by
 funext x;unfold cnt lower;by_cases e:x=j
 ·subst e
  rw[hg];simp[Ne.symm hb]
 ·simp[e]
theorem cnt_le (b n:Nat):sumTo n (cnt S und b)≤sumTo n (cnt S (fun _=>true) b):=by
 induction n with
 | zero=>exact Nat.le_refl _
 | succ n ih =>
  have:cnt S und b n≤cnt S (fun _=>true) b n:=by
   unfold cnt;split
   ·rename_i h;rw[if_pos ⟨h.1,rfl⟩];exact Nat.le_refl _
   ·exact Nat.zero_le _
  show sumTo n _+_≤sumTo n _+_;omega
theorem not_heard {t:Trace}{es:Array Event}(hd:0<Deaf t j)(hq:∀ e∈es,e.loc≠.mark .disable∧e.loc≠.mark .enable):∀ i op b,(t++MemOp.ofEvents j fn pos es)[i]?=some op→t.size≤i→op.act.touch?=some b→¬ (t++MemOp.ofEvents j fn pos es).heard i:=by
 intro i op b hi hle _ ⟨g,hg,hd'⟩;have hlt:=lt_size_of_getElem? hi;have hopg:op.g=j:=by
  rcases getElem?_append_cases hi with⟨h,_⟩ | ⟨_,h⟩
  ·omega
  ·exact ops_g op h
 obtain rfl:g=j:=by
  rw[g?_of hi,hopg] at hg;exact(oj' hg).symm
 have hs:(MemOp.ofEvents g fn pos es).size=es.size:=by rw[ofEvents_eq];simp
 have:=deaf_inside t g fn pos es (i-t.size) (by rw[Array.size_append] at hlt;omega);rw[show t.size+(i-t.size)=i by omega,hd',deafBehind_still (fun e he=>hq e (by
  have h:=Array.mem_toList_iff.2 he;rw[Array.toList_extract,List.extract_eq_take_drop] at h;exact Array.mem_toList_iff.1 (List.mem_of_mem_drop (List.mem_of_mem_take h))))] at this
 omega
theorem Base.down1 (C:Base P ty S Sp Dead Hear K ρ ω und T gs W q lv)(hK:∀ x,K x→K' x){b B v k:Nat}{G':Goroutine}(hj:¬ Sp j)(hr:S.role j=.doner b)(hu:und j=true)(hh:¬ (isSeat S j∨Hear j))(hD:¬ Dead j)
  (hlt:j<S.n) (hB:ρ b=some B) (hv:S.pend b+sumTo S.n (cnt S und b)=v+1) (hdf:Deaf T j=1) (hQ:QuitsD P k 1 G') (hsz:gs'.size=gs.size) (hself:gs'[j]?=some G') (hget:∀ x,x≠j→gs'[x]?=gs[x]?) :
  Base P ty S Sp Dead Hear K' ρ ω (lower und j) (T++MemOp.ofEvents j fn pos #[Go.ConcR.rd (stA B),Go.ConcR.wr (stA B)]) gs' (W.setCell (stA B) (.int .u64 (v*KK+(0:Nat)))) (upd q j k) (upd lv j 0):=by
 have F:=C.fair;obtain⟨f1,f2,f3⟩:=F.donerg j b hr;have hop:=ops_g (j:=j) (fn:=fn) (pos:=pos) (es:=#[Go.ConcR.rd (stA B),Go.ConcR.wr (stA B)]);have hst:∀ e∈#[Go.ConcR.rd (stA B),Go.ConcR.wr (stA B)],e.loc≠.mark .disable∧e.loc≠.mark .enable:=by
  intro e he;simp only[List.mem_toArray,List.mem_cons,List.not_mem_nil,or_false] at he;rcases he with rfl | rfl<;>exact⟨by simp[Go.ConcR.rd,Go.ConcR.wr],by simp[Go.ConcR.rd,Go.ConcR.wr]⟩
 have hdj:Deaf (T++MemOp.ofEvents j fn pos #[Go.ConcR.rd (stA B),Go.ConcR.wr (stA B)]) j=1:=by
  rw[Deaf_own,deafBehind_still hst];exact hdf
 have hdo:∀ x,x≠j→Deaf (T++MemOp.ofEvents j fn pos #[Go.ConcR.rd (stA B),Go.ConcR.wr (stA B)]) x=Deaf T x:=fun x hx=>Deaf_other T (fun e=>hx e.symm) _ hop;obtain⟨B0,hB0,hwg⟩:=C.wgs b f2;obtain rfl:B0=B:=by rw[hB] at hB0;exact(oj' hB0).symm
 have hne:∀ X,X≠B0→(W.setCell (stA B0) (.int .u64 (v*KK+(0:Nat)))).heap[X]?=W.heap[X]?:=fun X hX=>heap_set_ne _ _ _ hX;have hwg':WgAt ty B0 (W.setCell (stA B0) (.int .u64 (v*KK+(0:Nat)))) (v*KK+(0:Nat)) 0:=hwg.setSt _;have hsize:(W.setCell (stA B0) (.int .u64 (v*KK+(0:Nat)))).heap.size=W.heap.size:=by simp[World.setCell]
 have hBlt:=(C.odom b B0 (C.up _ _ hB)).2;have hinj:∀ b',ω b'=some B0→b'=b:=fun b' h=>C.oinj _ _ _ h (C.up _ _ hB);refine⟨F,hsz.trans C.size,C.view.keep (Nat.le_of_eq hsize.symm) rfl fun b' B' hb'=>?_,C.oinj,fun b' B' h=>by rw[hsize];exact C.odom b' B' h,C.up,C.hole,C.down,fun x s hx hs=>?_,fun x hx hs hlx=>?_,fun x b' hx hs=>?_,
  fun x hx=>?_,fun x hx=>?_,fun c hc=>?_,C.seatch,fun x G hx hDx hG=>?_,fun b' hb'=>?_,?_,fun x hx=>?_,fun b' B' hb' hB'=>?_,C.full,⟨C.low.os,C.low.tape,C.low.output,Nat.le_trans C.low.size (Nat.le_of_eq hsize.symm),fun B' hB'=>?_⟩,C.lowo⟩
 ·by_cases e:B'=B0
  ·subst e
   obtain rfl:=hinj b' (C.up _ _ hb');exact .inr ⟨F.wgs b' f2,.inl ⟨_,_,_,hwg'⟩⟩
  ·exact .inl (hne B' e)
 ·have e:x≠j:=fun e=>by rw[e,hr] at hs;cases hs
  obtain⟨G,p,ρp,g,h1,h2⟩:=C.seat x s hx hs;refine⟨G,p,ρp,g,by rw[hget x e];exact h1,?_⟩;rw[upd_ne q k e];refine h2.stays (fun _ _ h=>h) (fun _ _ h=>.inr h) (fun _ _ h _=>h) (fun _ _=>rfl) (Nat.le_of_eq hsize.symm) rfl (fun b' B' hb' ho=>hne B' fun e'=>?_) fun _ h=>setCell_cc h;subst e';obtain rfl:=hinj b' hb';rcases ho with ho | ho
  ·exact F.wgo x s b' hs ho f2
  ·exact(F.lent x s b' hs ho).2 (F.wgs b' f2)
 ·have e:x≠j:=fun e=>by rw[e,hr] at hs;cases hs
  obtain⟨h0,G,h1,h2⟩:=C.gone x hx hs hlx;exact⟨h0,G,by rw[hget x e];exact h1,by rw[upd_ne q k e,hdo x e];exact h2⟩
 ·by_cases e:x=j
  ·subst e
   exact⟨G',hself,.inr ⟨by simp[lower],upd_same _ _ _,by rw[upd_same,hdj];exact hQ⟩⟩
  ·obtain⟨G,h1,h2⟩:=C.doner x b' hx hs
   refine⟨G,by rw[hget x e];exact h1,?_⟩;rw[upd_ne q k e,upd_ne lv 0 e,hdo x e];refine h2.imp (fun⟨u,B',k1,k2,k3,k4⟩=>⟨by simp[lower,e,u],B',k1,k2,k3.rely ?_,k4⟩) fun⟨u,l,k⟩=>⟨by simp[lower,u],l,k⟩;by_cases e':B'=B0
   ·subst e';exact RL.live ⟨_,_,hwg'⟩
   ·exact RL.same (hne B' e')
 ·have e:x≠j:=fun e=>hx b (e▸hr)
  rw[upd_ne lv 0 e];exact C.lv0 x hx
 ·have e:x≠j:=fun e=>hx b (e▸hr)
  simp only[lower,if_neg e];exact C.und1 x hx
 ·obtain⟨c',k',h1,h2⟩:=C.chs c hc
  refine⟨c',k',h1,(hne c' fun e=>?_).trans h2⟩;rw[e] at h2;unfold WgAt Go.ConcR.wgBlock at hwg;rw[hwg] at h2;cases h2
 ·have e:x≠j:=fun e=>hD (e▸hDx)
  rw[hget x e] at hG;exact C.dead x G hx hDx hG
 ·by_cases e:b'=b
  ·subst e
   refine⟨B0,hB,?_⟩;have:=cnt_lower (und:=und) (S:=S) hlt f1 hu;have e2:S.pend b'+sumTo S.n (cnt S (lower und j) b')=v:=by omega
   rw[e2];exact Eq.mp (congrArg (fun z=>WgAt ty B0 (W.setCell (stA B0) (.int .u64 (v*KK+(0:Nat)))) z 0) (by simp)) hwg'
  ·obtain⟨B',h1,h2⟩:=C.wgs b' hb'
   refine⟨B',h1,?_⟩;rw[cnt_other f1 e];exact h2.of_block (hne B' fun e'=>e (hinj b' (e'▸C.up _ _ h1)))
 ·rw[hsize]
  refine C.trace.appD hK C.apartG ⟨b,hr⟩ hh hop (fun op hop x hx=>?_) (not_heard (by omega) hst) fun op hop=>?_
  ·obtain⟨e,he,rfl⟩:=Go.Conc.mem_ofEvents hop
   simp only[List.mem_toArray,List.mem_cons,List.not_mem_nil,or_false] at he;have hS:ShunG S ω B0:=⟨b,f2,C.up _ _ hB⟩;rcases he with rfl | rfl
   ·obtain rfl:=touch_cell hx
    exact⟨rfl,B0,⟨_,rfl⟩,rfl,hS⟩
   ·obtain rfl:=touch_cell hx
    exact⟨rfl,B0,⟨_,rfl⟩,rfl,hS⟩
  ·obtain⟨e,he,rfl⟩:=Go.Conc.mem_ofEvents hop
   simp only[List.mem_toArray,List.mem_cons,List.not_mem_nil,or_false] at he;rcases he with rfl | rfl<;>exact hBlt
 ·rw[hdo x (by omega)];exact C.above x hx
 ·obtain⟨C',t',FZ,h1,h2⟩:=C.fz b' B' hb' hB'
  refine⟨C',t',FZ,(hne B' fun e=>?_).trans h1,h2⟩;subst e;obtain rfl:=hinj b' (C.up _ _ hB');obtain⟨c,t,hc⟩:=F.fzs b' hb';rw[F.wgs b' f2] at hc;cases hc
 ·refine(hne B' fun e=>?_).trans (C.low.block B' hB')
  have h1:=C.lowo b B' (e▸C.up _ _ hB) hB';have h2:=F.wlow b f2;omega
def ActsD (P:Program)(ty:TypeId)(S:SC)(Sp Dead Hear K:Nat→Prop)(ρ ω:Ren)(T:Trace)(gs:Array Goroutine)(W:World)(q lv:Nat→Nat)(j b:Nat)(G:Goroutine):Prop :=
  ∃ G' W' es q' lv' und',stepG P (j==0) G W=.go G' W' es∧(∃ v,W'=W∨∃ B,ρ b=some B∧W'=W.setCell (stA B) v)∧(∀ x,x≠j→q' x=q x) ∧
   ∀ (gs':Array Goroutine) (K':Nat→Prop),(∀ x,K x→K' x)→gs'.size=gs.size→gs'[j]?=some G'→(∀ x,x≠j→gs'[x]?=gs[x]?) →
   Base P ty S Sp Dead Hear K' ρ ω und' (T++MemOp.ofEvents j G.frame.fn G.frame.place es) gs' W' q' lv'∧Less (meas S q' lv') (meas S q lv)
theorem Base.actD (C:Base P ty S Sp Dead Hear K ρ ω und T gs W q lv){G:Goroutine}{b:Nat}(hj:¬ Sp j)(hG:gs[j]?=some G)(hr:S.role j=.doner b)(hu:und j=true)(hh:¬ (isSeat S j∨Hear j))(hD:¬ Dead j) :
  ActsD P ty S Sp Dead Hear K ρ ω T gs W q lv j b G:=by
 have hlt:j<S.n:=C.size▸(aq' hG).1;obtain⟨f1,f2,f3⟩:=C.fair.donerg j b hr;have hj0:(j==0)=false:=by simp;omega
 obtain⟨G1,h1,h2⟩:=C.doner j b hj hr;rw[hG] at h1;cases h1;obtain⟨_,B,hB,hl3,hDn,hdf⟩:=h2.resolve_right fun⟨h,_⟩=>by rw[hu] at h;cases h
 have hBlt:=(C.odom b B (C.up _ _ hB)).2;have hns:∀ s,S.role j≠.seat s:=fun s=>by rw[hr];simp
 have still:∀ (G':Goroutine) (es:Array Event) (l k:Nat),stepG P false G W=.go G' W es→(∀ e∈es,(MemAct.ofEvent e).touch?=Option.none)→(∀ e∈es,(MemAct.ofEvent e).low W.heap.size)→3<l→DonerAt P ty B l k G' W →
   deafBehind (Deaf T j) es=(if l=4 then 1 else 0)→Less (meas S (upd q j k) (upd lv j l)) (meas S q lv)→ActsD P ty S Sp Dead Hear K ρ ω T gs W q lv j b G:=fun G' es l k hst hn hlow hl hd hdf' hless =>
  ⟨G',W,es,upd q j k,upd lv j l,und,by rw[hj0];exact hst,⟨undef,.inl rfl⟩,fun x hx=>upd_ne q k hx,fun gs' K' hK hsz hself hget =>
   ⟨C.put (K':=K') (gs':=gs') (j:=j) hns ops_g (TP.muteE C hK hh hn hlow) hlt hsz hget (fun _ h=>by rw[hr] at h;cases h)
    (fun b' _ hb'=>by
     rw[hr] at hb';cases hb';exact⟨G',hself,.inl ⟨hu,B,hB,hl,hd,by rw[Deaf_own];exact hdf'⟩⟩) (fun h=>absurd hr (h b)) hD,hless⟩⟩
 have noE:∀ e∈(#[]:Array Event),False:=fun e he=>by simp at he
 have idle:∀ (l n':Nat) (G':Goroutine),lv j=l→q j=n'+1→stepG P false G W=.go G' W #[]→3<l→DonerAt P ty B l n' G' W→Deaf T j=(if l=4 then 1 else 0)→ActsD P ty S Sp Dead Hear K ρ ω T gs W q lv j b G:=fun l n' G' hl hq hst hl3 hd hdf' =>
  still G' #[] l n' hst (fun e he=>(noE e he).elim) (fun e he=>(noE e he).elim) hl3 hd (by rw[deafBehind_nil];exact hdf') (by
   rw[← hl,upd_self];exact less_q hlt (by omega))
 generalize hl:lv j=l at hl3 hDn hdf;unfold DonerAt at hDn;split at hDn
 ·
  rcases goes_cases hDn with⟨_,G',hst,m,hm⟩ | ⟨n',G',hq,hst,hg⟩
  ·refine still G' _ 5 m hst (mark_mute _ rfl) (fun e he=>?_) (by decide) hm ?_ (less_l hlt (by omega))
   ·simp only[List.mem_toArray,List.mem_cons,List.not_mem_nil,or_false] at he
    subst he;exact hBlt
   ·rw[hdf];rfl
  ·exact idle 6 n' G' hl hq hst (by decide) hg hdf
 ·
  rcases goes_cases hDn with⟨_,G',hst,m,hm⟩ | ⟨n',G',hq,hst,hg⟩
  ·refine still G' _ 4 m hst (mark_mute _ rfl) (fun e he=>?_) (by decide) hm ?_ (less_l hlt (by omega))
   ·simp only[List.mem_toArray,List.mem_cons,List.not_mem_nil,or_false] at he
    subst he;trivial
   ·rw[hdf];rfl
  ·exact idle 5 n' G' hl hq hst (by decide) hg hdf
 ·
  rcases goes_cases hDn with⟨_,hst⟩ | ⟨n',G',hq,hst,hg⟩
  ·obtain⟨B0,hB0,hwg⟩:=C.wgs b f2
   obtain rfl:B0=B:=by rw[hB] at hB0;exact(oj' hB0).symm
   have hc:=cnt_lower (und:=und) (S:=S) hlt f1 hu;obtain⟨v,hv⟩:∃ v,S.pend b+sumTo S.n (cnt S und b)=v+1:=⟨S.pend b+sumTo S.n (cnt S (lower und j) b),by omega⟩;have hfew:=C.fair.few b f2;have hle:=cnt_le (und:=und) (S:=S) b S.n;rw[hv] at hwg;obtain⟨G',hst,_,hq⟩:=hst v 0 (by decide) (by omega) (by simpa using hwg);obtain⟨k,hk⟩:=hq (by simp);exact⟨G',_,_,upd q j k,upd lv j 0,lower und j,by rw[hj0];exact hst,⟨_,.inr ⟨B0,hB,rfl⟩⟩,fun x hx=>upd_ne q k hx,fun gs' K' hK hsz hself hget =>
    ⟨C.down1 hK hj hr hu hh hD hlt hB hv hdf hk hsz hself hget,less_l hlt (by omega)⟩⟩
  ·exact idle 4 n' G' hl hq hst (by decide) hg hdf
 ·omega
 ·omega
 ·omega
 ·exact hDn.elim
end
section
variable {P:Program}{ty:TypeId}{S:SC}{Sp Dead Hear:Nat→Prop}{K K':Nat→Prop}{ρ ω σ ρp:Ren}{und:Nat→Bool}{T:Trace}{gs gs':Array Goroutine}{W W' p:World}{q lv:Nat→Nat}{ES:Array Event}{i j:Nat}{sl:Option (Nat × Nat)}
theorem sim_recv (hP:Fits P)(hv:View ρp p W){s:SeatS}{g G:Goroutine}{m:Bool}(hg:GRel ρp g G)(h:AtRecv P m s g p) :
  ∃ σ G2 C W1 ES,stepG P m G W=.comm G2 #[rcase C s.z] true (.recv s.ok) W1 ES∧σ s.c=some C∧GRel σ g G2∧Acts ρp σ p p W W1 ES:=by
 obtain⟨es,e⟩:=h.step W.tape W.drawn;obtain⟨σ,G2,c,C,W1,ES,h1,h2,h3,_,h4,h5⟩:=(step_sim (M:=m) hP hv hg (.inl rfl) (fun⟨_,e,e'⟩=>h.ok (e.trans e'))).comm _ _ _ _ _ _ e;have hc:c=rcase s.c s.z:=by
  have:=congrArg (fun a:Array CommCase=>a[0]?) h3;simpa using this.symm
 subst hc;obtain⟨k1,k2,k3⟩:=h4;obtain⟨ch,sd,ze⟩:=C;simp only[rcase] at k1 k2 k3;cases k1 with
 | flat h=>cases h
 | chan hC =>
  cases sd with
  | some v=>exact k2.elim
  | none =>
   subst k3;have A:=Acts.of hv h5;exact⟨σ,G2,_,W1,ES,h1,hC,h2,⟨(A.view.re p.tape p.drawn:View σ p W1),A.le,A.size,A.vsize,A.os,A.free,A.still,A.vis,A.kind,A.newb,A.full,A.tape,A.output,A.evs⟩⟩
def Steady (S:SC)(ρ:Ren)(gx:Goroutine):Prop :=
 gx.status=.running∨gx.status=.finished∨∃ G0 c C v z,S.chs c∧ρ c=some C∧gx=parked G0 #[scase C v z] .send
theorem Steady.again (C:Base P ty S Sp Dead Hear K ρ ω und T gs W q lv){gx:Goroutine}(h:Steady S ρ gx):gx.again W=gx:=by
 rcases h with h | h | ⟨G0,c,C0,v,z,h1,h2,rfl⟩
 ·exact again_running _ (.inl h)
 ·exact again_running _ (.inr h)
 ·obtain⟨C1,k,h3,h4⟩:=C.chs c h1
  rw[h2] at h3;cases h3;exact again_send_open h4
theorem Steady.awake {gx:Goroutine}(h:Steady S ρ gx):awake gx:=by
 rcases h with h | h | ⟨G0,c,C0,v,z,h1,h2,rfl⟩
 ·exact awake_of (.inl h)
 ·exact awake_of (.inr (.inr h))
 ·exact awake_of (.inr (.inl rfl))
theorem Base.unwoken {G G':Goroutine}(C:Base P ty S Sp Dead Hear K ρ ω und T (gs.setIfInBounds i G') W q lv)(hsA:∀ x gx,Sp x→gs[x]?=some gx→Steady S ρ gx) :
  (gs.map (woken P G G' W)).setIfInBounds i G'=gs.setIfInBounds i G':=by
 apply Array.ext_getElem?;intro x;by_cases e:i=x
 ·subst e
  by_cases hlt:i<gs.size
  ·rw[Array.getElem?_setIfInBounds_self_of_lt (by simpa using hlt),Array.getElem?_setIfInBounds_self_of_lt hlt]
  ·rw[ae' (by simpa using hlt),ae' (by simpa using hlt)]
 ·rw[ar' e,ar' e,Array.getElem?_map]
  cases h:gs[x]? with
  | none=>rfl
  | some y =>
   have hy:y.again W=y:=by
    by_cases hx:Sp x
    ·exact(hsA x y hx h).again C
    ·exact C.fixed hx (by rw[ar' e];exact h)
   simp only[Option.map_some];unfold woken;split
   ·rw[hy]
   ·rfl
theorem seat_same (C:Base P ty S Sp Dead Hear K ρ ω und T gs W q lv){s:SeatS}(hs:S.role i=.seat s){n:Nat}{G g:Goroutine}(hSt:Seated P i s ω ρ S.w W n G p ρp g){p':World}(A:Acts ρp σ p p' W W' ES) :
  ∀ b B,ρ b=some B→W'.heap[B]?=W.heap[B]?:=fun b B hb=>A.free B (C.odom b B (C.up _ _ hb)).2 fun b' hb'=>by
 obtain rfl:=C.oinj _ _ _ (hSt.le _ _ hb') (C.up _ _ hb);rcases hSt.keep b' B hb' with k | k | ⟨k,e⟩
 ·exact .inl k
 ·rw[C.hole i s b' hs k] at hb;cases hb
 ·exact(C.fair.lent i s b' hs k).1.eq e
theorem Base.by_stepG {Kf:Trace→Nat→Prop}(hP:Fits P)(hKf:∀ t u x,Kf t x→Kf (t++u) x)(C:Base P ty S Sp Dead Hear (Kf T) ρ ω und T gs W q lv){G:Goroutine}(hi:gs[i]?=some G)(hsp:¬ Sp i)(hrun:G.status=.running)
  (hH:∀ x,Hear x→Sp x) (hDs:Dead i→∃ s,S.role i=.seat s) (hsA:∀ x gx,Sp x→gs[x]?=some gx→Steady S ρ gx)
  (hsO:∀ s p ρp g,S.role i=.seat s→Seated P i s ω ρ S.w W (q i) G p ρp g→AtRecv P (i==0) s g p→¬ Dead i∧∀ x gx c,Sp x→gs[x]?=some gx→ω s.c=some c→offersAt gx c true=[]) :
  ∃ gs' W' ops q' lv' und' ω',runT P (crowd gs W sl) i=(.next (crowd gs' W' sl),ops)∧gs'.size=gs.size∧(∀ x,x≠i→gs'[x]?=gs[x]?)∧(∀ x,x≠i→q' x=q x) ∧
   (∀ s,S.role i=.seat s→q' i=0→∃ p ρp g,Seated P i s ω ρ S.w W (q i) G p ρp g∧AtRecv P (i==0) s g p) ∧
   (∀ b B,ρ b=some B→¬ S.wgs b→W'.heap[B]?=W.heap[B]?)∧Base P ty S Sp Dead Hear (Kf (T++ops)) ρ ω' und' (T++ops) gs' W' q' lv'∧Less (meas S q' lv') (meas S q lv)∧∀ op∈ops,op.g=i:=by
 have hlt:i<gs.size:=(aq' hi).1;have hltn:i<S.n:=C.size▸hlt;have hget:∀ (X:Goroutine) x,x≠i→(gs.setIfInBounds i X)[x]?=gs[x]?:=fun X x hx=>ar' fun e=>hx e.symm;have hself:∀ X:Goroutine,(gs.setIfInBounds i X)[i]?=some X:=fun X=>Array.getElem?_setIfInBounds_self_of_lt hlt;have hsz:∀ X:Goroutine,(gs.setIfInBounds i X).size=gs.size:=fun X=>by simp
 cases hr:S.role i with
 | none =>
  obtain⟨h0,G1,h1,h2⟩:=C.gone i hsp hr hltn;rw[hi] at h1;cases h1;have hns:¬ isSeat S i:=fun⟨s,hs⟩=>by rw[hr] at hs;cases hs
  obtain⟨G',es,k,hst,hB⟩:=C.actQ hsp hi hrun (fun h=>h.elim hns fun h=>hsp (hH _ h)) (fun h=>hns (hDs h)) h0 (.inl hr) h2;obtain⟨C',hl⟩:=hB _ (Kf (T++MemOp.ofEvents i G.frame.fn G.frame.place es)) (fun x=>hKf _ _ x) (hsz G') (hself G') (hget G');refine⟨_,W,_,_,lv,und,ω,by rw[runT_crowd_go (sl:=sl) hi hst,C'.unwoken hsA],hsz G',hget G',fun x hx=>upd_ne q k hx,fun s hs=>(by cases hs),fun _ _ _ _=>rfl,C',hl,ops_g⟩
 | doner b =>
  have hns:¬ isSeat S i:=fun⟨s,hs⟩=>by rw[hr] at hs;cases hs
  have hh:¬ (isSeat S i∨Hear i):=fun h=>h.elim hns fun h=>hsp (hH _ h);obtain⟨_,_,h0⟩:=C.fair.donerg i b hr;cases hu:und i with
  | false =>
   obtain⟨G1,h1,h2⟩:=C.doner i b hsp hr;rw[hi] at h1;cases h1;obtain⟨_,_,h2⟩:=h2.resolve_left fun⟨h,_⟩=>by rw[hu] at h;cases h
   obtain⟨G',es,k,hst,hB⟩:=C.actQ hsp hi hrun hh (fun h=>hns (hDs h)) h0 (.inr ⟨b,hr,hu⟩) h2;obtain⟨C',hl⟩:=hB _ (Kf (T++MemOp.ofEvents i G.frame.fn G.frame.place es)) (fun x=>hKf _ _ x) (hsz G') (hself G') (hget G');refine⟨_,W,_,_,lv,und,ω,by rw[runT_crowd_go (sl:=sl) hi hst,C'.unwoken hsA],hsz G',hget G',fun x hx=>upd_ne q k hx,fun s hs=>(by cases hs),fun _ _ _ _=>rfl,C',hl,ops_g⟩
  | true =>
   obtain⟨G',W',es,q',lv',und',hst,⟨v,hW⟩,hq',hB⟩:=C.actD hsp hi hr hu hh (fun h=>hns (hDs h));obtain⟨C',hl⟩:=hB _ (Kf (T++MemOp.ofEvents i G.frame.fn G.frame.place es)) (fun x=>hKf _ _ x) (hsz G') (hself G') (hget G');exact⟨_,W',_,q',lv',und',ω,by rw[runT_crowd_go (sl:=sl) hi hst,C'.unwoken hsA],hsz G',hget G',hq',fun s hs=>(by cases hs),fun b' B' hb' hw'=>by
    rcases hW with rfl | ⟨B,hB0,rfl⟩
    ·rfl
    ·refine heap_set_ne _ _ _ fun e=>hw' ?_
     have e':B'=B:=e;subst e';rw[C.oinj _ _ _ (C.up _ _ hb') (C.up _ _ hB0)];exact(C.fair.donerg i b hr).2.1,C',hl,ops_g⟩
 | seat s =>
  obtain⟨G1,p,ρp,g,h1,hS⟩:=C.seat i s hsp hr;rw[hi] at h1;cases h1;obtain⟨k,hk,hg,hw⟩:∃ k,q i=k+1∧GRel ρp g G∧WalkS P (i==0) s k g p:=by
   rcases hS.way with h | ⟨_,G0,C0,_,rfl,_⟩
   ·exact h
   ·cases hrun
  have hcase:AtRecv P (i==0) s g p∨∃ k',k=k'+1∧(g.frame.mode=.run→okHd P g.frame.eval g.frame.todo)∧∀ τ d,∃ g' p' es,stepG P (i==0) g (re p τ d)=.go g' p' es∧Plain g'∧p'.heap.size≤s.hi∧WalkS P (i==0) s k' g' p':=by
   cases k with
   | zero=>exact .inl hw
   | succ k'=>exact hw.imp id fun⟨_,h1,h2⟩=>⟨k',rfl,h1,h2⟩
  rcases hcase with hat | ⟨k',rfl,hok,hstep⟩
  ·obtain⟨hnD,hO⟩:=hsO s p ρp g hr hS hat
   obtain⟨σ,G2,C0,W1,ES,hst,hC0,hg2,A⟩:=sim_recv hP hS.view hg hat;have C':=C.actS (fn:=G.frame.fn) (pos:=G.frame.place) (gs':=gs.setIfInBounds i (parked G2 #[rcase C0 s.z] (.recv s.ok))) (K':=Kf (T++MemOp.ofEvents i G.frame.fn G.frame.place ES)) hsp hr hi hS A hS.top (fun x=>hKf _ _ x) (.inr ⟨rfl,G2,C0,hC0,rfl,hg2,hat⟩) (hsz _) (hself _) (hget _) (fun h=>absurd h hnD);have hω:inward s ω σ s.c=some C0:=(by
    obtain⟨G3,p3,ρ3,g3,h3,h4⟩:=C'.seat i s hsp hr;rw[hself] at h3;cases h3;rcases h4.way with⟨k,hk,_⟩ | ⟨_,G0,C1,hC1,he,_⟩
    ·rw[upd_same] at hk;cases hk
    ·have h5:C1=C0:=by
      have:=congrArg (fun g:Goroutine=>g.offers) he;simp only[parked,Option.some.injEq,Prod.mk.injEq,and_true] at this;have h6:=congrArg (fun a:Array CommCase=>(a[0]?).map (·.chan)) this;simpa[rcase] using h6.symm
     subst h5;exact h4.le _ _ hC1)
   obtain⟨C1,kk,h5,h6⟩:=C'.chs _ (C'.seatch i s hnD hr);obtain rfl:C1=C0:=by
    have:=C'.up _ _ h5;rw[hω] at this;exact(oj' this).symm
   have hno:∀ cc∈#[rcase C1 s.z],NoWays W1 (gs.setIfInBounds i ph) cc:=by
    intro cc hcc;simp only[List.mem_toArray,List.mem_cons,List.not_mem_nil,or_false] at hcc;subst hcc;refine ways_recv_none h6 (partners_nil fun x y hy=>?_);rcases getElem?_stand gs i x y hy with⟨_,rfl⟩ | ⟨hx,hy'⟩
    ·exact offersAt_ph _ _
    ·by_cases hSx:Sp x
     ·exact hO x y C1 hSx hy' (C.up _ _ h5)
     ·exact C.noSend hSx hy' _
   exact⟨_,W1,_,_,lv,und,_,crowd_waits (sl:=sl) hi hst hno,hsz _,hget _,fun x hx=>upd_ne q 0 hx,fun s' hs' _=>by cases hs';exact⟨p,ρp,g,hS,hat⟩,fun b B hb _=>seat_same C hr hS A b B hb,C',less_q hltn (by omega),ops_g⟩
  ·obtain⟨g',p',es,e,hp,htop,hw'⟩:=hstep W.tape W.drawn
   obtain⟨σ,G',W',ES,hst,hg',A⟩:=sim_go hP hS.view hg hok e hp;have hrun':G'.status=.running:=hg'.status.symm.trans hp.runs;have C':=C.actS (fn:=G.frame.fn) (pos:=G.frame.place) (gs':=gs.setIfInBounds i G') (K':=Kf (T++MemOp.ofEvents i G.frame.fn G.frame.place ES)) hsp hr hi hS A htop (fun x=>hKf _ _ x) (.inl ⟨k',rfl,hg',hw'⟩) (hsz _) (hself _) (hget _) (fun _=>hrun');refine⟨_,W',_,_,lv,und,_,by rw[runT_crowd_go (sl:=sl) hi hst,C'.unwoken hsA],hsz _,hget _,fun x hx=>upd_ne q _ hx,fun s' _ h0=>by rw[upd_same] at h0;omega,fun b B hb _=>seat_same C hr hS A b B hb,C',less_q hltn (by omega),ops_g⟩
theorem Base.by_step' {Kf:Trace→Nat→Prop}(hP:Fits P)(hKf:∀ t u x,Kf t x→Kf (t++u) x)(C:Base P ty S Sp Dead Hear (Kf T) ρ ω und T gs W q lv){G:Goroutine}(hi:gs[i]?=some G)(hsp:¬ Sp i)(hrun:G.status=.running)
  (hH:∀ x,Hear x→Sp x) (hDs:Dead i→∃ s,S.role i=.seat s) (hsA:∀ x gx,Sp x→gs[x]?=some gx→Steady S ρ gx)
  (hsO:∀ s p ρp g,S.role i=.seat s→Seated P i s ω ρ S.w W (q i) G p ρp g→AtRecv P (i==0) s g p→¬ Dead i∧∀ x gx c,Sp x→gs[x]?=some gx→ω s.c=some c→offersAt gx c true=[]) :
  ∃ gs' W' ops q' lv' und' ω',runT P (crowd gs W sl) i=(.next (crowd gs' W' sl),ops)∧gs'.size=gs.size∧(∀ x,x≠i→gs'[x]?=gs[x]?)∧(∀ x,x≠i→q' x=q x) ∧
   (∀ s,S.role i=.seat s→q' i=0→∃ p ρp g,Seated P i s ω ρ S.w W (q i) G p ρp g∧AtRecv P (i==0) s g p) ∧
   (∀ b B,ρ b=some B→¬ S.wgs b→W'.heap[B]?=W.heap[B]?)∧Base P ty S Sp Dead Hear (Kf (T++ops)) ρ ω' und' (T++ops) gs' W' q' lv'∧Less (meas S q' lv') (meas S q lv):=by
 obtain⟨gs',W',ops,q',lv',und',ω',h1,h2,h3,h4,h5,h6,h7,h8,_⟩:=C.by_stepG (sl:=sl) hP hKf hi hsp hrun hH hDs hsA hsO;exact⟨gs',W',ops,q',lv',und',ω',h1,h2,h3,h4,h5,h6,h7,h8⟩
theorem Base.by_step {Kf:Trace→Nat→Prop}(hP:Fits P)(hKf:∀ t u x,Kf t x→Kf (t++u) x)(C:Base P ty S Sp Dead Hear (Kf T) ρ ω und T gs W q lv){G:Goroutine}(hi:gs[i]?=some G)(hsp:¬ Sp i)(hrun:G.status=.running)
  (hH:∀ x,Hear x→Sp x) (hDs:Dead i→∃ s,S.role i=.seat s) (hsA:∀ x gx,Sp x→gs[x]?=some gx→Steady S ρ gx)
  (hsO:∀ s p ρp g,S.role i=.seat s→Seated P i s ω ρ S.w W (q i) G p ρp g→AtRecv P (i==0) s g p→¬ Dead i∧∀ x gx c,Sp x→gs[x]?=some gx→ω s.c=some c→offersAt gx c true=[]) :
  ∃ gs' W' ops q' lv' und' ω',runT P (crowd gs W sl) i=(.next (crowd gs' W' sl),ops)∧gs'.size=gs.size∧(∀ x,x≠i→gs'[x]?=gs[x]?)∧(∀ x,x≠i→q' x=q x) ∧
   (∀ s,S.role i=.seat s→q' i=0→∃ p ρp g,Seated P i s ω ρ S.w W (q i) G p ρp g∧AtRecv P (i==0) s g p) ∧
   Base P ty S Sp Dead Hear (Kf (T++ops)) ρ ω' und' (T++ops) gs' W' q' lv'∧Less (meas S q' lv') (meas S q lv) :=
 let ⟨gs',W',ops,q',lv',und',ω',h1,h2,h3,h4,h5,_,h6,h7⟩:=C.by_step' hP hKf hi hsp hrun hH hDs hsA hsO
 ⟨gs',W',ops,q',lv',und',ω',h1,h2,h3,h4,h5,h6,h7⟩
end
def Comes (P:Program)(Post:Value→World→Prop)(m:Machine)(t:Trace):Prop :=
 ∃ N last o w' t',runNT P (N+1) m t=(.ended o w',t')∧runN P N m=.next last∧step P last=.ended o w'∧Good P Post last o w' t'
section
variable {P:Program}{Post:Value→World→Prop}
theorem Comes.next {m m':Machine}{t:Trace}{ops:Array MemOp}(h:stepT P m=(.next m',ops))(k:Comes P Post m' (t++ops)):Comes P Post m t:=by
 obtain⟨N,last,o,w',t',h1,h2,h3,h4⟩:=k;refine⟨N+1,last,o,w',t',?_,?_,h3,h4⟩
 ·rw[runNT,h];exact h1
 ·rw[runN]
  have:step P m=.next m':=by unfold step;rw[h]
  rw[this];exact h2
theorem Comes.ended {m:Machine}{t:Trace}{o:Outcome}{w':World}{ops:Array MemOp}(h:stepT P m=(.ended o w',ops))(k:Good P Post m o w' (t++ops)):Comes P Post m t :=
 ⟨0,m,o,w',t++ops,by rw[runNT,h],rfl,by unfold step;rw[h],k⟩
theorem comes_wf {α:Type}{r:α→α→Prop}(wf:WellFounded r)(Inv:α→Machine→Trace→Prop)
  (hs:∀ a m t,Inv a m t→Comes P Post m t∨∃ m' ops a',stepT P m=(.next m',ops)∧r a' a∧Inv a' m' (t++ops)):∀ a m t,Inv a m t→Comes P Post m t:=by
 intro a
 induction a using wf.induction with
 | _ a ih =>
  intro m t h;rcases hs a m t h with k | ⟨m',ops,a',h1,h2,h3⟩
  ·exact k
  ·exact Comes.next h1 (ih a' h2 m' _ h3)
end
structure Ring (P:Program)(ty:TypeId)(h:Nat)(S:SC)(g:Goroutine)(ρ ω:Ren)(und:Nat→Bool)(T:Trace)(gs:Array Goroutine)(W:World)(q lv:Nat→Nat)(G:Goroutine):Prop where
 base:Base P ty S (·=h) (fun _=>False) (·=h) (Knows T h) ρ ω und T gs W q lv
 recd:gs[h]?=some G
 rel:GRel ρ g G
 run:G.status=.running
 role:S.role h=.none
def Sound (P:Program)(ty:TypeId)(Post:Value→World→Prop)(h:Nat)(S:SC)(g:Goroutine):Prop :=
 ∀ ρ ω und T gs W sl q lv G,Ring P ty h S g ρ ω und T gs W q lv G→Comes P Post (crowd gs W sl) T
section
variable {P:Program}{ty:TypeId}{Post:Value→World→Prop}{S:SC}{h:Nat}{g:Goroutine}{ρ ω:Ren}{und:Nat→Bool}{T:Trace}{gs:Array Goroutine}{W:World}{q lv:Nat→Nat}{G:Goroutine}
theorem Ring.at (R:Ring P ty h S g ρ ω und T gs W q lv G)(d:Nat):Ring P ty h S g ρ ω und T gs (W.at d) q lv G:=⟨R.base.at d,R.recd,R.rel,R.run,R.role⟩
theorem Ring.awake (R:Ring P ty h S g ρ ω und T gs W q lv G):∀ x∈gs,awake x:=by
 intro x hx;obtain⟨i,hi,rfl⟩:=Array.mem_iff_getElem.1 hx;by_cases e:i=h
 ·subst e
  have:gs[i]=G:=by simpa[as' hi] using R.recd
  rw[this];exact awake_of (.inl R.run)
 ·exact R.base.awake1 e (as' hi)
theorem Ring.by (hP:Fits P)(R:Ring P ty h S g ρ ω und T gs W q lv G){i:Nat}{X:Goroutine}(hi:gs[i]?=some X)(hne:i≠h)(hrun:X.status=.running)(sl:Option (Nat × Nat)) :
  ∃ gs' W' ops q' lv' und' ω',runT P (crowd gs W sl) i=(.next (crowd gs' W' sl),ops)∧Ring P ty h S g ρ ω' und' (T++ops) gs' W' q' lv' G∧Less (meas S q' lv') (meas S q lv):=by
 obtain⟨gs',W',ops,q',lv',und',ω',h1,h2,h3,h4,h5,h6,h7⟩:=R.base.by_step (sl:=sl) (Kf:=fun t=>Knows t h) hP (fun t u x=>Knows.app u) hi hne hrun (fun x hx=>hx) (fun hD=>hD.elim)
  (fun x gx hx hgx=>by subst hx;rw[R.recd] at hgx;cases hgx;exact .inl R.run)
  (fun s p ρp g' _ _ _=>⟨fun hD=>hD,fun x gx c hx hgx _=>by
   subst hx;rw[R.recd] at hgx;cases hgx;exact offersAt_of_not_blocked (by rw[R.run];simp) _ _⟩)
 exact⟨gs',W',ops,q',lv',und',ω',h1,⟨h6,by rw[h3 h (Ne.symm hne)];exact R.recd,R.rel,R.run,R.role⟩,h7⟩
theorem sound_of_own (hP:Fits P)(hown:∀ ρ ω und T gs W sl q lv G,Ring P ty h S g ρ ω und T gs W q lv G →
   (∃ o W' ops,runT P (crowd gs W sl) h=(.ended o W',ops)∧∀ m:Machine,m.gs=gs→m.rest.timers.isEmpty=true→Good P Post m o W' (T++ops))∨∃ m' ops,runT P (crowd gs W sl) h=(.next m',ops)∧Comes P Post m' (T++ops)):Sound P ty Post h S g:=by
 intro ρ ω und T gs W sl q lv G R;refine comes_wf Less.wf (fun a m t=>∃ ρ ω und gs W sl q lv G,m=crowd gs W sl∧Ring P ty h S g ρ ω und t gs W q lv G∧a=meas S q lv) ?_ (meas S q lv) _ T ⟨ρ,ω,und,gs,W,sl,q,lv,G,rfl,R,rfl⟩;rintro a m t ⟨ρ,ω,und,gs,W,sl,q,lv,G,rfl,R,rfl⟩;obtain⟨i,X,d,sl',hi,hX,hst⟩:=crowd_pick (P:=P) (w:=W) (sl:=sl) R.awake ⟨h,G,R.recd,R.run⟩;by_cases e:i=h
 ·subst e
  left;rcases hown ρ ω und t gs (W.at d) sl' q lv G (R.at d) with⟨o,W',ops,h1,h2⟩ | ⟨m',ops,h1,h2⟩
  ·exact Comes.ended (hst.trans h1) (h2 _ rfl rfl)
  ·exact Comes.next (hst.trans h1) h2
 ·right
  obtain⟨gs',W',ops,q',lv',und',ω',h1,h2,h3⟩:=(R.at d).by hP hi e hX sl'
  exact⟨_,ops,_,hst.trans h1,h3,ρ,ω',und',gs',W',sl',q',lv',G,rfl,h2,rfl⟩
theorem sound_step (hP:Fits P)(hh:g.frame.mode=.run→okHd P g.frame.eval g.frame.todo)
  (hs:∀ τ d,∃ g' w' es,stepG P (h==0) g (re S.w τ d)=.go g' w' es∧Plain g'∧Sound P ty Post h { S with w:=w'} g'):Sound P ty Post h S g:=by
 refine sound_of_own hP fun ρ ω und T gs W sl q lv G R=>.inr ?_;obtain⟨g',w',es,e,hp,hS⟩:=hs W.tape W.drawn;obtain⟨σ,G',W',ES,hst,hg',A⟩:=sim_go hP R.base.view R.rel hh e hp;obtain⟨C',hG'⟩:=R.base.own A (a':=G') R.recd;exact⟨_,_,runT_crowd_go (sl:=sl) R.recd hst,hS σ _ und _ _ W' sl q lv G' ⟨C',hG',hg',hg'.status.symm.trans hp.runs,R.role⟩⟩
theorem sound_way (hP:Fits P){Stop:Goroutine→World→Prop}{w:World}(hw:Way P (h==0) Stop g w)(hS:∀ g' w',Stop g' w'→Sound P ty Post h { S with w:=w'} g'):Sound P ty Post h { S with w:=w} g:=by
 induction hw with
 | stop h=>exact hS _ _ h
 | step' g' w' es h1 h2 _ ih=>exact sound_step hP h1 fun τ d=>⟨_,_,_,(h2 τ d).1,(h2 τ d).2,ih τ d⟩
end
theorem TP.alike {Seat Seat' Doner Doner' Mem Mem':Nat→Prop}{Lent Own Lent' Own':Nat→Nat→Prop}{Shun Shun':Nat→Prop}{B:Nat}{K:Nat→Prop}{t:Trace}(H:TP Seat Doner Mem Lent Own Shun B K t)
  (h1:∀ g,Seat' g↔Seat g) (h2:∀ g,Doner' g→Doner g) (h3:∀ g,Mem' g→Deaf t g=0) (h4:∀ g x,Seat g→(Lent' g x↔Lent g x)) (h5:∀ g x,Seat g→(Own' g x↔Own g x)) (h6:∀ x,Shun' x↔Shun x):TP Seat' Doner' Mem' Lent' Own' Shun' B K t:=by
 refine⟨H.clean,fun i a ha hm=>?_,fun i a g b ha hw hs hb hL=>H.wrote i a g b ha hw ((h1 g).1 hs) hb ((h4 g b ((h1 g).1 hs)).1 hL),fun i a g b ha hs hb hO=>H.owned i a g b ha ((h1 g).1 hs) hb ((h5 g b ((h1 g).1 hs)).1 hO),
  fun i a g b ha hp hD hb hS=>H.plain i a g b ha hp (h2 g hD) hb ((h6 b).1 hS),H.objw,h3,H.seen⟩
 rcases H.known i a ha hm with k | ⟨g,hg,hs,hp⟩ | ⟨⟨b,hb,hS⟩,k⟩
 ·exact .inl k
 ·refine .inr (.inl ⟨g,hg,(h1 g).2 hs,?_⟩)
  rcases hp with⟨hw,b,hb,hL⟩ | ⟨b,hb,hO⟩ | hp
  ·exact .inl ⟨hw,b,hb,(h4 g b hs).2 hL⟩
  ·exact .inr (.inl ⟨b,hb,(h5 g b hs).2 hO⟩)
  ·exact .inr (.inr hp)
 ·exact .inr (.inr ⟨⟨b,hb,(h6 b).2 hS⟩,k⟩)
section
variable {P:Program}{ty:TypeId}{S:SC}{Sp Dead Hear:Nat→Prop}{K K':Nat→Prop}{ρ ω σ ρp:Ren}{und:Nat→Bool}{T:Trace}{gs gs':Array Goroutine}{W W' p:World}{q lv:Nat→Nat}{h j:Nat}
theorem Base.chan (C:Base P ty S Sp Dead Hear K ρ ω und T gs W q lv){c C0 k k':Nat}(hc:S.chs c)(hC:ρ c=some C0)(hk:W.heap[C0]?=some (.chan 0 #[] false k k false)) :
  Base P ty S Sp Dead Hear K ρ ω und T gs (W.setChan C0 0 #[] false k' k' false) q lv:=by
 have F:=C.fair;have hlt:=lt_of_heap hk;have hne:∀ X,X≠C0→(W.setChan C0 0 #[] false k' k' false).heap[X]?=W.heap[X]?:=fun X hX=>heap_setChan_ne _ _ _ _ _ _ _ hX.symm;have hself:(W.setChan C0 0 #[] false k' k' false).heap[C0]?=some (.chan 0 #[] false k' k' false):=heap_setChan_self _ hk _ _ _ _ _ _;have hsize:(W.setChan C0 0 #[] false k' k' false).heap.size=W.heap.size:=by simp[World.setChan]
 have hinj:∀ b,ω b=some C0→b=c:=fun b hb=>C.oinj _ _ _ hb (C.up _ _ hC);have hcc:∀ X,CC W X→CC (W.setChan C0 0 #[] false k' k' false) X:=fun X hX=>by
  by_cases e:X=C0
  ·subst e;exact .inr ⟨_,_,_,_,_,_,hself⟩
  ·unfold CC;rw[hne X e];exact hX
 have hno:∀ i s,S.role i=.seat s→¬ s.own c:=fun i s hs ho=>by rw[C.hole i s c hs ho] at hC;cases hC
 refine⟨F,C.size,C.view.keep (Nat.le_of_eq hsize.symm) rfl fun b B hb=>?_,C.oinj,fun b B hb=>by rw[hsize];exact C.odom b B hb,C.up,C.hole,C.down,fun x s hx hs=>?_,C.gone,fun x b hx hs=>?_,C.lv0,C.und1,fun c' hc'=>?_,C.seatch,C.dead,fun b hb=>?_,
  by rw[hsize];exact C.trace,C.above,fun b B hb hB=>?_,C.full,⟨C.low.os,C.low.tape,C.low.output,Nat.le_trans C.low.size (Nat.le_of_eq hsize.symm),fun B hB=>?_⟩,C.lowo⟩
 ·by_cases e:B=C0
  ·subst e
   obtain rfl:=hinj b (C.up _ _ hb);exact .inr ⟨F.chs b hc,.inr ⟨_,_,_,_,_,_,hself⟩⟩
  ·exact .inl (hne B e)
 ·obtain⟨G,p,ρp,g,h1,h2⟩:=C.seat x s hx hs
  refine⟨G,p,ρp,g,h1,h2.stays (fun _ _ h=>h) (fun _ _ h=>.inr h) (fun _ _ h _=>h) (fun _ _=>rfl) (Nat.le_of_eq hsize.symm) rfl (fun b B hb ho=>hne B fun e=>?_) hcc⟩;subst e;obtain rfl:=hinj b hb;rcases ho with ho | ho
  ·exact hno x s hs ho
  ·exact(F.lent x s b hs ho).2 (F.chs b hc)
 ·obtain⟨G,h1,h2⟩:=C.doner x b hx hs
  obtain⟨_,f2,_⟩:=F.donerg x b hs;refine⟨G,h1,h2.imp (fun⟨u,B,k1,k2,k3,k4⟩=>⟨u,B,k1,k2,k3.rely (RL.same (hne B fun e=>?_)),k4⟩) id⟩;subst e;obtain⟨B0,h5,h6⟩:=C.wgs b f2;rw[k1] at h5;cases h5;unfold WgAt Go.ConcR.wgBlock at h6;rw[hk] at h6;cases h6
 ·obtain⟨C1,k1,h1,h2⟩:=C.chs c' hc'
  by_cases e:C1=C0
  ·subst e;exact⟨C1,k',h1,hself⟩
  ·exact⟨C1,k1,h1,(hne C1 e).trans h2⟩
 ·obtain⟨B,h1,h2⟩:=C.wgs b hb
  refine⟨B,h1,h2.of_block (hne B fun e=>?_)⟩;subst e;unfold WgAt Go.ConcR.wgBlock at h2;rw[hk] at h2;cases h2
 ·obtain⟨C1,t1,FZ,h1,h2⟩:=C.fz b B hb hB
  refine⟨C1,t1,FZ,(hne B fun e=>?_).trans h1,h2⟩;subst e;rw[hk] at h1;cases h1
 ·refine(hne B fun e=>?_).trans (C.low.block B hB)
  subst e;have h1:=C.lowo c B (C.up _ _ hC) hB;have h2:=F.clow c hc;omega
def merge (w:World)(s:SeatS)(p:World):World:={w with heap:=w.heap.mapIdx fun b o=>if s.lo≤b∧b<s.hi then p.heap.getD b poison else o}
theorem merge_size {w:World}{s:SeatS}:(merge w s p).heap.size=w.heap.size:=by simp[merge]
theorem merge_not {w:World}{s:SeatS}{b:Nat}(h:¬ s.own b):(merge w s p).heap[b]?=w.heap[b]?:=by
 simp only[merge,Array.getElem?_mapIdx];cases w.heap[b]? with
 | none=>rfl
 | some o=>exact congrArg some (if_neg h)
theorem merge_own {w:World}{s:SeatS}{b:Nat}(h:s.own b)(hb:b<w.heap.size):(merge w s p).heap[b]?=some (p.heap.getD b poison):=by
 simp only[merge,Array.getElem?_mapIdx,as' hb,Option.map_some];exact congrArg some (if_pos h)
def joined (ρ ρp:Ren)(s:SeatS):Ren:=fun b=>if s.lo≤b∧b<s.hi then ρp b else ρ b
theorem joined_own {s:SeatS}{b:Nat}(h:s.own b):joined ρ ρp s b=ρp b:=if_pos h
theorem joined_not {s:SeatS}{b:Nat}(h:¬ s.own b):joined ρ ρp s b=ρ b:=if_neg h
def SC.give (S:SC)(h j:Nat)(s:SeatS)(r:Role)(p:World):SC :=
 { S with w:=merge S.w s p,role:=fun x=>if x=j then .none else if x=h then r else S.role x}
theorem give_j {s:SeatS}{r:Role}:(S.give h j s r p).role j=.none:=if_pos rfl
theorem give_h {s:SeatS}{r:Role}(hjh:j≠h):(S.give h j s r p).role h=r:=by
 show(if h=j then _ else if h=h then r else _)=r;rw[if_neg hjh.symm,if_pos rfl]
theorem give_x {s:SeatS}{r:Role}{x:Nat}(h1:x≠j)(h2:x≠h):(S.give h j s r p).role x=S.role x:=by
 show(if x=j then _ else if x=h then r else _)=_;rw[if_neg h1,if_neg h2]
structure GiverOk (P:Program)(ty:TypeId)(S:SC)(h j:Nat)(s:SeatS)(r:Role):Prop where
 seat:∀ s',r=.seat s'→s'.lo=s'.hi∧s'.hi≤S.w.heap.size∧S.chs s'.c∧(∀ b,s'.lent b→Stl S.w b∧S.w.heap[b]?≠some poison)∧∀ i s1,i≠j→S.role i=.seat s1→s1.c≠s'.c
 doner:∀ b,r=.doner b→S.grp h=some b∧S.wgs b∧0<h
 some:r≠.none
theorem Fair.give (F:Fair S){s:SeatS}{r:Role}(hj:S.role j=.seat s)(hh:S.role h=.none)(hjh:j≠h)(hn:h<S.n)(O:GiverOk P ty S h j s r)(hcho:∀ c,S.chs c→¬ s.own c):Fair (S.give h j s r p):=by
 have hw:∀ b,¬ s.own b→(merge S.w s p).heap[b]?=S.w.heap[b]?:=fun b hb=>merge_not hb;have hnp:∀ b,S.w.heap[b]?≠some poison→¬ s.own b:=fun b hb ho=>hb (F.ownp j s b hj ho);have cases:∀ {x s1},(S.give h j s r p).role x=.seat s1→(x=h∧r=.seat s1)∨(x≠h∧x≠j∧S.role x=.seat s1):=fun {x s1} hx=>by
  by_cases e1:x=j
  ·subst e1;rw[give_j] at hx;cases hx
  ·by_cases e2:x=h
   ·subst e2;rw[give_h hjh] at hx;exact .inl ⟨rfl,hx⟩
   ·rw[give_x e1 e2] at hx;exact .inr ⟨e2,e1,hx⟩
 have noown:∀ {s1 b},r=.seat s1→¬ s1.own b:=fun {s1 b} hr ho=>by
  have:=(O.seat s1 hr).1;have h1:=ho.1;have h2:=ho.2;omega
 refine⟨fun x s1 hx=>?_,fun x s1 b hx ho=>?_,fun x y s1 s2 b hx hy h1 h2=>?_,fun x s1 b hx hl=>?_,fun x y s1 s2 b hx hy hl ho=>?_,fun c hc=>?_,fun x y s1 s2 hx hy he=>?_,fun b hb=>?_,fun x s1 b hx ho=>?_,F.few,fun x b hx=>?_,fun x hx=>?_,
  fun b hb=>?_,fun b hb=>?_,F.n0le,fun x s1 b hx ho=>?_,F.wlow,F.clow⟩
 ·show s1.hi≤(merge S.w s p).heap.size
  rw[merge_size];rcases cases hx with⟨_,hr⟩ | ⟨_,_,hr⟩
  ·exact(O.seat s1 hr).2.1
  ·exact F.top x s1 hr
 ·rcases cases hx with⟨_,hr⟩ | ⟨_,e,hr⟩
  ·exact absurd ho (noown hr)
  ·show(merge S.w s p).heap[b]?=_
   rw[hw b fun ho'=>e (F.apart _ _ _ _ _ hr hj ho ho')];exact F.ownp x s1 b hr ho
 ·rcases cases hx with⟨_,hr⟩ | ⟨_,_,hr⟩
  ·exact absurd h1 (noown hr)
  ·rcases cases hy with⟨_,hr'⟩ | ⟨_,_,hr'⟩
   ·exact absurd h2 (noown hr')
   ·exact F.apart _ _ _ _ _ hr hr' h1 h2
 ·have key:Stl S.w b∧S.w.heap[b]?≠Option.some poison:=by
   rcases cases hx with⟨_,hr⟩ | ⟨_,_,hr⟩
   ·exact(O.seat s1 hr).2.2.2.1 b hl
   ·exact F.lent x s1 b hr hl
  have e:=hw b (hnp b key.2);exact⟨key.1.eq e,by show(merge S.w s p).heap[b]?≠_;rw[e];exact key.2⟩
 ·rcases cases hy with⟨_,hr'⟩ | ⟨_,_,hr'⟩
  ·exact noown hr' ho
  ·rcases cases hx with⟨_,hr⟩ | ⟨_,_,hr⟩
   ·exact((O.seat s1 hr).2.2.2.1 b hl).2 (F.ownp y s2 b hr' ho)
   ·exact F.lento _ _ _ _ _ hr hr' hl ho
 ·show(merge S.w s p).heap[c]?=_
  rw[hw c (hcho c hc)];exact F.chs c hc
 ·rcases cases hx with⟨hx',hr⟩ | ⟨hx',hxj,hr⟩<;>rcases cases hy with⟨hy',hr'⟩ | ⟨hy',hyj,hr'⟩
  ·rw[hx',hy']
  ·exact absurd he.symm ((O.seat s1 hr).2.2.2.2 y s2 hyj hr')
  ·exact absurd he ((O.seat s2 hr').2.2.2.2 x s1 hxj hr)
  ·exact F.seatinj _ _ _ _ hr hr' he
 ·show(merge S.w s p).heap[b]?=_
  rw[hw b fun ho=>F.wgo j s b hj ho hb];exact F.wgs b hb
 ·rcases cases hx with⟨_,hr⟩ | ⟨_,_,hr⟩
  ·exact absurd ho (noown hr)
  ·exact F.wgo x s1 b hr ho
 ·by_cases e1:x=j
  ·subst e1;rw[give_j] at hx;cases hx
  ·by_cases e2:x=h
   ·subst e2;rw[give_h hjh] at hx;exact O.doner b hx
   ·rw[give_x e1 e2] at hx;exact F.donerg x b hx
 ·by_cases e1:x=j
  ·subst e1;exact absurd give_j hx
  ·by_cases e2:x=h
   ·rw[e2];exact hn
   ·rw[give_x e1 e2] at hx;exact F.small x hx
 ·obtain⟨c,t,hc⟩:=F.fzs b hb
  exact⟨c,t,(hw b (hnp b (by rw[hc];simp[poison]))).trans hc⟩
 ·refine(F.low b hb).eq (hw b fun ho=>?_)
  have:=F.olow j s b hj ho;have hb':b<S.n0:=hb;omega
 ·rcases cases hx with⟨_,hr⟩ | ⟨_,_,hr⟩
  ·exact absurd ho (noown hr)
  ·exact F.olow x s1 b hr ho
end
section
variable {P:Program}{ty:TypeId}{S:SC}{K:Nat→Prop}{ρ ω σ ρp:Ren}{und:Nat→Bool}{T T':Trace}{gs gs':Array Goroutine}{W W' p:World}{q lv:Nat→Nat}{h j:Nat}
theorem seat_give {s:SeatS}{r:Role}(hjh:j≠h)(hh:S.role h=.none)(g:Nat):isSeat (S.give h j s r p) g↔(isSeat S g∧g≠j)∨(g=h∧∃ s',r=.seat s'):=by
 unfold isSeat;by_cases e1:g=j
 ·subst e1
  rw[give_j];constructor
  ·rintro⟨_,h⟩;cases h
  ·rintro(⟨_,h⟩ | ⟨h,_⟩)
   ·exact absurd rfl h
   ·exact absurd h hjh
 ·by_cases e2:g=h
  ·subst e2
   rw[give_h hjh,hh];constructor
   ·rintro⟨s',h⟩;exact .inr ⟨rfl,s',h⟩
   ·rintro(⟨⟨_,h⟩,_⟩ | ⟨_,s',h⟩)
    ·cases h
    ·exact⟨s',h⟩
  ·rw[give_x e1 e2]
   constructor
   ·exact fun h=>.inl ⟨h,e1⟩
   ·rintro(⟨h,_⟩ | ⟨h,_⟩)
    ·exact h
    ·exact absurd h e2
theorem hand_trace (F:Fair S)(A:Apart (isSeat S) (LentG S ω) (OwnG S ω) (ShunG S ω) W.heap.size)(oinj:∀ b c B,ω b=some B→ω c=some B→b=c){Hear:Nat→Prop}
  (H:TP (isSeat S) (isDoner S) (fun x=>isSeat S x∨x=h) (LentG S ω) (OwnG S ω) (ShunG S ω) W.heap.size (Knows T h) T) {s:SeatS} {r:Role} (hh:S.role h=.none) (hjh:j≠h) (O:GiverOk P ty S h j s r)
  (hT:∀ i a,touchAt T' i=some a→touchAt T i=some a) (hK:∀ i,Knows T h i→Knows T' h i) (hd:∀ x,Deaf T' x=Deaf T x) (hm:∀ x,Hear x→isSeat S x∨x=h)
  (H':TP (fun g=>isSeat S g∧g≠j) (isDoner S) (fun x=>isSeat S x∨x=h) (LentG S ω) (OwnG S ω) (ShunG S ω) W.heap.size K T') :
  TP (isSeat (S.give h j s r p)) (isDoner (S.give h j s r p)) (fun x=>isSeat (S.give h j s r p) x∨Hear x) (LentG (S.give h j s r p) ω) (OwnG (S.give h j s r p) ω) (ShunG (S.give h j s r p) ω) W.heap.size K T':=by
 have hns:¬ isSeat S h:=fun⟨s1,h1⟩=>by rw[hh] at h1;cases h1
 have hmem:∀ g,isSeat (S.give h j s r p) g∨Hear g→Deaf T' g=0:=fun g hg=>by
  rw[hd];refine H.hears g ?_;rcases hg with hg | hg
  ·rcases (seat_give hjh hh g).1 hg with⟨h1,_⟩ | ⟨h1,_⟩
   ·exact .inl h1
   ·exact .inr h1
  ·exact hm g hg
 have hL:∀ g x,isSeat S g∧g≠j→(LentG (S.give h j s r p) ω g x↔LentG S ω g x):=fun g x ⟨hg,hgj⟩=>by
  have e:g≠h:=fun e=>hns (e▸hg);unfold LentG;rw[give_x hgj e]
 have hO:∀ g x,isSeat S g∧g≠j→(OwnG (S.give h j s r p) ω g x↔OwnG S ω g x):=fun g x ⟨hg,hgj⟩=>by
  have e:g≠h:=fun e=>hns (e▸hg);unfold OwnG;rw[give_x hgj e]
 have hD:∀ g,isDoner (S.give h j s r p) g→isDoner S g∨(g=h∧∃ b,r=.doner b):=fun g ⟨b,hb⟩=>by
  by_cases e1:g=j
  ·subst e1;rw[give_j] at hb;cases hb
  ·by_cases e2:g=h
   ·subst e2;rw[give_h hjh] at hb;exact .inr ⟨rfl,b,hb⟩
   ·rw[give_x e1 e2] at hb;exact .inl ⟨b,hb⟩
 cases hr:r with
 | none=>exact absurd hr O.some
 | seat s' =>
  subst hr;obtain⟨o1,o2,o3,o4,o5⟩:=O.seat s' rfl;have kw:=TP.knowsW (L:=fun x=>∃ b,s'.lent b∧ω b=some x) H (fun g x hg ⟨s1,b,h1,h2,h3⟩ ⟨b',h4,h5⟩=>by
   obtain rfl:=oinj _ _ _ h3 h5;exact(o4 b h4).2 (F.ownp g s1 b h1 h2)) (fun x ⟨b,h1,h2⟩ ⟨b',h3,h4⟩=>by
   obtain rfl:=oinj _ _ _ h2 h4;exact(o4 b h1).2 (F.wgs b h3))
  have h1:=TP.sit (h:=h) (L:=fun x=>∃ b,s'.lent b∧ω b=some x) H' (fun i a x ha hw hx hL=>hK i (kw i a x (hT i a ha) hw hx hL)) (fun z=>hns z.1);refine h1.alike (fun g=>?_) (fun g hg=>?_) hmem (fun g x hg=>?_) (fun g x hg=>?_) fun x=>Iff.rfl
  ·rw[seat_give hjh hh]
   constructor
   ·rintro(h | ⟨h,_⟩)
    ·exact .inl h
    ·exact .inr h
   ·rintro(h | h)
    ·exact .inl h
    ·exact .inr ⟨h,s',rfl⟩
  ·rcases hD g hg with h | ⟨_,b,h⟩
   ·exact h
   ·cases h
  ·by_cases e:g=h
   ·subst e
    rw[if_pos rfl];unfold LentG;rw[give_h hjh];constructor
    ·rintro⟨s1,b,h1,h2,h3⟩;cases h1;exact⟨b,h2,h3⟩
    ·rintro⟨b,h2,h3⟩;exact⟨s',b,rfl,h2,h3⟩
   ·rw[if_neg e]
    exact hL g x (hg.resolve_right e)
  ·by_cases e:g=h
   ·subst e
    rw[if_pos rfl];refine iff_of_false ?_ id;rintro⟨s1,b,h1,h2,h3⟩;rw[give_h hjh] at h1;cases h1;have a:=h2.1;have b:=h2.2;omega
   ·rw[if_neg e]
    exact hO g x (hg.resolve_right e)
 | doner b =>
  subst hr;have kp:=TP.knowsP H A;have h1:=TP.goD (h:=h) H' fun i a x ha hp hx hS=>hK i (kp i a x (hT i a ha) hp hx hS);refine h1.alike (fun g=>?_) (fun g hg=>?_) hmem hL hO fun x=>Iff.rfl
  ·rw[seat_give hjh hh]
   constructor
   ·rintro(h | ⟨_,_,h⟩)
    ·exact h
    ·cases h
   ·exact fun h=>.inl h
  ·rcases hD g hg with h | ⟨h,_⟩
   ·exact .inl h
   ·exact .inr h
theorem Base.hand {Hear':Nat→Prop}{K':Nat→Prop}(C:Base P ty S (·=h) (fun _=>False) (·=h) (Knows T h) ρ ω und T gs W q lv){s:SeatS}{r:Role}(hh:S.role h=.none)(hj:S.role j=.seat s)(hjh:j≠h)(hn:h<S.n){G g:Goroutine}{n:Nat}(hS:Seated P j s ω ρ S.w W n G p ρp g)
  (O:GiverOk P ty S h j s r) {H':Goroutine} {n' l':Nat} (hseat:∀ s',r=.seat s'→∃ p' g',Seated P h s' ω ρ S.w W n' H' p' ρ g') (hl0:(∀ b,r≠.doner b)→l'=0)
  (hdon:∀ b,r=.doner b→∃ B,ρ b=some B∧3<l'∧l'≠4∧DonerAt P ty B l' n' H' W) (hsz:gs'.size=gs.size) (hself:gs'[h]?=some H') (hget:∀ x,x≠h→x≠j→gs'[x]?=gs[x]?)
  (hd:∀ x,Deaf T' x=Deaf T x) (ht:TP (isSeat (S.give h j s r p)) (isDoner (S.give h j s r p)) (fun x=>isSeat (S.give h j s r p) x∨Hear' x) (LentG (S.give h j s r p) ω) (OwnG (S.give h j s r p) ω) (ShunG (S.give h j s r p) ω) W.heap.size K' T') :
  Base P ty (S.give h j s r p) (·=j) (fun _=>False) Hear' K' (joined ρ ρp s) ω und T' gs' W (upd q h n') (upd lv h l'):=by
 have F:=C.fair;have hcho:∀ c,S.chs c→¬ s.own c:=fun c hc ho=>by
  obtain⟨C1,k,h1,_⟩:=C.chs c hc;rw[C.hole j s c hj ho] at h1;cases h1
 have hρn:∀ b B,ρ b=some B→¬ s.own b:=fun b B hb ho=>by rw[C.hole j s b hj ho] at hb;cases hb
 have hρj:ρ.le (joined ρ ρp s):=fun b B hb=>by rw[joined_not (hρn b B hb)];exact hb
 have hpj:ρp.le (joined ρ ρp s):=fun b B hb=>by
  by_cases ho:s.own b
  ·rw[joined_own ho];exact hb
  ·rw[joined_not ho];exact(hS.sub b B hb).resolve_right ho
 have hjω:(joined ρ ρp s).le ω:=fun b B hb=>by
  by_cases ho:s.own b
  ·rw[joined_own ho] at hb;exact hS.le _ _ hb
  ·rw[joined_not ho] at hb;exact C.up _ _ hb
 have hnp:∀ b,S.w.heap[b]?≠some poison→¬ s.own b:=fun b hb ho=>hb (F.ownp j s b hj ho);have hlt:∀ b,s.own b→b<S.w.heap.size:=fun b ho=>nl' ho.2 (F.top j s hj);have cases:∀ {x s1},(S.give h j s r p).role x=.seat s1→(x=h∧r=.seat s1)∨(x≠h∧x≠j∧S.role x=.seat s1):=fun {x s1} hx=>by
  by_cases e1:x=j
  ·subst e1;rw[give_j] at hx;cases hx
  ·by_cases e2:x=h
   ·subst e2;rw[give_h hjh] at hx;exact .inl ⟨rfl,hx⟩
   ·rw[give_x e1 e2] at hx;exact .inr ⟨e2,e1,hx⟩
 have noown:∀ {s1 b},r=.seat s1→¬ s1.own b:=fun {s1 b} hr ho=>by
  have:=(O.seat s1 hr).1;have h1:=ho.1;have h2:=ho.2;omega
 have stay:∀ {x s1 n1 G1 p1 ρ1 g1},(∀ b,s1.lent b→S.w.heap[b]?≠some poison)→Seated P x s1 ω ρ S.w W n1 G1 p1 ρ1 g1→Seated P x s1 ω (joined ρ ρp s) (merge S.w s p) W n1 G1 p1 ρ1 g1:=fun hl h1 =>
  h1.stays (fun _ _ h=>h) (fun b B hb=>.inr (hρj b B hb)) (fun _ _ h _=>h) (fun b hb=>merge_not (hnp b (hl b hb))) (Nat.le_refl _) rfl (fun _ _ _ _=>rfl) fun _ h=>h
 have und_h:und h=true:=C.und1 h fun b=>by rw[hh];simp
 refine⟨F.give hj hh hjh hn O hcho,hsz.trans C.size,⟨fun b B hb=>?_,fun b c B hb hc=>C.oinj _ _ _ (hjω _ _ hb) (hjω _ _ hc),fun b B hb=>?_,fun _ _=>rfl,WRel.os (w:=re S.w W.tape W.drawn) C.view,⟨by show GN≤(merge S.w s p).heap.size;rw[merge_size];exact C.view.low.1,C.view.low.2.1,fun b B hb=>(Classical.em (s.own b)).elim (fun ho=>hS.view.low.2.2 b B (by rw[joined_own ho] at hb;exact hb)) (fun ho=>C.view.low.2.2 b B (by rw[joined_not ho] at hb;exact hb))⟩⟩,C.oinj,fun b B hb=>?_,hjω,fun x s1 b hx ho=>?_,fun b B hb=>?_,
  fun x s1 hx hs1=>?_,fun x hx hr hlx=>?_,fun x b hx hr=>?_,fun x hx=>?_,fun x hx=>?_,fun c hc=>?_,fun x s1 _ hx=>?_,fun x _ _ hD=>hD.elim,fun b hb=>?_,ht,fun x hx=>(hd x).trans (C.above x hx),fun b B hb hB=>?_,fun b o ho hn=>?_,C.low,C.lowo⟩
 ·show b<(merge S.w s p).heap.size∧_
  rw[merge_size];exact C.odom b B (hjω _ _ hb)
 ·by_cases ho:s.own b
  ·rw[joined_own ho] at hb
   obtain⟨o,O',h1,h2,h3⟩:=hS.view.obj b B hb;refine⟨o,O',?_,h2,h3.mono hpj⟩;show(merge S.w s p).heap[b]?=_;have hbp:=lt_of_heap h1;rw[merge_own ho (hlt b ho),gd',h1];rfl
  ·rw[joined_not ho] at hb
   obtain⟨o,O',h1,h2,h3⟩:=C.view.obj b B hb;refine⟨o,O',?_,h2,h3.mono hρj⟩;show(merge S.w s p).heap[b]?=_;rw[merge_not ho];exact h1
 ·show b<(merge S.w s p).heap.size∧_
  rw[merge_size];exact C.odom b B hb
 ·rcases cases hx with⟨_,hr⟩ | ⟨_,e,hr⟩
  ·exact absurd ho (noown hr)
  ·rw[joined_not fun ho'=>e (F.apart _ _ _ _ _ hr hj ho ho')]
   exact C.hole x s1 b hr ho
 ·rcases C.down b B hb with k | ⟨x,s1,k1,k2⟩
  ·exact .inl (hρj _ _ k)
  ·by_cases e:x=j
   ·subst e
    rw[hj] at k1;cases k1;exact .inl (by rw[joined_own k2];exact hS.all b B hb k2)
   ·have e2:x≠h:=fun e=>by rw[e,hh] at k1;cases k1
    exact .inr ⟨x,s1,by rw[give_x e e2];exact k1,k2⟩
 ·rcases cases hs1 with⟨rfl,hr⟩ | ⟨e2,e1,hr⟩
  ·obtain⟨p',g',h1⟩:=hseat s1 hr
   exact⟨H',p',ρ,g',hself,by rw[upd_same];exact stay (fun b hb=>((O.seat s1 hr).2.2.2.1 b hb).2) h1⟩
  ·obtain⟨G1,p1,ρ1,g1,h1,h2⟩:=C.seat x s1 e2 hr
   exact⟨G1,p1,ρ1,g1,by rw[hget x e2 e1];exact h1,by rw[upd_ne q n' e2];exact stay (fun b hb=>(F.lent x s1 b hr hb).2) h2⟩
 ·have e2:x≠h:=fun e=>by rw[e,give_h hjh] at hr;exact O.some hr
  rw[give_x hx e2] at hr;obtain⟨h0,G1,h1,h2⟩:=C.gone x e2 hr hlx;exact⟨h0,G1,by rw[hget x e2 hx];exact h1,by rw[upd_ne q n' e2,hd];exact h2⟩
 ·by_cases e2:x=h
  ·subst e2
   rw[give_h hjh] at hr;obtain⟨B,h1,h2,h3,h4⟩:=hdon b hr;refine⟨H',hself,.inl ⟨und_h,B,hρj _ _ h1,by rw[upd_same];exact h2,by rw[upd_same,upd_same];exact h4,?_⟩⟩;rw[upd_same,if_neg h3,hd];exact C.trace.hears x (.inr rfl)
  ·rw[give_x hx e2] at hr
   obtain⟨G1,h1,h2⟩:=C.doner x b e2 hr;refine⟨G1,by rw[hget x e2 hx];exact h1,?_⟩;rw[upd_ne q n' e2,upd_ne lv l' e2,hd];exact h2.imp (fun⟨u,B,k1,k⟩=>⟨u,B,hρj _ _ k1,k⟩) id
 ·by_cases e2:x=h
  ·subst e2
   rw[upd_same];exact hl0 fun b hb=>hx b (by rw[give_h hjh];exact hb)
  ·rw[upd_ne lv l' e2]
   refine C.lv0 x fun b hb=>?_;by_cases e1:x=j
   ·subst e1;rw[hj] at hb;cases hb
   ·exact hx b (by rw[give_x e1 e2];exact hb)
 ·by_cases e2:x=h
  ·subst e2;exact und_h
  ·refine C.und1 x fun b hb=>?_
   by_cases e1:x=j
   ·subst e1;rw[hj] at hb;cases hb
   ·exact hx b (by rw[give_x e1 e2];exact hb)
 ·obtain⟨C1,k,h1,h2⟩:=C.chs c hc
  exact⟨C1,k,hρj _ _ h1,h2⟩
 ·rcases cases hx with⟨_,hr⟩ | ⟨_,_,hr⟩
  ·exact(O.seat s1 hr).2.2.1
  ·exact C.seatch x s1 id hr
 ·obtain⟨B,h1,h2⟩:=C.wgs b hb
  exact⟨B,hρj _ _ h1,h2⟩
 ·obtain⟨c,t,hc⟩:=F.fzs b hb
  rw[joined_not (hnp b (by rw[hc];simp[poison]))] at hB;exact C.fz b B hb hB
 ·by_cases ho':s.own b
  ·rw[joined_own ho']
   have ho2:(merge S.w s p).heap[b]?=some o:=ho;rw[merge_own ho' (hlt b ho'),gd'] at ho2;cases e:p.heap[b]? with
   | none =>
    rw[e] at ho2;simp only[Option.getD_none,Option.some.injEq] at ho2;exact absurd ho2.symm hn
   | some o' =>
    rw[e] at ho2;simp only[Option.getD_some,Option.some.injEq] at ho2;subst ho2;exact hS.full b o' ho' e hn
  ·rw[joined_not ho']
   have ho2:(merge S.w s p).heap[b]?=some o:=ho;rw[merge_not ho'] at ho2;exact C.full b o ho2 hn
end
def only (L:Nat→Prop)(w:World):World:={w with heap:=w.heap.mapIdx fun b o=>open Classical in if L b then o else poison}
theorem only_size {L:Nat→Prop}{w:World}:(only L w).heap.size=w.heap.size:=by simp[only]
theorem only_in {L:Nat→Prop}{w:World}{b:Nat}(h:L b):(only L w).heap[b]?=w.heap[b]?:=by
 simp only[only,Array.getElem?_mapIdx];cases w.heap[b]? with
 | none=>rfl
 | some o=>exact congrArg some (if_pos h)
theorem only_out {L:Nat→Prop}{w:World}{b:Nat}(h:¬ L b)(hb:b<w.heap.size):(only L w).heap[b]?=some poison:=by
 simp only[only,Array.getElem?_mapIdx,as' hb,Option.map_some];exact congrArg some (if_neg h)
def Less3 (a b:(Nat × Nat) × Nat):Prop:=Less a.1 b.1∨(a.1=b.1∧a.2<b.2)
theorem Less3.wf:WellFounded Less3:=by
 refine⟨fun⟨a,b⟩=>?_⟩
 induction a using Less.wf.induction generalizing b with
 | _ a iha =>
  induction b using Nat.strongRecOn with
  | _ b ihb =>
   refine⟨_,fun⟨c,d⟩ h=>?_⟩;rcases h with h | ⟨h,h'⟩
   ·exact iha c h d
   ·simp only at h h'
    subst h;exact ihb d h'
section
variable {P:Program}{ty:TypeId}{Post:Value→World→Prop}{S:SC}{Sp Dead Hear:Nat→Prop}{K:Nat→Prop}{ρ ω σ ρp:Ren}{und:Nat→Bool}{T t:Trace}{gs gs':Array Goroutine}{W W' p:World}{q lv:Nat→Nat}{h j:Nat}{g G:Goroutine}
theorem GRel.served (hg:GRel ρ g G){v V:Value}(hv:VRel ρ v V):GRel ρ (Conc.served g v) (Conc.served G V):=⟨hg.frame.finish ρ.le_refl hv,hg.callers,rfl,hg.dying⟩
theorem recvd_rel {v V:Value}(hv:VRel ρ v V)(f:Bool):VRel ρ (recvd f v true) (recvd f V true):=by
 cases f
 ·exact hv
 ·exact VRel.tuple' ((ARel.one hv).push (.flat rfl))
theorem Base.noRecv (C:Base P ty S Sp Dead Hear K ρ ω und T gs W q lv){x:Nat}{y:Goroutine}(hx:¬ Sp x)(hy:gs[x]?=some y){c:Nat}(hc:∀ s,S.role x=.seat s→ω s.c≠some c):offersAt y c false=[]:=by
 have hn:x<S.n:=C.size▸(aq' hy).1;have hrun:(y.status=.running∨y.status=.finished)→offersAt y c false=[]:=fun h=>offersAt_of_not_blocked (fun hb=>by rcases h with z | z<;>rw[z] at hb<;>cases hb) c false;cases e:S.role x with
 | none =>
  obtain⟨_,G,h1,h2⟩:=C.gone x hx e hn;rw[hy] at h1;cases h1;exact hrun h2.status
 | seat s =>
  obtain⟨G,p,ρp,g,h1,h2⟩:=C.seat x s hx e;rw[hy] at h1;cases h1;rcases h2.way with⟨k,_,h3,h4⟩ | ⟨_,G0,c',h5,rfl,_⟩
  ·exact hrun (.inl (h3.status.symm.trans h4.runs))
  ·rw[offersAt_parked_recv,if_neg]
   intro e';subst e';exact hc s e (h2.le _ _ h5)
 | doner b =>
  obtain⟨G,h1,h2⟩:=C.doner x b hx e;rw[hy] at h1;cases h1;rcases h2 with⟨_,B,_,_,h3,_⟩ | ⟨_,_,h3⟩
  ·exact hrun (.inl h3.running)
  ·exact hrun h3.status
theorem sit_seated (C:Base P ty S Sp Dead Hear K ρ ω und T gs W q lv){s':SeatS}(h1:s'.lo=s'.hi)(h2:s'.hi=S.w.heap.size)(h3:S.chs s'.c)(hnum:∀ b a l,S.w.heap[b]?=some (.number a l)→s'.lent b){n:Nat}{G g:Goroutine}(hg:GRel ρ g G)
  (hw:WalkS P (h==0) s' n g (only s'.lent S.w)):Seated P h s' ω ρ S.w W (n+1) G (only s'.lent S.w) ρ g:=by
 have hno:∀ b,¬ s'.own b:=fun b ho=>by
  have:=ho.1;have:=ho.2;omega
 refine⟨⟨fun b B hb=>?_,C.view.inj,fun b B hb=>?_,fun _ _=>rfl,WRel.os (w:=re S.w W.tape W.drawn) C.view,C.view.low.le (by show _≤(only s'.lent S.w).heap.size;rw[only_size];exact Nat.le_refl _) (Nat.le_refl _)⟩,C.up,fun b B hb=>.inl hb,fun b B hb ho=>absurd ho (hno b),fun b B hb=>?_,?_,fun b o ho=>absurd ho (hno b),?_,?_,.inl ⟨n,rfl,hg,hw⟩⟩
 ·show b<(only s'.lent S.w).heap.size∧_
  rw[only_size];exact C.view.dom b B hb
 ·obtain⟨o,O,k1,k2,k3⟩:=C.view.obj b B hb
  by_cases e:s'.lent b
  ·exact⟨o,O,by show(only s'.lent S.w).heap[b]?=_;rw[only_in e];exact k1,k2,k3⟩
  ·refine⟨poison,O,by show(only s'.lent S.w).heap[b]?=_;exact only_out e (C.view.dom b B hb).1,k2,?_⟩
   cases k3 with
   | cells _ _=>exact .hidC
   | chan=>exact .hidH
   | number _=>exact absurd (hnum b _ _ k1) e
   | hidC=>exact .hidC
   | hidH=>exact .hidH
 ·by_cases e:s'.lent b
  ·exact .inr (.inr ⟨e,only_in e⟩)
  ·exact .inl (only_out e (C.view.dom b B hb).1)
 ·obtain⟨C1,k,k1,_⟩:=C.chs _ h3
  exact⟨C1,k1⟩
 ·rw[only_size];omega
 ·rw[only_size];omega
theorem meet_comes (C:Base P ty S (·=h) (fun _=>False) (·=h) (Knows t h) ρ ω und t gs W q lv){s:SeatS}{r:Role}{v V:Value}{C0 k n:Nat}{Gj G2 gj:Goroutine}(hh:S.role h=.none)(hj:S.role j=.seat s)(hjh:j≠h)(hn:h<S.n)
  (hS:Seated P j s ω ρ S.w W n Gj p ρp gj) (hat:AtRecv P (j==0) s gj p) {G0:Goroutine} (hG0:GRel ρp gj G0) (hg:GRel ρ g G2) (hv:VRel ρ v V) (hC0:ρ s.c=some C0) (hk:W.heap[C0]?=some (.chan 0 #[] false k k false))
  (O:GiverOk P ty S h j s r) (hseat:∀ s',r=.seat s'→s'.hi=S.w.heap.size∧(∀ b a l,S.w.heap[b]?=some (.number a l)→s'.lent b)∧∃ n,WalkS P (h==0) s' n (Conc.served g undef) (only s'.lent S.w))
  (hdon:∀ b,r=.doner b→∀ ρ W B G,GRel ρ (Conc.served g undef) G→ρ b=some B→WgLive ty B W→∃ n,DonerAt P ty B 6 n G W)
  (hnext:∀ g2 p2,s.At g2 p2→Sound P ty Post j (S.give h j s r p2) (Conc.served g2 (recvd s.ok v true)))
  (hsz:gs'.size=gs.size) (hselfh:gs'[h]?=some (Conc.served G2 undef)) (hselfj:gs'[j]?=some (Conc.served G0 (recvd s.ok V true))) (hget:∀ x,x≠h→x≠j→gs'[x]?=gs[x]?) (fh:FuncId) (ph:String) (fj:FuncId) (pj:String) (sl:Option (Nat × Nat)) :
  Comes P Post (crowd gs' (W.setChan C0 0 #[] false (k+1) (k+1) false) sl) (t++met h j fh ph fj pj C0 k 0):=by
 have hchs:S.chs s.c:=C.seatch j s id hj;have C1:=C.chan (k':=k+1) hchs hC0 hk;have F:=C.fair;have hsize:(W.setChan C0 0 #[] false (k+1) (k+1) false).heap.size=W.heap.size:=by simp[World.setChan]
 have hne:∀ X,X≠C0→(W.setChan C0 0 #[] false (k+1) (k+1) false).heap[X]?=W.heap[X]?:=fun X hX=>heap_setChan_ne _ _ _ _ _ _ _ hX.symm;have hself:(W.setChan C0 0 #[] false (k+1) (k+1) false).heap[C0]?=some (.chan 0 #[] false (k+1) (k+1) false):=heap_setChan_self _ hk _ _ _ _ _ _;have hS1:Seated P j s ω ρ S.w (W.setChan C0 0 #[] false (k+1) (k+1) false) n Gj p ρp gj:=by
  refine hS.stays (fun _ _ h=>h) (fun _ _ h=>.inr h) (fun _ _ h _=>h) (fun _ _=>rfl) (Nat.le_of_eq hsize.symm) rfl (fun b B hb ho=>hne B fun e=>?_) fun X hX=>?_
  ·subst e
   obtain rfl:=C.oinj _ _ _ hb (C.up _ _ hC0);rcases ho with ho | ho
   ·rw[C.hole j s _ hj ho] at hC0;cases hC0
   ·exact(F.lent j s _ hj ho).2 (F.chs _ hchs)
  ·by_cases e:X=C0
   ·subst e;exact .inr ⟨_,_,_,_,_,_,hself⟩
   ·unfold CC;rw[hne X e];exact hX
 have hd:∀ x,Deaf (t++met h j fh ph fj pj C0 k 0) x=Deaf t x:=fun x=>Deaf_quiet (met_quiet _ _ _ _ _ _ _ _ _ x);have hgs:GRel ρ (Conc.served g undef) (Conc.served G2 undef):=hg.served (VRel.tuple' ARel.nil);have hT:∀ i a,touchAt (t++met h j fh ph fj pj C0 k 0) i=some a→touchAt t i=some a:=fun i a ha=>by
  obtain⟨op,hx,hxa⟩:=touch_of ha;rcases getElem?_append_cases hx with⟨hi,hx'⟩ | ⟨_,hxu⟩
  ·rw[touchAt_of hx'];exact hxa
  ·rw[met_mute _ _ _ _ _ _ _ _ _ op hxu] at hxa;cases hxa
 have htr:=hand_trace (p:=p) (Hear:=(·=j)) C1.fair C1.apartG C1.oinj C1.trace hh hjh O hT (fun i hk=>hk.app _) hd (fun x hx=>.inl (hx▸⟨s,hj⟩))
  (C1.trace.give (.inr rfl) (.inl ⟨s,hj⟩) fh ph fj pj k 0 (by rw[hsize];exact(C.odom _ _ (C.up _ _ hC0)).2))
 obtain⟨n',l',hgv⟩:∃ n' l',(∀ s',r=.seat s'→∃ p' g',Seated P h s' ω ρ S.w (W.setChan C0 0 #[] false (k+1) (k+1) false) n' (Conc.served G2 undef) p' ρ g')∧((∀ b,r≠.doner b)→l'=0) ∧
   ∀ b,r=.doner b→∃ B,ρ b=some B∧3<l'∧l'≠4∧DonerAt P ty B l' n' (Conc.served G2 undef) (W.setChan C0 0 #[] false (k+1) (k+1) false):=by
  cases hr:r with
  | none=>exact absurd hr O.some
  | seat s' =>
   obtain⟨o1,o2,o3,o4,o5⟩:=O.seat s' hr;obtain⟨w1,w2,n,w3⟩:=hseat s' hr;exact⟨n+1,0,fun s1 e=>(by cases e;exact⟨_,_,sit_seated C1 o1 w1 o3 w2 hgs w3⟩),fun _=>rfl,fun b e=>(by cases e)⟩
  | doner b =>
   obtain⟨o1,o2,o3⟩:=O.doner b hr;obtain⟨B,k1,k2⟩:=C1.wgs b o2;obtain⟨n,hn⟩:=hdon b hr _ _ B _ hgs k1 ⟨_,_,k2⟩;exact⟨n,6,fun s1 e=>(by cases e),fun e=>absurd rfl (e b),fun b' e=>(by cases e;exact⟨B,k1,by decide,by decide,hn⟩)⟩
 have C2:=C1.hand hh hj hjh hn hS1 O hgv.1 hgv.2.1 hgv.2.2 hsz hselfh hget hd htr;have hpj:ρp.le (joined ρ ρp s):=fun b B hb=>by
  by_cases ho:s.own b
  ·rw[joined_own ho];exact hb
  ·rw[joined_not ho];exact(hS.sub b B hb).resolve_right ho
 have hρj:ρ.le (joined ρ ρp s):=fun b B hb=>by
  rw[joined_not (fun ho=>by rw[C.hole j s b hj ho] at hb;cases hb)];exact hb
 exact hnext gj p hat.home _ _ _ _ _ _ sl _ _ _ ⟨C2,hselfj,(hG0.mono hpj).served (recvd_rel (hv.mono hρj) s.ok),rfl,give_j⟩
end
section
variable {P:Program}{ty:TypeId}{Post:Value→World→Prop}{S:SC}{Sp Dead Hear:Nat→Prop}{K:Nat→Prop}{ρ ω σ ρp:Ren}{und:Nat→Bool}{T t:Trace}{gs gs':Array Goroutine}{W W' p:World}{q lv:Nat→Nat}{h j:Nat}{g G:Goroutine}
theorem sim_send (hP:Fits P)(hv:View ρ p W){g G:Goroutine}{m:Bool}(hg:GRel ρ g G){c:Nat}{v z:Value}(hok:g.frame.mode=.run→okHd P g.frame.eval g.frame.todo)
  (hst:∀ τ d,∃ es,stepG P m g (re p τ d)=.comm g #[scase c v z] true .send (re p τ d) es) :
  ∃ σ G2 C V W1 ES,stepG P m G W=.comm G2 #[scase C V z] true .send W1 ES∧σ c=some C∧VRel σ v V∧GRel σ g G2∧Acts ρ σ p p W W1 ES:=by
 obtain⟨es,e⟩:=hst W.tape W.drawn;obtain⟨σ,G2,c',C,W1,ES,h1,h2,h3,_,h4,h5⟩:=(step_sim (M:=m) hP hv hg (.inl rfl) (fun⟨_,e,e'⟩=>hok (e.trans e'))).comm _ _ _ _ _ _ e;have hc:c'=scase c v z:=by
  have:=congrArg (fun a:Array CommCase=>a[0]?) h3;simpa using this.symm
 subst hc;obtain⟨k1,k2,k3⟩:=h4;obtain⟨ch,sd,ze⟩:=C;simp only[scase] at k1 k2 k3;cases k1 with
 | flat h=>cases h
 | chan hC =>
  cases sd with
  | none=>exact k2.elim
  | some V =>
   subst k3;have A:=Acts.of hv h5;exact⟨σ,G2,_,V,W1,ES,h1,hC,k2,h2,⟨(A.view.re p.tape p.drawn:View σ p W1),A.le,A.size,A.vsize,A.os,A.free,A.still,A.vis,A.kind,A.newb,A.full,A.tape,A.output,A.evs⟩⟩
theorem sound_give (hP:Fits P){s:SeatS}{r:Role}{v z:Value}(hok:g.frame.mode=.run→okHd P g.frame.eval g.frame.todo)(hj:S.role j=.seat s)(hjh:j≠h)
  (hst:∀ τ d,∃ es,stepG P (h==0) g (re S.w τ d)=.comm g #[scase s.c v z] true .send (re S.w τ d) es)
  (O:GiverOk P ty S h j s r) (hseat:∀ s',r=.seat s'→s'.hi=S.w.heap.size∧(∀ b a l,S.w.heap[b]?=some (.number a l)→s'.lent b)∧∃ n,WalkS P (h==0) s' n (Conc.served g undef) (only s'.lent S.w))
  (hdon:∀ b,r=.doner b→∀ ρ W B G,GRel ρ (Conc.served g undef) G→ρ b=some B→WgLive ty B W→∃ n,DonerAt P ty B 6 n G W)
  (hnext:∀ g2 p2,s.At g2 p2→Sound P ty Post j (S.give h j s r p2) (Conc.served g2 (recvd s.ok v true))):Sound P ty Post h S g:=by
 intro ρ ω und T gs W sl q lv G R;refine comes_wf Less3.wf (fun a m t=>∃ ρ ω und gs W sl q lv X,m=crowd gs W sl∧Base P ty S (·=h) (fun _=>False) (·=h) (Knows t h) ρ ω und t gs W q lv∧gs[h]?=some X∧S.role h=.none ∧
  ((GRel ρ g X∧X.status=.running∧a=(meas S q lv,1))∨(∃ G2 C V,X=parked G2 #[scase C V z] .send∧ρ s.c=some C∧GRel ρ g G2∧VRel ρ v V∧0<q j∧a=(meas S q lv,0)))) ?_ (meas S q lv,1) _ T
  ⟨ρ,ω,und,gs,W,sl,q,lv,G,rfl,R.base,R.recd,R.role,.inl ⟨R.rel,R.run,rfl⟩⟩
 clear R;rintro a m t ⟨ρ,ω,und,gs,W,sl,q,lv,X,rfl,C,hX,hr,hst'⟩;have hlth:h<gs.size:=(aq' hX).1;have hn:h<S.n:=C.size▸hlth;have hjn:j<S.n:=C.fair.small j (by rw[hj];simp);have hltj:j<gs.size:=C.size▸hjn;rcases hst' with⟨hg,hrun,rfl⟩ | ⟨G2,C0,V,rfl,hC0,hg2,hv,hq,rfl⟩
 ·
  have R:Ring P ty h S g ρ ω und t gs W q lv X:=⟨C,hX,hg,hrun,hr⟩;obtain⟨i,Y,d,sl',hi,hY,hstep⟩:=crowd_pick (P:=P) (w:=W) (sl:=sl) R.awake ⟨h,X,hX,hrun⟩;by_cases e:i=h
  ·subst e
   rw[hX] at hi;cases hi;obtain⟨σ,G2,C0,V,W1,ES,hcom,hC0,hv,hg2,A⟩:=sim_send hP (C.at d).view hg hok hst;have C1:=(C.at d).own0 A X.frame.fn X.frame.place;obtain⟨C0',k,h1,h2⟩:=C1.chs _ (C1.seatch j s id hj);obtain rfl:C0'=C0:=by rw[hC0] at h1;exact(oj' h1).symm
   obtain⟨Gj,p,ρp,gj,h3,hS⟩:=C1.seat j s hjh hj;have hoff:∀ (x:Nat) (y:Goroutine),x≠j→(gs.setIfInBounds i ph)[x]?=some y→offersAt y C0' false=[]:=by
    intro x y hxj hy;rcases getElem?_stand gs i x y hy with⟨_,rfl⟩ | ⟨hx,hy'⟩
    ·exact offersAt_ph _ _
    ·refine C1.noRecv hx hy' fun s1 hs1 he=>hxj ?_
     have:s1.c=s.c:=C1.oinj _ _ _ he (C1.up _ _ h1);exact C.fair.seatinj _ _ _ _ hs1 hj this
   rcases hS.way with⟨kk,hqk,hgj,hwj⟩ | ⟨hq0,G0,C2,hC2,rfl,hG0,hat⟩
   ·
    right;have hjr:Gj.status=.running:=hgj.status.symm.trans hwj.runs;have hw:∀ cc∈#[scase C0' V z],NoWays W1 (gs.setIfInBounds i ph) cc:=by
     intro cc hcc;simp only[List.mem_toArray,List.mem_cons,List.not_mem_nil,or_false] at hcc;subst hcc;refine ways_send_none h2 (Nat.le_refl _) (partners_nil fun x y hy=>?_);by_cases hxj:x=j
     ·subst hxj
      rw[stand_get hjh h3] at hy;cases hy;exact offersAt_of_not_blocked (by rw[hjr];simp) _ _
     ·exact hoff x y hxj hy
    refine⟨_,_,(meas S q lv,0),hstep.trans (crowd_waits (sl:=sl') hX hcom hw),.inr ⟨rfl,Nat.zero_lt_one⟩,σ,onward S.w ω σ,und,gs.setIfInBounds i (parked G2 #[scase C0' V z] .send),W1,sl',q,lv,_,rfl,?_,Array.getElem?_setIfInBounds_self_of_lt hlth,hr,.inr ⟨G2,C0',V,rfl,h1,hg2,hv,by omega,rfl⟩⟩;have hget:∀ x,x≠i→(gs.setIfInBounds i (parked G2 #[scase C0' V z] .send))[x]?=gs[x]?:=fun x hx=>ar' fun e=>hx e.symm;exact⟨C1.fair,by simpa using C1.size,C1.view,C1.oinj,C1.odom,C1.up,C1.hole,C1.down,fun x s1 hx h=>by rw[hget x hx];exact C1.seat x s1 hx h,fun x hx h h'=>by rw[hget x hx];exact C1.gone x hx h h',fun x b hx h=>by rw[hget x hx];exact C1.doner x b hx h,
     C1.lv0,C1.und1,C1.chs,C1.seatch,fun _ _ _ hD=>hD.elim,C1.wgs,C1.trace,C1.above,C1.fz,C1.full,C1.low,C1.lowo⟩
   ·
    left;obtain rfl:C2=C0':=by
     have:=hS.le _ _ hC2;rw[C1.up _ _ h1] at this;exact(oj' this).symm
    have hp:partners (gs.setIfInBounds i ph) C2 false=[(j,0)]:=by
     rw[partners_one (stand_get hjh h3) fun x y hxj hy=>hoff x y hxj hy,offersAt_parked_recv,if_pos rfl];rfl
    refine Comes.next (hstep.trans (crowd_send_meets (sl:=sl') hX hcom h2 hjh h3 hp)) ?_;rw[← Array.append_assoc];refine meet_comes C1 (gs':=(gs.setIfInBounds j _).setIfInBounds i _) hr hj hjh hn hS hat hG0 hg2 hv h1 h2 O hseat hdon hnext (by simp) (Array.getElem?_setIfInBounds_self_of_lt (by simpa using hlth))
     (by rw[ar' hjh.symm,Array.getElem?_setIfInBounds_self_of_lt hltj,finishComm_recv]) (fun x hx hxj=>by rw[ar' (fun z=>hx z.symm),ar' (fun z=>hxj z.symm)]) _ _ _ _ sl'
  ·right
   obtain⟨gs',W',ops,q',lv',und',ω',h1,h2,h3⟩:=(R.at d).by hP hi e hY sl'
   exact⟨_,ops,(meas S q' lv',1),hstep.trans h1,.inl h3,ρ,ω',und',gs',W',sl',q',lv',X,rfl,h2.base,h2.recd,h2.role,.inl ⟨h2.rel,h2.run,rfl⟩⟩
 ·
  obtain⟨Gj,pj,ρj,gj,hGj,hSj⟩:=C.seat j s hjh hj;have hjr:Gj.status=.running:=(hSj.status.resolve_right fun⟨_,h⟩=>by omega).1;have haw:∀ x∈gs,awake x:=by
   intro x hx;obtain⟨i,hi,rfl⟩:=Array.mem_iff_getElem.1 hx;by_cases e:i=h
   ·subst e
    have:gs[i]=parked G2 #[scase C0 V z] .send:=by simpa[as' hi] using hX
    rw[this];exact awake_of (.inr (.inl rfl))
   ·exact C.awake1 e (as' hi)
  obtain⟨i,Y,d,sl',hi,hY,hstep⟩:=crowd_pick (P:=P) (w:=W) (sl:=sl) haw ⟨j,Gj,hGj,hjr⟩;have Cd:=C.at d;have hih:i≠h:=fun e=>by subst e;rw[hX] at hi;cases hi;cases hY
  have hsteady:∀ x gx,x=h→gs[x]?=some gx→Steady S ρ gx:=fun x gx hx hgx=>by
   subst hx;rw[hX] at hgx;cases hgx;exact .inr (.inr ⟨G2,s.c,C0,V,z,C.seatch j s id hj,hC0,rfl⟩)
  by_cases hm:i=j∧∃ p ρp g',Seated P i s ω ρ S.w (W.at d) (q i) Y p ρp g'∧AtRecv P (i==0) s g' p
  ·
   left;obtain⟨rfl,p,ρp,g',hS,hat⟩:=hm;obtain⟨k,hk,hg',hw'⟩:∃ k,q i=k+1∧GRel ρp g' Y∧WalkS P (i==0) s k g' p:=by
    rcases hS.way with h | ⟨_,G0,C1,_,rfl,_⟩
    ·exact h
    ·cases hY
   obtain⟨σ,G3,C1,W1,ES,hcom,hC1,hg3,A⟩:=sim_recv hP hS.view hg' hat;have C2:=Cd.actS (fn:=Y.frame.fn) (pos:=Y.frame.place) (gs':=gs.setIfInBounds i G3) (K':=Knows (t++MemOp.ofEvents i Y.frame.fn Y.frame.place ES) h) hih hj hi hS A hS.top (fun x=>Knows.app _) (.inl ⟨0,rfl,hg3,hat⟩) (by simp)
    (Array.getElem?_setIfInBounds_self_of_lt hltj) (fun x hx=>ar' fun e=>hx e.symm) (fun hD=>hD.elim)
   obtain⟨G4,p4,ρ4,g4,h4,hS4⟩:=C2.seat i s hih hj;rw[Array.getElem?_setIfInBounds_self_of_lt hltj] at h4;cases h4;obtain⟨C5,k5,h5,h6⟩:=C2.chs _ (C2.seatch i s id hj);obtain rfl:C5=C0:=by rw[hC0] at h5;exact(oj' h5).symm
   have hC15:C1=C5:=by
    have hle:inward s ω σ s.c=some C1:=by
     by_cases ho:s.own s.c
     ·rw[inward_own ho];exact hC1
     ·rw[inward_not ho]
      rcases A.newb _ _ hC1 with k | ⟨k,_⟩
      ·exact hS.le _ _ k
      ·exact absurd ⟨Nat.le_trans hS.bot k,nl' (A.view.dom _ _ hC1).1 hS.top⟩ ho
    rw[C2.up _ _ h5] at hle;exact(oj' hle).symm
   subst hC15;have hp:partners (gs.setIfInBounds i ph) C1 true=[(h,0)]:=by
    rw[partners_one (stand_get hjh.symm hX) fun x y hxh hy=>by
     rcases getElem?_stand gs i x y hy with⟨_,rfl⟩ | ⟨_,hy'⟩
     ·exact offersAt_ph _ _
     ·exact Cd.noSend hxh hy' _]
    simp[offersAt_parked_send]
   refine Comes.next (hstep.trans (crowd_recv_meets (sl:=sl') hi hcom h6 hjh.symm hX hp)) ?_;rw[← Array.append_assoc];have hS5:Seated P i s (inward s ω σ) ρ S.w W1 1 G3 p σ g'∧AtRecv P (i==0) s g' p:=⟨by
    refine⟨A.view,fun b B hb=>?_,fun b B hb=>?_,fun b B hb ho=>by rw[inward_own ho] at hb;exact hb,fun b B hb=>?_,hS.chan.imp fun _ h=>A.le _ _ h,fun b o ho hb hn=>(hS.full b o ho hb hn).imp fun B x=>A.le _ _ x,hS.bot,hS.top,.inl ⟨0,rfl,hg3,hat⟩⟩
    ·by_cases ho:s.own b
     ·rw[inward_own ho];exact hb
     ·rw[inward_not ho]
      rcases A.newb _ _ hb with k | ⟨k,_⟩
      ·exact hS.le _ _ k
      ·exact absurd ⟨Nat.le_trans hS.bot k,nl' (A.view.dom _ _ hb).1 hS.top⟩ ho
    ·rcases A.newb _ _ hb with k | ⟨k,_⟩
     ·exact hS.sub _ _ k
     ·exact .inr ⟨Nat.le_trans hS.bot k,nl' (A.view.dom _ _ hb).1 hS.top⟩
    ·rcases A.newb _ _ hb with k | ⟨k,_⟩
     ·exact hS.keep _ _ k
     ·exact .inr (.inl ⟨Nat.le_trans hS.bot k,nl' (A.view.dom _ _ hb).1 hS.top⟩),hat⟩
   refine meet_comes C2 (gs':=(gs.setIfInBounds h _).setIfInBounds i _) hr hj hjh hn hS5.1 hS5.2 hg3 hg2 hv h5 h6 O hseat hdon hnext (by simp) (by rw[ar' hjh,Array.getElem?_setIfInBounds_self_of_lt hlth,finishComm_send])
    (by rw[Array.getElem?_setIfInBounds_self_of_lt (by simpa using hltj),finishComm_recv]) (fun x hx hxj=>by rw[ar' (fun z=>hxj z.symm),ar' (fun z=>hx z.symm),ar' (fun z=>hxj z.symm)]) _ _ _ _ sl'
  ·right
   obtain⟨gs',W',ops,q',lv',und',ω',h1,h2,h3,h4,h5,h6,h7⟩:=Cd.by_step (sl:=sl') (Kf:=fun t=>Knows t h) hP (fun t u x=>Knows.app u) hi hih hY (fun x hx=>hx) (fun hD=>hD.elim) hsteady
    (fun s1 p ρp g' hs1 hS hat=>⟨fun hD=>hD,fun x gx c hx hgx hc=>by
     subst hx;rw[hX] at hgx;cases hgx;rw[offersAt_parked_send,if_neg];intro e;subst e;have he:s1.c=s.c:=C.oinj _ _ _ hc (C.up _ _ hC0);have hij:=C.fair.seatinj _ _ _ _ hs1 hj he;subst hij;rw[hj] at hs1;cases hs1;exact hm ⟨rfl,p,ρp,g',hS,hat⟩⟩)
   refine⟨_,ops,(meas S q' lv',0),hstep.trans h1,.inl h7,ρ,ω',und',gs',W',sl',q',lv',_,rfl,h6,by rw[h3 h hih.symm];exact hX,hr,.inr ⟨G2,C0,V,rfl,hC0,hg2,hv,?_,rfl⟩⟩;by_cases e:i=j
   ·subst e
    rcases Nat.eq_zero_or_pos (q' i) with z | z
    ·obtain⟨p,ρp,g',hS,hat⟩:=h5 s hj z
     exact absurd ⟨rfl,p,ρp,g',hS,hat⟩ hm
    ·exact z
   ·rw[h4 j (Ne.symm e)];exact hq
end
def SC.shut (S:SC)(h:Nat)(s s':SeatS):SC:={S with role:=fun x=>if x=h then .seat s' else S.role x,chs:=fun c=>S.chs c∧c≠s.c}
def SC.take (S:SC)(j:Nat)(s:SeatS)(p:World):SC:={S with w:=merge S.w s p,role:=fun x=>if x=j then .none else S.role x}
section
variable {P:Program}{ty:TypeId}{Post:Value→World→Prop}{S:SC}{Sp Dead Hear:Nat→Prop}{K:Nat→Prop}{ρ ω σ ρp:Ren}{und:Nat→Bool}{T t:Trace}{gs gs':Array Goroutine}{W W' p:World}{q lv:Nat→Nat}{h j:Nat}{g G:Goroutine}{s s':SeatS}
theorem shut_h:(S.shut h s s').role h=.seat s':=if_pos rfl
theorem shut_x {x:Nat}(hx:x≠h):(S.shut h s s').role x=S.role x:=if_neg hx
theorem take_j:(S.take j s p).role j=.none:=if_pos rfl
theorem take_x {x:Nat}(hx:x≠j):(S.take j s p).role x=S.role x:=if_neg hx
structure ShutOk (S:SC)(s s':SeatS):Prop where
 flat:s'.lo=s'.hi
 hi:s'.hi=S.w.heap.size
 chs:S.chs s'.c
 ne:s'.c≠s.c
 lent:∀ b,s'.lent b→Stl S.w b∧S.w.heap[b]?≠some poison
 num:∀ b a l,S.w.heap[b]?=some (.number a l)→s'.lent b
 inj:∀ i s1,S.role i=.seat s1→s1.c≠s'.c
theorem ShutOk.noown (O:ShutOk S s s'){b:Nat}:¬ s'.own b:=fun ho=>by
 have:=O.flat;have:=ho.1;have:=ho.2;omega
theorem Fair.shut (F:Fair S)(hn:h<S.n)(hh:S.role h=.none)(O:ShutOk S s s'):Fair (S.shut h s s'):=by
 have cases:∀ {x s1},(S.shut h s s').role x=.seat s1→(x=h∧s1=s')∨(x≠h∧S.role x=.seat s1):=fun {x s1} hx=>by
  by_cases e:x=h
  ·subst e;rw[shut_h] at hx;cases hx;exact .inl ⟨rfl,rfl⟩
  ·rw[shut_x e] at hx;exact .inr ⟨e,hx⟩
 refine⟨fun x s1 hx=>?_,fun x s1 b hx ho=>?_,fun x y s1 s2 b hx hy h1 h2=>?_,fun x s1 b hx hl=>?_,fun x y s1 s2 b hx hy hl ho=>?_,fun c hc=>F.chs c hc.1,fun x y s1 s2 hx hy he=>?_,F.wgs,fun x s1 b hx ho=>?_,F.few,fun x b hx=>?_,fun x hx=>?_,
  F.fzs,F.low,F.n0le,fun x s1 b hx ho=>?_,F.wlow,fun c hc=>F.clow c hc.1⟩
 ·rcases cases hx with⟨_,rfl⟩ | ⟨_,hr⟩
  ·exact Nat.le_of_eq O.hi
  ·exact F.top x s1 hr
 ·rcases cases hx with⟨_,rfl⟩ | ⟨_,hr⟩
  ·exact absurd ho O.noown
  ·exact F.ownp x s1 b hr ho
 ·rcases cases hx with⟨_,rfl⟩ | ⟨_,hr⟩
  ·exact absurd h1 O.noown
  ·rcases cases hy with⟨_,rfl⟩ | ⟨_,hr'⟩
   ·exact absurd h2 O.noown
   ·exact F.apart _ _ _ _ _ hr hr' h1 h2
 ·rcases cases hx with⟨_,rfl⟩ | ⟨_,hr⟩
  ·exact O.lent b hl
  ·exact F.lent x s1 b hr hl
 ·rcases cases hy with⟨_,rfl⟩ | ⟨_,hr'⟩
  ·exact O.noown ho
  ·rcases cases hx with⟨_,rfl⟩ | ⟨_,hr⟩
   ·exact(O.lent b hl).2 (F.ownp y s2 b hr' ho)
   ·exact F.lento _ _ _ _ _ hr hr' hl ho
 ·rcases cases hx with⟨hx',rfl⟩ | ⟨hx',hr⟩<;>rcases cases hy with⟨hy',rfl⟩ | ⟨hy',hr'⟩
  ·rw[hx',hy']
  ·exact absurd he.symm (O.inj y s2 hr')
  ·exact absurd he (O.inj x s1 hr)
  ·exact F.seatinj _ _ _ _ hr hr' he
 ·rcases cases hx with⟨_,rfl⟩ | ⟨_,hr⟩
  ·exact absurd ho O.noown
  ·exact F.wgo x s1 b hr ho
 ·by_cases e:x=h
  ·subst e;rw[shut_h] at hx;cases hx
  ·rw[shut_x e] at hx;exact F.donerg x b hx
 ·by_cases e:x=h
  ·rw[e];exact hn
  ·rw[shut_x e] at hx;exact F.small x hx
 ·rcases cases hx with⟨_,rfl⟩ | ⟨_,hr⟩
  ·exact absurd ho O.noown
  ·exact F.olow x s1 b hr ho
theorem close_deaf {C0:Nat}:∀ e∈closeEvents C0,e.loc≠.mark .disable∧e.loc≠.mark .enable:=by
 intro e he;simp only[closeEvents,List.mem_toArray,List.mem_cons,List.not_mem_nil,or_false] at he;rcases he with rfl | rfl<;>exact⟨by simp,by simp⟩
theorem Base.shut (C:Base P ty S (·=h) (fun _=>False) (·=h) (Knows T h) ρ ω und T gs W q lv)(hh:S.role h=.none)(hj:S.role j=.seat s)(hjh:j≠h)(hn:h<S.n){C0 k n:Nat}(hC0:ρ s.c=some C0)(hk:W.heap[C0]?=some (.chan 0 #[] false k k false))
  (O:ShutOk S s s') {G G' g':Goroutine} (hG:gs[h]?=some G) (hg':GRel ρ g' G') (hrun':G'.status=.running) (hmw:mayWake P G=true) (hw:WalkS P (h==0) s' n g' (only s'.lent S.w)) (fn:FuncId) (pos:String) :
  ∃ q',Base P ty (S.shut h s s') (fun _=>False) (·=j) (fun _=>False) (fun i=>Before (T++MemOp.ofEvents h fn pos (closeEvents C0)) i (T.size+1)) ρ ω und (T++MemOp.ofEvents h fn pos (closeEvents C0))
   ((gs.map (woken P G G' (W.setChan C0 0 #[] true k k false))).setIfInBounds h G') (W.setChan C0 0 #[] true k k false) q' lv∧ClosedAt C0 (T.size+1) (T++MemOp.ofEvents h fn pos (closeEvents C0)):=by
 have F:=C.fair;have hchs:S.chs s.c:=C.seatch j s id hj;have hlt:=lt_of_heap hk;have hlth:h<gs.size:=(aq' hG).1;have hne:∀ X,X≠C0→(W.setChan C0 0 #[] true k k false).heap[X]?=W.heap[X]?:=fun X hX=>heap_setChan_ne _ _ _ _ _ _ _ hX.symm;have hself:(W.setChan C0 0 #[] true k k false).heap[C0]?=some (.chan 0 #[] true k k false):=heap_setChan_self _ hk _ _ _ _ _ _;have hsize:(W.setChan C0 0 #[] true k k false).heap.size=W.heap.size:=by simp[World.setChan]
 have hinj:∀ b,ω b=some C0→b=s.c:=fun b hb=>C.oinj _ _ _ hb (C.up _ _ hC0);have hcc:∀ X,CC W X→CC (W.setChan C0 0 #[] true k k false) X:=fun X hX=>by
  by_cases e:X=C0
  ·subst e;exact .inr ⟨_,_,_,_,_,_,hself⟩
  ·unfold CC;rw[hne X e];exact hX
 have hno:∀ i s1,S.role i=.seat s1→¬ s1.own s.c:=fun i s1 hs ho=>by rw[C.hole i s1 _ hs ho] at hC0;cases hC0
 have hop:=ops_g (j:=h) (fn:=fn) (pos:=pos) (es:=closeEvents C0);have hdh:Deaf (T++MemOp.ofEvents h fn pos (closeEvents C0)) h=Deaf T h:=by rw[Deaf_own];exact deafBehind_still close_deaf _
 have hd:∀ x,Deaf (T++MemOp.ofEvents h fn pos (closeEvents C0)) x=Deaf T x:=fun x=>by
  by_cases e:x=h
  ·subst e;exact hdh
  ·exact Deaf_other T (fun z=>e z.symm) _ hop
 have hstay:∀ {x s1 n1 G1 p1 ρ1 g1},S.role x=.seat s1→Seated P x s1 ω ρ S.w W n1 G1 p1 ρ1 g1→Seated P x s1 ω ρ S.w (W.setChan C0 0 #[] true k k false) n1 G1 p1 ρ1 g1:=fun hx h1 =>
  h1.stays (fun _ _ h=>h) (fun _ _ h=>.inr h) (fun _ _ h _=>h) (fun _ _=>rfl) (Nat.le_of_eq hsize.symm) rfl (fun b B hb ho=>hne B fun e=>by
   subst e;obtain rfl:=hinj b hb;rcases ho with ho | ho
   ·exact hno _ _ hx ho
   ·exact(F.lent _ _ _ hx ho).2 (F.chs _ hchs)) hcc
 have hview:View ρ S.w (W.setChan C0 0 #[] true k k false):=C.view.keep (Nat.le_of_eq hsize.symm) rfl fun b B hb=>by
  by_cases e:B=C0
  ·subst e
   obtain rfl:=hinj b (C.up _ _ hb);exact .inr ⟨F.chs _ hchs,.inr ⟨_,_,_,_,_,_,hself⟩⟩
  ·exact .inl (hne B e)
 have hoth:∀ x y,x≠h→x≠j→gs[x]?=some y→y.again (W.setChan C0 0 #[] true k k false)=y:=by
  intro x y hx hxj hy;have hxn:x<S.n:=C.size▸(aq' hy).1;cases e:S.role x with
  | none =>
   obtain⟨_,G1,h1,h2⟩:=C.gone x hx e hxn;rw[hy] at h1;cases h1;exact again_running _ h2.status
  | seat s1 =>
   obtain⟨G1,p1,ρ1,g1,h1,h2⟩:=C.seat x s1 hx e;rw[hy] at h1;cases h1;refine(hstay e h2).again fun c hc=>?_;obtain⟨c',k',h3,h4⟩:=C.chs _ (C.seatch x s1 id e);rw[C.up _ _ h3] at hc;cases hc;refine⟨k',(hne c fun e'=>hxj ?_).trans h4⟩;subst e';exact F.seatinj _ _ _ _ e hj (hinj _ (C.up _ _ h3))
  | doner b =>
   obtain⟨G1,h1,h2⟩:=C.doner x b hx e;rw[hy] at h1;cases h1;rcases h2 with⟨_,B,_,_,h3,_⟩ | ⟨_,_,h3⟩
   ·exact again_running _ (.inl h3.running)
   ·exact again_running _ h3.status
 have hwk:∀ y,woken P G G' (W.setChan C0 0 #[] true k k false) y=y.again (W.setChan C0 0 #[] true k k false):=fun y=>by
  unfold woken;rw[if_pos (by rw[hmw,hrun'];rfl)]
 have hget:∀ x,x≠h→x≠j→((gs.map (woken P G G' (W.setChan C0 0 #[] true k k false))).setIfInBounds h G')[x]?=gs[x]?:=fun x hx hxj=>by
  rw[ar' (fun e=>hx e.symm),Array.getElem?_map];cases e:gs[x]? with
  | none=>rfl
  | some y=>simp only[Option.map_some];rw[hwk,hoth x y hx hxj e]
 have hgeth:((gs.map (woken P G G' (W.setChan C0 0 #[] true k k false))).setIfInBounds h G')[h]?=some G':=Array.getElem?_setIfInBounds_self_of_lt (by simpa using hlth);obtain⟨Gj,pj,ρj,gj,hGj,hSj⟩:=C.seat j s hjh hj;have hgetj:((gs.map (woken P G G' (W.setChan C0 0 #[] true k k false))).setIfInBounds h G')[j]?=some (Gj.again (W.setChan C0 0 #[] true k k false)):=by
  rw[ar' (fun e=>hjh e.symm),Array.getElem?_map,hGj];simp only[Option.map_some];rw[hwk]
 obtain⟨nj,hSj',hjr⟩:∃ nj,Seated P j s ω ρ S.w (W.setChan C0 0 #[] true k k false) nj (Gj.again (W.setChan C0 0 #[] true k k false)) pj ρj gj∧(Gj.again (W.setChan C0 0 #[] true k k false)).status=.running:=by
  have h1:=hstay hj hSj;rcases hSj.way with⟨kk,hq,hg1,hw1⟩ | ⟨hq,G0,C1,hC1,rfl,hG0,hat⟩
  ·have hr:Gj.status=.running:=hg1.status.symm.trans hw1.runs
   rw[again_running _ (.inl hr)];exact⟨_,h1,hr⟩
  ·obtain rfl:C1=C0:=by
    have:=hSj.le _ _ hC1;rw[C.up _ _ hC0] at this;exact(oj' this).symm
   rw[again_recv_closed hself];exact⟨1,⟨h1.view,h1.le,h1.sub,h1.all,h1.keep,h1.chan,h1.full,h1.bot,h1.top,.inl ⟨0,rfl,⟨hG0.frame,hG0.callers,hat.runs,hG0.dying⟩,hat⟩⟩,rfl⟩
 have hnsh:¬ isSeat S h:=fun⟨s1,h1⟩=>by rw[hh] at h1;cases h1
 have cases:∀ {x s1},(S.shut h s s').role x=.seat s1→(x=h∧s1=s')∨(x≠h∧S.role x=.seat s1):=fun {x s1} hx=>by
  by_cases e:x=h
  ·subst e;rw[shut_h] at hx;cases hx;exact .inl ⟨rfl,rfl⟩
  ·rw[shut_x e] at hx;exact .inr ⟨e,hx⟩
 have hCl:=(C.odom _ _ (C.up _ _ hC0)).2;have hact:(T++MemOp.ofEvents h fn pos (closeEvents C0))[T.size+1]?=some { g:=h,fn:=fn,pos:=pos,act:=.close C0}:=by rw[closeOps];simp
 have hsz:T.size+1+1=(T++MemOp.ofEvents h fn pos (closeEvents C0)).size:=by rw[closeOps];simp
 have t1:=C.trace.appH (B':=W.heap.size) (Nat.le_refl _) hop (fun op hop' x hx=>by
  obtain⟨e,he,rfl⟩:=Go.Conc.mem_ofEvents hop';simp only[closeEvents,List.mem_toArray,List.mem_cons,List.not_mem_nil,or_false] at he;rcases he with rfl | rfl
  ·obtain rfl:=touch_obj hx
   refine⟨fun g y _ hy ⟨s1,b,k1,k2,k3⟩=>?_,fun _ _ _ _ _=>rfl,fun _ _ _=>by simp,fun _ _ hw=>by cases hw⟩;cases hy;obtain rfl:=hinj b k3;exact hno _ _ k1 k2
  ·cases hx) (fun _=>hdh) (fun op hop'=>by
  obtain⟨e,he,rfl⟩:=Go.Conc.mem_ofEvents hop';simp only[closeEvents,List.mem_toArray,List.mem_cons,List.not_mem_nil,or_false] at he;rcases he with rfl | rfl<;>exact hCl)
 have t2:=TP.toC t1 hact rfl hsz;have kw:=TP.knowsW (L:=fun x=>∃ b,s'.lent b∧ω b=some x) t1 (fun g x hg ⟨s1,b,h1,h2,h3⟩ ⟨b',h4,h5⟩=>by
   obtain rfl:=C.oinj _ _ _ h3 h5;exact(O.lent b h4).2 (F.ownp g s1 b h1 h2)) (fun x ⟨b,h1,h2⟩ ⟨b',h3,h4⟩=>by
   obtain rfl:=C.oinj _ _ _ h2 h4;exact(O.lent b h1).2 (F.wgs b h3))
 have t3:=TP.sit (h:=h) (L:=fun x=>∃ b,s'.lent b∧ω b=some x) t2 kw hnsh;have seatI:∀ g,isSeat (S.shut h s s') g↔isSeat S g∨g=h:=fun g=>by
  unfold isSeat;by_cases e:g=h
  ·subst e
   rw[shut_h];exact⟨fun _=>.inr rfl,fun _=>⟨s',rfl⟩⟩
  ·rw[shut_x e]
   exact⟨.inl,fun h=>h.resolve_right e⟩
 have t4:TP (isSeat (S.shut h s s')) (isDoner (S.shut h s s')) (fun x=>isSeat (S.shut h s s') x∨False) (LentG (S.shut h s s') ω) (OwnG (S.shut h s s') ω) (ShunG (S.shut h s s') ω) W.heap.size (fun i=>Before (T++MemOp.ofEvents h fn pos (closeEvents C0)) i (T.size+1)) (T++MemOp.ofEvents h fn pos (closeEvents C0)):=by
  refine t3.alike seatI (fun g ⟨b,hb⟩=>?_) (fun g hg=>?_) (fun g x hg=>?_) (fun g x hg=>?_) fun _=>Iff.rfl
  ·by_cases e:g=h
   ·subst e;rw[shut_h] at hb;cases hb
   ·rw[shut_x e] at hb;exact⟨b,hb⟩
  ·rw[hd]
   rcases (seatI g).1 (hg.resolve_right id) with h1 | h1
   ·exact C.trace.hears g (.inl h1)
   ·exact C.trace.hears g (.inr h1)
  ·by_cases e:g=h
   ·subst e
    rw[if_pos rfl];unfold LentG;rw[shut_h];constructor
    ·rintro⟨s1,b,h1,h2,h3⟩;cases h1;exact⟨b,h2,h3⟩
    ·rintro⟨b,h2,h3⟩;exact⟨s',b,rfl,h2,h3⟩
   ·rw[if_neg e]
    unfold LentG;rw[shut_x e]
  ·by_cases e:g=h
   ·subst e
    rw[if_pos rfl];refine iff_of_false ?_ id;rintro⟨s1,b,h1,h2,h3⟩;rw[shut_h] at h1;cases h1;exact O.noown h2
   ·rw[if_neg e]
    unfold OwnG;rw[shut_x e]
 refine⟨upd (upd q j nj) h (n+1),⟨F.shut hn hh O,by rw[Array.size_setIfInBounds,Array.size_map];exact C.size,hview,C.oinj,fun b B hb=>by rw[hsize];exact C.odom b B hb,C.up,fun x s1 b hx ho=>?_,fun b B hb=>?_,fun x s1 _ hx=>?_,fun x _ hr hlx=>?_,fun x b _ hr=>?_,fun x hx=>?_,fun x hx=>?_,fun c hc=>?_,
  fun x s1 hD hx=>?_,fun x G1 _ hD hG1=>?_,fun b hb=>?_,by rw[hsize];exact t4,fun x hx=>(hd x).trans (C.above x hx),fun b B hb hB=>?_,C.full,⟨C.low.os,C.low.tape,C.low.output,Nat.le_trans C.low.size (Nat.le_of_eq hsize.symm),fun B hB=>?_⟩,C.lowo⟩,?_⟩
 ·rcases cases hx with⟨_,rfl⟩ | ⟨_,hr⟩
  ·exact absurd ho O.noown
  ·exact C.hole x s1 b hr ho
 ·refine(C.down b B hb).imp id fun⟨x,s1,k1,k2⟩=>⟨x,s1,?_,k2⟩
  rw[shut_x fun e=>by rw[e,hh] at k1;cases k1];exact k1
 ·rcases cases hx with⟨rfl,rfl⟩ | ⟨e,hr⟩
  ·have C':View ρ S.w (W.setChan C0 0 #[] true k k false):=hview
   refine⟨G',only s1.lent S.w,ρ,g',hgeth,?_⟩;rw[upd_same];have h0:=sit_seated (h:=x) (n:=n) C O.flat O.hi O.chs O.num hg' hw;refine h0.stays (fun _ _ h=>h) (fun _ _ h=>.inr h) (fun _ _ h _=>h) (fun _ _=>rfl) (Nat.le_of_eq hsize.symm) rfl (fun b B hb ho=>hne B fun e=>?_) hcc;subst e;obtain rfl:=hinj b hb;rcases ho with ho | ho
   ·exact O.noown ho
   ·exact(O.lent _ ho).2 (F.chs _ hchs)
  ·by_cases ej:x=j
   ·subst ej
    rw[hj] at hr;cases hr;exact⟨_,pj,ρj,gj,hgetj,by rw[upd_ne _ _ e,upd_same];exact hSj'⟩
   ·obtain⟨G1,p1,ρ1,g1,h1,h2⟩:=C.seat x s1 e hr
    exact⟨G1,p1,ρ1,g1,by rw[hget x e ej];exact h1,by rw[upd_ne _ _ e,upd_ne _ _ ej];exact hstay hr h2⟩
 ·have e:x≠h:=fun e=>by rw[e,shut_h] at hr;cases hr
  rw[shut_x e] at hr;have ej:x≠j:=fun e=>by rw[e,hj] at hr;cases hr
  obtain⟨h0,G1,h1,h2⟩:=C.gone x e hr hlx;exact⟨h0,G1,by rw[hget x e ej];exact h1,by rw[upd_ne _ _ e,upd_ne _ _ ej,hd];exact h2⟩
 ·have e:x≠h:=fun e=>by rw[e,shut_h] at hr;cases hr
  rw[shut_x e] at hr;have ej:x≠j:=fun e=>by rw[e,hj] at hr;cases hr
  obtain⟨G1,h1,h2⟩:=C.doner x b e hr;obtain⟨_,f2,_⟩:=F.donerg x b hr;refine⟨G1,by rw[hget x e ej];exact h1,?_⟩;rw[upd_ne _ _ e,upd_ne _ _ ej,hd];refine h2.imp (fun⟨u,B,k1,k2,k3,k4⟩=>⟨u,B,k1,k2,k3.rely (RL.same (hne B fun e=>?_)),k4⟩) id;subst e;obtain⟨B0,h5,h6⟩:=C.wgs b f2;rw[k1] at h5;cases h5;unfold WgAt Go.ConcR.wgBlock at h6;rw[hk] at h6;cases h6
 ·refine C.lv0 x fun b hb=>hx b ?_
  rw[shut_x fun e=>by rw[e,hh] at hb;cases hb];exact hb
 ·refine C.und1 x fun b hb=>hx b ?_
  rw[shut_x fun e=>by rw[e,hh] at hb;cases hb];exact hb
 ·obtain⟨C1,k1,h1,h2⟩:=C.chs c hc.1
  refine⟨C1,k1,h1,(hne C1 fun e=>hc.2 ?_).trans h2⟩;subst e;exact hinj _ (C.up _ _ h1)
 ·rcases cases hx with⟨rfl,rfl⟩ | ⟨e,hr⟩
  ·exact⟨O.chs,O.ne⟩
  ·exact⟨C.seatch x s1 id hr,fun e'=>hD (F.seatinj _ _ _ _ hr hj e')⟩
 ·rw[hD,hgetj] at hG1
  cases hG1;exact hjr
 ·obtain⟨B,h1,h2⟩:=C.wgs b hb
  refine⟨B,h1,h2.of_block (hne B fun e=>?_)⟩;subst e;unfold WgAt Go.ConcR.wgBlock at h2;rw[hk] at h2;cases h2
 ·obtain⟨C1,t1,FZ,h1,h2⟩:=C.fz b B hb hB
  refine⟨C1,t1,FZ,(hne B fun e=>?_).trans h1,h2⟩;subst e;rw[hk] at h1;cases h1
 ·refine(hne B fun e=>?_).trans (C.low.block B hB)
  subst e;have h1:=C.lowo _ B (C.up _ _ hC0) hB;have h2:=F.clow _ hchs;omega
 ·refine⟨act?_of hact,h,g?_of hact,?_⟩
  have:=deaf_inside T h fn pos (closeEvents C0) 1 (by simp[closeEvents]);rw[this,C.trace.hears h (.inr rfl)];exact deafBehind_still (fun e he=>close_deaf e (by
   have h:=Array.mem_toList_iff.2 he;rw[Array.toList_extract,List.extract_eq_take_drop] at h;exact Array.mem_toList_iff.1 (List.mem_of_mem_drop (List.mem_of_mem_take h)))) _
end
section
variable {P:Program}{ty:TypeId}{Post:Value→World→Prop}{S:SC}{Sp Dead Hear:Nat→Prop}{K K':Nat→Prop}{ρ ω σ ρp:Ren}{und:Nat→Bool}{T T' t:Trace}{gs gs':Array Goroutine}{W W' p:World}{q lv:Nat→Nat}{h j:Nat}{g G:Goroutine}{s s':SeatS}
theorem Fair.take (F:Fair S)(hj:S.role j=.seat s)(hcho:∀ c,S.chs c→¬ s.own c):Fair (S.take j s p):=by
 have hw:∀ b,¬ s.own b→(merge S.w s p).heap[b]?=S.w.heap[b]?:=fun b hb=>merge_not hb;have hnp:∀ b,S.w.heap[b]?≠some poison→¬ s.own b:=fun b hb ho=>hb (F.ownp j s b hj ho);have cases:∀ {x s1},(S.take j s p).role x=.seat s1→x≠j∧S.role x=.seat s1:=fun {x s1} hx=>by
  by_cases e1:x=j
  ·subst e1;rw[take_j] at hx;cases hx
  ·rw[take_x e1] at hx;exact⟨e1,hx⟩
 refine⟨fun x s1 hx=>?_,fun x s1 b hx ho=>?_,fun x y s1 s2 b hx hy h1 h2=>F.apart _ _ _ _ _ (cases hx).2 (cases hy).2 h1 h2,fun x s1 b hx hl=>?_,fun x y s1 s2 b hx hy hl ho=>F.lento _ _ _ _ _ (cases hx).2 (cases hy).2 hl ho,fun c hc=>?_,fun x y s1 s2 hx hy he=>F.seatinj _ _ _ _ (cases hx).2 (cases hy).2 he,
  fun b hb=>?_,fun x s1 b hx ho=>F.wgo x s1 b (cases hx).2 ho,F.few,fun x b hx=>?_,fun x hx=>?_,fun b hb=>?_,fun b hb=>?_,F.n0le,fun x s1 b hx ho=>F.olow x s1 b (cases hx).2 ho,F.wlow,F.clow⟩
 ·show s1.hi≤(merge S.w s p).heap.size
  rw[merge_size];exact F.top x s1 (cases hx).2
 ·show(merge S.w s p).heap[b]?=_
  rw[hw b fun ho'=>(cases hx).1 (F.apart _ _ _ _ _ (cases hx).2 hj ho ho')];exact F.ownp x s1 b (cases hx).2 ho
 ·have key:=F.lent x s1 b (cases hx).2 hl
  have e:=hw b (hnp b key.2);exact⟨key.1.eq e,by show(merge S.w s p).heap[b]?≠_;rw[e];exact key.2⟩
 ·show(merge S.w s p).heap[c]?=_
  rw[hw c (hcho c hc)];exact F.chs c hc
 ·show(merge S.w s p).heap[b]?=_
  rw[hw b fun ho=>F.wgo j s b hj ho hb];exact F.wgs b hb
 ·by_cases e1:x=j
  ·subst e1;rw[take_j] at hx;cases hx
  ·rw[take_x e1] at hx;exact F.donerg x b hx
 ·by_cases e1:x=j
  ·subst e1;exact absurd take_j hx
  ·rw[take_x e1] at hx;exact F.small x hx
 ·obtain⟨c,t,hc⟩:=F.fzs b hb
  exact⟨c,t,(hw b (hnp b (by rw[hc];simp[poison]))).trans hc⟩
 ·refine(F.low b hb).eq (hw b fun ho=>?_)
  have:=F.olow j s b hj ho;have hb':b<S.n0:=hb;omega
theorem Base.take (C:Base P ty S (fun _=>False) Dead (fun _=>False) K ρ ω und T gs W q lv)(hD:∀ x,Dead x→x=j)(hj:S.role j=.seat s){G g:Goroutine}{n:Nat}(hS:Seated P j s ω ρ S.w W n G p ρp g)
  (hsz:gs'.size=gs.size) (hget:∀ x,x≠j→gs'[x]?=gs[x]?) (hd:∀ x,Deaf T' x=Deaf T x)
  (ht:TP (fun x=>isSeat S x∧x≠j) (isDoner S) (fun x=>isSeat S x∨False) (LentG S ω) (OwnG S ω) (ShunG S ω) W.heap.size K' T') :
  Base P ty (S.take j s p) (·=j) (fun _=>False) (·=j) K' (joined ρ ρp s) ω und T' gs' W q lv:=by
 have F:=C.fair;have hcho:∀ c,S.chs c→¬ s.own c:=fun c hc ho=>by
  obtain⟨C1,k,h1,_⟩:=C.chs c hc;rw[C.hole j s c hj ho] at h1;cases h1
 have hρn:∀ b B,ρ b=some B→¬ s.own b:=fun b B hb ho=>by rw[C.hole j s b hj ho] at hb;cases hb
 have hρj:ρ.le (joined ρ ρp s):=fun b B hb=>by rw[joined_not (hρn b B hb)];exact hb
 have hpj:ρp.le (joined ρ ρp s):=fun b B hb=>by
  by_cases ho:s.own b
  ·rw[joined_own ho];exact hb
  ·rw[joined_not ho];exact(hS.sub b B hb).resolve_right ho
 have hjω:(joined ρ ρp s).le ω:=fun b B hb=>by
  by_cases ho:s.own b
  ·rw[joined_own ho] at hb;exact hS.le _ _ hb
  ·rw[joined_not ho] at hb;exact C.up _ _ hb
 have hnp:∀ b,S.w.heap[b]?≠some poison→¬ s.own b:=fun b hb ho=>hb (F.ownp j s b hj ho);have hlt:∀ b,s.own b→b<S.w.heap.size:=fun b ho=>nl' ho.2 (F.top j s hj);have cases:∀ {x s1},(S.take j s p).role x=.seat s1→x≠j∧S.role x=.seat s1:=fun {x s1} hx=>by
  by_cases e1:x=j
  ·subst e1;rw[take_j] at hx;cases hx
  ·rw[take_x e1] at hx;exact⟨e1,hx⟩
 have seatI:∀ x,isSeat (S.take j s p) x↔isSeat S x∧x≠j:=fun x=>by
  constructor
  ·rintro⟨s1,h1⟩;exact⟨⟨s1,(cases h1).2⟩,(cases h1).1⟩
  ·rintro⟨⟨s1,h1⟩,h2⟩;exact⟨s1,by rw[take_x h2];exact h1⟩
 refine⟨F.take hj hcho,hsz.trans C.size,⟨fun b B hb=>?_,fun b c B hb hc=>C.oinj _ _ _ (hjω _ _ hb) (hjω _ _ hc),fun b B hb=>?_,fun _ _=>rfl,WRel.os (w:=re S.w W.tape W.drawn) C.view,⟨by show GN≤(merge S.w s p).heap.size;rw[merge_size];exact C.view.low.1,C.view.low.2.1,fun b B hb=>(Classical.em (s.own b)).elim (fun ho=>hS.view.low.2.2 b B (by rw[joined_own ho] at hb;exact hb)) (fun ho=>C.view.low.2.2 b B (by rw[joined_not ho] at hb;exact hb))⟩⟩,C.oinj,fun b B hb=>?_,hjω,fun x s1 b hx ho=>?_,fun b B hb=>?_,
  fun x s1 hx hs1=>?_,fun x hx hr hlx=>?_,fun x b hx hr=>?_,fun x hx=>?_,fun x hx=>?_,fun c hc=>?_,fun x s1 _ hx=>?_,fun x _ _ hD=>hD.elim,fun b hb=>?_,?_,fun x hx=>(hd x).trans (C.above x hx),fun b B hb hB=>?_,fun b o ho hn=>?_,C.low,C.lowo⟩
 ·show b<(merge S.w s p).heap.size∧_
  rw[merge_size];exact C.odom b B (hjω _ _ hb)
 ·by_cases ho:s.own b
  ·rw[joined_own ho] at hb
   obtain⟨o,O',h1,h2,h3⟩:=hS.view.obj b B hb;refine⟨o,O',?_,h2,h3.mono hpj⟩;show(merge S.w s p).heap[b]?=_;have hbp:=lt_of_heap h1;rw[merge_own ho (hlt b ho),gd',h1];rfl
  ·rw[joined_not ho] at hb
   obtain⟨o,O',h1,h2,h3⟩:=C.view.obj b B hb;refine⟨o,O',?_,h2,h3.mono hρj⟩;show(merge S.w s p).heap[b]?=_;rw[merge_not ho];exact h1
 ·show b<(merge S.w s p).heap.size∧_
  rw[merge_size];exact C.odom b B hb
 ·obtain⟨e,hr⟩:=cases hx
  rw[joined_not fun ho'=>e (F.apart _ _ _ _ _ hr hj ho ho')];exact C.hole x s1 b hr ho
 ·rcases C.down b B hb with k | ⟨x,s1,k1,k2⟩
  ·exact .inl (hρj _ _ k)
  ·by_cases e:x=j
   ·subst e
    rw[hj] at k1;cases k1;exact .inl (by rw[joined_own k2];exact hS.all b B hb k2)
   ·exact .inr ⟨x,s1,by rw[take_x e];exact k1,k2⟩
 ·obtain⟨e1,hr⟩:=cases hs1
  obtain⟨G1,p1,ρ1,g1,h1,h2⟩:=C.seat x s1 id hr;exact⟨G1,p1,ρ1,g1,by rw[hget x e1];exact h1,h2.stays (fun _ _ h=>h) (fun b B hb=>.inr (hρj b B hb)) (fun _ _ h _=>h) (fun b hb=>merge_not (hnp b (F.lent x s1 b hr hb).2)) (Nat.le_refl _) rfl (fun _ _ _ _=>rfl) fun _ h=>h⟩
 ·rw[take_x hx] at hr
  obtain⟨h0,G1,h1,h2⟩:=C.gone x id hr hlx;exact⟨h0,G1,by rw[hget x hx];exact h1,by rw[hd];exact h2⟩
 ·rw[take_x hx] at hr
  obtain⟨G1,h1,h2⟩:=C.doner x b id hr;refine⟨G1,by rw[hget x hx];exact h1,?_⟩;rw[hd];exact h2.imp (fun⟨u,B,k1,k⟩=>⟨u,B,hρj _ _ k1,k⟩) id
 ·refine C.lv0 x fun b hb=>?_
  by_cases e1:x=j
  ·subst e1;rw[hj] at hb;cases hb
  ·exact hx b (by rw[take_x e1];exact hb)
 ·refine C.und1 x fun b hb=>?_
  by_cases e1:x=j
  ·subst e1;rw[hj] at hb;cases hb
  ·exact hx b (by rw[take_x e1];exact hb)
 ·obtain⟨C1,k,h1,h2⟩:=C.chs c hc
  exact⟨C1,k,hρj _ _ h1,h2⟩
 ·obtain⟨e1,hr⟩:=cases hx
  exact C.seatch x s1 (fun hDx=>e1 (hD x hDx)) hr
 ·obtain⟨B,h1,h2⟩:=C.wgs b hb
  exact⟨B,hρj _ _ h1,h2⟩
 ·refine ht.alike seatI (fun g ⟨b,hb⟩=>?_) (fun g hg=>?_) (fun g x ⟨hg,hgj⟩=>?_) (fun g x ⟨hg,hgj⟩=>?_) fun _=>Iff.rfl
  ·by_cases e1:g=j
   ·subst e1;rw[take_j] at hb;cases hb
   ·rw[take_x e1] at hb;exact⟨b,hb⟩
  ·rw[hd]
   rcases hg with hg | hg
   ·exact C.trace.hears g (.inl ((seatI g).1 hg).1)
   ·exact C.trace.hears g (.inl (hg▸⟨s,hj⟩))
  ·unfold LentG;rw[take_x hgj]
  ·unfold OwnG;rw[take_x hgj]
 ·obtain⟨c,t,hc⟩:=F.fzs b hb
  rw[joined_not (hnp b (by rw[hc];simp[poison]))] at hB;exact C.fz b B hb hB
 ·by_cases ho':s.own b
  ·rw[joined_own ho']
   have ho2:(merge S.w s p).heap[b]?=some o:=ho;rw[merge_own ho' (hlt b ho'),gd'] at ho2;cases e:p.heap[b]? with
   | none =>
    rw[e] at ho2;simp only[Option.getD_none,Option.some.injEq] at ho2;exact absurd ho2.symm hn
   | some o' =>
    rw[e] at ho2;simp only[Option.getD_some,Option.some.injEq] at ho2;subst ho2;exact hS.full b o' ho' e hn
  ·rw[joined_not ho']
   have ho2:(merge S.w s p).heap[b]?=some o:=ho;rw[merge_not ho'] at ho2;exact C.full b o ho2 hn
theorem recvd_relz {v:Value}(hv:flat v=true∨VRel ρ v v)(f:Bool):VRel ρ (recvd f v false) (recvd f v false):=by
 have h:VRel ρ v v:=hv.elim .flat id;cases f
 ·exact h
 ·exact VRel.tuple' ((ARel.one h).push (.flat rfl))
theorem sound_shut (hP:Fits P){g':Goroutine}(hj:S.role j=.seat s)(hjh:j≠h)(O:ShutOk S s s')(hz:∀ ρ,VRel ρ s.z s.z)
  (hclose:∀ ρ G,GRel ρ g G→∃ C0 G',ρ s.c=some C0∧GRel ρ g' G'∧G'.status=.running∧mayWake P G=true∧∀ W k,W.heap[C0]?=some (.chan 0 #[] false k k false)→stepG P (h==0) G W=.go G' (W.setChan C0 0 #[] true k k false) (closeEvents C0))
  (hw:∃ n,WalkS P (h==0) s' n g' (only s'.lent S.w))
  (hnext:∀ g2 p2,s.At g2 p2→Sound P ty Post j ((S.shut h s s').take j s p2) (Conc.served g2 (recvd s.ok s.z false))):Sound P ty Post h S g:=by
 refine sound_of_own hP fun ρ ω und T gs W sl q lv G R=>.inr ?_;obtain⟨n,hw⟩:=hw;obtain⟨C0,G',hC0,hg',hrun',hmw,hst⟩:=hclose ρ G R.rel;obtain⟨C0',k,h1,hk⟩:=R.base.chs _ (R.base.seatch j s id hj);obtain rfl:C0'=C0:=by rw[hC0] at h1;exact(oj' h1).symm
 have hn:h<S.n:=R.base.size▸(aq' R.recd).1;have hwg:¬ S.wgs s.c:=fun hw=>by
  obtain⟨B,h2,h3⟩:=R.base.wgs _ hw;rw[hC0] at h2;cases h2;unfold WgAt Go.ConcR.wgBlock at h3;rw[hk] at h3;cases h3
 obtain⟨q',C1,hcl⟩:=R.base.shut R.role hj hjh hn hC0 hk O R.recd hg' hrun' hmw hw G.frame.fn G.frame.place;refine⟨_,_,runT_crowd_go (sl:=sl) R.recd (hst W k hk),?_⟩;have hjs:(S.shut h s s').role j=.seat s:=by rw[shut_x hjh];exact hj
 generalize hm:T.size+1=m at C1 hcl;have hC1:(W.setChan C0' 0 #[] true k k false).heap[C0']?=some (.chan 0 #[] true k k false):=heap_setChan_self _ hk _ _ _ _ _ _;generalize W.setChan C0' 0 #[] true k k false=W2 at C1 hC1;generalize T++MemOp.ofEvents h G.frame.fn G.frame.place (closeEvents C0')=T2 at C1 hcl;generalize (gs.map (woken P G G' W2)).setIfInBounds h G'=gs2 at C1;clear R hst hclose hw;refine comes_wf Less.wf (fun a m' t=>∃ ω und gs W sl q lv,m'=crowd gs W sl∧Base P ty (S.shut h s s') (fun _=>False) (·=j) (fun _=>False) (fun i=>Before t i m) ρ ω und t gs W q lv∧ClosedAt C0' m t∧W.heap[C0']?=some (.chan 0 #[] true k k false)∧a=meas (S.shut h s s') q lv) ?_ (meas (S.shut h s s') q' lv) _ T2
  ⟨ω,und,gs2,W2,sl,q',lv,rfl,C1,hcl,hC1,rfl⟩
 clear C1 hC1 hcl;rintro a m' t ⟨ω,und,gs,W,sl,q,lv,rfl,C,hcl,hC,rfl⟩;obtain⟨Gj,pj,ρj,gj,hGj,hSj⟩:=C.seat j s id hjs;have hjr:Gj.status=.running:=C.dead j Gj id rfl hGj;have haw:∀ x∈gs,awake x:=by
  intro x hx;obtain⟨i,hi,rfl⟩:=Array.mem_iff_getElem.1 hx;exact C.awake1 id (as' hi)
 obtain⟨i,Y,d,sl',hi,hY,hstep⟩:=crowd_pick (P:=P) (w:=W) (sl:=sl) haw ⟨j,Gj,hGj,hjr⟩;have Cd:=C.at d;have hlt:i<gs.size:=(aq' hi).1;by_cases hmt:i=j∧∃ p ρp g',Seated P i s ω ρ (S.shut h s s').w (W.at d) (q i) Y p ρp g'∧AtRecv P (i==0) s g' p
 ·
  left;obtain⟨rfl,p,ρp,g1,hS,hat⟩:=hmt;obtain⟨kk,hkk,hg1,hw1⟩:∃ k,q i=k+1∧GRel ρp g1 Y∧WalkS P (i==0) s k g1 p:=by
   rcases hS.way with h | ⟨_,G0,C1,_,rfl,_⟩
   ·exact h
   ·cases hY
  obtain⟨σ,G3,C1,W1,ES,hcom,hC1,hg3,A⟩:=sim_recv hP hS.view hg1 hat;have C2:=Cd.actS (fn:=Y.frame.fn) (pos:=Y.frame.place) (gs':=gs.setIfInBounds i G3) (K':=fun x=>Before (t++MemOp.ofEvents i Y.frame.fn Y.frame.place ES) x m) id hjs hi hS A hS.top (fun x=>Before.app _) (.inl ⟨0,rfl,hg3,hat⟩) (by simp)
   (Array.getElem?_setIfInBounds_self_of_lt hlt) (fun x hx=>ar' fun e=>hx e.symm) (fun _=>hg3.status.symm.trans hat.runs)
  have hown:∀ b B,σ b=some B→ρp b=some B∨s.own b:=fun b B hb=>by
   rcases A.newb _ _ hb with k | ⟨k,_⟩
   ·exact .inl k
   ·exact .inr ⟨Nat.le_trans hS.bot k,nl' (A.view.dom _ _ hb).1 hS.top⟩
  have hC15:C1=C0':=by
   have hle:inward s ω σ s.c=some C1:=by
    by_cases ho:s.own s.c
    ·rw[inward_own ho];exact hC1
    ·rw[inward_not ho];exact hS.le _ _ ((hown _ _ hC1).resolve_right ho)
   rw[C2.up _ _ hC0] at hle;exact(oj' hle).symm
  subst hC15;have hCl:W1.heap[C1]?=some (.chan 0 #[] true k k false):=(seat_same Cd hjs hS A _ _ hC0).trans hC;have hS5:Seated P i s (inward s ω σ) ρ S.w W1 1 G3 p σ g1:=by
   refine⟨A.view,fun b B hb=>?_,fun b B hb=>?_,fun b B hb ho=>by rw[inward_own ho] at hb;exact hb,fun b B hb=>?_,hS.chan.imp fun _ h=>A.le _ _ h,fun b o ho hb hn=>(hS.full b o ho hb hn).imp fun B x=>A.le _ _ x,hS.bot,hS.top,.inl ⟨0,rfl,hg3,hat⟩⟩
   ·by_cases ho:s.own b
    ·rw[inward_own ho];exact hb
    ·rw[inward_not ho];exact hS.le _ _ ((hown _ _ hb).resolve_right ho)
   ·exact(hown _ _ hb).elim (hS.sub _ _) .inr
   ·exact(hown _ _ hb).elim (hS.keep _ _) fun h=>.inr (.inl h)
  have hp:partners (gs.setIfInBounds i ph) C1 true=[]:=partners_nil fun x y hy=>by
   rcases getElem?_stand gs i x y hy with⟨_,rfl⟩ | ⟨_,hy'⟩
   ·exact offersAt_ph _ _
   ·exact Cd.noSend id hy' _
  refine Comes.next (hstep.trans (crowd_recv_closed (sl:=sl') hi hcom hCl hp)) ?_;rw[← Array.append_assoc];have hcl':=hcl.app (MemOp.ofEvents i Y.frame.fn Y.frame.place ES);have hd:∀ x,Deaf (t++MemOp.ofEvents i Y.frame.fn Y.frame.place ES++#[{g:=i,fn:=G3.frame.fn,pos:=G3.frame.place,act:=.recvClosed C1}]) x=Deaf (t++MemOp.ofEvents i Y.frame.fn Y.frame.place ES) x:=fun x=>Deaf_quiet fun op hop d=>by
   simp only[List.mem_toArray,List.mem_cons,List.not_mem_nil,or_false] at hop;subst hop;rfl
  have C3:=C2.take (gs':=gs.setIfInBounds i (Conc.served G3 (recvd s.ok s.z false))) (fun x hx=>hx) hjs hS5 (by simp) (fun x hx=>by rw[ar' (fun e=>hx e.symm),ar' (fun e=>hx e.symm)]) hd
   (C2.trace.take hcl'.1 hcl'.2 (.inl ⟨s,hjs⟩) G3.frame.fn G3.frame.place (C2.odom _ _ (C2.up _ _ hC0)).2)
  have hpj:σ.le (joined ρ σ s):=fun b B hb=>by
   by_cases ho:s.own b
   ·rw[joined_own ho];exact hb
   ·rw[joined_not ho];exact(hS5.sub b B hb).resolve_right ho
  rw[finishComm_recv];exact hnext g1 p hat.home _ _ _ _ _ _ sl' _ _ _ ⟨C3,Array.getElem?_setIfInBounds_self_of_lt hlt,(hg3.mono hpj).served (recvd_relz (.inr (hz _)) s.ok),rfl,take_j⟩
 ·right
  obtain⟨gs',W',ops,q',lv',und',ω',h1,h2,h3,h4,h5,hsame,h6,h7⟩:=Cd.by_step' (sl:=sl') (Kf:=fun t i=>Before t i m) hP (fun t u x=>Before.app u) hi id hY (fun x hx=>hx.elim) (fun hD=>⟨s,by rw[hD];exact hjs⟩) (fun x gx hx=>hx.elim)
   (fun s1 p ρp g' hs1 hS hat=>⟨fun hD=>hmt ⟨hD,p,ρp,g',by
    rw[hD,hjs] at hs1;cases hs1;exact⟨hS,hat⟩⟩,fun x gx c hx=>hx.elim⟩)
  exact⟨_,ops,_,hstep.trans h1,h7,ω',und',gs',W',sl',q',lv',rfl,h6,hcl.app _,(hsame _ _ hC0 hwg).trans hC,rfl⟩
end
end Go.Proofs.Ytfbjopkiicmiiaa.Lift
namespace Go.Proofs.Ytfbjopkiicmiiaa.Lift
open Go Go.Conc Go.RowKit Go.Conc.Lib Go.ConcR.Gen Go.ConcN.Gen
open Go.ConcR (KK WgAt stA smA rd wr mk DC0)
open Go.ConcN (WgLive st_flag st_waiters)
variable {L:WgLink}
theorem rl_r {ty:TypeId}{Wg:Nat}{w w₁:World}(h:WgLive ty Wg w)(r:RL ty Wg w w₁):WgLive ty Wg w₁:=r h
theorem quits_more {P:Program}:∀ {n m d:Nat} {g:Goroutine},n≤m→QuitsD P n d g→QuitsD P m d g:=by
 intro n
 induction n with
 | zero =>
  intro m d g _ h;cases m with
  | zero=>exact h
  | succ m=>exact .inl h
 | succ n ih =>
  intro m d g hm h;cases m with
  | zero=>omega
  | succ m =>
   rcases h with h | ⟨h1,g',es,h2,h3,h4⟩
   ·exact .inl h
   ·exact .inr ⟨h1,g',es,h2,h3,ih (by omega) h4⟩
theorem done_walk {P:Program}(H:WgLib P L){Wg:Nat}{c:Frame}{cs:List Frame}{qt:Nat}
  (hcm:c.mode=.returning) (hT:QuitsD P qt 0 (G c cs)) (w:World) (hK:WgLive L.tWg Wg w) :
  DonerAt P L.tWg Wg 6 60 (G ((baseD L.done).at ⟨#[.pointer (some ⟨Wg,0,none⟩),undef,undef,undef],[]⟩ [.code (body_done L)]) (c::cs)) w:=by
 lib_facts
 show Goes P false (RL L.tWg Wg) DC0 (DQ6 P L.tWg Wg) 60 _ w;simp only[body_done,doneFn,Option.getD_some]
 u_reg rl_r hK
 u_op rl_r hK
 u_call H.f_add (nm_add L) addFn rl_r hK
 u_c sx' rl_r hK
 u_cond true rl_r hK
 u_c sx' rl_r hK
 u_c sx' rl_r hK
 u_reg rl_r hK
 u_op rl_r hK
 u_op rl_r hK
 u_c se' rl_r hK
 u_cond true rl_r hK
 u_reg rl_r hK
 u_op rl_r hK
 u_conv H.underlying_tWgP H.room_tWg (WgLive.cell0 hK).choose_spec rl_r hK
 refine Goes.stop (fun w₁ h₁=>?_)
 replace hK:=rl_r hK h₁
 clear h₁;refine⟨rfl,_,stepG_markAt .releaseMerge (by simp) rfl rfl (by k_ne) rfl H.f_relMerge (x_relMerge_n L) (x_relMerge_b L) (x_relMerge_x L) (x_relMerge_f L) (by simp[Act.eval,stA]),20,?_⟩
 walk_nrm
 u_c se' rl_r hK
 u_c sx' rl_r hK
 u_reg rl_r hK
 refine Goes.stop (fun w₁ h₁=>?_)
 replace hK:=rl_r hK h₁
 clear h₁;refine⟨rfl,_,stepG_mark0 .disable (by simp) rfl rfl (by k_ne) rfl H.f_disable (x_disable_n L) (x_disable_b L) (x_disable_x L) (x_disable_f L),60,?_⟩
 walk_nrm
 u_c se' rl_r hK
 u_reg rl_r hK
 u_defer rl_r hK
 u_c se' rl_r hK
 u_c sx' rl_r hK
 u_reg rl_r hK
 u_op rl_r hK
 u_c se' rl_r hK
 u_c sx' rl_r hK
 u_c sx' rl_r hK
 u_reg rl_r hK
 u_bub rl_r hK
 u_c se' rl_r hK
 u_cond false rl_r hK
 u_c stepG_skip rl_r hK
 u_c sx' rl_r hK
 u_reg rl_r hK
 u_op rl_r hK
 u_op rl_r hK
 u_op rl_r hK
 u_op rl_r hK
 u_op rl_r hK
 u_op rl_r hK
 u_call H.f_uAdd (nm_uAdd L) uAddFn rl_r hK
 u_c sx' rl_r hK
 u_reg rl_r hK
 u_op rl_r hK
 u_c se' rl_r hK
 u_c sx' rl_r hK
 u_reg rl_r hK
 u_op rl_r hK
 u_op rl_r hK
 u_op rl_r hK
 u_op rl_r hK
 refine Goes.stop (fun w₁ h₁=>?_);clear h₁ hK;refine⟨rfl,fun v wt hwt hv hw=>?_⟩;have e0:IntKind.u64.wrap (KK+18446744069414584320)=0:=by decide
 have e1:IntKind.u64.wrap (KK+1+18446744069414584320)=1:=by decide
 rcases Nat.eq_zero_or_pos v with rfl | hvp<;>(obtain rfl | rfl:wt=0∨wt=1:=by omega)
 ·replace hw:WgAt L.tWg Wg w₁ KK 0:=by simpa using hw
  have z:((0:Nat):Int)*KK+((0:Nat):Int)=0:=by simp
  rw[z];refine⟨_,(stepG_add_atomic rfl rfl (by k_ne) rfl H.f_addU64 (x_addU64_n L) (x_addU64_b L) (x_addU64_x L) .u64 (x_addU64_f L) rfl rfl hw.cellSt (hw.thaw 0)).trans (by rw[e0];rfl),fun hl=>absurd hl.2 (by decide),fun _=>⟨qt+99,?_⟩⟩;clear hw
  walk_nrm
  q_vn (.int .u64 0)
  q_c se'
  q_c stepG_ret'
  q_leave1 H.f_uAdd
  q_vn (.int .u64 0)
  q_c se'
  q_c sx'
  q_c sx'
  q_reg
  q_vn (.int .u64 0)
  q_vn (.int .u64 0)
  q_vn (.bool false)
  q_vn (.bool false)
  q_skip
  q_skip
  q_vn (.bool false)
  q_c se'
  q_cond false
  q_c stepG_skip
  q_c sx'
  q_reg
  q_vn (.int .u64 0)
  q_vn (.int .u64 0)
  q_vn (.int .i32 0)
  q_vn (.int .i32 0)
  q_c se'
  q_c sx'
  q_reg
  q_vn (.int .u64 0)
  q_vn (.int .u64 0)
  q_vn (.int .u32 0)
  q_vn (.int .u32 0)
  q_c se'
  q_c sx'
  q_c sx'
  q_reg
  q_vn (.bool true)
  q_vn (.int .i64 (-1))
  q_vn (.bool false)
  q_vn (.bool false)
  q_vn (.bool false)
  q_skip
  q_skip
  q_skip
  q_skip
  q_vn (.bool false)
  q_c se'
  q_cond false
  q_c stepG_skip
  q_c sx'
  q_c sx'
  q_reg
  q_vn (.int .i32 0)
  q_vn (.bool false)
  q_c se'
  q_cond false
  q_c stepG_skip
  q_c sx'
  q_c sx'
  q_reg
  q_vn (.int .u32 0)
  q_vn (.bool false)
  q_vn (.bool false)
  q_skip
  q_skip
  q_vn (.bool false)
  q_vn (.bool false)
  q_skip
  q_skip
  q_skip
  q_skip
  q_vn (.bool false)
  q_c se'
  q_cond false
  q_c stepG_skip
  q_c sx'
  q_c sx'
  q_reg
  q_vn (.int .i32 0)
  q_vn (.bool false)
  q_vn (.bool false)
  q_vn (.int .u32 0)
  q_vn (.bool true)
  q_vn (.bool true)
  q_c se'
  q_cond true
  q_c stepG_ret'
  q_enable
  q_leave0 H.f_add
  q_c se'
  q_c stepG_end
  exact QuitsD.leaveD rfl rfl H.f_done rfl hcm (quits_more (by omega) hT)
 ·replace hw:WgAt L.tWg Wg w₁ (KK+1) 0:=by simpa using hw
  have z:((0:Nat):Int)*KK+((1:Nat):Int)=1:=by simp
  rw[z];refine⟨_,(stepG_add_atomic rfl rfl (by k_ne) rfl H.f_addU64 (x_addU64_n L) (x_addU64_b L) (x_addU64_x L) .u64 (x_addU64_f L) rfl rfl hw.cellSt (hw.thaw 0)).trans (by rw[e1];rfl),fun _=>⟨120,?_⟩,fun hl=>absurd ⟨rfl,rfl⟩ hl⟩;have hF:WgLive L.tWg Wg (w₁.setCell (stA Wg) (.int .u64 1)):=⟨_,_,hw.setSt 1⟩;clear hw
  walk_nrm
  u_op rl_r hF
  u_c se' rl_r hF
  u_c stepG_ret' rl_r hF
  u_leave1 H.f_uAdd rl_r hF
  u_op rl_r hF
  u_c se' rl_r hF
  u_c sx' rl_r hF
  u_c sx' rl_r hF
  u_reg rl_r hF
  u_op rl_r hF
  u_op rl_r hF
  u_op rl_r hF
  u_op rl_r hF
  u_skip rl_r hF
  u_skip rl_r hF
  u_op rl_r hF
  u_c se' rl_r hF
  u_cond false rl_r hF
  u_c stepG_skip rl_r hF
  u_c sx' rl_r hF
  u_reg rl_r hF
  u_op rl_r hF
  u_op rl_r hF
  u_op rl_r hF
  u_op rl_r hF
  u_c se' rl_r hF
  u_c sx' rl_r hF
  u_reg rl_r hF
  u_op rl_r hF
  u_op rl_r hF
  u_op rl_r hF
  u_op rl_r hF
  u_c se' rl_r hF
  u_c sx' rl_r hF
  u_c sx' rl_r hF
  u_reg rl_r hF
  u_op rl_r hF
  u_op rl_r hF
  u_op rl_r hF
  u_op rl_r hF
  u_op rl_r hF
  u_skip rl_r hF
  u_skip rl_r hF
  u_skip rl_r hF
  u_skip rl_r hF
  u_op rl_r hF
  u_c se' rl_r hF
  u_cond false rl_r hF
  u_c stepG_skip rl_r hF
  u_c sx' rl_r hF
  u_c sx' rl_r hF
  u_reg rl_r hF
  u_op rl_r hF
  u_op rl_r hF
  u_c se' rl_r hF
  u_cond false rl_r hF
  u_c stepG_skip rl_r hF
  u_c sx' rl_r hF
  u_c sx' rl_r hF
  u_reg rl_r hF
  u_op rl_r hF
  u_op rl_r hF
  u_op rl_r hF
  u_op rl_r hF
  u_op rl_r hF
  u_op rl_r hF
  u_op rl_r hF
  u_skip rl_r hF
  u_skip rl_r hF
  u_skip rl_r hF
  u_skip rl_r hF
  u_op rl_r hF
  u_c se' rl_r hF
  u_cond false rl_r hF
  u_c stepG_skip rl_r hF
  u_c sx' rl_r hF
  u_c sx' rl_r hF
  u_reg rl_r hF
  u_op rl_r hF
  u_op rl_r hF
  u_op rl_r hF
  u_op rl_r hF
  u_op rl_r hF
  u_op rl_r hF
  u_c se' rl_r hF
  u_cond false rl_r hF
  u_c stepG_skip rl_r hF
  u_c sx' rl_r hF
  u_c sx' rl_r hF
  u_reg rl_r hF
  u_op rl_r hF
  u_op rl_r hF
  u_op rl_r hF
  u_call H.f_uLoad (nm_uLoad L) uLoadFn rl_r hF
  u_c sx' rl_r hF
  u_reg rl_r hF
  u_op rl_r hF
  u_c se' rl_r hF
  u_c sx' rl_r hF
  u_reg rl_r hF
  u_op rl_r hF
  u_op rl_r hF
  u_op rl_r hF
  refine Goes.stop (fun w₂ h₂=>?_);clear h₂ hF;refine⟨rfl,fun hw=>⟨_,stepG_load_atomic rfl rfl (by k_ne) rfl H.f_loadU64 (x_loadU64_n L) (x_loadU64_b L) (x_loadU64_x L) .u64 (x_loadU64_f L) rfl hw.cellSt,60,?_⟩⟩;have hF:WgLive L.tWg Wg w₂:=⟨_,_,hw⟩;clear hw
  walk_nrm
  u_op rl_r hF
  u_c se' rl_r hF
  u_c stepG_ret' rl_r hF
  u_leave1 H.f_uLoad rl_r hF
  u_op rl_r hF
  u_op rl_r hF
  u_c se' rl_r hF
  u_cond false rl_r hF
  u_c stepG_skip rl_r hF
  u_c sx' rl_r hF
  u_reg rl_r hF
  u_op rl_r hF
  u_op rl_r hF
  u_op rl_r hF
  u_call H.f_uStore (nm_uStore L) uStoreFn rl_r hF
  u_reg rl_r hF
  u_op rl_r hF
  u_op rl_r hF
  u_op rl_r hF
  u_op rl_r hF
  refine Goes.stop (fun w₃ h₃=>?_);clear h₃ hF;refine⟨rfl,fun hw=>⟨_,stepG_store_atomic rfl rfl (by k_ne) rfl H.f_storeU64 (x_storeU64_n L) (x_storeU64_b L) (x_storeU64_x L) (x_storeU64_f L) rfl rfl hw.cellSt (hw.thaw 0),60,?_⟩⟩;have hF:WgLive L.tWg Wg (w₃.setCell (stA Wg) (.int .u64 0)):=⟨_,_,hw.setSt 0⟩;clear hw
  walk_nrm
  u_c se' rl_r hF
  u_c stepG_end rl_r hF
  u_leave0 H.f_uStore rl_r hF
  u_c se' rl_r hF
  u_c sx' rl_r hF
  u_c sx' rl_r hF
  u_reg rl_r hF
  u_op rl_r hF
  u_c se' rl_r hF
  u_cond false rl_r hF
  u_c stepG_skip rl_r hF
  u_c stepG_block rl_r hF
  u_c stepG_loop rl_r hF
  u_c sx' rl_r hF
  u_c sx' rl_r hF
  u_reg rl_r hF
  u_op rl_r hF
  u_op rl_r hF
  u_c se' rl_r hF
  u_cond true rl_r hF
  u_c stepG_skip rl_r hF
  u_c sx' rl_r hF
  u_c stepG_block rl_r hF
  u_reg rl_r hF
  u_op rl_r hF
  u_op rl_r hF
  u_op rl_r hF
  refine Goes.stop (fun w₄ h₄=>?_);clear h₄ hF;refine⟨rfl,mayWake_entry rfl rfl H.f_semrelease (x_semrelease_b L),fun hw=>⟨_,(stepG_semrelease rfl rfl (by k_ne) rfl H.f_semrelease (x_semrelease_n L) (x_semrelease_b L) (x_semrelease_x L) (x_semrelease_f L) (by simp[Act.eval,smA]) hw.cellSm (hw.thaw 1)).trans (by rfl),qt+59,?_⟩⟩;clear hw
  walk_nrm
  q_c se'
  q_c stepG_inBlock
  q_reg
  q_vn (.int .u32 1)
  q_vn (.int .u32 0)
  q_vn (.int .u32 0)
  q_c se'
  q_c stepG_inLoop
  q_c sx'
  q_c sx'
  q_reg
  q_vn (.int .u32 0)
  q_vn (.bool false)
  q_c se'
  q_cond false
  q_exit
  q_c stepG_end
  q_enable
  q_leave0 H.f_add
  q_c se'
  q_c stepG_end
  exact QuitsD.leaveD rfl rfl H.f_done rfl hcm (quits_more (by omega) hT)
 ·replace hw:WgAt L.tWg Wg w₁ (((v:Nat)+1)*KK+0) 0:=by simpa using hw
  have z:((v:Nat):Int)*KK+((0:Nat):Int)=(v:Int)*KK+0:=by simp
  rw[z];have hv0:0<v:=by omega
  have eS:IntKind.u64.wrap (((v:Nat)+1)*KK+0+18446744069414584320)=(v:Int)*KK+0:=by rw[IntKind.wrap_u64];simp only[KK];omega
  obtain⟨S,hS⟩:∃ S:Int,S=(v:Int)*KK+0:=⟨_,rfl⟩;rw[← hS] at eS ⊢;have a1:S / 4294967296=(v:Int):=by rw[hS];simp only[KK];omega
  have a2:0≤S∧S<9223372036854775808:=by rw[hS];simp only[KK];omega
  have b1:bits .and .u64 S 2147483648=0:=by rw[hS];have:=st_flag v 0 (by omega) (by omega);simpa[KK] using this
  have b2:bits .and .u64 S 2147483647=0:=by rw[hS];have:=st_waiters v 0 (by omega) (by omega);simpa[KK] using this
  clear hS z;refine⟨_,(stepG_add_atomic rfl rfl (by k_ne) rfl H.f_addU64 (x_addU64_n L) (x_addU64_b L) (x_addU64_x L) .u64 (x_addU64_f L) rfl rfl hw.cellSt (hw.thaw 0)).trans (by rw[eS];rfl),fun hl=>absurd hl.1 (by omega),fun _=>⟨qt+99,?_⟩⟩;clear hw
  walk_nrm
  q_vn (.int .u64 S)
  q_c se'
  q_c stepG_ret'
  q_leave1 H.f_uAdd
  q_vn (.int .u64 S)
  q_c se'
  q_c sx'
  q_c sx'
  q_reg
  q_vn (.int .u64 S)
  q_vn (.int .u64 0)
  q_vn (.bool false)
  q_vn (.bool false)
  q_skip
  q_skip
  q_vn (.bool false)
  q_c se'
  q_cond false
  q_c stepG_skip
  q_c sx'
  q_reg
  q_vn (.int .u64 S)
  q_vn (.int .u64 (v:Int))
  q_vn (.int .i32 (v:Int))
  q_vn (.int .i32 (v:Int))
  q_c se'
  q_c sx'
  q_reg
  q_vn (.int .u64 S)
  q_vn (.int .u64 0)
  q_vn (.int .u32 0)
  q_vn (.int .u32 0)
  q_c se'
  q_c sx'
  q_c sx'
  q_reg
  q_vn (.bool true)
  q_vn (.int .i64 (-1))
  q_vn (.bool false)
  q_vn (.bool false)
  q_vn (.bool false)
  q_skip
  q_skip
  q_skip
  q_skip
  q_vn (.bool false)
  q_c se'
  q_cond false
  q_c stepG_skip
  q_c sx'
  q_c sx'
  q_reg
  q_vn (.int .i32 (v:Int))
  q_vn (.bool false)
  q_c se'
  q_cond false
  q_c stepG_skip
  q_c sx'
  q_c sx'
  q_reg
  q_vn (.int .u32 0)
  q_vn (.bool false)
  q_vn (.bool false)
  q_skip
  q_skip
  q_vn (.bool false)
  q_vn (.bool false)
  q_skip
  q_skip
  q_skip
  q_skip
  q_vn (.bool false)
  q_c se'
  q_cond false
  q_c stepG_skip
  q_c sx'
  q_c sx'
  q_reg
  q_vn (.int .i32 (v:Int))
  q_vn (.bool true)
  q_vn (.bool true)
  q_skip
  q_skip
  q_vn (.bool true)
  q_c se'
  q_cond true
  q_c stepG_ret'
  q_enable
  q_leave0 H.f_add
  q_c se'
  q_c stepG_end
  exact QuitsD.leaveD rfl rfl H.f_done rfl hcm (quits_more (by omega) hT)
 ·replace hw:WgAt L.tWg Wg w₁ (((v:Nat)+1)*KK+1) 0:=by simpa using hw
  have z:((v:Nat):Int)*KK+((1:Nat):Int)=(v:Int)*KK+1:=by simp
  rw[z];have hv0:0<v:=by omega
  have eS:IntKind.u64.wrap (((v:Nat)+1)*KK+1+18446744069414584320)=(v:Int)*KK+1:=by rw[IntKind.wrap_u64];simp only[KK];omega
  obtain⟨S,hS⟩:∃ S:Int,S=(v:Int)*KK+1:=⟨_,rfl⟩;rw[← hS] at eS ⊢;have a1:S / 4294967296=(v:Int):=by rw[hS];simp only[KK];omega
  have a2:0≤S∧S<9223372036854775808:=by rw[hS];simp only[KK];omega
  have b1:bits .and .u64 S 2147483648=0:=by rw[hS];have:=st_flag v 1 (by omega) (by omega);simpa[KK] using this
  have b2:bits .and .u64 S 2147483647=1:=by rw[hS];have:=st_waiters v 1 (by omega) (by omega);simpa[KK] using this
  clear hS z;refine⟨_,(stepG_add_atomic rfl rfl (by k_ne) rfl H.f_addU64 (x_addU64_n L) (x_addU64_b L) (x_addU64_x L) .u64 (x_addU64_f L) rfl rfl hw.cellSt (hw.thaw 0)).trans (by rw[eS];rfl),fun hl=>absurd hl.1 (by omega),fun _=>⟨qt+99,?_⟩⟩;clear hw
  walk_nrm
  q_vn (.int .u64 S)
  q_c se'
  q_c stepG_ret'
  q_leave1 H.f_uAdd
  q_vn (.int .u64 S)
  q_c se'
  q_c sx'
  q_c sx'
  q_reg
  q_vn (.int .u64 S)
  q_vn (.int .u64 0)
  q_vn (.bool false)
  q_vn (.bool false)
  q_skip
  q_skip
  q_vn (.bool false)
  q_c se'
  q_cond false
  q_c stepG_skip
  q_c sx'
  q_reg
  q_vn (.int .u64 S)
  q_vn (.int .u64 (v:Int))
  q_vn (.int .i32 (v:Int))
  q_vn (.int .i32 (v:Int))
  q_c se'
  q_c sx'
  q_reg
  q_vn (.int .u64 S)
  q_vn (.int .u64 1)
  q_vn (.int .u32 1)
  q_vn (.int .u32 1)
  q_c se'
  q_c sx'
  q_c sx'
  q_reg
  q_vn (.bool true)
  q_vn (.int .i64 (-1))
  q_vn (.bool false)
  q_vn (.bool false)
  q_vn (.bool false)
  q_skip
  q_skip
  q_skip
  q_skip
  q_vn (.bool false)
  q_c se'
  q_cond false
  q_c stepG_skip
  q_c sx'
  q_c sx'
  q_reg
  q_vn (.int .i32 (v:Int))
  q_vn (.bool false)
  q_c se'
  q_cond false
  q_c stepG_skip
  q_c sx'
  q_c sx'
  q_reg
  q_vn (.int .u32 1)
  q_vn (.bool true)
  q_vn (.bool true)
  q_vn (.int .i64 (-1))
  q_vn (.bool false)
  q_vn (.bool false)
  q_vn (.bool false)
  q_skip
  q_skip
  q_skip
  q_skip
  q_vn (.bool false)
  q_c se'
  q_cond false
  q_c stepG_skip
  q_c sx'
  q_c sx'
  q_reg
  q_vn (.int .i32 (v:Int))
  q_vn (.bool true)
  q_vn (.bool true)
  q_skip
  q_skip
  q_vn (.bool true)
  q_c se'
  q_cond true
  q_c stepG_ret'
  q_enable
  q_leave0 H.f_add
  q_c se'
  q_c stepG_end
  exact QuitsD.leaveD rfl rfl H.f_done rfl hcm (quits_more (by omega) hT)
#print axioms done_walk
end Go.Proofs.Ytfbjopkiicmiiaa.Lift
namespace Go.Proofs.Ytfbjopkiicmiiaa.Lift
open Go Go.Conc
open Go.ConcN (sumTo upd sumTo_upd upd_ne upd_same WgLive)
open Go.ConcR (KK WgAt stA smA DC0)
def setB (w:World)(b:Nat)(o:Obj):World:={w with heap:=w.heap.setIfInBounds b o}
theorem setB_size {w:World}{b:Nat}{o:Obj}:(setB w b o).heap.size=w.heap.size:=by simp[setB]
theorem setB_self {w:World}{b:Nat}{o:Obj}(h:b<w.heap.size):(setB w b o).heap[b]?=some o:=by simp[setB,h]
theorem setB_ne {w:World}{b x:Nat}{o:Obj}(h:x≠b):(setB w b o).heap[x]?=w.heap[x]?:=by
 show(w.heap.setIfInBounds b o)[x]?=_;rw[ar' (Ne.symm h)]
section
variable {P:Program}{ty:TypeId}{Post:Value→World→Prop}{S S':SC}{Sp Dead Hear:Nat→Prop}{K:Nat→Prop}{ρ ω σ ρp:Ren}{und:Nat→Bool}{T t:Trace}{gs gs':Array Goroutine}{W W' p w':World}{q lv:Nat→Nat}{h j:Nat}{g G:Goroutine}
theorem View.setB {b:Nat}{o:Obj}(hv:View ρ p W)(hb:∀ B O,ρ b=some B→W.heap[B]?=some O→ORel ρ o O):View ρ (Lift.setB p b o) W:=by
 refine⟨fun x B hB=>⟨by show x<(Lift.setB p b o).heap.size;rw[setB_size];exact(hv.dom x B hB).1,(hv.dom x B hB).2⟩,hv.inj,fun x B hB=>?_,fun _ _=>rfl,WRel.os (w:=Lift.re p W.tape W.drawn) hv,hv.low.le (by show _≤(Lift.setB p b o).heap.size;rw[setB_size];exact Nat.le_refl _) (Nat.le_refl _)⟩;obtain⟨o1,O,h1,h2,h3⟩:=hv.obj x B hB;by_cases e:x=b
 ·subst e
  exact⟨o,O,setB_self (lt_of_heap h1),h2,hb B O hB h2⟩
 ·exact⟨o1,O,(setB_ne e).trans h1,h2,h3⟩
theorem Base.ghost (C:Base P ty S Sp Dead Hear K ρ ω und T gs W q lv){chs wgs fz:Nat→Prop}{pend:Nat→Nat}(F:Fair { S with w:=w',chs:=chs,wgs:=wgs,fz:=fz,pend:=pend})(hsz:w'.heap.size=S.w.heap.size)(hv:View ρ w' W)
  (hlent:∀ j s b,S.role j=.seat s→s.lent b→w'.heap[b]?=S.w.heap[b]?) (hchs:∀ c,chs c→∃ C k,ρ c=some C∧W.heap[C]?=some (.chan 0 #[] false k k false)) (hc:∀ c,S.chs c→chs c)
  (hwgs:∀ b,wgs b→∃ B,ρ b=some B∧WgAt ty B W ((pend b+sumTo S.n (cnt S und b):Nat)*KK) 0)
  (ht:TP (isSeat S) (isDoner S) (fun j=>isSeat S j∨Hear j) (LentG S ω) (OwnG S ω) (ShunG { S with w:=w',chs:=chs,wgs:=wgs,fz:=fz,pend:=pend} ω) W.heap.size K T)
  (hfz:∀ b B,fz b→ρ b=some B→∃ C t FZ,W.heap[B]?=some (.cells C t FZ)∧FZ=(0,0)) (hfull:∀ b o,w'.heap[b]?=some o→o≠poison→∃ B,ρ b=some B) :
  Base P ty { S with w:=w',chs:=chs,wgs:=wgs,fz:=fz,pend:=pend} Sp Dead Hear K ρ ω und T gs W q lv:=by
 refine⟨F,C.size,hv,C.oinj,fun b B hb=>by show b<w'.heap.size∧_;rw[hsz];exact C.odom b B hb,C.up,C.hole,C.down,fun x s hx hs=>?_,C.gone,C.doner,C.lv0,C.und1,hchs,fun x s hD hs=>hc _ (C.seatch x s hD hs),C.dead,hwgs,ht,C.above,hfz,hfull,C.low,C.lowo⟩;obtain⟨G,p,ρp,g,h1,h2⟩:=C.seat x s hx hs;exact⟨G,p,ρp,g,h1,h2.stays (fun _ _ h=>h) (fun _ _ h=>.inr h) (fun _ _ h _=>h) (fun b hb=>hlent x s b hs hb) (Nat.le_refl _) rfl (fun _ _ _ _=>rfl) fun _ h=>h⟩
theorem Fair.setB (F:Fair S){b:Nat}{o:Obj}{chs wgs fz:Nat→Prop}{pend:Nat→Nat}(hb:b<S.w.heap.size)(hlo:S.n0≤b)(hnl:∀ j s,S.role j=.seat s→¬ s.lent b)
  (hown:o≠poison→S.w.heap[b]?≠some poison) (hc:∀ c,chs c→(S.chs c∧c≠b)∨(c=b∧o=poison)∨(S.chs c∧o=poison)) (hw:∀ x,wgs x→(S.wgs x∧x≠b)∨(x=b∧o=poison))
  (hnp:S.w.heap[b]?≠some poison) (hp:∀ x,wgs x→pend x+sumTo S.n (cnt S (fun _=>true) x)<1000) (hd:∀ j x,S.role j=.doner x→wgs x)
  (hf:∀ x,fz x→(S.fz x∧x≠b)∨(x=b∧∃ c t,o=.cells c t (0,c.size))):Fair { S with w:=setB S.w b o,chs:=chs,wgs:=wgs,fz:=fz,pend:=pend}:=by
 have hno:∀ j s,S.role j=.seat s→¬ s.own b:=fun j s hs ho=>hnp (F.ownp j s b hs ho);refine⟨fun j s hs=>by show s.hi≤(Lift.setB S.w b o).heap.size;rw[setB_size];exact F.top j s hs,fun j s x hs ho=>?_,F.apart,fun j s x hs hl=>?_,F.lento,fun c hc'=>?_,F.seatinj,fun x hx=>?_,fun j s x hs ho hx=>?_,hp,fun j x hj=>?_,F.small,
  fun x hx=>?_,fun x hx=>?_,F.n0le,F.olow,fun x hx=>?_,fun c hc'=>?_⟩
 ·exact(setB_ne fun e:x=b=>hno j s hs (e▸ho)).trans (F.ownp j s x hs ho)
 ·have e:(Lift.setB S.w b o).heap[x]?=S.w.heap[x]?:=setB_ne fun e:x=b=>hnl j s hs (e▸hl)
  obtain⟨h1,h2⟩:=F.lent j s x hs hl;exact⟨h1.eq e,by show(Lift.setB S.w b o).heap[x]?≠_;rw[e];exact h2⟩
 ·show(Lift.setB S.w b o).heap[c]?=_
  rcases hc c hc' with⟨h1,h2⟩ | ⟨rfl,rfl⟩ | ⟨h1,h2⟩
  ·rw[setB_ne h2];exact F.chs c h1
  ·exact setB_self hb
  ·by_cases e:c=b
   ·subst e;rw[h2];exact setB_self hb
   ·rw[setB_ne e];exact F.chs c h1
 ·show(Lift.setB S.w b o).heap[x]?=_
  rcases hw x hx with⟨h1,h2⟩ | ⟨rfl,rfl⟩
  ·rw[setB_ne h2];exact F.wgs x h1
  ·exact setB_self hb
 ·rcases hw x hx with⟨h1,_⟩ | ⟨rfl,_⟩
  ·exact F.wgo j s x hs ho h1
  ·exact hno j s hs ho
 ·obtain⟨h1,_,h3⟩:=F.donerg j x hj
  exact⟨h1,hd j x hj,h3⟩
 ·show ∃ c t,(Lift.setB S.w b o).heap[x]?=_
  rcases hf x hx with⟨h1,h2⟩ | ⟨rfl,c,t,rfl⟩
  ·obtain⟨c,t,h⟩:=F.fzs x h1
   exact⟨c,t,by rw[setB_ne h2];exact h⟩
  ·exact⟨c,t,setB_self hb⟩
 ·refine(F.low x hx).eq (setB_ne fun e=>?_)
  have:x<S.n0:=hx;omega
 ·rcases hw x hx with⟨h1,_⟩ | ⟨rfl,_⟩
  ·exact F.wlow x h1
  ·exact hlo
 ·rcases hc c hc' with⟨h1,_⟩ | ⟨rfl,_⟩ | ⟨h1,_⟩
  ·exact F.clow c h1
  ·exact hlo
  ·exact F.clow c h1
theorem sound_ghost (hS:∀ ρ ω und T gs W q lv,Base P ty S (·=h) (fun _=>False) (·=h) (Knows T h) ρ ω und T gs W q lv→Base P ty S' (·=h) (fun _=>False) (·=h) (Knows T h) ρ ω und T gs W q lv)(hr:S'.role h=S.role h)
  (hs:Sound P ty Post h S' g):Sound P ty Post h S g :=
 fun ρ ω und T gs W sl q lv G R=>hs ρ ω und T gs W sl q lv G ⟨hS ρ ω und T gs W q lv R.base,R.recd,R.rel,R.run,hr.trans R.role⟩
theorem sound_hide {c k:Nat}(hc:S.w.heap[c]?=some (.chan 0 #[] false k k false))(hlo:S.n0≤c)(hnl:∀ j s,S.role j=.seat s→¬ s.lent c)
  (hs:Sound P ty Post h { S with w:=setB S.w c poison,chs:=fun x=>S.chs x∨x=c} g):Sound P ty Post h S g:=by
 refine sound_ghost (S':={S with w:=setB S.w c poison,chs:=fun x=>S.chs x∨x=c}) (fun ρ ω und T gs W q lv C=>?_) rfl hs;have hnp:S.w.heap[c]?≠some poison:=by rw[hc];simp[poison]
 have hne:∀ {x},S.w.heap[x]?=some poison→x≠c:=fun h e=>hnp (e▸h);have F:=C.fair;obtain⟨C0,h0⟩:=C.full c _ hc (by simp[poison]);obtain⟨o,O,h1,h2,h3⟩:=C.view.obj c C0 h0;rw[hc] at h1;cases h1;cases h3 with
 | chan =>
  refine C.ghost (F.setB (lt_of_heap hc) hlo hnl (fun h=>absurd rfl h) (fun x hx=>hx.elim (fun h=>.inr (.inr ⟨h,rfl⟩)) fun h=>.inr (.inl ⟨h,rfl⟩)) (fun x hx=>.inl ⟨hx,hne (F.wgs x hx)⟩) hnp F.few (fun j x hj=>(F.donerg j x hj).2.1) fun x hx=>.inl ⟨hx,fun e=>?_⟩) setB_size
   (C.view.setB fun B O hB hO=>?_) (fun j s b hs hl=>setB_ne fun e=>hnl j s hs (e▸hl)) (fun x hx=>?_) (fun x hx=>.inl hx) C.wgs C.trace C.fz fun x o ho hn=>?_
  ·obtain⟨c1,t1,h⟩:=F.fzs x hx
   rw[e,hc] at h;cases h
  ·rw[h0] at hB;cases hB
   rw[h2] at hO;cases hO;exact .hidH
  ·rcases hx with hx | rfl
   ·exact C.chs x hx
   ·exact⟨C0,k,h0,h2⟩
  ·by_cases e:x=c
   ·subst e
    rw[setB_self (lt_of_heap hc)] at ho;cases ho;exact absurd rfl hn
   ·rw[setB_ne e] at ho
    exact C.full x o ho hn
theorem sound_freeze {b:Nat}{c:Array Value}{t:TypeId}(hb:S.w.heap[b]?=some (.cells c t (0,0)))(hlo:S.n0≤b)(hnl:∀ j s,S.role j=.seat s→¬ s.lent b)
  (hs:Sound P ty Post h { S with w:=setB S.w b (.cells c t (0,c.size)),fz:=fun x=>S.fz x∨x=b} g):Sound P ty Post h S g:=by
 refine sound_ghost (S':={S with w:=setB S.w b (.cells c t (0,c.size)),fz:=fun x=>S.fz x∨x=b}) (fun ρ ω und T gs W q lv C=>?_) rfl hs;have hnp:S.w.heap[b]?≠some poison:=by rw[hb];simp[poison]
 have hne:∀ {x},S.w.heap[x]?=some poison→x≠b:=fun h e=>hnp (e▸h);have F:=C.fair;obtain⟨B0,h0⟩:=C.full b _ hb (by simp[poison]);obtain⟨o,O,h1,h2,h3⟩:=C.view.obj b B0 h0;rw[hb] at h1;cases h1;cases h3 with
 | @cells _ C1 _ _ FZ ha hz =>
  obtain rfl:=hz.2 rfl;refine C.ghost (F.setB (lt_of_heap hb) hlo hnl (fun _=>hnp) (fun x hx=>.inl ⟨hx,hne (F.chs x hx)⟩) (fun x hx=>.inl ⟨hx,hne (F.wgs x hx)⟩) hnp F.few (fun j x hj=>(F.donerg j x hj).2.1) fun x hx=>?_) setB_size
   (C.view.setB fun B O hB hO=>?_) (fun j s b' hs hl=>setB_ne fun e=>hnl j s hs (e▸hl)) C.chs (fun x hx=>hx) C.wgs C.trace (fun x B hx hB=>?_) fun x o ho hn=>?_
  ·by_cases e:x=b
   ·exact .inr ⟨e,c,t,rfl⟩
   ·exact .inl ⟨hx.resolve_right e,e⟩
  ·rw[h0] at hB;cases hB
   rw[h2] at hO;cases hO;exact .cells ha ⟨fun o e=>by simp[inFz] at e,fun _=>rfl⟩
  ·by_cases e:x=b
   ·subst e
    rw[h0] at hB;cases hB;exact⟨C1,t,_,h2,rfl⟩
   ·exact C.fz x B (hx.resolve_right e) hB
  ·by_cases e:x=b
   ·subst e;exact⟨B0,h0⟩
   ·rw[setB_ne e] at ho
    exact C.full x o ho hn
theorem sound_thaw {b:Nat}{c:Array Value}{t:TypeId}(hb:S.w.heap[b]?=some (.cells c t (0,c.size)))(hf:S.fz b)(hlo:S.n0≤b)(hnl:∀ j s,S.role j=.seat s→¬ s.lent b)
  (hs:Sound P ty Post h { S with w:=setB S.w b (.cells c t (0,0)),fz:=fun x=>S.fz x∧x≠b} g):Sound P ty Post h S g:=by
 refine sound_ghost (S':={S with w:=setB S.w b (.cells c t (0,0)),fz:=fun x=>S.fz x∧x≠b}) (fun ρ ω und T gs W q lv C=>?_) rfl hs;have hnp:S.w.heap[b]?≠some poison:=by rw[hb];simp[poison]
 have hne:∀ {x},S.w.heap[x]?=some poison→x≠b:=fun h e=>hnp (e▸h);have F:=C.fair;obtain⟨B0,h0⟩:=C.full b _ hb (by simp[poison]);obtain⟨o,O,h1,h2,h3⟩:=C.view.obj b B0 h0;rw[hb] at h1;cases h1;obtain⟨C1,t1,FZ1,h4,hF⟩:=C.fz b B0 hf h0;cases h3 with
 | @cells _ C2 _ _ FZ ha hz =>
  rw[h2] at h4;cases h4;refine C.ghost (F.setB (lt_of_heap hb) hlo hnl (fun _=>hnp) (fun x hx=>.inl ⟨hx,hne (F.chs x hx)⟩) (fun x hx=>.inl ⟨hx,hne (F.wgs x hx)⟩) hnp F.few (fun j x hj=>(F.donerg j x hj).2.1) fun x hx=>.inl hx) setB_size
   (C.view.setB fun B O hB hO=>?_) (fun j s b' hs hl=>setB_ne fun e=>hnl j s hs (e▸hl)) C.chs (fun x hx=>hx) C.wgs C.trace (fun x B hx hB=>C.fz x B hx.1 hB) fun x o ho hn=>?_
  ·rw[h0] at hB;cases hB
   rw[h2] at hO;cases hO;exact .cells ha ⟨fun o e=>by rw[hF] at e;simp[inFz] at e,fun _=>hF⟩
  ·by_cases e:x=b
   ·subst e;exact⟨B0,h0⟩
   ·rw[setB_ne e] at ho
    exact C.full x o ho hn
theorem sound_hideG {b:Nat}{fz:Nat × Nat}(hb:S.w.heap[b]?=some (Go.ConcR.wgBlock ty 0 0))(hlo:S.n0≤b)(hnl:∀ j s,S.role j=.seat s→¬ s.lent b)(hnd:∀ j x,S.role j≠.doner x)(hg:∀ j,S.grp j≠some b)
  (hs:Sound P ty Post h { S with w:=setB S.w b poison,wgs:=fun x=>S.wgs x∨x=b,pend:=fun x=>if x=b then 0 else S.pend x} g):Sound P ty Post h S g:=by
 refine sound_ghost (S':={S with w:=setB S.w b poison,wgs:=fun x=>S.wgs x∨x=b,pend:=fun x=>if x=b then 0 else S.pend x}) (fun ρ ω und T gs W q lv C=>?_) rfl hs;have hnp:S.w.heap[b]?≠some poison:=by rw[hb];simp[poison,Go.ConcR.wgBlock]
 have hne:∀ {x},S.w.heap[x]?=some poison→x≠b:=fun h e=>hnp (e▸h);have F:=C.fair;have hz:∀ u n,sumTo n (cnt S u b)=0:=fun u n=>by
  induction n with
  | zero=>rfl
  | succ n ih =>
   show sumTo n _+cnt S u b n=0;rw[ih];unfold cnt;rw[if_neg fun h=>hg n h.1]
 obtain⟨B0,h0⟩:=C.full b _ hb (by simp[poison,Go.ConcR.wgBlock]);obtain⟨o,O,h1,h2,h3⟩:=C.view.obj b B0 h0;rw[hb] at h1;cases h1;unfold Go.ConcR.wgBlock at h3;cases h3 with
 | @cells _ C2 _ _ FZ ha hzz =>
  obtain rfl:=hzz.2 rfl;have hC2:C2=#[.int .u64 0,.int .u32 0]:=by
   obtain⟨X,x1,x2⟩:=ha.get (i:=0) rfl;obtain⟨Y,y1,y2⟩:=ha.get (i:=1) rfl;have hsz:C2.size=2:=ha.1.symm;cases x2 with
   | flat _ =>
    cases y2 with
    | flat _ =>
     apply Array.ext_getElem?;intro i
     match i with
     | 0=>exact x1
     | 1=>exact y1
     | i+2=>rw[ae' (by omega),ae' (by simp)]
  have hwg:WgAt ty B0 W 0 0:=by
   unfold WgAt;rw[h2,hC2];rfl
  refine C.ghost (F.setB (lt_of_heap hb) hlo hnl (fun h=>absurd rfl h) (fun x hx=>.inl ⟨hx,hne (F.chs x hx)⟩) (fun x hx=>?_) hnp (fun x hx=>?_) (fun j x hj=>.inl (F.donerg j x hj).2.1) fun x hx=>.inl ⟨hx,fun e=>?_⟩) setB_size
   (C.view.setB fun B O hB hO=>?_) (fun j s b' hs hl=>setB_ne fun e=>hnl j s hs (e▸hl)) C.chs (fun x hx=>hx) (fun x hx=>?_) ?_ C.fz fun x o ho hn=>?_
  ·by_cases e:x=b
   ·exact .inr ⟨e,rfl⟩
   ·exact .inl ⟨hx.resolve_right e,e⟩
  ·by_cases e:x=b
   ·subst e
    rw[if_pos rfl,hz];decide
   ·rw[if_neg e];exact F.few x (hx.resolve_right e)
  ·obtain⟨c1,t1,h⟩:=F.fzs x hx
   rw[e,hb] at h;simp[Go.ConcR.wgBlock] at h;have:=h.2.2;rw[← h.1] at this;simp at this
  ·rw[h0] at hB;cases hB
   rw[h2] at hO;cases hO;exact .hidC
  ·by_cases e:x=b
   ·subst e
    refine⟨B0,h0,?_⟩;rw[if_pos rfl,hz];exact Eq.mp (congrArg (fun z=>WgAt ty B0 W z 0) (by simp)) hwg
   ·rw[if_neg e];exact C.wgs x (hx.resolve_right e)
  ·have H:=C.trace
   have hns:∀ g,¬ isDoner S g:=fun g ⟨x,hx⟩=>hnd g x hx;refine⟨H.clean,fun i a ha hm=>?_,H.wrote,H.owned,fun i a g x ha hp hD=>absurd hD (hns g),H.objw,H.hears,H.seen⟩;refine(H.known i a ha hm).imp id fun k=>k.imp id fun⟨⟨x,hx,y,hy,hyx⟩,k2⟩=>⟨⟨x,hx,y,.inl hy,hyx⟩,k2⟩
  ·by_cases e:x=b
   ·subst e
    rw[setB_self (lt_of_heap hb)] at ho;cases ho;exact absurd rfl hn
   ·rw[setB_ne e] at ho
    exact C.full x o ho hn
end
def more (w:World)(k:Nat):World:={w with heap:=w.heap++Array.replicate k poison}
theorem more_size {w:World}{k:Nat}:(more w k).heap.size=w.heap.size+k:=by simp[more]
theorem more_old {w:World}{k b:Nat}(h:b<w.heap.size):(more w k).heap[b]?=w.heap[b]?:=by
 show(w.heap++_)[b]?=_;rw[Array.getElem?_append,if_pos h]
theorem more_new {w:World}{k b:Nat}(h:w.heap.size≤b)(h2:b<w.heap.size+k):(more w k).heap[b]?=some poison:=by
 show(w.heap++_)[b]?=_;rw[Array.getElem?_append,if_neg (by omega),Array.getElem?_replicate,if_pos (by omega)]
def SC.hire (S:SC)(s:SeatS)(b:Nat):SC :=
 { S with w:=more S.w (s.hi-s.lo),n:=S.n+1,role:=fun x=>if x=S.n then .seat s else S.role x,grp:=fun x=>if x=S.n then some b else S.grp x,pend:=fun x=>if x=b then S.pend x-1 else S.pend x}
structure HireOk (S:SC)(s:SeatS)(b:Nat):Prop where
 lo:s.lo=S.w.heap.size
 hi:s.lo≤s.hi
 chs:S.chs s.c
 lent:∀ b,s.lent b→Stl S.w b∧S.w.heap[b]?≠some poison
 num:∀ b a l,S.w.heap[b]?=some (.number a l)→s.lent b
 inj:∀ i s1,S.role i=.seat s1→s1.c≠s.c
 wgs:S.wgs b
 pend:0<S.pend b
theorem sumTo_congr {n:Nat}{f g:Nat→Nat}(h:∀ x,x<n→f x=g x):sumTo n f=sumTo n g:=by
 induction n with
 | zero=>rfl
 | succ n ih =>
  show sumTo n f+f n=sumTo n g+g n;rw[ih fun x hx=>h x (by omega),h n (by omega)]
section
variable {P:Program}{ty:TypeId}{Post:Value→World→Prop}{S:SC}{ρ ω σ ρp:Ren}{und:Nat→Bool}{T t:Trace}{gs gs':Array Goroutine}{W W' p:World}{q lv:Nat→Nat}{h j b:Nat}{g G:Goroutine}{s:SeatS}
theorem hire_n:(S.hire s b).role S.n=.seat s:=if_pos rfl
theorem hire_x {x:Nat}(hx:x≠S.n):(S.hire s b).role x=S.role x:=if_neg hx
theorem hire_cases {x:Nat}{s1:SeatS}(hx:(S.hire s b).role x=.seat s1):(x=S.n∧s1=s)∨(x≠S.n∧S.role x=.seat s1):=by
 by_cases e:x=S.n
 ·subst e;rw[hire_n] at hx;cases hx;exact .inl ⟨rfl,rfl⟩
 ·rw[hire_x e] at hx;exact .inr ⟨e,hx⟩
theorem hire_cnt (F:Fair S){u:Nat→Bool}(hu:u S.n=true)(O:HireOk S s b){x:Nat}:(S.hire s b).pend x+sumTo (S.n+1) (cnt (S.hire s b) u x)=S.pend x+sumTo S.n (cnt S u x):=by
 have h1:sumTo S.n (cnt (S.hire s b) u x)=sumTo S.n (cnt S u x):=sumTo_congr fun y hy=>by
  unfold cnt;have:(S.hire s b).grp y=S.grp y:=if_neg (by omega);rw[this]
 have h2:(S.hire s b).grp S.n=some b:=if_pos rfl;show _+(sumTo S.n _+cnt (S.hire s b) u x S.n)=_;rw[h1];by_cases e:x=b
 ·subst e
  have h3:cnt (S.hire s x) u x S.n=1:=by unfold cnt;rw[if_pos ⟨h2,hu⟩]
  have h4:(S.hire s x).pend x=S.pend x-1:=if_pos rfl;have:=O.pend;omega
 ·have h3:cnt (S.hire s b) u x S.n=0:=by
   unfold cnt;rw[if_neg fun k=>e ?_];have:=k.1;rw[h2] at this;exact(oj' this).symm
  have h4:(S.hire s b).pend x=S.pend x:=if_neg e;omega
theorem n0_le (F:Fair S):S.n0≤S.w.heap.size:=by
 rcases Nat.lt_or_ge S.w.heap.size S.n0 with h | h
 ·have:=stl_lt (F.low _ h)
  omega
 ·exact h
theorem Fair.hire (F:Fair S)(O:HireOk S s b):Fair (S.hire s b):=by
 have hold:∀ b',b'<S.w.heap.size→(more S.w (s.hi-s.lo)).heap[b']?=S.w.heap[b']?:=fun b' h=>more_old h;have hlo:=O.lo;have hhi:=O.hi;have holt:∀ {x s1 b'},S.role x=.seat s1→s1.own b'→b'<S.w.heap.size:=fun hs ho=>nl' ho.2 (F.top _ _ hs);refine⟨fun x s1 hx=>?_,fun x s1 b' hx ho=>?_,fun x y s1 s2 b' hx hy h1 h2=>?_,fun x s1 b' hx hl=>?_,fun x y s1 s2 b' hx hy hl ho=>?_,fun c hc=>(hold c (lt_of_heap (F.chs c hc))).trans (F.chs c hc),fun x y s1 s2 hx hy he=>?_,
  fun x hx=>(hold x (lt_of_heap (F.wgs x hx))).trans (F.wgs x hx),fun x s1 b' hx ho hw=>?_,fun x hx=>?_,fun x b' hx=>?_,fun x hx=>?_,fun x hx=>?_,fun x hx=>?_,F.n0le,fun x s1 b' hx ho=>?_,F.wlow,F.clow⟩
 ·show s1.hi≤(more S.w _).heap.size
  rw[more_size];rcases hire_cases hx with⟨_,rfl⟩ | ⟨_,hr⟩
  ·omega
  ·have:=F.top x s1 hr
   omega
 ·show(more S.w _).heap[b']?=_
  rcases hire_cases hx with⟨_,rfl⟩ | ⟨_,hr⟩
  ·have h1:=ho.1
   have h2:=ho.2;exact more_new (by omega) (by omega)
  ·rw[hold b' (holt hr ho)];exact F.ownp x s1 b' hr ho
 ·rcases hire_cases hx with⟨hx',rfl⟩ | ⟨_,hr⟩<;>rcases hire_cases hy with⟨hy',rfl⟩ | ⟨_,hr'⟩
  ·rw[hx',hy']
  ·have:=holt hr' h2
   have:=h1.1;omega
  ·have:=holt hr h1
   have:=h2.1;omega
  ·exact F.apart _ _ _ _ _ hr hr' h1 h2
 ·have key:Stl S.w b'∧S.w.heap[b']?≠some poison:=by
   rcases hire_cases hx with⟨_,rfl⟩ | ⟨_,hr⟩
   ·exact O.lent b' hl
   ·exact F.lent x s1 b' hr hl
  have e:=hold b' (stl_lt key.1);exact⟨key.1.eq e,by show(more S.w _).heap[b']?≠_;rw[e];exact key.2⟩
 ·have hlt:b'<S.w.heap.size:=by
   rcases hire_cases hx with⟨_,rfl⟩ | ⟨_,hr⟩
   ·exact stl_lt (O.lent b' hl).1
   ·exact stl_lt (F.lent x s1 b' hr hl).1
  rcases hire_cases hy with⟨_,rfl⟩ | ⟨_,hr'⟩
  ·have:=ho.1
   omega
  ·rcases hire_cases hx with⟨_,rfl⟩ | ⟨_,hr⟩
   ·exact(O.lent b' hl).2 (F.ownp y s2 b' hr' ho)
   ·exact F.lento _ _ _ _ _ hr hr' hl ho
 ·rcases hire_cases hx with⟨hx',rfl⟩ | ⟨_,hr⟩<;>rcases hire_cases hy with⟨hy',rfl⟩ | ⟨_,hr'⟩
  ·rw[hx',hy']
  ·exact absurd he.symm (O.inj y s2 hr')
  ·exact absurd he (O.inj x s1 hr)
  ·exact F.seatinj _ _ _ _ hr hr' he
 ·rcases hire_cases hx with⟨_,rfl⟩ | ⟨_,hr⟩
  ·have:=lt_of_heap (F.wgs b' hw)
   have:=ho.1;omega
  ·exact F.wgo x s1 b' hr ho hw
 ·show(S.hire s b).pend x+sumTo (S.n+1) _<_
  rw[hire_cnt F rfl O];exact F.few x hx
 ·by_cases e:x=S.n
  ·subst e;rw[hire_n] at hx;cases hx
  ·rw[hire_x e] at hx
   obtain⟨h1,h2,h3⟩:=F.donerg x b' hx;exact⟨(if_neg e).trans h1,h2,h3⟩
 ·show x<S.n+1
  by_cases e:x=S.n
  ·omega
  ·rw[hire_x e] at hx
   have:=F.small x hx;omega
 ·obtain⟨c,t,hc⟩:=F.fzs x hx
  exact⟨c,t,(hold x (lt_of_heap hc)).trans hc⟩
 ·have:=F.low x hx
  exact this.eq (hold x (stl_lt this))
 ·rcases hire_cases hx with⟨_,rfl⟩ | ⟨_,hr⟩
  ·have:=ho.1
   have:=n0_le F;show S.n0≤b';omega
  ·exact F.olow x s1 b' hr ho
theorem Base.hire (C:Base P ty S (·=h) (fun _=>False) (·=h) (Knows T h) ρ ω und T gs W q lv)(hh:S.role h=.none)(hn:h<S.n)(O:HireOk S s b){G' CH child:Goroutine}{n:Nat}(hc:GRel ρ child CH)
  (hw:WalkS P false s n child (only s.lent S.w)) (fn:FuncId) (pos:String) (fc:FuncId) :
  Base P ty (S.hire s b) (·=h) (fun _=>False) (·=h) (Knows (T++born2 h gs.size fn pos fc) h) ρ ω und (T++born2 h gs.size fn pos fc) ((gs.setIfInBounds h G').push CH) W (upd q S.n (n+1)) lv:=by
 have F:=C.fair;have hsz:=C.size;have hlo:=O.lo;have hhi:=O.hi;have hold:∀ b',b'<S.w.heap.size→(more S.w (s.hi-s.lo)).heap[b']?=S.w.heap[b']?:=fun b' h=>more_old h;have hrn:S.role S.n=.none:=Classical.byContradiction fun h=>Nat.lt_irrefl _ (F.small _ h);have hget:∀ x,x≠h→x≠S.n→((gs.setIfInBounds h G').push CH)[x]?=gs[x]?:=fun x hx hxn=>by
  rw[Array.getElem?_push,if_neg (by rw[Array.size_setIfInBounds,hsz];exact hxn),ar' (Ne.symm hx)]
 have hself:((gs.setIfInBounds h G').push CH)[S.n]?=some CH:=by
  rw[Array.getElem?_push,if_pos (by rw[Array.size_setIfInBounds,hsz])]
 have hd:∀ x,Deaf (T++born2 h gs.size fn pos fc) x=Deaf T x:=fun x=>Deaf_quiet (born2_quiet _ _ _ _ _ x);have hns:∀ x,isSeat S x→x≠S.n:=fun x ⟨s1,h1⟩ e=>by rw[e,hrn] at h1;cases h1
 have seatI:∀ x,isSeat (S.hire s b) x↔isSeat S x∨x=S.n:=fun x=>by
  constructor
  ·rintro⟨s1,h1⟩
   rcases hire_cases h1 with⟨e,_⟩ | ⟨_,hr⟩
   ·exact .inr e
   ·exact .inl ⟨s1,hr⟩
  ·rintro(h1 | h1)
   ·obtain⟨s1,hr⟩:=h1
    exact⟨s1,by rw[hire_x (hns x ⟨s1,hr⟩)];exact hr⟩
   ·exact⟨s,by rw[h1];exact hire_n⟩
 have hvw:View ρ (more S.w (s.hi-s.lo)) W:=by
  refine⟨fun b' B hB=>?_,C.view.inj,fun b' B hB=>?_,fun _ _=>rfl,WRel.os (w:=re S.w W.tape W.drawn) C.view,C.view.low.le (by show _≤(more S.w _).heap.size;rw[more_size];exact Nat.le_add_right _ _) (Nat.le_refl _)⟩
  ·show b'<(more S.w _).heap.size∧_
   rw[more_size];have:=C.view.dom b' B hB;exact⟨by omega,this.2⟩
  ·obtain⟨o,O',k1,k2,k3⟩:=C.view.obj b' B hB
   exact⟨o,O',(hold b' (lt_of_heap k1)).trans k1,k2,k3⟩
 have kw:=TP.knowsW (L:=fun x=>∃ b',s.lent b'∧ω b'=some x) C.trace (fun g x hg ⟨s1,b',h1,h2,h3⟩ ⟨b'',h4,h5⟩=>by
   obtain rfl:=C.oinj _ _ _ h3 h5;exact(O.lent b' h4).2 (F.ownp g s1 b' h1 h2)) (fun x ⟨b',h1,h2⟩ ⟨b'',h3,h4⟩=>by
   obtain rfl:=C.oinj _ _ _ h2 h4;exact(O.lent b' h1).2 (F.wgs b' h3))
 have t1:=TP.hire C.trace (.inr rfl) (C.above gs.size (by omega)) (fun z=>hns _ z hsz) fn pos fc kw;refine⟨F.hire O,?_,hvw,C.oinj,fun b' B hB=>?_,C.up,fun x s1 b' hx ho=>?_,fun b' B hB=>?_,fun x s1 hx hs1=>?_,fun x hx hr hlx=>?_,fun x b' hx hr=>?_,fun x hx=>?_,fun x hx=>?_,C.chs,fun x s1 _ hx=>?_,fun _ _ _ hD=>hD.elim,fun x hx=>?_,?_,
  fun x hx=>?_,C.fz,fun b' o ho hne=>?_,C.low,C.lowo⟩
 ·rw[Array.size_push,Array.size_setIfInBounds,hsz];rfl
 ·show b'<(more S.w _).heap.size∧_
  rw[more_size];have:=C.odom b' B hB;exact⟨by omega,this.2⟩
 ·rcases hire_cases hx with⟨_,rfl⟩ | ⟨_,hr⟩
  ·cases e:ρ b' with
   | none=>rfl
   | some B =>
    have:=(C.view.dom b' B e).1;have:=ho.1;omega
  ·exact C.hole x s1 b' hr ho
 ·refine(C.down b' B hB).imp id fun⟨x,s1,k1,k2⟩=>⟨x,s1,?_,k2⟩
  rw[hire_x (hns x ⟨s1,k1⟩)];exact k1
 ·rcases hire_cases hs1 with⟨rfl,rfl⟩ | ⟨e,hr⟩
  ·refine⟨CH,only s1.lent S.w,ρ,child,hself,?_⟩
   rw[upd_same];refine⟨⟨fun b' B hb=>?_,C.view.inj,fun b' B hb=>?_,fun _ _=>rfl,WRel.os (w:=re S.w W.tape W.drawn) C.view,C.view.low.le (by show _≤(only s1.lent S.w).heap.size;rw[only_size];exact Nat.le_refl _) (Nat.le_refl _)⟩,C.up,fun b' B hb=>.inl hb,fun b' B hb ho=>?_,fun b' B hb=>?_,?_,fun b' o ho hb _=>?_,?_,?_,.inl ⟨n,rfl,hc,?_⟩⟩
   ·show b'<(only s1.lent S.w).heap.size∧_
    rw[only_size];exact C.view.dom b' B hb
   ·obtain⟨o,O',k1,k2,k3⟩:=C.view.obj b' B hb
    by_cases e:s1.lent b'
    ·exact⟨o,O',by show(only s1.lent S.w).heap[b']?=_;rw[only_in e];exact k1,k2,k3⟩
    ·refine⟨poison,O',by show(only s1.lent S.w).heap[b']?=_;exact only_out e (C.view.dom b' B hb).1,k2,?_⟩
     cases k3 with
     | cells _ _=>exact .hidC
     | chan=>exact .hidH
     | number _=>exact absurd (O.num b' _ _ k1) e
     | hidC=>exact .hidC
     | hidH=>exact .hidH
   ·have:=(C.odom b' B hb).1
    have:=ho.1;omega
   ·by_cases e:s1.lent b'
    ·exact .inr (.inr ⟨e,(only_in e).trans (hold b' (C.view.dom b' B hb).1).symm⟩)
    ·exact .inl (only_out e (C.view.dom b' B hb).1)
   ·obtain⟨C1,k,k1,_⟩:=C.chs _ O.chs
    exact⟨C1,k1⟩
   ·have:=lt_of_heap hb
    rw[only_size] at this;have:=ho.1;omega
   ·rw[only_size];omega
   ·rw[only_size];omega
   ·have:(S.n==0)=false:=by simp;omega
    rw[this];exact hw
  ·obtain⟨G1,p1,ρ1,g1,h1,h2⟩:=C.seat x s1 hx hr
   refine⟨G1,p1,ρ1,g1,by rw[hget x hx e];exact h1,?_⟩;rw[upd_ne q _ e];exact h2.stays (fun _ _ h=>h) (fun _ _ h=>.inr h) (fun _ _ h _=>h) (fun b' hb=>hold b' (stl_lt (F.lent x s1 b' hr hb).1)) (Nat.le_refl _) rfl (fun _ _ _ _=>rfl) fun _ h=>h
 ·have e:x≠S.n:=fun e=>by rw[e,hire_n] at hr;cases hr
  rw[hire_x e] at hr;have hlx':x<S.n+1:=hlx;obtain⟨h0,G1,h1,h2⟩:=C.gone x hx hr (by omega);exact⟨h0,G1,by rw[hget x hx e];exact h1,by rw[upd_ne q _ e,hd];exact h2⟩
 ·have e:x≠S.n:=fun e=>by rw[e,hire_n] at hr;cases hr
  rw[hire_x e] at hr;obtain⟨G1,h1,h2⟩:=C.doner x b' hx hr;refine⟨G1,by rw[hget x hx e];exact h1,?_⟩;rw[upd_ne q _ e,hd];exact h2
 ·by_cases e:x=S.n
  ·subst e;exact C.lv0 _ fun b'=>by rw[hrn];simp
  ·exact C.lv0 x fun b' hb=>hx b' (by rw[hire_x e];exact hb)
 ·by_cases e:x=S.n
  ·subst e;exact C.und1 _ fun b'=>by rw[hrn];simp
  ·exact C.und1 x fun b' hb=>hx b' (by rw[hire_x e];exact hb)
 ·rcases hire_cases hx with⟨_,rfl⟩ | ⟨_,hr⟩
  ·exact O.chs
  ·exact C.seatch x s1 id hr
 ·obtain⟨B,h1,h2⟩:=C.wgs x hx
  refine⟨B,h1,?_⟩;have:(S.hire s b).pend x+sumTo (S.hire s b).n (cnt (S.hire s b) und x)=S.pend x+sumTo S.n (cnt S und x):=hire_cnt F (C.und1 _ fun b'=>by rw[hrn];simp) O;rw[this];exact h2
 ·refine t1.alike (fun g=>?_) (fun g ⟨b',hb⟩=>?_) (fun g hg=>?_) (fun g x hg=>?_) (fun g x hg=>?_) fun _=>Iff.rfl
  ·rw[seatI,hsz]
  ·have e:g≠S.n:=fun e=>by rw[e,hire_n] at hb;cases hb
   rw[hire_x e] at hb;exact⟨b',hb⟩
  ·rw[hd]
   rcases hg with hg | hg
   ·rcases (seatI g).1 hg with k | k
    ·exact C.trace.hears g (.inl k)
    ·exact C.above g (by omega)
   ·exact C.trace.hears g (.inr hg)
  ·by_cases e:g=S.n
   ·subst e
    rw[if_pos hsz.symm];unfold LentG;rw[hire_n];constructor
    ·rintro⟨s1,b',h1,h2,h3⟩;cases h1;exact⟨b',h2,h3⟩
    ·rintro⟨b',h2,h3⟩;exact⟨s,b',rfl,h2,h3⟩
   ·rw[if_neg (by rw[hsz];exact e)]
    unfold LentG;rw[hire_x e]
  ·by_cases e:g=S.n
   ·subst e
    rw[if_pos hsz.symm];refine iff_of_false ?_ id;rintro⟨s1,b',h1,h2,h3⟩;rw[hire_n] at h1;cases h1;have:=(C.odom _ _ h3).1;have:=h2.1;omega
   ·rw[if_neg (by rw[hsz];exact e)]
    unfold OwnG;rw[hire_x e]
 ·rw[hd]
  exact C.above x (by have:S.n+1≤x:=hx;omega)
 ·by_cases e:b'<S.w.heap.size
  ·exact C.full b' o ((hold b' e).symm.trans ho) hne
  ·have hl:=lt_of_heap ho
   have hl':b'<(more S.w (s.hi-s.lo)).heap.size:=hl;rw[more_size] at hl';have:(more S.w (s.hi-s.lo)).heap[b']?=some o:=ho;rw[more_new (by omega) hl'] at this;exact absurd (oj' this).symm hne
theorem sound_hire (hP:Fits P){g' child:Goroutine}(hok:g.frame.mode=.run→okHd P g.frame.eval g.frame.todo)(O:HireOk S s b)(hst:∀ τ d,∃ es,stepG P (h==0) g (re S.w τ d)=.spawn g' child (re S.w τ d) es)(hrun:g'.status=.running)
  (hw:∃ n,WalkS P false s n child (only s.lent S.w)) (hnext:Sound P ty Post h (S.hire s b) g'):Sound P ty Post h S g:=by
 refine sound_of_own hP fun ρ ω und T gs W sl q lv G R=>.inr ?_;obtain⟨n,hw⟩:=hw;obtain⟨es,e⟩:=hst W.tape W.drawn;have hv:WRel ρ (re S.w W.tape W.drawn) W:=R.base.view;obtain⟨σ,G',CH,W1,ES,h1,h2,h3,h4⟩:=(step_sim (M:=h==0) hP hv R.rel (.inl rfl) (fun⟨_,e,e'⟩=>hok (e.trans e'))).spawn _ _ _ _ e;have A:Acts ρ σ S.w S.w W W1 ES:=by
  have A:=Acts.of R.base.view h4;exact⟨(A.view.re S.w.tape S.w.drawn:View σ S.w W1),A.le,A.size,A.vsize,A.os,A.free,A.still,A.vis,A.kind,A.newb,A.full,A.tape,A.output,A.evs⟩
 have C1:=R.base.own0 A G.frame.fn G.frame.place;have hlt:h<gs.size:=(aq' R.recd).1;have hn:h<S.n:=R.base.size▸hlt;have C2:=Base.hire (S:=S) (G':=G') C1 R.role hn O h3 hw G.frame.fn G.frame.place CH.frame.fn;refine⟨_,_,runT_crowd_spawn (sl:=sl) R.recd h1,?_⟩;have hops:(((MemOp.ofEvents h G.frame.fn G.frame.place ES).push { g:=h,fn:=G.frame.fn,pos:=G.frame.place,act:=.go gs.size}).push { g:=gs.size,fn:=CH.frame.fn,pos:=G.frame.place,act:=.start}) =
   MemOp.ofEvents h G.frame.fn G.frame.place ES++born2 h gs.size G.frame.fn G.frame.place CH.frame.fn:=by
  apply Array.toList_inj.1;simp[born2]
 rw[hops,← Array.append_assoc];refine hnext _ _ _ _ _ _ sl _ _ G' ⟨C2,?_,h2,h2.status.symm.trans hrun,?_⟩
 ·rw[Array.getElem?_push,if_neg (by rw[Array.size_setIfInBounds];omega)]
  exact Array.getElem?_setIfInBounds_self_of_lt hlt
 ·rw[hire_x (by omega)];exact R.role
end
end Go.Proofs.Ytfbjopkiicmiiaa.Lift
namespace Go.Proofs.Ytfbjopkiicmiiaa.Lift
open Go Go.Conc Go.RowKit Go.Conc.Lib Go.ConcR.Gen Go.ConcN.Gen
open Go.ConcR (KK WgAt stA smA rd wr mk DC0)
open Go.ConcN (WgLive st_flag st_waiters)
variable {L:WgLink}
section
variable (P:Program)(m:Bool)(ty:TypeId)(Wg:Nat)(Fin:Goroutine→World→Prop)
def AQ4 (G:Goroutine)(W:World):Prop:=G.status=.running∧∃ G',stepG P m G W=.go G' W #[mk .enable]∧∃ n,Goes P m (RL ty Wg) DC0 Fin n G' W
def AQ3 (G:Goroutine)(W:World):Prop:=G.status=.running∧∃ G',stepG P m G W=.go G' W #[mk (.read ⟨Wg,1,none⟩)]∧∃ n,Goes P m (RL ty Wg) DC0 (AQ4 P m ty Wg Fin) n G' W
def AQ2 (G:Goroutine)(W:World):Prop:=G.status=.running∧∀ v:Nat,v<2147483647→WgAt ty Wg W (v*KK) 0 →
 ∃ G',stepG P m G W=.go G' (W.setCell (stA Wg) (.int .u64 ((v+1)*KK))) #[rd (stA Wg),wr (stA Wg)] ∧
  ((∃ n,Goes P m (RL ty Wg) DC0 (AQ3 P m ty Wg Fin) n G' (W.setCell (stA Wg) (.int .u64 ((v+1)*KK))))∨∃ n,Goes P m (RL ty Wg) DC0 (AQ4 P m ty Wg Fin) n G' (W.setCell (stA Wg) (.int .u64 ((v+1)*KK))))
def AQ1 (G:Goroutine)(W:World):Prop:=G.status=.running∧∃ G',stepG P m G W=.go G' W #[mk .disable]∧∃ n,Goes P m (RL ty Wg) DC0 (AQ2 P m ty Wg Fin) n G' W
end
theorem add_walk {P:Program}(H:WgLib P L){m:Bool}{Wg:Nat}{c:Frame}{cs:List Frame}(w:World)(hF:WgLive L.tWg Wg w) :
  Goes P m (RL L.tWg Wg) DC0 (AQ1 P m L.tWg Wg fun g _=>g=G (c.finish (.tuple #[])) cs) 20 (G (Frame.enter P L.add #[.pointer (some ⟨Wg,0,none⟩),.int .i64 1] .normal) (c::cs)) w:=by
 lib_facts
 rw[enter_at _ H.f_add (c:=body_add L) rfl]
 walk_nrmf addFn
 simp only[body_add,addFn,Option.getD_some]
 u_c sx' rl_r hF
 u_cnd true rl_r hF
 u_c sx' rl_r hF
 u_c sx' rl_r hF
 u_reg rl_r hF
 u_op rl_r hF
 u_op rl_r hF
 u_c se' rl_r hF
 u_cnd false rl_r hF
 u_c stepG_skip rl_r hF
 u_c sx' rl_r hF
 u_reg rl_r hF
 refine Goes.stop (fun w₁ h₁=>?_)
 replace hF:=rl_r hF h₁
 clear h₁;refine⟨rfl,_,stepG_mark0 .disable (by simp) rfl rfl (by k_ne) rfl H.f_disable (x_disable_n L) (x_disable_b L) (x_disable_x L) (x_disable_f L),60,?_⟩
 walk_nrm
 u_c se' rl_r hF
 u_reg rl_r hF
 u_defer rl_r hF
 u_c se' rl_r hF
 u_c sx' rl_r hF
 u_reg rl_r hF
 u_op rl_r hF
 u_c se' rl_r hF
 u_c sx' rl_r hF
 u_c sx' rl_r hF
 u_reg rl_r hF
 u_bub rl_r hF
 u_c se' rl_r hF
 u_cnd false rl_r hF
 u_c stepG_skip rl_r hF
 u_c sx' rl_r hF
 u_reg rl_r hF
 u_op rl_r hF
 u_op rl_r hF
 u_op rl_r hF
 u_op rl_r hF
 u_op rl_r hF
 u_op rl_r hF
 u_call H.f_uAdd (nm_uAdd L) uAddFn rl_r hF
 u_c sx' rl_r hF
 u_reg rl_r hF
 u_op rl_r hF
 u_c se' rl_r hF
 u_c sx' rl_r hF
 u_reg rl_r hF
 u_op rl_r hF
 u_op rl_r hF
 u_op rl_r hF
 u_op rl_r hF
 refine Goes.stop (fun w₂ h₂=>?_);clear h₂ hF;refine⟨rfl,fun v hv hw=>?_⟩;rcases Nat.eq_zero_or_pos v with rfl | hvp
 ·replace hw:WgAt L.tWg Wg w₂ 0 0:=by simpa using hw
  have z:(((0:Nat):Int)+1)*KK=KK:=by simp
  rw[z];have e0:IntKind.u64.wrap (0+4294967296)=KK:=by decide
  refine⟨_,(stepG_add_atomic rfl rfl (by k_ne) rfl H.f_addU64 (x_addU64_n L) (x_addU64_b L) (x_addU64_x L) .u64 (x_addU64_f L) rfl rfl hw.cellSt (hw.thaw 0)).trans (by rw[e0];rfl),.inl ⟨110,?_⟩⟩;have hF:WgLive L.tWg Wg (w₂.setCell (stA Wg) (.int .u64 KK)):=⟨_,_,hw.setSt _⟩;clear hw;simp only[KK] at hF ⊢
  walk_nrm
  u_op rl_r hF
  u_c se' rl_r hF
  u_c stepG_ret' rl_r hF
  u_leave1 H.f_uAdd rl_r hF
  u_op rl_r hF
  u_c se' rl_r hF
  u_c sx' rl_r hF
  u_c sx' rl_r hF
  u_reg rl_r hF
  u_op rl_r hF
  u_op rl_r hF
  u_op rl_r hF
  u_op rl_r hF
  u_skip rl_r hF
  u_skip rl_r hF
  u_op rl_r hF
  u_c se' rl_r hF
  u_cnd false rl_r hF
  u_c stepG_skip rl_r hF
  u_c sx' rl_r hF
  u_reg rl_r hF
  u_op rl_r hF
  u_op rl_r hF
  u_op rl_r hF
  u_op rl_r hF
  u_c se' rl_r hF
  u_c sx' rl_r hF
  u_reg rl_r hF
  u_op rl_r hF
  u_op rl_r hF
  u_op rl_r hF
  u_op rl_r hF
  u_c se' rl_r hF
  u_c sx' rl_r hF
  u_c sx' rl_r hF
  u_reg rl_r hF
  u_op rl_r hF
  u_op rl_r hF
  u_op rl_r hF
  u_op rl_r hF
  u_op rl_r hF
  u_op rl_r hF
  u_op rl_r hF
  u_op rl_r hF
  u_op rl_r hF
  u_op rl_r hF
  u_c se' rl_r hF
  u_cnd true rl_r hF
  u_reg rl_r hF
  u_op rl_r hF
  u_op rl_r hF
  u_op rl_r hF
  u_conv H.underlying_tPU32 H.room_tU32 (WgLive.cell1 hF).choose_spec rl_r hF
  refine Goes.stop (fun w₄ h₄=>?_)
  replace hF:=rl_r hF h₄
  clear h₄;refine⟨rfl,_,stepG_markAt .read (by simp) rfl rfl (by k_ne) rfl H.f_raceRead (x_raceRead_n L) (x_raceRead_b L) (x_raceRead_x L) (x_raceRead_f L) (ad:=⟨Wg,1,none⟩) (by simp[Act.eval]),60,?_⟩
  walk_nrm
  u_c se' rl_r hF
  u_c sx' rl_r hF
  u_c sx' rl_r hF
  u_reg rl_r hF
  u_op rl_r hF
  u_op rl_r hF
  u_c se' rl_r hF
  u_cnd false rl_r hF
  u_c stepG_skip rl_r hF
  u_c sx' rl_r hF
  u_c sx' rl_r hF
  u_reg rl_r hF
  u_op rl_r hF
  u_op rl_r hF
  u_op rl_r hF
  u_skip rl_r hF
  u_skip rl_r hF
  u_op rl_r hF
  u_op rl_r hF
  u_skip rl_r hF
  u_skip rl_r hF
  u_skip rl_r hF
  u_skip rl_r hF
  u_op rl_r hF
  u_c se' rl_r hF
  u_cnd false rl_r hF
  u_c stepG_skip rl_r hF
  u_c sx' rl_r hF
  u_c sx' rl_r hF
  u_reg rl_r hF
  u_op rl_r hF
  u_op rl_r hF
  u_op rl_r hF
  u_skip rl_r hF
  u_skip rl_r hF
  u_op rl_r hF
  u_c se' rl_r hF
  u_cnd true rl_r hF
  u_c stepG_ret' rl_r hF
  refine Goes.stop (fun w₃ h₃=>?_)
  replace hF:=rl_r hF h₃
  clear h₃;refine⟨rfl,_,stepG_unwind_entry (v:=.tuple #[]) (evs:=#[mk .enable]) rfl H.f_enable (x_enable_n L) (x_enable_b L) (x_enable_x L) (x_enable_f L) (by simp[Extern.Race.none_]) (by simp[mk]) (by simp[mk]),2,?_⟩
  u_in rl_r hF
  rw[stepG_leave rfl rfl H.f_add (results_none rfl _ P _) (events_results_none rfl _ _)];simp only[goes_go];refine⟨by u_nil,?_⟩;exact Goes.stop (fun _ _=>rfl)
 ·obtain⟨V,hV⟩:∃ V:Int,V=(v:Int)+1:=⟨_,rfl⟩
  obtain⟨S,hS⟩:∃ S:Int,S=V*KK:=⟨_,rfl⟩;have eS:IntKind.u64.wrap ((v:Int)*KK+4294967296)=S:=by rw[IntKind.wrap_u64,hS,hV];simp only[KK];omega
  rw[← hV,← hS];have a1:S / 4294967296=V:=by rw[hS];simp only[KK];omega
  have b1:bits .and .u64 S 2147483648=0:=by rw[hS,hV];have:=st_flag (v+1) 0 (by omega) (by omega);simpa[KK] using this
  have b2:bits .and .u64 S 2147483647=0:=by rw[hS,hV];have:=st_waiters (v+1) 0 (by omega) (by omega);simpa[KK] using this
  have c1:IntKind.i32.wrap V=V:=by rw[IntKind.wrap_i32];omega
  have hV1:1<V:=by omega
  have hV2:V<2147483648:=by omega
  have q1:(V==1)=false:=by simp;omega
  have q2:decide (V=1)=false:=decide_eq_false (by omega);have q3:decide (V<0)=false:=decide_eq_false (by omega);have q4:decide (0<V)=true:=decide_eq_true (by omega);have q5:(V==0)=false:=by simp;omega
  have q6:decide (V=0)=false:=decide_eq_false (by omega);refine⟨_,(stepG_add_atomic rfl rfl (by k_ne) rfl H.f_addU64 (x_addU64_n L) (x_addU64_b L) (x_addU64_x L) .u64 (x_addU64_f L) rfl rfl hw.cellSt (hw.thaw 0)).trans (by rw[eS];rfl),.inr ⟨110,?_⟩⟩;have hF:WgLive L.tWg Wg (w₂.setCell (stA Wg) (.int .u64 S)):=⟨_,_,hw.setSt _⟩;clear hw hS hV eS
  walk_nrm
  u_op rl_r hF
  u_c se' rl_r hF
  u_c stepG_ret' rl_r hF
  u_leave1 H.f_uAdd rl_r hF
  u_op rl_r hF
  u_c se' rl_r hF
  u_c sx' rl_r hF
  u_c sx' rl_r hF
  u_reg rl_r hF
  u_op rl_r hF
  u_op rl_r hF
  u_op rl_r hF
  u_op rl_r hF
  u_skip rl_r hF
  u_skip rl_r hF
  u_op rl_r hF
  u_c se' rl_r hF
  u_cnd false rl_r hF
  u_c stepG_skip rl_r hF
  u_c sx' rl_r hF
  u_reg rl_r hF
  u_op rl_r hF
  u_op rl_r hF
  u_op rl_r hF
  u_op rl_r hF
  u_c se' rl_r hF
  u_c sx' rl_r hF
  u_reg rl_r hF
  u_op rl_r hF
  u_op rl_r hF
  u_op rl_r hF
  u_op rl_r hF
  u_c se' rl_r hF
  u_c sx' rl_r hF
  u_c sx' rl_r hF
  u_reg rl_r hF
  u_op rl_r hF
  u_op rl_r hF
  u_op rl_r hF
  u_op rl_r hF
  u_op rl_r hF
  u_op rl_r hF
  u_op rl_r hF
  u_op rl_r hF
  u_op rl_r hF
  u_op rl_r hF
  u_c se' rl_r hF
  u_cnd false rl_r hF
  u_c stepG_skip rl_r hF
  u_c sx' rl_r hF
  u_c sx' rl_r hF
  u_reg rl_r hF
  u_op rl_r hF
  u_op rl_r hF
  u_c se' rl_r hF
  u_cnd false rl_r hF
  u_c stepG_skip rl_r hF
  u_c sx' rl_r hF
  u_c sx' rl_r hF
  u_reg rl_r hF
  u_op rl_r hF
  u_op rl_r hF
  u_op rl_r hF
  u_skip rl_r hF
  u_skip rl_r hF
  u_op rl_r hF
  u_op rl_r hF
  u_skip rl_r hF
  u_skip rl_r hF
  u_skip rl_r hF
  u_skip rl_r hF
  u_op rl_r hF
  u_c se' rl_r hF
  u_cnd false rl_r hF
  u_c stepG_skip rl_r hF
  u_c sx' rl_r hF
  u_c sx' rl_r hF
  u_reg rl_r hF
  u_op rl_r hF
  u_op rl_r hF
  u_op rl_r hF
  u_skip rl_r hF
  u_skip rl_r hF
  u_op rl_r hF
  u_c se' rl_r hF
  u_cnd true rl_r hF
  u_c stepG_ret' rl_r hF
  refine Goes.stop (fun w₃ h₃=>?_)
  replace hF:=rl_r hF h₃
  clear h₃;refine⟨rfl,_,stepG_unwind_entry (v:=.tuple #[]) (evs:=#[mk .enable]) rfl H.f_enable (x_enable_n L) (x_enable_b L) (x_enable_x L) (x_enable_f L) (by simp[Extern.Race.none_]) (by simp[mk]) (by simp[mk]),2,?_⟩
  u_in rl_r hF
  rw[stepG_leave rfl rfl H.f_add (results_none rfl _ P _) (events_results_none rfl _ _)];simp only[goes_go];refine⟨by u_nil,?_⟩;exact Goes.stop (fun _ _=>rfl)
#print axioms add_walk
end Go.Proofs.Ytfbjopkiicmiiaa.Lift
namespace Go.Proofs.Ytfbjopkiicmiiaa.Lift
open Go Go.Conc
open Go.ConcN (sumTo upd sumTo_upd upd_ne upd_same WgLive)
open Go.ConcR (KK WgAt stA smA DC0)
structure Half (P:Program)(ty:TypeId)(h d:Nat)(S:SC)(ρ ω:Ren)(und:Nat→Bool)(T:Trace)(gs:Array Goroutine)(W:World)(q lv:Nat→Nat)(G:Goroutine):Prop where
 base:Base P ty S (·=h) (fun _=>False) (fun x=>x=h∧d=0) (Knows T h) ρ ω und T gs W q lv
 recd:gs[h]?=some G
 run:G.status=.running
 role:S.role h=.none
 deaf:Deaf T h=d
section
variable {P:Program}{ty:TypeId}{Post:Value→World→Prop}{S:SC}{h d:Nat}{g:Goroutine}{ρ ω:Ren}{und:Nat→Bool}{T:Trace}{gs gs':Array Goroutine}{W:World}{q lv:Nat→Nat}{G:Goroutine}{b B:Nat}
theorem Half.at (R:Half P ty h d S ρ ω und T gs W q lv G)(e:Nat):Half P ty h d S ρ ω und T gs (W.at e) q lv G:=⟨R.base.at e,R.recd,R.run,R.role,R.deaf⟩
theorem Half.awake (R:Half P ty h d S ρ ω und T gs W q lv G):∀ x∈gs,awake x:=by
 intro x hx;obtain⟨i,hi,rfl⟩:=Array.mem_iff_getElem.1 hx;by_cases e:i=h
 ·subst e
  have:gs[i]=G:=by simpa[as' hi] using R.recd
  rw[this];exact awake_of (.inl R.run)
 ·exact R.base.awake1 e (as' hi)
theorem Half.by (hP:Fits P)(R:Half P ty h d S ρ ω und T gs W q lv G){i:Nat}{X:Goroutine}(hi:gs[i]?=some X)(hne:i≠h)(hrun:X.status=.running)(sl:Option (Nat × Nat)) :
  ∃ gs' W' ops q' lv' und' ω',runT P (crowd gs W sl) i=(.next (crowd gs' W' sl),ops)∧Half P ty h d S ρ ω' und' (T++ops) gs' W' q' lv' G∧Less (meas S q' lv') (meas S q lv):=by
 obtain⟨gs',W',ops,q',lv',und',ω',h1,h2,h3,h4,h5,_,h6,h7,h8⟩:=R.base.by_stepG (sl:=sl) (Kf:=fun t=>Knows t h) hP (fun t u x=>Knows.app u) hi hne hrun (fun x hx=>hx.1) (fun hD=>hD.elim)
  (fun x gx hx hgx=>by subst hx;rw[R.recd] at hgx;cases hgx;exact .inl R.run)
  (fun s p ρp g' _ _ _=>⟨fun hD=>hD,fun x gx c hx hgx _=>by
   subst hx;rw[R.recd] at hgx;cases hgx;exact offersAt_of_not_blocked (by rw[R.run];simp) _ _⟩)
 exact⟨gs',W',ops,q',lv',und',ω',h1,⟨h6,by rw[h3 h (Ne.symm hne)];exact R.recd,R.run,R.role,by rw[Deaf_other T hne _ h8];exact R.deaf⟩,h7⟩
theorem Half.mute (R:Half P ty h d S ρ ω und T gs W q lv G){G':Goroutine}(hrun:G'.status=.running){es:Array Event}(hn:∀ e∈es,(MemAct.ofEvent e).touch?=none)(hl:∀ e∈es,(MemAct.ofEvent e).low W.heap.size){d':Nat}(hd:deafBehind d es=d')(fn:FuncId)(pos:String) :
  Half P ty h d' S ρ ω und (T++MemOp.ofEvents h fn pos es) (gs.setIfInBounds h G') W q lv G':=by
 have C:=R.base;have hlt:h<gs.size:=(aq' R.recd).1;have hdf:Deaf (T++MemOp.ofEvents h fn pos es) h=d':=by rw[Deaf_own,R.deaf];exact hd
 have hns:¬ isSeat S h:=fun⟨s,hs⟩=>by rw[R.role] at hs;cases hs
 have t0:TP (isSeat S) (isDoner S) (fun j=>isSeat S j) (LentG S ω) (OwnG S ω) (ShunG S ω) W.heap.size (Knows T h) T:=C.trace.fewer fun g hg=>.inl hg;have t1:=t0.appMute (u:=MemOp.ofEvents h fn pos es) (K':=Knows (T++MemOp.ofEvents h fn pos es) h) (fun i hi=>hi.app _) ops_g (fun op hop=>by obtain⟨e,he,rfl⟩:=Go.Conc.mem_ofEvents hop;exact hn e he) (fun hh=>absurd hh hns)
  fun op hop=>by obtain⟨e,he,rfl⟩:=Go.Conc.mem_ofEvents hop;exact hl e he
 have t2:TP (isSeat S) (isDoner S) (fun j=>isSeat S j∨(j=h∧d'=0)) (LentG S ω) (OwnG S ω) (ShunG S ω) W.heap.size (Knows (T++MemOp.ofEvents h fn pos es) h) (T++MemOp.ofEvents h fn pos es) :=
  t1.more fun g hg=>hg.elim (t1.hears g) fun⟨e1,e2⟩=>by rw[e1,hdf,e2]
 have hl0:lv h=0:=C.lv0 h fun b=>by rw[R.role];simp
 refine⟨?_,Array.getElem?_setIfInBounds_self_of_lt hlt,hrun,R.role,hdf⟩;have hdo:∀ x,x≠h→Deaf (T++MemOp.ofEvents h fn pos es) x=Deaf T x:=fun x hx=>Deaf_other T (fun e=>hx e.symm) _ ops_g;have hget:∀ x,x≠h→(gs.setIfInBounds h G')[x]?=gs[x]?:=fun x hx=>ar' fun e=>hx e.symm;exact⟨C.fair,by rw[Array.size_setIfInBounds];exact C.size,C.view,C.oinj,C.odom,C.up,C.hole,C.down,fun x s hx hs=>by rw[hget x hx];exact C.seat x s hx hs,fun x hx hs hlx=>by rw[hget x hx,hdo x hx];exact C.gone x hx hs hlx,
  fun x b hx hs=>by rw[hget x hx,hdo x hx];exact C.doner x b hx hs,C.lv0,C.und1,C.chs,C.seatch,fun _ _ _ hD=>hD.elim,C.wgs,t2,fun x hx=>(hdo x (by have:=C.size;omega)).trans (C.above x hx),C.fz,C.full,C.low,C.lowo⟩
theorem half_goesJ (hP:Fits P)(hb:S.wgs b)(hB:ρ b=some B){Stop:Goroutine→World→Prop}{J:(Nat→Bool)→(Nat→Nat)→(Nat→Nat)→Prop}(hJ:∀ und q lv und' q' lv',J und q lv→Less (meas S q' lv') (meas S q lv)→J und' q' lv')(hsr:∀ G W,Stop G W→G.status=.running)
  (hstop:∀ ω und T gs W sl q lv G,Half P ty h d S ρ ω und T gs W q lv G→J und q lv→Stop G W→∃ m' ops,runT P (crowd gs W sl) h=(.next m',ops)∧Comes P Post m' (T++ops)) :
  ∀ (n:Nat) (G:Goroutine) ω und T gs W sl q lv,Half P ty h d S ρ ω und T gs W q lv G→J und q lv→Goes P (h==0) (RL ty B) DC0 Stop n G W→Comes P Post (crowd gs W sl) T:=by
 intro n
 induction n with
 | zero =>
  intro G ω und T gs W sl q lv R hj hG;refine comes_wf Less.wf (fun a m t=>∃ ω und gs W sl q lv,m=crowd gs W sl∧Half P ty h d S ρ ω und t gs W q lv G∧J und q lv∧Goes P (h==0) (RL ty B) DC0 Stop 0 G W∧a=meas S q lv) ?_ (meas S q lv) _ T ⟨ω,und,gs,W,sl,q,lv,rfl,R,hj,hG,rfl⟩;rintro a m t ⟨ω,und,gs,W,sl,q,lv,rfl,R,hj,hG,rfl⟩;obtain⟨i,X,e,sl',hi,hX,hst⟩:=crowd_pick (P:=P) (w:=W) (sl:=sl) R.awake ⟨h,G,R.recd,R.run⟩;by_cases e1:i=h
  ·subst e1
   obtain⟨m',ops,h1,h2⟩:=hstop ω und t gs (W.at e) sl' q lv G (R.at e) hj (hG _ (RL.same rfl));exact .inl (Comes.next (hst.trans h1) h2)
  ·obtain⟨gs',W',ops,q',lv',und',ω',h1,h2,h3⟩:=(R.at e).by hP hi e1 hX sl'
   obtain⟨B',k1,k2⟩:=h2.base.wgs b hb;obtain rfl:B'=B:=by rw[hB] at k1;exact(oj' k1).symm
   exact .inr ⟨_,ops,_,hst.trans h1,h3,ω',und',gs',W',sl',q',lv',rfl,h2,hJ _ _ _ _ _ _ hj h3,Goes.rely rl_trans hG (RL.live ⟨_,_,k2⟩),rfl⟩
 | succ n ih =>
  intro G ω und T gs W sl q lv R hj hG;refine comes_wf Less.wf (fun a m t=>∃ ω und gs W sl q lv,m=crowd gs W sl∧Half P ty h d S ρ ω und t gs W q lv G∧J und q lv∧Goes P (h==0) (RL ty B) DC0 Stop (n+1) G W∧a=meas S q lv) ?_ (meas S q lv) _ T ⟨ω,und,gs,W,sl,q,lv,rfl,R,hj,hG,rfl⟩;clear R hG hj;rintro a m t ⟨ω,und,gs,W,sl,q,lv,rfl,R,hj,hG,rfl⟩;obtain⟨i,X,e,sl',hi,hX,hst⟩:=crowd_pick (P:=P) (w:=W) (sl:=sl) R.awake ⟨h,G,R.recd,R.run⟩;by_cases e1:i=h
  ·subst e1
   left;rcases hG with hG | ⟨_,hG⟩
   ·obtain⟨m',ops,h1,h2⟩:=hstop ω und t gs (W.at e) sl' q lv G (R.at e) hj (hG _ (RL.same rfl))
    exact Comes.next (hst.trans h1) h2
   ·have hs:=hG (W.at e) (RL.same rfl)
    cases e2:stepG P (i==0) G (W.at e) with
    | go G' W' es =>
     rw[e2,goes_go] at hs;obtain⟨⟨rfl,rfl⟩,h'⟩:=hs;have hrun:G'.status=.running:=Goes.running hsr _ (RL.same rfl) h';have R':=(R.at e).mute (G':=G') hrun (es:=#[]) (fun e he=>by simp at he) (fun e he=>by simp at he) (d':=d) (deafBehind_nil d) G.frame.fn G.frame.place;have e3:=runT_crowd_go (sl:=sl') R.recd e2;rw[R'.base.unwoken fun x gx hx hgx=>by subst hx;rw[R.recd] at hgx;cases hgx;exact .inl R.run] at e3;exact Comes.next (hst.trans e3) (ih G' ω und _ _ _ sl' q lv R' hj h')
    | _=>rw[e2] at hs;exact hs.elim
  ·obtain⟨gs',W',ops,q',lv',und',ω',h1,h2,h3⟩:=(R.at e).by hP hi e1 hX sl'
   obtain⟨B',k1,k2⟩:=h2.base.wgs b hb;obtain rfl:B'=B:=by rw[hB] at k1;exact(oj' k1).symm
   exact .inr ⟨_,ops,_,hst.trans h1,h3,ω',und',gs',W',sl',q',lv',rfl,h2,hJ _ _ _ _ _ _ hj h3,Goes.rely rl_trans hG (RL.live ⟨_,_,k2⟩),rfl⟩
theorem half_goes (hP:Fits P)(hb:S.wgs b)(hB:ρ b=some B){Stop:Goroutine→World→Prop}(hsr:∀ G W,Stop G W→G.status=.running)
  (hstop:∀ ω und T gs W sl q lv G,Half P ty h d S ρ ω und T gs W q lv G→Stop G W→∃ m' ops,runT P (crowd gs W sl) h=(.next m',ops)∧Comes P Post m' (T++ops)) :
  ∀ (n:Nat) (G:Goroutine) ω und T gs W sl q lv,Half P ty h d S ρ ω und T gs W q lv G→Goes P (h==0) (RL ty B) DC0 Stop n G W→Comes P Post (crowd gs W sl) T:=by
 intro n G ω und T gs W sl q lv R hG;exact half_goesJ hP hb hB (J:=fun _ _ _=>True) (fun _ _ _ _ _ _ _ _=>trivial) hsr (fun ω und T gs W sl q lv G R _ h=>hstop ω und T gs W sl q lv G R h) n G ω und T gs W sl q lv R trivial hG
theorem half_toJ (hP:Fits P)(hb:S.wgs b)(hB:ρ b=some B){Stop:Goroutine→World→Prop}{J:(Nat→Bool)→(Nat→Nat)→(Nat→Nat)→Prop}(hJ:∀ und q lv und' q' lv',J und q lv→Less (meas S q' lv') (meas S q lv)→J und' q' lv')(hsr:∀ G W,Stop G W→G.status=.running)
  (hstop:∀ ω und T gs W sl q lv G,Half P ty h d S ρ ω und T gs W q lv G→J und q lv→Stop G W→Comes P Post (crowd gs W sl) T) :
  ∀ (n:Nat) (G:Goroutine) ω und T gs W sl q lv,Half P ty h d S ρ ω und T gs W q lv G→J und q lv→Goes P (h==0) (RL ty B) DC0 Stop n G W→Comes P Post (crowd gs W sl) T:=by
 intro n
 induction n with
 | zero =>
  intro G ω und T gs W sl q lv R hj hG;exact hstop ω und T gs W sl q lv G R hj (hG _ (RL.same rfl))
 | succ n ih =>
  intro G ω und T gs W sl q lv R hj hG;refine comes_wf Less.wf (fun a m t=>∃ ω und gs W sl q lv,m=crowd gs W sl∧Half P ty h d S ρ ω und t gs W q lv G∧J und q lv∧Goes P (h==0) (RL ty B) DC0 Stop (n+1) G W∧a=meas S q lv) ?_ (meas S q lv) _ T ⟨ω,und,gs,W,sl,q,lv,rfl,R,hj,hG,rfl⟩;clear R hG hj;rintro a m t ⟨ω,und,gs,W,sl,q,lv,rfl,R,hj,hG,rfl⟩;rcases hG with hG | ⟨hrun0,hG⟩
  ·exact .inl (hstop ω und t gs W sl q lv G R hj (hG _ (RL.same rfl)))
  obtain⟨i,X,e,sl',hi,hX,hst⟩:=crowd_pick (P:=P) (w:=W) (sl:=sl) R.awake ⟨h,G,R.recd,R.run⟩;by_cases e1:i=h
  ·subst e1
   left;have hs:=hG (W.at e) (RL.same rfl);cases e2:stepG P (i==0) G (W.at e) with
   | go G' W' es =>
    rw[e2,goes_go] at hs;obtain⟨⟨rfl,rfl⟩,h'⟩:=hs;have hrun:G'.status=.running:=Goes.running hsr _ (RL.same rfl) h';have R':=(R.at e).mute (G':=G') hrun (es:=#[]) (fun e he=>by simp at he) (fun e he=>by simp at he) (d':=d) (deafBehind_nil d) G.frame.fn G.frame.place;have e3:=runT_crowd_go (sl:=sl') R.recd e2;rw[R'.base.unwoken fun x gx hx hgx=>by subst hx;rw[R.recd] at hgx;cases hgx;exact .inl R.run] at e3;exact Comes.next (hst.trans e3) (ih G' ω und _ _ _ sl' q lv R' hj h')
   | _=>rw[e2] at hs;exact hs.elim
  ·obtain⟨gs',W',ops,q',lv',und',ω',h1,h2,h3⟩:=(R.at e).by hP hi e1 hX sl'
   obtain⟨B',k1,k2⟩:=h2.base.wgs b hb;obtain rfl:B'=B:=by rw[hB] at k1;exact(oj' k1).symm
   exact .inr ⟨_,ops,_,hst.trans h1,h3,ω',und',gs',W',sl',q',lv',rfl,h2,hJ _ _ _ _ _ _ hj h3,Goes.rely rl_trans (.inr ⟨hrun0,hG⟩) (RL.live ⟨_,_,k2⟩),rfl⟩
theorem half_to (hP:Fits P)(hb:S.wgs b)(hB:ρ b=some B){Stop:Goroutine→World→Prop}(hsr:∀ G W,Stop G W→G.status=.running)
  (hstop:∀ ω und T gs W sl q lv G,Half P ty h d S ρ ω und T gs W q lv G→Stop G W→Comes P Post (crowd gs W sl) T) :
  ∀ (n:Nat) (G:Goroutine) ω und T gs W sl q lv,Half P ty h d S ρ ω und T gs W q lv G→Goes P (h==0) (RL ty B) DC0 Stop n G W→Comes P Post (crowd gs W sl) T:=by
 intro n G ω und T gs W sl q lv R hG;exact half_toJ hP hb hB (J:=fun _ _ _=>True) (fun _ _ _ _ _ _ _ _=>trivial) hsr (fun ω und T gs W sl q lv G R _ h=>hstop ω und T gs W sl q lv G R h) n G ω und T gs W sl q lv R trivial hG
theorem half_mark (R:Half P ty h d S ρ ω und T gs W q lv G){G':Goroutine}(hrun:G'.status=.running){es:Array Event}(hst:stepG P (h==0) G W=.go G' W es)(hn:∀ e∈es,(MemAct.ofEvent e).touch?=none)(hl:∀ e∈es,(MemAct.ofEvent e).low W.heap.size){d':Nat}(hd:deafBehind d es=d')
  (sl:Option (Nat × Nat)) (hk:∀ gs' T',Half P ty h d' S ρ ω und T' gs' W q lv G'→Comes P Post (crowd gs' W sl) T'):∃ m' ops,runT P (crowd gs W sl) h=(.next m',ops)∧Comes P Post m' (T++ops):=by
 have R':=R.mute hrun hn hl hd G.frame.fn G.frame.place;have e3:=runT_crowd_go (sl:=sl) R.recd hst;rw[R'.base.unwoken fun x gx hx hgx=>by subst hx;rw[R.recd] at hgx;cases hgx;exact .inl R.run] at e3;exact⟨_,_,e3,hk _ _ R'⟩
end
def SoundX (P:Program)(ty:TypeId)(Post:Value→World→Prop)(h:Nat)(S:SC)(f:FuncId)(args:Array Value)(c:Frame)(cs:List Frame):Prop :=
 ∀ ρ ω und T gs0 W sl q lv G,Ring P ty h S (gs (Frame.enter P f args .normal) (c::cs)) ρ ω und T gs0 W q lv G→(∃ A,G.frame=Frame.enter P f A .normal∧ARel ρ args A)→Comes P Post (crowd gs0 W sl) T
section
variable {P:Program}{ty:TypeId}{Post:Value→World→Prop}{S:SC}{h d:Nat}{g:Goroutine}{ρ ω:Ren}{und:Nat→Bool}{T:Trace}{gs':Array Goroutine}{W:World}{q lv:Nat→Nat}{G:Goroutine}{b B:Nat}
def SC.up (S:SC)(b:Nat):SC:={S with pend:=fun x=>if x=b then S.pend x+1 else S.pend x}
theorem Fair.up (F:Fair S)(hfew:S.pend b+1+sumTo S.n (cnt S (fun _=>true) b)<1000):Fair (S.up b):=by
 refine⟨F.top,F.ownp,F.apart,F.lent,F.lento,F.chs,F.seatinj,F.wgs,F.wgo,fun x hx=>?_,F.donerg,F.small,F.fzs,F.low,F.n0le,F.olow,F.wlow,F.clow⟩;show(if x=b then _ else _)+sumTo S.n (cnt S (fun _=>true) x)<1000;by_cases e:x=b
 ·subst e;rw[if_pos rfl];exact hfew
 ·rw[if_neg e];exact F.few x hx
theorem Half.up {gs:Array Goroutine}(R:Half P ty h 1 S ρ ω und T gs W q lv G)(hb:S.wgs b)(hB:ρ b=some B)(hfew:S.pend b+1+sumTo S.n (cnt S (fun _=>true) b)<1000){v:Nat}(hv:S.pend b+sumTo S.n (cnt S und b)=v){G':Goroutine}(hrun:G'.status=.running)
  (fn:FuncId) (pos:String):Half P ty h 1 (S.up b) ρ ω und (T++MemOp.ofEvents h fn pos #[Go.ConcR.rd (stA B),Go.ConcR.wr (stA B)]) (gs.setIfInBounds h G') (W.setCell (stA B) (.int .u64 ((v+1)*KK))) q lv G':=by
 have C:=R.base;have F:=C.fair;have hlt:h<gs.size:=(aq' R.recd).1;have hop:=ops_g (j:=h) (fn:=fn) (pos:=pos) (es:=#[Go.ConcR.rd (stA B),Go.ConcR.wr (stA B)]);have hst:∀ e∈#[Go.ConcR.rd (stA B),Go.ConcR.wr (stA B)],e.loc≠.mark .disable∧e.loc≠.mark .enable:=by
  intro e he;simp only[List.mem_toArray,List.mem_cons,List.not_mem_nil,or_false] at he;rcases he with rfl | rfl<;>exact⟨by simp[Go.ConcR.rd,Go.ConcR.wr],by simp[Go.ConcR.rd,Go.ConcR.wr]⟩
 have hdj:Deaf (T++MemOp.ofEvents h fn pos #[Go.ConcR.rd (stA B),Go.ConcR.wr (stA B)]) h=1:=by
  rw[Deaf_own,deafBehind_still hst];exact R.deaf
 have hdo:∀ x,x≠h→Deaf (T++MemOp.ofEvents h fn pos #[Go.ConcR.rd (stA B),Go.ConcR.wr (stA B)]) x=Deaf T x:=fun x hx=>Deaf_other T (fun e=>hx e.symm) _ hop;obtain⟨B0,hB0,hwg⟩:=C.wgs b hb;obtain rfl:B0=B:=by rw[hB] at hB0;exact(oj' hB0).symm
 have hne:∀ X,X≠B0→(W.setCell (stA B0) (.int .u64 ((v+1)*KK))).heap[X]?=W.heap[X]?:=fun X hX=>heap_set_ne _ _ _ hX;have hwg':WgAt ty B0 (W.setCell (stA B0) (.int .u64 ((v+1)*KK))) ((v+1)*KK) 0:=hwg.setSt _;have hsize:(W.setCell (stA B0) (.int .u64 ((v+1)*KK))).heap.size=W.heap.size:=by simp[World.setCell]
 have hBlt:=(C.odom b B0 (C.up _ _ hB)).2;have hinj:∀ b',ω b'=some B0→b'=b:=fun b' h=>C.oinj _ _ _ h (C.up _ _ hB);have hget:∀ x,x≠h→(gs.setIfInBounds h G')[x]?=gs[x]?:=fun x hx=>ar' fun e=>hx e.symm;have hA:=C.apartG;have hS:ShunG S ω B0:=⟨b,hb,C.up _ _ hB⟩;have ht:=C.trace.appH (B':=W.heap.size) (Nat.le_refl _) hop (fun op hop' x hx=>by
  obtain⟨e,he,rfl⟩:=Go.Conc.mem_ofEvents hop';have hx':∃ w,x=⟨.cell (stA B0),w,.atomic⟩:=by
   simp only[List.mem_toArray,List.mem_cons,List.not_mem_nil,or_false] at he;rcases he with rfl | rfl
   ·exact⟨_,touch_cell hx⟩
   ·exact⟨_,touch_cell hx⟩
  obtain⟨w,rfl⟩:=hx';exact⟨fun g y hs hy hO=>(by cases hy;exact hA.os g _ hs hO hS),fun g y hs hy hL=>(by cases hy;exact absurd hS (hA.ls g _ hs hL)),fun y hy _=>by simp,fun y hy _=>by cases hy⟩) (fun _=>by rw[hdj,R.deaf]) (fun op hop'=>by
  obtain⟨e,he,rfl⟩:=Go.Conc.mem_ofEvents hop';simp only[List.mem_toArray,List.mem_cons,List.not_mem_nil,or_false] at he;rcases he with rfl | rfl<;>exact hBlt)
 refine⟨⟨F.up hfew,by rw[Array.size_setIfInBounds];exact C.size,C.view.keep (Nat.le_of_eq hsize.symm) rfl fun b' B' hb'=>?_,C.oinj,fun b' B' h=>by rw[hsize];exact C.odom b' B' h,C.up,C.hole,C.down,fun x s hx hs=>?_,fun x hx hs hlx=>?_,fun x b' hx hs=>?_,
  C.lv0,C.und1,fun c hc=>?_,C.seatch,fun _ _ _ hD=>hD.elim,fun b' hb'=>?_,by rw[hsize];exact ht,fun x hx=>?_,fun b' B' hb' hB'=>?_,C.full,⟨C.low.os,C.low.tape,C.low.output,Nat.le_trans C.low.size (Nat.le_of_eq hsize.symm),fun B' hB'=>?_⟩,C.lowo⟩,Array.getElem?_setIfInBounds_self_of_lt hlt,hrun,R.role,hdj⟩
 ·by_cases e:B'=B0
  ·subst e
   obtain rfl:=hinj b' (C.up _ _ hb');exact .inr ⟨F.wgs b' hb,.inl ⟨_,_,_,hwg'⟩⟩
  ·exact .inl (hne B' e)
 ·obtain⟨G1,p,ρp,g,h1,h2⟩:=C.seat x s hx hs
  refine⟨G1,p,ρp,g,by rw[hget x hx];exact h1,?_⟩;refine h2.stays (fun _ _ h=>h) (fun _ _ h=>.inr h) (fun _ _ h _=>h) (fun _ _=>rfl) (Nat.le_of_eq hsize.symm) rfl (fun b' B' hb' ho=>hne B' fun e'=>?_) fun _ h=>setCell_cc h;subst e';obtain rfl:=hinj b' hb';rcases ho with ho | ho
  ·exact F.wgo x s b' hs ho hb
  ·exact(F.lent x s b' hs ho).2 (F.wgs b' hb)
 ·obtain⟨h0,G1,h1,h2⟩:=C.gone x hx hs hlx
  exact⟨h0,G1,by rw[hget x hx];exact h1,by rw[hdo x hx];exact h2⟩
 ·obtain⟨G1,h1,h2⟩:=C.doner x b' hx hs
  refine⟨G1,by rw[hget x hx];exact h1,?_⟩;rw[hdo x hx];refine h2.imp (fun⟨u,B',k1,k2,k3,k4⟩=>⟨u,B',k1,k2,k3.rely ?_,k4⟩) id;by_cases e':B'=B0
  ·subst e';exact RL.live ⟨_,_,hwg'⟩
  ·exact RL.same (hne B' e')
 ·obtain⟨c',k',h1,h2⟩:=C.chs c hc
  refine⟨c',k',h1,(hne c' fun e=>?_).trans h2⟩;rw[e] at h2;unfold WgAt Go.ConcR.wgBlock at hwg;rw[hwg] at h2;cases h2
 ·by_cases e:b'=b
  ·subst e
   refine⟨B0,hB,?_⟩;have e2:(S.up b').pend b'+sumTo S.n (cnt S und b')=v+1:=by
    show(if b'=b' then _ else _)+_=_;rw[if_pos rfl];omega
   show WgAt ty B0 _ (((S.up b').pend b'+sumTo S.n (cnt S und b'):Nat)*KK) 0;rw[e2];exact Eq.mp (congrArg (fun z=>WgAt ty B0 (W.setCell (stA B0) (.int .u64 ((v+1)*KK))) z 0) (by simp)) hwg'
  ·obtain⟨B',h1,h2⟩:=C.wgs b' hb'
   refine⟨B',h1,?_⟩;have e2:(S.up b).pend b'=S.pend b':=if_neg e;show WgAt ty B' _ (((S.up b).pend b'+sumTo S.n (cnt S und b'):Nat)*KK) 0;rw[e2];exact h2.of_block (hne B' fun e'=>e (hinj b' (e'▸C.up _ _ h1)))
 ·rw[hdo x (by have:S.n≤x:=hx;have:=C.size;omega)];exact C.above x hx
 ·obtain⟨C',t',FZ,h1,h2⟩:=C.fz b' B' hb' hB'
  refine⟨C',t',FZ,(hne B' fun e=>?_).trans h1,h2⟩;subst e;obtain rfl:=hinj b' (C.up _ _ hB');obtain⟨c,t,hc⟩:=F.fzs b' hb';rw[F.wgs b' hb] at hc;cases hc
 ·refine(hne B' fun e=>?_).trans (C.low.block B' hB')
  have h1:=C.lowo b B' (e▸C.up _ _ hB) hB';have h2:=F.wlow b hb;omega
theorem said_read_touch {B:Nat}{e:Event}(he:e∈#[Go.ConcR.mk (.read ⟨B,1,none⟩)]){x:Touch}(hx:(MemAct.ofEvent e).touch?=some x):∃ k,x=⟨.cell ⟨B,1,none⟩,false,k⟩∧k≠.plain:=by
 simp only[List.mem_toArray,List.mem_cons,List.not_mem_nil,or_false] at he;subst he;simp only[Go.ConcR.mk,MemAct.ofEvent,MemAct.touch?,Option.some.injEq] at hx;subst hx;exact⟨_,rfl,by simp⟩
theorem Half.said {gs:Array Goroutine}(R:Half P ty h d S ρ ω und T gs W q lv G)(hb:S.wgs b)(hB:ρ b=some B){G':Goroutine}(hrun:G'.status=.running)(fn:FuncId)(pos:String) :
  Half P ty h d S ρ ω und (T++MemOp.ofEvents h fn pos #[Go.ConcR.mk (.read ⟨B,1,none⟩)]) (gs.setIfInBounds h G') W q lv G':=by
 have C:=R.base;have hlt:h<gs.size:=(aq' R.recd).1;have hop:=ops_g (j:=h) (fn:=fn) (pos:=pos) (es:=#[Go.ConcR.mk (.read ⟨B,1,none⟩)]);have hst:∀ e∈#[Go.ConcR.mk (.read ⟨B,1,none⟩)],e.loc≠.mark .disable∧e.loc≠.mark .enable:=by
  intro e he;simp only[List.mem_toArray,List.mem_cons,List.not_mem_nil,or_false] at he;subst he;exact⟨by simp[Go.ConcR.mk],by simp[Go.ConcR.mk]⟩
 have hdf:Deaf (T++MemOp.ofEvents h fn pos #[Go.ConcR.mk (.read ⟨B,1,none⟩)]) h=d:=by rw[Deaf_own,deafBehind_still hst];exact R.deaf
 have hdo:∀ x,x≠h→Deaf (T++MemOp.ofEvents h fn pos #[Go.ConcR.mk (.read ⟨B,1,none⟩)]) x=Deaf T x:=fun x hx=>Deaf_other T (fun e=>hx e.symm) _ hop;have hget:∀ x,x≠h→(gs.setIfInBounds h G')[x]?=gs[x]?:=fun x hx=>ar' fun e=>hx e.symm;have hA:=C.apartG;have hS:ShunG S ω B:=⟨b,hb,C.up _ _ hB⟩;have ht:=C.trace.appH (B':=W.heap.size) (Nat.le_refl _) hop (fun op hop' x hx=>by
  obtain⟨e,he,rfl⟩:=Go.Conc.mem_ofEvents hop';obtain⟨k,rfl,hk⟩:=said_read_touch he hx;exact⟨fun g y hs hy hO=>(by cases hy;exact hA.os g _ hs hO hS),fun g y hs hy hL=>(by cases hy;exact absurd hS (hA.ls g _ hs hL)),fun y hy _=>hk,fun y hy _=>by cases hy⟩) (fun _=>by rw[hdf,R.deaf]) (fun op hop'=>by
  obtain⟨e,he,rfl⟩:=Go.Conc.mem_ofEvents hop';simp only[List.mem_toArray,List.mem_cons,List.not_mem_nil,or_false] at he;subst he;exact(C.odom b B (C.up _ _ hB)).2)
 exact⟨⟨C.fair,by rw[Array.size_setIfInBounds];exact C.size,C.view,C.oinj,C.odom,C.up,C.hole,C.down,fun x s hx hs=>by rw[hget x hx];exact C.seat x s hx hs,fun x hx hs hlx=>by rw[hget x hx,hdo x hx];exact C.gone x hx hs hlx,
  fun x b hx hs=>by rw[hget x hx,hdo x hx];exact C.doner x b hx hs,C.lv0,C.und1,C.chs,C.seatch,fun _ _ _ hD=>hD.elim,C.wgs,ht,fun x hx=>(hdo x (by have:=C.size;omega)).trans (C.above x hx),C.fz,C.full,C.low,C.lowo⟩,
  Array.getElem?_setIfInBounds_self_of_lt hlt,hrun,R.role,hdf⟩
theorem goes_same {m:Bool}{R:World→World→Prop}{D:World→World→Array Event→Prop}{Stop:Goroutine→World→Prop}{g1 g2:Goroutine}(h1:g2.frame=g1.frame)(h2:g2.callers=g1.callers)(h3:g2.dying=g1.dying)(h4:g2.status=g1.status)(hS:∀ W,Stop g1 W→Stop g2 W){n:Nat}
  (hg:Goes P m R D Stop n g1 W):Goes P m R D Stop n g2 W:=by
 cases n with
 | zero=>exact fun W1 hW=>hS W1 (hg W1 hW)
 | succ n =>
  rcases hg with hg | ⟨hr,hg⟩
  ·exact .inl fun W1 hW=>hS W1 (hg W1 hW)
  ·refine .inr ⟨h4.trans hr,fun W1 hW=>?_⟩
   rw[stepG_same h1 h2 h3 W1];exact hg W1 hW
open Go.ConcR.Gen Go.Conc.Lib in
theorem sound_add {L:WgLink}(H:WgLib P L)(hP:Fits P){c:Frame}{cs:List Frame}(hb:S.wgs b)(hfew:S.pend b+1+sumTo S.n (cnt S (fun _=>true) b)<1000)
  (hnext:Sound P L.tWg Post h (S.up b) (gs (c.finish (.tuple #[])) cs)):SoundX P L.tWg Post h S L.add #[.pointer (some ⟨b,0,none⟩),.int .i64 1] c cs:=by
 intro ρ ω und T gs0 W sl q lv G R hx;obtain⟨B,hB,hwg⟩:=R.base.wgs b hb;obtain⟨F,CS,st,dy,off⟩:=G;obtain⟨r1,r2,r3,r4⟩:=R.rel;simp only[gs] at r1 r2 r3 r4;obtain⟨args',hF,ha⟩:=hx;simp only at hF;subst hF;have hargs:args'=#[.pointer (some ⟨B,0,none⟩),.int .i64 1]:=by
  obtain⟨X,x1,x2⟩:=ha.get (i:=0) rfl;obtain⟨Y,y1,y2⟩:=ha.get (i:=1) rfl;have hsz:args'.size=2:=ha.1.symm;cases x2 with
  | flat h=>cases h
  | pointer hp =>
   rw[hB] at hp;cases hp;cases y2 with
   | flat _ =>
    apply Array.ext_getElem?;intro i
    match i with
    | 0=>exact x1
    | 1=>exact y1
    | i+2=>rw[ae' (by omega),ae' (by simp)]
 subst hargs;subst r3;obtain⟨_,rfl⟩:=r4;cases r2 with
 | @cons _ C _ CS' hc hcs =>
 have R0:Half P L.tWg h 0 S ρ ω und T gs0 W q lv { frame:=Frame.enter P L.add #[.pointer (some ⟨B,0,none⟩),.int .i64 1] .normal,callers:=C::CS',status:=.running,dying:=none,offers:=off}:=by
  have C0:=R.base;have e:(fun x=>x=h∧0=0)=(fun x:Nat=>x=h):=funext fun x=>propext (and_iff_left rfl);exact⟨by rw[e];exact C0,R.recd,rfl,R.role,C0.trace.hears h (.inr rfl)⟩
 refine half_goes hP hb hB (Stop:=AQ1 P (h==0) L.tWg B fun g _=>g=Go.Conc.G (C.finish (.tuple #[])) CS') (fun _ _ h=>h.1) (fun ω und T gs W sl q lv G R hAQ=>?_) 20 _ ω und T gs0 W sl q lv R0 (goes_same rfl rfl rfl rfl (fun W ⟨h1,h2⟩=>⟨rfl,by
  have e:=stepG_same (P:=P) (main:=h==0) (g:={frame:=Frame.enter P L.add #[.pointer (some ⟨B,0,none⟩),.int .i64 1] .normal,callers:=C::CS',status:=.running,dying:=none,offers:=off}) (h:=Go.Conc.G (Frame.enter P L.add #[.pointer (some ⟨B,0,none⟩),.int .i64 1] .normal) (C::CS')) rfl rfl rfl W;rw[e];exact h2⟩) (add_walk H W ⟨_,_,hwg⟩))
 clear R0;obtain⟨hrun,G1,hst,n1,hg1⟩:=hAQ;refine half_mark (d':=1) R (Goes.running (fun _ _ h=>h.1) _ (RL.same rfl) hg1) hst (mark_mute _ rfl) (fun e he=>?_) (by rfl) sl fun gs T R=>?_
 ·simp only[List.mem_toArray,List.mem_cons,List.not_mem_nil,or_false] at he
  subst he;trivial
 refine half_goes hP hb hB (Stop:=AQ2 P (h==0) L.tWg B fun g _=>g=Go.Conc.G (C.finish (.tuple #[])) CS') (fun _ _ h=>h.1) (fun ω und T gs W sl q lv G Rb hAQ=>?_) n1 _ ω und T gs W sl q lv R hg1;obtain⟨hrun,hst⟩:=hAQ;obtain⟨v,hv⟩:∃ v,S.pend b+sumTo S.n (cnt S und b)=v:=⟨_,rfl⟩;obtain⟨B1,k1,k2⟩:=Rb.base.wgs b hb;obtain rfl:B1=B:=by rw[hB] at k1;exact(oj' k1).symm
 rw[hv] at k2;have hle:=cnt_le (und:=und) (S:=S) b S.n;obtain⟨G2,hst2,hg2⟩:=hst v (by omega) k2;have hb':(S.up b).wgs b:=hb;have fin:∀ ω und T gs W sl q lv G,Half P L.tWg h 1 (S.up b) ρ ω und T gs W q lv G→AQ4 P (h==0) L.tWg B1 (fun g _=>g=Go.Conc.G (C.finish (.tuple #[])) CS') G W →
   ∃ m' ops,runT P (crowd gs W sl) h=(.next m',ops)∧Comes P Post m' (T++ops):=fun ω und T gs W sl q lv G R ⟨hrun,G3,hst3,n3,hg3⟩=>by
  refine half_mark (d':=0) R (Goes.running (fun g _ h=>by rw[h];rfl) _ (RL.same rfl) hg3) hst3 (mark_mute _ rfl) (fun e he=>?_) (by rfl) sl fun gs T R=>?_
  ·simp only[List.mem_toArray,List.mem_cons,List.not_mem_nil,or_false] at he
   subst he;trivial
  refine half_to hP hb' hB (Stop:=fun g _=>g=Go.Conc.G (C.finish (.tuple #[])) CS') (fun g _ h=>by rw[h];rfl) (fun ω und T gs W sl q lv G R hG=>?_) n3 _ ω und T gs W sl q lv R hg3;subst hG;have C0:=R.base;have e:(fun x=>x=h∧0=0)=(fun x:Nat=>x=h):=funext fun x=>propext (and_iff_left rfl);rw[e] at C0;exact hnext ρ ω und T gs W sl q lv _ ⟨C0,R.recd,⟨hc.finish ρ.le_refl (VRel.tuple' ARel.nil),hcs,rfl,rfl,rfl⟩,rfl,R.role⟩
 have hlast:∀ n4 G4 W4,Goes P (h==0) (RL L.tWg B1) DC0 (AQ4 P (h==0) L.tWg B1 fun g _=>g=Go.Conc.G (C.finish (.tuple #[])) CS') n4 G4 W4→∀ ω und T gs sl q lv,Half P L.tWg h 1 (S.up b) ρ ω und T gs W4 q lv G4→Comes P Post (crowd gs W4 sl) T:=fun n4 G4 W4 hg4 ω und T gs sl q lv R =>
  half_goes hP hb' hB (fun _ _ h=>h.1) fin n4 _ ω und T gs W4 sl q lv R hg4
 have hrun2:G2.status=.running:=by
  rcases hg2 with⟨n,h⟩ | ⟨n,h⟩
  ·exact Goes.running (fun _ _ h=>h.1) _ (RL.same rfl) h
  ·exact Goes.running (fun _ _ h=>h.1) _ (RL.same rfl) h
 have R2:=Rb.up hb hB hfew hv hrun2 G.frame.fn G.frame.place;have e3:=runT_crowd_go (sl:=sl) Rb.recd hst2;rw[R2.base.unwoken fun x gx hx hgx=>by subst hx;rw[Rb.recd] at hgx;cases hgx;exact .inl Rb.run] at e3;refine⟨_,_,e3,?_⟩;rcases hg2 with⟨n,h2⟩ | ⟨n,h2⟩
 ·refine half_goes hP hb' hB (Stop:=AQ3 P (h==0) L.tWg B1 fun g _=>g=Go.Conc.G (C.finish (.tuple #[])) CS') (fun _ _ h=>h.1) (fun ω und T gs W sl q lv G R hAQ=>?_) n _ ω und _ _ _ sl q lv R2 h2
  obtain⟨hrun,G3,hst3,n3,hg3⟩:=hAQ;have R3:=R.said hb' hB (Goes.running (fun _ _ h=>h.1) _ (RL.same rfl) hg3) G.frame.fn G.frame.place;have e4:=runT_crowd_go (sl:=sl) R.recd hst3;rw[R3.base.unwoken fun x gx hx hgx=>by subst hx;rw[R.recd] at hgx;cases hgx;exact .inl R.run] at e4;exact⟨_,_,e4,hlast n3 _ _ hg3 _ _ _ _ sl _ _ R3⟩
 ·exact hlast n _ _ h2 _ _ _ _ sl _ _ R2
end
end Go.Proofs.Ytfbjopkiicmiiaa.Lift
namespace Go.Proofs.Ytfbjopkiicmiiaa.Lift
open Go Go.Conc Go.RowKit Go.Conc.Lib Go.ConcR.Gen Go.ConcN.Gen
open Go.ConcR (KK WgAt stA smA rd wr mk DC0)
open Go.ConcN (WgLive st_flag st_waiters)
variable {L:WgLink}
section
variable (P:Program)(m:Bool)(ty:TypeId)(Wg:Nat)(Fin Anch:Goroutine→World→Prop)
def WE2 (G:Goroutine)(W:World):Prop:=G.status=.running∧∃ G',stepG P m G W=.go G' W #[mk (.acquire (stA Wg))]∧∃ n,Goes P m (RL ty Wg) DC0 Fin n G' W
def WE1 (G:Goroutine)(W:World):Prop:=G.status=.running∧∃ G',stepG P m G W=.go G' W #[mk .enable]∧∃ n,Goes P m (RL ty Wg) DC0 (WE2 P m ty Wg Fin) n G' W
def WQ5 (G:Goroutine)(W:World):Prop:=G.status=.running∧(WgAt ty Wg W 0 0→∃ G',stepG P m G W=.go G' W #[rd (stA Wg)]∧∃ n,Goes P m (RL ty Wg) DC0 (WE1 P m ty Wg Fin) n G' W)
def WQ4 (G:Goroutine)(W:World):Prop:=G.status=.running∧G.offers=none∧((∃ st,WgAt ty Wg W st 0)→stepG P m G W=.go { G with status:=.blocked} W #[]) ∧
 (WgAt ty Wg W 0 1→∃ G',stepG P m G W=.go G' (W.setCell (smA Wg) (.int .u32 0)) (semEvents (smA Wg))∧∃ n,Goes P m (RL ty Wg) DC0 (WQ5 P m ty Wg Fin) n G' (W.setCell (smA Wg) (.int .u32 0)))
def WQ3 (G:Goroutine)(W:World):Prop:=G.status=.running∧∃ G',stepG P m G W=.go G' W #[mk (.write ⟨Wg,1,none⟩)]∧∃ n,Goes P m (RL ty Wg) DC0 (WQ4 P m ty Wg Fin) n G' W
def WQ2 (vs:Nat)(G:Goroutine)(W:World):Prop:=G.status=.running∧∀ v:Nat,v<2147483648→WgAt ty Wg W (v*KK) 0 →
 (v=vs→∃ G',stepG P m G W=.go G' (W.setCell (stA Wg) (.int .u64 (v*KK+1))) #[rd (stA Wg),wr (stA Wg)]∧∃ n,Goes P m (RL ty Wg) DC0 (WQ3 P m ty Wg Fin) n G' (W.setCell (stA Wg) (.int .u64 (v*KK+1)))) ∧
 (v≠vs→∃ G',stepG P m G W=.go G' W #[rd (stA Wg)]∧∃ n,Goes P m (RL ty Wg) DC0 Anch n G' W)
def WQ1 (G:Goroutine)(W:World):Prop:=G.status=.running∧∀ v:Nat,v<2147483648→WgAt ty Wg W (v*KK) 0→∃ G',stepG P m G W=.go G' W #[rd (stA Wg)] ∧
 (v=0→∃ n,Goes P m (RL ty Wg) DC0 (WE1 P m ty Wg Fin) n G' W)∧(v≠0→∃ n,Goes P m (RL ty Wg) DC0 (WQ2 P m ty Wg Fin Anch v) n G' W)
def WD (G:Goroutine)(W:World):Prop:=G.status=.running∧∃ G',stepG P m G W=.go G' W #[mk .disable]∧∃ n,Goes P m (RL ty Wg) DC0 Anch n G' W
end
def AnchH (L:WgLink)(Wg:Nat)(c:Frame)(cs:List Frame)(g:Goroutine)(w:World):Prop :=
 ∃ T:Array Value,g=G ((base L.wait).at ⟨T,[]⟩ [.code (L7 L),.inLoop (L7 L),.inBlock 0]) (c::cs)∧T.size=84∧T[0]?=some (.pointer (some ⟨Wg,0,none⟩))∧WgLive L.tWg Wg w
theorem wait_start {P:Program}(H:WgLib P L){m:Bool}{Wg:Nat}{c:Frame}{cs:List Frame}(w:World)(hF:WgLive L.tWg Wg w) :
  Goes P m (RL L.tWg Wg) DC0 (WD P m L.tWg Wg (AnchH L Wg c cs)) 10 (G (Frame.enter P L.wait #[.pointer (some ⟨Wg,0,none⟩)] .normal) (c::cs)) w:=by
 lib_facts
 rw[enter_at _ H.f_wait (c:=body_wait L) rfl]
 walk_nrmf waitFn
 simp only[body_wait,waitFn,Option.getD_some]
 u_c sx' rl_r hF
 u_cnd true rl_r hF
 u_reg rl_r hF
 refine Goes.stop (fun w₁ h₁=>?_)
 replace hF:=rl_r hF h₁
 clear h₁;refine⟨rfl,_,stepG_mark0 .disable (by simp) rfl rfl (by k_ne) rfl H.f_disable (x_disable_n L) (x_disable_b L) (x_disable_x L) (x_disable_f L),6,?_⟩
 walk_nrm
 u_c se' rl_r hF
 u_c stepG_block rl_r hF
 u_c stepG_loop rl_r hF
 exact Goes.stop (fun w₂ h₂=>⟨_,rfl,by simp,by simp,rl_r hF h₂⟩)
theorem wait_round {P:Program}(H:WgLib P L){m:Bool}{Wg:Nat}{c:Frame}{cs:List Frame}(g:Goroutine)(w:World)(h:AnchH L Wg c cs g w) :
  Goes P m (RL L.tWg Wg) DC0 (WQ1 P m L.tWg Wg (fun g _=>g=G (c.finish (.tuple #[])) cs) (AnchH L Wg c cs)) 30 g w:=by
 lib_facts
 obtain⟨T,rfl,hT84,t0,hF⟩:=h;obtain⟨v0,v1,v2,v3,v4,v5,v6,v7,v8,v9,v10,v11,v12,v13,v14,v15,v16,v17,v18,v19,v20,v21,v22,v23,v24,v25,v26,v27,v28,v29,v30,v31,v32,v33,v34,v35,v36,v37,v38,v39,v40,v41,v42,v43,v44,v45,v46,v47,v48,v49,v50,v51,v52,v53,v54,v55,v56,v57,v58,v59,v60,v61,v62,v63,v64,v65,v66,v67,v68,v69,v70,v71,v72,v73,v74,v75,v76,v77,v78,v79,v80,v81,v82,v83,rfl⟩:=array84 T hT84;simp only[List.getElem?_toArray,List.getElem?_cons_zero,Option.some.injEq] at t0;subst t0;simp only[L7,body_wait,waitFn,Option.getD_some]
 u_c stepG_block rl_r hF
 u_c sx' rl_r hF
 u_reg rl_r hF
 u_op rl_r hF
 u_op rl_r hF
 u_op rl_r hF
 u_call H.f_uLoad (nm_uLoad L) uLoadFn rl_r hF
 u_c sx' rl_r hF
 u_reg rl_r hF
 u_op rl_r hF
 u_c se' rl_r hF
 u_c sx' rl_r hF
 u_reg rl_r hF
 u_op rl_r hF
 u_op rl_r hF
 u_op rl_r hF
 refine Goes.stop (fun w₁ h₁=>?_)
 replace hF:=rl_r hF h₁
 clear h₁;refine⟨rfl,fun v hv hw=>?_⟩;rcases Nat.eq_zero_or_pos v with rfl | hvp
 ·replace hw:WgAt L.tWg Wg w₁ 0 0:=by simpa using hw
  refine⟨_,stepG_load_atomic (v:=0) rfl rfl (by k_ne) rfl H.f_loadU64 (x_loadU64_n L) (x_loadU64_b L) (x_loadU64_x L) .u64 (x_loadU64_f L) rfl hw.cellSt,fun _=>⟨60,?_⟩,fun h=>absurd rfl h⟩;clear hw
  walk_nrm
  u_op rl_r hF
  u_c se' rl_r hF
  u_c stepG_ret' rl_r hF
  u_leave1 H.f_uLoad rl_r hF
  u_op rl_r hF
  u_c se' rl_r hF
  u_c sx' rl_r hF
  u_reg rl_r hF
  u_op rl_r hF
  u_op rl_r hF
  u_op rl_r hF
  u_op rl_r hF
  u_c se' rl_r hF
  u_c sx' rl_r hF
  u_reg rl_r hF
  u_op rl_r hF
  u_op rl_r hF
  u_op rl_r hF
  u_op rl_r hF
  u_c se' rl_r hF
  u_c sx' rl_r hF
  u_c sx' rl_r hF
  u_reg rl_r hF
  u_op rl_r hF
  u_op rl_r hF
  u_c se' rl_r hF
  u_cnd true rl_r hF
  u_c sx' rl_r hF
  u_cnd true rl_r hF
  u_c sx' rl_r hF
  u_reg rl_r hF
  refine Goes.stop (fun w₅ h₁=>?_)
  replace hF:=rl_r hF h₁
  clear h₁;refine⟨rfl,_,stepG_mark0 .enable (by simp) rfl rfl (by k_ne) rfl H.f_enable (x_enable_n L) (x_enable_b L) (x_enable_x L) (x_enable_f L),20,?_⟩
  walk_nrm
  u_c se' rl_r hF
  u_reg rl_r hF
  u_op rl_r hF
  u_conv H.underlying_tWgP H.room_tWg (WgLive.cell0 hF).choose_spec rl_r hF
  refine Goes.stop (fun w₆ h₁=>?_)
  replace hF:=rl_r hF h₁
  clear h₁;refine⟨rfl,_,stepG_markAt .acquire (by simp) rfl rfl (by k_ne) rfl H.f_acquire (x_acquire_n L) (x_acquire_b L) (x_acquire_x L) (x_acquire_f L) (by simp[Act.eval,stA]),⟨40,?_⟩⟩
  walk_nrm
  u_c se' rl_r hF
  u_c sx' rl_r hF
  u_c sx' rl_r hF
  u_reg rl_r hF
  u_op rl_r hF
  u_op rl_r hF
  u_op rl_r hF
  u_op rl_r hF
  u_op rl_r hF
  u_op rl_r hF
  u_op rl_r hF
  u_op rl_r hF
  u_skip rl_r hF
  u_skip rl_r hF
  u_op rl_r hF
  u_c se' rl_r hF
  u_cnd false rl_r hF
  u_c stepG_skip rl_r hF
  u_c stepG_ret' rl_r hF
  u_in rl_r hF
  rw[stepG_leave rfl rfl H.f_wait (results_none rfl _ P _) (events_results_none rfl _ _)];simp only[goes_go];refine⟨by u_nil,?_⟩;exact Goes.stop (fun _ _=>rfl)
 ·obtain⟨S,hS⟩:∃ S:Int,(v:Int)*KK=S:=⟨_,rfl⟩
  have a1:S / 4294967296=(v:Int):=by rw[← hS];simp only[KK];omega
  have b1:bits .and .u64 S 2147483648=0:=by rw[← hS];have:=st_flag v 0 (by omega) (by omega);simpa[KK] using this
  have b2:bits .and .u64 S 2147483647=0:=by rw[← hS];have:=st_waiters v 0 (by omega) (by omega);simpa[KK] using this
  have c1:IntKind.i32.wrap (v:Int)=(v:Int):=by rw[IntKind.wrap_i32];omega
  have w1:IntKind.u64.wrap (S+1)=S+1:=by rw[IntKind.wrap_u64,← hS];simp only[KK];omega
  have q3:decide ((v:Int)<0)=false:=decide_eq_false (by omega);have q4:decide (0<(v:Int))=true:=decide_eq_true (by omega);have q5:((v:Int)==0)=false:=by simp;omega
  have q6:decide ((v:Int)=0)=false:=decide_eq_false (by omega);rw[hS] at hw;refine⟨_,stepG_load_atomic (v:=S) rfl rfl (by k_ne) rfl H.f_loadU64 (x_loadU64_n L) (x_loadU64_b L) (x_loadU64_x L) .u64 (x_loadU64_f L) rfl hw.cellSt,fun h0=>absurd h0 (by omega),fun _=>⟨60,?_⟩⟩;clear hw
  walk_nrm
  u_op rl_r hF
  u_c se' rl_r hF
  u_c stepG_ret' rl_r hF
  u_leave1 H.f_uLoad rl_r hF
  u_op rl_r hF
  u_c se' rl_r hF
  u_c sx' rl_r hF
  u_reg rl_r hF
  u_op rl_r hF
  u_op rl_r hF
  u_op rl_r hF
  u_op rl_r hF
  u_c se' rl_r hF
  u_c sx' rl_r hF
  u_reg rl_r hF
  u_op rl_r hF
  u_op rl_r hF
  u_op rl_r hF
  u_op rl_r hF
  u_c se' rl_r hF
  u_c sx' rl_r hF
  u_c sx' rl_r hF
  u_reg rl_r hF
  u_op rl_r hF
  u_op rl_r hF
  u_c se' rl_r hF
  u_cnd false rl_r hF
  u_c stepG_skip rl_r hF
  u_c sx' rl_r hF
  u_reg rl_r hF
  u_op rl_r hF
  u_op rl_r hF
  u_op rl_r hF
  u_op rl_r hF
  u_op rl_r hF
  u_op rl_r hF
  u_call H.f_uCas (nm_uCas L) uCasFn rl_r hF
  u_c sx' rl_r hF
  u_reg rl_r hF
  u_op rl_r hF
  u_c se' rl_r hF
  u_c sx' rl_r hF
  u_reg rl_r hF
  u_op rl_r hF
  u_op rl_r hF
  u_op rl_r hF
  u_op rl_r hF
  u_op rl_r hF
  refine Goes.stop (fun w₂ h₁=>?_)
  replace hF:=rl_r hF h₁
  clear h₁;refine⟨rfl,fun v' hv' hw=>⟨fun e=>?_,fun e=>?_⟩⟩
  ·subst e
   rw[hS] at hw ⊢;refine⟨_,(stepG_cas_hit (v:=S) (n:=S+1) rfl rfl (by k_ne) rfl H.f_casU64 (x_casU64_n L) (x_casU64_b L) (x_casU64_x L) .u64 (x_casU64_f L) rfl rfl rfl hw.cellSt (hw.thaw 0)).trans (by rfl),70,?_⟩
   replace hF:WgLive L.tWg Wg (w₂.setCell (stA Wg) (.int .u64 (S+1))):=⟨_,_,hw.setSt _⟩
   clear hw
   walk_nrm
   u_op rl_r hF
   u_c se' rl_r hF
   u_c stepG_ret' rl_r hF
   u_leave1 H.f_uCas rl_r hF
   u_c se' rl_r hF
   u_cnd true rl_r hF
   u_c sx' rl_r hF
   u_c sx' rl_r hF
   u_reg rl_r hF
   u_op rl_r hF
   u_op rl_r hF
   u_op rl_r hF
   u_op rl_r hF
   u_c se' rl_r hF
   u_cnd true rl_r hF
   u_reg rl_r hF
   u_op rl_r hF
   u_op rl_r hF
   u_op rl_r hF
   u_conv H.underlying_tPU32 H.room_tU32 (WgLive.cell1 hF).choose_spec rl_r hF
   refine Goes.stop (fun w₇ h₁=>?_)
   replace hF:=rl_r hF h₁
   clear h₁;refine⟨rfl,_,stepG_markAt .write (by simp) rfl rfl (by k_ne) rfl H.f_raceWrite (x_raceWrite_n L) (x_raceWrite_b L) (x_raceWrite_x L) (x_raceWrite_f L) (ad:=⟨Wg,1,none⟩) (by simp[Act.eval]<;>rfl),40,?_⟩
   walk_nrm
   u_c se' rl_r hF
   u_c sx' rl_r hF
   u_reg rl_r hF
   u_op rl_r hF
   u_c se' rl_r hF
   u_c sx' rl_r hF
   u_c sx' rl_r hF
   u_reg rl_r hF
   u_op rl_r hF
   u_op rl_r hF
   u_op rl_r hF
   u_op rl_r hF
   u_skip rl_r hF
   u_op rl_r hF
   u_c se' rl_r hF
   u_cnd false rl_r hF
   u_c stepG_skip rl_r hF
   u_c sx' rl_r hF
   u_reg rl_r hF
   u_op rl_r hF
   u_op rl_r hF
   u_op rl_r hF
   u_op rl_r hF
   refine Goes.stop (fun w₃ h₁=>?_)
   replace hF:=rl_r hF h₁
   clear h₁;refine⟨rfl,rfl,fun⟨st,hw⟩=>stepG_semacquire_wait rfl rfl rfl H.f_semacquire (x_semacquire_n L) (x_semacquire_b L) (x_semacquire_x L) (x_semacquire_f L) (by simp[Act.eval,smA]) hw.cellSm,fun hf=>?_⟩;refine⟨_,(stepG_semacquire (n:=1) rfl rfl (by k_ne) rfl H.f_semacquire (x_semacquire_n L) (x_semacquire_b L) (x_semacquire_x L) (x_semacquire_f L) (by simp[Act.eval,smA]) hf.cellSm (by k_ne) (hf.thaw 1)).trans (by rfl),40,?_⟩
   replace hF:WgLive L.tWg Wg (w₃.setCell (smA Wg) (.int .u32 0)):=⟨_,_,hf.setSm 0⟩
   clear hf
   walk_nrm
   u_c se' rl_r hF
   u_c sx' rl_r hF
   u_reg rl_r hF
   u_op rl_r hF
   u_op rl_r hF
   u_op rl_r hF
   u_call H.f_uLoad (nm_uLoad L) uLoadFn rl_r hF
   u_c sx' rl_r hF
   u_reg rl_r hF
   u_op rl_r hF
   u_c se' rl_r hF
   u_c sx' rl_r hF
   u_reg rl_r hF
   u_op rl_r hF
   u_op rl_r hF
   u_op rl_r hF
   refine Goes.stop (fun w₄ h₁=>?_)
   replace hF:=rl_r hF h₁
   clear h₁;refine⟨rfl,fun hw=>⟨_,stepG_load_atomic (v:=0) rfl rfl (by k_ne) rfl H.f_loadU64 (x_loadU64_n L) (x_loadU64_b L) (x_loadU64_x L) .u64 (x_loadU64_f L) rfl hw.cellSt,40,?_⟩⟩;clear hw
   walk_nrm
   u_op rl_r hF
   u_c se' rl_r hF
   u_c stepG_ret' rl_r hF
   u_leave1 H.f_uLoad rl_r hF
   u_op rl_r hF
   u_op rl_r hF
   u_c se' rl_r hF
   u_c sx' rl_r hF
   u_cnd true rl_r hF
   u_c sx' rl_r hF
   u_reg rl_r hF
   refine Goes.stop (fun w₅ h₁=>?_)
   replace hF:=rl_r hF h₁
   clear h₁;refine⟨rfl,_,stepG_mark0 .enable (by simp) rfl rfl (by k_ne) rfl H.f_enable (x_enable_n L) (x_enable_b L) (x_enable_x L) (x_enable_f L),20,?_⟩
   walk_nrm
   u_c se' rl_r hF
   u_reg rl_r hF
   u_op rl_r hF
   u_conv H.underlying_tWgP H.room_tWg (WgLive.cell0 hF).choose_spec rl_r hF
   refine Goes.stop (fun w₆ h₁=>?_)
   replace hF:=rl_r hF h₁
   clear h₁;refine⟨rfl,_,stepG_markAt .acquire (by simp) rfl rfl (by k_ne) rfl H.f_acquire (x_acquire_n L) (x_acquire_b L) (x_acquire_x L) (x_acquire_f L) (by simp[Act.eval,stA]),⟨40,?_⟩⟩
   walk_nrm
   u_c se' rl_r hF
   u_c sx' rl_r hF
   u_c sx' rl_r hF
   u_reg rl_r hF
   u_op rl_r hF
   u_c se' rl_r hF
   u_cnd false rl_r hF
   u_c stepG_skip rl_r hF
   u_c stepG_ret' rl_r hF
   u_in rl_r hF
   rw[stepG_leave rfl rfl H.f_wait (results_none rfl _ P _) (events_results_none rfl _ _)];simp only[goes_go];refine⟨by u_nil,?_⟩;exact Goes.stop (fun _ _=>rfl)
  ·refine⟨_,stepG_cas_miss (v:=(v':Int)*KK) (old:=S) (n:=S+1) rfl rfl (by k_ne) rfl H.f_casU64 (x_casU64_n L) (x_casU64_b L) (x_casU64_x L) .u64 (x_casU64_f L) rfl rfl rfl hw.cellSt (hw.thaw 0) (by rw[← hS];simp only[KK];omega),30,?_⟩
   clear hw
   walk_nrm
   u_op rl_r hF
   u_c se' rl_r hF
   u_c stepG_ret' rl_r hF
   u_leave1 H.f_uCas rl_r hF
   u_c se' rl_r hF
   u_cnd false rl_r hF
   u_c stepG_skip rl_r hF
   u_c stepG_inBlock rl_r hF
   u_c stepG_inLoop rl_r hF
   exact Goes.stop (fun w₃ h₃=>⟨_,rfl,by simp,by simp,rl_r hF h₃⟩)
#print axioms wait_start
#print axioms wait_round
end Go.Proofs.Ytfbjopkiicmiiaa.Lift
namespace Go.Proofs.Ytfbjopkiicmiiaa.Lift
open Go Go.Conc
open Go.ConcN (sumTo upd sumTo_upd upd_ne upd_same WgLive)
open Go.ConcR (KK WgAt stA smA DC0)
structure Zed (S:SC)(h b:Nat):Prop where
 wgs:S.wgs b
 pend:S.pend b=0
 noseat:∀ j s,S.role j≠.seat s
 donb:∀ j x,S.role j=.doner x→x=b
 grp:∀ j,S.grp j=some b→S.role j=.doner b
 role:S.role h=.none
 n:h<S.n
def SC.calm (S:SC)(b:Nat):SC:={S with role:=fun _=>.none,grp:=fun x=>if S.grp x=some b then none else S.grp x}
structure Off (B:Nat)(W0 W:World):Prop where
 size:W.heap.size=W0.heap.size
 os:W.os=W0.os
 tape:W.tape=W0.tape
 output:W.output=W0.output
 off:∀ X,X≠B→W.heap[X]?=W0.heap[X]?
theorem Off.refl (B:Nat)(W:World):Off B W W:=⟨rfl,rfl,rfl,rfl,fun _ _=>rfl⟩
theorem Off.trans {B:Nat}{A C D:World}(h:Off B A C)(k:Off B C D):Off B A D:=⟨k.size.trans h.size,k.os.trans h.os,k.tape.trans h.tape,k.output.trans h.output,fun X hX=>(k.off X hX).trans (h.off X hX)⟩
theorem Off.set {B:Nat}{W:World}{a:Addr}(ha:a.block=B)(v:Value):Off B W (W.setCell a v):=⟨by simp[World.setCell],rfl,rfl,rfl,fun X hX=>heap_set_ne _ _ _ (by rw[ha];exact hX)⟩
theorem Off.at {B:Nat}{W:World}(d:Nat):Off B W (W.at d):=⟨rfl,rfl,rfl,rfl,fun _ _=>rfl⟩
section
variable {P:Program}{ty:TypeId}{Post:Value→World→Prop}{S:SC}{h d:Nat}{ρ ω:Ren}{und u u0:Nat→Bool}{T T0:Trace}{gs gs0:Array Goroutine}{W W0 W':World}{q lv q0 lv0:Nat→Nat}{G:Goroutine}{b B:Nat}{Hr K0:Nat→Prop}
theorem cnt_calm {v:Nat→Bool}{x n:Nat}:cnt (S.calm b) v x n=if S.grp n=some b then 0 else cnt S v x n:=by
 by_cases e:S.grp n=some b
 ·have hg:(S.calm b).grp n=none:=if_pos e
  rw[if_pos e];simp[cnt,hg]
 ·have hg:(S.calm b).grp n=S.grp n:=if_neg e
  rw[if_neg e];simp[cnt,hg]
theorem Fair.calm (F:Fair S)(Z:Zed S h b):Fair (S.calm b):=by
 refine⟨fun _ _ h=>(by cases h),fun _ _ _ h=>(by cases h),fun _ _ _ _ _ h=>(by cases h),fun _ _ _ h=>(by cases h),fun _ _ _ _ _ h=>(by cases h),F.chs,fun _ _ _ _ h=>(by cases h),F.wgs,fun _ _ _ h=>(by cases h),fun x hx=>?_,fun _ _ h=>(by cases h),fun _ h=>absurd rfl h,F.fzs,F.low,F.n0le,fun _ _ _ h=>(by cases h),F.wlow,F.clow⟩;have e:sumTo S.n (cnt (S.calm b) (fun _=>true) x)≤sumTo S.n (cnt S (fun _=>true) x):=by
  have:∀ n,sumTo n (cnt (S.calm b) (fun _=>true) x)≤sumTo n (cnt S (fun _=>true) x):=fun n=>by
   induction n with
   | zero=>exact Nat.le_refl _
   | succ n ih =>
    show sumTo n _+_≤sumTo n _+_;refine Nat.add_le_add ih ?_;rw[cnt_calm];split
    ·exact Nat.zero_le _
    ·exact Nat.le_refl _
  exact this _
 have:=F.few x hx;show S.pend x+sumTo S.n _<1000;omega
theorem Base.calm (C:Base P ty S (·=h) (fun _=>False) Hr K0 ρ ω u0 T0 gs0 W0 q0 lv0)(Z:Zed S h b)(hB:ρ b=some B)(hO:Off B W0 W)(hwg:WgAt ty B W 0 0)(hsz:gs.size=S.n){Hear:Nat→Prop}
  (ht:TP (isSeat S) (isDoner S) (fun j=>isSeat S j∨Hear j) (LentG S ω) (OwnG S ω) (ShunG S ω) W.heap.size (Knows T h) T) (hab:∀ j,S.n≤j→Deaf T j=0)
  (hq:∀ j,j≠h→j<S.n→0<j∧∃ G,gs[j]?=some G∧QuitsD P (q j) (Deaf T j) G) :
  Base P ty (S.calm b) (·=h) (fun _=>False) Hear (Knows T h) ρ ω (fun _=>true) T gs W q (fun _=>0):=by
 have F:=C.fair;have hinj:∀ b',ω b'=some B→b'=b:=fun b' h=>C.oinj _ _ _ h (C.up _ _ hB);have hcell:∀ {X},(∃ c cap k,W0.heap[X]?=some (.chan c #[] false k cap false))→X≠B:=fun⟨c,cap,k,h1⟩ e=>by
  obtain⟨B0,h2,h3⟩:=C.wgs b Z.wgs;rw[hB] at h2;cases h2;unfold WgAt Go.ConcR.wgBlock at h3;rw[e,h3] at h1;cases h1
 have hns:∀ j,¬ isSeat S j:=fun j ⟨s,hs⟩=>Z.noseat j s hs;refine⟨F.calm Z,hsz,C.view.keep (Nat.le_of_eq hO.size.symm) hO.os fun b' B' hb'=>?_,C.oinj,fun b' B' h=>by rw[hO.size];exact C.odom b' B' h,C.up,fun _ _ _ h=>(by cases h),fun b' B' h=>?_,fun _ _ _ h=>(by cases h),fun j hj _ hlt=>hq j hj hlt,fun _ _ _ h=>(by cases h),fun _ _=>rfl,fun _ _=>rfl,
  fun c hc=>?_,fun _ _ _ h=>(by cases h),fun _ _ _ hD=>hD.elim,fun x hx=>?_,?_,hab,fun b' B' hb' hB'=>?_,C.full,⟨hO.os.trans C.low.os,hO.tape.trans C.low.tape,hO.output.trans C.low.output,Nat.le_trans C.low.size (Nat.le_of_eq hO.size.symm),fun B' hB'=>?_⟩,C.lowo⟩
 ·by_cases e:B'=B
  ·subst e
   obtain rfl:=hinj b' (C.up _ _ hb');exact .inr ⟨F.wgs b' Z.wgs,.inl ⟨_,_,_,hwg⟩⟩
  ·exact .inl (hO.off B' e)
 ·rcases C.down b' B' h with k | ⟨j,s,k,_⟩
  ·exact .inl k
  ·exact absurd k (Z.noseat j s)
 ·obtain⟨C1,k,h1,h2⟩:=C.chs c hc
  exact⟨C1,k,h1,(hO.off C1 (hcell ⟨_,_,_,h2⟩)).trans h2⟩
 ·by_cases e:x=b
  ·subst e
   refine⟨B,hB,?_⟩;have hz:∀ n,sumTo n (cnt (S.calm x) (fun _=>true) x)=0:=fun n=>by
    induction n with
    | zero=>rfl
    | succ n ih =>
     show sumTo n _+_=0;rw[ih];rw[cnt_calm];by_cases e:S.grp n=some x
     ·rw[if_pos e]
     ·rw[if_neg e]
      unfold cnt;rw[if_neg (fun k=>e k.1)]
   show WgAt ty B W ((S.pend x+sumTo S.n (cnt (S.calm x) (fun _=>true) x):Nat)*KK) 0;rw[hz,Z.pend];exact Eq.mp (congrArg (fun z=>WgAt ty B W z 0) (by simp)) hwg
  ·obtain⟨B',h1,h2⟩:=C.wgs x hx
   refine⟨B',h1,?_⟩;have e2:sumTo S.n (cnt (S.calm b) (fun _=>true) x)=sumTo S.n (cnt S u0 x):=Lift.sumTo_congr fun y _=>by
    rw[cnt_calm];by_cases e3:S.grp y=some b
    ·rw[if_pos e3]
     unfold cnt;rw[if_neg (fun k=>e ?_)];rw[e3] at k;exact(oj' k.1).symm
    ·rw[if_neg e3]
     unfold cnt;by_cases e4:S.grp y=some x
     ·have hu:u0 y=true:=C.und1 y fun b' hb'=>e3 (by
       obtain rfl:=Z.donb y b' hb';exact(F.donerg y b' hb').1)
      rw[if_pos ⟨e4,rfl⟩,if_pos ⟨e4,hu⟩]
     ·rw[if_neg (fun k=>e4 k.1),if_neg (fun k=>e4 k.1)]
   show WgAt ty B' W ((S.pend x+sumTo S.n (cnt (S.calm b) (fun _=>true) x):Nat)*KK) 0;rw[e2];exact h2.of_block (hO.off B' fun e'=>e (hinj x (e'▸C.up _ _ h1)))
 ·refine ht.alike (fun g=>⟨fun⟨s,hs⟩=>(by cases hs),fun hs=>absurd hs (hns g)⟩) (fun g ⟨x,hx⟩=>by cases hx) (fun g hg=>hg.elim (fun⟨s,hs⟩=>by cases hs) fun k=>ht.hears g (.inr k)) (fun g x hs=>absurd hs (hns g)) (fun g x hs=>absurd hs (hns g)) fun _=>Iff.rfl
 ·obtain⟨C',t',FZ,h1,h2⟩:=C.fz b' B' hb' hB'
  refine⟨C',t',FZ,(hO.off B' fun e=>?_).trans h1,h2⟩;subst e;obtain rfl:=hinj b' (C.up _ _ hB');obtain⟨c,t,hc⟩:=F.fzs b' hb';rw[F.wgs b' Z.wgs] at hc;cases hc
 ·refine(hO.off B' fun e=>?_).trans (C.low.block B' hB')
  have h1:=C.lowo b B' (e▸C.up _ _ hB) hB';have h2:=F.wlow b Z.wgs;omega
theorem Half.look (R:Half P ty h d S ρ ω und T gs W q lv G)(hb:S.wgs b)(hB:ρ b=some B){G':Goroutine}(hrun:G'.status=.running){es:Array Event}
  (htc:∀ e∈es,∀ x,(MemAct.ofEvent e).touch?=some x→∃ a w k,x=⟨.cell a,w,k⟩∧a.block=B∧k≠.plain) (hst:∀ e∈es,e.loc≠.mark .disable∧e.loc≠.mark .enable) (hlow:∀ e∈es,(MemAct.ofEvent e).low W.heap.size) (fn:FuncId) (pos:String) :
  Half P ty h d S ρ ω und (T++MemOp.ofEvents h fn pos es) (gs.setIfInBounds h G') W q lv G':=by
 have C:=R.base;have hlt:h<gs.size:=(aq' R.recd).1;have hop:=ops_g (j:=h) (fn:=fn) (pos:=pos) (es:=es);have hdf:Deaf (T++MemOp.ofEvents h fn pos es) h=d:=by rw[Deaf_own,deafBehind_still hst];exact R.deaf
 have hdo:∀ x,x≠h→Deaf (T++MemOp.ofEvents h fn pos es) x=Deaf T x:=fun x hx=>Deaf_other T (fun e=>hx e.symm) _ hop;have hget:∀ x,x≠h→(gs.setIfInBounds h G')[x]?=gs[x]?:=fun x hx=>ar' fun e=>hx e.symm;have hA:=C.apartG;have hS:ShunG S ω B:=⟨b,hb,C.up _ _ hB⟩;have ht:=C.trace.appH (B':=W.heap.size) (Nat.le_refl _) hop (fun op hop' x hx=>by
  obtain⟨e,he,rfl⟩:=Go.Conc.mem_ofEvents hop';obtain⟨a,w,k,rfl,ha,hk⟩:=htc e he x hx;exact⟨fun g y hs hy hO=>(by cases hy;rw[ha] at hO;exact hA.os g _ hs hO hS),fun g y hs hy hL=>(by cases hy;rw[ha] at hL;exact absurd hS (hA.ls g _ hs hL)),fun y hy _=>hk,fun y hy _=>by cases hy⟩) (fun _=>by rw[hdf,R.deaf]) (fun op hop'=>by
  obtain⟨e,he,rfl⟩:=Go.Conc.mem_ofEvents hop';exact hlow e he)
 exact⟨⟨C.fair,by rw[Array.size_setIfInBounds];exact C.size,C.view,C.oinj,C.odom,C.up,C.hole,C.down,fun x s hx hs=>by rw[hget x hx];exact C.seat x s hx hs,fun x hx hs hlx=>by rw[hget x hx,hdo x hx];exact C.gone x hx hs hlx,
  fun x b hx hs=>by rw[hget x hx,hdo x hx];exact C.doner x b hx hs,C.lv0,C.und1,C.chs,C.seatch,fun _ _ _ hD=>hD.elim,C.wgs,ht,fun x hx=>(hdo x (by have:=C.size;omega)).trans (C.above x hx),C.fz,C.full,C.low,C.lowo⟩,
  Array.getElem?_setIfInBounds_self_of_lt hlt,hrun,R.role,hdf⟩
end
section
variable (P:Program)(ty:TypeId)(h:Nat)(S:SC)(b B:Nat)(Fin:Goroutine→World→Prop)
def HolderAt (ph n:Nat)(X:Goroutine)(W:World):Prop :=
 (ph=1∧X.status=.running∧∃ k,n=k+1∧Goes P (h==0) (RL ty B) DC0 (WQ3 P (h==0) ty B Fin) k X W) ∨
 (ph=0∧X.status=.running∧∃ k,n=k+1∧Goes P (h==0) (RL ty B) DC0 (WQ4 P (h==0) ty B Fin) k X W) ∨
 (ph=0∧X.status=.blocked∧X.offers=none∧n=0∧Goes P (h==0) (RL ty B) DC0 (WQ4 P (h==0) ty B Fin) 0 { X with status:=.running} W)
def DonAt (u:Nat→Bool)(last:Option Nat)(T:Trace)(q lv:Nat→Nat)(W:World)(j:Nat)(G:Goroutine):Prop :=
 (u j=true∧3<lv j∧DonerAt P ty B (lv j) (q j) G W∧Deaf T j=(if lv j=4 then 1 else 0)) ∨
 (u j=false∧last≠some j∧lv j=0∧QuitsD P (q j) (Deaf T j) G) ∨
 (u j=false∧last=some j∧0<lv j∧lv j<4∧DonerAt P ty B (lv j) (q j) G W∧Deaf T j=1)
def Stage (u:Nat→Bool)(last:Option Nat)(lv:Nat→Nat)(W:World):Prop :=
 (last=none∧0<sumTo S.n (cnt S u b)∧WgAt ty B W ((sumTo S.n (cnt S u b):Nat)*KK+1) 0) ∨
 (∃ j,last=some j∧sumTo S.n (cnt S u b)=0∧S.role j=.doner b∧(((lv j=3∨lv j=2)∧WgAt ty B W 1 0)∨(lv j=1∧WgAt ty B W 0 0))) ∨
 (last=none∧sumTo S.n (cnt S u b)=0∧WgAt ty B W 0 1)
structure RegX (ω:Ren)(W0:World)(ph:Nat)(u:Nat→Bool)(last:Option Nat)(T:Trace)(gs:Array Goroutine)(W:World)(q lv:Nat→Nat):Prop where
 size:gs.size=S.n
 off:Off B W0 W
 trace:TP (isSeat S) (isDoner S) (fun j=>isSeat S j) (LentG S ω) (OwnG S ω) (ShunG S ω) W.heap.size (Knows T h) T
 deaf:Deaf T h=1
 above:∀ j,S.n≤j→Deaf T j=0
 gone:∀ j,j≠h→S.role j=.none→j<S.n→0<j∧∃ G,gs[j]?=some G∧QuitsD P (q j) (Deaf T j) G
 doner:∀ j,S.role j=.doner b→∃ G,gs[j]?=some G∧DonAt P ty B u last T q lv W j G
 lv0:∀ j,S.role j=.none→lv j=0
 stage:Stage ty S b B u last lv W
 hold:∃ X,gs[h]?=some X∧HolderAt P ty h B Fin ph (q h) X W∧(X.status=.blocked→¬ (last=none∧sumTo S.n (cnt S u b)=0))
end
def wq (h:Nat)(q:Nat→Nat):Nat→Nat:=fun j=>if j=h then q j else 2*q j
def meas3 (S:SC)(h:Nat)(q lv:Nat→Nat):Nat × Nat:=(sumTo S.n lv,sumTo S.n (wq h q))
def Less4 (a b:Nat × (Nat × Nat)):Prop:=a.1<b.1∨(a.1=b.1∧Less a.2 b.2)
theorem Less4.wf:WellFounded Less4:=by
 refine⟨fun⟨a,b⟩=>?_⟩
 induction a using Nat.strongRecOn generalizing b with
 | _ a iha =>
  induction b using Less.wf.induction with
  | _ b ihb =>
   refine⟨_,fun⟨c,d⟩ h=>?_⟩;rcases h with h | ⟨h,h'⟩
   ·exact iha c h d
   ·simp only at h h'
    subst h;exact ihb d h'
section
variable {P:Program}{ty:TypeId}{Post:Value→World→Prop}{S:SC}{h d:Nat}{ρ ω:Ren}{und u u' u0:Nat→Bool}{last last':Option Nat}{T T0:Trace}{gs gs0:Array Goroutine}{W W0 W':World}{q lv q0 lv0:Nat→Nat}{G:Goroutine}{b B:Nat}{Hr K0:Nat→Prop}{Fin:Goroutine→World→Prop}{ph:Nat}
theorem HolderAt.rely {n:Nat}{X:Goroutine}(hX:HolderAt P ty h B Fin ph n X W)(hr:RL ty B W W'):HolderAt P ty h B Fin ph n X W':=by
 rcases hX with⟨h1,h2,k,h3,h4⟩ | ⟨h1,h2,k,h3,h4⟩ | ⟨h1,h2,h3,h4,h5⟩
 ·exact .inl ⟨h1,h2,k,h3,h4.rely rl_trans hr⟩
 ·exact .inr (.inl ⟨h1,h2,k,h3,h4.rely rl_trans hr⟩)
 ·exact .inr (.inr ⟨h1,h2,h3,h4,h5.rely rl_trans hr⟩)
theorem HolderAt.woken {n:Nat}{X G G':Goroutine}(hX:HolderAt P ty h B Fin ph n X W):∃ n',n'≤n+1∧HolderAt P ty h B Fin ph n' (woken P G G' W X) W∧((woken P G G' W X).status=.blocked→X.status=.blocked∧¬ (mayWake P G=true∧G'.status=.running)):=by
 rcases hX with⟨h1,h2,k,h3,h4⟩ | ⟨h1,h2,k,h3,h4⟩ | ⟨h1,h2,h3,h4,h5⟩
 ·have e:Go.Conc.woken P G G' W X=X:=by unfold Go.Conc.woken;rw[again_running _ (.inl h2)];split<;>rfl
  rw[e];exact⟨n,by omega,.inl ⟨h1,h2,k,h3,h4⟩,fun h=>by rw[h2] at h;cases h⟩
 ·have e:Go.Conc.woken P G G' W X=X:=by unfold Go.Conc.woken;rw[again_running _ (.inl h2)];split<;>rfl
  rw[e];exact⟨n,by omega,.inr (.inl ⟨h1,h2,k,h3,h4⟩),fun h=>by rw[h2] at h;cases h⟩
 ·unfold Go.Conc.woken
  split
  ·rename_i hc
   have e:X.again W={X with status:=.running}:=by unfold Goroutine.again;rw[h2,h3]
   rw[e];exact⟨1,by omega,.inr (.inl ⟨h1,rfl,0,rfl,h5⟩),fun h=>by cases h⟩
  ·rename_i hc
   refine⟨n,by omega,.inr (.inr ⟨h1,h2,h3,h4,h5⟩),fun _=>⟨h2,fun⟨k1,k2⟩=>hc ?_⟩⟩;rw[k1,k2];rfl
theorem HolderAt.awake {n:Nat}{X:Goroutine}(hX:HolderAt P ty h B Fin ph n X W):awake X:=by
 rcases hX with⟨_,h2,_⟩ | ⟨_,h2,_⟩ | ⟨_,h2,_⟩
 ·exact awake_of (.inl h2)
 ·exact awake_of (.inl h2)
 ·exact awake_of (.inr (.inl h2))
theorem DonAt.status {j:Nat}(h:DonAt P ty B u last T q lv W j G):G.status=.running∨G.status=.finished:=by
 rcases h with⟨_,_,h,_⟩ | ⟨_,_,_,h⟩ | ⟨_,_,_,_,h,_⟩
 ·exact .inl h.running
 ·exact h.status
 ·exact .inl h.running
theorem DonAt.rely {j:Nat}(h:DonAt P ty B u last T q lv W j G)(hr:RL ty B W W'):DonAt P ty B u last T q lv W' j G:=by
 rcases h with⟨h1,h2,h3,h4⟩ | h | ⟨h1,h2,h3,h4,h5,h6⟩
 ·exact .inl ⟨h1,h2,h3.rely hr,h4⟩
 ·exact .inr (.inl h)
 ·exact .inr (.inr ⟨h1,h2,h3,h4,h5.rely hr,h6⟩)
theorem Stage.live (h:Stage ty S b B u last lv W):WgLive ty B W:=by
 rcases h with⟨_,_,h⟩ | ⟨_,_,_,_,⟨_,h⟩ | ⟨_,h⟩⟩ | ⟨_,_,h⟩<;>exact⟨_,_,h⟩
theorem RegX.others (Z:Zed S h b)(R:RegX P ty h S b B Fin ω W0 ph u last T gs W q lv){x:Nat}{y:Goroutine}(hx:x≠h)(hy:gs[x]?=some y):y.status=.running∨y.status=.finished:=by
 have hn:x<S.n:=R.size▸(aq' hy).1;cases e:S.role x with
 | none =>
  obtain⟨_,G,h1,h2⟩:=R.gone x hx e hn;rw[hy] at h1;cases h1;exact h2.status
 | seat s=>exact absurd e (Z.noseat x s)
 | doner b' =>
  obtain rfl:=Z.donb x b' e;obtain⟨G,h1,h2⟩:=R.doner x e;rw[hy] at h1;cases h1;exact h2.status
theorem RegX.awake (Z:Zed S h b)(R:RegX P ty h S b B Fin ω W0 ph u last T gs W q lv):∀ x∈gs,awake x:=by
 intro x hx;obtain⟨i,hi,rfl⟩:=Array.mem_iff_getElem.1 hx;by_cases e:i=h
 ·subst e
  obtain⟨X,h1,h2,_⟩:=R.hold;have:gs[i]=X:=by simpa[as' hi] using h1
  rw[this];exact h2.awake
 ·rcases R.others Z e (as' hi) with k | k
  ·exact awake_of (.inl k)
  ·exact awake_of (.inr (.inr k))
theorem cnt_pos {n:Nat}(h:0<sumTo n (cnt S u b)):∃ j,j<n∧S.grp j=some b∧u j=true:=by
 induction n with
 | zero=>exact absurd h (Nat.lt_irrefl 0)
 | succ n ih =>
  by_cases e:S.grp n=some b∧u n=true
  ·exact⟨n,by omega,e⟩
  ·have h0:cnt S u b n=0:=by unfold cnt;rw[if_neg e]
   have h1:0<sumTo n (cnt S u b)+cnt S u b n:=h;obtain⟨j,k1,k2⟩:=ih (by omega);exact⟨j,by omega,k2⟩
theorem RegX.runs (Z:Zed S h b)(R:RegX P ty h S b B Fin ω W0 ph u last T gs W q lv):∃ (i:Nat) (g:Goroutine),gs[i]?=some g∧g.status=.running:=by
 rcases R.stage with⟨_,h1,_⟩ | ⟨j,h1,_,h3,h4⟩ | ⟨h1,h2,_⟩
 ·obtain⟨j,_,k2,k3⟩:=cnt_pos h1
  obtain⟨G,k4,k5⟩:=R.doner j (Z.grp j k2);rcases k5 with⟨_,_,k5,_⟩ | ⟨k5,_⟩ | ⟨k5,_⟩
  ·exact⟨j,G,k4,k5.running⟩
  ·rw[k3] at k5;cases k5
  ·rw[k3] at k5;cases k5
 ·obtain⟨G,k4,k5⟩:=R.doner j h3
  rcases k5 with⟨_,_,k5,_⟩ | ⟨_,k5,_⟩ | ⟨_,_,_,_,k5,_⟩
  ·exact⟨j,G,k4,k5.running⟩
  ·exact absurd h1 k5
  ·exact⟨j,G,k4,k5.running⟩
 ·obtain⟨X,k1,k2,k3⟩:=R.hold
  rcases k2 with⟨_,k,_⟩ | ⟨_,k,_⟩ | ⟨_,k,_⟩
  ·exact⟨h,X,k1,k⟩
  ·exact⟨h,X,k1,k⟩
  ·exact absurd ⟨h1,h2⟩ (k3 k)
theorem Stage.at (h:Stage ty S b B u last lv W)(e:Nat):Stage ty S b B u last lv (W.at e):=h
theorem RegX.at (R:RegX P ty h S b B Fin ω W0 ph u last T gs W q lv)(e:Nat):RegX P ty h S b B Fin ω W0 ph u last T gs (W.at e) q lv :=
 ⟨R.size,R.off.trans (Off.at e),R.trace,R.deaf,R.above,R.gone,fun j hj=>(R.doner j hj).imp fun G ⟨h1,h2⟩=>⟨h1,h2.rely (RL.same rfl)⟩,R.lv0,R.stage,R.hold.imp fun X ⟨h1,h2,h3⟩=>⟨h1,h2.rely (RL.same rfl),h3⟩⟩
theorem wq_upd {j n' nh:Nat}(hj:j≠h):wq h (upd (upd q j n') h nh)=upd (upd (wq h q) j (2*n')) h nh:=by
 funext x;by_cases e1:x=h
 ·subst e1
  rw[upd_same];unfold wq;rw[if_pos rfl,upd_same]
 ·rw[upd_ne _ _ e1]
  unfold wq;rw[if_neg e1,upd_ne _ _ e1];by_cases e2:x=j
  ·subst e2;rw[upd_same,upd_same]
  ·rw[upd_ne _ _ e2,upd_ne _ _ e2,if_neg e1]
theorem wq_sum {j n' nh:Nat}(hj:j≠h)(hjn:j<S.n)(hn:h<S.n):sumTo S.n (wq h (upd (upd q j n') h nh))+2*q j+q h=sumTo S.n (wq h q)+2*n'+nh:=by
 rw[wq_upd hj];have h1:sumTo S.n (upd (upd (wq h q) j (2*n')) h nh)+upd (wq h q) j (2*n') h=sumTo S.n (upd (wq h q) j (2*n'))+nh:=sumTo_upd _ nh id hn;have h2:sumTo S.n (upd (wq h q) j (2*n'))+wq h q j=sumTo S.n (wq h q)+2*n':=sumTo_upd _ (2*n') id hjn;rw[upd_ne _ _ (Ne.symm hj)] at h1;have h3:wq h q h=q h:=if_pos rfl;have h4:wq h q j=2*q j:=if_neg hj;omega
theorem upd_cases {f:Nat→Nat}{j n' nh x:Nat}(hx:x≠h):upd (upd f j n') h nh x=upd f j n' x:=upd_ne _ _ hx
theorem RegX.put (Z:Zed S h b)(R:RegX P ty h S b B Fin ω W0 ph u last T gs W q lv){j:Nat}(hjh:j≠h){G':Goroutine}{es:Array Event}(hG:gs[j]?=some G)(hst:stepG P (j==0) G W=.go G' W' es)
  (hO:Off B W W') (ht:TP (isSeat S) (isDoner S) (fun j=>isSeat S j) (LentG S ω) (OwnG S ω) (ShunG S ω) W'.heap.size (Knows (T++MemOp.ofEvents j G.frame.fn G.frame.place es) h) (T++MemOp.ofEvents j G.frame.fn G.frame.place es)) {n' l':Nat}
  (hu:∀ x,x≠j→u' x=u x) (hl:∀ x,x≠j→(last'=some x↔last=some x))
  (hnone:S.role j=.none→l'=0∧QuitsD P n' (deafBehind (Deaf T j) es) G') (hdon:S.role j=.doner b→DonAt P ty B u' last' (T++MemOp.ofEvents j G.frame.fn G.frame.place es) (upd q j n') (upd lv j l') W' j G')
  (hstage:Stage ty S b B u' last' (upd lv j l') W') (hwake:last'=none∧sumTo S.n (cnt S u' b)=0→(last=none∧sumTo S.n (cnt S u b)=0)∨(mayWake P G=true∧G'.status=.running))
  (hless:l'<lv j∨(l'=lv j∧n'<q j)) (sl:Option (Nat × Nat)) :
  ∃ gs' ops q' lv',runT P (crowd gs W sl) j=(.next (crowd gs' W' sl),ops)∧RegX P ty h S b B Fin ω W0 ph u' last' (T++ops) gs' W' q' lv'∧Less (meas3 S h q' lv') (meas3 S h q lv):=by
 have hlt:j<gs.size:=(aq' hG).1;have hjn:j<S.n:=R.size▸hlt;obtain⟨X,hX,hHX,hbl⟩:=R.hold;have hlth:h<gs.size:=(aq' hX).1;have hlive:RL ty B W W':=RL.live hstage.live;obtain⟨nh,hnh,hH',hst'⟩:=(hHX.rely hlive).woken (G:=G) (G':=G');have hself:((gs.map (woken P G G' W')).setIfInBounds j G')[j]?=some G':=Array.getElem?_setIfInBounds_self_of_lt (by simpa using hlt);have hget:∀ x,x≠j→x≠h→((gs.map (woken P G G' W')).setIfInBounds j G')[x]?=gs[x]?:=fun x hx hxh=>by
  rw[ar' (Ne.symm hx),Array.getElem?_map];cases e:gs[x]? with
  | none=>rfl
  | some y =>
   have:y.again W'=y:=again_running _ (R.others Z hxh e);simp only[Option.map_some];unfold woken;split
   ·rw[this]
   ·rfl
 have hgeth:((gs.map (woken P G G' W')).setIfInBounds j G')[h]?=some (woken P G G' W' X):=by
  rw[ar' hjh,Array.getElem?_map,hX];rfl
 have hdo:∀ x,x≠j→Deaf (T++MemOp.ofEvents j G.frame.fn G.frame.place es) x=Deaf T x:=fun x hx=>Deaf_other T (fun e=>hx e.symm) _ ops_g;refine⟨_,_,upd (upd q j n') h nh,upd lv j l',runT_crowd_go (sl:=sl) hG hst,⟨by rw[Array.size_setIfInBounds,Array.size_map];exact R.size,R.off.trans hO,ht,by rw[hdo h (Ne.symm hjh)];exact R.deaf,fun x hx=>by rw[hdo x (by omega)];exact R.above x hx,fun x hx hr hlx=>?_,fun x hr=>?_,fun x hr=>?_,hstage,_,hgeth,?_,fun hb=>?_⟩,?_⟩
 ·obtain⟨h0,G1,h1,h2⟩:=R.gone x hx hr hlx
  refine⟨h0,?_⟩;rw[upd_cases hx];by_cases e:x=j
  ·subst e
   refine⟨G',hself,?_⟩;rw[upd_same,Deaf_own];exact(hnone hr).2
  ·exact⟨G1,by rw[hget x e hx];exact h1,by rw[upd_ne _ _ e,hdo x e];exact h2⟩
 ·have hx:x≠h:=fun e=>by rw[e,Z.role] at hr;cases hr
  by_cases e:x=j
  ·subst e
   refine⟨G',hself,?_⟩;have:=hdon hr;unfold DonAt at this ⊢;rw[upd_cases hx];exact this
  ·obtain⟨G1,h1,h2⟩:=R.doner x hr
   refine⟨G1,by rw[hget x e hx];exact h1,?_⟩;have h3:=h2.rely hlive;unfold DonAt at h3 ⊢;rw[upd_cases hx,upd_ne _ _ e,upd_ne _ _ e,hdo x e,hu x e,Ne,hl x e];exact h3
 ·by_cases e:x=j
  ·subst e;rw[upd_same];exact(hnone hr).1
  ·rw[upd_ne _ _ e];exact R.lv0 x hr
 ·rw[upd_same];exact hH'
 ·obtain⟨k1,k2⟩:=hst' hb
  exact fun k=>(hwake k).elim (hbl k1) k2
 ·have hs:=wq_sum (q:=q) (n':=n') (nh:=nh) hjh hjn Z.n
  rcases hless with k | ⟨k,k'⟩
  ·exact .inl (sumTo_less hjn k)
  ·subst k
   have e:upd lv j (lv j)=lv:=upd_self;refine .inr ⟨by show sumTo S.n (upd lv j (lv j))=_;rw[e];rfl,?_⟩;show sumTo S.n (wq h (upd (upd q j n') h nh))<sumTo S.n (wq h q);omega
end
section
variable {P:Program}{ty:TypeId}{Post:Value→World→Prop}{S:SC}{h d j:Nat}{ρ ω:Ren}{und u u' u0:Nat→Bool}{last last':Option Nat}{T T0 t:Trace}{gs gs0:Array Goroutine}{W W0 W':World}{q lv q0 lv0:Nat→Nat}{G:Goroutine}{b B:Nat}{Hr K0:Nat→Prop}{Fin:Goroutine→World→Prop}{ph:Nat}{fn:FuncId}{pos:String}
theorem not_heardE {es:Array Event}(hd:∀ k e x,es[k]?=some e→(MemAct.ofEvent e).touch?=some x→0<deafBehind (Deaf t j) (es.extract 0 k)):∀ i op x,(t++MemOp.ofEvents j fn pos es)[i]?=some op→t.size≤i→op.act.touch?=some x→¬ (t++MemOp.ofEvents j fn pos es).heard i:=by
 intro i op x hi hle hx ⟨g,hg,hd'⟩;have hlt:=lt_size_of_getElem? hi;have hi2:(MemOp.ofEvents j fn pos es)[i-t.size]?=some op:=by
  rw[Array.getElem?_append,if_neg (by omega)] at hi;exact hi
 rw[ofEvents_eq,Array.getElem?_map] at hi2;obtain⟨e,he,rfl⟩:=Option.map_eq_some_iff.1 hi2;obtain rfl:g=j:=by
  rw[g?_of hi] at hg;exact(oj' hg).symm
 have hs:(MemOp.ofEvents g fn pos es).size=es.size:=by rw[ofEvents_eq];simp
 have:=deaf_inside t g fn pos es (i-t.size) (by rw[Array.size_append] at hlt;omega);rw[show t.size+(i-t.size)=i by omega,hd'] at this;have h2:=hd _ e x he hx;omega
theorem sem_deaf {a:Addr}:∀ k e x,(semEvents a)[k]?=some e→(MemAct.ofEvent e).touch?=some x→0<deafBehind 1 ((semEvents a).extract 0 k):=by
 intro k e x he hx
 match k with
 | 0=>simp[semEvents] at he;subst he;cases hx
 | 1=>exact Nat.zero_lt_succ _
 | 2=>exact Nat.zero_lt_succ _
 | 3=>simp[semEvents] at he;subst he;cases hx
 | k+4=>simp[semEvents] at he
theorem sem_touch {a:Addr}{e:Event}(he:e∈semEvents a){x:Touch}(hx:(MemAct.ofEvent e).touch?=some x):∃ w,x=⟨.cell a,w,.atomic⟩:=by
 simp only[semEvents,List.mem_toArray,List.mem_cons,List.not_mem_nil,or_false] at he;rcases he with rfl | rfl | rfl | rfl
 ·cases hx
 ·exact⟨_,touch_cell hx⟩
 ·exact⟨_,touch_cell hx⟩
 ·cases hx
theorem sem_low {a:Addr}{N:Nat}(ha:a.block<N){e:Event}(he:e∈semEvents a):(MemAct.ofEvent e).low N:=by
 simp only[semEvents,List.mem_toArray,List.mem_cons,List.not_mem_nil,or_false] at he;rcases he with rfl | rfl | rfl | rfl
 ·trivial
 ·exact ha
 ·exact ha
 ·trivial
theorem rdwr_touch {a:Addr}{e:Event}{es:Array Event}(hes:es=#[Go.ConcR.rd a]∨es=#[Go.ConcR.wr a]∨es=#[Go.ConcR.rd a,Go.ConcR.wr a])(he:e∈es):(∀ x,(MemAct.ofEvent e).touch?=some x→∃ w,x=⟨.cell a,w,.atomic⟩)∧(e.loc≠.mark .disable∧e.loc≠.mark .enable)∧∀ N,a.block<N→(MemAct.ofEvent e).low N:=by
 have:e=Go.ConcR.rd a∨e=Go.ConcR.wr a:=by
  rcases hes with rfl | rfl | rfl
  ·simp at he;exact .inl he
  ·simp at he;exact .inr he
  ·simp at he;exact he
 rcases this with rfl | rfl
 ·exact⟨fun x hx=>⟨_,touch_cell hx⟩,⟨by simp[Go.ConcR.rd],by simp[Go.ConcR.rd]⟩,fun N h=>h⟩
 ·exact⟨fun x hx=>⟨_,touch_cell hx⟩,⟨by simp[Go.ConcR.wr],by simp[Go.ConcR.wr]⟩,fun N h=>h⟩
theorem Off.st (v:Value):Off B W (W.setCell (stA B) v):=Off.set (a:=stA B) rfl v
theorem Off.sm (v:Value):Off B W (W.setCell (smA B) v):=Off.set (a:=smA B) rfl v
theorem goes_casesM {m:Bool}{Wg:Nat}{St:Goroutine→World→Prop}{n:Nat}{G:Goroutine}(h:Goes P m (RL ty Wg) DC0 St n G W) :
  St G W∨∃ n' G',n=n'+1∧stepG P m G W=.go G' W #[]∧Goes P m (RL ty Wg) DC0 St n' G' W:=by
 cases n with
 | zero=>exact .inl (h W (RL.same rfl))
 | succ n =>
  rcases h with h | ⟨_,h⟩
  ·exact .inl (h W (RL.same rfl))
  ·have hs:=h W (RL.same rfl)
   cases e:stepG P m G W with
   | go G' W' es =>
    rw[e,goes_go] at hs;obtain⟨⟨rfl,rfl⟩,h'⟩:=hs;exact .inr ⟨n,G',rfl,rfl,h'⟩
   | _=>rw[e] at hs;exact hs.elim
theorem Stage.lt (h:Stage ty S b B u last lv W):B<W.heap.size:=by
 obtain⟨_,_,h⟩:=h.live;exact lt_of_heap h
theorem RegX.tD (Z:Zed S h b)(R:RegX P ty h S b B Fin ω W0 ph u last T gs W q lv)(hω:ω b=some B)(hsb:∀ x,ShunG S ω x→x<W.heap.size)(hr:S.role j=.doner b){es:Array Event}(ht:∀ e∈es,∀ x,(MemAct.ofEvent e).touch?=some x→∃ a w,x=⟨.cell a,w,.atomic⟩∧a.block=B)
  (hd:∀ k e x,es[k]?=some e→(MemAct.ofEvent e).touch?=some x→0<deafBehind (Deaf T j) (es.extract 0 k)) (hl:∀ e∈es,(MemAct.ofEvent e).low W.heap.size) :
  TP (isSeat S) (isDoner S) (fun j=>isSeat S j) (LentG S ω) (OwnG S ω) (ShunG S ω) W.heap.size (Knows (T++MemOp.ofEvents j fn pos es) h) (T++MemOp.ofEvents j fn pos es):=by
 have hns:∀ g,¬ isSeat S g:=fun g ⟨s,hs⟩=>Z.noseat g s hs;refine R.trace.appD (fun x hx=>hx.app _) ⟨fun g _ _ k=>absurd k (hns g),fun g _ _ k=>absurd k (hns g),fun g _ k=>absurd k (hns g),fun g _ k=>absurd k (hns g),fun g _ k=>absurd k (hns g),fun g _ k=>absurd k (hns g),hsb⟩ ⟨b,hr⟩ (hns j) ops_g (fun op hop x hx=>?_) (not_heardE hd) fun op hop=>?_
 ·obtain⟨e,he,rfl⟩:=Go.Conc.mem_ofEvents hop
  obtain⟨a,w,rfl,ha⟩:=ht e he x hx;exact⟨rfl,B,⟨a,rfl⟩,by show some a.block=_;rw[ha],b,Z.wgs,hω⟩
 ·obtain⟨e,he,rfl⟩:=Go.Conc.mem_ofEvents hop
  exact hl e he
theorem RegX.tM (Z:Zed S h b)(R:RegX P ty h S b B Fin ω W0 ph u last T gs W q lv){es:Array Event}(hn:∀ e∈es,(MemAct.ofEvent e).touch?=none)(hl:∀ e∈es,(MemAct.ofEvent e).low W.heap.size) :
  TP (isSeat S) (isDoner S) (fun j=>isSeat S j) (LentG S ω) (OwnG S ω) (ShunG S ω) W.heap.size (Knows (T++MemOp.ofEvents j fn pos es) h) (T++MemOp.ofEvents j fn pos es) :=
 R.trace.appMute (fun x hx=>hx.app _) ops_g (fun op hop=>by obtain⟨e,he,rfl⟩:=Go.Conc.mem_ofEvents hop;exact hn e he) (fun⟨s,hs⟩=>absurd hs (Z.noseat j s)) fun op hop=>by obtain⟨e,he,rfl⟩:=Go.Conc.mem_ofEvents hop;exact hl e he
theorem still_deaf {es:Array Event}{d:Nat}(hd:0<d)(hq:∀ e∈es,e.loc≠.mark .disable∧e.loc≠.mark .enable):∀ k,0<deafBehind d (es.extract 0 k):=fun k=>by
 rw[deafBehind_still (fun e he=>hq e (by
  have h:=Array.mem_toList_iff.2 he;rw[Array.toList_extract,List.extract_eq_take_drop] at h;exact Array.mem_toList_iff.1 (List.mem_of_mem_drop (List.mem_of_mem_take h))))]
 exact hd
theorem DonerAt.le {l n:Nat}(h:DonerAt P ty B l n G W):l=6∨l=5∨l=4∨l=3∨l=2∨l=1:=by
 unfold DonerAt at h;split at h
 ·exact .inl rfl
 ·exact .inr (.inl rfl)
 ·exact .inr (.inr (.inl rfl))
 ·exact .inr (.inr (.inr (.inl rfl)))
 ·exact .inr (.inr (.inr (.inr (.inl rfl))))
 ·exact .inr (.inr (.inr (.inr (.inr rfl))))
 ·exact h.elim
theorem RegX.by (C0:Base P ty S (·=h) (fun _=>False) Hr K0 ρ ω u0 T0 gs0 W0 q0 lv0)(Z:Zed S h b)(hB:ρ b=some B)(R:RegX P ty h S b B Fin ω W0 ph u last T gs W q lv)(hjh:j≠h)(hG:gs[j]?=some G)(hrun:G.status=.running)(sl:Option (Nat × Nat)) :
  ∃ gs' W' ops q' lv' u' last',runT P (crowd gs W sl) j=(.next (crowd gs' W' sl),ops)∧RegX P ty h S b B Fin ω W0 ph u' last' (T++ops) gs' W' q' lv'∧Less (meas3 S h q' lv') (meas3 S h q lv):=by
 have hjn:j<S.n:=R.size▸(aq' hG).1;have hω:=C0.up _ _ hB;have hsb:∀ x,ShunG S ω x→x<W.heap.size:=fun x ⟨b',_,h2⟩=>by rw[R.off.size];exact(C0.odom b' x h2).2
 have hself:upd lv j (lv j)=lv:=upd_self;have hlow:∀ {es:Array Event},(∀ e∈es,Event.mute e=true)→∀ e∈es,(MemAct.ofEvent e).low W.heap.size:=fun hm e he=>low_mute (hm e he) _;have quits:0<j→∀ (hl0:lv j=0),(S.role j=.doner b→u j=false∧last≠some j)→QuitsD P (q j) (Deaf T j) G→∃ gs' W' ops q' lv' u' last',runT P (crowd gs W sl) j=(.next (crowd gs' W' sl),ops)∧RegX P ty h S b B Fin ω W0 ph u' last' (T++ops) gs' W' q' lv'∧Less (meas3 S h q' lv') (meas3 S h q lv):=by
  intro h0 hl0 hdl hQ;have hj0:(j==0)=false:=by simp;omega
  cases hq:q j with
  | zero=>rw[hq] at hQ;rw[hQ.1] at hrun;cases hrun
  | succ k =>
   rw[hq] at hQ;rcases hQ with⟨hf,_⟩ | ⟨_,G',es,hm,hst,hQ'⟩
   ·rw[hf] at hrun;cases hrun
   obtain⟨gs',ops,q',lv',h1,h2,h3⟩:=R.put Z hjh hG (W':=W) (by rw[hj0];exact hst W) (Off.refl _ _) (R.tM Z (fun e he=>touch_mute (hm e he)) (hlow hm)) (n':=k) (l':=lv j) (u':=u) (last':=last) (fun _ _=>rfl) (fun _ _=>Iff.rfl) (fun _=>⟨hl0,hQ'⟩)
    (fun hr=>.inr (.inl ⟨(hdl hr).1,(hdl hr).2,by rw[upd_same];exact hl0,by rw[upd_same,Deaf_own];exact hQ'⟩)) (by rw[hself];exact R.stage) (fun h=>.inl h) (.inr ⟨rfl,by omega⟩) sl
   exact⟨gs',W,ops,q',lv',u,last,h1,h2,h3⟩
 cases hr:S.role j with
 | none =>
  obtain⟨h0,G1,h1,h2⟩:=R.gone j hjh hr hjn;rw[hG] at h1;cases h1;exact quits h0 (R.lv0 j hr) (fun h=>by rw[hr] at h;cases h) h2
 | seat s=>exact absurd hr (Z.noseat j s)
 | doner b' =>
  obtain rfl:=Z.donb j b' hr;obtain⟨f1,f2,h0⟩:=C0.fair.donerg j b' hr;have hj0:(j==0)=false:=by simp;omega
  obtain⟨G1,h1,h2⟩:=R.doner j hr;rw[hG] at h1;cases h1;have hlt:=R.stage.lt;rcases h2 with⟨k1,k2,k3,k4⟩ | ⟨k1,k2,k3,k4⟩ | ⟨k1,k2,k3,k4,k5,k6⟩
  ·
   have still:∀ (G':Goroutine) (es:Array Event) (l k:Nat),stepG P false G W=.go G' W es→(∀ e∈es,(MemAct.ofEvent e).touch?=none)→(∀ e∈es,(MemAct.ofEvent e).low W.heap.size)→3<l→DonerAt P ty B l k G' W →
     deafBehind (Deaf T j) es=(if l=4 then 1 else 0)→(l<lv j∨(l=lv j∧k<q j))→∃ gs' W' ops q' lv' u' last',runT P (crowd gs W sl) j=(.next (crowd gs' W' sl),ops)∧RegX P ty h S b' B Fin ω W0 ph u' last' (T++ops) gs' W' q' lv'∧Less (meas3 S h q' lv') (meas3 S h q lv):=by
    intro G' es l k hst hn hl hl3 hd hdf hless;have hstage:Stage ty S b' B u last (upd lv j l) W:=by
     rcases R.stage with h | ⟨j',e1,e2,e3,e4⟩ | h
     ·exact .inl h
     ·refine .inr (.inl ⟨j',e1,e2,e3,?_⟩)
      have hne:j'≠j:=fun e=>by
       have:0<sumTo S.n (cnt S u b'):=by
        have:=cnt_lower (und:=u) (S:=S) hjn f1 k1;omega
       omega
      rw[upd_ne _ _ hne];exact e4
     ·exact .inr (.inr h)
    obtain⟨gs',ops,q',lv',h1,h2,h3⟩:=R.put Z hjh hG (W':=W) (by rw[hj0];exact hst) (Off.refl _ _) (R.tM Z hn hl) (n':=k) (l':=l) (u':=u) (last':=last) (fun _ _=>rfl) (fun _ _=>Iff.rfl) (fun h=>by rw[hr] at h;cases h)
     (fun _=>.inl ⟨k1,by rw[upd_same];exact hl3,by rw[upd_same,upd_same];exact hd,by rw[upd_same,Deaf_own];exact hdf⟩) hstage (fun h=>.inl h) hless sl
    exact⟨gs',W,ops,q',lv',u,last,h1,h2,h3⟩
   generalize hl:lv j=l at k2 k3 k4;have noE:∀ e∈(#[]:Array Event),False:=fun e he=>by simp at he
   obtain rfl | rfl | rfl:l=6∨l=5∨l=4:=by
    have:=k3.le;omega
   ·rcases goes_cases (show Goes P false (RL ty B) DC0 (DQ6 P ty B) (q j) G W from k3) with⟨_,G',hst,m,hm⟩ | ⟨n',G',hq,hst,hg⟩
    ·refine still G' _ 5 m hst (mark_mute _ rfl) (fun e he=>?_) (by decide) hm ?_ (.inl (by omega))
     ·simp only[List.mem_toArray,List.mem_cons,List.not_mem_nil,or_false] at he
      subst he;exact hlt
     ·rw[k4];rfl
    ·exact still G' #[] 6 n' hst (fun e he=>(noE e he).elim) (fun e he=>(noE e he).elim) (by decide) hg (by rw[deafBehind_nil];exact k4) (.inr ⟨hl.symm,by omega⟩)
   ·rcases goes_cases (show Goes P false (RL ty B) DC0 (DQ5 P ty B) (q j) G W from k3) with⟨_,G',hst,m,hm⟩ | ⟨n',G',hq,hst,hg⟩
    ·refine still G' _ 4 m hst (mark_mute _ rfl) (fun e he=>?_) (by decide) hm ?_ (.inl (by omega))
     ·simp only[List.mem_toArray,List.mem_cons,List.not_mem_nil,or_false] at he
      subst he;trivial
     ·rw[k4];rfl
    ·exact still G' #[] 5 n' hst (fun e he=>(noE e he).elim) (fun e he=>(noE e he).elim) (by decide) hg (by rw[deafBehind_nil];exact k4) (.inr ⟨hl.symm,by omega⟩)
   ·rcases goes_cases (show Goes P false (RL ty B) DC0 (DQ4 P ty B) (q j) G W from k3) with⟨_,hst⟩ | ⟨n',G',hq,hst,hg⟩
    ·
     have hc:=cnt_lower (und:=u) (S:=S) hjn f1 k1;obtain⟨e1,e2,e3⟩:last=none∧0<sumTo S.n (cnt S u b')∧WgAt ty B W ((sumTo S.n (cnt S u b'):Nat)*KK+1) 0:=by
      rcases R.stage with h | ⟨_,_,h,_⟩ | ⟨_,h,_⟩
      ·exact h
      ·omega
      ·omega
     have hd1:Deaf T j=1:=by simpa using k4
     obtain⟨v,hv⟩:∃ v,sumTo S.n (cnt S (lower u j) b')=v:=⟨_,rfl⟩;have hcv:sumTo S.n (cnt S u b')=v+1:=by omega
     have hfew:=C0.fair.few b' f2;have hle:=cnt_le (und:=u) (S:=S) b' S.n;rw[hcv] at e3;obtain⟨G',hst',hA,hQ⟩:=hst v 1 (by decide) (by omega) (by simpa using e3);have tt:=R.tD (fn:=G.frame.fn) (pos:=G.frame.place) Z hω hsb hr (es:=#[Go.ConcR.rd (stA B),Go.ConcR.wr (stA B)]) (fun e he x hx=>by
       obtain⟨w,hw⟩:=(rdwr_touch (a:=stA B) (.inr (.inr rfl)) he).1 x hx;exact⟨_,w,hw,rfl⟩) (fun k e x _ _=>still_deaf (by omega) (fun e he=>(rdwr_touch (a:=stA B) (.inr (.inr rfl)) he).2.1) k) (fun e he=>(rdwr_touch (a:=stA B) (.inr (.inr rfl)) he).2.2 _ hlt)
     have hsz:(W.setCell (stA B) (.int .u64 (v*KK+(1:Nat)))).heap.size=W.heap.size:=by simp[World.setCell]
     have hwg':WgAt ty B (W.setCell (stA B) (.int .u64 (v*KK+(1:Nat)))) (v*KK+(1:Nat)) 0:=e3.setSt _;have hdb:deafBehind (Deaf T j) #[Go.ConcR.rd (stA B),Go.ConcR.wr (stA B)]=1:=by rw[hd1];rfl
     rcases Nat.eq_zero_or_pos v with hv0 | hv0
     ·obtain⟨m,hm⟩:=hA ⟨hv0,rfl⟩
      obtain⟨gs',ops,q',lv',h1,h2,h3⟩:=R.put Z hjh hG (W':=W.setCell (stA B) (.int .u64 (v*KK+(1:Nat)))) (by rw[hj0];exact hst') (Off.st _) (by rw[hsz];exact tt) (n':=m) (l':=3) (u':=lower u j) (last':=some j)
       (fun x hx=>by simp[lower,hx]) (fun x hx=>by rw[e1];simp[Ne.symm hx]) (fun h=>by rw[hr] at h;cases h)
       (fun _=>.inr (.inr ⟨by simp[lower],rfl,by rw[upd_same];decide,by rw[upd_same];decide,by rw[upd_same,upd_same];exact hm,by rw[Deaf_own];exact hdb⟩))
       (.inr (.inl ⟨j,rfl,by omega,hr,.inl ⟨.inl (upd_same _ _ _),by subst hv0;simpa using hwg'⟩⟩)) (fun h=>by cases h.1) (.inl (by omega)) sl
      exact⟨gs',_,ops,q',lv',_,_,h1,h2,h3⟩
     ·obtain⟨k,hk⟩:=hQ (by omega)
      obtain⟨gs',ops,q',lv',h1,h2,h3⟩:=R.put Z hjh hG (W':=W.setCell (stA B) (.int .u64 (v*KK+(1:Nat)))) (by rw[hj0];exact hst') (Off.st _) (by rw[hsz];exact tt) (n':=k) (l':=0) (u':=lower u j) (last':=none)
       (fun x hx=>by simp[lower,hx]) (fun x hx=>by rw[e1]) (fun h=>by rw[hr] at h;cases h)
       (fun _=>.inr (.inl ⟨by simp[lower],by simp,by rw[upd_same],by rw[upd_same,Deaf_own,hdb];exact hk⟩))
       (.inl ⟨rfl,by omega,by rw[hv];simpa using hwg'⟩) (fun h=>by omega) (.inl (by omega)) sl
      exact⟨gs',_,ops,q',lv',_,_,h1,h2,h3⟩
    ·exact still G' #[] 4 n' hst (fun e he=>(noE e he).elim) (fun e he=>(noE e he).elim) (by decide) hg (by rw[deafBehind_nil];exact k4) (.inr ⟨hl.symm,by omega⟩)
  ·exact quits h0 k3 (fun _=>⟨k1,k2⟩) k4
  ·
   obtain⟨e2,e4⟩:sumTo S.n (cnt S u b')=0∧(((lv j=3∨lv j=2)∧WgAt ty B W 1 0)∨(lv j=1∧WgAt ty B W 0 0)):=by
    rcases R.stage with⟨h,_⟩ | ⟨j',h1,h2,_,h4⟩ | ⟨h,_⟩
    ·rw[h] at k2;cases k2
    ·rw[h1] at k2;cases k2;exact⟨h2,h4⟩
    ·rw[h] at k2;cases k2
   have noE:∀ e∈(#[]:Array Event),False:=fun e he=>by simp at he
   have on:∀ (G':Goroutine) (W':World) (es:Array Event) (l k:Nat),stepG P false G W=.go G' W' es→Off B W W'→(es=#[]∨es=#[Go.ConcR.rd (stA B)]∨es=#[Go.ConcR.wr (stA B)])→0<l→l<4→DonerAt P ty B l k G' W' →
     (((l=3∨l=2)∧WgAt ty B W' 1 0)∨(l=1∧WgAt ty B W' 0 0))→(l<lv j∨(l=lv j∧k<q j))→∃ gs' W' ops q' lv' u' last',runT P (crowd gs W sl) j=(.next (crowd gs' W' sl),ops)∧RegX P ty h S b' B Fin ω W0 ph u' last' (T++ops) gs' W' q' lv'∧Less (meas3 S h q' lv') (meas3 S h q lv):=by
    intro G' W' es l k hst hO hes hl0 hl4 hd hwg hless;have hprop:∀ e∈es,(∀ x,(MemAct.ofEvent e).touch?=some x→∃ w,x=⟨.cell (stA B),w,.atomic⟩)∧(e.loc≠.mark .disable∧e.loc≠.mark .enable)∧∀ N,(stA B).block<N→(MemAct.ofEvent e).low N:=fun e he=>by
     rcases hes with rfl | hes | hes
     ·exact(noE e he).elim
     ·exact rdwr_touch (.inl hes) he
     ·exact rdwr_touch (.inr (.inl hes)) he
    have hdb:deafBehind (Deaf T j) es=1:=by rw[deafBehind_still fun e he=>(hprop e he).2.1];exact k6
    have tt:=R.tD (fn:=G.frame.fn) (pos:=G.frame.place) Z hω hsb hr (es:=es) (fun e he x hx=>by
       obtain⟨w,hw⟩:=(hprop e he).1 x hx;exact⟨_,w,hw,rfl⟩) (fun k e x _ _=>still_deaf (by omega) (fun e he=>(hprop e he).2.1) k) (fun e he=>(hprop e he).2.2 _ hlt)
    obtain⟨gs',ops,q',lv',h1,h2,h3⟩:=R.put Z hjh hG (W':=W') (by rw[hj0];exact hst) hO (by rw[hO.size];exact tt) (n':=k) (l':=l) (u':=u) (last':=last) (fun _ _=>rfl) (fun _ _=>Iff.rfl) (fun h=>by rw[hr] at h;cases h)
     (fun _=>.inr (.inr ⟨k1,k2,by rw[upd_same];exact hl0,by rw[upd_same];exact hl4,by rw[upd_same,upd_same];exact hd,by rw[Deaf_own];exact hdb⟩)) (.inr (.inl ⟨j,k2,e2,hr,by rw[upd_same];exact hwg⟩)) (fun h=>.inl h) hless sl
    exact⟨gs',W',ops,q',lv',u,last,h1,h2,h3⟩
   generalize hl:lv j=l at k3 k4 k5 e4;obtain rfl | rfl | rfl:l=3∨l=2∨l=1:=by
    have:=k5.le;omega
   ·have hw:WgAt ty B W 1 0:=by
     rcases e4 with⟨_,h⟩ | ⟨h,_⟩
     ·exact h
     ·omega
    rcases goes_cases (show Goes P false (RL ty B) DC0 (DQ3 P ty B) (q j) G W from k5) with⟨_,hst⟩ | ⟨n',G',hq,hst,hg⟩
    ·obtain⟨G',hst,m,hm⟩:=hst hw
     exact on G' W _ 2 m hst (Off.refl _ _) (.inr (.inl rfl)) (by decide) (by decide) hm (.inl ⟨.inr rfl,hw⟩) (.inl (by omega))
    ·exact on G' W _ 3 n' hst (Off.refl _ _) (.inl rfl) (by decide) (by decide) hg (.inl ⟨.inl rfl,hw⟩) (.inr ⟨hl.symm,by omega⟩)
   ·have hw:WgAt ty B W 1 0:=by
     rcases e4 with⟨_,h⟩ | ⟨h,_⟩
     ·exact h
     ·omega
    rcases goes_cases (show Goes P false (RL ty B) DC0 (DQ2 P ty B) (q j) G W from k5) with⟨_,hst⟩ | ⟨n',G',hq,hst,hg⟩
    ·obtain⟨G',hst,m,hm⟩:=hst hw
     exact on G' _ _ 1 m hst (Off.st _) (.inr (.inr rfl)) (by decide) (by decide) hm (.inr ⟨rfl,hw.setSt 0⟩) (.inl (by omega))
    ·exact on G' W _ 2 n' hst (Off.refl _ _) (.inl rfl) (by decide) (by decide) hg (.inl ⟨.inr rfl,hw⟩) (.inr ⟨hl.symm,by omega⟩)
   ·have hw:WgAt ty B W 0 0:=by
     rcases e4 with⟨h | h,_⟩ | ⟨_,h⟩
     ·omega
     ·omega
     ·exact h
    rcases goes_cases (show Goes P false (RL ty B) DC0 (DQ1 P ty B) (q j) G W from k5) with⟨_,hmw,hst⟩ | ⟨n',G',hq,hst,hg⟩
    ·obtain⟨G',hst,m,hm⟩:=hst hw
     have hdb:deafBehind (Deaf T j) (semEvents (smA B))=1:=by rw[k6];rfl
     have tt:=R.tD (fn:=G.frame.fn) (pos:=G.frame.place) Z hω hsb hr (es:=semEvents (smA B)) (fun e he x hx=>by
       obtain⟨w,hw⟩:=sem_touch he hx;exact⟨_,w,hw,rfl⟩) (fun k e x h1 h2=>by rw[k6];exact sem_deaf k e x h1 h2) (fun e he=>sem_low hlt he)
     have hsz:(W.setCell (smA B) (.int .u32 1)).heap.size=W.heap.size:=by simp[World.setCell]
     have hrun':G'.status=.running:=by
      cases m with
      | zero=>exact absurd hm.2 (by decide)
      | succ m=>exact hm.elim (fun x=>absurd x.2 (by decide)) (·.1)
     obtain⟨gs',ops,q',lv',h1,h2,h3⟩:=R.put Z hjh hG (W':=W.setCell (smA B) (.int .u32 1)) (by rw[hj0];exact hst) (Off.sm _) (by rw[hsz];exact tt) (n':=m) (l':=0) (u':=u) (last':=none) (fun _ _=>rfl)
      (fun x hx=>by rw[k2];simp[Ne.symm hx]) (fun h=>by rw[hr] at h;cases h) (fun _=>.inr (.inl ⟨k1,by simp,by rw[upd_same],by rw[upd_same,Deaf_own,hdb];exact hm⟩)) (.inr (.inr ⟨rfl,e2,hw.setSm 1⟩)) (fun _=>.inr ⟨hmw,hrun'⟩) (.inl (by omega)) sl
     exact⟨gs',_,ops,q',lv',_,_,h1,h2,h3⟩
    ·exact on G' W _ 1 n' hst (Off.refl _ _) (.inl rfl) (by decide) (by decide) hg (.inr ⟨rfl,hw⟩) (.inr ⟨hl.symm,by omega⟩)
end
theorem Less.trans {a b c:Nat × Nat}(h:Less a b)(k:Less b c):Less a c:=by
 unfold Less at *;omega
section
variable {P:Program}{ty:TypeId}{Post:Value→World→Prop}{S:SC}{h d j:Nat}{ρ ω ω0:Ren}{und u u' u0:Nat→Bool}{last last':Option Nat}{T T0 t:Trace}{gs gs0:Array Goroutine}{W W0 W':World}{q lv q0 lv0:Nat→Nat}{G X:Goroutine}{b B:Nat}{Hr K0:Nat→Prop}{Fin:Goroutine→World→Prop}{ph:Nat}{fn:FuncId}{pos:String}{sl:Option (Nat × Nat)}
theorem goes_casesR {m:Bool}{Wg:Nat}{St:Goroutine→World→Prop}{n:Nat}{G:Goroutine}(h:Goes P m (RL ty Wg) DC0 St n G W) :
  (∀ W1,RL ty Wg W W1→St G W1)∨∃ n' G',n=n'+1∧stepG P m G W=.go G' W #[]∧Goes P m (RL ty Wg) DC0 St n' G' W:=by
 cases n with
 | zero=>exact .inl h
 | succ n =>
  rcases h with h | ⟨_,h⟩
  ·exact .inl h
  ·have hs:=h W (RL.same rfl)
   cases e:stepG P m G W with
   | go G' W' es =>
    rw[e,goes_go] at hs;obtain⟨⟨rfl,rfl⟩,h'⟩:=hs;exact .inr ⟨n,G',rfl,rfl,h'⟩
   | _=>rw[e] at hs;exact hs.elim
theorem RegX.tH (Z:Zed S h b)(R:RegX P ty h S b B Fin ω W0 ph u last T gs W q lv){es:Array Event}(ht:∀ e∈es,∀ x,(MemAct.ofEvent e).touch?=some x→∃ a w k,x=⟨.cell a,w,k⟩∧k≠.plain)(hl:∀ e∈es,(MemAct.ofEvent e).low W.heap.size) :
  TP (isSeat S) (isDoner S) (fun j=>isSeat S j) (LentG S ω) (OwnG S ω) (ShunG S ω) W.heap.size (Knows (T++MemOp.ofEvents h fn pos es) h) (T++MemOp.ofEvents h fn pos es):=by
 have hns:∀ g,¬ isSeat S g:=fun g ⟨s,hs⟩=>Z.noseat g s hs;refine R.trace.appH (Nat.le_refl _) ops_g (fun op hop x hx=>?_) (fun hh=>absurd hh (hns h)) fun op hop=>?_
 ·obtain⟨e,he,rfl⟩:=Go.Conc.mem_ofEvents hop
  obtain⟨a,w,k,rfl,hk⟩:=ht e he x hx;exact⟨fun g _ hs=>absurd hs (hns g),fun g _ hs=>absurd hs (hns g),fun _ _ _=>hk,fun y hy _=>by cases hy⟩
 ·obtain⟨e,he,rfl⟩:=Go.Conc.mem_ofEvents hop
  exact hl e he
theorem RegX.hget (Z:Zed S h b)(R:RegX P ty h S b B Fin ω W0 ph u last T gs W q lv){X':Goroutine}{x:Nat}(hx:x≠h):((gs.map (woken P X X' W')).setIfInBounds h X')[x]?=gs[x]?:=by
 rw[ar' (Ne.symm hx),Array.getElem?_map];cases e:gs[x]? with
 | none=>rfl
 | some y =>
  have:y.again W'=y:=again_running _ (R.others Z hx e);simp only[Option.map_some];unfold woken;split
  ·rw[this]
  ·rfl
theorem RegX.own (Z:Zed S h b)(R:RegX P ty h S b B Fin ω W0 ph u last T gs W q lv)(hX:gs[h]?=some X){X':Goroutine}{es:Array Event}(hst:stepG P (h==0) X W=.go X' W es)
  (ht:∀ e∈es,∀ x,(MemAct.ofEvent e).touch?=some x→∃ a w k,x=⟨.cell a,w,k⟩∧k≠.plain) (hl:∀ e∈es,(MemAct.ofEvent e).low W.heap.size) (hd:deafBehind 1 es=1) {ph' n':Nat} (hH:HolderAt P ty h B Fin ph' n' X' W)
  (hb:X'.status=.blocked→¬ (last=none∧sumTo S.n (cnt S u b)=0)) (sl:Option (Nat × Nat)) :
  ∃ gs' ops,runT P (crowd gs W sl) h=(.next (crowd gs' W sl),ops)∧RegX P ty h S b B Fin ω W0 ph' u last (T++ops) gs' W (upd q h n') lv:=by
 have hlt:h<gs.size:=(aq' hX).1;have hdo:∀ x,x≠h→Deaf (T++MemOp.ofEvents h X.frame.fn X.frame.place es) x=Deaf T x:=fun x hx=>Deaf_other T (fun e=>hx e.symm) _ ops_g;refine⟨_,_,runT_crowd_go (sl:=sl) hX hst,⟨by rw[Array.size_setIfInBounds,Array.size_map];exact R.size,R.off,R.tH Z ht hl,by rw[Deaf_own,R.deaf];exact hd,fun x hx=>by rw[hdo x (by have:=Z.n;omega)];exact R.above x hx,fun x hx hr hlx=>?_,fun x hr=>?_,R.lv0,R.stage,X',Array.getElem?_setIfInBounds_self_of_lt (by simpa using hlt),by rw[upd_same];exact hH,hb⟩⟩
 ·rw[R.hget Z hx,hdo x hx,upd_ne _ _ hx]
  exact R.gone x hx hr hlx
 ·have hx:x≠h:=fun e=>by rw[e,Z.role] at hr;cases hr
  rw[R.hget Z hx];obtain⟨G1,h1,h2⟩:=R.doner x hr;refine⟨G1,h1,?_⟩;unfold DonAt at h2 ⊢;rw[hdo x hx,upd_ne _ _ hx];exact h2
theorem wq_own {n':Nat}(hn:h<S.n):sumTo S.n (wq h (upd q h n'))+q h=sumTo S.n (wq h q)+n':=by
 have e:wq h (upd q h n')=upd (wq h q) h n':=by
  funext x;by_cases e:x=h
  ·subst e;rw[upd_same];unfold wq;rw[if_pos rfl,upd_same]
  ·rw[upd_ne _ _ e];unfold wq;rw[if_neg e,if_neg e,upd_ne _ _ e]
 have h1:sumTo S.n (upd (wq h q) h n')+wq h q h=sumTo S.n (wq h q)+n':=sumTo_upd _ n' id hn;have h3:wq h q h=q h:=if_pos rfl;rw[e];omega
theorem reg_comes (C0:Base P ty S (·=h) (fun _=>False) Hr K0 ρ ω u0 T0 gs0 W0 q0 lv0)(Z:Zed S h b)(hB:ρ b=some B)
  (hfin:∀ u T gs W sl q lv X,RegX P ty h S b B Fin ω W0 0 u none T gs W q lv→gs[h]?=some X→sumTo S.n (cnt S u b)=0→WgAt ty B W 0 1→WQ4 P (h==0) ty B Fin X W→∃ m' ops,runT P (crowd gs W sl) h=(.next m',ops)∧Comes P Post m' (T++ops))
  (R:RegX P ty h S b B Fin ω W0 ph u last T gs W q lv) (sl:Option (Nat × Nat)):Comes P Post (crowd gs W sl) T:=by
 refine comes_wf Less4.wf (fun a m t=>∃ ph u last gs W sl q lv,m=crowd gs W sl∧RegX P ty h S b B Fin ω W0 ph u last t gs W q lv∧a=(ph,meas3 S h q lv)) ?_ (ph,meas3 S h q lv) _ T ⟨ph,u,last,gs,W,sl,q,lv,rfl,R,rfl⟩;clear R;rintro a m t ⟨ph,u,last,gs,W,sl,q,lv,rfl,R,rfl⟩;obtain⟨i,Y,e,sl',hi,hY,hst⟩:=crowd_pick (P:=P) (w:=W) (sl:=sl) (R.awake Z) (R.runs Z);have Re:=R.at e;by_cases e1:i=h
 ·subst e1
  obtain⟨X,hX,hHX,hbl⟩:=Re.hold;rw[hi] at hX;cases hX;have hlt:=Re.stage.lt;have noE:∀ e∈(#[]:Array Event),False:=fun e he=>by simp at he
  rcases hHX with⟨rfl,h2,k,hq,hg⟩ | ⟨rfl,h2,k,hq,hg⟩ | ⟨_,h2,_⟩
  ·right
   rcases goes_casesM hg with⟨_,G',hst',m,hm⟩ | ⟨n',G',hk,hst',hg'⟩
   ·obtain⟨gs',ops,h3,h4⟩:=Re.own Z hi hst' (fun e he x hx=>by
      simp only[List.mem_toArray,List.mem_cons,List.not_mem_nil,or_false] at he;subst he;simp only[Go.ConcR.mk,MemAct.ofEvent,MemAct.touch?,Option.some.injEq] at hx;subst hx;exact⟨_,_,_,rfl,by simp⟩) (fun e he=>by
      simp only[List.mem_toArray,List.mem_cons,List.not_mem_nil,or_false] at he;subst he;exact hlt) (by rfl) (ph':=0) (n':=m+1) (.inr (.inl ⟨rfl,Goes.running (fun _ _ h=>h.1) _ (RL.same rfl) hm,m,rfl,hm⟩)) (fun hb=>by
      rw[Goes.running (fun _ _ h=>h.1) _ (RL.same rfl) hm] at hb;cases hb) sl'
    exact⟨_,ops,_,hst.trans h3,.inl Nat.zero_lt_one,0,u,last,gs',_,sl',_,lv,rfl,h4,rfl⟩
   ·have hrun:G'.status=.running:=Goes.running (fun _ _ h=>h.1) _ (RL.same rfl) hg'
    obtain⟨gs',ops,h3,h4⟩:=Re.own Z hi hst' (fun e he=>(noE e he).elim) (fun e he=>(noE e he).elim) (deafBehind_nil 1) (ph':=1) (n':=n'+1) (.inl ⟨rfl,hrun,n',rfl,hg'⟩) (fun hb=>by rw[hrun] at hb;cases hb) sl';have:=wq_own (S:=S) (q:=q) (n':=n'+1) Z.n;exact⟨_,ops,(1,meas3 S i (upd q i (n'+1)) lv),hst.trans h3,.inr ⟨rfl,.inr ⟨rfl,by show sumTo S.n (wq i (upd q i (n'+1)))<sumTo S.n (wq i q);omega⟩⟩,1,u,last,gs',_,sl',_,lv,rfl,h4,rfl⟩
  ·rcases goes_casesR hg with hWR | ⟨n',G',hk,hst',hg'⟩
   ·have hW:=hWR _ (RL.same rfl)
    have hW':=hW;obtain⟨_,hoff,hsleep,_⟩:=hW;by_cases hD:last=none∧sumTo S.n (cnt S u b)=0
    ·left
     obtain⟨rfl,hc⟩:=hD;have hwg:WgAt ty B (W.at e) 0 1:=by
      rcases Re.stage with⟨_,h,_⟩ | ⟨_,h,_⟩ | ⟨_,_,h⟩
      ·omega
      ·cases h
      ·exact h
     obtain⟨m',ops,h3,h4⟩:=hfin u t gs (W.at e) sl' q lv Y Re hi hc hwg hW';exact Comes.next (hst.trans h3) h4
    ·right
     have hs0:∃ st,WgAt ty B (W.at e) st 0:=by
      rcases Re.stage with⟨_,_,h⟩ | ⟨_,_,_,_,⟨_,h⟩ | ⟨_,h⟩⟩ | ⟨h1,h2,_⟩
      ·exact⟨_,h⟩
      ·exact⟨_,h⟩
      ·exact⟨_,h⟩
      ·exact absurd ⟨h1,h2⟩ hD
     have e5:({({Y with status:=.blocked}:Goroutine) with status:=.running}:Goroutine)=Y:=by
      obtain⟨f,c,s,d,o⟩:=Y;simp only at h2;subst h2;rfl
     obtain⟨gs',ops,h3,h4⟩:=Re.own Z hi (hsleep hs0) (fun e he=>(noE e he).elim) (fun e he=>(noE e he).elim) (deafBehind_nil 1) (ph':=0) (n':=0) (.inr (.inr ⟨rfl,rfl,hoff,rfl,by
       rw[e5];exact hWR⟩)) (fun _=>hD) sl'
     have:=wq_own (S:=S) (q:=q) (n':=0) Z.n;exact⟨_,ops,(0,meas3 S i (upd q i 0) lv),hst.trans h3,.inr ⟨rfl,.inr ⟨rfl,by show sumTo S.n (wq i (upd q i 0))<sumTo S.n (wq i q);omega⟩⟩,0,u,last,gs',_,sl',_,lv,rfl,h4,rfl⟩
   ·right
    have hrun:G'.status=.running:=Goes.running (fun _ _ h=>h.1) _ (RL.same rfl) hg';obtain⟨gs',ops,h3,h4⟩:=Re.own Z hi hst' (fun e he=>(noE e he).elim) (fun e he=>(noE e he).elim) (deafBehind_nil 1) (ph':=0) (n':=n'+1) (.inr (.inl ⟨rfl,hrun,n',rfl,hg'⟩)) (fun hb=>by rw[hrun] at hb;cases hb) sl';have:=wq_own (S:=S) (q:=q) (n':=n'+1) Z.n;exact⟨_,ops,(0,meas3 S i (upd q i (n'+1)) lv),hst.trans h3,.inr ⟨rfl,.inr ⟨rfl,by show sumTo S.n (wq i (upd q i (n'+1)))<sumTo S.n (wq i q);omega⟩⟩,0,u,last,gs',_,sl',_,lv,rfl,h4,rfl⟩
  ·rw[hY] at h2;cases h2
 ·right
  obtain⟨gs',W',ops,q',lv',u',last',h1,h2,h3⟩:=Re.by C0 Z hB e1 hi hY sl'
  exact⟨_,ops,(ph,meas3 S h q' lv'),hst.trans h1,.inr ⟨rfl,h3⟩,ph,u',last',gs',W',sl',q',lv',rfl,h2,rfl⟩
theorem leave_comes (hP:Fits P)(hb:S.wgs b)(hB:ρ b=some B)(hfin:∀ ω und T gs W sl q lv G,Half P ty h 0 S ρ ω und T gs W q lv G→Fin G W→Comes P Post (crowd gs W sl) T)(hF:∀ G W,Fin G W→G.status=.running) :
  ∀ (n:Nat) (G:Goroutine) ω und T gs W sl q lv,Half P ty h 1 S ρ ω und T gs W q lv G→Goes P (h==0) (RL ty B) DC0 (WE1 P (h==0) ty B Fin) n G W→Comes P Post (crowd gs W sl) T:=by
 refine half_goes hP hb hB (fun _ _ h=>h.1) fun ω und T gs W sl q lv G R hE=>?_;obtain⟨_,G1,hst,n1,hg1⟩:=hE;refine half_mark (d':=0) R (Goes.running (fun _ _ h=>h.1) _ (RL.same rfl) hg1) hst (mark_mute _ rfl) (fun e he=>?_) (by rfl) sl fun gs T R1=>?_
 ·simp only[List.mem_toArray,List.mem_cons,List.not_mem_nil,or_false] at he
  subst he;trivial
 refine half_goes hP hb hB (fun _ _ h=>h.1) (fun ω und T gs W sl q lv G R2 hE=>?_) n1 _ ω und T gs W sl q lv R1 hg1;obtain⟨_,G2,hst2,n2,hg2⟩:=hE;refine half_mark (d':=0) R2 (Goes.running hF _ (RL.same rfl) hg2) hst2 (mark_mute _ rfl) (fun e he=>?_) (by rfl) sl fun gs T R3=>?_
 ·simp only[List.mem_toArray,List.mem_cons,List.not_mem_nil,or_false] at he
  subst he;exact(R2.base.odom _ _ (R2.base.up _ _ hB)).2
 exact half_to hP hb hB hF hfin n2 _ ω und T gs W sl q lv R3 hg2
theorem Half.calm (R:Half P ty h 1 S ρ ω und T gs W q lv G)(Z:Zed S h b)(hB:ρ b=some B)(hc:sumTo S.n (cnt S und b)=0):Half P ty h 1 (S.calm b) ρ ω (fun _=>true) T gs W q (fun _=>0) G:=by
 have C:=R.base;obtain⟨B0,k1,k2⟩:=C.wgs b Z.wgs;obtain rfl:B0=B:=by rw[hB] at k1;exact(oj' k1).symm
 rw[hc,Z.pend] at k2;refine⟨C.calm Z hB (Off.refl _ _) (by simpa using k2) C.size C.trace C.above fun j hj hlt=>?_,R.recd,R.run,rfl,R.deaf⟩;cases e:S.role j with
 | none=>exact C.gone j hj e hlt
 | seat s=>exact absurd e (Z.noseat j s)
 | doner b' =>
  obtain rfl:=Z.donb j b' e;obtain⟨f1,_,f3⟩:=C.fair.donerg j b' e;obtain⟨G1,h1,h2⟩:=C.doner j b' hj e;refine⟨f3,G1,h1,?_⟩;rcases h2 with⟨h2,_⟩ | ⟨_,_,h2⟩
  ·have:=cnt_lower (und:=und) (S:=S) hlt f1 h2
   omega
  ·exact h2
end
end Go.Proofs.Ytfbjopkiicmiiaa.Lift
