/- Cb Cc Da Db Dc Pl Pn Po Dd De Df Dg Dh Di Ea Dj Dk Dl Dm Eb Ec Ed Ee Ef Eg Eh Fa Fb Fc Fd Fe Ff Fg -/
import Derived.Conc.Beside
import Derived.KernelRfl
import Derived.Test.YtfbjopkiicmiiaaRows
import Derived.Conc.CompanyDraw
import Derived.Conc.DeferLaws
import Derived.WalkKit
import Derived.Deep.Draws
import Derived.Deep.AppendLies
import Derived.Maps.AppendAt
import Derived.Laws.EntriesVeiled
import Derived.Orders
import Derived.WalkLawsBesides
import Derived.WalkSpells
import Derived.Lib.Hide
import Derived.Deep.LoopGhost
import Derived.Deep.QuietTactic
import Derived.Test.YtfbjopkiicmiiaaMb
set_option linter.unusedVariables false
set_option linter.unusedSimpArgs false
set_option maxRecDepth 100000
set_option maxHeartbeats 6400000
noncomputable section
namespace Go.Proofs.Ytfbjopkiicmiiaa.Lift
open Go Go.Conc
open Go.ConcN (sumTo upd sumTo_upd upd_ne upd_same WgLive)
open Go.ConcR (KK WgAt stA smA DC0)
section
variable {P:Program}{ty:TypeId}{Post:Value→World→Prop}{S:SC}{h d j:Nat}{ρ ω ω0:Ren}{und u u' u0:Nat→Bool}{last last':Option Nat}{T T0 t:Trace}{gs0:Array Goroutine}{W W0 W':World}{q lv q0 lv0:Nat→Nat}{G X:Goroutine}{b B:Nat}{Hr K0:Nat→Prop}{Fin:Goroutine→World→Prop}{ph:Nat}{fn:FuncId}{pos:String}{sl:Option (Nat × Nat)}
theorem calm_zero {v:Nat→Bool}{n:Nat}:sumTo n (cnt (S.calm b) v b)=0:=by
 induction n with
 | zero=>rfl
 | succ n ih =>
  show sumTo n _+_=0;rw[ih,cnt_calm];by_cases e:S.grp n=some b
  ·rw[if_pos e]
  ·rw[if_neg e]
   unfold cnt;rw[if_neg (fun k=>e k.1)]
theorem Half.others {gs:Array Goroutine}(R:Half P ty h d S ρ ω und T gs W q lv G)(Z:Zed S h b){x:Nat}{y:Goroutine}(hx:x≠h)(hy:gs[x]?=some y):y.status=.running∨y.status=.finished:=by
 have C:=R.base;have hn:x<S.n:=C.size▸(aq' hy).1;cases e:S.role x with
 | none =>
  obtain⟨_,G,h1,h2⟩:=C.gone x hx e hn;rw[hy] at h1;cases h1;exact h2.status
 | seat s=>exact absurd e (Z.noseat x s)
 | doner b' =>
  obtain⟨G,h1,h2⟩:=C.doner x b' hx e;rw[hy] at h1;cases h1;rcases h2 with⟨_,_,_,_,h2,_⟩ | ⟨_,_,h2⟩
  ·exact .inl h2.running
  ·exact h2.status
theorem Half.reg {gs:Array Goroutine}(R:Half P ty h 1 S ρ ω und T gs W q lv G)(Z:Zed S h b)(hB:ρ b=some B){v:Nat}(hv:sumTo S.n (cnt S und b)=v)(hv0:v≠0)(hw:WgAt ty B W (v*KK) 0){G':Goroutine}
  (hst:stepG P (h==0) G W=.go G' (W.setCell (stA B) (.int .u64 (v*KK+1))) #[Go.ConcR.rd (stA B),Go.ConcR.wr (stA B)]) {n:Nat} (hg:Goes P (h==0) (RL ty B) DC0 (WQ3 P (h==0) ty B Fin) n G' (W.setCell (stA B) (.int .u64 (v*KK+1)))) (sl:Option (Nat × Nat)) :
  ∃ gs' ops,runT P (crowd gs W sl) h=(.next (crowd gs' (W.setCell (stA B) (.int .u64 (v*KK+1))) sl),ops)∧RegX P ty h S b B Fin ω W 1 und none (T++ops) gs' (W.setCell (stA B) (.int .u64 (v*KK+1))) (upd q h (n+1)) lv:=by
 have C:=R.base;have hlt:h<gs.size:=(aq' R.recd).1;have hdo:∀ x,x≠h→Deaf (T++MemOp.ofEvents h G.frame.fn G.frame.place #[Go.ConcR.rd (stA B),Go.ConcR.wr (stA B)]) x=Deaf T x:=fun x hx=>Deaf_other T (fun e=>hx e.symm) _ ops_g;have hns:∀ g,¬ isSeat S g:=fun g ⟨s,hs⟩=>Z.noseat g s hs;have hBlt:=(C.odom b B (C.up _ _ hB)).2;have hget:∀ x,x≠h→((gs.map (woken P G G' (W.setCell (stA B) (.int .u64 (v*KK+1))))).setIfInBounds h G')[x]?=gs[x]?:=fun x hx=>by
  rw[ar' (Ne.symm hx),Array.getElem?_map];cases e:gs[x]? with
  | none=>rfl
  | some y =>
   have:y.again (W.setCell (stA B) (.int .u64 (v*KK+1)))=y:=again_running _ (R.others Z hx e);simp only[Option.map_some];unfold woken;split
   ·rw[this]
   ·rfl
 have hwg':WgAt ty B (W.setCell (stA B) (.int .u64 (v*KK+1))) (v*KK+1) 0:=hw.setSt _;have hsz:(W.setCell (stA B) (.int .u64 (v*KK+1))).heap.size=W.heap.size:=by simp[World.setCell]
 have hrun':G'.status=.running:=Goes.running (fun _ _ h=>h.1) _ (RL.same rfl) hg;have tt:TP (isSeat S) (isDoner S) (fun j=>isSeat S j) (LentG S ω) (OwnG S ω) (ShunG S ω) W.heap.size (Knows T h) T:=C.trace.fewer fun g hg=>.inl hg;have tt2:=tt.appH (B':=W.heap.size) (u:=MemOp.ofEvents h G.frame.fn G.frame.place #[Go.ConcR.rd (stA B),Go.ConcR.wr (stA B)]) (Nat.le_refl _) ops_g (fun op hop x hx=>by
  obtain⟨e,he,rfl⟩:=Go.Conc.mem_ofEvents hop;obtain⟨w,rfl⟩:=(rdwr_touch (a:=stA B) (.inr (.inr rfl)) he).1 x hx;exact⟨fun g _ hs=>absurd hs (hns g),fun g _ hs=>absurd hs (hns g),fun _ _ _=>by simp,fun y hy _=>by cases hy⟩) (fun hh=>absurd hh (hns h)) (fun op hop=>by
  obtain⟨e,he,rfl⟩:=Go.Conc.mem_ofEvents hop;exact(rdwr_touch (a:=stA B) (.inr (.inr rfl)) he).2.2 _ hBlt)
 refine⟨_,_,runT_crowd_go (sl:=sl) R.recd hst,⟨by rw[Array.size_setIfInBounds,Array.size_map];exact C.size,Off.st _,by rw[hsz];exact tt2,?_,fun x hx=>by rw[hdo x (by have:=Z.n;omega)];exact C.above x hx,fun x hx hr hlx=>?_,fun x hr=>?_,fun x hr=>C.lv0 x fun b' hb'=>(by rw[hr] at hb';cases hb'),
  .inl ⟨rfl,by omega,by rw[hv];exact hwg'⟩,G',Array.getElem?_setIfInBounds_self_of_lt (by simpa using hlt),.inl ⟨rfl,hrun',n,upd_same _ _ _,hg⟩,fun hb=>(by rw[hrun'] at hb;cases hb)⟩⟩
 ·rw[Deaf_own,R.deaf];rfl
 ·rw[hget x hx,hdo x hx,upd_ne _ _ hx]
  exact C.gone x hx hr hlx
 ·have hx:x≠h:=fun e=>by rw[e,Z.role] at hr;cases hr
  rw[hget x hx];obtain⟨G1,h1,h2⟩:=C.doner x b hx hr;refine⟨G1,h1,?_⟩;unfold DonAt;rw[hdo x hx,upd_ne _ _ hx];rcases h2 with⟨k1,B',k2,k3,k4,k5⟩ | ⟨k1,k2,k3⟩
  ·obtain rfl:B'=B:=by rw[hB] at k2;exact(oj' k2).symm
   exact .inl ⟨k1,k3,k4.rely (RL.live ⟨_,_,hwg'⟩),k5⟩
  ·exact .inr (.inl ⟨k1,by simp,k2,k3⟩)
theorem RegX.take {gs:Array Goroutine}(C0:Base P ty S (·=h) (fun _=>False) Hr K0 ρ ω u0 T0 gs0 W0 q0 lv0)(Z:Zed S h b)(hB:ρ b=some B)(R:RegX P ty h S b B Fin ω W0 0 u none T gs W q lv)(hX:gs[h]?=some X)(hc:sumTo S.n (cnt S u b)=0)(hw:WgAt ty B W 0 1){G':Goroutine}
  (hst:stepG P (h==0) X W=.go G' (W.setCell (smA B) (.int .u32 0)) (semEvents (smA B))) (hrun':G'.status=.running) (sl:Option (Nat × Nat)) :
  ∃ gs' ops,runT P (crowd gs W sl) h=(.next (crowd gs' (W.setCell (smA B) (.int .u32 0)) sl),ops)∧Half P ty h 1 (S.calm b) ρ ω (fun _=>true) (T++ops) gs' (W.setCell (smA B) (.int .u32 0)) q (fun _=>0) G':=by
 have hlt:h<gs.size:=(aq' hX).1;have hBlt:=R.stage.lt;have hdo:∀ x,x≠h→Deaf (T++MemOp.ofEvents h X.frame.fn X.frame.place (semEvents (smA B))) x=Deaf T x:=fun x hx=>Deaf_other T (fun e=>hx e.symm) _ ops_g;have hsz:(W.setCell (smA B) (.int .u32 0)).heap.size=W.heap.size:=by simp[World.setCell]
 have hd:Deaf (T++MemOp.ofEvents h X.frame.fn X.frame.place (semEvents (smA B))) h=1:=by rw[Deaf_own,R.deaf];rfl
 have tt:=R.tH (fn:=X.frame.fn) (pos:=X.frame.place) Z (es:=semEvents (smA B)) (fun e he x hx=>by
  obtain⟨w,rfl⟩:=sem_touch he hx;exact⟨_,_,_,rfl,by simp⟩) (fun e he=>sem_low hBlt he)
 have tt2:TP (isSeat S) (isDoner S) (fun j=>isSeat S j∨(j=h∧1=0)) (LentG S ω) (OwnG S ω) (ShunG S ω) W.heap.size (Knows (T++MemOp.ofEvents h X.frame.fn X.frame.place (semEvents (smA B))) h) (T++MemOp.ofEvents h X.frame.fn X.frame.place (semEvents (smA B))) :=
  tt.more fun g hg=>hg.elim (fun⟨s,hs⟩=>absurd hs (Z.noseat g s)) fun k=>absurd k.2 (by decide)
 refine⟨_,_,runT_crowd_go (sl:=sl) hX hst,⟨C0.calm Z hB (R.off.trans (Off.sm _)) (hw.setSm 0) (by rw[Array.size_setIfInBounds,Array.size_map];exact R.size) (by rw[hsz];exact tt2) (fun x hx=>by rw[hdo x (by have:=Z.n;omega)];exact R.above x hx) fun x hx hlx=>?_,Array.getElem?_setIfInBounds_self_of_lt (by simpa using hlt),hrun',rfl,hd⟩⟩;rw[R.hget Z hx,hdo x hx];cases e:S.role x with
 | none=>exact R.gone x hx e hlx
 | seat s=>exact absurd e (Z.noseat x s)
 | doner b' =>
  obtain rfl:=Z.donb x b' e;obtain⟨f1,_,f3⟩:=C0.fair.donerg x b' e;obtain⟨G1,h1,h2⟩:=R.doner x e;refine⟨f3,G1,h1,?_⟩;rcases h2 with⟨h2,_⟩ | ⟨_,_,_,h2⟩ | ⟨_,h2,_⟩
  ·have:=cnt_lower (und:=u) (S:=S) hlx f1 h2
   omega
  ·exact h2
  ·cases h2
theorem Half.zero {gs:Array Goroutine}(R:Half P ty h d (S.calm b) ρ ω und T gs W q lv G)(Z:Zed S h b)(hB:ρ b=some B):WgAt ty B W 0 0:=by
 obtain⟨B0,k1,k2⟩:=R.base.wgs b Z.wgs;obtain rfl:B0=B:=by rw[hB] at k1;exact(oj' k1).symm
 have e1:(S.calm b).pend b=0:=Z.pend;rw[calm_zero,e1] at k2;simpa using k2
theorem wait_comes {Anch:Goroutine→World→Prop}(hP:Fits P)(Z:Zed S h b)(hB:ρ b=some B)(hF:∀ G W,Fin G W→G.status=.running)(hA:∀ G W,Anch G W→G.status=.running)(hround:∀ G W,Anch G W→∃ n,Goes P (h==0) (RL ty B) DC0 (WQ1 P (h==0) ty B Fin Anch) n G W)
  (hfin:∀ ω und T gs W sl q lv G,Half P ty h 0 (S.calm b) ρ ω und T gs W q lv G→Fin G W→Comes P Post (crowd gs W sl) T) :
  ∀ (m:Nat × Nat) (G:Goroutine) ω und T gs W sl q lv,meas S q lv=m→Half P ty h 1 S ρ ω und T gs W q lv G→Anch G W→Comes P Post (crowd gs W sl) T:=by
 intro m
 induction m using Less.wf.induction with
 | _ m ih =>
  intro G ω und T gs W sl q lv hm R hG;have hleave:=leave_comes (S:=S.calm b) (Fin:=Fin) (Post:=Post) hP (b:=b) (ty:=ty) (h:=h) (show(S.calm b).wgs b from Z.wgs) hB hfin hF;obtain⟨n,hn⟩:=hround G W hG;refine half_goesJ hP Z.wgs hB (J:=fun und q lv=>meas S q lv=m∨Less (meas S q lv) m) (fun und q lv und' q' lv' hj hl=>.inr (hj.elim (fun e=>e▸hl) hl.trans)) (fun _ _ h=>h.1) (fun ω und T gs W sl q lv G R1 hj hW=>?_) n G ω und T gs W sl q lv R (.inl hm) hn;obtain⟨_,hst⟩:=hW;obtain⟨B0,k1,k2⟩:=R1.base.wgs b Z.wgs;obtain rfl:B0=B:=by rw[hB] at k1;exact(oj' k1).symm
  rw[Z.pend,Nat.zero_add] at k2;have hfew:=R1.base.fair.few b Z.wgs;have hle:=cnt_le (und:=und) (S:=S) b S.n;obtain⟨v,hv⟩:∃ v,sumTo S.n (cnt S und b)=v:=⟨_,rfl⟩;rw[hv] at k2;have hBlt:=(R1.base.odom b B0 (R1.base.up _ _ hB)).2;obtain⟨G1,hst1,hz,hnz⟩:=hst v (by omega) k2;have hrun1:G1.status=.running:=by
   by_cases e:v=0
   ·obtain⟨_,h1⟩:=hz e
    exact Goes.running (fun _ _ h=>h.1) _ (RL.same rfl) h1
   ·obtain⟨_,h1⟩:=hnz e
    exact Goes.running (fun _ _ h=>h.1) _ (RL.same rfl) h1
  have look:∀ {G G':Goroutine} {ω und T gs W q lv} (fn:FuncId) (pos:String),Half P ty h 1 S ρ ω und T gs W q lv G→G'.status=.running→Half P ty h 1 S ρ ω und (T++MemOp.ofEvents h fn pos #[Go.ConcR.rd (stA B0)]) (gs.setIfInBounds h G') W q lv G':=fun fn pos R hrun =>
   R.look Z.wgs hB hrun (fun e he x hx=>by
    obtain⟨w,hw⟩:=(rdwr_touch (a:=stA B0) (.inl rfl) he).1 x hx;exact⟨_,_,_,hw,rfl,by simp⟩) (fun e he=>(rdwr_touch (a:=stA B0) (.inl rfl) he).2.1) (fun e he=>(rdwr_touch (a:=stA B0) (.inl rfl) he).2.2 _ (R.base.odom b B0 (R.base.up _ _ hB)).2) fn pos
  have R2:=look G.frame.fn G.frame.place R1 hrun1;have e3:=runT_crowd_go (sl:=sl) R1.recd hst1;rw[R2.base.unwoken fun x gx hx hgx=>by subst hx;rw[R1.recd] at hgx;cases hgx;exact .inl R1.run] at e3;refine⟨_,_,e3,?_⟩;by_cases hv0:v=0
  ·obtain⟨n1,h1⟩:=hz hv0
   exact hleave n1 _ _ _ _ _ _ sl _ _ (R2.calm Z hB (by omega)) h1
  ·obtain⟨n1,h1⟩:=hnz hv0
   refine half_goesJ hP Z.wgs hB (J:=fun und' q' lv'=>(und'=und∧meas S q' lv'=meas S q lv)∨Less (meas S q' lv') (meas S q lv)) (fun und q lv und' q' lv' hj hl=>.inr (hj.elim (fun e=>e.2▸hl) hl.trans)) (fun _ _ h=>h.1) (fun ω und3 T gs W sl q3 lv3 G R3 hj3 hW=>?_) n1 _ _ _ _ _ _ sl _ _ R2 (.inl ⟨rfl,rfl⟩) h1;obtain⟨_,hst⟩:=hW;obtain⟨B1,k3,k4⟩:=R3.base.wgs b Z.wgs;obtain rfl:B1=B0:=by rw[hB] at k3;exact(oj' k3).symm
   rw[Z.pend,Nat.zero_add] at k4;have hfew:=R3.base.fair.few b Z.wgs;have hle:=cnt_le (und:=und3) (S:=S) b S.n;obtain⟨v3,hv3⟩:∃ v,sumTo S.n (cnt S und3 b)=v:=⟨_,rfl⟩;rw[hv3] at k4;obtain⟨hhit,hmiss⟩:=hst v3 (by omega) k4;by_cases e:v3=v
   ·obtain⟨G4,hst4,n4,h4⟩:=hhit e
    obtain⟨gs',ops,h5,h6⟩:=R3.reg Z hB hv3 (by omega) k4 hst4 h4 sl;refine⟨_,ops,h5,reg_comes R3.base Z hB (fun u T gs W sl q lv X R7 hX hc hw hWQ=>?_) h6 sl⟩;obtain⟨_,_,_,htake⟩:=hWQ;obtain⟨G8,hst8,n8,h8⟩:=htake hw;obtain⟨gs9,ops9,h9,R9⟩:=R7.take R3.base Z hB hX hc hw hst8 (Goes.running (fun _ _ h=>h.1) _ (RL.same rfl) h8) sl;refine⟨_,ops9,h9,?_⟩;refine half_goes hP (show(S.calm b).wgs b from Z.wgs) hB (fun _ _ h=>h.1) (fun ω und T gs W sl q lv G R10 hE=>?_) n8 _ _ _ _ _ _ sl _ _ R9 h8;obtain⟨_,hst⟩:=hE;obtain⟨G11,hst11,n11,h11⟩:=hst (R10.zero Z hB);have hrun11:G11.status=.running:=Goes.running (fun _ _ h=>h.1) _ (RL.same rfl) h11;have R11:=R10.look (show(S.calm b).wgs b from Z.wgs) hB hrun11 (fun e he x hx=>by
     obtain⟨w,hw⟩:=(rdwr_touch (a:=stA B1) (.inl rfl) he).1 x hx;exact⟨_,_,_,hw,rfl,by simp⟩) (fun e he=>(rdwr_touch (a:=stA B1) (.inl rfl) he).2.1) (fun e he=>(rdwr_touch (a:=stA B1) (.inl rfl) he).2.2 _ (R10.base.odom b B1 (R10.base.up _ _ hB)).2) G.frame.fn G.frame.place
    have e12:=runT_crowd_go (sl:=sl) R10.recd hst11;rw[R11.base.unwoken fun x gx hx hgx=>by subst hx;rw[R10.recd] at hgx;cases hgx;exact .inl R10.run] at e12;exact⟨_,_,e12,hleave n11 _ _ _ _ _ _ sl _ _ R11 h11⟩
   ·obtain⟨G4,hst4,n4,h4⟩:=hmiss e
    have hless:Less (meas S q3 lv3) m:=by
     rcases hj3 with⟨e1,_⟩ | h
     ·exact absurd (by rw[← hv3,e1,hv]) e
     ·exact hj.elim (fun e=>e▸h) h.trans
    have R4:=look G.frame.fn G.frame.place R3 (Goes.running hA _ (RL.same rfl) h4);have e5:=runT_crowd_go (sl:=sl) R3.recd hst4;rw[R4.base.unwoken fun x gx hx hgx=>by subst hx;rw[R3.recd] at hgx;cases hgx;exact .inl R3.run] at e5;refine⟨_,_,e5,?_⟩;exact half_toJ hP Z.wgs hB (J:=fun und q lv=>Less (meas S q lv) m) (fun und q lv und' q' lv' hj hl=>hl.trans hj) hA (fun ω und T gs W sl q lv G R hj hG=>ih _ hj G ω und T gs W sl q lv rfl R hG) n4 _ _ _ _ _ _ sl _ _ R4 hless h4
open Go.ConcR.Gen Go.Conc.Lib in
theorem sound_wait {L:WgLink}(H:WgLib P L)(hP:Fits P){c:Frame}{cs:List Frame}(Z:Zed S h b)(hnext:Sound P L.tWg Post h (S.calm b) (gs (c.finish (.tuple #[])) cs)):SoundX P L.tWg Post h S L.wait #[.pointer (some ⟨b,0,none⟩)] c cs:=by
 intro ρ ω und T gs0 W sl q lv G R hx;obtain⟨B,hB,hwg⟩:=R.base.wgs b Z.wgs;obtain⟨F,CS,st,dy,off⟩:=G;obtain⟨r1,r2,r3,r4⟩:=R.rel;simp only[gs] at r1 r2 r3 r4;obtain⟨args',hF,ha⟩:=hx;simp only at hF;subst hF;have hargs:args'=#[.pointer (some ⟨B,0,none⟩)]:=by
  obtain⟨X,x1,x2⟩:=ha.get (i:=0) rfl;have hsz:args'.size=1:=ha.1.symm;cases x2 with
  | flat h=>cases h
  | pointer hp =>
   rw[hB] at hp;cases hp;apply Array.ext_getElem?;intro i
   match i with
   | 0=>exact x1
   | i+1=>rw[ae' (by omega),ae' (by simp)]
 subst hargs;subst r3;obtain⟨_,rfl⟩:=r4;cases r2 with
 | @cons _ C _ CS' hc hcs =>
 have hz:(fun x=>x=h∧0=0)=(fun x:Nat=>x=h):=funext fun x=>propext (and_iff_left rfl);have R0:Half P L.tWg h 0 S ρ ω und T gs0 W q lv { frame:=Frame.enter P L.wait #[.pointer (some ⟨B,0,none⟩)] .normal,callers:=C::CS',status:=.running,dying:=none,offers:=off}:=by
  have C0:=R.base;exact⟨by rw[hz];exact C0,R.recd,rfl,R.role,C0.trace.hears h (.inr rfl)⟩
 clear R;have hfin:∀ ω und T gs W sl q lv G,Half P L.tWg h 0 (S.calm b) ρ ω und T gs W q lv G→G=Go.Conc.G (C.finish (.tuple #[])) CS'→Comes P Post (crowd gs W sl) T:=fun ω und T gs W sl q lv G R hG=>by
  subst hG;have C0:=R.base;rw[hz] at C0;exact hnext ρ ω und T gs W sl q lv _ ⟨C0,R.recd,⟨hc.finish ρ.le_refl (VRel.tuple' ARel.nil),hcs,rfl,rfl,rfl⟩,rfl,R.role⟩
 refine half_goes hP Z.wgs hB (Stop:=WD P (h==0) L.tWg B (AnchH L B C CS')) (fun _ _ h=>h.1) (fun ω und T gs W sl q lv G R1 hE=>?_) 10 _ ω und T gs0 W sl q lv R0 (goes_same rfl rfl rfl rfl (fun W ⟨h1,h2⟩=>⟨rfl,by
  have e:=stepG_same (P:=P) (main:=h==0) (g:={frame:=Frame.enter P L.wait #[.pointer (some ⟨B,0,none⟩)] .normal,callers:=C::CS',status:=.running,dying:=none,offers:=off}) (h:=Go.Conc.G (Frame.enter P L.wait #[.pointer (some ⟨B,0,none⟩)] .normal) (C::CS')) rfl rfl rfl W;rw[e];exact h2⟩) (wait_start H W ⟨_,_,hwg⟩))
 obtain⟨_,G1,hst,n1,hg1⟩:=hE;have hA:∀ G W,AnchH L B C CS' G W→G.status=.running:=fun G W ⟨_,e,_⟩=>by rw[e];rfl
 refine half_mark (d':=1) R1 (Goes.running hA _ (RL.same rfl) hg1) hst (mark_mute _ rfl) (fun e he=>?_) (by rfl) sl fun gs T R2=>?_
 ·simp only[List.mem_toArray,List.mem_cons,List.not_mem_nil,or_false] at he
  subst he;trivial
 exact half_to hP Z.wgs hB hA (fun ω und T gs W sl q lv G R3 hG=>wait_comes hP Z hB (Fin:=fun g _=>g=Go.Conc.G (C.finish (.tuple #[])) CS') (fun G W e=>by rw[e];rfl) hA (fun G W h=>⟨30,wait_round H G W h⟩) hfin _ G ω und T gs W sl q lv rfl R3 hG) n1 _ _ _ _ _ _ sl _ _ R2 hg1
end
#print axioms sound_wait
end Go.Proofs.Ytfbjopkiicmiiaa.Lift
namespace Go.Proofs.Ytfbjopkiicmiiaa.Lift
open Go Go.Conc
open Go.ConcN (sumTo upd sumTo_upd upd_ne upd_same WgLive)
open Go.ConcR (KK WgAt stA smA DC0)
section
variable {P:Program}{ty:TypeId}{Post:Value→World→Prop}{S:SC}{g:Goroutine}
theorem sound_end (hP:Fits P)(hno:∀ j,S.role j=.none){v:Value}(hend:∀ ρ G W,GRel ρ g G→stepG P true G W=.ended (.done v) W #[])(hpost:∀ W,Go.RowKit.Below S.n0 S.W0 W→Post v W):Sound P ty Post 0 S g:=by
 refine sound_of_own hP fun ρ ω und T gs W sl q lv G R=>.inl ?_;have C:=R.base;have hns:∀ j,¬ isSeat S j:=fun j ⟨s,hs⟩=>by rw[hno] at hs;cases hs
 have hst:=hend ρ G W R.rel;have hops:MemOp.ofEvents 0 G.frame.fn G.frame.place #[]=#[]:=rfl;refine⟨_,W,_,runT_many_ended (sl:=sl) R.recd (show stepG P (0==0) G W=_ from hst),fun m hm ht=>?_⟩;rw[hops,Array.append_empty];have hpast:=C.trace.toPast (C.trace.hears 0 (.inr rfl)) hns;have hq:∀ j x,gs[j]?=some x→0<j→QuitsD P (q j) (Deaf T j) x:=fun j x hx hj=>by
  obtain⟨_,G1,h1,h2⟩:=C.gone j (by omega) (hno j) (C.size▸(aq' hx).1);rw[hx] at h1;cases h1;exact h2
 refine⟨v,rfl,hpost W C.low,hpast.clean,hpast.over,⟨fun x hx=>?_,ht⟩,fun j x hx hj=>⟨q j,?_⟩⟩
 ·rw[hm] at hx
  obtain⟨j,hj⟩:=List.mem_iff_getElem?.1 hx;rw[List.getElem?_drop] at hj;exact⟨_,(hq (1+j) x (by simpa using hj) (by omega)).leaves⟩
 ·rw[hm] at hx
  exact(hq j x hx (by omega)).hears _
end
theorem small_ex (ρ:Ren):∀ V:Value,∃ v,VRel ρ v V
 | .agg C=>by
  have h:∀ i (h:i<C.size),∃ v,VRel ρ v C[i]:=fun i h=>small_ex ρ C[i];obtain⟨f,hf⟩:=Classical.axiomOfChoice (r:=fun(i:Fin C.size) v=>VRel ρ v C[i.1]) fun i=>h i.1 i.2;exact⟨.agg (Array.ofFn f),.agg (by simp) fun i v V h1 h2=>by
   obtain⟨hi,rfl⟩:=aq' h2;have:v=f ⟨i,hi⟩:=by simpa[hi] using h1.symm
   subst this;exact hf ⟨i,hi⟩⟩
 | .tuple C=>by
  have h:∀ i (h:i<C.size),∃ v,VRel ρ v C[i]:=fun i h=>small_ex ρ C[i];obtain⟨f,hf⟩:=Classical.axiomOfChoice (r:=fun(i:Fin C.size) v=>VRel ρ v C[i.1]) fun i=>h i.1 i.2;exact⟨.tuple (Array.ofFn f),.tuple (by simp) fun i v V h1 h2=>by
   obtain⟨hi,rfl⟩:=aq' h2;have:v=f ⟨i,hi⟩:=by simpa[hi] using h1.symm
   subst this;exact hf ⟨i,hi⟩⟩
 | .func (.method n) x c=>⟨_,.meth⟩
 | .func (.func _) _ _=>⟨_,.hole rfl⟩
 | .func (.methodOf _ _) _ _=>⟨_,.hole rfl⟩
 | .func (.via _ _ _ _) _ _=>⟨_,.hole rfl⟩
 | .func (.yield _) _ _=>⟨_,.hole rfl⟩
 | .bool _=>⟨_,.flat rfl⟩
 | .int _ _=>⟨_,.flat rfl⟩
 | .string _=>⟨_,.flat rfl⟩
 | .float _ _=>⟨_,.hole rfl⟩
 | .complex _ _ _=>⟨_,.hole rfl⟩
 | .pointer none=>⟨_,.flat rfl⟩
 | .pointer (some _)=>⟨_,.hole rfl⟩
 | .slice none _ _=>⟨_,.flat rfl⟩
 | .slice (some _) _ _=>⟨_,.hole rfl⟩
 | .map none=>⟨_,.flat rfl⟩
 | .map (some _)=>⟨_,.hole rfl⟩
 | .chan none=>⟨_,.flat rfl⟩
 | .chan (some _)=>⟨_,.hole rfl⟩
 | .nilFunc=>⟨_,.flat rfl⟩
 | .iface _ _=>⟨_,.hole rfl⟩
 | .nilIface=>⟨_,.flat rfl⟩
open Classical in
def soft (ρ:Ren)(V:Value):Value:=if VRel ρ V V then V else Classical.choose (small_ex ρ V)
theorem soft_rel (ρ:Ren)(V:Value):VRel ρ (soft ρ V) V:=by
 unfold soft;split
 ·assumption
 ·exact Classical.choose_spec (small_ex ρ V)
theorem soft_same {ρ:Ren}{V:Value}(h:VRel ρ V V):soft ρ V=V:=if_pos h
def isC (W:World)(b:Nat):Prop:=∃ c t fz,W.heap[b]?=some (.cells c t fz)
def seenR (W:World):Ren:=fun b=>open Classical in if isC W b then some b else none
theorem seenR_in {W:World}{b:Nat}(h:isC W b):seenR W b=some b:=if_pos h
theorem seenR_of {W:World}{b B:Nat}(h:seenR W b=some B):isC W b∧B=b:=by
 unfold seenR at h;split at h
 ·rename_i hX;exact⟨hX,(oj' h).symm⟩
 ·cases h
def iced (ρ:Ren):Obj→Obj
 | .cells c t fz=>.cells (c.map (soft ρ)) t (0,c.size+1+fz.2)
 | _=>poison
def seenW (W:World):World:={W with heap:=W.heap.map (iced (seenR W))}
theorem seenW_size {W:World}:(seenW W).heap.size=W.heap.size:=by simp[seenW]
theorem seenW_in {W:World}{b:Nat}{c:Array Value}{t:TypeId}{fz:Nat × Nat}(hb:W.heap[b]?=some (.cells c t fz)):(seenW W).heap[b]?=some (.cells (c.map (soft (seenR W))) t (0,c.size+1+fz.2)):=by
 simp only[seenW,Array.getElem?_map,hb,Option.map_some];rfl
theorem seenW_out {W:World}{b:Nat}(h:¬ isC W b)(hb:b<W.heap.size):(seenW W).heap[b]?=some poison:=by
 simp only[seenW,Array.getElem?_map,as' hb,Option.map_some];cases e:W.heap[b]<;>first | rfl | exact absurd ⟨_,_,_,(as' hb).trans (congrArg some e)⟩ h
theorem seenW_cell {W:World}{b o:Nat}{v:Value}(h:W.cell? ⟨b,o,none⟩=some v)(hv:VRel (seenR W) v v):(seenW W).cell? ⟨b,o,none⟩=some v:=by
 unfold World.cell? at h ⊢;cases e:W.heap[b]? with
 | none=>simp[e] at h
 | some x =>
  cases x<;>simp[e] at h
  rw[seenW_in e];simp[h,soft_same hv]
theorem cell_isC {W:World}{b o:Nat}{v:Value}(h:W.cell? ⟨b,o,none⟩=some v):isC W b:=by
 unfold World.cell? at h;cases e:W.heap[b]? with
 | none=>simp[e] at h
 | some x =>
  cases x<;>simp[e] at h
  exact⟨_,_,_,e⟩
def SC.start (W:World):SC :=
 { w:=seenW W,n:=1,role:=fun _=>.none,chs:=fun _=>False,wgs:=fun _=>False,pend:=fun _=>0,grp:=fun _=>none,fz:=fun _=>False,n0:=W.heap.size,W0:=W}
section
variable {P:Program}{ty:TypeId}{Post:Value→World→Prop}{W:World}
theorem start_stl {b:Nat}(hb:b<W.heap.size):Stl (seenW W) b:=by
 by_cases e:isC W b
 ·obtain⟨c,t,fz,h⟩:=e
  refine .inr (.inl ⟨_,t,_,seenW_in h,fun o ho=>?_⟩);unfold inFz;rw[Array.size_map] at ho;simp;omega
 ·exact .inl (seenW_out e hb)
theorem start_view (hW:GN≤W.heap.size):View (seenR W) (seenW W) W:=by
 refine⟨fun b B hB=>?_,fun b c B hb hc=>?_,fun b B hB=>?_,fun _ _=>rfl,rfl,by show GN≤(seenW W).heap.size;rw[seenW_size];exact hW,hW,fun b B hB=>by rw[(seenR_of hB).2]⟩
 ·obtain⟨⟨c,t,fz,h⟩,rfl⟩:=seenR_of hB
  show _<(seenW W).heap.size∧_;rw[seenW_size];exact⟨lt_of_heap h,lt_of_heap h⟩
 ·rw[← (seenR_of hb).2,← (seenR_of hc).2]
 ·obtain⟨⟨c,t,fz,h⟩,rfl⟩:=seenR_of hB
  refine⟨_,_,seenW_in h,h,.cells ⟨by simp,fun i v V h1 h2=>?_⟩ ⟨fun o ho=>?_,fun e=>?_⟩⟩
  ·rw[Array.getElem?_map,h2] at h1
   cases h1;exact soft_rel _ _
  ·unfold inFz at ho ⊢
   simp only[Bool.and_eq_true,decide_eq_true_eq] at ho ⊢;omega
  ·simp at e
theorem sound_start (hW:GN≤W.heap.size){f:FuncId}{args:Array Value}(ha:∀ (i:Nat) v,args[i]?=some v→VRel (seenR W) v v)(hs:Sound P ty Post 0 (SC.start W) (gs (Frame.enter P f args .normal) [])) :
  ∃ M last o w' t',runNT P (M+1) (solo (G (Frame.enter P f args .normal) []) W) #[]=(.ended o w',t')∧runN P M (solo (G (Frame.enter P f args .normal) []) W)=.next last∧step P last=.ended o w'∧Conc.Good P Post last o w' t':=by
 have hno:∀ j,(SC.start W).role j=.none:=fun _=>rfl;have hF:Fair (SC.start W):=⟨fun _ _ h=>(by cases h),fun _ _ _ h=>(by cases h),fun _ _ _ _ _ h=>(by cases h),fun _ _ _ h=>(by cases h),fun _ _ _ _ _ h=>(by cases h),fun _ h=>h.elim,fun _ _ _ _ h=>(by cases h),fun _ h=>h.elim,fun _ _ _ h=>(by cases h),fun _ h=>h.elim,
  fun _ _ h=>(by cases h),fun _ h=>absurd rfl h,fun _ h=>h.elim,fun b hb=>start_stl hb,Nat.le_refl _,fun _ _ _ h=>(by cases h),fun _ h=>h.elim,fun _ h=>h.elim⟩
 have hcells:∀ b B,seenR W b=some B→b<W.heap.size∧B<W.heap.size:=fun b B hB=>by
  obtain⟨⟨c,t,fz,h⟩,rfl⟩:=seenR_of hB;exact⟨lt_of_heap h,lt_of_heap h⟩
 have hpast:Past (fun _=>False) W.heap.size #[]:=⟨past_nil.clean,past_nil.known,past_nil.over,past_nil.hears,fun op h=>(by simp at h)⟩;have hta:∀ i,touchAt #[] i=none:=fun i=>by simp[touchAt,Trace.act?]
 have C:Base P ty (SC.start W) (·=0) (fun _=>False) (·=0) (Knows #[] 0) (seenR W) (seenR W) (fun _=>true) #[] #[gs (Frame.enter P f args .normal) []] W (fun _=>0) (fun _=>0):=by
  refine⟨hF,rfl,start_view hW,fun b c B hb hc=>?_,fun b B hB=>?_,fun _ _ h=>h,fun _ _ _ h=>(by cases h),fun b B h=>.inl h,fun _ _ _ h=>(by cases h),fun j hj _ hlt=>absurd (show j<1 from hlt) (by omega),fun _ _ _ h=>(by cases h),fun _ _=>rfl,fun _ _=>rfl,fun _ h=>h.elim,fun _ _ _ h=>(by cases h),fun _ _ _ hD=>hD.elim,fun _ h=>h.elim,
   (TP.ofPast (Mem:=fun g=>g=0) (Lent:=fun _ _=>False) (Own:=fun _ _=>False) (Shunned:=ShunG (SC.start W) (seenR W)) hpast (fun _ hg=>hg) (fun i a b h=>(by rw[hta] at h;cases h))).alike (fun g=>⟨fun⟨s,hs⟩=>(by cases hs),fun h=>h.elim⟩) (fun g ⟨b,hb⟩=>(by cases hb)) (fun g hg=>rfl) (fun g x h=>h.elim) (fun g x h=>h.elim) (fun x=>Iff.rfl),fun _ _=>rfl,fun _ _ h=>h.elim,fun b o ho hne=>?_,Go.RowKit.Below.refl _ _,fun b B hB hlt=>?_⟩
  ·rw[← (seenR_of hb).2,← (seenR_of hc).2]
  ·show b<(seenW W).heap.size∧_
   rw[seenW_size];exact hcells b B hB
  ·by_cases e:isC W b
   ·exact⟨b,seenR_in e⟩
   ·have hl:=lt_of_heap ho
    have hl2:b<(seenW W).heap.size:=hl;rw[seenW_size] at hl2;have:(seenW W).heap[b]?=some o:=ho;rw[seenW_out e hl2] at this;exact absurd (oj' this).symm hne
  ·exact(hcells b B hB).1
 obtain⟨N,last,o,w',t',h1,h2,h3,h4⟩:=hs (seenR W) (seenR W) _ #[] _ W none _ _ _ ⟨C,rfl,⟨FRel.enter ⟨rfl,fun i v V h1 h2=>(by rw[h1] at h2;cases h2;exact ha i v h1)⟩ .normal,.nil,rfl,rfl,rfl⟩,rfl,rfl⟩;exact⟨N,last,o,w',t',h1,h2,h3,h4⟩
end
end Go.Proofs.Ytfbjopkiicmiiaa.Lift
namespace Go.Proofs.Ytfbjopkiicmiiaa.Lift
open Go Go.Conc
abbrev link:Go.Conc.Lib.WgLink:={add:=38,done:=59,wait:=45,relMerge:=46,disable:=47,enable:=48,inBubble:=49,associate:=50,fatal:=51,uOr:=52,uAdd:=53,raceRead:=54,uLoad:=55,uStore:=56,disassociate:=57,semrelease:=58,acquire:=62,isAssociated:=63,uCas:=64,raceWrite:=65,semacquire:=66,orU64:=67,addU64:=68,loadU64:=69,storeU64:=70,casU64:=72,tWgP:=98,tUP:=106,tAssoc:=107,tWg:=95,tAU:=92,tU64:=22,tUint:=111,tU32:=93,tPU32:=112,tPAU:=122,tPU64:=124,tNoCopy:=88,tANoCopy:=89,tAlign64:=90}
theorem wgLib:Go.Conc.Lib.WgLib Try.prog link :=
 ⟨Try.func38,Try.func59,Try.func45,Try.func46,Try.func47,Try.func48,Try.func49,Try.func50,Try.func51,Try.func52,Try.func53,Try.func54,Try.func55,Try.func56,Try.func57,Try.func58,Try.func62,Try.func63,Try.func64,Try.func65,Try.func66,Try.func67,Try.func68,Try.func69,Try.func70,Try.func72,Try.underlying98,Try.runUnderlying98,Try.sizeOf98,Try.isAgg98,Try.zeroValue98,Try.underlying106,Try.runUnderlying106,Try.sizeOf106,Try.isAgg106,Try.zeroValue106,Try.underlying107,Try.runUnderlying107,Try.sizeOf107,Try.isAgg107,Try.zeroValue107,Try.underlying95,Try.runUnderlying95,Try.sizeOf95,Try.isAgg95,Try.zeroValue95,Try.underlying92,Try.runUnderlying92,Try.sizeOf92,Try.isAgg92,Try.zeroValue92,Try.underlying22,Try.runUnderlying22,Try.sizeOf22,Try.isAgg22,Try.zeroValue22,Try.underlying111,Try.runUnderlying111,Try.sizeOf111,Try.isAgg111,Try.zeroValue111,Try.underlying93,Try.runUnderlying93,Try.sizeOf93,Try.isAgg93,Try.zeroValue93,Try.underlying112,Try.runUnderlying112,Try.sizeOf112,Try.isAgg112,Try.zeroValue112,Try.underlying122,Try.runUnderlying122,Try.sizeOf122,Try.isAgg122,Try.zeroValue122,Try.underlying124,Try.runUnderlying124,Try.sizeOf124,Try.isAgg124,Try.zeroValue124,Try.underlying0,Try.runUnderlying0,Try.sizeOf0,Try.isAgg0,Try.zeroValue0,Try.underlying3,Try.runUnderlying3,Try.sizeOf3,Try.isAgg3,Try.zeroValue3,Try.underlying4,Try.runUnderlying4,Try.sizeOf4,Try.isAgg4,Try.zeroValue4,Try.underlying9,Try.runUnderlying9,Try.sizeOf9,Try.isAgg9,Try.zeroValue9,Try.underlying20,Try.runUnderlying20,Try.sizeOf20,Try.isAgg20,Try.zeroValue20,Try.underlying21,Try.runUnderlying21,Try.sizeOf21,Try.isAgg21,Try.zeroValue21,(by kernel_rfl),(by kernel_rfl)⟩
theorem noGlobals:Try.prog.globals.size=GN:=by decide +kernel
theorem hasBody:∀ f,okF f=true→∃ fn c,Try.prog.funcs[f]?=some fn∧fn.body=some c∧(fn.name == "runtime.NumGoroutine")=false:=by
 intro f hf;have h72:f<72:=by
  unfold okF at hf;simp only[Bool.or_eq_true,Bool.and_eq_true,decide_eq_true_eq,beq_iff_eq] at hf;have hf':(((((((1:Nat)<f)∧f<(4:Nat))∨(((4:Nat)<f)∧f<(17:Nat)))∨(((17:Nat)<f)∧f<(46:Nat)))∨(((58:Nat)<f)∧f<(62:Nat)))∨f=(71:Nat)):=hf;exact(show ∀ f:Nat,(((((((1:Nat)<f)∧f<(4:Nat))∨(((4:Nat)<f)∧f<(17:Nat)))∨(((17:Nat)<f)∧f<(46:Nat)))∨(((58:Nat)<f)∧f<(62:Nat)))∨f=(71:Nat))→f<72 from fun f h=>by omega) f hf'
 have key:(List.range 72).all (fun f=>!okF f||(match Try.prog.funcs[f]? with | some fn=>fn.body.isSome&&!(fn.name == "runtime.NumGoroutine") | none=>false))=true:=by decide +kernel
 have:=List.all_eq_true.1 key f (List.mem_range.2 h72);rw[hf] at this;cases e:Try.prog.funcs[f]? with
 | none=>rw[e] at this;simp at this
 | some fn =>
  rw[e] at this;simp only[Bool.not_true,Bool.false_or,Bool.and_eq_true,Bool.not_eq_true'] at this;obtain⟨c,hc⟩:=Option.isSome_iff_exists.1 this.1;exact⟨fn,c,rfl,hc,this.2⟩
theorem noDull:(match Try.prog.info? 1000000 with | none=>true | some i=>(i.methods.find? (·.name == "")).isNone)=true:=by kernel_rfl
theorem fits:Fits Try.prog:=⟨noGlobals,hasBody,fun i h=>by
 have:=noDull;rw[h] at this;exact Option.isNone_iff_eq_none.1 this,fun f hf=>by
 have hf':f=4∨f=17:=by
  unfold okX at hf;simpa using hf
 rcases hf' with rfl | rfl
 ·exact⟨_,Try.func4,by decide +kernel,rfl,by kernel_rfl,.inr (by kernel_rfl)⟩
 ·exact⟨_,Try.func17,by decide +kernel,rfl,by kernel_rfl,.inl (by kernel_rfl)⟩,by decide +kernel⟩
def fam (f:FuncId):Bool:=[34,35,37,41,43,28,29,26,20,5,6,7].contains f
theorem shut:Shut fam Try.prog:=by
 refine⟨fun f hf=>?_⟩;have key:[34,35,37,41,43,28,29,26,20,5,6,7].all (fun f=>okF f&&(match Try.prog.funcs[f]? with | some fn=>!(fn.name == "runtime.NumGoroutine")&&(match fn.body with | some c=>okC fam Try.prog c | none=>false) | none=>false))=true:=by decide +kernel
 have hm:f∈[34,35,37,41,43,28,29,26,20,5,6,7]:=List.contains_iff_mem.1 hf;have:=List.all_eq_true.1 key f hm;rw[Bool.and_eq_true] at this;refine⟨this.1,?_⟩;have h2:=this.2;cases e:Try.prog.funcs[f]? with
 | none=>rw[e] at h2;cases h2
 | some fn =>
  rw[e] at h2;simp only[Bool.and_eq_true,Bool.not_eq_true'] at h2;cases ec:fn.body with
  | none=>rw[ec] at h2;exact absurd h2.2 (by simp)
  | some c=>rw[ec] at h2;exact⟨fn,c,rfl,ec,h2.1,h2.2⟩
structure Step1 (P:Program)(m:Bool)(g:Goroutine)(w:World)(g':Goroutine)(w':World):Prop where
 ok:g.frame.mode=.run→okHd P g.frame.eval g.frame.todo
 st:∀ τ d,∃ es,stepG P m g (re w τ d)=.go g' (re w' τ d) es
 plain:Plain g'
 size:w.heap.size≤w'.heap.size
def Det (P:Program)(m:Bool)(K:Nat→Goroutine→World→Prop):Prop:=∀ n g w g' w',g.status=.running→Step1 P m g w g' w'→K n g' w'→K (n+1) g w
structure Cl (P:Program)(m:Bool)(K:Goroutine→World→Prop):Prop where
 blind:∀ g w τ d,K g w→K g (re w τ d)
 step:∀ g w,(g.frame.mode=.run→okHd P g.frame.eval g.frame.todo)→(∀ τ d,∃ g' w' es,stepG P m g (re w τ d)=.go g' w' es∧Plain g'∧K g' w')→K g w
 tied:∀ g w,(Tied g w→K g w)→K g w
section
variable {P:Program}{m:Bool}{K:Goroutine→World→Prop}{Kn:Nat→Goroutine→World→Prop}{Stop:Goroutine→World→Prop}
theorem Cl.det (hK:Cl P m K):Det P m fun _=>K:=fun _ g w g' w' _ h k =>
 hK.step g w h.ok fun τ d=>⟨g',re w' τ d,_,(h.st τ d).choose_spec,h.plain,hK.blind _ _ τ d k⟩
theorem Cl.way (hK:Cl P m K){g:Goroutine}{w:World}(h:Way P m Stop g w)(hS:∀ g' w',Stop g' w'→K g' w'):K g w:=by
 induction h with
 | stop h=>exact hS _ _ h
 | step' g' w' es h1 h2 _ ih=>exact hK.step _ _ h1 fun τ d=>⟨_,_,_,(h2 τ d).1,(h2 τ d).2,ih τ d⟩
theorem Cl.call (hK:Cl P m K)(hP:Fits P){F:FuncId→Bool}(hF:Shut F P){f:FuncId}(hf:F f=true){args:Array Value}{w:World}{R:Value→World→Prop}(hR:∀ v w τ d,R v w→R v (Lift.re w τ d))
  (hc:∀ τ d,Calls P f args (Lift.re w τ d) fun e w'=>∃ v,e=.returned v∧R v w') {c:Frame} {low:List Frame} (h:∀ v w',R v w'→K (gs (c.finish v) low) w'):K (gs (Frame.enter P f args .normal) (c::low)) w :=
 hK.tied _ _ fun ht=>hK.way (way_call hP hF hf hR hc ht) fun g' w' ⟨v,e,hv⟩=>e▸h v w' hv
theorem Cl.seg (hK:Cl P m K)(hP:Fits P){F:FuncId→Bool}(hF:Shut F P){b:Frame}(hfn:∃ f,P.funcs[b.fn]?=some f)(hbk:b.kind≠.early){c:Code}(hc:okC F P c=true){tm:Array Value}{ds:List Deferred}{k:List Item}{cs:List Frame}{w:World}
  {Q:Array Value→World→Prop} (hQ:∀ t w τ d,Q t w→Q t (Lift.re w τ d)) (hwp:∀ τ d,c.wp P (fun e a' w'=>e=.normal∧a'.defers=[]∧Q a'.tmps w') ⟨tm,[]⟩ (Lift.re w τ d))
  (h:∀ t w',Q t w'→K (gs (b.at ⟨t,ds⟩ k) cs) w'):K (gs (b.at ⟨tm,ds⟩ (.code c::k)) cs) w :=
 hK.tied _ _ fun ht=>hK.way (way_seg hP hF hfn hbk hc hQ hwp ht) fun g' w' ⟨v,e,hv⟩=>e▸h v w' hv
theorem Cl.rest (hK:Cl P m K)(hP:Fits P){F:FuncId→Bool}(hF:Shut F P){b:Frame}(hfn:∃ f,P.funcs[b.fn]?=some f)(hbk:b.kind≠.early){ops:Array Oper}{l:List Nat}(hc:okIt F P (.inRegion ops l)=true){tm:Array Value}{ds:List Deferred}{k:List Item}{cs:List Frame}{w:World}
  {Q:Array Value→World→Prop} (hQ:∀ t w τ d,Q t w→Q t (Lift.re w τ d)) (hwp:∀ τ d,wpOps P ops (fun e a' w'=>e=.normal∧a'.defers=[]∧Q a'.tmps w') l ⟨tm,[]⟩ (Lift.re w τ d))
  (h:∀ t w',Q t w'→K (gs (b.at ⟨t,ds⟩ k) cs) w'):K (gs (b.at ⟨tm,ds⟩ (.inRegion ops l::k)) cs) w :=
 hK.tied _ _ fun ht=>hK.way (way_rest hP hF hfn hbk hc hQ hwp ht) fun g' w' ⟨v,e,hv⟩=>e▸h v w' hv
theorem cl_way (hP:Fits P)(hS:Blind Stop):Cl P m fun g w=>Tied g w→Way P m Stop g w where
 blind g w τ d h ht:=(h (ht.re w.tape w.drawn)).re hS τ d
 step g w hh h ht:=.step hh fun τ d=>by
  obtain⟨g',w',es,e,hp,hk⟩:=h τ d;exact⟨g',w',es,e,hp,hk ((ht.re τ d).step hP hh e hp)⟩
 tied g w h ht:=h ht ht
section
variable {b:Frame}{a:Act}{k:List Item}{cs:List Frame}{w:World}{n:Nat}
theorem Step1.control {g g':Goroutine}(hm:g.frame.mode=.run→okHd P g.frame.eval g.frame.todo)(hp:Plain g')(h:∀ w,stepG P m g w=.go g' w):Step1 P m g w g' w :=
 ⟨hm,fun τ d=>⟨_,h _⟩,hp,Nat.le_refl _⟩
theorem Det.skip (hK:Det P m Kn)(h:Kn n (gs (b.at a k) cs) w):Kn (n+1) (gs (b.at a (.code .skip::k)) cs) w:=hK _ _ _ _ _ rfl (.control (fun _=>trivial) ⟨rfl,rfl⟩ fun _=>stepG_skip) h
theorem Det.label (hK:Det P m Kn){l:Nat}(h:Kn n (gs (b.at a k) cs) w):Kn (n+1) (gs (b.at a (.code (.label l)::k)) cs) w:=hK _ _ _ _ _ rfl (.control (fun _=>trivial) ⟨rfl,rfl⟩ fun _=>stepG_label) h
theorem Det.inBlock (hK:Det P m Kn){l:Nat}(h:Kn n (gs (b.at a k) cs) w):Kn (n+1) (gs (b.at a (.inBlock l::k)) cs) w:=hK _ _ _ _ _ rfl (.control (fun _=>trivial) ⟨rfl,rfl⟩ fun _=>stepG_inBlock) h
theorem Det.seq (hK:Det P m Kn){x y:Code}(h:Kn n (gs (b.at a (.code x::.code y::k)) cs) w):Kn (n+1) (gs (b.at a (.code (.seq x y)::k)) cs) w:=hK _ _ _ _ _ rfl (.control (fun _=>trivial) ⟨rfl,rfl⟩ fun _=>sx') h
theorem Det.cond (hK:Det P m Kn){c:Operand}{x y:Code}(t:Bool)(hc:a.eval c=.bool t)(ho:okO c=true)(h:Kn n (gs (b.at a (.code (if t then x else y)::k)) cs) w):Kn (n+1) (gs (b.at a (.code (.cond c x y)::k)) cs) w :=
 hK _ _ _ _ _ rfl (.control (fun _=>ho) ⟨rfl,rfl⟩ fun _=>stepG_cond hc) h
theorem Det.block (hK:Det P m Kn){l:Nat}{x:Code}(h:Kn n (gs (b.at a (.code x::.inBlock l::k)) cs) w):Kn (n+1) (gs (b.at a (.code (.block l x)::k)) cs) w:=hK _ _ _ _ _ rfl (.control (fun _=>trivial) ⟨rfl,rfl⟩ fun _=>stepG_block) h
theorem Det.loop (hK:Det P m Kn){x:Code}(h:Kn n (gs (b.at a (.code x::.inLoop x::k)) cs) w):Kn (n+1) (gs (b.at a (.code (.loop x)::k)) cs) w:=hK _ _ _ _ _ rfl (.control (fun _=>trivial) ⟨rfl,rfl⟩ fun _=>stepG_loop) h
theorem Det.inLoop (hK:Det P m Kn){x:Code}(h:Kn n (gs (b.at a (.code x::.inLoop x::k)) cs) w):Kn (n+1) (gs (b.at a (.inLoop x::k)) cs) w:=hK _ _ _ _ _ rfl (.control (fun _=>trivial) ⟨rfl,rfl⟩ fun _=>stepG_inLoop) h
theorem Det.exit (hK:Det P m Kn){l:Nat}{k':List Item}(he:exitTo l k=some k')(h:Kn n (gs (b.at a k') cs) w):Kn (n+1) (gs (b.at a (.code (.exit l)::k)) cs) w:=hK _ _ _ _ _ rfl (.control (fun _=>trivial) ⟨rfl,rfl⟩ fun _=>stepG_exit he) h
theorem Det.region (hK:Det P m Kn){l:Nat}{ops:Array Oper}(h:Kn n (gs (b.at a (.inRegion ops (List.range ops.size)::k)) cs) w):Kn (n+1) (gs (b.at a (.code (.region l ops false)::k)) cs) w:=hK _ _ _ _ _ rfl (.control (fun _=>trivial) ⟨rfl,rfl⟩ fun _=>stepG_region) h
theorem Det.regionEnd (hK:Det P m Kn){ops:Array Oper}(h:Kn n (gs (b.at a k) cs) w):Kn (n+1) (gs (b.at a (.inRegion ops []::k)) cs) w:=hK _ _ _ _ _ rfl (.control (fun _=>trivial) ⟨rfl,rfl⟩ fun _=>se') h
theorem Det.end (hK:Det P m Kn)(h:Kn n (gs { b.at a [] with mode:=.returning} cs) w):Kn (n+1) (gs (b.at a []) cs) w:=hK _ _ _ _ _ rfl (.control (fun _=>trivial) ⟨rfl,rfl⟩ fun _=>stepG_end) h
theorem Det.ret (hK:Det P m Kn)(h:Kn n (gs { b.at a (.code .ret::k) with mode:=.returning} cs) w):Kn (n+1) (gs (b.at a (.code .ret::k)) cs) w:=hK _ _ _ _ _ rfl (.control (fun _=>trivial) ⟨rfl,rfl⟩ fun _=>stepG_ret') h
theorem Det.leave (hK:Det P m Kn){fn:Func}{todo:List Item}{c:Frame}{v:Value}(hn:b.kind=.normal)(hd:a.defers=[])(hf:P.funcs[b.fn]?=some fn)(hr:∀ τ d,(results fn a.tmps).run P (re w τ d)=.ok v (re w τ d))(hp:c.mode=.run)
  (h:Kn n (gs (c.finish v) cs) w):Kn (n+1) (gs { b.at a todo with mode:=.returning} (c::cs)) w:=by
 refine hK _ _ _ _ _ rfl ⟨fun e=>(by cases e),fun τ d=>?_,⟨rfl,rfl⟩,Nat.le_refl _⟩ h;obtain⟨es,e⟩:=runT_of (hr τ d);obtain⟨tm,ds⟩:=a;simp only at hd;subst hd;refine⟨seen P b.fn es++#[],?_⟩;show unwind P m { b.at ⟨tm,[]⟩ todo with mode:=.returning} (c::cs) none (re w τ d)=_;unfold unwind;dsimp only[Frame.at];rw[hf];dsimp only;rw[e];unfold doReturn;dsimp only;rw[hn];rfl
theorem okHd_op {ops:Array Oper}{i:Nat}{rest:List Nat}{o:Oper}(ho:ops[i]?=some o)(hok:okOp P o.op=true)(hnp:∀ x,o.op≠.panic x):okHd P (b.at a (.inRegion ops (i::rest)::k)).eval (.inRegion ops (i::rest)::k):=fun o' h'=>by
 rw[ho] at h';cases h';exact⟨hok,fun x hx=>absurd hx (hnp x)⟩
section
variable {ops:Array Oper}{i:Nat}{rest:List Nat}{o:Oper}{v:Value}{w':World}
theorem Det.val (hK:Det P m Kn)(ho:ops[i]?=some o)(hg:o.guard=none)(hk:b.kind≠.early)(hok:okOp P o.op=true)(hnp:∀ x,o.op≠.panic x)(hr:∀ τ d,(execOp a.eval o).run P (re w τ d)=.ok (.value v) (re w' τ d))(hs:w.heap.size≤w'.heap.size)
  (h:Kn n (gs (b.at (a.put o.dst v) (.inRegion ops rest::k)) cs) w'):Kn (n+1) (gs (b.at a (.inRegion ops (i::rest)::k)) cs) w :=
 hK _ _ _ _ _ rfl ⟨fun _=>okHd_op ho hok hnp,fun τ d=>⟨_,stepG_value ho (by unfold Region.wanted;rw[hg]) hk (hr τ d)⟩,⟨rfl,rfl⟩,hs⟩ h
theorem Det.non (hK:Det P m Kn)(ho:ops[i]?=some o)(hg:o.guard=none)(hk:b.kind≠.early)(hok:okOp P o.op=true)(hnp:∀ x,o.op≠.panic x)(hr:∀ τ d,(execOp a.eval o).run P (re w τ d)=.ok .skip (re w' τ d))(hs:w.heap.size≤w'.heap.size)
  (h:Kn n (gs (b.at (a.put o.dst undef) (.inRegion ops rest::k)) cs) w'):Kn (n+1) (gs (b.at a (.inRegion ops (i::rest)::k)) cs) w :=
 hK _ _ _ _ _ rfl ⟨fun _=>okHd_op ho hok hnp,fun τ d=>⟨_,stepG_none ho (by unfold Region.wanted;rw[hg]) hk (hr τ d)⟩,⟨rfl,rfl⟩,hs⟩ h
theorem Det.enter (hK:Det P m Kn){f:FuncId}{args:Array Value}(ho:ops[i]?=some o)(hg:o.guard=none)(hk:b.kind≠.early)(hok:okOp P o.op=true)(hnp:∀ x,o.op≠.panic x)(hr:∀ τ d,(execOp a.eval o).run P (re w τ d)=.ok (.enter f args) (re w τ d))
  (h:Kn n (gs (Frame.enter P f args .normal) (b.at a (.inRegion ops (i::rest)::k)::cs)) w):Kn (n+1) (gs (b.at a (.inRegion ops (i::rest)::k)) cs) w :=
 hK _ _ _ _ _ rfl ⟨fun _=>okHd_op ho hok hnp,fun τ d=>⟨_,stepG_enter ho (by unfold Region.wanted;rw[hg]) hk (hr τ d)⟩,⟨rfl,rfl⟩,Nat.le_refl _⟩ h
end
end
end
section
variable {P:Program}{m:Bool}{Kn:Nat→Goroutine→World→Prop}{b:Frame}{a:Act}{k:List Item}{cs:List Frame}{w:World}{n:Nat}{ops:Array Oper}{i:Nat}{rest:List Nat}{o:Oper}{v:Value}{w':World}
theorem Det.defer (hK:Det P m Kn){D:Deferred}(ho:ops[i]?=some o)(hg:o.guard=none)(hk:b.kind≠.early)(hb:b.roundOf=none)(hok:okOp P o.op=true)(hnp:∀ x,o.op≠.panic x)(hr:∀ τ d,(execOp a.eval o).run P (re w τ d)=.ok (.defer D) (re w τ d))
  (h:Kn n (gs (b.at (Act.put ⟨a.tmps,D::a.defers⟩ o.dst undef) (.inRegion ops rest::k)) cs) w):Kn (n+1) (gs (b.at a (.inRegion ops (i::rest)::k)) cs) w:=by
 refine hK _ _ _ _ _ rfl ⟨fun _=>okHd_op ho hok hnp,fun τ d=>?_,⟨rfl,rfl⟩,Nat.le_refl _⟩ h;obtain⟨es,e⟩:=runT_of (hr τ d);refine⟨seen P b.fn es++#[],(stepG_oper ho (by unfold Region.wanted;rw[hg])).trans ?_⟩;unfold stepG.apply;simp only[if_true];rw[e];have hk':(b.kind==CallKind.early)=false:=by simpa using hk
 simp only[Frame.at,hk'];simp only[GStep.after,Frame.finish,ho,Option.bind_some];obtain⟨tm,ds⟩:=a;cases o.dst<;>rfl
theorem Det.callD (hK:Det P m Kn){tm:Array Value}{todo:List Item}{mo:FrameMode}{D:Deferred}{ds:List Deferred}{f:FuncId}{args:Array Value}(hmo:mo≠.run)(hD:∀ x,D.target≠.collected x)(hn:D.target≠.nil)
  (hr:∀ τ d,(invoke D.target D.args).run P (re w τ d)=.ok (.enter f args) (re w τ d))
  (h:Kn n (gs (Frame.enter P f args .deferred) ({b.at ⟨tm,ds⟩ todo with mode:=mo}::cs)) w):Kn (n+1) (gs { b.at ⟨tm,D::ds⟩ todo with mode:=mo} cs) w:=by
 refine hK _ _ _ _ _ rfl ⟨fun e=>absurd e hmo,fun τ d=>?_,⟨rfl,rfl⟩,Nat.le_refl _⟩ h;obtain⟨es,e⟩:=runT_of (hr τ d);obtain⟨tg,as'⟩:=D;refine⟨seen P b.fn es++#[],?_⟩;have hu:stepG P m (gs { b.at ⟨tm,⟨tg,as'⟩::ds⟩ todo with mode:=mo} cs) (re w τ d)=callDeferred P { b.at ⟨tm,ds⟩ todo with mode:=mo} cs none ⟨tg,as'⟩ (re w τ d):=by
  cases mo with
  | run=>exact absurd rfl hmo
  | panicking ch =>
   show unwind P m { b.at ⟨tm,⟨tg,as'⟩::ds⟩ todo with mode:=.panicking ch} cs none _=_;unfold unwind;dsimp only[Frame.at];cases tg with
   | collected x=>exact absurd rfl (hD x)
   | _=>rfl
  | returning =>
   show unwind P m { b.at ⟨tm,⟨tg,as'⟩::ds⟩ todo with mode:=.returning} cs none _=_;unfold unwind;dsimp only[Frame.at];cases tg with
   | collected x=>exact absurd rfl (hD x)
   | _=>rfl
 rw[hu];unfold callDeferred;simp only at e;cases tg with
 | nil=>exact absurd rfl hn
 | collected x=>exact absurd rfl (hD x)
 | _ =>
  dsimp only;rw[if_neg (by simp),e];rfl
theorem catches_of {fr:Frame}(hf:∃ fn,P.funcs[fr.fn]?=some fn):fr.catches P=false:=by
 obtain⟨fn,hf⟩:=hf;unfold Frame.catches;rw[hf]
theorem unwind_up {fr c:Frame}{ch:List PanicEntry}(hd:fr.defers=[])(hm:fr.mode=.panicking ch)(hcat:fr.catches P=false):unwind P m fr (c::cs) none w=.go (gs (c.raise ch) cs) w #[]:=by
 unfold unwind;simp only[hd,hm,hcat];rfl
theorem Det.up (hK:Det P m Kn){tm:Array Value}{todo:List Item}{c:Frame}{ch:List PanicEntry}(hf:∃ fn,P.funcs[b.fn]?=some fn)(hc:c.mode=.run)
  (h:Kn n (gs { c with mode:=.panicking ch} cs) w):Kn (n+1) (gs { b.at ⟨tm,[]⟩ todo with mode:=.panicking ch} (c::cs)) w:=by
 refine hK _ _ _ _ _ rfl ⟨fun e=>(by cases e),fun τ d=>⟨#[],?_⟩,⟨rfl,rfl⟩,Nat.le_refl _⟩ h;show unwind P m { b.at ⟨tm,[]⟩ todo with mode:=.panicking ch} (c::cs) none _=_;refine(unwind_up (ch:=ch) rfl rfl (catches_of (fr:={b.at ⟨tm,[]⟩ todo with mode:=.panicking ch}) hf)).trans ?_;unfold Frame.raise;rw[hc]
theorem Det.panic (hK:Det P m Kn){x:Operand}(ho:ops[i]?=some o)(hg:o.guard=none)(hk:b.kind≠.early)(hbm:b.roundOf=none)(hok:okOp P o.op=true)(hop:o.op=.panic x)(hv:a.eval x=v)(hn:v≠.nilIface)(hr:∀ τ d,(execOp a.eval o).run P (re w τ d)=.halt (.panic v) (re w τ d))
  (h:Kn n (gs { b.at a (.inRegion ops (i::rest)::k) with mode:=.panicking [{v,recovered:=false}]} cs) w):Kn (n+1) (gs (b.at a (.inRegion ops (i::rest)::k)) cs) w:=by
 refine hK _ _ _ _ _ rfl ⟨fun _ o' h'=>?_,fun τ d=>?_,⟨rfl,rfl⟩,Nat.le_refl _⟩ h
 ·rw[ho] at h';cases h'
  refine⟨hok,fun y hy=>?_⟩;rw[hop] at hy;cases hy;exact fun e=>hn (hv.symm.trans ((Frame.eval_at' b a (.inRegion ops (i::rest)::k)▸e:a.eval x=.nilIface)))
 ·obtain⟨es,e⟩:=runT_of (hr τ d)
  refine⟨seen P b.fn es++#[],(stepG_oper ho (by unfold Region.wanted;rw[hg])).trans ?_⟩;unfold stepG.apply;simp only[if_true];rw[e];have hk':(b.kind==CallKind.early)=false:=by simpa using hk
  simp only[Frame.at,hk'];rfl
theorem Det.recover0 (hK:Det P m Kn){c:Frame}(ho:ops[i]?=some o)(hg:o.guard=none)(hk:b.kind=.deferred)(hb:b.roundOf=none)(hok:okOp P o.op=true)(hnp:∀ x,o.op≠.panic x)(hr:∀ τ d,(execOp a.eval o).run P (re w τ d)=.ok .recover (re w τ d))(hc:c.mode=.returning)
  (h:Kn n (gs (b.at (a.put o.dst .nilIface) (.inRegion ops rest::k)) (c::cs)) w):Kn (n+1) (gs (b.at a (.inRegion ops (i::rest)::k)) (c::cs)) w:=by
 refine hK _ _ _ _ _ rfl ⟨fun _=>okHd_op ho hok hnp,fun τ d=>?_,⟨rfl,rfl⟩,Nat.le_refl _⟩ h;obtain⟨es,e⟩:=runT_of (hr τ d);refine⟨seen P b.fn es++#[],(stepG_oper ho (by unfold Region.wanted;rw[hg])).trans ?_⟩;unfold stepG.apply;simp only[if_true];rw[e];simp only[Frame.at,hk];unfold tryRecover;simp only[hc];simp only[GStep.after,Frame.finish,ho,Option.bind_some];obtain⟨tm,ds⟩:=a;cases o.dst<;>rfl
theorem Det.recover1 (hK:Det P m Kn){c:Frame}(ho:ops[i]?=some o)(hg:o.guard=none)(hk:b.kind=.deferred)(hb:b.roundOf=none)(hok:okOp P o.op=true)(hnp:∀ x,o.op≠.panic x)(hr:∀ τ d,(execOp a.eval o).run P (re w τ d)=.ok .recover (re w τ d))(hc:c.mode=.panicking [{v,recovered:=false}])
  (h:Kn n (gs (b.at (a.put o.dst v) (.inRegion ops rest::k)) ({c with mode:=.panicking [{v,recovered:=true}]}::cs)) w):Kn (n+1) (gs (b.at a (.inRegion ops (i::rest)::k)) (c::cs)) w:=by
 refine hK _ _ _ _ _ rfl ⟨fun _=>okHd_op ho hok hnp,fun τ d=>?_,⟨rfl,rfl⟩,Nat.le_refl _⟩ h;obtain⟨es,e⟩:=runT_of (hr τ d);refine⟨seen P b.fn es++#[],(stepG_oper ho (by unfold Region.wanted;rw[hg])).trans ?_⟩;unfold stepG.apply;simp only[if_true];rw[e];simp only[Frame.at,hk];unfold tryRecover;simp only[hc];simp only[GStep.after,Frame.finish,ho,Option.bind_some];obtain⟨tm,ds⟩:=a;cases o.dst<;>rfl
theorem Det.leaveD (hK:Det P m Kn){fn:Func}{todo:List Item}{c:Frame}(hn:b.kind=.deferred)(hd:a.defers=[])(hf:P.funcs[b.fn]?=some fn)(hr:∀ τ d,(results fn a.tmps).run P (re w τ d)=.ok v (re w τ d))(hc:c.mode=.returning∨∃ u,c.mode=.panicking [{v:=u,recovered:=true}])
  (h:Kn n (gs { c with mode:=.returning} cs) w):Kn (n+1) (gs { b.at a todo with mode:=.returning} (c::cs)) w:=by
 refine hK _ _ _ _ _ rfl ⟨fun e=>(by cases e),fun τ d=>?_,⟨rfl,rfl⟩,Nat.le_refl _⟩ h;obtain⟨es,e⟩:=runT_of (hr τ d);obtain⟨tm,ds⟩:=a;simp only at hd;subst hd;refine⟨seen P b.fn es++#[],?_⟩;show unwind P m { b.at ⟨tm,[]⟩ todo with mode:=.returning} (c::cs) none (re w τ d)=_;unfold unwind;dsimp only[Frame.at];rw[hf];dsimp only;rw[e];unfold doReturn;dsimp only;rw[hn];obtain⟨f1,t1,t2,d1,m1,k1,r1⟩:=c;rcases hc with hc | ⟨u,hc⟩<;>(simp only at hc;subst hc;rfl)
end
end Go.Proofs.Ytfbjopkiicmiiaa.Lift
namespace Go.Proofs.Ytfbjopkiicmiiaa.Pl
open Go.RowKit
def Blk (w:World)(b:Nat)(cs:List Value)(t:TypeId):Prop:=w.heap[b]?=some (.cells cs.toArray t (0,0))
theorem Blk.cell {w:World}{b:Nat}{cs:List Value}{t:TypeId}(h:Blk w b cs t)(i:Nat):w.cell? ⟨b,i,none⟩=cs[i]?:=by
 unfold Blk at h;simp[World.cell?,h]
theorem Blk.frozen {w:World}{b:Nat}{cs:List Value}{t:TypeId}(h:Blk w b cs t)(i:Nat):w.frozen? ⟨b,i,none⟩=false:=by
 unfold Blk at h;simp[World.frozen?,h]
theorem Blk.lt {w:World}{b:Nat}{cs:List Value}{t:TypeId}(h:Blk w b cs t):b<w.heap.size:=by
 unfold Blk at h;by_cases hb:b<w.heap.size
 ·exact hb
 ·rw[Array.getElem?_eq_none (by omega)] at h;cases h
theorem Blk.set {w:World}{b:Nat}{cs:List Value}{t:TypeId}(h:Blk w b cs t)(i:Nat)(v:Value):Blk (w.setCell ⟨b,i,none⟩ v) b (cs.set i v) t:=by
 unfold Blk at h ⊢;simp[World.setCell,Array.getElem?_modify,h]
theorem Blk.set_other {w:World}{b b':Nat}{cs:List Value}{t:TypeId}(h:Blk w b cs t)(hne:b≠b')(i:Nat)(v:Value):Blk (w.setCell ⟨b',i,none⟩ v) b cs t:=by
 unfold Blk at h ⊢;rw[Go.heap_setCell_other _ _ _ _ hne];exact h
theorem flat_get {α:Type}(f:α→List Value)(m:Nat)(hm:∀ x,(f x).length=m):∀ (l:List α) (i c:Nat) (x:α),l[i]?=some x→c<m →
  (l.flatMap f)[i*m+c]?=(f x)[c]?
 | [],i,c,x,h,_=>by simp at h
 | y::l,0,c,x,h,hc=>by
  simp at h;subst h;simp[List.getElem?_append,hm,hc]
 | y::l,i+1,c,x,h,hc=>by
  have h':l[i]?=some x:=by simpa using h
  have:=flat_get f m hm l i c x h' hc;rw[List.flatMap_cons,List.getElem?_append,if_neg (by rw[hm,Nat.add_mul];omega),hm];rw[← this];congr 1;rw[Nat.add_mul];omega
end Go.Proofs.Ytfbjopkiicmiiaa.Pl
namespace Go.Proofs.Ytfbjopkiicmiiaa.Pl
open Go.RowKit
theorem flat_set {α:Type}(f:α→List Value)(m:Nat)(hm:∀ x,(f x).length=m):∀ (l:List α) (i c:Nat) (x y:α) (v:Value),l[i]?=some x→c<m→f y=(f x).set c v →
  (l.flatMap f).set (i*m+c) v=(l.set i y).flatMap f
 | [],i,c,x,y,v,h,_,_=>by simp at h
 | z::l,0,c,x,y,v,h,hc,e=>by
  simp at h;subst h;simp[hm,hc,e]
 | z::l,i+1,c,x,y,v,h,hc,e=>by
  have:=flat_set f m hm l i c x y v (by simpa using h) hc e;rw[List.flatMap_cons,List.set_append,if_neg (by rw[hm,Nat.add_mul];omega),hm,List.set_cons_succ,List.flatMap_cons,← this];congr 2;rw[Nat.add_mul];omega
structure Keeps (F:List Nat)(w w':World):Prop where
 os:w'.os=w.os
 tape:w'.tape=w.tape
 output:w'.output=w.output
 size:w.heap.size≤w'.heap.size
 block:∀ k,k<w.heap.size→k∉F→w'.heap[k]?=w.heap[k]?
theorem Keeps.refl (F:List Nat)(w:World):Keeps F w w:=⟨rfl,rfl,rfl,Nat.le_refl _,fun _ _ _=>rfl⟩
theorem Keeps.trans {F G:List Nat}{a b c:World}(h:Keeps F a b)(k:Keeps G b c)(hs:∀ x∈G,x<a.heap.size→x∈F):Keeps F a c :=
 ⟨k.os.trans h.os,k.tape.trans h.tape,k.output.trans h.output,Nat.le_trans h.size k.size,
  fun i hi hn=>(k.block i (Nat.lt_of_lt_of_le hi h.size) (fun hm=>hn (hs i hm hi))).trans (h.block i hi hn)⟩
theorem Keeps.mono {F G:List Nat}{a b:World}(h:Keeps F a b)(hs:∀ x∈F,x<a.heap.size→x∈G):Keeps G a b :=
 ⟨h.os,h.tape,h.output,h.size,fun i hi hn=>h.block i hi fun hm=>hn (hs i hm hi)⟩
theorem Keeps.drewN {F:List Nat}{a b:World}(h:Keeps F a b)(n:Nat):Keeps F a (b.drewN n):=⟨h.os,h.tape,h.output,h.size,h.block⟩
theorem Keeps.drew {F:List Nat}{a b:World}(h:Keeps F a b):Keeps F a b.drew:=⟨h.os,h.tape,h.output,h.size,h.block⟩
theorem Keeps.alloc {F:List Nat}{a b:World}(h:Keeps F a b)(o:Obj):Keeps F a (b.alloc o) :=
 ⟨h.os,h.tape,h.output,Nat.le_trans h.size (by simp),fun k hk hn=>(Below.heap_alloc b o k (Nat.lt_of_lt_of_le hk h.size)).trans (h.block k hk hn)⟩
theorem Keeps.setCell {F:List Nat}{a b:World}(h:Keeps F a b)(p:Addr)(v:Value)(hp:p.block<a.heap.size→p.block∈F):Keeps F a (b.setCell p v) :=
 ⟨h.os,h.tape,h.output,Nat.le_trans h.size (by simp),fun k hk hn=>(Below.heap_setCell b p v k (fun e=>hn (by rw[e];exact hp (by rw[← e];exact hk)))).trans (h.block k hk hn)⟩
theorem Keeps.blk {F:List Nat}{w w':World}(h:Keeps F w w'){b:Nat}{cs:List Value}{t:TypeId}(hb:Blk w b cs t)(hn:b∉F):Blk w' b cs t :=
 (h.block b hb.lt hn).trans hb
theorem Keeps.below {F:List Nat}{w w':World}(h:Keeps F w w'){B:Nat}(hB:B≤w.heap.size)(hF:∀ x∈F,B≤x):Below B w w' :=
 ⟨h.os,h.tape,h.output,h.size,fun k hk=>h.block k (by omega) fun hm=>by have:=hF k hm;omega⟩
theorem Blk.of {w:World}{b:Nat}{cs cs':List Value}{t:TypeId}(h:Blk w b cs t)(e:cs=cs'):Blk w b cs' t:=e▸h
theorem Blk.undrew {w:World}{n:Nat}{b:Nat}{cs:List Value}{t:TypeId}(h:Blk w b cs t):Blk (w.drewN n) b cs t:=h
theorem Blk.drewN {w:World}{b:Nat}{cs:List Value}{t:TypeId}(h:Blk w b cs t)(n:Nat):Blk (w.drewN n) b cs t:=h
theorem Blk.drew {w:World}{b:Nat}{cs:List Value}{t:TypeId}(h:Blk w b cs t):Blk w.drew b cs t:=h
theorem Blk.alloc {w:World}{b:Nat}{cs:List Value}{t:TypeId}(h:Blk w b cs t)(o:Obj):Blk (w.alloc o) b cs t :=
 (Below.heap_alloc w o b h.lt).trans h
theorem Blk.new (w:World)(cs:List Value)(t:TypeId):Blk (w.alloc (.cells cs.toArray t)) w.heap.size cs t:=by
 unfold Blk;show(w.heap.push _)[w.heap.size]?=_;simp
end Go.Proofs.Ytfbjopkiicmiiaa.Pl
namespace Go.Proofs.Ytfbjopkiicmiiaa.Pl
open Go.RowKit
theorem made_eq {α:Type}(f:α→List Value)(x0:α)(z:Array Value)(hz:z.toList=f x0)(_hp:0<z.size):∀ n,madeCells z (n*z.size)=((List.replicate n x0).flatMap f).toArray:=by
 have h1:(List.range z.size).map (fun i=>z[i % z.size]!)=f x0:=by
  rw[← hz];apply List.ext_getElem
  ·simp
  ·intro i h1 h2
   have hi:i<z.size:=by simpa using h1
   simp[Nat.mod_eq_of_lt hi,getElem!_pos,hi]
 have key:∀ n,(List.range (n*z.size)).map (fun i=>z[i % z.size]!)=(List.replicate n x0).flatMap f:=by
  intro n
  induction n with
  | zero=>simp
  | succ n ih =>
   rw[Nat.succ_mul,List.range_add,List.map_append,ih,List.map_map,List.replicate_succ'];rw[List.flatMap_append];congr 1;simp only[List.flatMap_cons,List.flatMap_nil,List.append_nil];rw[← h1];apply List.map_congr_left;intro i hi;simp only[Function.comp];rw[Nat.mul_add_mod_self_right]
 intro n;unfold madeCells;apply Array.ext';rw[Array.toList_map,Array.toList_range];exact key n
theorem wpList_make_cells {P:Program}(w:World){ops:Array Oper}{rest:List Oper}{o:Oper}{a:Act}{Q:Exit→Act→World→Prop}
  (hg:o.guard=none) (l c:Operand) (t:TypeId) (hop:o.op=Op.makeSlice t l c)
  (e:TypeId) (z:Value) (size bytes:Nat) (ht:P.underlying t=some (.slice e)) (hinfo:(P.info? e).map (fun i=>(i.zero,i.size,i.bytes))=some (some z,size,bytes))
  (kl kc:IntKind) (L C:Int) (n:Nat) (hl:a.eval l=.int kl L) (hc:a.eval c=.int kc C) (hL:L=(n:Int)) (hC:C=(n:Int)) (hbytes:bytes*n≤281474976710656) (h63:n≤9223372036854775807)
  (hK:wpList P ops Q rest (a.put o.dst (.slice (some ⟨w.heap.size,0,none⟩) n n)) (w.alloc (.cells (madeCells z.cells (n*size)) e))) :
  wpList P ops Q (o::rest) a w:=by
 refine wpList_plain hg fun K hK'=>?_;obtain⟨i,hi,hzz⟩:=Option.map_eq_some_iff.1 hinfo;simp only[Prod.mk.injEq] at hzz;obtain⟨hz,hs,hb⟩:=hzz;subst hL hC;have hb':(i.bytes:Int)*(n:Int)≤281474976710656:=by
  have h:((i.bytes*n:Nat):Int)≤281474976710656:=by rw[hb];omega
  rwa [Int.natCast_mul] at h
 have hrun:=run_make (P:=P) w t e i z ht hi hz kl kc n n (by omega) (Int.le_refl _) hb' (by omega);simp only[Int.toNat_natCast,hs] at hrun;unfold Oper.wp;simp[execOp,hop,hl,hc,hrun,Result.andThen];exact hK' _ _ hK
end Go.Proofs.Ytfbjopkiicmiiaa.Pl
namespace Go.Proofs.Ytfbjopkiicmiiaa.Pl
open Go.RowKit
def Rep {α:Type}(e:TypeId)(m:Nat)(f:α→List Value)(w:World)(v:Value)(xs:List α):Prop:=w.ownsRow 0 e m v xs.length (xs.flatMap f)
variable {α:Type}{e:TypeId}{m:Nat}{f:α→List Value}{w w':World}{v:Value}{xs:List α}
theorem Rep.nil:Rep e m f w (.slice none 0 0) []:=World.ownsRow_nil w 0 e m
theorem Rep.form (h:Rep e m f w v xs):∃ a cap,v=.slice a xs.length cap∧(a=none→xs=[]∧cap=0)∧(∀ b,a=some b→∃ g,b=⟨g,0,none⟩∧g<w.heap.size)∧cap≤maxLen:=by
 rcases h.2 with⟨hv,hn⟩ | ⟨g,cap,cur,hv,_,hg,_,hc,_⟩
 ·refine⟨none,0,?_,fun _=>⟨List.eq_nil_of_length_eq_zero hn,rfl⟩,fun b h=>(by cases h),by decide⟩
  rw[hv,hn]
 ·refine⟨some ⟨g,0,none⟩,cap,hv,fun h=>(by cases h),fun b hb=>?_,hc⟩
  cases hb;refine⟨g,rfl,?_⟩;rcases Nat.lt_or_ge g w.heap.size with hlt | hge
  ·exact hlt
  ·rw[Array.getElem?_eq_none hge] at hg;cases hg
theorem Rep.len (h:Rep e m f w v xs):xs.length≤maxLen:=by
 rcases h.2 with⟨_,hn⟩ | ⟨g,cap,cur,hv,_,hg,h1,hc,_⟩
 ·rw[hn];decide
 ·exact Nat.le_trans h1 hc
theorem Rep.ex (h:Rep e m f w v xs)(hn:0<xs.length):∃ g cap,v=.slice (some ⟨g,0,none⟩) xs.length cap∧g<w.heap.size∧xs.length≤cap:=by
 rcases h.2 with⟨_,h0⟩ | ⟨g,cap,cur,hv,_,hg,hc,_⟩
 ·omega
 ·refine⟨g,cap,hv,?_,hc⟩
  rcases Nat.lt_or_ge g w.heap.size with hlt | hge
  ·exact hlt
  ·rw[Array.getElem?_eq_none hge] at hg;cases hg
theorem Rep.cell {g cap n:Nat}(h:Rep e m f w (.slice (some ⟨g,0,none⟩) n cap) xs)(hm:∀ x,(f x).length=m)(i c:Nat)(x:α)(hx:xs[i]?=some x)(hc:c<m) :
  w.cell? ⟨g,i*m+c,none⟩=(f x)[c]?:=by
 have hil:i<xs.length:=(List.getElem?_eq_some_iff.1 hx).1;have hl:n=xs.length:=by
  rcases h.2 with⟨h0,_⟩ | ⟨_,_,_,h0,_⟩
  ·cases h0
  ·cases h0;rfl
 subst hl;have hlt:i*m+c<xs.length*m:=by
  calc i*m+c<i*m+m:=by omega
   _=(i+1)*m:=by rw[Nat.succ_mul]
   _≤xs.length*m:=Nat.mul_le_mul_right _ hil
 have:=World.ownsRow.cellAt h (i*m+c) hlt;rw[this];exact flat_get f m hm xs i c x hx hc
theorem Rep.cell1 {g cap n:Nat}(h:Rep e 1 f w (.slice (some ⟨g,0,none⟩) n cap) xs){u:α→Value}(hm:∀ x,f x=[u x])(i:Nat)(x:α)(hx:xs[i]?=some x) :
  w.cell? ⟨g,i,none⟩=some (u x):=by
 have:=h.cell (fun x=>by rw[hm];rfl) i 0 x hx (by omega);rw[Nat.mul_one,Nat.add_zero,hm] at this;exact this
theorem Rep.frozen {g cap n:Nat}(h:Rep e m f w (.slice (some ⟨g,0,none⟩) n cap) xs)(j:Nat):w.frozen? ⟨g,j,none⟩=false:=by
 have hl:n=xs.length:=by
  rcases h.2 with⟨h0,_⟩ | ⟨_,_,_,h0,_⟩
  ·cases h0
  ·cases h0;rfl
 subst hl;exact World.ownsRow.frozenAt h j
def fp (v:Value):List Nat:=v.ownBlock.toList
theorem Rep.fp_lt (h:Rep e m f w v xs):∀ b∈fp v,b<w.heap.size:=by
 intro b hb;unfold fp at hb;rw[Option.mem_toList] at hb;exact(World.ownsRow.lt h b hb).2
theorem Rep.keeps {F:List Nat}(h:Rep e m f w v xs)(k:Keeps F w w')(hd:∀ b∈fp v,b∉F):Rep e m f w' v xs:=by
 refine⟨h.1,?_⟩;rcases h.2 with hn | ⟨g,cap,cur,hv,hb,hg,r⟩
 ·exact .inl hn
 ·refine .inr ⟨g,cap,cur,hv,hb,?_,r⟩
  have hlt:g<w.heap.size:=by
   rcases Nat.lt_or_ge g w.heap.size with hlt | hge
   ·exact hlt
   ·rw[Array.getElem?_eq_none hge] at hg;cases hg
  rw[k.block g hlt (hd g (by rw[hv];unfold fp Value.ownBlock;simp))];exact hg
theorem Keeps.of_grownBy {row:Option Nat}(h:w.grownBy w' row):Keeps row.toList w w' :=
 ⟨h.os,h.tape,h.output,h.size,fun k hk hn=>h.block k hk fun e=>hn (by rw[← e];simp)⟩
theorem Rep.set {g cap n:Nat}(h:Rep e m f w (.slice (some ⟨g,0,none⟩) n cap) xs)(hm:∀ x,(f x).length=m)(i c:Nat)(x y:α)(u:Value)(hx:xs[i]?=some x)(hc:c<m)(hy:f y=(f x).set c u) :
  Rep e m f (w.setCell ⟨g,i*m+c,none⟩ u) (.slice (some ⟨g,0,none⟩) n cap) (xs.set i y):=by
 have hl:n=xs.length:=by
  rcases h.2 with⟨h0,_⟩ | ⟨_,_,_,h0,_⟩
  ·cases h0
  ·cases h0;rfl
 subst hl;have:=(World.ownsRow.stored h (i*m+c) u).1;unfold Rep;rw[List.length_set,← flat_set f m hm xs i c x y u hx hc hy];exact this
abbrev RepI (w:World)(v:Value)(xs:List Int):Prop:=Rep 3 1 (fun x=>[Value.int .i64 x]) w v xs
end Go.Proofs.Ytfbjopkiicmiiaa.Pl
namespace Go.Proofs.Ytfbjopkiicmiiaa.Pl
open Go.RowKit
variable {α:Type}{e:TypeId}{size:Nat}{f:α→List Value}{P:Program}{ops:Array Oper}{rest:List Oper}{o:Oper}{a:Act}{Q:Exit→Act→World→Prop}{w:World}
theorem wpList_rep_append (hgd:o.guard=none)(s x:Operand)(t:TypeId)(ho:o.op=.call { callee:=.builtin .append,args:=#[s,x],argTypes:=#[t,t]})
  (z:Value) (bytes:Nat) (ht:P.underlying t=some (.slice e)) (hinfo:(P.info? e).map (fun i=>(i.zero,i.size,i.bytes))=some (some z,size,bytes)) (hzs:z.cells.size=size) (hsz:0<size)
  (v:Value) (xs:List α) (hs:a.eval s=v) (hrep:Rep e size f w v xs) (hf:∀ x,(f x).length=size)
  (ad:Addr) (m c:Nat) (ys:List α) (hx:a.eval x=.slice (some ad) m c) (hl:ys.length=m) (hnews:∀ j u,(ys.flatMap f)[j]?=some u→w.cell? (ad.add j)=some u) (h1:∀ u∈ys.flatMap f,u.oneCell'=true)
  (hm:0<m) (h63:xs.length+m≤maxLen) (hbytes:(xs.length+m)*bytes≤140737488355328)
  (h:∀ g cap w',Rep e size f w' (.slice (some ⟨g,0,none⟩) (xs.length+m) cap) (xs++ys)→Keeps (fp v) w w'→(g∈fp v∨g=w.heap.size)→g<w'.heap.size→xs.length+m≤cap→wpList P ops Q rest (a.put o.dst (.slice (some ⟨g,0,none⟩) (xs.length+m) cap)) w') :
  wpList P ops Q (o::rest) a w:=by
 obtain⟨i,hi,hzz⟩:=Option.map_eq_some_iff.1 hinfo;simp only[Prod.mk.injEq] at hzz;obtain⟨hz,hsize,hby⟩:=hzz;have hll:(ys.flatMap f).length=m*size:=by
  rw[← hl];clear hx hl hnews h1 h
  induction ys with
  | nil=>simp
  | cons y ys ih=>rw[List.flatMap_cons,List.length_append,hf,ih,List.length_cons,Nat.succ_mul];omega
 refine wpList_append_lies w hgd s x t ho 0 e i z size bytes ht hi hz hsize hby hzs hsz v xs.length _ hs hrep ad m c _ hx hll hnews h1 hm h63 hbytes (Nat.zero_le _) _ rfl ?_;intro g cap w' hown hgrow hat hlt;have hr:Rep e size f w' (.slice (some ⟨g,0,none⟩) (xs.length+m) cap) (xs++ys):=by
  unfold Rep;rw[List.length_append,List.flatMap_append,hl];exact hown
 refine h g cap w' hr (Keeps.of_grownBy hgrow) ?_ hlt ?_
 ·rcases hat with q | q
  ·left;unfold fp;rw[q];simp
  ·exact .inr q
 ·rcases hown.2 with⟨h0,_⟩ | ⟨_,_,_,h0,_,_,h2,_⟩
  ·cases h0
  ·cases h0;exact h2
theorem step_rep_append {K:Act→World→Prop}{E:Prop}(hgd:o.guard=none)(s x:Operand)(t:TypeId)(ho:o.op=.call { callee:=.builtin .append,args:=#[s,x],argTypes:=#[t,t]})
  (z:Value) (bytes:Nat) (ht:P.underlying t=some (.slice e)) (hinfo:(P.info? e).map (fun i=>(i.zero,i.size,i.bytes))=some (some z,size,bytes)) (hzs:z.cells.size=size) (hsz:0<size)
  (v:Value) (xs:List α) (hs:a.eval s=v) (hrep:Rep e size f w v xs) (hf:∀ x,(f x).length=size)
  (ad:Addr) (m c:Nat) (ys:List α) (hx:a.eval x=.slice (some ad) m c) (hl:ys.length=m) (hnews:∀ j u,(ys.flatMap f)[j]?=some u→w.cell? (ad.add j)=some u) (h1:∀ u∈ys.flatMap f,u.oneCell'=true)
  (hm:0<m) (h63:xs.length+m≤maxLen) (hbytes:(xs.length+m)*bytes≤140737488355328)
  (h:∀ g cap w',Rep e size f w' (.slice (some ⟨g,0,none⟩) (xs.length+m) cap) (xs++ys)→Keeps (fp v) w w'→(g∈fp v∨g=w.heap.size)→g<w'.heap.size→xs.length+m≤cap→K (a.put o.dst (.slice (some ⟨g,0,none⟩) (xs.length+m) cap)) w') :
  if Region.wanted o (yielded ops a.tmps)=true then Oper.wp P o a w K Q else E:=by
 have hw:Region.wanted o (yielded ops a.tmps)=true:=by simp[Region.wanted,hgd]
 rw[if_pos hw];obtain⟨i,hi,hzz⟩:=Option.map_eq_some_iff.1 hinfo;simp only[Prod.mk.injEq] at hzz;obtain⟨hz,hsize,hby⟩:=hzz;have hll:(ys.flatMap f).length=m*size:=by
  rw[← hl];clear hx hl hnews h1 h
  induction ys with
  | nil=>simp
  | cons y ys ih=>rw[List.flatMap_cons,List.length_append,hf,ih,List.length_cons,Nat.succ_mul];omega
 refine wp_append_lies w s x t ho 0 e i z size bytes ht hi hz hsize hby hzs hsz v xs.length _ hs hrep ad m c _ hx hll hnews h1 hm h63 hbytes (Nat.zero_le _) _ rfl ?_;intro g cap w' hown hgrow hat hlt;have hr:Rep e size f w' (.slice (some ⟨g,0,none⟩) (xs.length+m) cap) (xs++ys):=by
  unfold Rep;rw[List.length_append,List.flatMap_append,hl];exact hown
 refine h g cap w' hr (Keeps.of_grownBy hgrow) ?_ hlt ?_
 ·rcases hat with q | q
  ·left;unfold fp;rw[q];simp
  ·exact .inr q
 ·rcases hown.2 with⟨h0,_⟩ | ⟨_,_,_,h0,_,_,h2,_⟩
  ·cases h0
  ·cases h0;exact h2
end Go.Proofs.Ytfbjopkiicmiiaa.Pl
namespace Go.Proofs.Ytfbjopkiicmiiaa.Lift
open Go Go.Conc
structure Fine (P:Program)(o:Oper)(dst:Option Tmp)(op:Op):Prop where
 guard:o.guard=none
 dst:o.dst=dst
 isOp:o.op=op
 ok:okOp P op=true
 np:∀ x,op≠.panic x
def Cel (w:World)(b:Nat)(cs:List Value)(t:TypeId):Prop:=∃ fz,w.heap[b]?=some (.cells cs.toArray t fz)
theorem Cel.cell {w:World}{b:Nat}{cs:List Value}{t:TypeId}(h:Cel w b cs t)(i:Nat):w.cell? ⟨b,i,none⟩=cs[i]?:=by
 obtain⟨fz,h⟩:=h;simp[World.cell?,h]
theorem Cel.lt {w:World}{b:Nat}{cs:List Value}{t:TypeId}(h:Cel w b cs t):b<w.heap.size:=by
 obtain⟨fz,h⟩:=h;exact(aq' h).1
theorem Cel.np {w:World}{b:Nat}{cs:List Value}{t:TypeId}(h:Cel w b cs t):w.heap[b]?≠some poison:=by
 obtain⟨fz,h⟩:=h;rw[h];simp[poison]
theorem Cel.same {w w':World}{b:Nat}{cs:List Value}{t:TypeId}(h:Cel w b cs t)(e:w'.heap[b]?=w.heap[b]?):Cel w' b cs t:=h.imp fun _ h=>e.trans h
theorem Cel.inj {w:World}{b:Nat}{cs cs':List Value}{t t':TypeId}(h:Cel w b cs t)(h':Cel w b cs' t'):cs=cs':=by
 obtain⟨_,h⟩:=h;obtain⟨_,h'⟩:=h';rw[h] at h';simp only[Option.some.injEq,Obj.cells.injEq] at h';simpa using congrArg Array.toList h'.1
theorem Blk.cel {w:World}{b:Nat}{cs:List Value}{t:TypeId}(h:Pl.Blk w b cs t):Cel w b cs t:=⟨_,h⟩
section
variable {P:Program}{m:Bool}{Kn:Nat→Goroutine→World→Prop}{b:Frame}{a:Act}{k:List Item}{cs:List Frame}{w w':World}{n:Nat}{ops:Array Oper}{i:Nat}{rest:List Nat}{o:Oper}{v u z:Value}{dst:Option Tmp}{op:Op}{x y:Operand}
theorem norm {a':Act}{t:List Item}(ha:a=a')(h:Kn n (gs (b.at a' t) cs) w):Kn n (gs (b.at a t) cs) w:=ha▸h
theorem exec_of (F:Fine P o dst op):execOp a.eval o=execOp a.eval { (default:Oper) with op:=op,type:=o.type}:=by
 unfold execOp;rw[F.isOp]
theorem run_vv {s:Sem Value}(h:s.run P w=.ok v w'):(do pure (Next.value (← s)):Sem Next).run P w=.ok (.value v) w':=by simp[go_sem,h,Result.andThen]
theorem run_uu {s:Sem Unit}(h:s.run P w=.ok () w'):(do s;pure Next.skip:Sem Next).run P w=.ok .skip w':=by simp[go_sem,h,Result.andThen]
theorem Det.opv (hK:Det P m Kn)(hk:b.kind≠.early)(ho:ops[i]?=some o)(F:Fine P o dst op)(hr:∀ τ d,(execOp a.eval o).run P (re w τ d)=.ok (.value v) (re w' τ d))(hs:w.heap.size≤w'.heap.size)
  (h:Kn n (gs (b.at (a.put dst v) (.inRegion ops rest::k)) cs) w'):Kn (n+1) (gs (b.at a (.inRegion ops (i::rest)::k)) cs) w:=by
 refine hK.val ho F.guard hk (F.isOp▸F.ok) (fun x hx=>F.np x (F.isOp▸hx)) hr hs ?_;rw[F.dst];exact h
theorem Det.opn (hK:Det P m Kn)(hk:b.kind≠.early)(ho:ops[i]?=some o)(F:Fine P o dst op)(hr:∀ τ d,(execOp a.eval o).run P (re w τ d)=.ok .skip (re w' τ d))(hs:w.heap.size≤w'.heap.size)
  (h:Kn n (gs (b.at (a.put dst undef) (.inRegion ops rest::k)) cs) w'):Kn (n+1) (gs (b.at a (.inRegion ops (i::rest)::k)) cs) w:=by
 refine hK.non ho F.guard hk (F.isOp▸F.ok) (fun x hx=>F.np x (F.isOp▸hx)) hr hs ?_;rw[F.dst];exact h
theorem Det.move (hK:Det P m Kn)(hk:b.kind≠.early)(ho:ops[i]?=some o)(F:Fine P o dst (.move x))(hx:a.eval x=v)
  (h:Kn n (gs (b.at (a.put dst v) (.inRegion ops rest::k)) cs) w):Kn (n+1) (gs (b.at a (.inRegion ops (i::rest)::k)) cs) w :=
 hK.opv hk ho F (fun τ d=>by unfold execOp;rw[F.isOp];simp only[hx];rfl) (Nat.le_refl _) h
theorem Det.assign (hK:Det P m Kn)(hk:b.kind≠.early)(ho:ops[i]?=some o)(F:Fine P o dst (.assign x))(hx:a.eval x=v)
  (h:Kn n (gs (b.at (a.put dst v) (.inRegion ops rest::k)) cs) w):Kn (n+1) (gs (b.at a (.inRegion ops (i::rest)::k)) cs) w :=
 hK.opv hk ho F (fun τ d=>by unfold execOp;rw[F.isOp];simp only[hx];rfl) (Nat.le_refl _) h
theorem Det.nilc (hK:Det P m Kn){p:Addr}(hk:b.kind≠.early)(ho:ops[i]?=some o)(F:Fine P o dst (.nilCheck x))(hx:a.eval x=.pointer (some p))
  (h:Kn n (gs (b.at (a.put dst (.pointer (some p))) (.inRegion ops rest::k)) cs) w):Kn (n+1) (gs (b.at a (.inRegion ops (i::rest)::k)) cs) w :=
 hK.opv hk ho F (fun τ d=>by unfold execOp;rw[F.isOp];simp only[hx];rfl) (Nat.le_refl _) h
theorem Det.load (hK:Det P m Kn){t:TypeId}(hk:b.kind≠.early)(ho:ops[i]?=some o)(F:Fine P o dst (.load t x))(hx:a.eval x=u)(hl:∀ τ d,(Instr.loadAt t u).run P (re w τ d)=.ok v (re w τ d))
  (h:Kn n (gs (b.at (a.put dst v) (.inRegion ops rest::k)) cs) w):Kn (n+1) (gs (b.at a (.inRegion ops (i::rest)::k)) cs) w :=
 hK.opv hk ho F (fun τ d=>by unfold execOp;rw[F.isOp];simp only[hx];exact run_vv (hl _ _)) (Nat.le_refl _) h
theorem Det.field (hK:Det P m Kn){s:TypeId}{f:Nat}(hk:b.kind≠.early)(ho:ops[i]?=some o)(F:Fine P o dst (.fieldAddr s x f))(hx:a.eval x=u)(hl:∀ w,(Instr.fieldAt s u f).run P w=.ok v w)
  (h:Kn n (gs (b.at (a.put dst v) (.inRegion ops rest::k)) cs) w):Kn (n+1) (gs (b.at a (.inRegion ops (i::rest)::k)) cs) w :=
 hK.opv hk ho F (fun τ d=>by unfold execOp;rw[F.isOp];simp only[hx];exact run_vv (hl _)) (Nat.le_refl _) h
theorem Det.index (hK:Det P m Kn){t:TypeId}(hk:b.kind≠.early)(ho:ops[i]?=some o)(F:Fine P o dst (.indexAddr t x y))(hx:a.eval x=u)(hy:a.eval y=z)(hl:∀ w,(Instr.indexAt t u z).run P w=.ok v w)
  (h:Kn n (gs (b.at (a.put dst v) (.inRegion ops rest::k)) cs) w):Kn (n+1) (gs (b.at a (.inRegion ops (i::rest)::k)) cs) w :=
 hK.opv hk ho F (fun τ d=>by unfold execOp;rw[F.isOp];simp only[hx,hy];exact run_vv (hl _)) (Nat.le_refl _) h
theorem Det.store (hK:Det P m Kn){t:TypeId}(hk:b.kind≠.early)(ho:ops[i]?=some o)(F:Fine P o dst (.store t x y))(hx:a.eval x=u)(hy:a.eval y=z)(hl:∀ τ d,(Instr.storeAt t u z).run P (re w τ d)=.ok () (re w' τ d))(hs:w.heap.size≤w'.heap.size)
  (h:Kn n (gs (b.at (a.put dst undef) (.inRegion ops rest::k)) cs) w'):Kn (n+1) (gs (b.at a (.inRegion ops (i::rest)::k)) cs) w :=
 hK.opn hk ho F (fun τ d=>by unfold execOp;rw[F.isOp];simp only[hx,hy];exact run_uu (hl _ _)) hs h
theorem Det.alloc (hK:Det P m Kn){t:TypeId}{ob:Obj}(hk:b.kind≠.early)(ho:ops[i]?=some o)(F:Fine P o dst (.alloc t))(hl:∀ w:World,(Instr.alloc t true (.tuple #[])).run P w=.ok (.pointer (some ⟨w.heap.size,0,none⟩)) (w.alloc ob))
  (h:Kn n (gs (b.at (a.put dst (.pointer (some ⟨w.heap.size,0,none⟩))) (.inRegion ops rest::k)) cs) (w.alloc ob)):Kn (n+1) (gs (b.at a (.inRegion ops (i::rest)::k)) cs) w :=
 hK.opv hk ho F (fun τ d=>by unfold execOp;rw[F.isOp];exact run_vv (hl _)) (by rw[wz'];omega) h
theorem Det.box (hK:Det P m Kn){t:TypeId}{ob:Obj}(hk:b.kind≠.early)(ho:ops[i]?=some o)(F:Fine P o dst (.box t x))(hx:a.eval x=u)(hl:∀ w:World,(Instr.box t u).run P w=.ok (.pointer (some ⟨w.heap.size,0,none⟩)) (w.alloc ob))
  (h:Kn n (gs (b.at (a.put dst (.pointer (some ⟨w.heap.size,0,none⟩))) (.inRegion ops rest::k)) cs) (w.alloc ob)):Kn (n+1) (gs (b.at a (.inRegion ops (i::rest)::k)) cs) w :=
 hK.opv hk ho F (fun τ d=>by unfold execOp;rw[F.isOp];simp only[hx];exact run_vv (hl _)) (by rw[wz'];omega) h
theorem Det.pure (hK:Det P m Kn)(hk:b.kind≠.early)(ho:ops[i]?=some o)(F:Fine P o dst op)(hl:∀ w,(execOp a.eval o).run P w=.ok (.value v) w)
  (h:Kn n (gs (b.at (a.put dst v) (.inRegion ops rest::k)) cs) w):Kn (n+1) (gs (b.at a (.inRegion ops (i::rest)::k)) cs) w :=
 hK.opv hk ho F (fun τ d=>hl _) (Nat.le_refl _) h
theorem Det.callf (hK:Det P m Kn){c:Call}{f:FuncId}{args:Array Value}(hk:b.kind≠.early)(ho:ops[i]?=some o)(F:Fine P o dst (.call c))(hl:∀ w,(execOp a.eval o).run P w=.ok (.enter f args) w)
  (h:Kn n (gs (Frame.enter P f args .normal) (b.at a (.inRegion ops (i::rest)::k)::cs)) w):Kn (n+1) (gs (b.at a (.inRegion ops (i::rest)::k)) cs) w :=
 hK.enter ho F.guard hk (F.isOp▸F.ok) (fun x hx=>F.np x (F.isOp▸hx)) (fun τ d=>hl _) h
end
section
variable {P:Program}{Kn:Nat→Goroutine→World→Prop}{b:Frame}{a:Act}{k:List Item}{cs:List Frame}{w:World}{n:Nat}{ops:Array Oper}{i:Nat}{rest:List Nat}{o:Oper}{v:Value}{dst:Option Tmp}{x:Operand}{f:FuncId}{fn:Func}{c:Code}{cap args:Array Value}{ar:Array Operand}{ats:Array TypeId}
theorem fin_at (ho:ops[i]?=some o)(hd:o.dst=dst)(h:Kn n (gs (b.at (a.put dst v) (.inRegion ops rest::k)) cs) w):Kn n (gs ((b.at a (.inRegion ops (i::rest)::k)).finish v) cs) w:=by
 rw[Frame.finish_at,ho];show Kn n (gs (b.at (a.put o.dst v) (.inRegion ops rest::k)) cs) w;rw[hd];exact h
theorem args_of (h:ar.toList.map a.eval++cap.toList=args.toList):ar.map a.eval++cap=args:=Array.ext' (by simpa using h)
theorem x_call (hop:o.op=.call { callee:=.value x,args:=ar,argTypes:=ats})(hx:a.eval x=.func (.func f) #[] cap)(hf:P.funcs[f]?=some fn)(hn:(fn.name == "runtime.NumGoroutine")=false)(hb:fn.body=some c)(ha:ar.toList.map a.eval++cap.toList=args.toList) :
  (execOp a.eval o).run P w=.ok (.enter f args) w:=by
 have h1:¬ fn.name = "runtime.NumGoroutine" := by simpa using hn
 have h2:=args_of ha;unfold execOp;rw[hop];simp[resolve,Deferred.ofValue,hx,invoke,callFunc,hf,h1,hb,h2]
theorem x_defer (hop:o.op=.defer { callee:=.value x,args:=ar,argTypes:=ats})(hx:a.eval x=.func (.func f) #[] cap)(ha:ar.toList.map a.eval=args.toList) :
  (execOp a.eval o).run P w=.ok (.defer { target:=.fn (.func f) cap,args:=args}) w:=by
 have h2:=args_of (a:=a) (cap:=#[]) (ar:=ar) (args:=args) (by simpa using ha);simp only[Array.append_empty] at h2;unfold execOp;rw[hop];simp[resolve,Deferred.ofValue,hx,h2]
theorem x_recover (hop:o.op=.call { callee:=.builtin .recover,args:=#[],argTypes:=#[]}):(execOp a.eval o).run P w=.ok .recover w:=by
 unfold execOp;rw[hop];simp[resolve,invoke,builtin]
theorem x_send {y:Operand}{u:Value}(hop:o.op=.send x y)(hx:a.eval x=v)(hy:a.eval y=u):(execOp a.eval o).run P w=.ok (.comm #[{chan:=v,send:=some u,zero:=.tuple #[]}] true .send) w:=by
 unfold execOp;rw[hop];simp[hx,hy]
end
section
variable {w:World}{b:Nat}
theorem fld86 {f:Nat}(hf:f<5):∀ w,(Instr.fieldAt 86 (.pointer (some ⟨b,0,none⟩)) f).run Try.prog w=.ok (.pointer (some ⟨b,f,none⟩)) w:=fun w=>by
 obtain rfl | rfl | rfl | rfl | rfl:f=0∨f=1∨f=2∨f=3∨f=4:=by omega
 all_goals simp[go_sem,Try.underlying86,Try.runUnderlying86,Try.sizeOf86,Try.isAgg86,Try.sizeOf82,Try.sizeOf83,Try.sizeOf84,Try.sizeOf56,Try.sizeOf4]
theorem fld81 {f:Nat}(hf:f<4):∀ w,(Instr.fieldAt 79 (.pointer (some ⟨b,0,none⟩)) f).run Try.prog w=.ok (.pointer (some ⟨b,f,none⟩)) w:=fun w=>by
 obtain rfl | rfl | rfl | rfl:f=0∨f=1∨f=2∨f=3:=by omega
 all_goals simp[go_sem,Try.underlying79,Try.runUnderlying79,Try.sizeOf79,Try.isAgg79,Try.sizeOf76,Try.sizeOf3,Try.sizeOf77,Try.sizeOf4]
theorem fld77 {f o:Nat}(hf:f<4):∀ w,(Instr.fieldAt 72 (.pointer (some ⟨b,o,none⟩)) f).run Try.prog w=.ok (.pointer (some ⟨b,o+f,none⟩)) w:=fun w=>by
 obtain rfl | rfl | rfl | rfl:f=0∨f=1∨f=2∨f=3:=by omega
 all_goals simp[go_sem,Try.underlying72,Try.runUnderlying72,Try.sizeOf72,Try.isAgg72,Try.sizeOf42,Try.sizeOf4]
end
def xr (x:Nat→Value):Nat→Nat→List Value
 | _,0=>[]
 | s,n+1=>x s::xr x (s+1) n
theorem so' {α:Type}{a b:α}(h:some a=some b):a=b:=Option.some.inj h
theorem m0' {x:Operand}{l:List Operand}:x∈(x::l).toArray:=List.mem_toArray.2 (.head _)
theorem m1' {x y:Operand}{l:List Operand}:x∈(y::x::l).toArray:=List.mem_toArray.2 (.tail _ (.head _))
theorem m2' {x y z:Operand}{l:List Operand}:x∈(y::z::x::l).toArray:=List.mem_toArray.2 (.tail _ (.tail _ (.head _)))
theorem n1' {α:Type}{l:List α}{i:Nat}{a:α}:l.toArray.setIfInBounds i a=(l.set i a).toArray:=List.setIfInBounds_toArray ..
theorem n2' {α:Type}{l:List α}{x a:α}{i:Nat}:(x::l).set (i+1) a=x::l.set i a:=rfl
theorem n3' {α:Type}{l:List α}{x a:α}:(x::l).set 0 a=a::l:=rfl
section
variable {P:Program}{m:Bool}{K:Goroutine→World→Prop}{b:Frame}{a:Act}{k:List Item}{cs:List Frame}{w w':World}{ops:Array Oper}{i:Nat}{rest:List Nat}{o:Oper}{v u z:Value}{dst:Option Tmp}{x y:Operand}{op:Op}
theorem Det.mv (hK:Det P m fun _=>K)(v:Value)(hk:b.kind≠.early)(h:K (gs (b.at (a.put dst v) (.inRegion ops rest::k)) cs) w)(ho:ops[i]?=some o:=by rfl)(F:Fine P o dst (.move x):=by exact⟨rfl,rfl,rfl,rfl,nofun⟩)(hx:a.eval x=v:=by rfl):K (gs (b.at a (.inRegion ops (i::rest)::k)) cs) w:=hK.move (n:=0) hk ho F hx h
theorem Det.as (hK:Det P m fun _=>K)(v:Value)(hk:b.kind≠.early)(h:K (gs (b.at (a.put dst v) (.inRegion ops rest::k)) cs) w)(ho:ops[i]?=some o:=by rfl)(F:Fine P o dst (.assign x):=by exact⟨rfl,rfl,rfl,rfl,nofun⟩)(hx:a.eval x=v:=by rfl):K (gs (b.at a (.inRegion ops (i::rest)::k)) cs) w:=hK.assign (n:=0) hk ho F hx h
theorem Det.nc (hK:Det P m fun _=>K)(p:Addr)(hk:b.kind≠.early)(h:K (gs (b.at (a.put dst (.pointer (some p))) (.inRegion ops rest::k)) cs) w)(ho:ops[i]?=some o:=by rfl)(F:Fine P o dst (.nilCheck x):=by exact⟨rfl,rfl,rfl,rfl,nofun⟩)(hx:a.eval x=.pointer (some p):=by rfl):K (gs (b.at a (.inRegion ops (i::rest)::k)) cs) w:=hK.nilc (n:=0) hk ho F hx h
theorem Det.ld (hK:Det P m fun _=>K){t:TypeId}(v:Value)(hk:b.kind≠.early)(hl:∀ τ d,(Instr.loadAt t u).run P (re w τ d)=.ok v (re w τ d))(h:K (gs (b.at (a.put dst v) (.inRegion ops rest::k)) cs) w)(ho:ops[i]?=some o:=by rfl)(F:Fine P o dst (.load t x):=by exact⟨rfl,rfl,rfl,rfl,nofun⟩)(hx:a.eval x=u:=by rfl):K (gs (b.at a (.inRegion ops (i::rest)::k)) cs) w:=hK.load (n:=0) hk ho F hx hl h
theorem Det.fd (hK:Det P m fun _=>K){s:TypeId}{f:Nat}(v:Value)(hk:b.kind≠.early)(hl:∀ w,(Instr.fieldAt s u f).run P w=.ok v w)(h:K (gs (b.at (a.put dst v) (.inRegion ops rest::k)) cs) w)(ho:ops[i]?=some o:=by rfl)(F:Fine P o dst (.fieldAddr s x f):=by exact⟨rfl,rfl,rfl,rfl,nofun⟩)(hx:a.eval x=u:=by rfl):K (gs (b.at a (.inRegion ops (i::rest)::k)) cs) w:=hK.field (n:=0) hk ho F hx hl h
theorem Det.pu (hK:Det P m fun _=>K)(v:Value)(hk:b.kind≠.early)(hl:∀ w,(execOp a.eval o).run P w=.ok (.value v) w)(h:K (gs (b.at (a.put dst v) (.inRegion ops rest::k)) cs) w)(ho:ops[i]?=some o:=by rfl)(F:Fine P o dst op:=by exact⟨rfl,rfl,rfl,(by decide +kernel),nofun⟩):K (gs (b.at a (.inRegion ops (i::rest)::k)) cs) w:=hK.pure (n:=0) hk ho F hl h
theorem norm0 {a':Act}{t:List Item}(h:K (gs (b.at a' t) cs) w)(ha:a=a':=by rfl):K (gs (b.at a t) cs) w:=ha▸h
theorem Det.s0 (hK:Det P m fun _=>K){x y:Code}(h:K (gs (b.at a (.code x::.code y::k)) cs) w):K (gs (b.at a (.code (.seq x y)::k)) cs) w:=hK.seq (n:=0) h
theorem Det.k0 (hK:Det P m fun _=>K)(h:K (gs (b.at a k) cs) w):K (gs (b.at a (.code .skip::k)) cs) w:=hK.skip (n:=0) h
theorem Det.r0 (hK:Det P m fun _=>K){l:Nat}{ops:Array Oper}(h:K (gs (b.at a (.inRegion ops (List.range ops.size)::k)) cs) w):K (gs (b.at a (.code (.region l ops false)::k)) cs) w:=hK.region (n:=0) h
theorem Det.e0 (hK:Det P m fun _=>K){ops:Array Oper}(h:K (gs (b.at a k) cs) w):K (gs (b.at a (.inRegion ops []::k)) cs) w:=hK.regionEnd (n:=0) h
theorem Det.cf (hK:Det P m fun _=>K){f:FuncId}{fn:Func}{c:Code}{ar:Array Operand}{ats:Array TypeId}(args:Array Value)(hk:b.kind≠.early)(hf:P.funcs[f]?=some fn)(h:K (gs (Frame.enter P f args .normal) (b.at a (.inRegion ops (i::rest)::k)::cs)) w)(ho:ops[i]?=some o:=by rfl)(F:Fine P o dst (.call { callee:=.value x,args:=ar,argTypes:=ats}):=by exact⟨rfl,rfl,rfl,(by decide +kernel),nofun⟩)(hx:a.eval x=.func (.func f) #[] #[]:=by rfl)(hn:(fn.name == "runtime.NumGoroutine")=false:=by rfl)(hb:fn.body=some c:=by rfl)(ha:ar.toList.map a.eval++[]=args.toList:=by rfl):K (gs (b.at a (.inRegion ops (i::rest)::k)) cs) w:=hK.callf (n:=0) hk ho F (fun w=>x_call F.isOp hx hf hn hb ha) h
theorem fin0 (d:Option Tmp)(h:K (gs (b.at (a.put d v) (.inRegion ops rest::k)) cs) w)(ho:ops[i]?=some o:=by rfl)(hd:o.dst=d:=by rfl):K (gs ((b.at a (.inRegion ops (i::rest)::k)).finish v) cs) w:=fin_at (Kn:=fun _=>K) (n:=0) ho hd h
end
@[simp] def ur (n:Nat):List Value:=List.replicate n undef
@[simp] abbrev uu:Value:=undef
abbrev ptr (b:Nat):Value:=.pointer (some ⟨b,0,none⟩)
abbrev ptrAt (b o:Nat):Value:=.pointer (some ⟨b,o,none⟩)
abbrev stopV (o p g:Bool)(r:Value):Value:=.agg #[.bool o,.bool p,.bool g,r]
section
variable {w:World}{a:Addr}{v:Value}{b n c j:Nat}
theorem ld79 (hc:w.cell? a=some v):(Instr.loadAt 77 (.pointer (some a))).run Try.prog w=.ok v w:=by simp[go_sem,hc,Try.underlying77,Try.runUnderlying77,Try.sizeOf77,Try.isAgg77]
theorem ld84 (hc:w.cell? a=some v):(Instr.loadAt 84 (.pointer (some a))).run Try.prog w=.ok v w:=by simp[go_sem,hc,Try.underlying84,Try.runUnderlying84,Try.sizeOf84,Try.isAgg84]
theorem ld78 (hc:w.cell? a=some v):(Instr.loadAt 76 (.pointer (some a))).run Try.prog w=.ok v w:=by simp[go_sem,hc,Try.underlying76,Try.runUnderlying76,Try.sizeOf76,Try.isAgg76]
theorem ld60 (hc:w.cell? a=some v):(Instr.loadAt 49 (.pointer (some a))).run Try.prog w=.ok v w:=by simp[go_sem,hc,Try.underlying49,Try.runUnderlying49,Try.sizeOf49,Try.isAgg49]
theorem ld82 (hc:w.cell? a=some v):(Instr.loadAt 82 (.pointer (some a))).run Try.prog w=.ok v w:=by simp[go_sem,hc,Try.underlying82,Try.runUnderlying82,Try.sizeOf82,Try.isAgg82]
theorem ld83 (hc:w.cell? a=some v):(Instr.loadAt 83 (.pointer (some a))).run Try.prog w=.ok v w:=by simp[go_sem,hc,Try.underlying83,Try.runUnderlying83,Try.sizeOf83,Try.isAgg83]
theorem ld23 (hc:w.cell? a=some v):(Instr.loadAt 56 (.pointer (some a))).run Try.prog w=.ok v w:=by simp[go_sem,hc,Try.underlying56,Try.runUnderlying56,Try.sizeOf56,Try.isAgg56]
theorem ld4 (hc:w.cell? a=some v):(Instr.loadAt 4 (.pointer (some a))).run Try.prog w=.ok v w:=by simp[go_sem,hc,Try.underlying4,Try.runUnderlying4,Try.sizeOf4,Try.isAgg4]
theorem ld3 (hc:w.cell? a=some v):(Instr.loadAt 3 (.pointer (some a))).run Try.prog w=.ok v w:=by simp[go_sem,hc,Try.underlying3,Try.runUnderlying3,Try.sizeOf3,Try.isAgg3]
theorem ld127 (hc:w.cell? a=some v):(Instr.loadAt 127 (.pointer (some a))).run Try.prog w=.ok v w:=by simp[go_sem,hc,Try.underlying127,Try.runUnderlying127,Try.sizeOf127,Try.isAgg127]
theorem ld45 (hc:w.cell? a=some v):(Instr.loadAt 42 (.pointer (some a))).run Try.prog w=.ok v w:=by simp[go_sem,hc,Try.underlying42,Try.runUnderlying42,Try.sizeOf42,Try.isAgg42]
theorem ld54 (hc:w.cell? a=some v):(Instr.loadAt 55 (.pointer (some a))).run Try.prog w=.ok v w:=by simp[go_sem,hc,Try.underlying55,Try.runUnderlying55,Try.sizeOf55,Try.isAgg55]
theorem ld39 (hc:w.cell? a=some v):(Instr.loadAt 99 (.pointer (some a))).run Try.prog w=.ok v w:=by simp[go_sem,hc,Try.underlying99,Try.runUnderlying99,Try.sizeOf99,Try.isAgg99]
theorem st4 {x:Value}{y:Bool}(hc:w.cell? a=some x)(hf:w.frozen? a=false):(Instr.storeAt 4 (.pointer (some a)) (.bool y)).run Try.prog w=.ok () (w.setCell a (.bool y)):=by simp[go_sem,hc,hf,Try.underlying4,Try.runUnderlying4,Try.sizeOf4,Try.isAgg4]
theorem st127 {x:Value}{p:Addr}(hc:w.cell? a=some x)(hf:w.frozen? a=false):(Instr.storeAt 127 (.pointer (some a)) (.pointer (some p))).run Try.prog w=.ok () (w.setCell a (.pointer (some p))):=by simp[go_sem,hc,hf,Try.underlying127,Try.runUnderlying127,Try.sizeOf127,Try.isAgg127]
theorem st89 (hc:w.heap[b]?=some (.cells #[] 80 (0,0))):(Instr.storeAt 80 (ptr b) (.agg #[])).run Try.prog w=.ok () w:=by
 simp[go_sem,Try.underlying80,Try.runUnderlying80,Try.sizeOf80,Try.isAgg80,Try.zeroValue80,hc]
theorem al89:∀ w:World,(Instr.alloc 80 true (.tuple #[])).run Try.prog w=.ok (ptr w.heap.size) (w.alloc (.cells #[] 80)):=fun w=>by
 simp[go_sem,Try.underlying80,Try.runUnderlying80,Try.sizeOf80,Try.isAgg80,Try.zeroValue80]
theorem al4:∀ w:World,(Instr.alloc 4 true (.tuple #[])).run Try.prog w=.ok (ptr w.heap.size) (w.alloc (.cells #[.bool false] 4)):=fun w=>by
 simp[go_sem,Try.underlying4,Try.runUnderlying4,Try.sizeOf4,Try.isAgg4,Try.zeroValue4]
theorem al77:∀ w:World,(Instr.alloc 72 true (.tuple #[])).run Try.prog w=.ok (ptr w.heap.size) (w.alloc (.cells #[.bool false,.bool false,.bool false,.nilFunc] 72)):=fun w=>by
 simp[go_sem,Try.underlying72,Try.runUnderlying72,Try.sizeOf72,Try.isAgg72,Try.zeroValue72]
theorem al127:∀ w:World,(Instr.alloc 127 true (.tuple #[])).run Try.prog w=.ok (ptr w.heap.size) (w.alloc (.cells #[.pointer none] 127)):=fun w=>by
 simp[go_sem,Try.underlying127,Try.runUnderlying127,Try.sizeOf127,Try.isAgg127,Try.zeroValue127]
theorem bx77 {o p g:Bool}{r:Value}:∀ w:World,(Instr.box 72 (stopV o p g r)).run Try.prog w=.ok (ptr w.heap.size) (w.alloc (.cells #[.bool o,.bool p,.bool g,r] 72)):=fun w=>by
 simp[go_sem,Try.underlying72,Try.runUnderlying72,Try.sizeOf72,Try.isAgg72,Try.zeroValue72]
theorem bx78:∀ w:World,(Instr.box 76 (ptr b)).run Try.prog w=.ok (ptr w.heap.size) (w.alloc (.cells #[ptr b] 76)):=fun w=>by
 simp[go_sem,Try.underlying76,Try.runUnderlying76,Try.sizeOf76,Try.isAgg76]
theorem ld77 {x0 x1 x2 x3:Value}{i:Nat}(h0:w.cell? ⟨b,i,none⟩=some x0)(h1:w.cell? ⟨b,i+1,none⟩=some x1)(h2:w.cell? ⟨b,i+2,none⟩=some x2)(h3:w.cell? ⟨b,i+3,none⟩=some x3):(Instr.loadAt 72 (ptrAt b i)).run Try.prog w=.ok (.agg #[x0,x1,x2,x3]) w:=by
 simp[go_sem,h0,h1,h2,h3,Try.underlying72,Try.runUnderlying72,Try.sizeOf72,Try.isAgg72,List.range,List.range.loop]
def isFn (r:Value):Prop:=r=.nilFunc∨∃ f x c,r=.func f x c
def set4 (w:World)(b i:Nat)(x0 x1 x2 x3:Value):World:=(((w.setCell ⟨b,i,none⟩ x0).setCell ⟨b,i+1,none⟩ x1).setCell ⟨b,i+2,none⟩ x2).setCell ⟨b,i+3,none⟩ x3
theorem st77 {cs:List Value}{t:TypeId}{i:Nat}{o p g:Bool}{r:Value}(hb:Pl.Blk w b cs t)(hi:i+3<cs.length)(hr:isFn r):(Instr.storeAt 72 (ptrAt b i) (stopV o p g r)).run Try.prog w=.ok () (set4 w b i (.bool o) (.bool p) (.bool g) r):=by
 have b1:=hb.set i (.bool o);have b2:=b1.set (i+1) (.bool p);have b3:=b2.set (i+2) (.bool g);have c0:=hb.cell i;have c1:=b1.cell (i+1);have c2:=b2.cell (i+2);have c3:=b3.cell (i+3);rw[List.getElem?_eq_getElem (by first | omega | (simp only[List.length_set];omega))] at c0 c1 c2 c3;have f0:=hb.frozen i;have f1:=b1.frozen (i+1);have f2:=b2.frozen (i+2);have f3:=b3.frozen (i+3);rcases hr with rfl | ⟨f,x,c,rfl⟩<;>simp[go_sem,set4,c0,c1,c2,c3,f0,f1,f2,f3,Try.underlying72,Try.runUnderlying72,Try.sizeOf72,Try.isAgg72]
theorem ix83 (hj:j<n):∀ w,(Instr.indexAt 83 (.slice (some ⟨b,0,none⟩) n c) (.int .i64 j)).run Try.prog w=.ok (ptrAt b (j*4)) w:=fun w=>by
 simp[go_sem,Try.underlying83,Try.runUnderlying83,Try.sizeOf83,Try.isAgg83,hj,Try.sizeOf72]
theorem ix82 (hj:j<n):∀ w,(Instr.indexAt 82 (.slice (some ⟨b,0,none⟩) n c) (.int .i64 j)).run Try.prog w=.ok (ptrAt b j) w:=fun w=>by
 simp[go_sem,Try.underlying82,Try.runUnderlying82,Try.sizeOf82,Try.isAgg82,hj,Try.sizeOf49]
end
theorem re_setCell {w:World}{τ:Nat→Question→Nat}{d:Nat}{a:Addr}{v:Value}:(re w τ d).setCell a v=re (w.setCell a v) τ d:=by
 unfold World.setCell re;rfl
theorem re_set4 {w:World}{τ:Nat→Question→Nat}{d b i:Nat}{x0 x1 x2 x3:Value}:set4 (re w τ d) b i x0 x1 x2 x3=re (set4 w b i x0 x1 x2 x3) τ d:=by
 unfold set4;rw[re_setCell,re_setCell,re_setCell,re_setCell]
theorem enter_lit {P:Program}{f:FuncId}{fn:Func}{c:Code}{args tm:Array Value}{kd:CallKind}(hf:P.funcs[f]?=some fn)(hb:fn.body=some c)(ht:tm.toList=args.toList++List.replicate (fn.ntmps-args.size) undef) :
  Frame.enter P f args kd=Frame.at { (default:Frame) with fn:=f,kind:=kd} ⟨tm,[]⟩ [.code c]:=by
 have:tm=args++Array.replicate (fn.ntmps-args.size) undef:=Array.ext' (by simp[ht]);subst this;simp[Frame.enter,Frame.at,hf,hb]
theorem res0 {P:Program}{fn:Func}{tm:Array Value}{w:World}(h:fn.results=#[]):(results fn tm).run P w=.ok (.tuple #[]) w:=by
 unfold results;rw[h];simp[go_sem]
theorem res1 {P:Program}{fn:Func}{tm:Array Value}{w:World}{t:Tmp}(h:fn.results=#[.tmp t]):(results fn tm).run P w=.ok (tm.getD t undef) w:=by
 unfold results;rw[h];simp[go_sem]
theorem res4 {fn:Func}{tm:Array Value}{w:World}{a:Tmp}{v:Value}{p:Addr}(h:fn.results=#[.cell a 4])(ha:tm.getD a undef=.pointer (some p))(hc:w.cell? p=some v):(results fn tm).run Try.prog w=.ok v w:=by
 unfold results;rw[h];simp only[gd'] at ha;simp[go_sem,ha,hc,Result.andThen,Try.isAgg4]
def sL:Code→Code | .seq a _=>a | c=>c
def sR:Code→Code | .seq _ b=>b | c=>c
def sT:Code→Code | .cond _ a _=>a | c=>c
def sF:Code→Code | .cond _ _ b=>b | c=>c
def sB:Code→Code | .block _ c=>c | .loop c=>c | c=>c
def sO:Code→Array Oper | .region _ ops _=>ops | _=>#[]
def c45:Code:=Try.f36.body.getD .skip
def c33:Code:=Try.f30.body.getD .skip
def c60:Code:=Try.f60.body.getD .skip
def c37:Code:=Try.f39.body.getD .skip
def c61:Code:=Try.f61.body.getD .skip
def c71:Code:=Try.f71.body.getD .skip
def c38:Code:=Try.f40.body.getD .skip
def c40:Code:=Try.f42.body.getD .skip
def c42:Code:=Try.f44.body.getD .skip
def c27:Code:=Try.f32.body.getD .skip
def c15:Code:=Try.f23.body.getD .skip
def c16:Code:=Try.f33.body.getD .skip
def c14:Code:=Try.f25.body.getD .skip
end Go.Proofs.Ytfbjopkiicmiiaa.Lift
namespace Go.Proofs.Ytfbjopkiicmiiaa.Lift
open Go Go.Conc
variable {m:Bool}{Kn:Nat→Goroutine→World→Prop}{n:Nat}{w:World}{cs:List Frame}{b c r B0 B1 all:Nat}{body:Value}
def bot:Frame:={(default:Frame) with fn:=Try.prog.funcs.size,mode:=.panicking [goexitEntry]}
abbrev dlive (B0 B1:Nat):Deferred:={target:=.fn (.func 60) #[ptr B0,ptr B1],args:=#[]}
theorem run_callf {P:Program}{w:World}{f:FuncId}{fn:Func}{c:Code}{args cap:Array Value}(hf:P.funcs[f]?=some fn)(hn:(fn.name == "runtime.NumGoroutine")=false)(hb:fn.body=some c):(invoke (.fn (.func f) cap) args).run P w=.ok (.enter f (args++cap)) w:=by
 have h1:¬ fn.name = "runtime.NumGoroutine" := by simpa using hn
 simp[invoke,callFunc,hf,h1,hb]
def comeAt (b c:Nat):Frame:=(base 36).at ⟨#[ptr b,uu,uu,uu,uu,ptr b,ptr b,ptrAt b 2,.chan (some c),uu,uu,uu,uu,uu,uu,uu,uu,uu,uu],[]⟩ [.inRegion (sO (sL c45)) [4,5,6,7,8,9,10],.code (sR c45)]
theorem enter45 {x:Value}:Frame.enter Try.prog 36 #[x] .normal=(base 36).at ⟨#[x,uu,uu,uu,uu,uu,uu,uu,uu,uu,uu,uu,uu,uu,uu,uu,uu,uu,uu],[]⟩ [.code c45]:=enter_lit Try.func36 rfl rfl
theorem come_to (hK:Det Try.prog m Kn)(hc:w.cell? ⟨b,2,none⟩=some (.chan (some c)))(h:Kn n (gs (comeAt b c) cs) w):Kn (n+6) (gs (Frame.enter Try.prog 36 #[ptr b] .normal) cs) w:=by
 rw[enter45];have hk:(base 36).kind≠.early:=nofun;refine hK.seq ?_;refine hK.region ?_;refine hK.move (v:=ptr b) hk rfl ⟨rfl,rfl,rfl,rfl,nofun⟩ rfl ?_;refine hK.nilc hk rfl ⟨rfl,rfl,rfl,rfl,nofun⟩ (show _=ptr b from rfl) ?_;refine hK.field (v:=(ptrAt b 2)) (u:=ptr b) hk rfl ⟨rfl,rfl,rfl,rfl,nofun⟩ rfl (fld81 (by omega)) ?_;refine hK.load (v:=(.chan (some c))) (u:=(ptrAt b 2)) hk rfl ⟨rfl,rfl,rfl,rfl,nofun⟩ rfl (fun τ d=>ld79 hc) ?_;refine norm (Kn:=Kn) (a':=⟨#[ptr b,uu,uu,uu,uu,ptr b,ptr b,ptrAt b 2,.chan (some c),uu,uu,uu,uu,uu,uu,uu,uu,uu,uu],[]⟩) rfl ?_;exact h
theorem come_ok (hK:Det Try.prog m Kn){cl:Frame}(hcm:cl.mode=.run)(h:Kn n (gs (cl.finish (.tuple #[])) cs) (w.alloc (.cells #[] 80))):Kn (n+16) (Conc.served (gs (comeAt b c) (cl::cs)) (.tuple #[.agg #[],.bool true])) w:=by
 show Kn (n+16) (gs ((base 36).at (Act.put ⟨#[ptr b,uu,uu,uu,uu,ptr b,ptr b,ptrAt b 2,.chan (some c),uu,uu,uu,uu,uu,uu,uu,uu,uu,uu],[]⟩ (some 9) (.tuple #[.agg #[],.bool true])) [.inRegion (sO (sL c45)) [5,6,7,8,9,10],.code (sR c45)]) (cl::cs)) w;have hk:(base 36).kind≠.early:=nofun;refine hK.move (v:=(.tuple #[.agg #[],.bool true])) hk rfl ⟨rfl,rfl,rfl,rfl,nofun⟩ rfl ?_;refine hK.pure (v:=(.agg #[])) hk rfl ⟨rfl,rfl,rfl,(by decide +kernel),nofun⟩ (fun w=>rfl) ?_;refine hK.pure (v:=(.bool true)) hk rfl ⟨rfl,rfl,rfl,(by decide +kernel),nofun⟩ (fun w=>rfl) ?_;refine hK.alloc hk rfl ⟨rfl,rfl,rfl,(by decide +kernel),nofun⟩ al89 ?_;refine norm (Kn:=Kn) (a':=⟨#[ptr b,uu,ptr w.heap.size,uu,.tuple #[.agg #[],.bool true],ptr b,ptr b,ptrAt b 2,.chan (some c),.tuple #[.agg #[],.bool true],.agg #[],.bool true,uu,uu,uu,uu,uu,uu,uu],[]⟩) rfl ?_;refine hK.store (u:=(ptr w.heap.size)) (z:=(.agg #[])) hk rfl ⟨rfl,rfl,rfl,rfl,nofun⟩ rfl rfl (fun τ d=>(st89 (show(w.alloc (.cells #[] 80)).heap[w.heap.size]?=_ from Pl.Blk.new w [] 80))) (Nat.le_refl _) ?_;refine hK.assign (v:=(.bool true)) hk rfl ⟨rfl,rfl,rfl,rfl,nofun⟩ rfl ?_;refine norm (Kn:=Kn) (a':=⟨#[ptr b,uu,ptr w.heap.size,.bool true,.tuple #[.agg #[],.bool true],ptr b,ptr b,ptrAt b 2,.chan (some c),.tuple #[.agg #[],.bool true],.agg #[],.bool true,uu,uu,uu,uu,uu,uu,uu],[]⟩) rfl ?_;refine hK.regionEnd ?_;refine hK.seq ?_;refine hK.region ?_;refine hK.move (v:=(.bool true)) hk rfl ⟨rfl,rfl,rfl,rfl,nofun⟩ rfl ?_;refine hK.pure (v:=(.bool false)) hk rfl ⟨rfl,rfl,rfl,(by decide +kernel),nofun⟩ (fun w=>rfl) ?_;refine norm (Kn:=Kn) (a':=⟨#[ptr b,uu,ptr w.heap.size,.bool true,.tuple #[.agg #[],.bool true],ptr b,ptr b,ptrAt b 2,.chan (some c),.tuple #[.agg #[],.bool true],.agg #[],.bool true,.bool true,.bool false,uu,uu,uu,uu,uu],[]⟩) rfl ?_;refine hK.regionEnd ?_;refine hK.cond false rfl rfl ?_;refine hK.skip ?_;refine hK.end ?_;refine hK.leave (v:=.tuple #[]) rfl rfl Try.func36 (fun τ d=>res0 rfl) hcm ?_;exact h
end Go.Proofs.Ytfbjopkiicmiiaa.Lift
namespace Go.Proofs.Ytfbjopkiicmiiaa.Lift
open Go Go.Conc
def depsOk (ops:Array Oper):Bool:=(List.range ops.size).all fun i=>match ops[i]? with
 | none=>true
 | some o=>o.op.operands.all fun x=>match x with
  | .tmp t=>(List.range ops.size).all fun j=>match ops[j]? with
   | some oj=>oj.dst != some t||o.after.any fun e=>e.on==j&&Region.binds .any e
   | none=>true
  | _=>true
def distOk (ops:Array Oper):Bool:=(List.range ops.size).all fun i=>(List.range ops.size).all fun j=>match ops[i]?,ops[j]? with
 | some a,some b=>a.dst.isNone||a.dst != b.dst||i==j
 | _,_=>true
def leftN (ops:Array Oper)(listed:Array Bool):Nat:=((List.range ops.size).filter fun i=>!listed.getD i true).length
theorem lt_of_op {ops:Array Oper}{i:Nat}{o:Oper}(h:ops[i]?=some o):i<ops.size:=(aq' h).1
theorem depsOk.get {ops:Array Oper}(h:depsOk ops=true){i j:Nat}{o oj:Oper}{t:Tmp}(hi:ops[i]?=some o)(hj:ops[j]?=some oj)(ht:.tmp t∈o.op.operands)(hd:oj.dst=some t):∃ e∈o.after,e.on=j∧Region.binds .any e=true:=by
 have h1:=List.all_eq_true.1 h i (List.mem_range.2 (lt_of_op hi));rw[hi] at h1;have h2:=Array.all_eq_true'.1 h1 _ ht;have h3:=List.all_eq_true.1 h2 j (List.mem_range.2 (lt_of_op hj));rw[hj] at h3;simp only[hd,bne_self_eq_false,Bool.false_or] at h3;obtain⟨e,he,h4⟩:=Array.any_eq_true'.1 h3;simp only[Bool.and_eq_true,beq_iff_eq] at h4;exact⟨e,he,h4.1,h4.2⟩
theorem distOk.get {ops:Array Oper}(h:distOk ops=true){i j:Nat}{a b:Oper}{t:Tmp}(hi:ops[i]?=some a)(hj:ops[j]?=some b)(ha:a.dst=some t)(hb:b.dst=some t):i=j:=by
 have h1:=List.all_eq_true.1 (List.all_eq_true.1 h i (List.mem_range.2 (lt_of_op hi))) j (List.mem_range.2 (lt_of_op hj));rw[hi,hj] at h1;simpa[ha,hb] using h1
theorem ready_mem {ops:Array Oper}{listed:Array Bool}{i:Nat}(h:i∈Region.ready .any ops listed):listed.getD i true=false∧∃ o,ops[i]?=some o∧∀ e∈o.after,Region.binds .any e=true→listed.getD e.on false=true:=by
 unfold Region.ready at h;simp only[List.mem_filter,Bool.and_eq_true,Bool.not_eq_true',Array.all_eq_true'] at h;obtain⟨hr,h1,h2⟩:=h;have hi:=List.mem_range.1 hr;refine⟨h1,ops[i],as' hi,fun e he hb=>?_⟩;rw[as' hi] at h2;simp only[Option.map_some,Option.getD_some,Array.all_eq_true'] at h2;have:=h2 e he;simpa[hb] using this
theorem leftN_set {ops:Array Oper}{listed:Array Bool}{i:Nat}(hs:listed.size=ops.size)(hi:listed.getD i true=false):leftN ops (listed.setIfInBounds i true)+1≤leftN ops listed:=by
 have hi':i<listed.size:=by
  apply Classical.byContradiction;intro hn;simp only[gd'] at hi;rw[ae' (by omega)] at hi;cases hi
 unfold leftN;have key:∀ l:List Nat,l.Nodup→(∀ x,(List.filter (fun j=>!(listed.setIfInBounds i true).getD j true) l).length+(if i∈l then 1 else 0)≤(List.filter (fun j=>!listed.getD j true) l).length+x):=by
  intro l
  induction l with
  | nil=>intro _ x;simp
  | cons y l ih =>
   intro hn x;have hn':=List.nodup_cons.1 hn;have ih':=ih hn'.2 x;by_cases e:i=y
   ·subst e
    have e1:(listed.setIfInBounds i true).getD i true=true:=by simp[gd',hi']
    rw[if_neg hn'.1] at ih';rw[if_pos mc',List.filter_cons_of_neg (by rw[e1];simp),List.filter_cons_of_pos (by rw[hi];rfl),List.length_cons];omega
   ·have e1:(listed.setIfInBounds i true).getD y true=listed.getD y true:=by simp only[gd',ar' e]
    have e2:(i∈y::l)=(i∈l):=by simp[e]
    simp only[e2];simp only[List.filter_cons,e1];split
    ·simp only[List.length_cons];omega
    ·exact ih'
 have:=key (List.range ops.size) List.nodup_range 0;rw[if_pos (List.mem_range.2 (by omega))] at this;omega
theorem leftN_pos {ops:Array Oper}{listed:Array Bool}{i:Nat}(h:i∈Region.ready .any ops listed):0<leftN ops listed:=by
 obtain⟨h1,o,h2,_⟩:=ready_mem h;unfold leftN;exact List.length_pos_of_mem (List.mem_filter.2 ⟨List.mem_range.2 (lt_of_op h2),by rw[h1];rfl⟩)
section
variable {P:Program}{m:Bool}{Kn:Nat→Goroutine→World→Prop}{b:Frame}{k:List Item}{cs:List Frame}{w:World}{n:Nat}{ops:Array Oper}{fin tm0:Array Value}{ds:List Deferred}{sp:Nat→Bool}{listed:Array Bool}{tm:Array Value}
structure OrdOk (P:Program)(ops:Array Oper)(fin:Array Value)(ds:List Deferred)(sp:Nat→Bool)(w:World):Prop where
 good:∀ (i:Nat) (o:Oper),ops[i]?=some o→sp i=false→∃ d,Fine P o (some d) o.op∧d<fin.size∧∀ a:Act,(∀ x∈o.op.operands,a.eval x=Act.eval ⟨fin,ds⟩ x)→∀ τ δ,(execOp a.eval o).run P (re w τ δ)=.ok (.value (fin.getD d undef)) (re w τ δ)
 deps:depsOk ops=true
 dist:distOk ops=true
structure OInv (ops:Array Oper)(fin:Array Value)(listed:Array Bool)(tm:Array Value):Prop where
 size:tm.size=fin.size
 lsize:listed.size=ops.size
 val:∀ (i:Nat) (o:Oper) d,listed.getD i false=true→ops[i]?=some o→o.dst=some d→tm.getD d undef=fin.getD d undef
 base:∀ d,(∀ (i:Nat) (o:Oper),ops[i]?=some o→o.dst≠some d)→tm.getD d undef=fin.getD d undef
 closed:∀ (i:Nat) (o:Oper),listed.getD i false=true→ops[i]?=some o→∀ e∈o.after,Region.binds .any e=true→listed.getD e.on false=true
theorem listed_set {listed:Array Bool}{i j:Nat}(h:(listed.setIfInBounds i true).getD j false=true):j=i∨listed.getD j false=true:=by
 by_cases e:i=j
 ·exact .inl e.symm
 ·simp only[gd',ar' e] at h
  exact .inr (by simpa[gd'] using h)
theorem listed_up {listed:Array Bool}{i j:Nat}(h:listed.getD j false=true):(listed.setIfInBounds i true).getD j false=true:=by
 simp only[gd'] at h ⊢;by_cases e:i=j
 ·subst e
  have hi:i<listed.size:=by
   apply Classical.byContradiction;intro hn;rw[ae' (by omega)] at h;cases h
  simp[hi]
 ·rw[ar' e];exact h
theorem closed_set {ops:Array Oper}{listed:Array Bool}{i:Nat}(hr:i∈Region.ready .any ops listed)(hc:∀ (i:Nat) (o:Oper),listed.getD i false=true→ops[i]?=some o→∀ e∈o.after,Region.binds .any e=true→listed.getD e.on false=true) :
  ∀ (j:Nat) (o:Oper),(listed.setIfInBounds i true).getD j false=true→ops[j]?=some o→∀ e∈o.after,Region.binds .any e=true→(listed.setIfInBounds i true).getD e.on false=true:=by
 intro j o hj ho e he hb;rcases listed_set hj with rfl | hj
 ·obtain⟨_,o',ho',hall⟩:=ready_mem hr
  rw[ho] at ho';cases ho';exact listed_up (hall e he hb)
 ·exact listed_up (hc j o hj ho e he hb)
theorem OInv.eval (h:OInv ops fin listed tm)(hd:depsOk ops=true){i:Nat}{o:Oper}(hr:i∈Region.ready .any ops listed)(ho:ops[i]?=some o):∀ x∈o.op.operands,Act.eval ⟨tm,ds⟩ x=Act.eval ⟨fin,ds⟩ x:=by
 intro x hx;cases x with
 | tmp t =>
  show tm.getD t undef=fin.getD t undef;by_cases hb:∃ (j:Nat) (oj:Oper),ops[j]?=some oj∧oj.dst=some t
  ·obtain⟨j,oj,hj,hjd⟩:=hb
   obtain⟨e,he,rfl,hbi⟩:=depsOk.get hd ho hj hx hjd;obtain⟨_,o',ho',hall⟩:=ready_mem hr;rw[ho] at ho';cases ho';exact h.val _ _ _ (hall e he hbi) hj hjd
  ·exact h.base t fun i o h1 h2=>hb ⟨i,o,h1,h2⟩
 | _=>rfl
theorem getD_set (tm:Array Value)(d e:Nat)(v:Value)(hd:d<tm.size):(tm.setIfInBounds d v).getD e undef=if d=e then v else tm.getD e undef:=by
 simp only[gd'];split
 ·rename_i h;subst h;simp[hd]
 ·rename_i h;rw[ar' h]
theorem OInv.put (h:OInv ops fin listed tm)(hdi:distOk ops=true){i d:Nat}{o:Oper}(ho:ops[i]?=some o)(hod:o.dst=some d)(hlt:d<fin.size)(hr:i∈Region.ready .any ops listed):OInv ops fin (listed.setIfInBounds i true) (tm.setIfInBounds d (fin.getD d undef)):=by
 have hd':d<tm.size:=by rw[h.size];exact hlt
 refine⟨by simp[h.size],by simp[h.lsize],fun j oj e hj hoj hje=>?_,fun e he=>?_,closed_set hr h.closed⟩
 ·rw[getD_set _ _ _ _ hd']
  by_cases q:d=e
  ·rw[if_pos q,q]
  ·rw[if_neg q]
   have hij:i≠j:=fun x=>by
    subst x;rw[ho] at hoj;cases hoj;exact q (oj' (hod.symm.trans hje))
   simp only[gd',ar' hij] at hj;exact h.val j oj e (by simpa[gd'] using hj) hoj hje
 ·rw[getD_set _ _ _ _ hd']
  by_cases q:d=e
  ·rw[if_pos q,q]
  ·rw[if_neg q]
   exact h.base e he
theorem OInv.list (h:OInv ops fin listed tm){i:Nat}(hr:i∈Region.ready .any ops listed)(hv:∀ (o:Oper) d,ops[i]?=some o→o.dst=some d→tm.getD d undef=fin.getD d undef):OInv ops fin (listed.setIfInBounds i true) tm:=by
 refine⟨h.size,by simp[h.lsize],fun j oj e hj hoj hje=>?_,h.base,closed_set hr h.closed⟩;by_cases hij:i=j
 ·subst hij;exact hv oj e hoj hje
 ·simp only[gd',ar' hij] at hj
  exact h.val j oj e (by simpa[gd'] using hj) hoj hje
theorem OInv.putv (h:OInv ops fin listed tm)(hdi:distOk ops=true){i d:Nat}{o:Oper}{v:Value}(ho:ops[i]?=some o)(hod:o.dst=some d)(hlt:d<fin.size)(hr:i∈Region.ready .any ops listed):OInv ops (fin.setIfInBounds d v) (listed.setIfInBounds i true) (tm.setIfInBounds d v):=by
 have hd':d<tm.size:=by rw[h.size];exact hlt
 refine⟨by simp[h.size],by simp[h.lsize],fun j oj e hj hoj hje=>?_,fun e he=>?_,closed_set hr h.closed⟩
 ·rw[getD_set _ _ _ _ hd',getD_set _ _ _ _ hlt]
  by_cases q:d=e
  ·rw[if_pos q,if_pos q]
  ·rw[if_neg q,if_neg q]
   have hij:i≠j:=fun x=>by
    subst x;rw[ho] at hoj;cases hoj;exact q (oj' (hod.symm.trans hje))
   simp only[gd',ar' hij] at hj;exact h.val j oj e (by simpa[gd'] using hj) hoj hje
 ·rw[getD_set _ _ _ _ hd',getD_set _ _ _ _ hlt]
  by_cases q:d=e
  ·rw[if_pos q,if_pos q]
  ·rw[if_neg q,if_neg q]
   exact h.base e he
theorem OInv.full (h:OInv ops fin listed tm)(hall:∀ (i:Nat) (o:Oper),ops[i]?=some o→o.dst.isSome=true→listed.getD i false=true):tm=fin:=by
 refine Array.ext h.size fun d h1 h2=>?_;have key:tm.getD d undef=fin.getD d undef:=by
  by_cases hb:∃ (j:Nat) (oj:Oper),ops[j]?=some oj∧oj.dst=some d
  ·obtain⟨j,oj,hj,hjd⟩:=hb
   exact h.val j oj d (hall j oj hj (by rw[hjd];rfl)) hj hjd
  ·exact h.base d fun i o h1 h2=>hb ⟨i,o,h1,h2⟩
 simpa[gd',h1,h2] using key
theorem ready_nil {ops:Array Oper}{listed:Array Bool}(hs:listed.size=ops.size)(hall:∀ i,i<ops.size→listed.getD i false=true)(fuel t:Nat):Region.linearise.go .any ops fuel t listed []=[]:=by
 have hr:Region.ready .any ops listed=[]:=by
  cases e:Region.ready .any ops listed with
  | nil=>rfl
  | cons x xs =>
   obtain⟨h1,o,ho,_⟩:=ready_mem (ops:=ops) (listed:=listed) (i:=x) (by rw[e];exact mc');have hx:=lt_of_op ho;have:=hall x hx;simp only[gd'] at h1 this;rw[as' (by omega)] at h1 this;simp only[Option.getD_some] at h1 this;rw[h1] at this;cases this
 cases fuel with
 | zero=>rfl
 | succ fuel =>
  rw[Region.linearise.go];change (match (Region.ready .any ops listed)[t % (Region.ready .any ops listed).length]? with
   | some i=>Region.linearise.go .any ops fuel (t / (Region.ready .any ops listed).length) (listed.setIfInBounds i true) [i]
   | none=>[].reverse)=[]
  rw[hr];rfl
def lowOk (ops:Array Oper):Bool:=(List.range ops.size).all fun i=>match ops[i]? with
 | none=>true
 | some o=>o.after.all fun e=>decide (e.on<i)
theorem all_listed {ops:Array Oper}{listed:Array Bool}(hlow:lowOk ops=true)(hs:listed.size=ops.size)(hn:Region.ready .any ops listed=[]):∀ i,i<ops.size→listed.getD i false=true:=by
 intro i
 induction i using Nat.strongRecOn with
 | _ i ih =>
  intro hi;apply Classical.byContradiction;intro hne;have hf:listed.getD i true=false:=by
   simp only[gd'] at hne ⊢;rw[as' (by omega)] at hne ⊢;simpa using hne
  have h1:=List.all_eq_true.1 hlow i (List.mem_range.2 hi);rw[as' hi] at h1;have:i∈Region.ready .any ops listed:=by
   unfold Region.ready;refine List.mem_filter.2 ⟨List.mem_range.2 hi,?_⟩;rw[hf,as' hi];simp only[Bool.not_false,Bool.true_and,Option.map_some,Option.getD_some];refine Array.all_eq_true'.2 fun e he=>?_;have h2:e.on<i:=by simpa using Array.all_eq_true'.1 h1 e he
   rw[ih e.on h2 (by omega)];simp
  rw[hn] at this;cases this
theorem ord_walk (hK:Det P m Kn)(hmono:∀ n g w,Kn n g w→Kn (n+1) g w)(hk:b.kind≠.early)(H:OrdOk P ops fin ds sp w)(hlow:lowOk ops=true){s:Nat}(hs:s<ops.size)(hss:sp s=true)(L0:Nat→Prop)
  (hsp:∀ fuel t listed tm i,OInv ops fin listed tm→(∀ j,L0 j→listed.getD j false=true)→i∈Region.ready .any ops listed→sp i=true→listed.getD s false=false→leftN ops (listed.setIfInBounds i true)≤fuel →
   Kn n (gs (b.at ⟨tm,ds⟩ (.inRegion ops (i::Region.linearise.go .any ops fuel t (listed.setIfInBounds i true) [])::k)) cs) w) :
  ∀ fuel t listed tm,OInv ops fin listed tm→(∀ j,L0 j→listed.getD j false=true)→listed.getD s false=false→leftN ops listed≤fuel→Kn (n+fuel) (gs (b.at ⟨tm,ds⟩ (.inRegion ops (Region.linearise.go .any ops fuel t listed [])::k)) cs) w:=by
 have up:∀ j n g w,Kn n g w→Kn (n+j) g w:=by
  intro j
  induction j with
  | zero=>exact fun _ _ _ h=>h
  | succ j ih=>exact fun n g w h=>hmono _ _ _ (ih n g w h)
 have hne:∀ listed tm,OInv ops fin listed tm→listed.getD s false=false→Region.ready .any ops listed≠[]:=fun listed tm h hl hn=>by
  have:=all_listed hlow h.lsize hn s hs;rw[hl] at this;cases this
 intro fuel
 induction fuel with
 | zero =>
  intro t listed tm h h0 hus hl;exfalso;cases e:Region.ready .any ops listed with
  | nil=>exact hne _ _ h hus e
  | cons x xs =>
   have:=leftN_pos (ops:=ops) (listed:=listed) (i:=x) (by rw[e];exact mc');omega
 | succ fuel ih =>
  intro t listed tm h h0 hus hl;rw[Region.linearise.go];change Kn _ (gs (b.at ⟨tm,ds⟩ (.inRegion ops (match (Region.ready .any ops listed)[t % (Region.ready .any ops listed).length]? with
   | some i=>Region.linearise.go .any ops fuel (t / (Region.ready .any ops listed).length) (listed.setIfInBounds i true) [i]
   | none=>[].reverse)::k)) cs) w
  cases hi:(Region.ready .any ops listed)[t % (Region.ready .any ops listed).length]? with
  | none =>
   exfalso;cases hr:Region.ready .any ops listed with
   | nil=>exact hne _ _ h hus hr
   | cons x xs =>
    rw[hr] at hi;have hlt:t % (x::xs).length<(x::xs).length:=Nat.mod_lt _ (by simp);rw[List.getElem?_eq_getElem hlt] at hi;cases hi
  | some i =>
   simp only[];rw[linearise_go_acc,List.reverse_singleton,List.singleton_append];have hr:i∈Region.ready .any ops listed:=List.mem_of_getElem? hi;obtain⟨hl1,o,ho,_⟩:=ready_mem hr;have hle:=leftN_set h.lsize hl1;cases hs:sp i with
   | true=>exact up _ _ _ _ (hsp fuel _ listed tm i h h0 hr hs hus (by omega))
   | false =>
    obtain⟨d,hF,hd,hrun⟩:=H.good i o ho hs;refine hK.opv (n:=n+fuel) hk ho hF (hrun _ (h.eval H.deps hr ho)) (Nat.le_refl _) ?_;refine ih _ _ _ (h.put H.dist ho hF.dst hd hr) (fun j hj=>listed_up (h0 j hj)) ?_ (by omega);have hne:i≠s:=fun e=>by rw[e,hss] at hs;cases hs
    simp only[gd',ar' hne];simpa[gd'] using hus
end
open Go.ConcN (sumTo upd sumTo_upd upd_ne upd_same WgLive)
section
variable {P:Program}{m:Bool}{K:Goroutine→World→Prop}{b:Frame}{a:Act}{k:List Item}{cs:List Frame}{w:World}{n id:Nat}{ops:Array Oper}{fin tm:Array Value}
theorem foldl_size:∀ (l:List (Tmp × Value)) (tm:Array Value),(l.foldl (fun t p=>t.setIfInBounds p.1 p.2) tm).size=tm.size
 | [],_=>rfl
 | p::l,tm=>by rw[List.foldl_cons,foldl_size l];simp
theorem foldl_getD:∀ (l:List (Tmp × Value)) (tm:Array Value) (d:Nat),(∀ p∈l,p.1≠d)→(l.foldl (fun t p=>t.setIfInBounds p.1 p.2) tm).getD d undef=tm.getD d undef
 | [],_,_,_=>rfl
 | p::l,tm,d,h=>by
  rw[List.foldl_cons,foldl_getD l _ d fun q hq=>h q (List.mem_cons_of_mem _ hq)];simp only[gd'];rw[ar' (h p mc')]
theorem OInv.init (l:List (Tmp × Value))(hf:fin=l.foldl (fun t p=>t.setIfInBounds p.1 p.2) tm)(hl:(l.map (·.1)).all (fun d=>ops.any fun o=>o.dst==some d)=true):OInv ops fin (Array.replicate ops.size false) tm:=by
 subst hf;refine⟨(foldl_size l tm).symm,by simp,fun i o d h=>?_,fun d hd=>(foldl_getD l tm d fun p hp e=>?_).symm,fun i o h=>?_⟩
 ·simp only[gd',Array.getElem?_replicate] at h
  split at h<;>cases h
 ·have:=List.all_eq_true.1 hl p.1 (List.mem_map_of_mem hp)
  obtain⟨o,ho,he⟩:=Array.any_eq_true'.1 this;obtain⟨i,hi⟩:=Array.mem_iff_getElem?.1 ho;exact hd i o hi (by rw[beq_iff_eq.1 he,e])
 ·simp only[gd',Array.getElem?_replicate] at h
  split at h<;>cases h
theorem leftN_init:leftN ops (Array.replicate ops.size false)≤ops.size:=by
 unfold leftN;exact Nat.le_trans (List.length_filter_le _ _) (by simp)
theorem Cl.draw (hK:Cl P m K)(hm:P.follows .mixedOrders=true)(h:∀ t,K (gs (b.at a (.inRegion ops (Region.linearise .any ops t)::k)) cs) w):K (gs (b.at a (.code (.region id ops true)::k)) cs) w:=by
 refine hK.step _ _ (fun _=>trivial) fun τ d=>⟨_,_,_,stepG_region_draw,⟨rfl,rfl⟩,?_⟩;have:Region.schedule (P.follows .mixedOrders) ops (τ d (.order b.fn id))=Region.linearise .any ops (τ d (.order b.fn id)):=by simp[Region.schedule,hm]
 show K (gs (b.at a (.inRegion ops (Region.schedule (P.follows .mixedOrders) ops (τ d (.order b.fn id)))::k)) cs) (re w τ (d+1));rw[this];exact hK.blind _ _ _ _ (h _)
def KW (P:Program)(m:Bool)(s:SeatS)(n:Nat)(g:Goroutine)(w:World):Prop:=w.heap.size≤s.hi∧WalkS P m s n g w
theorem AtRecv.re {s:SeatS}(hA:Blind s.At){g:Goroutine}{p:World}(h:AtRecv P m s g p)(τ:Nat→Question→Nat)(d:Nat):AtRecv P m s g (re p τ d):=⟨h.runs,h.ok,fun τ' d'=>h.step τ' d',hA _ _ _ _ h.home⟩
theorem WalkS.re {s:SeatS}(hA:Blind s.At){n:Nat}{g:Goroutine}{p:World}(h:WalkS P m s n g p)(τ:Nat→Question→Nat)(d:Nat):WalkS P m s n g (re p τ d):=by
 cases n with
 | zero=>exact AtRecv.re hA h τ d
 | succ n=>exact h.imp (fun h=>AtRecv.re hA h τ d) fun h=>⟨h.1,h.2.1,fun τ' d'=>h.2.2 τ' d'⟩
theorem det_walk {s:SeatS}(hA:Blind s.At):Det P m (KW P m s):=fun n g w g' w' hr h k=>by
 refine⟨Nat.le_trans h.size k.1,.inr ⟨hr,h.ok,fun τ d=>?_⟩⟩;obtain⟨es,e⟩:=h.st τ d;exact⟨g',Lift.re w' τ d,es,e,h.plain,k.1,k.2.re hA τ d⟩
theorem walk_mono {s:SeatS}:∀ n g w,KW P m s n g w→KW P m s (n+1) g w:=by
 intro n
 induction n with
 | zero=>exact fun g w h=>⟨h.1,.inl h.2⟩
 | succ n ih=>exact fun g w h=>⟨h.1,h.2.imp id fun⟨h1,h2,h3⟩=>⟨h1,h2,fun τ d=>by
   obtain⟨g',p',es,e,hp,hs,hw⟩:=h3 τ d;exact⟨g',p',es,e,hp,hs,(ih g' p' ⟨hs,hw⟩).2⟩⟩⟩
theorem walk_draw {s:SeatS}(hA:Blind s.At)(hm:P.follows .mixedOrders=true)(h:∀ t,KW P m s n (gs (b.at a (.inRegion ops (Region.linearise .any ops t)::k)) cs) w):KW P m s (n+1) (gs (b.at a (.code (.region id ops true)::k)) cs) w:=by
 refine⟨(h 0).1,.inr ⟨rfl,fun _=>trivial,fun τ d=>⟨_,_,_,stepG_region_draw,⟨rfl,rfl⟩,(h 0).1,?_⟩⟩⟩;have:Region.schedule (P.follows .mixedOrders) ops (τ d (.order b.fn id))=Region.linearise .any ops (τ d (.order b.fn id)):=by simp[Region.schedule,hm]
 show WalkS P m s n (gs (b.at a (.inRegion ops (Region.schedule (P.follows .mixedOrders) ops (τ d (.order b.fn id)))::k)) cs) (Lift.re w τ (d+1));rw[this];exact(h _).2.re hA _ _
theorem walk_at {s:SeatS}{g:Goroutine}(hs:w.heap.size≤s.hi)(h:AtRecv P m s g w):KW P m s 0 g w:=⟨hs,h⟩
end
section
variable {P:Program}{a:Act}{o:Oper}{x y:Operand}{w:World}{u v z:Value}
theorem ex_move (F:o.op=.move x)(hx:a.eval x=v):(execOp a.eval o).run P w=.ok (.value v) w:=by unfold execOp;rw[F];simp only[hx];rfl
theorem ex_nilc {p:Addr}(F:o.op=.nilCheck x)(hx:a.eval x=.pointer (some p)):(execOp a.eval o).run P w=.ok (.value (.pointer (some p))) w:=by unfold execOp;rw[F];simp only[hx];rfl
theorem ex_load {t:TypeId}(F:o.op=.load t x)(hx:a.eval x=u)(hl:(Instr.loadAt t u).run P w=.ok v w):(execOp a.eval o).run P w=.ok (.value v) w:=by unfold execOp;rw[F];simp only[hx];exact run_vv hl
theorem ex_field {s:TypeId}{f:Nat}(F:o.op=.fieldAddr s x f)(hx:a.eval x=u)(hl:∀ w,(Instr.fieldAt s u f).run P w=.ok v w):(execOp a.eval o).run P w=.ok (.value v) w:=by unfold execOp;rw[F];simp only[hx];exact run_vv (hl _)
theorem ex_index {t:TypeId}(F:o.op=.indexAddr t x y)(hx:a.eval x=u)(hy:a.eval y=z)(hl:∀ w,(Instr.indexAt t u z).run P w=.ok v w):(execOp a.eval o).run P w=.ok (.value v) w:=by unfold execOp;rw[F];simp only[hx,hy];exact run_vv (hl _)
end
def KS (P:Program)(ty:TypeId)(Post:Value→World→Prop)(h:Nat)(S:SC)(g:Goroutine)(w:World):Prop:=Sound P ty Post h { S with w:=w} g
section
variable {P:Program}{ty:TypeId}{Post:Value→World→Prop}{S:SC}{h:Nat}{Sp Dead Hear:Nat→Prop}{K:Nat→Prop}{ρ ω:Ren}{und:Nat→Bool}{T:Trace}{gs:Array Goroutine}{W:World}{q lv:Nat→Nat}{g G:Goroutine}{w:World}
theorem Base.unre {τ:Nat→Question→Nat}{d:Nat}(C:Base P ty { S with w:=Lift.re w τ d} Sp Dead Hear K ρ ω und T gs W q lv):Base P ty { S with w:=w} Sp Dead Hear K ρ ω und T gs W q lv:=by
 have F:=C.fair;refine⟨⟨F.top,F.ownp,F.apart,F.lent,F.lento,F.chs,F.seatinj,F.wgs,F.wgo,F.few,F.donerg,F.small,F.fzs,F.low,F.n0le,F.olow,F.wlow,F.clow⟩,C.size,C.view,C.oinj,C.odom,C.up,C.hole,C.down,fun j s hj hs=>?_,C.gone,C.doner,C.lv0,C.und1,C.chs,C.seatch,C.dead,C.wgs,C.trace,C.above,C.fz,C.full,C.low,C.lowo⟩;obtain⟨G,p,ρp,g,h1,h2⟩:=C.seat j s hj hs;exact⟨G,p,ρp,g,h1,⟨h2.view,h2.le,h2.sub,h2.all,h2.keep,h2.chan,h2.full,h2.bot,h2.top,h2.way⟩⟩
theorem cl_sound (hP:Fits P):Cl P (h==0) (KS P ty Post h S) where
 blind g w τ d k:=fun ρ ω und T gs W sl q lv G R=>k ρ ω und T gs W sl q lv G ⟨R.base.unre,R.recd,R.rel,R.run,R.role⟩
 step g w hh hs:=sound_step (S:={S with w:=w}) hP hh hs
 tied g w k:=fun ρ ω und T gs W sl q lv G R=>k ⟨ρ,Lift.re W w.tape w.drawn,G,WRel.re (w:=Lift.re w W.tape W.drawn) R.base.view w.tape w.drawn,R.rel⟩ ρ ω und T gs W sl q lv G R
theorem ks (hs:KS P ty Post h S g w)(hw:S.w=w):Sound P ty Post h S g:=by subst hw;exact hs
end
section
variable {P:Program}{ty:TypeId}{Post:Value→World→Prop}{S:SC}{h:Nat}
structure CallAt (P:Program)(F:Frame)(f:FuncId)(args:Array Value):Prop where
 op:∃ (ops:Array Oper) (i:Nat) (rest:List Nat) (k:List Item) (o:Oper) (ar:Array Operand) (ats:Array TypeId),F.todo=.inRegion ops (i::rest)::k∧ops[i]?=some o∧o.guard=none ∧
  o.op=.call { callee:=.value (.func f),args:=ar,argTypes:=ats}∧ar.map F.eval=args∧ar.all okO=true
 mode:F.mode=.run
 kind:F.kind≠.early
 round:F.roundOf=none
 ok:okF f=true
theorem call_step {m:Bool}(hP:Fits P){F:Frame}{f:FuncId}{args:Array Value}(hc:CallAt P F f args){G:Goroutine}(hF:G.frame=F)(hd:G.dying=none)(W:World) :
  ∃ es,stepG P m G W=.go (gs (Frame.enter P f args .normal) (F::G.callers)) W es:=by
 obtain⟨⟨ops,i,rest,k,o,ar,ats,h1,h2,h3,h4,h5,h6⟩,h7,h8,h9,h10⟩:=hc;obtain⟨fn,c,f1,f2,f3⟩:=hP.hF f h10;obtain⟨fn',tm,td,ds,md,kd,rd⟩:=F;simp only at h1 h7 h8 h9;subst h1 h7 h9;obtain⟨F',CS,st,dy,off⟩:=G;simp only at hF hd;subst hF hd;have hn:¬ fn.name = "runtime.NumGoroutine" := by simpa using f3
 have hr:(execOp (⟨tm,ds⟩:Act).eval o).run P W=.ok (.enter f args) W:=by
  have e:ar.map (⟨tm,ds⟩:Act).eval=args:=by
   rw[← h5];congr 1
  unfold execOp;rw[h4];simp[resolve,Deferred.ofValue,Act.eval,invoke,callFunc,f1,hn,f2,← e]
 refine⟨_,(stepG_same (h:=gs _ _) rfl rfl rfl W).trans (stepG_enter (b:=⟨fn',tm,[],ds,.run,kd,none⟩) (a:=⟨tm,ds⟩) (k:=k) (cs:=CS) h2 (by unfold Region.wanted;rw[h3]) h8 hr)⟩
theorem sound_into (hP:Fits P){F:Frame}{cs:List Frame}{f:FuncId}{args:Array Value}(hc:CallAt P F f args)(hS:SoundX P ty Post h S f args F cs):Sound P ty Post h S (gs F cs):=by
 refine sound_of_own hP fun ρ ω und T gs0 W sl q lv G R=>.inr ?_;obtain⟨es,e⟩:=call_step (m:=h==0) hP hc (G:=gs F cs) rfl rfl (re S.w W.tape W.drawn);have hh:(gs F cs).frame.mode=.run→okHd P (gs F cs).frame.eval (gs F cs).frame.todo:=fun _=>by
  obtain⟨⟨ops,i,rest,k,o,ar,ats,h1,h2,h3,h4,h5,h6⟩,h7,h8,h9,h10⟩:=hc;show okHd P F.eval F.todo;rw[h1];intro o' ho';rw[h2] at ho';cases ho';rw[h4];refine⟨?_,fun x hx=>by cases hx⟩;simp[okOp,okCall,okO,h6,h10]
 obtain⟨σ,G',W',ES,hst,hg',A⟩:=sim_go hP R.base.view R.rel hh e ⟨rfl,rfl⟩;obtain⟨C',hG'⟩:=R.base.own A (a':=G') R.recd;obtain⟨⟨ops,i,rest,k,o,ar,ats,h1,h2,h3,h4,h5,h6⟩,h7,h8,h9,h10⟩:=hc;have hf:=R.rel.frame;have hf':FRel ρ F G.frame:=hf;have hcG:CallAt P G.frame f (ar.map G.frame.eval):=by
  refine⟨⟨ops,i,rest,k,o,ar,ats,hf'.todo▸h1,h2,h3,h4,rfl,h6⟩,?_,hf'.kind▸h8,hf'.round.2,h10⟩;have hm:=hf'.mode;rw[h7] at hm;cases hm':G.frame.mode<;>rw[hm'] at hm<;>first | rfl | cases hm
 obtain⟨es',e'⟩:=call_step (m:=h==0) hP hcG (G:=G) rfl R.rel.dying.2 W;rw[hst] at e';injection e' with e1 e2 e3;have CB:=Base.unre (w:=S.w) C';refine⟨_,_,runT_crowd_go (sl:=sl) R.recd hst,hS σ _ und _ _ W' sl q lv G' ⟨CB,hG',hg',by rw[e1];rfl,R.role⟩ ⟨_,by rw[e1];rfl,?_⟩⟩
 ·rw[← h5,evalF',evalF']
  exact(evals_rel (a:=⟨F.tmps,F.defers⟩) (A:=⟨G.frame.tmps,G.frame.defers⟩) hf'.tmps h6).mono A.le
end
theorem clS {Post:Value→World→Prop}(S:SC):Cl Try.prog (0==0) (KS Try.prog link.tWg Post 0 S):=cl_sound fits
def y4:Array Oper:=sO (sL (sR (sR (sR c33))))
def y5:Code:=(sR (sR (sR (sR c33))))
def yFin (b r k y:Nat)(o p g:Bool)(f:Value):Array Value:=#[ptr b,stopV o p g f,uu,ptr y,ptr b,.bool false,ptr b,ptr b,ptrAt b 3,.bool false,uu,uu,ptr b,ptr b,ptrAt b 0,ptr r,ptr r,ptrAt r 2,.chan (some k),(stopV o p g f),uu,uu]
theorem y4_ok {w:World}{b r k y i:Nat}{o p g:Bool}{f bs ss ac tu:Value}(hb:Cel w b [ptr r,.int .i64 i,tu,.bool false] 79)(hr:Cel w r [bs,ss,.chan (some k),ac,.bool false] 86)(hy:Cel w y [.bool o,.bool p,.bool g,f] 72) :
  OrdOk Try.prog y4 (yFin b r k y o p g f) [] (·==8) w:=by
 refine⟨fun i o ho hs=>?_,by decide +kernel,by decide +kernel⟩
 match i,ho,hs with
 | 0,ho,_ =>
  obtain rfl:=so' ho;exact⟨12,⟨rfl,rfl,rfl,rfl,nofun⟩,(show 12<22 by decide),fun a h τ δ=>ex_move rfl (h _ m0')⟩
 | 1,ho,_ =>
  obtain rfl:=so' ho;exact⟨13,⟨rfl,rfl,rfl,rfl,nofun⟩,(show 13<22 by decide),fun a h τ δ=>ex_nilc rfl (h _ m0')⟩
 | 2,ho,_ =>
  obtain rfl:=so' ho;exact⟨14,⟨rfl,rfl,rfl,rfl,nofun⟩,(show 14<22 by decide),fun a h τ δ=>ex_field (v:=(ptrAt b 0)) rfl (h _ m0') (fld81 (by omega))⟩
 | 3,ho,_ =>
  obtain rfl:=so' ho;exact⟨15,⟨rfl,rfl,rfl,rfl,nofun⟩,(show 15<22 by decide),fun a h τ δ=>ex_load (v:=(ptr r)) rfl (h _ m0') (ld78 (hb.cell 0))⟩
 | 4,ho,_ =>
  obtain rfl:=so' ho;exact⟨16,⟨rfl,rfl,rfl,rfl,nofun⟩,(show 16<22 by decide),fun a h τ δ=>ex_nilc rfl (h _ m0')⟩
 | 5,ho,_ =>
  obtain rfl:=so' ho;exact⟨17,⟨rfl,rfl,rfl,rfl,nofun⟩,(show 17<22 by decide),fun a h τ δ=>ex_field (v:=(ptrAt r 2)) rfl (h _ m0') (fld86 (by omega))⟩
 | 6,ho,_ =>
  obtain rfl:=so' ho;exact⟨18,⟨rfl,rfl,rfl,rfl,nofun⟩,(show 18<22 by decide),fun a h τ δ=>ex_load (v:=(.chan (some k))) rfl (h _ m0') (ld84 (hr.cell 2))⟩
 | 7,ho,_ =>
  obtain rfl:=so' ho;exact⟨19,⟨rfl,rfl,rfl,rfl,nofun⟩,(show 19<22 by decide),fun a h τ δ=>ex_load (v:=(stopV o p g f)) rfl (h _ m0') (ld77 (hy.cell 0) (hy.cell 1) (hy.cell 2) (hy.cell 3))⟩
 | 8,_,hs=>cases hs
 | n+9,ho,_ =>
  have:=lt_of_op ho;exact absurd this (by show ¬ n+9<9;omega)
open Go.RowKit
theorem idle_calls (w:World)(b r:Nat)(i:Nat)(tu:Value)(lo d:Bool)(ba sa bk ac:Value)(hb:Cel w b [ptr r,.int .i64 i,tu,.bool lo] 79)(hr:Cel w r [ba,sa,bk,ac,.bool d] 86) :
  Calls Try.prog 35 #[ptr b] w fun e w'=>e=.returned (.bool d)∧w'=w:=by
 have h0:w.cell? ⟨b,0,none⟩=some (ptr r):=hb.cell 0;have h4:w.cell? ⟨r,4,none⟩=some (.bool d):=hr.cell 4
 go_enter Try.func35,Try.ntmps35
 go_wp2
 go_ret
 exact⟨rfl,rfl⟩
theorem idle_nil (w:World):Calls Try.prog 35 #[.pointer none] w fun e w'=>e=.returned (.bool true)∧w'=w:=by
 go_enter Try.func35,Try.ntmps35
 go_wp2
 go_ret
 exact⟨rfl,rfl⟩
theorem thread_calls (w:World)(b r:Nat)(i:Nat)(tu:Value)(lo d:Bool)(ba sa bk ac:Value)(hb:Cel w b [ptr r,.int .i64 i,tu,.bool lo] 79)(hr:Cel w r [ba,sa,bk,ac,.bool d] 86) :
  Calls Try.prog 34 #[ptr b] w fun e w'=>e=.returned (.int .i64 (if d then 0 else i))∧w'=w:=by
 have h1:w.cell? ⟨b,1,none⟩=some (.int .i64 i):=hb.cell 1;have HI:=Lib.hid (idle_calls w b r i tu lo d ba sa bk ac hb hr);cases d
 all_goals
  go_enter Try.func34,Try.ntmps34
  go_wp2_with (go_at_call 35;refine(HI.out).mono ?_;rintro e w' ⟨rfl,rfl⟩)
  go_ret
  exact⟨rfl,rfl⟩
theorem thread_nil (w:World):Calls Try.prog 34 #[.pointer none] w fun e w'=>e=.returned (.int .i64 0)∧w'=w:=by
 have HI:=Lib.hid (idle_nil w)
 go_enter Try.func34,Try.ntmps34
 go_wp2_with (go_at_call 35;refine(HI.out).mono ?_;rintro e w' ⟨rfl,rfl⟩)
 go_ret
 exact⟨rfl,rfl⟩
end Go.Proofs.Ytfbjopkiicmiiaa.Lift
namespace Go.Proofs.Ytfbjopkiicmiiaa.Lift
open Go Go.Conc
variable {m:Bool}{K:Goroutine→World→Prop}{w:World}{cs:List Frame}{b c r B0 B1 all k y i:Nat}{body f ba sa ac tu:Value}{o p g:Bool}
theorem cel_alloc {w:World}{b:Nat}{cs:List Value}{t:TypeId}(h:Cel w b cs t)(ob:Obj):Cel (w.alloc ob) b cs t:=h.same (Go.RowKit.Below.heap_alloc w ob b h.lt)
theorem cel_new (w:World)(cs:List Value)(t:TypeId):Cel (w.alloc (.cells cs.toArray t)) w.heap.size cs t:=Blk.cel (Pl.Blk.new w cs t)
theorem Cl.callp {P:Program}{m:Bool}{K:Goroutine→World→Prop}(hK:Cl P m K)(hP:Fits P){F:FuncId→Bool}(hF:Shut F P){f:FuncId}(hf:F f=true){args:Array Value}{w:World}{v:Value}
  (hc:∀ τ d,Calls P f args (re w τ d) fun e w'=>e=.returned v∧w'=re w τ d) {c:Frame} {low:List Frame} (h:K (gs (c.finish v) low) w):K (gs (Frame.enter P f args .normal) (c::low)) w:=by
 refine hK.call hP hF hf (R:=fun v' w'=>v'=v∧∃ τ d,w'=re w τ d) (fun v' w' τ d h=>⟨h.1,τ,d,by obtain⟨_,τ',d',h2⟩:=h;rw[h2];rfl⟩) (fun τ d=>(hc τ d).mono fun e w' h=>⟨v,h.1,rfl,τ,d,h.2⟩) ?_;rintro v' w' ⟨rfl,τ,d,rfl⟩;exact hK.blind _ _ _ _ h
theorem mixed:Try.prog.follows .mixedOrders=true:=by decide +kernel
theorem enter33 {x z:Value}:Frame.enter Try.prog 30 #[x,z] .normal=(base 30).at ⟨#[x,z,uu,uu,uu,uu,uu,uu,uu,uu,uu,uu,uu,uu,uu,uu,uu,uu,uu,uu,uu,uu],[]⟩ [.code c33]:=enter_lit Try.func30 rfl rfl
def yieldAt (b r k y:Nat)(o p g:Bool)(f:Value):Frame:=(base 30).at ⟨yFin b r k y o p g f,[]⟩ [.inRegion y4 [8],.code y5]
theorem yield_to (hK:Cl Try.prog m K)(hb:Cel w b [ptr r,.int .i64 i,tu,.bool false] 79)(hr:Cel w r [ba,sa,.chan (some k),ac,.bool false] 86)(h:K (gs (yieldAt b r k w.heap.size o p g f) cs) (w.alloc (.cells #[.bool o,.bool p,.bool g,f] 72))):K (gs (Frame.enter Try.prog 30 #[ptr b,stopV o p g f] .normal) cs) w:=by
 rw[enter33];have hk:(base 30).kind≠.early:=nofun;have hD:=hK.det;obtain⟨y,hyy⟩:∃ y,y=w.heap.size:=⟨_,rfl⟩;rw[← hyy] at h;refine hD.s0 ?_;refine hD.r0 ?_;refine hD.box (n:=0) (u:=stopV o p g f) hk rfl ⟨rfl,rfl,rfl,rfl,nofun⟩ rfl bx77 ?_;have hb1:=cel_alloc hb (.cells #[.bool o,.bool p,.bool g,f] 72);have hr1:=cel_alloc hr (.cells #[.bool o,.bool p,.bool g,f] 72);have hy1:Cel (w.alloc (.cells #[.bool o,.bool p,.bool g,f] 72)) w.heap.size [.bool o,.bool p,.bool g,f] 72:=cel_new w [.bool o,.bool p,.bool g,f] 72;generalize w.alloc (.cells #[.bool o,.bool p,.bool g,f] 72)=w1 at h hb1 hr1 hy1 ⊢;rw[← hyy] at hy1 ⊢;refine norm0 (a':=⟨#[ptr b,(stopV o p g f),uu,ptr y,uu,uu,uu,uu,uu,uu,uu,uu,uu,uu,uu,uu,uu,uu,uu,uu,uu,uu],[]⟩) ?_;refine hD.e0 ?_;refine hD.s0 ?_;refine hD.s0 ?_;refine hD.r0 ?_;refine hD.mv (ptr b) hk ?_;refine norm0 (a':=⟨#[ptr b,(stopV o p g f),uu,ptr y,ptr b,uu,uu,uu,uu,uu,uu,uu,uu,uu,uu,uu,uu,uu,uu,uu,uu,uu],[]⟩) ?_;refine hD.cf #[ptr b] hk Try.func35 ?_;refine hK.callp fits shut (f:=35) rfl (v:=.bool false) (fun τ d=>idle_calls (re w1 τ d) b r i tu false false ba sa (.chan (some k)) ac hb1 hr1) ?_;refine fin0 (some 5) ?_;refine norm0 (a':=⟨#[ptr b,(stopV o p g f),uu,ptr y,ptr b,.bool false,uu,uu,uu,uu,uu,uu,uu,uu,uu,uu,uu,uu,uu,uu,uu,uu],[]⟩) ?_;refine hD.e0 ?_;refine hD.cond (n:=0) false rfl rfl ?_;refine hD.k0 ?_;refine hD.s0 ?_;refine hD.s0 ?_;refine hD.r0 ?_;refine hD.mv (ptr b) hk ?_;refine hD.nc ⟨b,0,none⟩ hk ?_;refine hD.fd (ptrAt b 3) hk (fld81 (by omega)) ?_;refine hD.ld (.bool false) hk (fun τ d=>ld4 (hb1.cell 3)) ?_;refine norm0 (a':=⟨#[ptr b,(stopV o p g f),uu,ptr y,ptr b,.bool false,ptr b,ptr b,ptrAt b 3,.bool false,uu,uu,uu,uu,uu,uu,uu,uu,uu,uu,uu,uu],[]⟩) ?_;refine hD.e0 ?_;refine hD.cond (n:=0) false rfl rfl ?_;refine hD.k0 ?_;refine hD.s0 ?_;refine hK.draw mixed fun t=>?_;have hI:=OInv.init (ops:=y4) (fin:=yFin b r k y o p g f) (tm:=#[ptr b,(stopV o p g f),uu,ptr y,ptr b,.bool false,ptr b,ptr b,ptrAt b 3,.bool false,uu,uu,uu,uu,uu,uu,uu,uu,uu,uu,uu,uu]) [(12,(ptr b)),(13,(ptr b)),(14,(ptrAt b 0)),(15,(ptr r)),(16,(ptr r)),(17,(ptrAt r 2)),(18,(.chan (some k))),(19,(stopV o p g f))] (by simp[yFin]) (show([12,13,14,15,16,17,18,19]:List Tmp).all (fun d=>y4.any fun o=>o.dst==some d)=true by decide +kernel);refine ord_walk (Kn:=fun _=>K) (n:=0) (s:=8) hD (fun _ _ _ h=>h) hk (y4_ok hb1 hr1 hy1) (by decide +kernel) (show 8<9 by decide) rfl (fun _=>False) (fun fuel t li tm j hJ _ hj hsp _ hle=>?_) _ t _ _ hI (fun _ h=>h.elim) (by decide +kernel) leftN_init
 ·obtain rfl:j=8:=by simpa using hsp
  obtain⟨_,o8,ho8,hall⟩:=ready_mem hj;obtain rfl:=oj' (show some _=some o8 from ho8);have l6:=hall { on:=6,ground:=.data} (show _∈(#[{on:=6,ground:=.data},{on:=7,ground:=.data}]:Array Edge) from by simp) rfl;have l7:=hall { on:=7,ground:=.data} (show _∈(#[{on:=6,ground:=.data},{on:=7,ground:=.data}]:Array Edge) from by simp) rfl;have l5:=hJ.closed 6 _ l6 rfl { on:=5,ground:=.data} (show _∈(#[{on:=5,ground:=.data}]:Array Edge) from by simp) rfl;have l4:=hJ.closed 5 _ l5 rfl { on:=4,ground:=.data} (show _∈(#[{on:=4,ground:=.data}]:Array Edge) from by simp) rfl;have l3:=hJ.closed 4 _ l4 rfl { on:=3,ground:=.data} (show _∈(#[{on:=3,ground:=.data}]:Array Edge) from by simp) rfl;have l2:=hJ.closed 3 _ l3 rfl { on:=2,ground:=.data} (show _∈(#[{on:=2,ground:=.data}]:Array Edge) from by simp) rfl;have l1:=hJ.closed 2 _ l2 rfl { on:=1,ground:=.data} (show _∈(#[{on:=1,ground:=.data}]:Array Edge) from by simp) rfl;have l0:=hJ.closed 1 _ l1 rfl { on:=0,ground:=.data} (show _∈(#[{on:=0,ground:=.data}]:Array Edge) from by simp) rfl;have hfull:∀ j,j<8→li.getD j false=true:=fun j hj=>by
   obtain rfl | rfl | rfl | rfl | rfl | rfl | rfl | rfl:j=0∨j=1∨j=2∨j=3∨j=4∨j=5∨j=6∨j=7:=by omega
   all_goals assumption
  have htm:=hJ.full fun j oj hoj hd=>by
   by_cases e:j=8
   ·subst e;obtain rfl:=oj' (show some _=some oj from hoj);cases hd
   ·exact hfull j (by have h9:j<9:=lt_of_op hoj;omega)
  subst htm;have hli:∀ j,j<y4.size→(li.setIfInBounds 8 true).getD j false=true:=fun j hj=>by
   have h9:j<9:=hj;by_cases e:j=8
   ·subst e;have hs:li.size=9:=hJ.lsize;simp[gd',hs]
   ·exact listed_up (hfull j (by omega))
  rw[ready_nil (by simpa using hJ.lsize) hli];exact h
end Go.Proofs.Ytfbjopkiicmiiaa.Lift
namespace Go.Proofs.Ytfbjopkiicmiiaa.Lift
open Go Go.Conc
variable {m:Bool}{Kn:Nat→Goroutine→World→Prop}{K:Goroutine→World→Prop}{n:Nat}{w:World}{cs:List Frame}{b c r B0 B1 all k y i:Nat}{body f ba sa ac tu:Value}{o p g:Bool}
def yieldB (b r k y:Nat)(o p g:Bool)(f:Value):Frame:=(base 30).at ⟨#[ptr b,(stopV o p g f),uu,ptr y,ptr b,.bool false,ptr b,ptr b,ptrAt b 3,.bool false,uu,uu,ptr b,ptr b,ptrAt b 0,ptr r,ptr r,ptrAt r 2,.chan (some k),(stopV o p g f),ptr b,uu],[]⟩ [.inRegion (sO y5) [1]]
theorem yield_back (hK:Det Try.prog m Kn)(hc:w.cell? ⟨b,2,none⟩=some (.chan (some c)))(h:Kn n (gs (comeAt b c) (yieldB b r k y o p g f::cs)) w):Kn (n+10) (Conc.served (gs (yieldAt b r k y o p g f) cs) undef) w:=by
 have hk:(base 30).kind≠.early:=nofun;show Kn (n+10) (gs ((base 30).at ⟨#[ptr b,(stopV o p g f),uu,ptr y,ptr b,.bool false,ptr b,ptr b,ptrAt b 3,.bool false,uu,uu,ptr b,ptr b,ptrAt b 0,ptr r,ptr r,ptrAt r 2,.chan (some k),(stopV o p g f),uu,uu],[]⟩ [.inRegion y4 [],.code y5]) cs) w;refine hK.regionEnd ?_;refine hK.region ?_;refine hK.move (v:=(ptr b)) hk rfl ⟨rfl,rfl,rfl,rfl,nofun⟩ rfl ?_;refine norm (Kn:=Kn) (a':=⟨#[ptr b,(stopV o p g f),uu,ptr y,ptr b,.bool false,ptr b,ptr b,ptrAt b 3,.bool false,uu,uu,ptr b,ptr b,ptrAt b 0,ptr r,ptr r,ptrAt r 2,.chan (some k),(stopV o p g f),ptr b,uu],[]⟩) rfl ?_;refine hK.callf (n:=n+6) (args:=#[ptr b]) hk rfl ⟨rfl,rfl,rfl,(by decide +kernel),nofun⟩ (fun w=>x_call rfl rfl Try.func36 rfl rfl rfl) ?_;exact come_to hK hc h
theorem yield_done {cl:Frame}(hK:Det Try.prog m Kn)(hcm:cl.mode=.run)(h:Kn n (gs (cl.finish (.tuple #[])) cs) w):Kn (n+3) (gs ((yieldB b r k y o p g f).finish (.tuple #[])) (cl::cs)) w:=by
 unfold yieldB;have hk:(base 30).kind≠.early:=nofun;refine fin_at (dst:=some 21) rfl rfl ?_;refine norm (Kn:=Kn) (a':=⟨#[ptr b,(stopV o p g f),uu,ptr y,ptr b,.bool false,ptr b,ptr b,ptrAt b 3,.bool false,uu,uu,ptr b,ptr b,ptrAt b 0,ptr r,ptr r,ptrAt r 2,.chan (some k),(stopV o p g f),ptr b,.tuple #[]],[]⟩) rfl ?_;refine hK.regionEnd ?_;refine hK.end ?_;refine hK.leave (v:=.tuple #[]) rfl rfl Try.func30 (fun τ d=>res0 rfl) hcm ?_;exact h
abbrev lostE:List PanicEntry:=[{v:=.iface 81 (.agg #[]),recovered:=false}]
theorem pu_build {a:Act}{o:Oper}{w:World}(h:o.op=.build 81 #[]):(execOp a.eval o).run Try.prog w=.ok (.value (.agg #[])) w:=by
 unfold execOp;rw[h];exact run_vv (by simp[go_sem,Try.underlying81,Try.runUnderlying81,Try.sizeOf81,Try.zeroValue81])
theorem pu_mki {a:Act}{o:Oper}{w:World}{x:Operand}(h:o.op=.makeInterface 81 x)(hx:a.eval x=.agg #[]):(execOp a.eval o).run Try.prog w=.ok (.value (.iface 81 (.agg #[]))) w:=by
 unfold execOp;rw[h];simp only[hx];exact run_vv (by simp[go_sem,Try.underlying81,Try.runUnderlying81,Try.sizeOf81])
theorem pu_panic {a:Act}{o:Oper}{w:World}{x:Operand}(h:o.op=.panic x)(hx:a.eval x=.iface 81 (.agg #[])):(execOp a.eval o).run Try.prog w=.halt (.panic (.iface 81 (.agg #[]))) w:=by
 unfold execOp;rw[h];simp only[hx];simp[go_sem,Try.underlying81,Try.runUnderlying81,Try.sizeOf81]
theorem come_lost (hK:Det Try.prog m Kn){cl:Frame}(hcm:cl.mode=.run)(hb:Pl.Blk w b [ptr r,.int .i64 i,tu,.bool false] 79)(h:Kn n (gs { cl with mode:=.panicking lostE} cs) ((w.alloc (.cells #[] 80)).setCell ⟨b,3,none⟩ (.bool true))):Kn (n+25) (Conc.served (gs (comeAt b c) (cl::cs)) (.tuple #[.agg #[],.bool false])) w:=by
 show Kn (n+25) (gs ((base 36).at (Act.put ⟨#[ptr b,uu,uu,uu,uu,ptr b,ptr b,ptrAt b 2,.chan (some c),uu,uu,uu,uu,uu,uu,uu,uu,uu,uu],[]⟩ (some 9) (.tuple #[.agg #[],.bool false])) [.inRegion (sO (sL c45)) [5,6,7,8,9,10],.code (sR c45)]) (cl::cs)) w;have hk:(base 36).kind≠.early:=nofun;have hlt:=hb.lt;refine hK.move (v:=(.tuple #[.agg #[],.bool false])) hk rfl ⟨rfl,rfl,rfl,rfl,nofun⟩ rfl ?_;refine hK.pure (v:=(.agg #[])) hk rfl ⟨rfl,rfl,rfl,(by decide +kernel),nofun⟩ (fun w=>rfl) ?_;refine hK.pure (v:=(.bool false)) hk rfl ⟨rfl,rfl,rfl,(by decide +kernel),nofun⟩ (fun w=>rfl) ?_;refine hK.alloc hk rfl ⟨rfl,rfl,rfl,(by decide +kernel),nofun⟩ al89 ?_;refine norm (Kn:=Kn) (a':=⟨#[ptr b,uu,ptr w.heap.size,uu,.tuple #[.agg #[],.bool false],ptr b,ptr b,ptrAt b 2,.chan (some c),.tuple #[.agg #[],.bool false],.agg #[],.bool false,uu,uu,uu,uu,uu,uu,uu],[]⟩) rfl ?_;refine hK.store (u:=(ptr w.heap.size)) (z:=(.agg #[])) hk rfl ⟨rfl,rfl,rfl,rfl,nofun⟩ rfl rfl (fun τ d=>(st89 (show(w.alloc (.cells #[] 80)).heap[w.heap.size]?=_ from Pl.Blk.new w [] 80))) (Nat.le_refl _) ?_;refine hK.assign (v:=(.bool false)) hk rfl ⟨rfl,rfl,rfl,rfl,nofun⟩ rfl ?_;refine norm (Kn:=Kn) (a':=⟨#[ptr b,uu,ptr w.heap.size,.bool false,.tuple #[.agg #[],.bool false],ptr b,ptr b,ptrAt b 2,.chan (some c),.tuple #[.agg #[],.bool false],.agg #[],.bool false,uu,uu,uu,uu,uu,uu,uu],[]⟩) rfl ?_;have hb1:=hb.alloc (.cells #[] 80);generalize w.alloc (.cells #[] 80)=w1 at h hb1 ⊢;refine hK.regionEnd ?_;refine hK.seq ?_;refine hK.region ?_;refine hK.move (v:=(.bool false)) hk rfl ⟨rfl,rfl,rfl,rfl,nofun⟩ rfl ?_;refine hK.pure (v:=(.bool true)) hk rfl ⟨rfl,rfl,rfl,(by decide +kernel),nofun⟩ (fun w=>rfl) ?_;refine norm (Kn:=Kn) (a':=⟨#[ptr b,uu,ptr w.heap.size,.bool false,.tuple #[.agg #[],.bool false],ptr b,ptr b,ptrAt b 2,.chan (some c),.tuple #[.agg #[],.bool false],.agg #[],.bool false,.bool false,.bool true,uu,uu,uu,uu,uu],[]⟩) rfl ?_;refine hK.regionEnd ?_;refine hK.cond true rfl rfl ?_;refine hK.seq ?_;refine hK.region ?_;refine hK.move (v:=(ptr b)) hk rfl ⟨rfl,rfl,rfl,rfl,nofun⟩ rfl ?_;refine hK.nilc hk rfl ⟨rfl,rfl,rfl,rfl,nofun⟩ (show _=(ptr b) from rfl) ?_;refine hK.field (v:=(ptrAt b 3)) (u:=(ptr b)) hk rfl ⟨rfl,rfl,rfl,rfl,nofun⟩ rfl (fld81 (by omega)) ?_;refine norm (Kn:=Kn) (a':=⟨#[ptr b,uu,ptr w.heap.size,.bool false,.tuple #[.agg #[],.bool false],ptr b,ptr b,ptrAt b 2,.chan (some c),.tuple #[.agg #[],.bool false],.agg #[],.bool false,.bool false,.bool true,ptr b,ptr b,ptrAt b 3,uu,uu],[]⟩) rfl ?_;refine hK.store (u:=(ptrAt b 3)) (z:=(.bool true)) hk rfl ⟨rfl,rfl,rfl,rfl,nofun⟩ rfl rfl (fun τ d=>((st4 (w:=re w1 τ d) (x:=.bool false) (hb1.cell 3) (hb1.frozen 3)).trans (congrArg (Result.ok ()) re_setCell))) (by rw[World.size_setCell];exact Nat.le_refl _) ?_;generalize w1.setCell ⟨b,3,none⟩ (.bool true)=w2 at h ⊢;refine hK.regionEnd ?_;refine hK.region ?_;refine hK.pure (v:=(.agg #[])) hk rfl ⟨rfl,rfl,rfl,(by decide +kernel),nofun⟩ (fun w=>pu_build rfl) ?_;refine hK.pure (v:=(.iface 81 (.agg #[]))) hk rfl ⟨rfl,rfl,rfl,(by decide +kernel),nofun⟩ (fun w=>pu_mki (x:=.tmp 17) rfl rfl) ?_
 refine norm (Kn:=Kn) (a':=⟨#[ptr b,uu,ptr w.heap.size,.bool false,.tuple #[.agg #[],.bool false],ptr b,ptr b,ptrAt b 2,.chan (some c),.tuple #[.agg #[],.bool false],.agg #[],.bool false,.bool false,.bool true,ptr b,ptr b,ptrAt b 3,.agg #[],(.iface 81 (.agg #[]))],[]⟩) rfl ?_;refine hK.panic (v:=.iface 81 (.agg #[])) rfl rfl hk rfl (by decide +kernel) rfl rfl (by simp) (fun τ d=>pu_panic (x:=.tmp 18) rfl rfl) ?_;exact hK.up ⟨_,Try.func36⟩ hcm h
end Go.Proofs.Ytfbjopkiicmiiaa.Lift
namespace Go.Proofs.Ytfbjopkiicmiiaa.Lift
open Go Go.Conc
variable {m:Bool}{Kn:Nat→Goroutine→World→Prop}{K:Goroutine→World→Prop}{n:Nat}{w:World}{cs:List Frame}{b c r B0 B1 all k y i:Nat}{body f ba sa ac tu v2:Value}{o p g:Bool}
abbrev d59 (all:Nat):Deferred:={target:=.fn (.func 59) #[],args:=#[ptr all]}
theorem set4_new {w:World}{x0 x1 x2 x3 y0 y1 y2 y3:Value}{t:TypeId}:set4 (w.alloc (.cells #[y0,y1,y2,y3] t)) w.heap.size 0 x0 x1 x2 x3=w.alloc (.cells #[x0,x1,x2,x3] t):=by
 unfold set4;rw[World.setCell_alloc_new,World.setCell_alloc_new,World.setCell_alloc_new,World.setCell_alloc_new];simp
theorem cell_alloc {w:World}{ob:Obj}{a:Addr}(h:a.block<w.heap.size):(w.alloc ob).cell? a=w.cell? a:=by
 unfold World.cell?;rw[Go.RowKit.Below.heap_alloc w ob _ h]
theorem enter37 {x0 x1 x2 x3:Value}:Frame.enter Try.prog 39 #[x0,x1,x2,x3] .deferred=(baseD 39).at ⟨#[x0,x1,x2,x3,uu,uu,uu,uu,uu,uu,uu,uu,uu,uu,uu,uu,uu,uu],[]⟩ [.code c37]:=enter_lit Try.func39 rfl rfl
def liveTm (r b:Nat)(body:Value)(all B0 B1:Nat):Array Value:=#[ptr r,ptr b,body,ptr all,ptr B0,uu,uu,uu,ptr B1,ptr all,(stopV true true true .nilFunc),(.func (.func 60) #[] #[ptr B0,ptr B1]),ptr b,uu,uu,uu,uu,uu]
def liveA (r b:Nat)(body:Value)(all B0 B1:Nat):Frame:=(baseD 39).at ⟨liveTm r b body all B0 B1,[dlive B0 B1,d59 all]⟩ [.inRegion (sO (sL (sR (sR (sR (sR c37)))))) [1],.code (sR (sR (sR (sR (sR c37)))))]
theorem pu_stop {a:Act}{oo:Oper}{w:World}(h:oo.op=.build 72 #[(0,.const (.bool true)),(1,.const (.bool true)),(2,.const (.bool true))]):(execOp a.eval oo).run Try.prog w=.ok (.value (stopV true true true .nilFunc)) w:=by
 unfold execOp;rw[h];exact run_vv (by simp[go_sem,Try.underlying72,Try.runUnderlying72,Try.sizeOf72,Try.zeroValue72])
theorem pu_mkf {a:Act}{oo:Oper}{w:World}{x z:Operand}{u v:Value}{ff:FuncId}(h:oo.op=.makeFunc (.func ff) #[] #[x,z])(hx:a.eval x=u)(hz:a.eval z=v):(execOp a.eval oo).run Try.prog w=.ok (.value (.func (.func ff) #[] #[u,v])) w:=by
 unfold execOp;rw[h];exact run_vv (by simp only[List.map_toArray,List.map_cons,List.map_nil,hx,hz];simp[go_sem])
def child (r b:Nat)(body:Value)(all:Nat):Goroutine:=gs { (default:Frame) with fn:=Try.prog.funcs.size,defers:=[{target:=.fn (.func 39) #[],args:=#[ptr r,ptr b,body,ptr all]}],mode:=.panicking [goexitEntry]} []
theorem live_to (hK:Det Try.prog m Kn)(hlt:b<w.heap.size)(hc:w.cell? ⟨b,2,none⟩=some (.chan (some c)))(h:Kn n (gs (comeAt b c) [liveA r b body all w.heap.size (w.heap.size+1),bot]) ((w.alloc (.cells #[ptr r] 76)).alloc (.cells #[.bool true,.bool true,.bool true,.nilFunc] 72))):Kn (n+31) (child r b body all) w:=by
 unfold child;have hk:(baseD 39).kind≠.early:=nofun;refine hK.callD (b:={(default:Frame) with fn:=Try.prog.funcs.size}) (f:=39) (args:=#[ptr r,ptr b,body,ptr all]) nofun nofun nofun (fun τ d=>(run_callf Try.func39 rfl rfl).trans (by simp)) ?_;rw[enter37];change Kn _ (gs _ [bot]) _;refine hK.seq ?_;refine hK.region ?_;obtain⟨B0,h0⟩:∃ B0,B0=w.heap.size:=⟨_,rfl⟩;refine hK.box (u:=(ptr r)) hk rfl ⟨rfl,rfl,rfl,rfl,nofun⟩ rfl bx78 ?_;refine norm (Kn:=Kn) (a':=⟨#[ptr r,ptr b,body,ptr all,ptr w.heap.size,uu,uu,uu,uu,uu,uu,uu,uu,uu,uu,uu,uu,uu],[]⟩) rfl ?_;have h2:(w.alloc (.cells #[ptr r] 76)).heap.size=w.heap.size+1:=wz' _ _;have hc1:(w.alloc (.cells #[ptr r] 76)).cell? ⟨b,2,none⟩=some (.chan (some c)):=(cell_alloc hlt).trans hc;generalize w.alloc (.cells #[ptr r] 76)=w1 at h h2 hc1 ⊢;refine hK.regionEnd ?_;refine hK.seq ?_;refine hK.region ?_;refine hK.move (v:=(ptr all)) hk rfl ⟨rfl,rfl,rfl,rfl,nofun⟩ rfl ?_;refine norm (Kn:=Kn) (a':=⟨#[ptr r,ptr b,body,ptr all,ptr w.heap.size,uu,uu,uu,uu,ptr all,uu,uu,uu,uu,uu,uu,uu,uu],[]⟩) rfl ?_;refine hK.defer (D:=d59 all) rfl rfl hk rfl (by decide +kernel) nofun (fun τ d=>x_defer (x:=.func 59) rfl rfl rfl) ?_;refine norm (Kn:=Kn) (a':=⟨#[ptr r,ptr b,body,ptr all,ptr w.heap.size,uu,uu,uu,uu,ptr all,uu,uu,uu,uu,uu,uu,uu,uu],[d59 all]⟩) rfl ?_;refine hK.regionEnd ?_;refine hK.seq ?_;refine hK.region ?_;refine hK.pure (v:=(stopV true true true .nilFunc)) hk rfl ⟨rfl,rfl,rfl,(by decide +kernel),nofun⟩ (fun w=>pu_stop rfl) ?_;refine hK.alloc hk rfl ⟨rfl,rfl,rfl,(by decide +kernel),nofun⟩ al77 ?_;refine norm (Kn:=Kn) (a':=⟨#[ptr r,ptr b,body,ptr all,ptr w.heap.size,uu,uu,uu,ptr w1.heap.size,ptr all,(stopV true true true .nilFunc),uu,uu,uu,uu,uu,uu,uu],[d59 all]⟩) rfl ?_;refine hK.store (u:=(ptr w1.heap.size)) (z:=(stopV true true true .nilFunc)) hk rfl ⟨rfl,rfl,rfl,rfl,nofun⟩ rfl rfl (fun τ d=>((st77 (w:=re (w1.alloc (.cells #[.bool false,.bool false,.bool false,.nilFunc] 72)) τ d) (i:=0) (Pl.Blk.new w1 [.bool false,.bool false,.bool false,.nilFunc] 72) (by decide) (.inl rfl)).trans (congrArg (Result.ok ()) (re_set4.trans (congrArg (fun x=>re x τ d) set4_new))))) (by rw[wz',wz'];exact Nat.le_refl _) ?_;have hlt2:b<w1.heap.size:=by rw[h2];omega
 rw[h2];have hc2:(w1.alloc (.cells #[.bool true,.bool true,.bool true,.nilFunc] 72)).cell? ⟨b,2,none⟩=some (.chan (some c)):=(cell_alloc hlt2).trans hc1;generalize w1.alloc (.cells #[.bool true,.bool true,.bool true,.nilFunc] 72)=w2 at h hc2 ⊢;refine norm (Kn:=Kn) (a':=⟨#[ptr r,ptr b,body,ptr all,ptr w.heap.size,uu,uu,uu,ptr (w.heap.size+1),ptr all,(stopV true true true .nilFunc),uu,uu,uu,uu,uu,uu,uu],[d59 all]⟩) rfl ?_;refine hK.regionEnd ?_;refine hK.seq ?_;refine hK.region ?_;refine hK.pure (v:=(.func (.func 60) #[] #[ptr w.heap.size,ptr (w.heap.size+1)])) hk rfl ⟨rfl,rfl,rfl,(by decide +kernel),nofun⟩ (fun w=>pu_mkf (x:=.tmp 4) (z:=.tmp 8) rfl rfl rfl) ?_;refine norm (Kn:=Kn) (a':=⟨#[ptr r,ptr b,body,ptr all,ptr w.heap.size,uu,uu,uu,ptr (w.heap.size+1),ptr all,(stopV true true true .nilFunc),(.func (.func 60) #[] #[ptr w.heap.size,ptr (w.heap.size+1)]),uu,uu,uu,uu,uu,uu],[d59 all]⟩) rfl ?_;refine hK.defer (D:=dlive w.heap.size (w.heap.size+1)) rfl rfl hk rfl (by decide +kernel) nofun (fun τ d=>x_defer (x:=.tmp 11) rfl rfl rfl) ?_;refine norm (Kn:=Kn) (a':=⟨#[ptr r,ptr b,body,ptr all,ptr w.heap.size,uu,uu,uu,ptr (w.heap.size+1),ptr all,(stopV true true true .nilFunc),(.func (.func 60) #[] #[ptr w.heap.size,ptr (w.heap.size+1)]),uu,uu,uu,uu,uu,uu],[dlive w.heap.size (w.heap.size+1),d59 all]⟩) rfl ?_;refine hK.regionEnd ?_;refine hK.seq ?_;refine hK.region ?_;refine hK.move (v:=(ptr b)) hk rfl ⟨rfl,rfl,rfl,rfl,nofun⟩ rfl ?_;refine norm (Kn:=Kn) (a':=⟨#[ptr r,ptr b,body,ptr all,ptr w.heap.size,uu,uu,uu,ptr (w.heap.size+1),ptr all,(stopV true true true .nilFunc),(.func (.func 60) #[] #[ptr w.heap.size,ptr (w.heap.size+1)]),ptr b,uu,uu,uu,uu,uu],[dlive w.heap.size (w.heap.size+1),d59 all]⟩) rfl ?_;refine hK.callf (n:=n+6) (args:=#[ptr b]) hk rfl ⟨rfl,rfl,rfl,(by decide +kernel),nofun⟩ (fun w=>x_call rfl rfl Try.func36 rfl rfl rfl) ?_;exact come_to hK hc2 h
end Go.Proofs.Ytfbjopkiicmiiaa.Lift
namespace Go.Proofs.Ytfbjopkiicmiiaa.Lift
open Go Go.Conc
variable {m:Bool}{Kn:Nat→Goroutine→World→Prop}{K:Goroutine→World→Prop}{n:Nat}{w:World}{cs:List Frame}{b c r B0 B1 all k y i:Nat}{body f ba sa ac tu v2:Value}{o p g:Bool}{ff:FuncId}{fn:Func}{cd:Code}{cap args:Array Value}
def liveB (r b:Nat)(ff:FuncId)(cap:Array Value)(all B0 B1:Nat):Frame:=(baseD 39).at ⟨#[ptr r,ptr b,(.func (.func ff) #[] cap),ptr all,ptr B0,uu,uu,uu,ptr B1,ptr all,(stopV true true true .nilFunc),(.func (.func 60) #[] #[ptr B0,ptr B1]),ptr b,.tuple #[],(.func (.func ff) #[] cap),ptr b,uu,uu],[dlive B0 B1,d59 all]⟩ [.inRegion (sO (sL (sR (sR (sR (sR (sR c37))))))) [2],.code (sR (sR (sR (sR (sR (sR c37))))))]
theorem live_body (hK:Det Try.prog m Kn)(hf:Try.prog.funcs[ff]?=some fn)(hn:(fn.name == "runtime.NumGoroutine")=false)(hbd:fn.body=some cd)(ha:ptr b::cap.toList=args.toList)(h:Kn n (gs (Frame.enter Try.prog ff args .normal) (liveB r b ff cap all B0 B1::cs)) w):Kn (n+6) (gs ((liveA r b (.func (.func ff) #[] cap) all B0 B1).finish (.tuple #[])) cs) w:=by
 unfold liveA liveTm;have hk:(baseD 39).kind≠.early:=nofun;refine fin_at (dst:=some 13) rfl rfl ?_;refine norm (Kn:=Kn) (a':=⟨#[ptr r,ptr b,(.func (.func ff) #[] cap),ptr all,ptr B0,uu,uu,uu,ptr B1,ptr all,(stopV true true true .nilFunc),(.func (.func 60) #[] #[ptr B0,ptr B1]),ptr b,.tuple #[],uu,uu,uu,uu],[dlive B0 B1,d59 all]⟩) rfl ?_;refine hK.regionEnd ?_;refine hK.seq ?_;refine hK.region ?_;refine hK.move (v:=(.func (.func ff) #[] cap)) hk rfl ⟨rfl,rfl,rfl,rfl,nofun⟩ rfl ?_;refine hK.move (v:=(ptr b)) hk rfl ⟨rfl,rfl,rfl,rfl,nofun⟩ rfl ?_;refine norm (Kn:=Kn) (a':=⟨#[ptr r,ptr b,(.func (.func ff) #[] cap),ptr all,ptr B0,uu,uu,uu,ptr B1,ptr all,(stopV true true true .nilFunc),(.func (.func 60) #[] #[ptr B0,ptr B1]),ptr b,.tuple #[],(.func (.func ff) #[] cap),ptr b,uu,uu],[dlive B0 B1,d59 all]⟩) rfl ?_;refine hK.callf (n:=n) (args:=args) hk rfl ⟨rfl,rfl,rfl,(by decide +kernel),nofun⟩ (fun w=>x_call rfl rfl hf hn hbd (by simpa[Act.eval] using ha)) ?_;exact h
def liveR (r b:Nat)(ff:FuncId)(cap:Array Value)(all B0 B1:Nat):Frame:={(baseD 39).at ⟨#[ptr r,ptr b,(.func (.func ff) #[] cap),ptr all,ptr B0,uu,uu,uu,ptr B1,ptr all,(stopV true true true .nilFunc),(.func (.func 60) #[] #[ptr B0,ptr B1]),ptr b,.tuple #[],(.func (.func ff) #[] cap),ptr b,.tuple #[],ptrAt B1 1],[d59 all]⟩ [] with mode:=.returning}
theorem live_end (hK:Det Try.prog m Kn)(hb:Pl.Blk w B1 [.bool true,.bool true,.bool true,.nilFunc] 72)(h:Kn n (gs (Frame.enter Try.prog 60 #[ptr B0,ptr B1] .deferred) (liveR r b ff cap all B0 B1::cs)) (w.setCell ⟨B1,1,none⟩ (.bool false))):Kn (n+7) (gs ((liveB r b ff cap all B0 B1).finish (.tuple #[])) cs) w:=by
 unfold liveB;have hk:(baseD 39).kind≠.early:=nofun;refine fin_at (dst:=some 16) rfl rfl ?_;refine norm (Kn:=Kn) (a':=⟨#[ptr r,ptr b,(.func (.func ff) #[] cap),ptr all,ptr B0,uu,uu,uu,ptr B1,ptr all,(stopV true true true .nilFunc),(.func (.func 60) #[] #[ptr B0,ptr B1]),ptr b,.tuple #[],(.func (.func ff) #[] cap),ptr b,.tuple #[],uu],[dlive B0 B1,d59 all]⟩) rfl ?_;refine hK.regionEnd ?_;refine hK.region ?_;refine hK.field (v:=(ptrAt B1 1)) (u:=(ptr B1)) hk rfl ⟨rfl,rfl,rfl,rfl,nofun⟩ rfl (fld77 (by omega)) ?_;refine norm (Kn:=Kn) (a':=⟨#[ptr r,ptr b,(.func (.func ff) #[] cap),ptr all,ptr B0,uu,uu,uu,ptr B1,ptr all,(stopV true true true .nilFunc),(.func (.func 60) #[] #[ptr B0,ptr B1]),ptr b,.tuple #[],(.func (.func ff) #[] cap),ptr b,.tuple #[],ptrAt B1 1],[dlive B0 B1,d59 all]⟩) rfl ?_;refine hK.store (u:=(ptrAt B1 1)) (z:=(.bool false)) hk rfl ⟨rfl,rfl,rfl,rfl,nofun⟩ rfl rfl (fun τ d=>((st4 (w:=re w τ d) (x:=.bool true) (hb.cell 1) (hb.frozen 1)).trans (congrArg (Result.ok ()) re_setCell))) (by rw[World.size_setCell];exact Nat.le_refl _) ?_;refine hK.regionEnd ?_;refine hK.end ?_;refine hK.callD (f:=60) (args:=#[ptr B0,ptr B1]) nofun nofun nofun (fun τ d=>(run_callf Try.func60 rfl rfl).trans (by simp)) ?_;exact h
theorem live_lost (hK:Det Try.prog m Kn){tm:Array Value}{todo:List Item}(h:Kn n (gs (Frame.enter Try.prog 60 #[ptr B0,ptr B1] .deferred) ({(baseD 39).at ⟨tm,[d59 all]⟩ todo with mode:=.panicking lostE}::cs)) w) :
  Kn (n+1) (gs { (baseD 39).at ⟨tm,[dlive B0 B1,d59 all]⟩ todo with mode:=.panicking lostE} cs) w :=
 hK.callD (f:=60) (args:=#[ptr B0,ptr B1]) nofun nofun nofun (fun τ d=>(run_callf Try.func60 rfl rfl).trans (by simp)) h
theorem enter60 {x0 x1:Value}:Frame.enter Try.prog 60 #[x0,x1] .deferred=(baseD 60).at ⟨#[x0,x1,uu,uu,uu,uu,uu,uu],[]⟩ [.code c60]:=enter_lit Try.func60 rfl rfl
def opsL1:Array Oper:=sO (sR c60)
def l1Fin (B0 B1 r k:Nat)(o p g:Bool)(v2:Value):Array Value:=#[ptr B0,ptr B1,v2,ptr r,ptr r,ptrAt r 2,.chan (some k),(stopV o p g .nilFunc)]
def live1At (B0 B1 r k:Nat)(o p g:Bool)(v2:Value):Frame:=(baseD 60).at ⟨l1Fin B0 B1 r k o p g v2,[]⟩ [.inRegion opsL1 [5]]
theorem l1_ok (h0:w.cell? ⟨B0,0,none⟩=some (ptr r))(hr:Cel w r [ba,sa,.chan (some k),ac,.bool false] 86)(hy:Cel w B1 [.bool o,.bool p,.bool g,.nilFunc] 72) :
  OrdOk Try.prog opsL1 (l1Fin B0 B1 r k o p g v2) [] (·==5) w:=by
 refine⟨fun i o ho hs=>?_,by decide +kernel,by decide +kernel⟩
 match i,ho,hs with
 | 0,ho,_ =>
  obtain rfl:=so' ho;exact⟨3,⟨rfl,rfl,rfl,rfl,nofun⟩,(show 3<8 by decide),fun a h τ δ=>ex_load (v:=(ptr r)) rfl (h _ m0') (ld78 h0)⟩
 | 1,ho,_ =>
  obtain rfl:=so' ho;exact⟨4,⟨rfl,rfl,rfl,rfl,nofun⟩,(show 4<8 by decide),fun a h τ δ=>ex_nilc rfl (h _ m0')⟩
 | 2,ho,_ =>
  obtain rfl:=so' ho;exact⟨5,⟨rfl,rfl,rfl,rfl,nofun⟩,(show 5<8 by decide),fun a h τ δ=>ex_field (v:=(ptrAt r 2)) rfl (h _ m0') (fld86 (by omega))⟩
 | 3,ho,_ =>
  obtain rfl:=so' ho;exact⟨6,⟨rfl,rfl,rfl,rfl,nofun⟩,(show 6<8 by decide),fun a h τ δ=>ex_load (v:=(.chan (some k))) rfl (h _ m0') (ld84 (hr.cell 2))⟩
 | 4,ho,_ =>
  obtain rfl:=so' ho;exact⟨7,⟨rfl,rfl,rfl,rfl,nofun⟩,(show 7<8 by decide),fun a h τ δ=>ex_load (v:=(stopV o p g .nilFunc)) rfl (h _ m0') (ld77 (hy.cell 0) (hy.cell 1) (hy.cell 2) (hy.cell 3))⟩
 | 5,_,hs=>cases hs
 | n+6,ho,_ =>
  have:=lt_of_op ho;exact absurd this (by show ¬ n+6<6;omega)
theorem live1_drawn (hK:Cl Try.prog m K)(h0:w.cell? ⟨B0,0,none⟩=some (ptr r))(hr:Cel w r [ba,sa,.chan (some k),ac,.bool false] 86)(hy:Cel w B1 [.bool o,.bool p,.bool g,.nilFunc] 72)(h:K (gs (live1At B0 B1 r k o p g v2) cs) w):K (gs ((baseD 60).at ⟨#[ptr B0,ptr B1,v2,uu,uu,uu,uu,uu],[]⟩ [.code (sR c60)]) cs) w:=by
 have hk:(baseD 60).kind≠.early:=nofun;have hD:=hK.det;refine hK.draw mixed fun t=>?_;have hI:=OInv.init (ops:=opsL1) (fin:=l1Fin B0 B1 r k o p g v2) (tm:=#[ptr B0,ptr B1,v2,uu,uu,uu,uu,uu]) [(3,(ptr r)),(4,(ptr r)),(5,(ptrAt r 2)),(6,(.chan (some k))),(7,(stopV o p g .nilFunc))] (by simp[l1Fin]) (show([3,4,5,6,7]:List Tmp).all (fun d=>opsL1.any fun o=>o.dst==some d)=true by decide +kernel);refine ord_walk (Kn:=fun _=>K) (n:=0) (s:=5) hD (fun _ _ _ h=>h) hk (l1_ok h0 hr hy) (by decide +kernel) (show 5<6 by decide) rfl (fun _=>False) (fun fuel t li tm j hJ _ hj hsp _ hle=>?_) _ t _ _ hI (fun _ h=>h.elim) (by decide +kernel) leftN_init;obtain rfl:j=5:=by simpa using hsp
 obtain⟨_,o8,ho8,hall⟩:=ready_mem hj;obtain rfl:=oj' (show some _=some o8 from ho8);have l3:=hall { on:=3,ground:=.data} (show _∈(#[{on:=3,ground:=.data},{on:=4,ground:=.data}]:Array Edge) from by simp) rfl;have l4:=hall { on:=4,ground:=.data} (show _∈(#[{on:=3,ground:=.data},{on:=4,ground:=.data}]:Array Edge) from by simp) rfl;have l2:=hJ.closed 3 _ l3 rfl { on:=2,ground:=.data} (show _∈(#[{on:=2,ground:=.data}]:Array Edge) from by simp) rfl;have l1:=hJ.closed 2 _ l2 rfl { on:=1,ground:=.data} (show _∈(#[{on:=1,ground:=.data}]:Array Edge) from by simp) rfl;have l0:=hJ.closed 1 _ l1 rfl { on:=0,ground:=.data} (show _∈(#[{on:=0,ground:=.data}]:Array Edge) from by simp) rfl;have hfull:∀ j,j<5→li.getD j false=true:=fun j hj=>by
  obtain rfl | rfl | rfl | rfl | rfl:j=0∨j=1∨j=2∨j=3∨j=4:=by omega
  all_goals assumption
 have htm:=hJ.full fun j oj hoj hd=>by
  by_cases e:j=5
  ·subst e;obtain rfl:=oj' (show some _=some oj from hoj);cases hd
  ·exact hfull j (by have h9:j<6:=lt_of_op hoj;omega)
 subst htm;have hli:∀ j,j<opsL1.size→(li.setIfInBounds 5 true).getD j false=true:=fun j hj=>by
  have h9:j<6:=hj;by_cases e:j=5
  ·subst e;have hs:li.size=6:=hJ.lsize;simp[gd',hs]
  ·exact listed_up (hfull j (by omega))
 rw[ready_nil (by simpa using hJ.lsize) hli];exact h
theorem live1_ret (hK:Cl Try.prog m K){cl:Frame}(hc:cl.mode=.returning)(h0:w.cell? ⟨B0,0,none⟩=some (ptr r))(hr:Cel w r [ba,sa,.chan (some k),ac,.bool false] 86)(hy:Cel w B1 [.bool o,.bool p,.bool g,.nilFunc] 72)(h:K (gs (live1At B0 B1 r k o p g .nilIface) (cl::cs)) w):K (gs (Frame.enter Try.prog 60 #[ptr B0,ptr B1] .deferred) (cl::cs)) w:=by
 have hk:(baseD 60).kind≠.early:=nofun;have hD:=hK.det;rw[enter60];refine hD.s0 ?_;refine hD.r0 ?_;refine hD.recover0 (n:=0) rfl rfl rfl rfl (by decide +kernel) nofun (fun τ d=>x_recover rfl) hc ?_;refine norm0 (a':=⟨#[ptr B0,ptr B1,.nilIface,uu,uu,uu,uu,uu],[]⟩) ?_;refine hD.e0 ?_;exact live1_drawn hK h0 hr hy h
theorem live1_lost (hK:Cl Try.prog m K){cl:Frame}(hc:cl.mode=.panicking lostE)(h0:w.cell? ⟨B0,0,none⟩=some (ptr r))(hr:Cel w r [ba,sa,.chan (some k),ac,.bool false] 86)(hy:Cel w B1 [.bool o,.bool p,.bool g,.nilFunc] 72)(h:K (gs (live1At B0 B1 r k o p g (.iface 81 (.agg #[]))) ({cl with mode:=.panicking [{v:=.iface 81 (.agg #[]),recovered:=true}]}::cs)) w):K (gs (Frame.enter Try.prog 60 #[ptr B0,ptr B1] .deferred) (cl::cs)) w:=by
 have hk:(baseD 60).kind≠.early:=nofun;have hD:=hK.det;rw[enter60];refine hD.s0 ?_;refine hD.r0 ?_;refine hD.recover1 (n:=0) rfl rfl rfl rfl (by decide +kernel) nofun (fun τ d=>x_recover rfl) hc ?_;refine norm0 (a':=⟨#[ptr B0,ptr B1,(.iface 81 (.agg #[])),uu,uu,uu,uu,uu],[]⟩) ?_;refine hD.e0 ?_;exact live1_drawn hK h0 hr hy h
end Go.Proofs.Ytfbjopkiicmiiaa.Lift
namespace Go.Proofs.Ytfbjopkiicmiiaa.Lift
open Go Go.Conc Go.RowKit Pl
theorem rep_re {α:Type}{e:TypeId}{m:Nat}{f:α→List Value}{w:World}{v:Value}{xs:List α}{τ:Nat→Question→Nat}{d:Nat}(h:Rep e m f w v xs):Rep e m f (re w τ d) v xs:=h
theorem cell_one_new (w:World)(v:Value)(t:TypeId):∀ (j:Nat) (u:Value),([v]:List Value)[j]?=some u→(w.alloc (.cells #[v] t)).cell? ((⟨w.heap.size,0,none⟩:Addr).add j)=some u:=by
 intro j u h;cases j with
 | zero =>
  simp at h;subst h;exact(Blk.new w [v] t).cell 0
 | succ j=>simp at h
theorem info5:(Try.prog.info? 5).map (fun i=>(i.zero,i.size,i.bytes))=some (some (.int .u8 0),1,1):=by kernel_rfl
structure Kp (F:List Nat)(w w':World):Prop where
 size:w.heap.size≤w'.heap.size
 block:∀ b,b<w.heap.size→b∉F→w'.heap[b]?=w.heap[b]?
theorem Keeps.kp {F:List Nat}{w w':World}(h:Keeps F w w'):Kp F w w':=⟨h.size,h.block⟩
abbrev RepU (w:World)(v:Value)(xs:List Nat):Prop:=Rep 5 1 (fun x:Nat=>[Value.int .u8 x]) w v xs
abbrev actTm (r j:Nat)(acts:List Nat)(ga:Option Addr)(ca nb g cap:Nat):Array Value:=#[ptr r,.int .i64 j,uu,uu,ptr r,ptr r,ptr r,ptrAt r 3,.slice ga acts.length ca,.int .i64 j,.int .u8 j,.slice (some ⟨nb,0,none⟩) 1 1,.slice (some ⟨g,0,none⟩) (acts.length+1) cap,ptr r,ptrAt r 3,uu,uu,uu,uu,uu,uu,uu,uu,uu,uu,uu,uu,uu,uu,uu,uu,uu,uu,uu,uu,uu,uu]
theorem act0_wp (w:World)(r j ca:Nat)(ga:Option Addr)(ba sa bk:Value)(acts:List Nat)(hr:Blk w r [ba,sa,bk,.slice ga acts.length ca,.bool false] 86)(ha:RepU w (.slice ga acts.length ca) acts)(hd:r∉fp (.slice ga acts.length ca))(hn:acts.length<1099511627776)(hj:j<8)
 {Q:Array Value→World→Prop} (hQ:∀ nb g cap w',RepU w' (.slice (some ⟨g,0,none⟩) (acts.length+1) cap) (acts++[j])→Blk w' r [ba,sa,bk,.slice (some ⟨g,0,none⟩) (acts.length+1) cap,.bool false] 86→Kp (r::fp (.slice ga acts.length ca)) w w' →
   (g∈fp (.slice ga acts.length ca)∨w.heap.size≤g)→Q (actTm r j acts ga ca nb g cap) w') :
 (sL c40).wp Try.prog (fun e a' w'=>e=.normal∧a'.defers=[]∧Q a'.tmps w') ⟨#[ptr r,.int .i64 j,uu,uu,uu,uu,uu,uu,uu,uu,uu,uu,uu,uu,uu,uu,uu,uu,uu,uu,uu,uu,uu,uu,uu,uu,uu,uu,uu,uu,uu,uu,uu,uu,uu,uu,uu],[]⟩ w:=by
 simp only[c40,Try.f42,Option.getD_some,sL];have h3:w.cell? ⟨r,3,none⟩=some (.slice ga acts.length ca):=hr.cell 3;have HA:=Lib.hid (fun(W:World) (k:Keeps [] w W)=>ha.keeps k (by simp));have HR:=Lib.hid hr;have HD:=Lib.hid hd;have HQ:=Lib.hid hQ;have hlt:r<w.heap.size:=HR.out.lt;clear hr ha hd hQ
 go_wp2_with (refine wpList_rep_append rfl (.tmp 8) (.tmp 11) 56 rfl (.int .u8 0) 1 Try.underlying56 info5 rfl (by decide) (.slice ga acts.length ca) acts rfl (HA.out _ ((Keeps.refl _ _).alloc _)) (fun _=>rfl) ⟨w.heap.size,0,none⟩ 1 1 [j] rfl rfl (cell_one_new _ _ _) (by simp[Value.oneCell']) (by decide) (by unfold maxLen;omega) (by omega) ?_;intro g2 cap2 w2 r2 k2 a2 lg q2;have c2:=(k2.blk (HR.out.alloc _) HD.out).cell 3;have f2:=(k2.blk (HR.out.alloc _) HD.out).frozen 3;have R2:=Lib.hid r2;have K2:=Lib.hid k2;have A2:=Lib.hid a2;clear r2 k2 a2)
 have hg:g2≠r:=fun e=>by
  rcases A2.out with q | q
  ·exact HD.out (e▸q)
  ·rw[wz'] at q;omega
 have kr:Keeps [r] w2 (w2.setCell ⟨r,3,none⟩ (.slice (some ⟨g2,0,none⟩) (acts.length+1) cap2)):=Keeps.setCell (Keeps.refl _ _) _ _ (fun _=>by simp);refine HQ.out w.heap.size g2 cap2 _ (R2.out.keeps kr (by intro b hb;simp[fp,Value.ownBlock] at hb ⊢;omega)) (((K2.out.blk (HR.out.alloc _) HD.out).set 3 _).of rfl) ?_ ?_
 ·have k1:=Keeps.kp K2.out
  have k2:=Keeps.kp kr;refine⟨by have:=k1.size;have:=k2.size;rw[wz'] at *;omega,fun b hb hn=>?_⟩;simp only[List.mem_cons,not_or] at hn;rw[k2.block b (by have:=k1.size;rw[wz'] at *;omega) (by simpa using hn.1),k1.block b (by rw[wz'];omega) hn.2];exact Below.heap_alloc w _ b hb
 ·exact A2.out.imp id fun q=>by rw[q,wz'];omega
end Go.Proofs.Ytfbjopkiicmiiaa.Lift
namespace Go.Proofs.Ytfbjopkiicmiiaa.Lift
open Go Go.Conc
variable {m:Bool}{Kn:Nat→Goroutine→World→Prop}{K:Goroutine→World→Prop}{n:Nat}{w:World}{cs:List Frame}{b c r j k gb nb cb gs' ns cs' ca nb' g cap:Nat}{ac:Value}{acts:List Nat}{ga:Option Addr}
theorem enter40 {x0 x1:Value}:Frame.enter Try.prog 42 #[x0,x1] .normal=(base 42).at ⟨#[x0,x1,uu,uu,uu,uu,uu,uu,uu,uu,uu,uu,uu,uu,uu,uu,uu,uu,uu,uu,uu,uu,uu,uu,uu,uu,uu,uu,uu,uu,uu,uu,uu,uu,uu,uu,uu],[]⟩ [.code c40]:=enter_lit Try.func42 rfl rfl
def act0Q (r j:Nat)(acts:List Nat)(ga:Option Addr)(ca:Nat)(ba sa bk:Value)(w:World)(t:Array Value)(w':World):Prop :=
 ∃ nb g cap,t=actTm r j acts ga ca nb g cap∧RepU w' (.slice (some ⟨g,0,none⟩) (acts.length+1) cap) (acts++[j])∧Pl.Blk w' r [ba,sa,bk,.slice (some ⟨g,0,none⟩) (acts.length+1) cap,.bool false] 86∧Kp (r::Pl.fp (.slice ga acts.length ca)) w w'∧(g∈Pl.fp (.slice ga acts.length ca)∨w.heap.size≤g)
theorem act_begin (hK:Cl Try.prog m K){ba sa bk:Value}(hr:Pl.Blk w r [ba,sa,bk,.slice ga acts.length ca,.bool false] 86)(ha:RepU w (.slice ga acts.length ca) acts)(hd:r∉Pl.fp (.slice ga acts.length ca))(hn:acts.length<1099511627776)(hj:j<8)
  (h:∀ t w',act0Q r j acts ga ca ba sa bk w t w'→K (gs ((base 42).at ⟨t,[]⟩ [.code (sR c40)]) cs) w') :
  K (gs (Frame.enter Try.prog 42 #[ptr r,.int .i64 j] .normal) cs) w:=by
 rw[enter40];have hD:=hK.det;have hk:(base 42).kind≠.early:=nofun;refine hD.s0 ?_;refine hK.seg fits shut (b:=base 42) ⟨_,Try.func42⟩ hk (c:=sL c40) (by decide +kernel) (Q:=act0Q r j acts ga ca ba sa bk w)
  (fun t w' τ d ⟨nb,g,cap,h1,h2,h3,h4,h5⟩=>⟨nb,g,cap,h1,h2,h3,⟨h4.size,h4.block⟩,h5⟩)
  (fun τ d=>act0_wp (re w τ d) r j ca ga ba sa bk acts hr ha hd hn hj (Q:=act0Q r j acts ga ca ba sa bk w) fun nb g cap w' h2 h3 h4 h5=>⟨nb,g,cap,rfl,h2,h3,⟨h4.size,h4.block⟩,h5⟩) ?_
 exact h
theorem pu_build89 {a:Act}{o:Oper}{w:World}(h:o.op=.build 80 #[]):(execOp a.eval o).run Try.prog w=.ok (.value (.agg #[])) w:=by
 unfold execOp;rw[h];exact run_vv (by simp[go_sem,Try.underlying80,Try.runUnderlying80,Try.sizeOf80,Try.zeroValue80])
abbrev act1Tm (r j:Nat)(acts:List Nat)(ga:Option Addr)(ca nb' g cap gb nb cb b c:Nat):Array Value:=#[ptr r,.int .i64 j,uu,uu,ptr r,ptr r,ptr r,ptrAt r 3,.slice ga acts.length ca,.int .i64 j,.int .u8 j,.slice (some ⟨nb',0,none⟩) 1 1,.slice (some ⟨g,0,none⟩) (acts.length+1) cap,ptr r,ptrAt r 3,ptr r,ptr r,ptrAt r 0,.slice (some ⟨gb,0,none⟩) nb cb,.int .i64 j,ptrAt gb j,ptr b,ptr b,ptrAt b 2,.chan (some c),.agg #[],uu,uu,uu,uu,uu,uu,uu,uu,uu,uu,uu]
def act1At (r j:Nat)(acts:List Nat)(ga:Option Addr)(ca nb' g cap gb nb cb b c:Nat):Frame:=(base 42).at ⟨act1Tm r j acts ga ca nb' g cap gb nb cb b c,[]⟩ [.inRegion (sO (sL (sR c40))) [11],.code (sR (sR c40))]
theorem act_send (hK:Det Try.prog m Kn){sa bk:Value}(hr:Cel w r [.slice (some ⟨gb,0,none⟩) nb cb,sa,bk,ac,.bool false] 86)(hj:j<nb)(hb:w.cell? ⟨gb,j,none⟩=some (ptr b))(hc:w.cell? ⟨b,2,none⟩=some (.chan (some c)))(h:Kn n (gs (act1At r j acts ga ca nb' g cap gb nb cb b c) cs) w):Kn (n+13) (gs ((base 42).at ⟨actTm r j acts ga ca nb' g cap,[]⟩ [.code (sR c40)]) cs) w:=by
 have hk:(base 42).kind≠.early:=nofun;refine hK.seq ?_;refine hK.region ?_;refine hK.move (v:=(ptr r)) hk rfl ⟨rfl,rfl,rfl,rfl,nofun⟩ rfl ?_;refine hK.nilc hk rfl ⟨rfl,rfl,rfl,rfl,nofun⟩ (show _=(ptr r) from rfl) ?_;refine hK.field (v:=(ptrAt r 0)) (u:=(ptr r)) hk rfl ⟨rfl,rfl,rfl,rfl,nofun⟩ rfl (fld86 (by omega)) ?_;refine hK.load (v:=(.slice (some ⟨gb,0,none⟩) nb cb)) (u:=(ptrAt r 0)) hk rfl ⟨rfl,rfl,rfl,rfl,nofun⟩ rfl (fun τ d=>ld82 (hr.cell 0)) ?_;refine norm (Kn:=Kn) (a':=⟨#[ptr r,.int .i64 j,uu,uu,ptr r,ptr r,ptr r,ptrAt r 3,.slice ga acts.length ca,.int .i64 j,.int .u8 j,.slice (some ⟨nb',0,none⟩) 1 1,.slice (some ⟨g,0,none⟩) (acts.length+1) cap,ptr r,ptrAt r 3,ptr r,ptr r,ptrAt r 0,.slice (some ⟨gb,0,none⟩) nb cb,uu,uu,uu,uu,uu,uu,uu,uu,uu,uu,uu,uu,uu,uu,uu,uu,uu,uu],[]⟩) rfl ?_;refine hK.move (v:=(.int .i64 j)) hk rfl ⟨rfl,rfl,rfl,rfl,nofun⟩ rfl ?_;refine hK.index (v:=(ptrAt gb j)) hk rfl ⟨rfl,rfl,rfl,rfl,nofun⟩ rfl rfl (ix82 hj) ?_;refine hK.load (v:=(ptr b)) (u:=(ptrAt gb j)) hk rfl ⟨rfl,rfl,rfl,rfl,nofun⟩ rfl (fun τ d=>ld60 hb) ?_;refine hK.nilc hk rfl ⟨rfl,rfl,rfl,rfl,nofun⟩ (show _=(ptr b) from rfl) ?_;refine norm (Kn:=Kn) (a':=⟨#[ptr r,.int .i64 j,uu,uu,ptr r,ptr r,ptr r,ptrAt r 3,.slice ga acts.length ca,.int .i64 j,.int .u8 j,.slice (some ⟨nb',0,none⟩) 1 1,.slice (some ⟨g,0,none⟩) (acts.length+1) cap,ptr r,ptrAt r 3,ptr r,ptr r,ptrAt r 0,.slice (some ⟨gb,0,none⟩) nb cb,.int .i64 j,ptrAt gb j,ptr b,ptr b,uu,uu,uu,uu,uu,uu,uu,uu,uu,uu,uu,uu,uu,uu],[]⟩) rfl ?_;refine hK.field (v:=(ptrAt b 2)) (u:=(ptr b)) hk rfl ⟨rfl,rfl,rfl,rfl,nofun⟩ rfl (fld81 (by omega)) ?_;refine hK.load (v:=(.chan (some c))) (u:=(ptrAt b 2)) hk rfl ⟨rfl,rfl,rfl,rfl,nofun⟩ rfl (fun τ d=>ld79 hc) ?_;refine hK.pure (v:=(.agg #[])) hk rfl ⟨rfl,rfl,rfl,(by decide +kernel),nofun⟩ (fun w=>pu_build89 rfl) ?_;refine norm (Kn:=Kn) (a':=⟨#[ptr r,.int .i64 j,uu,uu,ptr r,ptr r,ptr r,ptrAt r 3,.slice ga acts.length ca,.int .i64 j,.int .u8 j,.slice (some ⟨nb',0,none⟩) 1 1,.slice (some ⟨g,0,none⟩) (acts.length+1) cap,ptr r,ptrAt r 3,ptr r,ptr r,ptrAt r 0,.slice (some ⟨gb,0,none⟩) nb cb,.int .i64 j,ptrAt gb j,ptr b,ptr b,ptrAt b 2,.chan (some c),.agg #[],uu,uu,uu,uu,uu,uu,uu,uu,uu,uu,uu],[]⟩) rfl ?_;exact h
def a2:Array Oper:=sO (sR (sR c40))
def a2Fin (r j:Nat)(acts:List Nat)(ga:Option Addr)(ca nb' g cap gb nb cb b c gs' ns cs' k:Nat)(V:Value):Array Value:=#[ptr r,.int .i64 j,uu,uu,ptr r,ptr r,ptr r,ptrAt r 3,.slice ga acts.length ca,.int .i64 j,.int .u8 j,.slice (some ⟨nb',0,none⟩) 1 1,.slice (some ⟨g,0,none⟩) (acts.length+1) cap,ptr r,ptrAt r 3,ptr r,ptr r,ptrAt r 0,.slice (some ⟨gb,0,none⟩) nb cb,.int .i64 j,ptrAt gb j,ptr b,ptr b,ptrAt b 2,.chan (some c),.agg #[],ptr r,ptr r,ptrAt r 1,.slice (some ⟨gs',0,none⟩) ns cs',.int .i64 j,ptr r,ptr r,ptrAt r 2,.chan (some k),V,ptrAt gs' (j*4)]
theorem a2_ok {bk:Value}{V:Value}(hr:Cel w r [bk,.slice (some ⟨gs',0,none⟩) ns cs',.chan (some k),ac,.bool false] 86)(hj:j<ns):OrdOk Try.prog a2 (a2Fin r j acts ga ca nb' g cap gb nb cb b c gs' ns cs' k V) [] (fun i=>i==9||i==11) w:=by
 refine⟨fun i o ho hs=>?_,by decide +kernel,by decide +kernel⟩
 match i,ho,hs with
 | 0,ho,_ =>
  obtain rfl:=so' ho;exact⟨26,⟨rfl,rfl,rfl,rfl,nofun⟩,(show 26<37 by decide),fun a h τ δ=>ex_move rfl (h _ m0')⟩
 | 1,ho,_ =>
  obtain rfl:=so' ho;exact⟨27,⟨rfl,rfl,rfl,rfl,nofun⟩,(show 27<37 by decide),fun a h τ δ=>ex_nilc rfl (h _ m0')⟩
 | 2,ho,_ =>
  obtain rfl:=so' ho;exact⟨28,⟨rfl,rfl,rfl,rfl,nofun⟩,(show 28<37 by decide),fun a h τ δ=>ex_field (v:=(ptrAt r 1)) rfl (h _ m0') (fld86 (by omega))⟩
 | 3,ho,_ =>
  obtain rfl:=so' ho;exact⟨29,⟨rfl,rfl,rfl,rfl,nofun⟩,(show 29<37 by decide),fun a h τ δ=>ex_load (v:=(.slice (some ⟨gs',0,none⟩) ns cs')) rfl (h _ m0') (ld83 (hr.cell 1))⟩
 | 4,ho,_ =>
  obtain rfl:=so' ho;exact⟨30,⟨rfl,rfl,rfl,rfl,nofun⟩,(show 30<37 by decide),fun a h τ δ=>ex_move rfl (h _ m0')⟩
 | 5,ho,_ =>
  obtain rfl:=so' ho;exact⟨31,⟨rfl,rfl,rfl,rfl,nofun⟩,(show 31<37 by decide),fun a h τ δ=>ex_move rfl (h _ m0')⟩
 | 6,ho,_ =>
  obtain rfl:=so' ho;exact⟨32,⟨rfl,rfl,rfl,rfl,nofun⟩,(show 32<37 by decide),fun a h τ δ=>ex_nilc rfl (h _ m0')⟩
 | 7,ho,_ =>
  obtain rfl:=so' ho;exact⟨33,⟨rfl,rfl,rfl,rfl,nofun⟩,(show 33<37 by decide),fun a h τ δ=>ex_field (v:=(ptrAt r 2)) rfl (h _ m0') (fld86 (by omega))⟩
 | 8,ho,_ =>
  obtain rfl:=so' ho;exact⟨34,⟨rfl,rfl,rfl,rfl,nofun⟩,(show 34<37 by decide),fun a h τ δ=>ex_load (v:=(.chan (some k))) rfl (h _ m0') (ld84 (hr.cell 2))⟩
 | 9,_,hs=>cases hs
 | 10,ho,_ =>
  obtain rfl:=so' ho;exact⟨36,⟨rfl,rfl,rfl,rfl,nofun⟩,(show 36<37 by decide),fun a h τ δ=>ex_index (v:=(ptrAt gs' (j*4))) rfl (h _ m0') (h _ m1') (ix83 hj)⟩
 | 11,_,hs=>cases hs
 | n+12,ho,_ =>
  have:=lt_of_op ho;exact absurd this (by show ¬ n+12<12;omega)
def act2At (r j:Nat)(acts:List Nat)(ga:Option Addr)(ca nb' g cap gb nb cb b c gs' ns cs' k:Nat)(cs:List Frame)(G:Goroutine):Prop:=∃ fuel t li tm,OInv a2 (a2Fin r j acts ga ca nb' g cap gb nb cb b c gs' ns cs' k undef) li tm∧9∈Region.ready .any a2 li∧li.getD 11 true=false∧leftN a2 (li.setIfInBounds 9 true)≤fuel ∧
 G=gs ((base 42).at ⟨tm,[]⟩ [.inRegion a2 (9::Region.linearise.go .any a2 fuel t (li.setIfInBounds 9 true) [])]) cs
theorem act_walk {s:SeatS}(hA:Blind s.At){bk:Value}(hs:w.heap.size≤s.hi)(hr:Cel w r [bk,.slice (some ⟨gs',0,none⟩) ns cs',.chan (some k),ac,.bool false] 86)(hj:j<ns)
  (h:∀ G,act2At r j acts ga ca nb' g cap gb nb cb b c gs' ns cs' k cs G→KW Try.prog m s n G w):∃ N,KW Try.prog m s N (Conc.served (gs (act1At r j acts ga ca nb' g cap gb nb cb b c) cs) undef) w:=by
 have hk:(base 42).kind≠.early:=nofun;have hD:=det_walk (P:=Try.prog) (m:=m) hA;refine⟨n+12+1+1,?_⟩;show KW Try.prog m s (n+12+1+1) (gs ((base 42).at ⟨#[ptr r,.int .i64 j,uu,uu,ptr r,ptr r,ptr r,ptrAt r 3,.slice ga acts.length ca,.int .i64 j,.int .u8 j,.slice (some ⟨nb',0,none⟩) 1 1,.slice (some ⟨g,0,none⟩) (acts.length+1) cap,ptr r,ptrAt r 3,ptr r,ptr r,ptrAt r 0,.slice (some ⟨gb,0,none⟩) nb cb,.int .i64 j,ptrAt gb j,ptr b,ptr b,ptrAt b 2,.chan (some c),.agg #[],uu,uu,uu,uu,uu,uu,uu,uu,uu,uu,uu],[]⟩ [.inRegion (sO (sL (sR c40))) [],.code (sR (sR c40))]) cs) w;refine hD.regionEnd ?_;refine walk_draw hA mixed fun t=>?_;have hI:=OInv.init (ops:=a2) (fin:=a2Fin r j acts ga ca nb' g cap gb nb cb b c gs' ns cs' k undef) (tm:=#[ptr r,.int .i64 j,uu,uu,ptr r,ptr r,ptr r,ptrAt r 3,.slice ga acts.length ca,.int .i64 j,.int .u8 j,.slice (some ⟨nb',0,none⟩) 1 1,.slice (some ⟨g,0,none⟩) (acts.length+1) cap,ptr r,ptrAt r 3,ptr r,ptr r,ptrAt r 0,.slice (some ⟨gb,0,none⟩) nb cb,.int .i64 j,ptrAt gb j,ptr b,ptr b,ptrAt b 2,.chan (some c),.agg #[],uu,uu,uu,uu,uu,uu,uu,uu,uu,uu,uu]) [(26,(ptr r)),(27,(ptr r)),(28,(ptrAt r 1)),(29,(.slice (some ⟨gs',0,none⟩) ns cs')),(30,(.int .i64 j)),(31,(ptr r)),(32,(ptr r)),(33,(ptrAt r 2)),(34,(.chan (some k))),(36,(ptrAt gs' (j*4)))] (by simp[a2Fin]) (show([26,27,28,29,30,31,32,33,34,36]:List Tmp).all (fun d=>a2.any fun o=>o.dst==some d)=true by decide +kernel);refine ord_walk (Kn:=KW Try.prog m s) (n:=n) (s:=9) hD walk_mono hk (a2_ok hr hj) (by decide +kernel) (show 9<12 by decide) rfl (fun _=>False) (fun fuel t li tm i hJ _ hi hsp h9 hle=>?_) 12 t _ _ hI (fun _ h=>h.elim) (by decide +kernel) (by decide +kernel);have hi9:i=9:=by
  rcases (by simpa using hsp:i=9∨i=11) with e | e
  ·exact e
  ·subst e
   obtain⟨_,o,ho,hall⟩:=ready_mem hi;obtain rfl:=so' ho;have:=hall { on:=9,ground:=.data} (by simp[a2,sO,sR,c40,Try.f42]) rfl;rw[h9] at this;cases this
 subst hi9;refine h _ ⟨fuel,t,li,tm,hJ,hi,?_,hle,rfl⟩;apply Classical.byContradiction;intro hne;have hs11:li.size=12:=hJ.lsize;have h11:li.getD 11 false=true:=by
  simp only[gd'] at hne ⊢;rw[as' (by omega)] at hne ⊢;simpa using hne
 have h99:=hJ.closed 11 _ h11 rfl { on:=9,ground:=.data} (by simp[a2,sO,sR,c40,Try.f42]) rfl;simp only[gd'] at h9 h99;rw[as' (by omega)] at h9 h99;simp only[Option.getD_some] at h9 h99;rw[h9] at h99;cases h99
theorem listed_set9 {li:Array Bool}(h:li.size=12):(li.setIfInBounds 9 true).getD 9 false=true:=by simp[gd',h]
theorem act_recv (hK:Det Try.prog m fun _=>K){cl:Frame}{cells:List Value}{t:TypeId}{o p q:Bool}{f bk:Value}{G:Goroutine}(hG:act2At r j acts ga ca nb' g cap gb nb cb b c gs' ns cs' k (cl::cs) G)(hcm:cl.mode=.run)
  (hr:Cel w r [bk,.slice (some ⟨gs',0,none⟩) ns cs',.chan (some k),ac,.bool false] 86) (hj:j<ns) (hS:Pl.Blk w gs' cells t) (hl:j*4+3<cells.length) (hf:isFn f)
  (h:K (gs (cl.finish (.tuple #[])) cs) (set4 w gs' (j*4) (.bool o) (.bool p) (.bool q) f)):K (Conc.served G (stopV o p q f)) w:=by
 have hk:(base 42).kind≠.early:=nofun;obtain⟨fuel,t',li,tm,hJ,h9,h11,hle,rfl⟩:=hG;obtain⟨o9,ho9⟩:∃ o9,a2[9]?=some o9:=⟨_,rfl⟩;have hd9:o9.dst=some 35:=by obtain rfl:=oj' (show some _=some o9 from ho9);rfl
 refine fin_at (Kn:=fun _=>K) (n:=0) (dst:=some 35) ho9 hd9 ?_;have hJ2:=hJ.putv (v:=stopV o p q f) (by decide +kernel) ho9 hd9 (show(35:Nat)<37 by decide) h9;have hfin:(a2Fin r j acts ga ca nb' g cap gb nb cb b c gs' ns cs' k undef).setIfInBounds 35 (stopV o p q f)=a2Fin r j acts ga ca nb' g cap gb nb cb b c gs' ns cs' k (stopV o p q f):=by simp[a2Fin]
 rw[hfin] at hJ2;have h11':(li.setIfInBounds 9 true).getD 11 false=false:=by
  have hs11:li.size=12:=hJ.lsize;simp only[gd',ar' (show 9≠11 by decide)] at h11 ⊢;rw[as' (by omega)] at h11 ⊢;simpa using h11
 refine ord_walk (Kn:=fun _=>K) (n:=0) (s:=11) hK (fun _ _ _ h=>h) hk (a2_ok (V:=stopV o p q f) hr hj) (by decide +kernel) (show 11<12 by decide) rfl (·=9) (fun fuel t li2 tm i hI h0 hi hsp hu hle=>?_) fuel t' _ _ hJ2 (fun _ e=>e▸listed_set9 hJ.lsize) h11' hle;have hi11:i=11∨i=9:=by
  rcases (by simpa using hsp:i=9∨i=11) with e | e
  ·exact .inr e
  ·exact .inl e
 rcases hi11 with rfl | rfl
 ·obtain⟨_,o11,ho11,hall⟩:=ready_mem hi
  obtain rfl:=oj' (show some _=some o11 from ho11);have hfull:∀ x,x<11→li2.getD x false=true:=fun x hx=>by
   obtain rfl | rfl | rfl | rfl | rfl | rfl | rfl | rfl | rfl | rfl | rfl:x=0∨x=1∨x=2∨x=3∨x=4∨x=5∨x=6∨x=7∨x=8∨x=9∨x=10:=by omega
   ·exact hall { on:=0,ground:=.phase} (by simp[a2,sO,sR,c40,Try.f42]) rfl
   ·exact hall { on:=1,ground:=.phase} (by simp[a2,sO,sR,c40,Try.f42]) rfl
   ·exact hall { on:=2,ground:=.phase} (by simp[a2,sO,sR,c40,Try.f42]) rfl
   ·exact hall { on:=3,ground:=.phase} (by simp[a2,sO,sR,c40,Try.f42]) rfl
   ·exact hall { on:=4,ground:=.phase} (by simp[a2,sO,sR,c40,Try.f42]) rfl
   ·exact hall { on:=5,ground:=.phase} (by simp[a2,sO,sR,c40,Try.f42]) rfl
   ·exact hall { on:=6,ground:=.phase} (by simp[a2,sO,sR,c40,Try.f42]) rfl
   ·exact hall { on:=7,ground:=.phase} (by simp[a2,sO,sR,c40,Try.f42]) rfl
   ·exact hall { on:=8,ground:=.phase} (by simp[a2,sO,sR,c40,Try.f42]) rfl
   ·exact hall { on:=9,ground:=.phase} (by simp[a2,sO,sR,c40,Try.f42]) rfl
   ·exact hall { on:=10,ground:=.data} (by simp[a2,sO,sR,c40,Try.f42]) rfl
  have htm:=hI.full fun x ox hox hd=>by
   by_cases e:x=11
   ·subst e;obtain rfl:=oj' (show some _=some ox from hox);cases hd
   ·exact hfull x (by have h9:x<12:=lt_of_op hox;omega)
  subst htm;have hli:∀ x,x<a2.size→(li2.setIfInBounds 11 true).getD x false=true:=fun x hx=>by
   have h9:x<12:=hx;by_cases e:x=11
   ·subst e;have hs:li2.size=12:=hI.lsize;simp[gd',hs]
   ·exact listed_up (hfull x (by omega))
  rw[ready_nil (by simpa using hI.lsize) hli];refine hK.store (n:=0) (u:=ptrAt gs' (j*4)) (z:=stopV o p q f) hk rfl ⟨rfl,rfl,rfl,rfl,nofun⟩ rfl rfl (fun τ d=>((st77 (w:=re w τ d) (i:=j*4) hS hl hf).trans (congrArg (Result.ok ()) re_set4))) (by unfold set4;rw[World.size_setCell,World.size_setCell,World.size_setCell,World.size_setCell];exact Nat.le_refl _) ?_;refine hK.e0 ?_;refine hK.end (n:=0) ?_;refine hK.leave (n:=0) (v:=.tuple #[]) rfl rfl Try.func42 (fun τ d=>res0 rfl) hcm ?_;exact h
 ·have h1:=h0 9 rfl
  obtain⟨h2,_⟩:=ready_mem hi;have hs:li2.size=12:=hI.lsize;simp only[gd'] at h1 h2;rw[as' (by omega)] at h1 h2;simp only[Option.getD_some] at h1 h2;rw[h2] at h1;cases h1
end Go.Proofs.Ytfbjopkiicmiiaa.Lift
namespace Go.Proofs.Ytfbjopkiicmiiaa.Lift
open Go Go.Conc
variable {m:Bool}{K:Goroutine→World→Prop}{w:World}{cs:List Frame}{r j gs' ns cs':Nat}{ba bk ac rv:Value}{o p q:Bool}{cl:Frame}{cells:List Value}{t:TypeId}{f:FuncId}{fn:Func}{cd:Code}{bd cap:Array Value}{bv:Bool}
theorem Kp.refl (F:List Nat)(w:World):Kp F w w:=⟨Nat.le_refl _,fun _ _ _=>rfl⟩
theorem Kp.trans {F:List Nat}{a b c:World}(h:Kp F a b)(k:Kp F b c):Kp F a c:=⟨Nat.le_trans h.size k.size,fun x hx hn=>(k.block x (nl' hx h.size) hn).trans (h.block x hx hn)⟩
theorem Kp.alloc (F:List Nat)(w:World)(ob:Obj):Kp F w (w.alloc ob):=⟨by rw[wz'];omega,fun x hx _=>Go.RowKit.Below.heap_alloc w ob x hx⟩
theorem Kp.setNew {F:List Nat}{a w:World}(h:Kp F a w){b i:Nat}{v:Value}(hb:a.heap.size≤b):Kp F a (w.setCell ⟨b,i,none⟩ v) :=
 ⟨by rw[World.size_setCell];exact h.size,fun x hx hn=>((Keeps.kp (Pl.Keeps.setCell (F:=[b]) (Pl.Keeps.refl _ w) ⟨b,i,none⟩ v (fun _=>by simp))).block x (nl' hx h.size) (by simp;omega)).trans (h.block x hx hn)⟩
theorem Kp.cel {F:List Nat}{w w':World}(h:Kp F w w'){b:Nat}{cs:List Value}{t:TypeId}(hb:Cel w b cs t)(hn:b∉F):Cel w' b cs t:=hb.same (h.block b hb.lt hn)
theorem Kp.blk {F:List Nat}{w w':World}(h:Kp F w w'){b:Nat}{cs:List Value}{t:TypeId}(hb:Pl.Blk w b cs t)(hn:b∉F):Pl.Blk w' b cs t:=(h.block b (Pl.Blk.lt hb) hn).trans hb
def Asks (K:Goroutine→World→Prop)(w:World)(f:FuncId)(args:Array Value)(bv:Bool):Prop:=∀ c cs w1,c.mode=.run→Kp [] w w1→(∀ w2,Kp [] w1 w2→K (gs (c.finish (.bool bv)) cs) w2)→K (gs (Frame.enter Try.prog f args .normal) (c::cs)) w1
theorem x_callb {P:Program}{a:Act}{o:Oper}{w:World}{x:Operand}{fn:Func}{c:Code}{bd cap args:Array Value}{ar:Array Operand}{ats:Array TypeId}(hop:o.op=.call { callee:=.value x,args:=ar,argTypes:=ats})(hx:a.eval x=.func (.func f) bd cap)(hf:P.funcs[f]?=some fn)(hn:(fn.name == "runtime.NumGoroutine")=false)(hb:fn.body=some c)(ha:bd.toList++ar.toList.map a.eval++cap.toList=args.toList) :
  (execOp a.eval o).run P w=.ok (.enter f args) w:=by
 have h1:¬ fn.name = "runtime.NumGoroutine" := by simpa using hn
 have h2:bd++ar.map a.eval++cap=args:=Array.ext' (by simpa using ha);unfold execOp;rw[hop];simp only[resolve,Deferred.ofValue,hx];simp[invoke,callFunc,hf,h1,hb,← h2]
theorem rq_nil (w:World)(d:Nat):(Op.equalIn (d+1) 42 .nilFunc .nilFunc).run Try.prog w=.ok true w:=by simp[Op.equalIn,run_underlying Try.underlying42]
theorem rq_fun (w:World)(d:Nat)(f:FuncId)(bd cap:Array Value):(Op.equalIn (d+1) 42 (.func (.func f) bd cap) .nilFunc).run Try.prog w=.ok false w:=by simp[Op.equalIn,run_underlying Try.underlying42]
theorem rb_nil (w:World):Sem.run Try.prog (binOp .eql 42 .nilFunc .nilFunc) w=.ok (.bool true) w:=by
 simp only[binOp];simp[Op.equal,Op.maxDepth,rq_nil w 9999]
theorem rb_fun (w:World)(f:FuncId)(bd cap:Array Value):Sem.run Try.prog (binOp .eql 42 (.func (.func f) bd cap) .nilFunc) w=.ok (.bool false) w:=by
 simp only[binOp];simp[Op.equal,Op.maxDepth,rq_fun w 9999]
theorem pu_eqnil {a:Act}{oo:Oper}{w:World}{x:Operand}(h:oo.op=.binOp .eql 42 x (.const .nilFunc) 42)(hx:a.eval x=.nilFunc):(execOp a.eval oo).run Try.prog w=.ok (.value (.bool true)) w:=by
 unfold execOp;rw[h];simp only[hx];rw[show a.eval (.const .nilFunc)=.nilFunc from rfl];exact run_vv (by simp[go_sem,rb_nil,Try.underlying42,Try.runUnderlying42])
theorem pu_eqfun {a:Act}{oo:Oper}{w:World}{x:Operand}(h:oo.op=.binOp .eql 42 x (.const .nilFunc) 42)(hx:a.eval x=.func (.func f) bd cap):(execOp a.eval oo).run Try.prog w=.ok (.value (.bool false)) w:=by
 unfold execOp;rw[h];simp only[hx];rw[show a.eval (.const .nilFunc)=.nilFunc from rfl];exact run_vv (by simp[go_sem,rb_fun,Try.underlying42,Try.runUnderlying42])
theorem pu_neqn {a:Act}{oo:Oper}{w:World}{x:Operand}(h:oo.op=.binOp .neq 20 x (.const .nilIface) 20)(hx:a.eval x=.nilIface):(execOp a.eval oo).run Try.prog w=.ok (.value (.bool false)) w:=by
 unfold execOp;rw[h];simp only[hx];rw[show a.eval (.const .nilIface)=.nilIface from rfl];exact run_vv (by simp[go_sem,Try.underlying20,Try.runUnderlying20])
theorem enter61 {x0 x1:Value}:Frame.enter Try.prog 61 #[x0,x1] .normal=(base 61).at ⟨#[x0,x1,uu,uu,uu,uu,uu,uu,uu,uu,uu,uu,uu,uu,uu,uu,uu,uu,uu,uu,uu,uu,uu,uu,uu,uu,uu,uu,uu],[]⟩ [.code c61]:=enter_lit Try.func61 rfl rfl
theorem enter71 {x0 x1:Value}:Frame.enter Try.prog 71 #[x0,x1] .deferred=(baseD 71).at ⟨#[x0,x1,uu,uu,uu,uu,uu],[]⟩ [.code c71]:=enter_lit Try.func71 rfl rfl
theorem asked_over (hK:Cl Try.prog m K)(hcm:cl.mode=.run)(hr:Cel w r [ba,.slice (some ⟨gs',0,none⟩) ns cs',bk,ac,.bool false] 86)(hj:j<ns)(hst:Pl.Blk w gs' cells t)(he0:cells[j*4+0]?=some (.bool true))(h:∀ w',Kp [] w w'→K (gs (cl.finish (.bool false)) cs) w'):K (gs (Frame.enter Try.prog 61 #[ptr r,.int .i64 j] .normal) (cl::cs)) w:=by
 rw[enter61];have hk:(base 61).kind≠.early:=nofun;have hD:=hK.det;refine hD.s0 ?_;refine hD.r0 ?_;obtain⟨w1,hw1⟩:∃ w1,w1=w.alloc (.cells #[.bool false] 4):=⟨_,rfl⟩;obtain⟨R,hR⟩:∃ R,R=w.heap.size:=⟨_,rfl⟩;refine hD.alloc (n:=0) hk rfl ⟨rfl,rfl,rfl,(by decide +kernel),nofun⟩ al4 ?_;rw[← hw1,← hR];refine norm0 (a':=⟨#[ptr r,.int .i64 j,uu,uu,ptr R,uu,uu,uu,uu,uu,uu,uu,uu,uu,uu,uu,uu,uu,uu,uu,uu,uu,uu,uu,uu,uu,uu,uu,uu],[]⟩) ?_;have k1:Kp [] w w1:=hw1▸Kp.alloc [] w _;have bR:Pl.Blk w1 R [.bool false] 4:=by rw[hw1,hR];exact Pl.Blk.new w [.bool false] 4
 have s1:w1.heap.size=R+1:=by rw[hw1,hR,wz']
 clear hw1;refine hD.e0 ?_;refine hD.s0 ?_;refine hD.r0 ?_;refine hD.mv (ptr r) hk ?_;refine hD.nc ⟨r,0,none⟩ hk ?_;refine hD.fd (ptrAt r 1) hk (fld86 (by omega)) ?_;refine hD.ld (.slice (some ⟨gs',0,none⟩) ns cs') hk (fun τ d=>ld83 ((k1.cel hr (by simp)).cell 1)) ?_;refine norm0 (a':=⟨#[ptr r,.int .i64 j,uu,uu,ptr R,uu,ptr r,ptr r,ptrAt r 1,.slice (some ⟨gs',0,none⟩) ns cs',uu,uu,uu,uu,uu,uu,uu,uu,uu,uu,uu,uu,uu,uu,uu,uu,uu,uu,uu],[]⟩) ?_;refine hD.mv (.int .i64 j) hk ?_;refine hD.index (n:=0) (v:=(ptrAt gs' (j*4))) hk rfl ⟨rfl,rfl,rfl,rfl,nofun⟩ rfl rfl (ix83 hj) ?_;refine norm0 (a':=⟨#[ptr r,.int .i64 j,uu,uu,ptr R,uu,ptr r,ptr r,ptrAt r 1,.slice (some ⟨gs',0,none⟩) ns cs',.int .i64 j,ptrAt gs' (j*4),uu,uu,uu,uu,uu,uu,uu,uu,uu,uu,uu,uu,uu,uu,uu,uu,uu],[]⟩) ?_;obtain⟨w2,hw2⟩:∃ w2,w2=w1.alloc (.cells #[.pointer none] 127):=⟨_,rfl⟩;obtain⟨S,hS⟩:∃ S,S=w1.heap.size:=⟨_,rfl⟩;refine hD.alloc (n:=0) hk rfl ⟨rfl,rfl,rfl,(by decide +kernel),nofun⟩ al127 ?_;rw[← hw2,← hS];refine norm0 (a':=⟨#[ptr r,.int .i64 j,uu,uu,ptr R,ptr S,ptr r,ptr r,ptrAt r 1,.slice (some ⟨gs',0,none⟩) ns cs',.int .i64 j,ptrAt gs' (j*4),uu,uu,uu,uu,uu,uu,uu,uu,uu,uu,uu,uu,uu,uu,uu,uu,uu],[]⟩) ?_;have k2:Kp [] w w2:=k1.trans (hw2▸Kp.alloc [] w1 _);have bS2:Pl.Blk w2 S [.pointer none] 127:=by rw[hw2,hS];exact Pl.Blk.new w1 [.pointer none] 127
 have bR2:Pl.Blk w2 R [.bool false] 4:=by rw[hw2];exact bR.alloc _
 have s2:w2.heap.size=S+1:=by rw[hw2,hS,wz']
 clear hw2;refine hD.store (n:=0) (u:=ptr S) (z:=ptrAt gs' (j*4)) hk rfl ⟨rfl,rfl,rfl,rfl,nofun⟩ rfl rfl (fun τ d=>((st127 (w:=re w2 τ d) (x:=.pointer none) (bS2.cell 0) (bS2.frozen 0)).trans (congrArg (Result.ok ()) re_setCell))) (by rw[World.size_setCell];exact Nat.le_refl _) ?_;have k3:=k2.setNew (b:=S) (i:=0) (v:=ptrAt gs' (j*4)) (by rw[hS];exact k1.size);have bS:=bS2.set 0 (ptrAt gs' (j*4));have bR3:=bR2.set_other (b':=S) (by omega) 0 (ptrAt gs' (j*4));have hwR:w.heap.size≤R:=by omega
 generalize w2.setCell ⟨S,0,none⟩ (ptrAt gs' (j*4))=w3 at k3 bS bR3 ⊢;clear bS2 bR2 bR k2 k1;have cS:w3.cell? ⟨S,0,none⟩=some (ptrAt gs' (j*4)):=bS.cell 0;have z:=k3.cel (Blk.cel hst) (by simp);refine hD.e0 ?_;refine hD.s0 ?_;refine hD.block (n:=0) ?_;refine hD.s0 ?_;refine hD.r0 ?_;have z0:w3.cell? ⟨gs',j*4+0,none⟩=some (.bool true):=(z.cell (j*4+0)).trans he0;refine hD.ld (ptrAt gs' (j*4)) hk (fun τ d=>ld127 cS) ?_;refine hD.nilc (n:=0) hk rfl ⟨rfl,rfl,rfl,rfl,nofun⟩ (show _=(ptrAt gs' (j*4)) from rfl) ?_;refine hD.field (n:=0) (v:=(ptrAt gs' ((j*4)+0))) (u:=(ptrAt gs' (j*4))) hk rfl ⟨rfl,rfl,rfl,rfl,nofun⟩ rfl (fld77 (by omega)) ?_;refine hD.ld (.bool true) hk (fun τ d=>ld4 z0) ?_;refine norm0 (a':=⟨#[ptr r,.int .i64 j,uu,uu,ptr R,ptr S,ptr r,ptr r,ptrAt r 1,.slice (some ⟨gs',0,none⟩) ns cs',.int .i64 j,ptrAt gs' (j*4),uu,ptrAt gs' (j*4),ptrAt gs' (j*4),ptrAt gs' ((j*4)+0),.bool true,uu,uu,uu,uu,uu,uu,uu,uu,uu,uu,uu,uu],[]⟩) ?_;refine hD.as (.bool true) hk ?_;refine norm0 (a':=⟨#[ptr r,.int .i64 j,uu,uu,ptr R,ptr S,ptr r,ptr r,ptrAt r 1,.slice (some ⟨gs',0,none⟩) ns cs',.int .i64 j,ptrAt gs' (j*4),.bool true,ptrAt gs' (j*4),ptrAt gs' (j*4),ptrAt gs' ((j*4)+0),.bool true,uu,uu,uu,uu,uu,uu,uu,uu,uu,uu,uu,uu],[]⟩) ?_;refine hD.e0 ?_;refine hD.cond (n:=0) true rfl rfl ?_;refine hD.s0 ?_;refine hD.r0 ?_;refine hD.store (n:=0) (u:=(ptr R)) (z:=(.bool false)) hk rfl ⟨rfl,rfl,rfl,rfl,nofun⟩ rfl rfl (fun τ d=>((st4 (w:=re w3 τ d) (x:=.bool false) (bR3.cell 0) (bR3.frozen 0)).trans (congrArg (Result.ok ()) re_setCell))) (by rw[World.size_setCell];exact Nat.le_refl _) ?_;have bR4:=bR3.set 0 (.bool false);refine hD.e0 ?_;refine hD.ret (n:=0) ?_;exact hD.leave (n:=0) (v:=.bool false) rfl rfl Try.func61 (fun τ d=>res4 rfl rfl (bR4.cell 0)) hcm (h _ (k3.setNew hwR))
theorem asked_nil (hK:Cl Try.prog m K)(hcm:cl.mode=.run)(hr:Cel w r [ba,.slice (some ⟨gs',0,none⟩) ns cs',bk,ac,.bool false] 86)(hj:j<ns)(hst:Pl.Blk w gs' cells t)(he0:cells[j*4+0]?=some (.bool false))(he3:cells[j*4+3]?=some .nilFunc)(h:∀ w',Kp [] w w'→K (gs (cl.finish (.bool true)) cs) w'):K (gs (Frame.enter Try.prog 61 #[ptr r,.int .i64 j] .normal) (cl::cs)) w:=by
 rw[enter61];have hk:(base 61).kind≠.early:=nofun;have hD:=hK.det;refine hD.s0 ?_;refine hD.r0 ?_;obtain⟨w1,hw1⟩:∃ w1,w1=w.alloc (.cells #[.bool false] 4):=⟨_,rfl⟩;obtain⟨R,hR⟩:∃ R,R=w.heap.size:=⟨_,rfl⟩;refine hD.alloc (n:=0) hk rfl ⟨rfl,rfl,rfl,(by decide +kernel),nofun⟩ al4 ?_;rw[← hw1,← hR];refine norm0 (a':=⟨#[ptr r,.int .i64 j,uu,uu,ptr R,uu,uu,uu,uu,uu,uu,uu,uu,uu,uu,uu,uu,uu,uu,uu,uu,uu,uu,uu,uu,uu,uu,uu,uu],[]⟩) ?_;have k1:Kp [] w w1:=hw1▸Kp.alloc [] w _;have bR:Pl.Blk w1 R [.bool false] 4:=by rw[hw1,hR];exact Pl.Blk.new w [.bool false] 4
 have s1:w1.heap.size=R+1:=by rw[hw1,hR,wz']
 clear hw1;refine hD.e0 ?_;refine hD.s0 ?_;refine hD.r0 ?_;refine hD.mv (ptr r) hk ?_;refine hD.nc ⟨r,0,none⟩ hk ?_;refine hD.fd (ptrAt r 1) hk (fld86 (by omega)) ?_;refine hD.ld (.slice (some ⟨gs',0,none⟩) ns cs') hk (fun τ d=>ld83 ((k1.cel hr (by simp)).cell 1)) ?_;refine norm0 (a':=⟨#[ptr r,.int .i64 j,uu,uu,ptr R,uu,ptr r,ptr r,ptrAt r 1,.slice (some ⟨gs',0,none⟩) ns cs',uu,uu,uu,uu,uu,uu,uu,uu,uu,uu,uu,uu,uu,uu,uu,uu,uu,uu,uu],[]⟩) ?_;refine hD.mv (.int .i64 j) hk ?_;refine hD.index (n:=0) (v:=(ptrAt gs' (j*4))) hk rfl ⟨rfl,rfl,rfl,rfl,nofun⟩ rfl rfl (ix83 hj) ?_;refine norm0 (a':=⟨#[ptr r,.int .i64 j,uu,uu,ptr R,uu,ptr r,ptr r,ptrAt r 1,.slice (some ⟨gs',0,none⟩) ns cs',.int .i64 j,ptrAt gs' (j*4),uu,uu,uu,uu,uu,uu,uu,uu,uu,uu,uu,uu,uu,uu,uu,uu,uu],[]⟩) ?_;obtain⟨w2,hw2⟩:∃ w2,w2=w1.alloc (.cells #[.pointer none] 127):=⟨_,rfl⟩;obtain⟨S,hS⟩:∃ S,S=w1.heap.size:=⟨_,rfl⟩;refine hD.alloc (n:=0) hk rfl ⟨rfl,rfl,rfl,(by decide +kernel),nofun⟩ al127 ?_;rw[← hw2,← hS];refine norm0 (a':=⟨#[ptr r,.int .i64 j,uu,uu,ptr R,ptr S,ptr r,ptr r,ptrAt r 1,.slice (some ⟨gs',0,none⟩) ns cs',.int .i64 j,ptrAt gs' (j*4),uu,uu,uu,uu,uu,uu,uu,uu,uu,uu,uu,uu,uu,uu,uu,uu,uu],[]⟩) ?_;have k2:Kp [] w w2:=k1.trans (hw2▸Kp.alloc [] w1 _);have bS2:Pl.Blk w2 S [.pointer none] 127:=by rw[hw2,hS];exact Pl.Blk.new w1 [.pointer none] 127
 have bR2:Pl.Blk w2 R [.bool false] 4:=by rw[hw2];exact bR.alloc _
 have s2:w2.heap.size=S+1:=by rw[hw2,hS,wz']
 clear hw2;refine hD.store (n:=0) (u:=ptr S) (z:=ptrAt gs' (j*4)) hk rfl ⟨rfl,rfl,rfl,rfl,nofun⟩ rfl rfl (fun τ d=>((st127 (w:=re w2 τ d) (x:=.pointer none) (bS2.cell 0) (bS2.frozen 0)).trans (congrArg (Result.ok ()) re_setCell))) (by rw[World.size_setCell];exact Nat.le_refl _) ?_;have k3:=k2.setNew (b:=S) (i:=0) (v:=ptrAt gs' (j*4)) (by rw[hS];exact k1.size);have bS:=bS2.set 0 (ptrAt gs' (j*4));have bR3:=bR2.set_other (b':=S) (by omega) 0 (ptrAt gs' (j*4));have hwR:w.heap.size≤R:=by omega
 generalize w2.setCell ⟨S,0,none⟩ (ptrAt gs' (j*4))=w3 at k3 bS bR3 ⊢;clear bS2 bR2 bR k2 k1;have cS:w3.cell? ⟨S,0,none⟩=some (ptrAt gs' (j*4)):=bS.cell 0;have z:=k3.cel (Blk.cel hst) (by simp);refine hD.e0 ?_;refine hD.s0 ?_;refine hD.block (n:=0) ?_;refine hD.s0 ?_;refine hD.r0 ?_;have z0:w3.cell? ⟨gs',j*4+0,none⟩=some (.bool false):=(z.cell (j*4+0)).trans he0;have z3:w3.cell? ⟨gs',j*4+3,none⟩=some .nilFunc:=(z.cell (j*4+3)).trans he3;refine hD.ld (ptrAt gs' (j*4)) hk (fun τ d=>ld127 cS) ?_;refine hD.nilc (n:=0) hk rfl ⟨rfl,rfl,rfl,rfl,nofun⟩ (show _=(ptrAt gs' (j*4)) from rfl) ?_;refine hD.field (n:=0) (v:=(ptrAt gs' ((j*4)+0))) (u:=(ptrAt gs' (j*4))) hk rfl ⟨rfl,rfl,rfl,rfl,nofun⟩ rfl (fld77 (by omega)) ?_;refine hD.ld (.bool false) hk (fun τ d=>ld4 z0) ?_;refine norm0 (a':=⟨#[ptr r,.int .i64 j,uu,uu,ptr R,ptr S,ptr r,ptr r,ptrAt r 1,.slice (some ⟨gs',0,none⟩) ns cs',.int .i64 j,ptrAt gs' (j*4),uu,ptrAt gs' (j*4),ptrAt gs' (j*4),ptrAt gs' ((j*4)+0),.bool false,uu,uu,uu,uu,uu,uu,uu,uu,uu,uu,uu,uu],[]⟩) ?_;refine hD.as (.bool false) hk ?_;refine norm0 (a':=⟨#[ptr r,.int .i64 j,uu,uu,ptr R,ptr S,ptr r,ptr r,ptrAt r 1,.slice (some ⟨gs',0,none⟩) ns cs',.int .i64 j,ptrAt gs' (j*4),.bool false,ptrAt gs' (j*4),ptrAt gs' (j*4),ptrAt gs' ((j*4)+0),.bool false,uu,uu,uu,uu,uu,uu,uu,uu,uu,uu,uu,uu],[]⟩) ?_;refine hD.e0 ?_;refine hD.cond (n:=0) false rfl rfl ?_;refine hD.s0 ?_;refine hD.r0 ?_;refine hD.ld (ptrAt gs' (j*4)) hk (fun τ d=>ld127 cS) ?_;refine hD.nilc (n:=0) hk rfl ⟨rfl,rfl,rfl,rfl,nofun⟩ (show _=(ptrAt gs' (j*4)) from rfl) ?_;refine hD.field (n:=0) (v:=(ptrAt gs' ((j*4)+3))) (u:=(ptrAt gs' (j*4))) hk rfl ⟨rfl,rfl,rfl,rfl,nofun⟩ rfl (fld77 (by omega)) ?_;refine hD.ld (.nilFunc) hk (fun τ d=>ld45 z3) ?_;refine norm0 (a':=⟨#[ptr r,.int .i64 j,uu,uu,ptr R,ptr S,ptr r,ptr r,ptrAt r 1,.slice (some ⟨gs',0,none⟩) ns cs',.int .i64 j,ptrAt gs' (j*4),.bool false,ptrAt gs' (j*4),ptrAt gs' (j*4),ptrAt gs' ((j*4)+0),.bool false,uu,ptrAt gs' (j*4),ptrAt gs' (j*4),ptrAt gs' ((j*4)+3),.nilFunc,uu,uu,uu,uu,uu,uu,uu],[]⟩) ?_;refine hD.pu (.bool true) hk (fun w=>pu_eqnil (x:=.tmp 21) rfl rfl) ?_;refine hD.as (.bool true) hk ?_;refine norm0 (a':=⟨#[ptr r,.int .i64 j,uu,uu,ptr R,ptr S,ptr r,ptr r,ptrAt r 1,.slice (some ⟨gs',0,none⟩) ns cs',.int .i64 j,ptrAt gs' (j*4),.bool false,ptrAt gs' (j*4),ptrAt gs' (j*4),ptrAt gs' ((j*4)+0),.bool false,.bool true,ptrAt gs' (j*4),ptrAt gs' (j*4),ptrAt gs' ((j*4)+3),.nilFunc,.bool true,uu,uu,uu,uu,uu,uu],[]⟩) ?_;refine hD.e0 ?_;refine hD.cond (n:=0) true rfl rfl ?_;refine hD.s0 ?_;refine hD.r0 ?_;refine hD.store (n:=0) (u:=(ptr R)) (z:=(.bool true)) hk rfl ⟨rfl,rfl,rfl,rfl,nofun⟩ rfl rfl (fun τ d=>((st4 (w:=re w3 τ d) (x:=.bool false) (bR3.cell 0) (bR3.frozen 0)).trans (congrArg (Result.ok ()) re_setCell))) (by rw[World.size_setCell];exact Nat.le_refl _) ?_;have bR4:=bR3.set 0 (.bool true);refine hD.e0 ?_;refine hD.ret (n:=0) ?_;exact hD.leave (n:=0) (v:=.bool true) rfl rfl Try.func61 (fun τ d=>res4 rfl rfl (bR4.cell 0)) hcm (h _ (k3.setNew hwR))
theorem asked_fun (hK:Cl Try.prog m K)(hcm:cl.mode=.run)(hr:Cel w r [ba,.slice (some ⟨gs',0,none⟩) ns cs',bk,ac,.bool false] 86)(hj:j<ns)(hst:Pl.Blk w gs' cells t)(he0:cells[j*4+0]?=some (.bool false))(he3:cells[j*4+3]?=some (.func (.func f) bd cap))(hfn:Try.prog.funcs[f]?=some fn)(hnm:(fn.name == "runtime.NumGoroutine")=false)(hbd:fn.body=some cd)(hq:Asks K w f (bd++cap) bv)(h:∀ w',Kp [] w w'→K (gs (cl.finish (.bool bv)) cs) w'):K (gs (Frame.enter Try.prog 61 #[ptr r,.int .i64 j] .normal) (cl::cs)) w:=by
 rw[enter61];have hk:(base 61).kind≠.early:=nofun;have hD:=hK.det;refine hD.s0 ?_;refine hD.r0 ?_;obtain⟨w1,hw1⟩:∃ w1,w1=w.alloc (.cells #[.bool false] 4):=⟨_,rfl⟩;obtain⟨R,hR⟩:∃ R,R=w.heap.size:=⟨_,rfl⟩;refine hD.alloc (n:=0) hk rfl ⟨rfl,rfl,rfl,(by decide +kernel),nofun⟩ al4 ?_;rw[← hw1,← hR];refine norm0 (a':=⟨#[ptr r,.int .i64 j,uu,uu,ptr R,uu,uu,uu,uu,uu,uu,uu,uu,uu,uu,uu,uu,uu,uu,uu,uu,uu,uu,uu,uu,uu,uu,uu,uu],[]⟩) ?_;have k1:Kp [] w w1:=hw1▸Kp.alloc [] w _;have bR:Pl.Blk w1 R [.bool false] 4:=by rw[hw1,hR];exact Pl.Blk.new w [.bool false] 4
 have s1:w1.heap.size=R+1:=by rw[hw1,hR,wz']
 clear hw1;refine hD.e0 ?_;refine hD.s0 ?_;refine hD.r0 ?_;refine hD.mv (ptr r) hk ?_;refine hD.nc ⟨r,0,none⟩ hk ?_;refine hD.fd (ptrAt r 1) hk (fld86 (by omega)) ?_;refine hD.ld (.slice (some ⟨gs',0,none⟩) ns cs') hk (fun τ d=>ld83 ((k1.cel hr (by simp)).cell 1)) ?_;refine norm0 (a':=⟨#[ptr r,.int .i64 j,uu,uu,ptr R,uu,ptr r,ptr r,ptrAt r 1,.slice (some ⟨gs',0,none⟩) ns cs',uu,uu,uu,uu,uu,uu,uu,uu,uu,uu,uu,uu,uu,uu,uu,uu,uu,uu,uu],[]⟩) ?_;refine hD.mv (.int .i64 j) hk ?_;refine hD.index (n:=0) (v:=(ptrAt gs' (j*4))) hk rfl ⟨rfl,rfl,rfl,rfl,nofun⟩ rfl rfl (ix83 hj) ?_;refine norm0 (a':=⟨#[ptr r,.int .i64 j,uu,uu,ptr R,uu,ptr r,ptr r,ptrAt r 1,.slice (some ⟨gs',0,none⟩) ns cs',.int .i64 j,ptrAt gs' (j*4),uu,uu,uu,uu,uu,uu,uu,uu,uu,uu,uu,uu,uu,uu,uu,uu,uu],[]⟩) ?_;obtain⟨w2,hw2⟩:∃ w2,w2=w1.alloc (.cells #[.pointer none] 127):=⟨_,rfl⟩;obtain⟨S,hS⟩:∃ S,S=w1.heap.size:=⟨_,rfl⟩;refine hD.alloc (n:=0) hk rfl ⟨rfl,rfl,rfl,(by decide +kernel),nofun⟩ al127 ?_;rw[← hw2,← hS];refine norm0 (a':=⟨#[ptr r,.int .i64 j,uu,uu,ptr R,ptr S,ptr r,ptr r,ptrAt r 1,.slice (some ⟨gs',0,none⟩) ns cs',.int .i64 j,ptrAt gs' (j*4),uu,uu,uu,uu,uu,uu,uu,uu,uu,uu,uu,uu,uu,uu,uu,uu,uu],[]⟩) ?_;have k2:Kp [] w w2:=k1.trans (hw2▸Kp.alloc [] w1 _);have bS2:Pl.Blk w2 S [.pointer none] 127:=by rw[hw2,hS];exact Pl.Blk.new w1 [.pointer none] 127
 have bR2:Pl.Blk w2 R [.bool false] 4:=by rw[hw2];exact bR.alloc _
 have s2:w2.heap.size=S+1:=by rw[hw2,hS,wz']
 clear hw2;refine hD.store (n:=0) (u:=ptr S) (z:=ptrAt gs' (j*4)) hk rfl ⟨rfl,rfl,rfl,rfl,nofun⟩ rfl rfl (fun τ d=>((st127 (w:=re w2 τ d) (x:=.pointer none) (bS2.cell 0) (bS2.frozen 0)).trans (congrArg (Result.ok ()) re_setCell))) (by rw[World.size_setCell];exact Nat.le_refl _) ?_;have k3:=k2.setNew (b:=S) (i:=0) (v:=ptrAt gs' (j*4)) (by rw[hS];exact k1.size);have bS:=bS2.set 0 (ptrAt gs' (j*4));have bR3:=bR2.set_other (b':=S) (by omega) 0 (ptrAt gs' (j*4));have hwR:w.heap.size≤R:=by omega
 generalize w2.setCell ⟨S,0,none⟩ (ptrAt gs' (j*4))=w3 at k3 bS bR3 ⊢;clear bS2 bR2 bR k2 k1;have cS:w3.cell? ⟨S,0,none⟩=some (ptrAt gs' (j*4)):=bS.cell 0;have z:=k3.cel (Blk.cel hst) (by simp);refine hD.e0 ?_;refine hD.s0 ?_;refine hD.block (n:=0) ?_;refine hD.s0 ?_;refine hD.r0 ?_;have z0:w3.cell? ⟨gs',j*4+0,none⟩=some (.bool false):=(z.cell (j*4+0)).trans he0;have z3:w3.cell? ⟨gs',j*4+3,none⟩=some (.func (.func f) bd cap):=(z.cell (j*4+3)).trans he3;refine hD.ld (ptrAt gs' (j*4)) hk (fun τ d=>ld127 cS) ?_;refine hD.nilc (n:=0) hk rfl ⟨rfl,rfl,rfl,rfl,nofun⟩ (show _=(ptrAt gs' (j*4)) from rfl) ?_;refine hD.field (n:=0) (v:=(ptrAt gs' ((j*4)+0))) (u:=(ptrAt gs' (j*4))) hk rfl ⟨rfl,rfl,rfl,rfl,nofun⟩ rfl (fld77 (by omega)) ?_;refine hD.ld (.bool false) hk (fun τ d=>ld4 z0) ?_;refine norm0 (a':=⟨#[ptr r,.int .i64 j,uu,uu,ptr R,ptr S,ptr r,ptr r,ptrAt r 1,.slice (some ⟨gs',0,none⟩) ns cs',.int .i64 j,ptrAt gs' (j*4),uu,ptrAt gs' (j*4),ptrAt gs' (j*4),ptrAt gs' ((j*4)+0),.bool false,uu,uu,uu,uu,uu,uu,uu,uu,uu,uu,uu,uu],[]⟩) ?_;refine hD.as (.bool false) hk ?_;refine norm0 (a':=⟨#[ptr r,.int .i64 j,uu,uu,ptr R,ptr S,ptr r,ptr r,ptrAt r 1,.slice (some ⟨gs',0,none⟩) ns cs',.int .i64 j,ptrAt gs' (j*4),.bool false,ptrAt gs' (j*4),ptrAt gs' (j*4),ptrAt gs' ((j*4)+0),.bool false,uu,uu,uu,uu,uu,uu,uu,uu,uu,uu,uu,uu],[]⟩) ?_;refine hD.e0 ?_;refine hD.cond (n:=0) false rfl rfl ?_;refine hD.s0 ?_;refine hD.r0 ?_;refine hD.ld (ptrAt gs' (j*4)) hk (fun τ d=>ld127 cS) ?_;refine hD.nilc (n:=0) hk rfl ⟨rfl,rfl,rfl,rfl,nofun⟩ (show _=(ptrAt gs' (j*4)) from rfl) ?_;refine hD.field (n:=0) (v:=(ptrAt gs' ((j*4)+3))) (u:=(ptrAt gs' (j*4))) hk rfl ⟨rfl,rfl,rfl,rfl,nofun⟩ rfl (fld77 (by omega)) ?_;refine hD.ld (.func (.func f) bd cap) hk (fun τ d=>ld45 z3) ?_;refine norm0 (a':=⟨#[ptr r,.int .i64 j,uu,uu,ptr R,ptr S,ptr r,ptr r,ptrAt r 1,.slice (some ⟨gs',0,none⟩) ns cs',.int .i64 j,ptrAt gs' (j*4),.bool false,ptrAt gs' (j*4),ptrAt gs' (j*4),ptrAt gs' ((j*4)+0),.bool false,uu,ptrAt gs' (j*4),ptrAt gs' (j*4),ptrAt gs' ((j*4)+3),(.func (.func f) bd cap),uu,uu,uu,uu,uu,uu,uu],[]⟩) ?_;refine hD.pu (.bool false) hk (fun w=>pu_eqfun (x:=.tmp 21) rfl rfl) ?_;refine hD.as (.bool false) hk ?_;refine norm0 (a':=⟨#[ptr r,.int .i64 j,uu,uu,ptr R,ptr S,ptr r,ptr r,ptrAt r 1,.slice (some ⟨gs',0,none⟩) ns cs',.int .i64 j,ptrAt gs' (j*4),.bool false,ptrAt gs' (j*4),ptrAt gs' (j*4),ptrAt gs' ((j*4)+0),.bool false,.bool false,ptrAt gs' (j*4),ptrAt gs' (j*4),ptrAt gs' ((j*4)+3),(.func (.func f) bd cap),.bool false,uu,uu,uu,uu,uu,uu],[]⟩) ?_;refine hD.e0 ?_;refine hD.cond (n:=0) false rfl rfl ?_;refine hD.k0 ?_;refine hD.inBlock (n:=0) ?_;refine hD.s0 ?_;refine hD.r0 ?_;refine hD.pu (.func (.func 71) #[] #[ptr S,ptr R]) hk (fun w=>pu_mkf (x:=.tmp 5) (z:=.tmp 4) rfl rfl rfl) ?_;refine norm0 (a':=⟨#[ptr r,.int .i64 j,uu,uu,ptr R,ptr S,ptr r,ptr r,ptrAt r 1,.slice (some ⟨gs',0,none⟩) ns cs',.int .i64 j,ptrAt gs' (j*4),.bool false,ptrAt gs' (j*4),ptrAt gs' (j*4),ptrAt gs' ((j*4)+0),.bool false,.bool false,ptrAt gs' (j*4),ptrAt gs' (j*4),ptrAt gs' ((j*4)+3),(.func (.func f) bd cap),.bool false,(.func (.func 71) #[] #[ptr S,ptr R]),uu,uu,uu,uu,uu],[]⟩) ?_
 refine hD.defer (n:=0) (D:={target:=.fn (.func 71) #[ptr S,ptr R],args:=#[]}) rfl rfl hk rfl (by decide +kernel) nofun (fun τ d=>x_defer (x:=.tmp 23) rfl rfl rfl) ?_;refine norm0 (a':=⟨#[ptr r,.int .i64 j,uu,uu,ptr R,ptr S,ptr r,ptr r,ptrAt r 1,.slice (some ⟨gs',0,none⟩) ns cs',.int .i64 j,ptrAt gs' (j*4),.bool false,ptrAt gs' (j*4),ptrAt gs' (j*4),ptrAt gs' ((j*4)+0),.bool false,.bool false,ptrAt gs' (j*4),ptrAt gs' (j*4),ptrAt gs' ((j*4)+3),(.func (.func f) bd cap),.bool false,(.func (.func 71) #[] #[ptr S,ptr R]),uu,uu,uu,uu,uu],[{target:=.fn (.func 71) #[ptr S,ptr R],args:=#[]}]⟩) ?_;refine hD.e0 ?_;refine hD.s0 ?_;refine hD.r0 ?_;refine hD.ld (ptrAt gs' (j*4)) hk (fun τ d=>ld127 cS) ?_;refine hD.nilc (n:=0) hk rfl ⟨rfl,rfl,rfl,rfl,nofun⟩ (show _=(ptrAt gs' (j*4)) from rfl) ?_;refine hD.field (n:=0) (v:=(ptrAt gs' ((j*4)+3))) (u:=(ptrAt gs' (j*4))) hk rfl ⟨rfl,rfl,rfl,rfl,nofun⟩ rfl (fld77 (by omega)) ?_;refine norm0 (a':=⟨#[ptr r,.int .i64 j,uu,uu,ptr R,ptr S,ptr r,ptr r,ptrAt r 1,.slice (some ⟨gs',0,none⟩) ns cs',.int .i64 j,ptrAt gs' (j*4),.bool false,ptrAt gs' (j*4),ptrAt gs' (j*4),ptrAt gs' ((j*4)+0),.bool false,.bool false,ptrAt gs' (j*4),ptrAt gs' (j*4),ptrAt gs' ((j*4)+3),(.func (.func f) bd cap),.bool false,(.func (.func 71) #[] #[ptr S,ptr R]),ptrAt gs' (j*4),ptrAt gs' (j*4),ptrAt gs' ((j*4)+3),uu,uu],[{target:=.fn (.func 71) #[ptr S,ptr R],args:=#[]}]⟩) ?_;refine hD.ld (.func (.func f) bd cap) hk (fun τ d=>ld45 z3) ?_;refine norm0 (a':=⟨#[ptr r,.int .i64 j,uu,uu,ptr R,ptr S,ptr r,ptr r,ptrAt r 1,.slice (some ⟨gs',0,none⟩) ns cs',.int .i64 j,ptrAt gs' (j*4),.bool false,ptrAt gs' (j*4),ptrAt gs' (j*4),ptrAt gs' ((j*4)+0),.bool false,.bool false,ptrAt gs' (j*4),ptrAt gs' (j*4),ptrAt gs' ((j*4)+3),(.func (.func f) bd cap),.bool false,(.func (.func 71) #[] #[ptr S,ptr R]),ptrAt gs' (j*4),ptrAt gs' (j*4),ptrAt gs' ((j*4)+3),(.func (.func f) bd cap),uu],[{target:=.fn (.func 71) #[ptr S,ptr R],args:=#[]}]⟩) ?_;refine hD.callf (n:=0) (args:=bd++cap) hk rfl ⟨rfl,rfl,rfl,(by decide +kernel),nofun⟩ (fun w=>x_callb rfl rfl hfn hnm hbd (by simp)) ?_;refine hq _ _ _ rfl k3 fun w4 k4=>?_;have bR4:=k4.blk bR3 (by simp);have k5:=k3.trans k4;refine fin0 (some 28) ?_;refine norm0 (a':=⟨#[ptr r,.int .i64 j,uu,uu,ptr R,ptr S,ptr r,ptr r,ptrAt r 1,.slice (some ⟨gs',0,none⟩) ns cs',.int .i64 j,ptrAt gs' (j*4),.bool false,ptrAt gs' (j*4),ptrAt gs' (j*4),ptrAt gs' ((j*4)+0),.bool false,.bool false,ptrAt gs' (j*4),ptrAt gs' (j*4),ptrAt gs' ((j*4)+3),(.func (.func f) bd cap),.bool false,(.func (.func 71) #[] #[ptr S,ptr R]),ptrAt gs' (j*4),ptrAt gs' (j*4),ptrAt gs' ((j*4)+3),(.func (.func f) bd cap),.bool bv],[{target:=.fn (.func 71) #[ptr S,ptr R],args:=#[]}]⟩) ?_;refine hD.store (n:=0) (u:=(ptr R)) (z:=(.bool bv)) hk rfl ⟨rfl,rfl,rfl,rfl,nofun⟩ rfl rfl (fun τ d=>((st4 (w:=re w4 τ d) (x:=.bool false) (bR4.cell 0) (bR4.frozen 0)).trans (congrArg (Result.ok ()) re_setCell))) (by rw[World.size_setCell];exact Nat.le_refl _) ?_;have k6:=k5.setNew (b:=R) (i:=0) (v:=.bool bv) hwR
 have bR5:=bR4.set 0 (.bool bv);generalize w4.setCell ⟨R,0,none⟩ (.bool bv)=w5 at k6 bR5 ⊢;refine hD.e0 ?_;refine hD.ret (n:=0) ?_;refine hD.callD (n:=0) (f:=71) (args:=#[ptr S,ptr R]) nofun nofun nofun (fun τ d=>(run_callf Try.func71 rfl rfl).trans (by simp)) ?_;rw[enter71];have hk7:(baseD 71).kind≠.early:=nofun;refine hD.s0 ?_;refine hD.r0 ?_;refine hD.recover0 (n:=0) rfl rfl rfl rfl (by decide +kernel) nofun (fun τ d=>x_recover rfl) rfl ?_;refine hD.pure (n:=0) (v:=(.bool false)) hk7 rfl ⟨rfl,rfl,rfl,(by decide +kernel),nofun⟩ (fun w=>pu_neqn (x:=.tmp 2) rfl rfl) ?_;refine norm0 (a':=⟨#[ptr S,ptr R,.nilIface,.bool false,uu,uu,uu],[]⟩) ?_;refine hD.e0 ?_;refine hD.cond (n:=0) false rfl rfl ?_;refine hD.k0 ?_;refine hD.end (n:=0) ?_;refine hD.leaveD (n:=0) (v:=.tuple #[]) rfl rfl Try.func71 (fun τ d=>res0 rfl) (.inl rfl) ?_;refine hD.leave (n:=0) (b:=base 61) (a:=⟨#[ptr r,.int .i64 j,uu,uu,ptr R,ptr S,ptr r,ptr r,ptrAt r 1,.slice (some ⟨gs',0,none⟩) ns cs',.int .i64 j,ptrAt gs' (j*4),.bool false,ptrAt gs' (j*4),ptrAt gs' (j*4),ptrAt gs' ((j*4)+0),.bool false,.bool false,ptrAt gs' (j*4),ptrAt gs' (j*4),ptrAt gs' ((j*4)+3),(.func (.func f) bd cap),.bool false,(.func (.func 71) #[] #[ptr S,ptr R]),ptrAt gs' (j*4),ptrAt gs' (j*4),ptrAt gs' ((j*4)+3),(.func (.func f) bd cap),.bool bv],[]⟩) (v:=.bool bv) rfl rfl Try.func61 (fun τ d=>res4 rfl rfl (bR5.cell 0)) hcm ?_;exact h _ k6
end Go.Proofs.Ytfbjopkiicmiiaa.Lift
namespace Go.Proofs.Ytfbjopkiicmiiaa.Lift
open Go Go.Conc Go.RowKit
theorem pu_lss {a:Act}{oo:Oper}{w:World}{x y:Operand}{i j:Int}(h:oo.op=.binOp .lss 3 x y 3)(hx:a.eval x=.int .i64 i)(hy:a.eval y=.int .i64 j):(execOp a.eval oo).run Try.prog w=.ok (.value (.bool (decide (i<j)))) w:=by
 unfold execOp;rw[h];simp only[hx,hy];exact run_vv (by simp[go_sem,Try.underlying3,Try.runUnderlying3])
theorem pu_inc {a:Act}{oo:Oper}{w:World}{x:Operand}{j:Nat}(h:oo.op=.binOp .add 3 x (.const (.int .i64 1)) 3)(hx:a.eval x=.int .i64 j)(hj:j<4294967296):(execOp a.eval oo).run Try.prog w=.ok (.value (.int .i64 ((j+1:Nat):Int))) w:=by
 have hw:IntKind.i64.wrap ((j:Int)+1)=(j:Int)+1:=by rw[IntKind.wrap_i64];omega
 unfold execOp;rw[h];simp only[hx];rw[show a.eval (.const (.int .i64 1))=.int .i64 1 from rfl];exact run_vv (by simp[go_sem,hw,Try.underlying3,Try.runUnderlying3])
theorem pu_len {a:Act}{oo:Oper}{w:World}{x:Operand}{t:TypeId}{e:TypeId}{g:Option Addr}{n c:Nat}(h:oo.op=.call { callee:=.builtin .len,args:=#[x],argTypes:=#[t]})(hx:a.eval x=.slice g n c)(ht:Try.prog.underlying t=some (.slice e)):(execOp a.eval oo).run Try.prog w=.ok (.value (.int .i64 n)) w:=by
 unfold execOp;rw[h];have e1:(#[x]:Array Operand).map a.eval=#[.slice g n c]:=by simp[hx]
 simp only[resolve,e1];simp[invoke,builtin,go_sem,ht]
theorem info3:(Try.prog.info? 3).map (fun i=>(i.zero,i.size,i.bytes))=some (some (.int .i64 0),1,8):=by kernel_rfl
def rd6Q (x0 x1 x2 x5 x6 x7 x8 x9 x10 x11 x12 x13 x14 x15 x20 x21:Value)(j:Nat)(xs:List Nat)(go:Option Addr)(co:Nat)(w:World)(t:Array Value)(w':World):Prop :=
 ∃ nb g cap,t=#[x0,x1,x2,.slice (some ⟨g,0,none⟩) (xs.length+1) cap,.int .i64 j,x5,x6,x7,x8,x9,x10,x11,x12,x13,x14,x15,.slice go xs.length co,.int .i64 j,.slice (some ⟨nb,0,none⟩) 1 1,.slice (some ⟨g,0,none⟩) (xs.length+1) cap,x20,x21]∧Pl.Rep 3 1 (fun x:Nat=>[Value.int .i64 x]) w' (.slice (some ⟨g,0,none⟩) (xs.length+1) cap) (xs++[j])∧Kp (Pl.fp (.slice go xs.length co)) w w'∧(g∈Pl.fp (.slice go xs.length co)∨w.heap.size≤g)
theorem rd6_wp (w:World)(x0 x1 x2 x5 x6 x7 x8 x9 x10 x11 x12 x13 x14 x15 x16 x17 x18 x19 x20 x21:Value)(j:Nat)(xs:List Nat)(go:Option Addr)(co:Nat)(ha:Pl.Rep 3 1 (fun x:Nat=>[Value.int .i64 x]) w (.slice go xs.length co) xs)(hn:xs.length<1099511627776)
 {Q:Array Value→World→Prop} (hQ:∀ t w',rd6Q x0 x1 x2 x5 x6 x7 x8 x9 x10 x11 x12 x13 x14 x15 x20 x21 j xs go co w t w'→Q t w') :
 (sT (sR (sR (sB (sL (sR (sR (sB (sB (sR (sL (sR (sR c38))))))))))))).wp Try.prog (fun e a' w'=>e=.normal∧a'.defers=[]∧Q a'.tmps w') ⟨#[x0,x1,x2,.slice go xs.length co,.int .i64 j,x5,x6,x7,x8,x9,x10,x11,x12,x13,x14,x15,x16,x17,x18,x19,x20,x21],[]⟩ w:=by
 simp only[c38,Try.f40,Option.getD_some,sL,sR,sB,sT,sF];have HA:=Lib.hid (fun(W:World) (k:Pl.Keeps [] w W)=>ha.keeps k (by simp));have HQ:=Lib.hid hQ;clear ha hQ
 go_wp2_with (refine Pl.wpList_rep_append rfl (.tmp 16) (.tmp 18) 99 rfl (.int .i64 0) 8 Try.underlying99 info3 rfl (by decide) (.slice go xs.length co) xs rfl (HA.out _ ((Pl.Keeps.refl _ _).alloc _)) (fun _=>rfl) ⟨w.heap.size,0,none⟩ 1 1 [j] rfl rfl (cell_one_new _ _ _) (by simp[Value.oneCell']) (by decide) (by unfold maxLen;omega) (by omega) ?_;intro g2 cap2 w2 r2 k2 a2 lg q2;have R2:=Lib.hid r2;have K2:=Lib.hid k2;have A2:=Lib.hid a2;clear r2 k2 a2)
 refine HQ.out _ _ ⟨w.heap.size,g2,cap2,rfl,R2.out,?_,?_⟩
 ·have k1:=Keeps.kp K2.out
  refine⟨by have:=k1.size;rw[wz'] at this;omega,fun b hb hn=>?_⟩;rw[k1.block b (by rw[wz'];omega) hn];exact Below.heap_alloc w _ b hb
 ·exact A2.out.imp id fun q=>by rw[q,wz'];omega
end Go.Proofs.Ytfbjopkiicmiiaa.Lift
namespace Go.Proofs.Ytfbjopkiicmiiaa.Lift
open Go Go.Conc Go.RowKit
variable {m:Bool}{K:Goroutine→World→Prop}{w:World}{cs:List Frame}{r j n gs' ns cs':Nat}{ba bk ac:Value}{cl:Frame}{rd:Nat→Bool}
def Askd (K:Goroutine→World→Prop)(w:World)(r j:Nat)(bv:Bool):Prop:=∀ c cs w1,c.mode=.run→Kp [] w w1→(∀ w2,Kp [] w1 w2→K (gs (c.finish (.bool bv)) cs) w2)→K (gs (Frame.enter Try.prog 61 #[ptr r,.int .i64 j] .normal) (c::cs)) w1
theorem Kp.fresh {F:List Nat}{w w1 w2:World}(h:Kp [] w w1)(k:Kp F w1 w2)(hF:∀ b∈F,w.heap.size≤b):Kp [] w w2 :=
 ⟨Nat.le_trans h.size k.size,fun x hx _=>(k.block x (nl' hx h.size) fun hm=>by have:=hF x hm;omega).trans (h.block x hx (by simp))⟩
abbrev RepN (w:World)(v:Value)(xs:List Nat):Prop:=Pl.Rep 3 1 (fun x:Nat=>[Value.int .i64 x]) w v xs
theorem Kp.rep {F:List Nat}{α:Type}{e:TypeId}{k:Nat}{f:α→List Value}{w w':World}{v:Value}{xs:List α}(h:Kp F w w')(hr:Pl.Rep e k f w v xs)(hd:∀ b∈Pl.fp v,b∉F):Pl.Rep e k f w' v xs:=by
 refine Pl.Rep.keeps (w:={w' with heap:=w.heap}) (F:=F) hr ⟨rfl,rfl,rfl,h.size,h.block⟩ hd
theorem enter38 {x0:Value}:Frame.enter Try.prog 40 #[x0] .normal=(base 40).at ⟨#[x0,uu,uu,uu,uu,uu,uu,uu,uu,uu,uu,uu,uu,uu,uu,uu,uu,uu,uu,uu,uu,uu],[]⟩ [.code c38]:=enter_lit Try.func40 rfl rfl
theorem ready_loop (hK:Cl Try.prog m K)(hcm:cl.mode=.run)(hns:ns≤8)(ask:∀ j,j<ns→Askd K w r j (rd j))(h:∀ v w',RepN w' v ((List.range ns).filter rd)→Kp [] w w'→(∀ b∈Pl.fp v,w.heap.size≤b)→K (gs (cl.finish v) cs) w') :
  ∀ fuel j,ns-j=fuel→j≤ns→∀ (x1 x4 x11 x12 x13 x14 x15 x16 x17 x18 x19 x20 x21:Value) (xs:List Nat) (go:Option Addr) (co:Nat) (w1:World),Kp [] w w1→RepN w1 (.slice go xs.length co) xs→(∀ b∈Pl.fp (.slice go xs.length co),w.heap.size≤b)→xs=(List.range j).filter rd →
   K (gs ((base 40).at ⟨#[ptr r,x1,.slice none 0 0,.slice go xs.length co,x4,ptr r,ptr r,ptrAt r 1,.slice (some ⟨gs',0,none⟩) ns cs',.int .i64 ns,.int .i64 j,x11,x12,x13,x14,x15,x16,x17,x18,x19,x20,x21],[]⟩ [.code (sB (sB (sR (sL (sR (sR c38)))))),.inLoop (sB (sB (sR (sL (sR (sR c38)))))),.inBlock 0,.code (sR (sR (sR c38)))]) (cl::cs)) w1:=by
 have hD:=hK.det;have hk:(base 40).kind≠.early:=nofun;intro fuel
 induction fuel with
 | zero =>
  intro j hf hle x1 x4 x11 x12 x13 x14 x15 x16 x17 x18 x19 x20 x21 xs go co w1 k1 hrep hfr hxs;have hjn:j=ns:=by omega
  rw[hjn] at hxs;refine hD.s0 ?_;refine hD.r0 ?_;refine hD.pu (.bool (decide ((j:Int)<ns))) hk (fun w=>pu_lss (x:=.tmp 10) (y:=.tmp 9) rfl rfl rfl) ?_;refine norm0 (a':=⟨#[ptr r,x1,.slice none 0 0,.slice go xs.length co,x4,ptr r,ptr r,ptrAt r 1,.slice (some ⟨gs',0,none⟩) ns cs',.int .i64 ns,.int .i64 j,.bool (decide ((j:Int)<ns)),x12,x13,x14,x15,x16,x17,x18,x19,x20,x21],[]⟩) ?_;refine hD.e0 ?_;refine hD.s0 ?_;refine hD.cond (n:=0) false (by show Value.bool (decide ((j:Int)<ns))=_;rw[decide_eq_false (by omega)]) rfl ?_;refine hD.exit (n:=0) (k':=[.code (sR (sR (sR c38)))]) rfl ?_;refine hD.s0 ?_;refine hD.r0 ?_;refine hD.mv (.slice go xs.length co) hk ?_;refine norm0 (a':=⟨#[ptr r,x1,.slice none 0 0,.slice go xs.length co,x4,ptr r,ptr r,ptrAt r 1,.slice (some ⟨gs',0,none⟩) ns cs',.int .i64 ns,.int .i64 j,.bool (decide ((j:Int)<ns)),x12,x13,x14,x15,x16,x17,x18,x19,x20,.slice go xs.length co],[]⟩) ?_;refine hD.as (.slice go xs.length co) hk ?_;refine norm0 (a':=⟨#[ptr r,x1,.slice go xs.length co,.slice go xs.length co,x4,ptr r,ptr r,ptrAt r 1,.slice (some ⟨gs',0,none⟩) ns cs',.int .i64 ns,.int .i64 j,.bool (decide ((j:Int)<ns)),x12,x13,x14,x15,x16,x17,x18,x19,x20,.slice go xs.length co],[]⟩) ?_;refine hD.e0 ?_;refine hD.ret (n:=0) ?_;refine hD.leave (n:=0) (b:=base 40) (a:=⟨#[ptr r,x1,.slice go xs.length co,.slice go xs.length co,x4,ptr r,ptr r,ptrAt r 1,.slice (some ⟨gs',0,none⟩) ns cs',.int .i64 ns,.int .i64 j,.bool (decide ((j:Int)<ns)),x12,x13,x14,x15,x16,x17,x18,x19,x20,.slice go xs.length co],[]⟩) (v:=.slice go xs.length co) rfl rfl Try.func40 (fun τ d=>res1 (t:=2) rfl) hcm ?_;exact h _ _ (hxs▸hrep) k1 hfr
 | succ fuel ih =>
  intro j hf hle x1 x4 x11 x12 x13 x14 x15 x16 x17 x18 x19 x20 x21 xs go co w1 k1 hrep hfr hxs;have hlt:j<ns:=by omega
  have hxl:xs.length≤8:=by rw[hxs];exact Nat.le_trans (List.length_filter_le _ _) (by simp;omega)
  refine hD.s0 ?_;refine hD.r0 ?_;refine hD.pu (.bool (decide ((j:Int)<ns))) hk (fun w=>pu_lss (x:=.tmp 10) (y:=.tmp 9) rfl rfl rfl) ?_;refine norm0 (a':=⟨#[ptr r,x1,.slice none 0 0,.slice go xs.length co,x4,ptr r,ptr r,ptrAt r 1,.slice (some ⟨gs',0,none⟩) ns cs',.int .i64 ns,.int .i64 j,.bool (decide ((j:Int)<ns)),x12,x13,x14,x15,x16,x17,x18,x19,x20,x21],[]⟩) ?_;refine hD.e0 ?_;refine hD.s0 ?_;refine hD.cond (n:=0) true (by show Value.bool (decide ((j:Int)<ns))=_;rw[decide_eq_true (by omega)]) rfl ?_;refine hD.k0 ?_;refine hD.s0 ?_;refine hD.block (n:=0) ?_;refine hD.s0 ?_;refine hD.r0 ?_;refine hD.mv (.int .i64 j) hk ?_;refine norm0 (a':=⟨#[ptr r,x1,.slice none 0 0,.slice go xs.length co,x4,ptr r,ptr r,ptrAt r 1,.slice (some ⟨gs',0,none⟩) ns cs',.int .i64 ns,.int .i64 j,.bool (decide ((j:Int)<ns)),.int .i64 j,x13,x14,x15,x16,x17,x18,x19,x20,x21],[]⟩) ?_;refine hD.as (.int .i64 j) hk ?_;refine norm0 (a':=⟨#[ptr r,x1,.slice none 0 0,.slice go xs.length co,.int .i64 j,ptr r,ptr r,ptrAt r 1,.slice (some ⟨gs',0,none⟩) ns cs',.int .i64 ns,.int .i64 j,.bool (decide ((j:Int)<ns)),.int .i64 j,x13,x14,x15,x16,x17,x18,x19,x20,x21],[]⟩) ?_;refine hD.e0 ?_;refine hD.s0 ?_;refine hD.r0 ?_;refine hD.mv (ptr r) hk ?_;refine norm0 (a':=⟨#[ptr r,x1,.slice none 0 0,.slice go xs.length co,.int .i64 j,ptr r,ptr r,ptrAt r 1,.slice (some ⟨gs',0,none⟩) ns cs',.int .i64 ns,.int .i64 j,.bool (decide ((j:Int)<ns)),.int .i64 j,ptr r,x14,x15,x16,x17,x18,x19,x20,x21],[]⟩) ?_;refine hD.mv (.int .i64 j) hk ?_;refine norm0 (a':=⟨#[ptr r,x1,.slice none 0 0,.slice go xs.length co,.int .i64 j,ptr r,ptr r,ptrAt r 1,.slice (some ⟨gs',0,none⟩) ns cs',.int .i64 ns,.int .i64 j,.bool (decide ((j:Int)<ns)),.int .i64 j,ptr r,.int .i64 j,x15,x16,x17,x18,x19,x20,x21],[]⟩) ?_;refine hD.callf (n:=0) (args:=#[ptr r,.int .i64 j]) (hk:=hk) rfl ⟨rfl,rfl,rfl,(by decide +kernel),nofun⟩ (fun w=>x_call rfl rfl Try.func61 rfl rfl rfl) ?_;refine ask j hlt _ _ _ rfl k1 fun w2 k2=>?_;have hrep2:=k2.rep hrep (by simp);refine fin0 (some 15) ?_;refine norm0 (a':=⟨#[ptr r,x1,.slice none 0 0,.slice go xs.length co,.int .i64 j,ptr r,ptr r,ptrAt r 1,.slice (some ⟨gs',0,none⟩) ns cs',.int .i64 ns,.int .i64 j,.bool (decide ((j:Int)<ns)),.int .i64 j,ptr r,.int .i64 j,.bool (rd j),x16,x17,x18,x19,x20,x21],[]⟩) ?_;refine hD.e0 ?_;have k12:=k1.trans k2;cases hrd:rd j with
  | false =>
   refine hD.cond (n:=0) false rfl rfl ?_;refine hD.k0 ?_;refine hD.inBlock (n:=0) ?_;refine hD.r0 ?_;refine hD.pure (n:=0) (v:=(.int .i64 ((j+1:Nat):Int))) hk rfl ⟨rfl,rfl,rfl,(by decide +kernel),nofun⟩ (fun w=>pu_inc (x:=.tmp 10) rfl rfl (by omega)) ?_;refine norm0 (a':=⟨#[ptr r,x1,.slice none 0 0,.slice go xs.length co,.int .i64 j,ptr r,ptr r,ptrAt r 1,.slice (some ⟨gs',0,none⟩) ns cs',.int .i64 ns,.int .i64 j,.bool (decide ((j:Int)<ns)),.int .i64 j,ptr r,.int .i64 j,.bool false,x16,x17,x18,x19,.int .i64 ((j+1:Nat):Int),x21],[]⟩) ?_;refine hD.mv (.int .i64 ((j+1:Nat):Int)) hk ?_;refine norm0 (a':=⟨#[ptr r,x1,.slice none 0 0,.slice go xs.length co,.int .i64 j,ptr r,ptr r,ptrAt r 1,.slice (some ⟨gs',0,none⟩) ns cs',.int .i64 ns,.int .i64 ((j+1:Nat):Int),.bool (decide ((j:Int)<ns)),.int .i64 j,ptr r,.int .i64 j,.bool false,x16,x17,x18,x19,.int .i64 ((j+1:Nat):Int),x21],[]⟩) ?_;refine hD.e0 ?_;refine hD.inLoop (n:=0) ?_;refine ih (j+1) (by omega) (by omega) _ _ _ _ _ _ _ _ _ _ _ _ _ xs go co w2 k12 hrep2 hfr (by rw[List.range_succ,List.filter_append,← hxs];simp[hrd])
  | true =>
   refine hD.cond (n:=0) true rfl rfl ?_;refine hK.seg fits shut (b:=base 40) ⟨_,Try.func40⟩ hk (c:=(sT (sR (sR (sB (sL (sR (sR (sB (sB (sR (sL (sR (sR c38)))))))))))))) (by decide +kernel) (Q:=rd6Q (ptr r) x1 (.slice none 0 0) (ptr r) (ptr r) (ptrAt r 1) (.slice (some ⟨gs',0,none⟩) ns cs') (.int .i64 ns) (.int .i64 j) (.bool (decide ((j:Int)<ns))) (.int .i64 j) (ptr r) (.int .i64 j) (.bool true) x20 x21 j xs go co w2)
    (fun t w' τ d ⟨nb,g,cap,h1,h2,h3,h4⟩=>⟨nb,g,cap,h1,h2,⟨h3.size,h3.block⟩,h4⟩)
    (fun τ d=>rd6_wp (re w2 τ d) (ptr r) x1 (.slice none 0 0) (ptr r) (ptr r) (ptrAt r 1) (.slice (some ⟨gs',0,none⟩) ns cs') (.int .i64 ns) (.int .i64 j) (.bool (decide ((j:Int)<ns))) (.int .i64 j) (ptr r) (.int .i64 j) (.bool true) x16 x17 x18 x19 x20 x21 j xs go co hrep2 (by omega) (Q:=rd6Q (ptr r) x1 (.slice none 0 0) (ptr r) (ptr r) (ptrAt r 1) (.slice (some ⟨gs',0,none⟩) ns cs') (.int .i64 ns) (.int .i64 j) (.bool (decide ((j:Int)<ns))) (.int .i64 j) (ptr r) (.int .i64 j) (.bool true) x20 x21 j xs go co w2) (fun t w' ⟨nb,g,cap,h3,h4,h5,h6⟩=>⟨nb,g,cap,h3,h4,⟨h5.size,h5.block⟩,h6⟩)) ?_
   rintro t w3 ⟨nb,g,cap,rfl,hr3,k3,hg⟩;refine hD.inBlock (n:=0) ?_;refine hD.r0 ?_;refine hD.pure (n:=0) (v:=(.int .i64 ((j+1:Nat):Int))) hk rfl ⟨rfl,rfl,rfl,(by decide +kernel),nofun⟩ (fun w=>pu_inc (x:=.tmp 10) rfl rfl (by omega)) ?_;refine norm0 (a':=⟨#[ptr r,x1,.slice none 0 0,.slice (some ⟨g,0,none⟩) (xs.length+1) cap,.int .i64 j,ptr r,ptr r,ptrAt r 1,.slice (some ⟨gs',0,none⟩) ns cs',.int .i64 ns,.int .i64 j,.bool (decide ((j:Int)<ns)),.int .i64 j,ptr r,.int .i64 j,.bool true,.slice go xs.length co,.int .i64 j,.slice (some ⟨nb,0,none⟩) 1 1,.slice (some ⟨g,0,none⟩) (xs.length+1) cap,.int .i64 ((j+1:Nat):Int),x21],[]⟩) ?_;refine hD.mv (.int .i64 ((j+1:Nat):Int)) hk ?_;refine norm0 (a':=⟨#[ptr r,x1,.slice none 0 0,.slice (some ⟨g,0,none⟩) (xs.length+1) cap,.int .i64 j,ptr r,ptr r,ptrAt r 1,.slice (some ⟨gs',0,none⟩) ns cs',.int .i64 ns,.int .i64 ((j+1:Nat):Int),.bool (decide ((j:Int)<ns)),.int .i64 j,ptr r,.int .i64 j,.bool true,.slice go xs.length co,.int .i64 j,.slice (some ⟨nb,0,none⟩) 1 1,.slice (some ⟨g,0,none⟩) (xs.length+1) cap,.int .i64 ((j+1:Nat):Int),x21],[]⟩) ?_;refine hD.e0 ?_;refine hD.inLoop (n:=0) ?_;have k13:=k12.fresh k3 hfr;have hl:(xs++[j]).length=xs.length+1:=by simp
   rw[← hl] at hr3 ⊢;refine ih (j+1) (by omega) (by omega) _ _ _ _ _ _ _ _ _ _ _ _ _ (xs++[j]) (some ⟨g,0,none⟩) cap w3 k13 hr3 (fun b hb=>?_) (by rw[List.range_succ,List.filter_append,← hxs];simp[hrd]);obtain rfl:b=g:=by simpa[Pl.fp,Value.ownBlock] using hb
   exact hg.elim (hfr _) fun q=>Nat.le_trans k12.size q
theorem ready_to (hK:Cl Try.prog m K)(hcm:cl.mode=.run)(hr:Cel w r [ba,.slice (some ⟨gs',0,none⟩) ns cs',bk,ac,.bool false] 86)(hns:ns≤8)(ask:∀ j,j<ns→Askd K w r j (rd j))(h:∀ v w',RepN w' v ((List.range ns).filter rd)→Kp [] w w'→(∀ b∈Pl.fp v,w.heap.size≤b)→K (gs (cl.finish v) cs) w'):K (gs (Frame.enter Try.prog 40 #[ptr r] .normal) (cl::cs)) w:=by
 rw[enter38];have hD:=hK.det;have hk:(base 40).kind≠.early:=nofun;refine hD.s0 ?_;refine hD.r0 ?_;refine hD.as (.slice none 0 0) hk ?_;refine norm0 (a':=⟨#[ptr r,uu,.slice none 0 0,uu,uu,uu,uu,uu,uu,uu,uu,uu,uu,uu,uu,uu,uu,uu,uu,uu,uu,uu],[]⟩) ?_;refine hD.e0 ?_;refine hD.s0 ?_;refine hD.r0 ?_;refine hD.as (.slice none 0 0) hk ?_;refine norm0 (a':=⟨#[ptr r,uu,.slice none 0 0,.slice none 0 0,uu,uu,uu,uu,uu,uu,uu,uu,uu,uu,uu,uu,uu,uu,uu,uu,uu,uu],[]⟩) ?_;refine hD.e0 ?_;refine hD.s0 ?_;refine hD.s0 ?_;refine hD.r0 ?_;refine hD.mv (ptr r) hk ?_;refine hD.nc ⟨r,0,none⟩ hk ?_;refine hD.fd (ptrAt r 1) hk (fld86 (by omega)) ?_;refine hD.ld (.slice (some ⟨gs',0,none⟩) ns cs') hk (fun τ d=>ld83 (hr.cell 1)) ?_;refine norm0 (a':=⟨#[ptr r,uu,.slice none 0 0,.slice none 0 0,uu,ptr r,ptr r,ptrAt r 1,.slice (some ⟨gs',0,none⟩) ns cs',uu,uu,uu,uu,uu,uu,uu,uu,uu,uu,uu,uu,uu],[]⟩) ?_;refine hD.pu (.int .i64 ns) hk (fun w=>pu_len (x:=.tmp 8) rfl rfl Try.underlying83) ?_;refine hD.mv (.int .i64 ((0:Nat):Int)) hk ?_;refine norm0 (a':=⟨#[ptr r,uu,.slice none 0 0,.slice none 0 0,uu,ptr r,ptr r,ptrAt r 1,.slice (some ⟨gs',0,none⟩) ns cs',.int .i64 ns,.int .i64 ((0:Nat):Int),uu,uu,uu,uu,uu,uu,uu,uu,uu,uu,uu],[]⟩) ?_;refine hD.e0 ?_;refine hD.block (n:=0) ?_;refine hD.loop (n:=0) ?_;exact ready_loop hK hcm hns ask h ns 0 rfl (Nat.zero_le _) _ _ _ _ _ _ _ _ _ _ _ _ _ [] none 0 w (Kp.refl _ _) Pl.Rep.nil (by intro b hb;simp[Pl.fp,Value.ownBlock] at hb) rfl
end Go.Proofs.Ytfbjopkiicmiiaa.Lift
namespace Go.Proofs.Ytfbjopkiicmiiaa.Lift
open Go Go.Conc Go.RowKit
variable {m:Bool}{K:Goroutine→World→Prop}{Kn:Nat→Goroutine→World→Prop}{n:Nat}{w:World}{cs:List Frame}{r j k b c gb nb cb gs' ns cs':Nat}{ba bk ac f:Value}{cl:Frame}{o p q:Bool}{cells:List Value}{t:TypeId}
theorem enter42 {x0:Value}:Frame.enter Try.prog 44 #[x0] .normal=(base 44).at ⟨#[x0,uu,uu,uu,uu,uu,uu,uu,uu,uu,uu,uu,uu,uu,uu,uu,uu,uu,uu,uu,uu,uu,uu,uu,uu,uu,uu,uu,uu,uu,uu,uu,uu],[]⟩ [.code c42]:=enter_lit Try.func44 rfl rfl
def unwTm (r gs' ns cs' j:Nat)(tm:Array Value):Prop:=∃ x1 x2 x3 x10 x11 x12 x13 x14 x15 x16 x17 x18 x19 x20 x21 x22 x23 x24 x25 x26 x27 x28 x29 x30 x31 x32,tm=#[ptr r,x1,x2,x3,ptr r,ptr r,ptrAt r 1,.slice (some ⟨gs',0,none⟩) ns cs',.int .i64 ns,.int .i64 j,x10,x11,x12,x13,x14,x15,x16,x17,x18,x19,x20,x21,x22,x23,x24,x25,x26,x27,x28,x29,x30,x31,x32]
def unwHead (tm:Array Value):Frame:=(base 44).at ⟨tm,[]⟩ [.code (sB (sB (sR c42))),.inLoop (sB (sB (sR c42))),.inBlock 0]
theorem unw_to (hD:Det Try.prog m fun _=>K)(hr:Cel w r [ba,.slice (some ⟨gs',0,none⟩) ns cs',bk,ac,.bool false] 86)(h:∀ tm,unwTm r gs' ns cs' 0 tm→K (gs (unwHead tm) cs) w):K (gs (Frame.enter Try.prog 44 #[ptr r] .normal) cs) w:=by
 rw[enter42];have hk:(base 44).kind≠.early:=nofun;refine hD.s0 ?_;refine hD.r0 ?_;refine hD.mv (ptr r) hk ?_;refine hD.nc ⟨r,0,none⟩ hk ?_;refine hD.fd (ptrAt r 1) hk (fld86 (by omega)) ?_;refine hD.ld (.slice (some ⟨gs',0,none⟩) ns cs') hk (fun τ d=>ld83 (hr.cell 1)) ?_;refine norm0 (a':=⟨#[ptr r,uu,uu,uu,ptr r,ptr r,ptrAt r 1,.slice (some ⟨gs',0,none⟩) ns cs',uu,uu,uu,uu,uu,uu,uu,uu,uu,uu,uu,uu,uu,uu,uu,uu,uu,uu,uu,uu,uu,uu,uu,uu,uu],[]⟩) ?_;refine hD.pu (.int .i64 ns) hk (fun w=>pu_len (x:=.tmp 7) rfl rfl Try.underlying83) ?_;refine hD.mv (.int .i64 ((0:Nat):Int)) hk ?_;refine norm0 (a':=⟨#[ptr r,uu,uu,uu,ptr r,ptr r,ptrAt r 1,.slice (some ⟨gs',0,none⟩) ns cs',.int .i64 ns,.int .i64 ((0:Nat):Int),uu,uu,uu,uu,uu,uu,uu,uu,uu,uu,uu,uu,uu,uu,uu,uu,uu,uu,uu,uu,uu,uu,uu],[]⟩) ?_;refine hD.e0 ?_;refine hD.block (n:=0) ?_;refine hD.loop (n:=0) ?_;exact h _ ⟨_,_,_,_,_,_,_,_,_,_,_,_,_,_,_,_,_,_,_,_,_,_,_,_,_,_,rfl⟩
theorem unw_end {tm:Array Value}(hD:Det Try.prog m fun _=>K)(hcm:cl.mode=.run)(hj:ns≤j)(htm:unwTm r gs' ns cs' j tm)(h:K (gs (cl.finish (.tuple #[])) cs) w):K (gs (unwHead tm) (cl::cs)) w:=by
 obtain⟨x1,x2,x3,x10,x11,x12,x13,x14,x15,x16,x17,x18,x19,x20,x21,x22,x23,x24,x25,x26,x27,x28,x29,x30,x31,x32,rfl⟩:=htm;unfold unwHead;have hk:(base 44).kind≠.early:=nofun;refine hD.s0 ?_;refine hD.r0 ?_;refine hD.pu (.bool (decide ((j:Int)<ns))) hk (fun w=>pu_lss (x:=.tmp 9) (y:=.tmp 8) rfl rfl rfl) ?_;refine norm0 (a':=⟨#[ptr r,x1,x2,x3,ptr r,ptr r,ptrAt r 1,.slice (some ⟨gs',0,none⟩) ns cs',.int .i64 ns,.int .i64 j,.bool (decide ((j:Int)<ns)),x11,x12,x13,x14,x15,x16,x17,x18,x19,x20,x21,x22,x23,x24,x25,x26,x27,x28,x29,x30,x31,x32],[]⟩) ?_;refine hD.e0 ?_;refine hD.s0 ?_;refine hD.cond (n:=0) false (by show Value.bool (decide ((j:Int)<ns))=_;rw[decide_eq_false (by omega)]) rfl ?_;refine hD.exit (n:=0) (k':=[]) rfl ?_;refine hD.end (n:=0) ?_;refine hD.leave (n:=0) (b:=base 44) (a:=⟨#[ptr r,x1,x2,x3,ptr r,ptr r,ptrAt r 1,.slice (some ⟨gs',0,none⟩) ns cs',.int .i64 ns,.int .i64 j,.bool (decide ((j:Int)<ns)),x11,x12,x13,x14,x15,x16,x17,x18,x19,x20,x21,x22,x23,x24,x25,x26,x27,x28,x29,x30,x31,x32],[]⟩) (v:=.tuple #[]) rfl rfl Try.func44 (fun τ d=>res0 rfl) hcm ?_;exact h
theorem pu_not {a:Act}{oo:Oper}{w:World}{x:Operand}{y:Bool}(h:oo.op=.unOp .not 4 x)(hx:a.eval x=.bool y):(execOp a.eval oo).run Try.prog w=.ok (.value (.bool (!y))) w:=by
 unfold execOp;rw[h];simp only[hx];exact run_vv (by simp[go_sem,Op.unary])
theorem unw_gone {tm:Array Value}(hD:Det Try.prog m fun _=>K)(hns:ns≤8)(hj:j<ns)(hst:Pl.Blk w gs' cells t)(hf:isFn f)(he0:cells[j*4]?=some (.bool o))(he1:cells[j*4+1]?=some (.bool p))(he2:cells[j*4+2]?=some (.bool true))(he3:cells[j*4+3]?=some f)(htm:unwTm r gs' ns cs' j tm)(h:∀ w1 tm,Kp [] w w1→unwTm r gs' ns cs' (j+1) tm→K (gs (unwHead tm) cs) w1):K (gs (unwHead tm) cs) w:=by
 obtain⟨x1,x2,x3,x10,x11,x12,x13,x14,x15,x16,x17,x18,x19,x20,x21,x22,x23,x24,x25,x26,x27,x28,x29,x30,x31,x32,rfl⟩:=htm;unfold unwHead;have hk:(base 44).kind≠.early:=nofun;refine hD.s0 ?_;refine hD.r0 ?_;refine hD.pu (.bool (decide ((j:Int)<ns))) hk (fun w=>pu_lss (x:=.tmp 9) (y:=.tmp 8) rfl rfl rfl) ?_;refine norm0 (a':=⟨#[ptr r,x1,x2,x3,ptr r,ptr r,ptrAt r 1,.slice (some ⟨gs',0,none⟩) ns cs',.int .i64 ns,.int .i64 j,.bool (decide ((j:Int)<ns)),x11,x12,x13,x14,x15,x16,x17,x18,x19,x20,x21,x22,x23,x24,x25,x26,x27,x28,x29,x30,x31,x32],[]⟩) ?_;refine hD.e0 ?_;refine hD.s0 ?_;refine hD.cond (n:=0) true (by show Value.bool (decide ((j:Int)<ns))=_;rw[decide_eq_true (by omega)]) rfl ?_;refine hD.k0 ?_;refine hD.s0 ?_;refine hD.block (n:=0) ?_;refine hD.s0 ?_;refine hD.r0 ?_;have z:=Blk.cel hst;have z0:w.cell? ⟨gs',j*4,none⟩=some (.bool o):=(z.cell (j*4)).trans he0;have z1:w.cell? ⟨gs',j*4+1,none⟩=some (.bool p):=(z.cell (j*4+1)).trans he1;have z2:w.cell? ⟨gs',j*4+2,none⟩=some (.bool true):=(z.cell (j*4+2)).trans he2;have z3:w.cell? ⟨gs',j*4+3,none⟩=some f:=(z.cell (j*4+3)).trans he3;refine hD.mv (.int .i64 j) hk ?_;refine hD.index (n:=0) (v:=(ptrAt gs' (j*4))) hk rfl ⟨rfl,rfl,rfl,rfl,nofun⟩ rfl rfl (ix83 hj) ?_;refine hD.ld (stopV o p true f) hk (fun τ d=>ld77 z0 z1 z2 z3) ?_;refine norm0 (a':=⟨#[ptr r,x1,x2,x3,ptr r,ptr r,ptrAt r 1,.slice (some ⟨gs',0,none⟩) ns cs',.int .i64 ns,.int .i64 j,.bool (decide ((j:Int)<ns)),.int .i64 j,ptrAt gs' (j*4),(stopV o p true f),x14,x15,x16,x17,x18,x19,x20,x21,x22,x23,x24,x25,x26,x27,x28,x29,x30,x31,x32],[]⟩) ?_;obtain⟨S,hS⟩:∃ S,S=w.heap.size:=⟨_,rfl⟩;refine hD.alloc (n:=0) hk rfl ⟨rfl,rfl,rfl,(by decide +kernel),nofun⟩ al77 ?_;rw[← hS];refine hD.as (.int .i64 j) hk ?_;refine norm0 (a':=⟨#[ptr r,x1,.int .i64 j,ptr S,ptr r,ptr r,ptrAt r 1,.slice (some ⟨gs',0,none⟩) ns cs',.int .i64 ns,.int .i64 j,.bool (decide ((j:Int)<ns)),.int .i64 j,ptrAt gs' (j*4),(stopV o p true f),x14,x15,x16,x17,x18,x19,x20,x21,x22,x23,x24,x25,x26,x27,x28,x29,x30,x31,x32],[]⟩) ?_;refine hD.store (n:=0) (u:=ptr S) (z:=stopV o p true f) hk rfl ⟨rfl,rfl,rfl,rfl,nofun⟩ rfl rfl (fun τ d=>((st77 (w:=re (w.alloc (.cells #[.bool false,.bool false,.bool false,.nilFunc] 72)) τ d) (i:=0) (hS▸Pl.Blk.new w [.bool false,.bool false,.bool false,.nilFunc] 72) (by decide) hf).trans (congrArg (Result.ok ()) (re_set4.trans (congrArg (fun x=>re x τ d) (hS▸set4_new)))))) (by rw[wz',wz'];exact Nat.le_refl _) ?_;have k1:=Kp.alloc [] w (.cells #[.bool o,.bool p,.bool true,f] 72);have hS2:(w.alloc (.cells #[.bool o,.bool p,.bool true,f] 72)).cell? ⟨S,2,none⟩=some (.bool true):=by rw[hS];exact(Pl.Blk.new w [.bool o,.bool p,.bool true,f] 72).cell 2
 generalize w.alloc (.cells #[.bool o,.bool p,.bool true,f] 72)=w1 at h k1 hS2 ⊢;refine hD.e0 ?_;refine hD.s0 ?_;refine hD.r0 ?_;refine hD.field (n:=0) (v:=(ptrAt S 2)) (u:=(ptr S)) hk rfl ⟨rfl,rfl,rfl,rfl,nofun⟩ rfl (fld77 (by omega)) ?_;refine hD.ld (.bool true) hk (fun τ d=>ld4 hS2) ?_;refine hD.pu (.bool (!true)) hk (fun w=>pu_not (x:=.tmp 15) rfl rfl) ?_;refine norm0 (a':=⟨#[ptr r,x1,.int .i64 j,ptr S,ptr r,ptr r,ptrAt r 1,.slice (some ⟨gs',0,none⟩) ns cs',.int .i64 ns,.int .i64 j,.bool (decide ((j:Int)<ns)),.int .i64 j,ptrAt gs' (j*4),(stopV o p true f),ptrAt S 2,.bool true,.bool (!true),x17,x18,x19,x20,x21,x22,x23,x24,x25,x26,x27,x28,x29,x30,x31,x32],[]⟩) ?_;refine hD.e0 ?_;refine hD.cond (n:=0) false rfl rfl ?_;refine hD.k0 ?_;refine hD.inBlock (n:=0) ?_;refine hD.r0 ?_;refine hD.pure (n:=0) (v:=(.int .i64 ((j+1:Nat):Int))) hk rfl ⟨rfl,rfl,rfl,(by decide +kernel),nofun⟩ (fun w=>pu_inc (x:=.tmp 9) rfl rfl (by omega)) ?_;refine hD.mv (.int .i64 ((j+1:Nat):Int)) hk ?_;refine norm0 (a':=⟨#[ptr r,x1,.int .i64 j,ptr S,ptr r,ptr r,ptrAt r 1,.slice (some ⟨gs',0,none⟩) ns cs',.int .i64 ns,.int .i64 ((j+1:Nat):Int),.bool (decide ((j:Int)<ns)),.int .i64 j,ptrAt gs' (j*4),(stopV o p true f),ptrAt S 2,.bool true,.bool (!true),x17,x18,x19,x20,x21,x22,x23,x24,x25,x26,x27,x28,x29,x30,x31,.int .i64 ((j+1:Nat):Int)],[]⟩) ?_;refine hD.e0 ?_;refine hD.inLoop (n:=0) ?_;exact h _ _ k1 ⟨_,_,_,_,_,_,_,_,_,_,_,_,_,_,_,_,_,_,_,_,_,_,_,_,_,_,rfl⟩
def unwTmC (r gs' ns cs' j c:Nat)(tm:Array Value):Prop:=∃ x1 x2 x3 x10 x11 x12 x13 x14 x15 x16 x17 x18 x19 x20 x21 x22 x23 x24 x25 x27 x28 x29 x30 x31 x32,tm=#[ptr r,x1,x2,x3,ptr r,ptr r,ptrAt r 1,.slice (some ⟨gs',0,none⟩) ns cs',.int .i64 ns,.int .i64 j,x10,x11,x12,x13,x14,x15,x16,x17,x18,x19,x20,x21,x22,x23,x24,x25,.chan (some c),x27,x28,x29,x30,x31,x32]
def unwAt (tm:Array Value):Frame:=(base 44).at ⟨tm,[]⟩ [.inRegion (sO (sL (sT (sR (sR (sB (sL (sR (sR (sB (sB (sR c42)))))))))))) [10],.code (sR (sT (sR (sR (sB (sL (sR (sR (sB (sB (sR c42))))))))))),.inBlock 1,.code (sR (sR (sR (sB (sB (sR c42)))))),.inLoop (sB (sB (sR c42))),.inBlock 0]
theorem Kp.cell {w w':World}(h:Kp [] w w'){a:Addr}(hl:a.block<w.heap.size):w'.cell? a=w.cell? a:=by
 unfold World.cell?;rw[h.block _ hl (by simp)]
theorem unw_close {tm:Array Value}(hD:Det Try.prog m fun _=>K)(hj:j<ns)(hst:Pl.Blk w gs' cells t)(hf:isFn f)(he0:cells[j*4]?=some (.bool o))(he1:cells[j*4+1]?=some (.bool p))(he2:cells[j*4+2]?=some (.bool false))(he3:cells[j*4+3]?=some f)(hr:Cel w r [.slice (some ⟨gb,0,none⟩) nb cb,.slice (some ⟨gs',0,none⟩) ns cs',bk,ac,.bool false] 86)(hjb:j<nb)(hbl:gb<w.heap.size)(hb:w.cell? ⟨gb,j,none⟩=some (ptr b))(hcl:b<w.heap.size)(hc:w.cell? ⟨b,2,none⟩=some (.chan (some c)))(htm:unwTm r gs' ns cs' j tm)(h:∀ w1 tm,Kp [] w w1→unwTmC r gs' ns cs' j c tm→K (gs (unwAt tm) cs) w1):K (gs (unwHead tm) cs) w:=by
 obtain⟨x1,x2,x3,x10,x11,x12,x13,x14,x15,x16,x17,x18,x19,x20,x21,x22,x23,x24,x25,x26,x27,x28,x29,x30,x31,x32,rfl⟩:=htm;unfold unwHead;have hk:(base 44).kind≠.early:=nofun;refine hD.s0 ?_;refine hD.r0 ?_;refine hD.pu (.bool (decide ((j:Int)<ns))) hk (fun w=>pu_lss (x:=.tmp 9) (y:=.tmp 8) rfl rfl rfl) ?_;refine norm0 (a':=⟨#[ptr r,x1,x2,x3,ptr r,ptr r,ptrAt r 1,.slice (some ⟨gs',0,none⟩) ns cs',.int .i64 ns,.int .i64 j,.bool (decide ((j:Int)<ns)),x11,x12,x13,x14,x15,x16,x17,x18,x19,x20,x21,x22,x23,x24,x25,x26,x27,x28,x29,x30,x31,x32],[]⟩) ?_;refine hD.e0 ?_;refine hD.s0 ?_;refine hD.cond (n:=0) true (by show Value.bool (decide ((j:Int)<ns))=_;rw[decide_eq_true (by omega)]) rfl ?_;refine hD.k0 ?_;refine hD.s0 ?_;refine hD.block (n:=0) ?_;refine hD.s0 ?_;refine hD.r0 ?_;have z:=Blk.cel hst;have z0:w.cell? ⟨gs',j*4,none⟩=some (.bool o):=(z.cell (j*4)).trans he0;have z1:w.cell? ⟨gs',j*4+1,none⟩=some (.bool p):=(z.cell (j*4+1)).trans he1;have z2:w.cell? ⟨gs',j*4+2,none⟩=some (.bool false):=(z.cell (j*4+2)).trans he2;have z3:w.cell? ⟨gs',j*4+3,none⟩=some f:=(z.cell (j*4+3)).trans he3;refine hD.mv (.int .i64 j) hk ?_;refine hD.index (n:=0) (v:=(ptrAt gs' (j*4))) hk rfl ⟨rfl,rfl,rfl,rfl,nofun⟩ rfl rfl (ix83 hj) ?_;refine hD.ld (stopV o p false f) hk (fun τ d=>ld77 z0 z1 z2 z3) ?_;refine norm0 (a':=⟨#[ptr r,x1,x2,x3,ptr r,ptr r,ptrAt r 1,.slice (some ⟨gs',0,none⟩) ns cs',.int .i64 ns,.int .i64 j,.bool (decide ((j:Int)<ns)),.int .i64 j,ptrAt gs' (j*4),(stopV o p false f),x14,x15,x16,x17,x18,x19,x20,x21,x22,x23,x24,x25,x26,x27,x28,x29,x30,x31,x32],[]⟩) ?_;obtain⟨S,hS⟩:∃ S,S=w.heap.size:=⟨_,rfl⟩;refine hD.alloc (n:=0) hk rfl ⟨rfl,rfl,rfl,(by decide +kernel),nofun⟩ al77 ?_;rw[← hS];refine hD.as (.int .i64 j) hk ?_;refine norm0 (a':=⟨#[ptr r,x1,.int .i64 j,ptr S,ptr r,ptr r,ptrAt r 1,.slice (some ⟨gs',0,none⟩) ns cs',.int .i64 ns,.int .i64 j,.bool (decide ((j:Int)<ns)),.int .i64 j,ptrAt gs' (j*4),(stopV o p false f),x14,x15,x16,x17,x18,x19,x20,x21,x22,x23,x24,x25,x26,x27,x28,x29,x30,x31,x32],[]⟩) ?_;refine hD.store (n:=0) (u:=ptr S) (z:=stopV o p false f) hk rfl ⟨rfl,rfl,rfl,rfl,nofun⟩ rfl rfl (fun τ d=>((st77 (w:=re (w.alloc (.cells #[.bool false,.bool false,.bool false,.nilFunc] 72)) τ d) (i:=0) (hS▸Pl.Blk.new w [.bool false,.bool false,.bool false,.nilFunc] 72) (by decide) hf).trans (congrArg (Result.ok ()) (re_set4.trans (congrArg (fun x=>re x τ d) (hS▸set4_new)))))) (by rw[wz',wz'];exact Nat.le_refl _) ?_;have k1:=Kp.alloc [] w (.cells #[.bool o,.bool p,.bool false,f] 72);have hS2:(w.alloc (.cells #[.bool o,.bool p,.bool false,f] 72)).cell? ⟨S,2,none⟩=some (.bool false):=by rw[hS];exact(Pl.Blk.new w [.bool o,.bool p,.bool false,f] 72).cell 2
 generalize w.alloc (.cells #[.bool o,.bool p,.bool false,f] 72)=w1 at h k1 hS2 ⊢;refine hD.e0 ?_;refine hD.s0 ?_;refine hD.r0 ?_;refine hD.field (n:=0) (v:=(ptrAt S 2)) (u:=(ptr S)) hk rfl ⟨rfl,rfl,rfl,rfl,nofun⟩ rfl (fld77 (by omega)) ?_;refine hD.ld (.bool false) hk (fun τ d=>ld4 hS2) ?_;refine hD.pu (.bool (!false)) hk (fun w=>pu_not (x:=.tmp 15) rfl rfl) ?_;refine norm0 (a':=⟨#[ptr r,x1,.int .i64 j,ptr S,ptr r,ptr r,ptrAt r 1,.slice (some ⟨gs',0,none⟩) ns cs',.int .i64 ns,.int .i64 j,.bool (decide ((j:Int)<ns)),.int .i64 j,ptrAt gs' (j*4),(stopV o p false f),ptrAt S 2,.bool false,.bool (!false),x17,x18,x19,x20,x21,x22,x23,x24,x25,x26,x27,x28,x29,x30,x31,x32],[]⟩) ?_;refine hD.e0 ?_;refine hD.cond (n:=0) true rfl rfl ?_;refine hD.s0 ?_;refine hD.r0 ?_;have hr1:=k1.cel hr (by simp);have hb1:w1.cell? ⟨gb,j,none⟩=some (ptr b):=(k1.cell hbl).trans hb;have hc1:w1.cell? ⟨b,2,none⟩=some (.chan (some c)):=(k1.cell hcl).trans hc;refine hD.mv (ptr r) hk ?_;refine hD.nc ⟨r,0,none⟩ hk ?_;refine hD.fd (ptrAt r 0) hk (fld86 (by omega)) ?_;refine hD.ld (.slice (some ⟨gb,0,none⟩) nb cb) hk (fun τ d=>ld82 (hr1.cell 0)) ?_;refine norm0 (a':=⟨#[ptr r,x1,.int .i64 j,ptr S,ptr r,ptr r,ptrAt r 1,.slice (some ⟨gs',0,none⟩) ns cs',.int .i64 ns,.int .i64 j,.bool (decide ((j:Int)<ns)),.int .i64 j,ptrAt gs' (j*4),(stopV o p false f),ptrAt S 2,.bool false,.bool (!false),ptr r,ptr r,ptrAt r 0,.slice (some ⟨gb,0,none⟩) nb cb,x21,x22,x23,x24,x25,x26,x27,x28,x29,x30,x31,x32],[]⟩) ?_;refine hD.mv (.int .i64 j) hk ?_;refine hD.index (n:=0) (v:=(ptrAt gb j)) hk rfl ⟨rfl,rfl,rfl,rfl,nofun⟩ rfl rfl (ix82 hjb) ?_;refine hD.ld (ptr b) hk (fun τ d=>ld60 hb1) ?_;refine hD.nc ⟨b,0,none⟩ hk ?_;refine norm0 (a':=⟨#[ptr r,x1,.int .i64 j,ptr S,ptr r,ptr r,ptrAt r 1,.slice (some ⟨gs',0,none⟩) ns cs',.int .i64 ns,.int .i64 j,.bool (decide ((j:Int)<ns)),.int .i64 j,ptrAt gs' (j*4),(stopV o p false f),ptrAt S 2,.bool false,.bool (!false),ptr r,ptr r,ptrAt r 0,.slice (some ⟨gb,0,none⟩) nb cb,.int .i64 j,ptrAt gb j,ptr b,ptr b,x25,x26,x27,x28,x29,x30,x31,x32],[]⟩) ?_;refine hD.fd (ptrAt b 2) hk (fld81 (by omega)) ?_;refine hD.ld (.chan (some c)) hk (fun τ d=>ld79 hc1) ?_;refine norm0 (a':=⟨#[ptr r,x1,.int .i64 j,ptr S,ptr r,ptr r,ptrAt r 1,.slice (some ⟨gs',0,none⟩) ns cs',.int .i64 ns,.int .i64 j,.bool (decide ((j:Int)<ns)),.int .i64 j,ptrAt gs' (j*4),(stopV o p false f),ptrAt S 2,.bool false,.bool (!false),ptr r,ptr r,ptrAt r 0,.slice (some ⟨gb,0,none⟩) nb cb,.int .i64 j,ptrAt gb j,ptr b,ptr b,ptrAt b 2,.chan (some c),x27,x28,x29,x30,x31,x32],[]⟩) ?_;exact h _ _ k1 ⟨_,_,_,_,_,_,_,_,_,_,_,_,_,_,_,_,_,_,_,_,_,_,_,_,_,rfl⟩
def unwTmR (r gs' ns cs' j k:Nat)(tm:Array Value):Prop:=∃ x1 x2 x3 x10 x11 x12 x13 x14 x15 x16 x17 x18 x19 x20 x21 x22 x23 x24 x25 x26 x27 x28 x29 x31 x32,tm=#[ptr r,x1,x2,x3,ptr r,ptr r,ptrAt r 1,.slice (some ⟨gs',0,none⟩) ns cs',.int .i64 ns,.int .i64 j,x10,x11,x12,x13,x14,x15,x16,x17,x18,x19,x20,x21,x22,x23,x24,x25,x26,x27,x28,x29,.chan (some k),x31,x32]
def unwRecv (tm:Array Value):Frame:=(base 44).at ⟨tm,[]⟩ [.inRegion (sO (sR (sT (sR (sR (sB (sL (sR (sR (sB (sB (sR c42)))))))))))) [4],.inBlock 1,.code (sR (sR (sR (sB (sB (sR c42)))))),.inLoop (sB (sB (sR c42))),.inBlock 0]
def unwShut (tm:Array Value):Frame:=(base 44).at ⟨tm,[]⟩ [.inRegion (sO (sL (sT (sR (sR (sB (sL (sR (sR (sB (sB (sR c42)))))))))))) [],.code (sR (sT (sR (sR (sB (sL (sR (sR (sB (sB (sR c42))))))))))),.inBlock 1,.code (sR (sR (sR (sB (sB (sR c42)))))),.inLoop (sB (sB (sR c42))),.inBlock 0]
theorem unw_walk {tm:Array Value}(hK:Det Try.prog m Kn)(hr:Cel w r [ba,.slice (some ⟨gs',0,none⟩) ns cs',.chan (some k),ac,.bool false] 86)(htm:unwTmC r gs' ns cs' j c tm)(h:∀ tm,unwTmR r gs' ns cs' j k tm→Kn n (gs (unwRecv tm) cs) w):Kn (n+6) (gs (unwShut tm) cs) w:=by
 obtain⟨x1,x2,x3,x10,x11,x12,x13,x14,x15,x16,x17,x18,x19,x20,x21,x22,x23,x24,x25,x27,x28,x29,x30,x31,x32,rfl⟩:=htm;unfold unwShut;have hk:(base 44).kind≠.early:=nofun;refine hK.regionEnd ?_;refine hK.region ?_;refine hK.move (v:=(ptr r)) hk rfl ⟨rfl,rfl,rfl,rfl,nofun⟩ rfl ?_;refine hK.nilc hk rfl ⟨rfl,rfl,rfl,rfl,nofun⟩ (show _=(ptr r) from rfl) ?_;refine hK.field (v:=(ptrAt r 2)) (u:=(ptr r)) hk rfl ⟨rfl,rfl,rfl,rfl,nofun⟩ rfl (fld86 (by omega)) ?_;refine hK.load (v:=(.chan (some k))) (u:=(ptrAt r 2)) hk rfl ⟨rfl,rfl,rfl,rfl,nofun⟩ rfl (fun τ d=>ld84 (hr.cell 2)) ?_;refine norm (Kn:=Kn) (a':=⟨#[ptr r,x1,x2,x3,ptr r,ptr r,ptrAt r 1,.slice (some ⟨gs',0,none⟩) ns cs',.int .i64 ns,.int .i64 j,x10,x11,x12,x13,x14,x15,x16,x17,x18,x19,x20,x21,x22,x23,x24,x25,.chan (some c),ptr r,ptr r,ptrAt r 2,.chan (some k),x31,x32],[]⟩) rfl ?_;exact h _ ⟨_,_,_,_,_,_,_,_,_,_,_,_,_,_,_,_,_,_,_,_,_,_,_,_,_,rfl⟩
theorem unw_next {tm:Array Value}{v:Value}(hD:Det Try.prog m fun _=>K)(hns:ns≤8)(hj:j<ns)(htm:unwTmR r gs' ns cs' j k tm)(h:∀ tm,unwTm r gs' ns cs' (j+1) tm→K (gs (unwHead tm) cs) w):K (Conc.served (gs (unwRecv tm) cs) v) w:=by
 obtain⟨x1,x2,x3,x10,x11,x12,x13,x14,x15,x16,x17,x18,x19,x20,x21,x22,x23,x24,x25,x26,x27,x28,x29,x31,x32,rfl⟩:=htm;have hk:(base 44).kind≠.early:=nofun;refine fin0 (some 31) ?_;refine norm0 (a':=⟨#[ptr r,x1,x2,x3,ptr r,ptr r,ptrAt r 1,.slice (some ⟨gs',0,none⟩) ns cs',.int .i64 ns,.int .i64 j,x10,x11,x12,x13,x14,x15,x16,x17,x18,x19,x20,x21,x22,x23,x24,x25,x26,x27,x28,x29,.chan (some k),v,x32],[]⟩) ?_;refine hD.e0 ?_;refine hD.inBlock (n:=0) ?_;refine hD.r0 ?_;refine hD.pure (n:=0) (v:=(.int .i64 ((j+1:Nat):Int))) hk rfl ⟨rfl,rfl,rfl,(by decide +kernel),nofun⟩ (fun w=>pu_inc (x:=.tmp 9) rfl rfl (by omega)) ?_;refine hD.mv (.int .i64 ((j+1:Nat):Int)) hk ?_;refine norm0 (a':=⟨#[ptr r,x1,x2,x3,ptr r,ptr r,ptrAt r 1,.slice (some ⟨gs',0,none⟩) ns cs',.int .i64 ns,.int .i64 ((j+1:Nat):Int),x10,x11,x12,x13,x14,x15,x16,x17,x18,x19,x20,x21,x22,x23,x24,x25,x26,x27,x28,x29,.chan (some k),v,.int .i64 ((j+1:Nat):Int)],[]⟩) ?_;refine hD.e0 ?_;refine hD.inLoop (n:=0) ?_;exact h _ ⟨_,_,_,_,_,_,_,_,_,_,_,_,_,_,_,_,_,_,_,_,_,_,_,_,_,_,rfl⟩
end Go.Proofs.Ytfbjopkiicmiiaa.Lift
namespace Go.Proofs.Ytfbjopkiicmiiaa.Lift
open Go Go.Conc
open Go.ConcR (KK WgAt stA smA DC0)
open Go.ConcN (WgLive)
theorem goes_plain {P:Program}{R:World→World→Prop}{Stop:Goroutine→World→Prop}{n:Nat}{g g':Goroutine}{w:World}(hr:∀ a b c,R a b→R b c→R a c)(hs:g.status=.running)(hst:∀ w,stepG P false g w=.go g' w #[])(h:∀ w1,R w w1→Goes P false R DC0 Stop n g' w1):Goes P false R DC0 Stop (n+1) g w :=
 .step hs fun w1 h1=>by rw[hst];exact⟨⟨rfl,rfl⟩,h w1 h1⟩
theorem stepG_leaveD {P:Program}{m:Bool}{b c:Frame}{a:Act}{todo:List Item}{cs:List Frame}{w:World}{fn:Func}(hn:b.kind=.deferred)(hd:a.defers=[])(hf:P.funcs[b.fn]?=some fn)(hr:fn.results=#[])
  (hc:c.mode=.returning∨∃ e:PanicEntry,e.recovered=true∧c.mode=.panicking [e]):stepG P m (gs { b.at a todo with mode:=.returning} (c::cs)) w=.go (gs { c with mode:=.returning} cs) w #[]:=by
 obtain⟨tm,ds⟩:=a;simp only at hd;subst hd;show unwind P m { b.at ⟨tm,[]⟩ todo with mode:=.returning} (c::cs) none w=_;unfold unwind;dsimp only[Frame.at];rw[hf];dsimp only;rw[Sem.runT_eq,results_none hr,events_results_none hr,seen_none];unfold doReturn;dsimp only;rw[hn];obtain⟨f1,t1,t2,d1,m1,k1,r1⟩:=c;rcases hc with hc | ⟨⟨v,rc,ge⟩,he,hc⟩
 ·simp only at hc;subst hc;rfl
 ·simp only at hc he;subst hc;subst he;rfl
theorem ptr_rel {ρ:Ren}{b B:Nat}{V:Value}(h:VRel ρ (ptr b) V)(hb:ρ b=some B):V=ptr B:=by
 cases h with
 | flat h=>cases h
 | pointer h=>rw[hb] at h;cases h;rfl
theorem d59_rel {ρ:Ren}{all B:Nat}{D:Deferred}(h:DRel ρ (d59 all) D)(hb:ρ all=some B):D=d59 B:=by
 obtain⟨tg,ar⟩:=D;obtain⟨h1,h2'⟩:=h;have h2:=(h2'.resolve_left fun⟨⟨c,e⟩,_⟩=>by cases e).2;clear h2';obtain rfl:ar=#[ptr B]:=by
  refine Array.ext h2.1.symm fun i i1 i2=>?_;have i2':i<1:=i2;obtain rfl:i=0:=by omega
  exact ptr_rel (h2.2 0 (ptr all) ar[0] rfl (as' i1)) hb
 cases h1 with
 | fn h3 h4 =>
  rename_i C;obtain rfl:C=#[]:=by
   have:C.size=0:=h4.1.symm;exact Array.size_eq_zero_iff.1 this
  rfl
theorem doner {ρ:Ren}{W:World}{B all:Nat}{G:Goroutine}{tm tmF:Array Value}{todoF:List Item}{mo:FrameMode}(hmo:mo=.returning∨∃ u,mo=.panicking [{v:=u,recovered:=true}])
  (hg:GRel ρ (gs ((baseD 60).at ⟨tm,[]⟩ [.inRegion opsL1 []]) [{(baseD 39).at ⟨tmF,[d59 all]⟩ todoF with mode:=mo},bot]) G) (hB:ρ all=some B) (hW:WgLive link.tWg B W):∃ n,DonerAt Try.prog link.tWg B 6 n G W:=by
 obtain⟨⟨f1,t1,l1,d1,m1,k1,r1⟩,CS,st,dy,off⟩:=G;obtain⟨hf,hc,hs,hd⟩:=hg;obtain⟨rfl⟩:=hd.2;have hs':st=.running:=hs.symm;subst hs';have e1:60=f1:=hf.fn;have e2:CallKind.deferred=k1:=hf.kind;have e3:[Item.inRegion opsL1 []]=l1:=hf.todo;have e4:r1=none:=hf.round.2;subst e1 e2 e3 e4;have e5:d1=[]:=by
  have:=hf.defers;simp only[Frame.at] at this;cases this;rfl
 have e6:m1=.run:=by
  have:=hf.mode;simp only[Frame.at] at this;cases this;rfl
 subst e5 e6;cases hc with
 | cons hF hc =>
  cases hc with
  | cons hb hc =>
   cases hc with
   | nil =>
    rename_i FG BG;obtain⟨f2,t2,l2,d2,m2,k2,r2⟩:=FG;obtain⟨f3,t3,l3,d3,m3,k3,r3⟩:=BG;have e1:39=f2:=hF.fn;have e2:CallKind.deferred=k2:=hF.kind;have e4:r2=none:=hF.round.2;subst e1 e2 e4;obtain rfl:d2=[d59 B]:=by
     have:=hF.defers;simp only[Frame.at] at this;cases this with
     | cons a b =>
      cases b;rw[d59_rel a hB]
    have hm2:m2=.returning∨∃ e:PanicEntry,e.recovered=true∧m2=.panicking [e]:=by
     have:=hF.mode;rcases hmo with rfl | ⟨u,rfl⟩
     ·cases this;exact .inl rfl
     ·cases this with
      | panicking h =>
       cases h with
       | cons a b =>
        cases b;exact .inr ⟨_,a.recd.symm,rfl⟩
    have g3:d3=[]:=by
     have:=hb.defers;cases this;rfl
    have g2:∃ e:PanicEntry,e.goexit=true∧e.recovered=false∧m3=.panicking [e]:=by
     have:=hb.mode;unfold bot at this;cases this with
     | panicking h =>
      cases h with
      | cons a b =>
       cases b;exact⟨_,a.gone.symm,a.recd.symm,rfl⟩
    have g1:f3=Try.prog.funcs.size:=hb.fn.symm;subst g1 g3;obtain⟨eg,heg,her,rfl⟩:=g2;have g4:l3=[]:=hb.todo.symm;subst g4;have hq:QuitsD Try.prog 2 0 (Go.Conc.G { (baseD 39).at ⟨t2,[]⟩ l2 with mode:=.returning} [⟨Try.prog.funcs.size,t3,[],[],.panicking [eg],k3,r3⟩]):=by
     obtain⟨ev,er,ege⟩:=eg;simp only at heg her;subst heg her;refine .inr ⟨rfl,gs ⟨Try.prog.funcs.size,t3,[],[],.panicking [⟨ev,false,true⟩],k3,r3⟩ [],#[],by simp,fun w=>?_,.inr ⟨rfl,{frame:=⟨Try.prog.funcs.size,t3,[],[],.panicking [⟨ev,false,true⟩],k3,r3⟩,callers:=[],status:=.finished,dying:=none},#[],by simp,fun w=>?_,⟨rfl,rfl⟩⟩⟩
     ·show unwind Try.prog false { (baseD 39).at ⟨t2,[]⟩ l2 with mode:=.returning} _ none w=_
      unfold unwind;dsimp only[Frame.at];rw[show Try.prog.funcs[(baseD 39).fn]?=some Try.f39 from Try.func39];dsimp only;rw[Sem.runT_eq,results_none (show Try.f39.results=#[] from rfl),events_results_none (show Try.f39.results=#[] from rfl),seen_none];rfl
     ·show unwind Try.prog false ⟨Try.prog.funcs.size,t3,[],[],.panicking [⟨ev,false,true⟩],k3,r3⟩ [] none w=_
      unfold unwind;have hcat:Frame.catches Try.prog ⟨Try.prog.funcs.size,t3,[],[],.panicking [⟨ev,false,true⟩],k3,r3⟩=false:=by
       unfold Frame.catches;cases Try.prog.funcs[Try.prog.funcs.size]?<;>rfl
      simp only[hcat];rfl
    refine⟨64,?_⟩;show Goes Try.prog false (RL link.tWg B) DC0 (DQ6 Try.prog link.tWg B) 64 _ W;refine goes_plain (g':=gs ((baseD 60).at ⟨t1,[]⟩ []) [_,_]) rl_trans rfl (fun w=>rfl) fun w1 r1=>?_;refine goes_plain (g':=gs { (baseD 60).at ⟨t1,[]⟩ [] with mode:=.returning} [_,_]) rl_trans rfl (fun w=>rfl) fun w2 r2=>?_;refine goes_plain rl_trans rfl (fun w=>stepG_leaveD (b:=baseD 60) rfl rfl Try.func60 rfl hm2) fun w3 r3=>?_;refine goes_plain rl_trans rfl (fun w=>stepG_unwind_enter (b:=baseD 39) (a:=⟨t2,[d59 B]⟩) (ds:=[]) (f:=59) (args:=#[ptr B]) (todo:=l2) rfl Try.func59 rfl rfl) fun w4 r4=>?_;exact done_walk wgLib (Wg:=B) rfl hq w4 (r4 (r3 (r2 (r1 hW))))
open Go.ConcN (sumTo upd sumTo_upd upd_ne upd_same WgLive)
inductive TS (L:Type)
 | fresh
 | susp (l:L × List Nat) (rv:Value)
 | done
inductive ES (L:Type)
 | fresh
 | susp (l:L)
 | done
def er {L:Type}:TS L→ES L
 | .fresh=>.fresh
 | .susp l _=>.susp l.1
 | .done=>.done
structure WC where
 n:Nat
 r:Nat
 k:Nat
 st:Nat
 gb:Nat
 cb:Nat
 all:Nat
 g0:Nat
 bt:Nat→Nat
 ch:Nat→Nat
 b0:Nat→Nat
 fn:Nat→FuncId
 cap:Nat→Array Value
def standOf {L:Type}:TS L→List Value
 | .fresh=>[.bool false,.bool false,.bool false,.nilFunc]
 | .susp _ rv=>[.bool false,.bool false,.bool false,rv]
 | .done=>[.bool true,.bool false,.bool true,.nilFunc]
def standsOf {L:Type}(n:Nat)(st:Nat→TS L):List Value:=(List.range n).flatMap fun i=>standOf (st i)
def updT {L:Type}(st:Nat→TS L)(i:Nat)(t:TS L):Nat→TS L:=fun j=>if j=i then t else st j
structure Kx (X X':Nat→Prop)(w w':World):Prop where
 size:w.heap.size≤w'.heap.size
 block:∀ b,b<w.heap.size→¬ X b→w'.heap[b]?=w.heap[b]?
 own:∀ b,X' b→X b∨w.heap.size≤b
structure Bods (L A:Type) where
 mem:A→(Nat→TS L)→(Nat→Prop)→World→Prop
 rs:Nat→L × List Nat→List Frame→Prop
 go:Nat→ES L→A→Nat→A × Option L
 rdy:Nat→L→A→Bool
 due:A→Prop
def starts {L A:Type}(B:Bods L A)(C:WC)(i:Nat)(t:TS L)(F:Frame)(cs:List Frame)(g:Goroutine):Prop :=
 match t with
 | .fresh=>∃ args,ptr (C.bt i)::(C.cap i).toList=Array.toList args∧g=gs (Frame.enter Try.prog (C.fn i) args .normal) (F::cs)
 | .susp l _=>∃ c rest,B.rs i l (c::rest)∧g=gs (c.finish (.tuple #[])) (rest++F::cs)
 | .done=>False
structure BOk {L A:Type}(B:Bods L A)(C:WC):Prop where
 dues:∀ i t a n,B.due (B.go i t a n).1
 bound:∀ {a st X w b},B.mem a st X w→X b→b<w.heap.size
 frame:∀ {a st X w w'},B.mem a st X w→(∀ b,X b→w'.heap[b]?=w.heap[b]?)→w.heap.size≤w'.heap.size→B.mem a st X w'
 rsok:∀ {i l fs},B.rs i l fs→∀ f∈fs,f.mode=.run∧f.defers=[]∧∃ fn,Try.prog.funcs[f.fn]?=some fn
 ready:∀ {a st X w i l rv},B.mem a st X w→i<C.n→st i=.susp l rv→(rv=.nilFunc∧B.rdy i l.1 a=true) ∨
  ∃ f bd cap fn cd,rv=.func (.func f) bd cap∧Try.prog.funcs[f]?=some fn∧(fn.name == "runtime.NumGoroutine")=false∧fn.body=some cd∧∀ m K,Cl Try.prog m K→Asks K w f (bd++cap) (B.rdy i l.1 a)
 fns:∀ {i},i<C.n→∃ fn cd,Try.prog.funcs[C.fn i]?=some fn∧(fn.name == "runtime.NumGoroutine")=false∧fn.body=some cd
 run:∀ {i st a X w n ga ca ba sa ck F cs g},i<C.n→B.mem a st X w→n<4294967296→0<n→Cel w (C.bt i) [ptr C.r,.int .i64 i,.chan (some (C.ch i)),.bool false] 79→Cel w C.r [ba,sa,ck,.slice ga n ca,.bool false] 86 →
  starts B C i (st i) F cs g→F.mode=.run→∀ K,Cl Try.prog false K →
  (∀ a' l rv c rest X' w',B.go i (er (st i)) a n=(a',some l.1)→B.rs i l (c::rest)→B.mem a' (updT st i (.susp l rv)) X' w'→Kx X X' w w'→isFn rv →
   K (gs (Frame.enter Try.prog 30 #[ptr (C.bt i),stopV false false false rv] .normal) (c::(rest++F::cs))) w') →
  (∀ a' X' w',B.go i (er (st i)) a n=(a',none)→B.mem a' (updT st i .done) X' w'→Kx X X' w w'→K (gs (F.finish (.tuple #[])) cs) w')→K g w
structure WMem {L:Type}(C:WC)(st:Nat→TS L)(acts:List Nat)(ga:Option Addr)(ca:Nat)(rz:Nat × Nat)(u:Nat)(w:World):Prop where
 r:w.heap[C.r]?=some (.cells #[.slice (some ⟨C.gb,0,none⟩) C.n C.cb,.slice (some ⟨C.st,0,none⟩) C.n C.n,.chan (some C.k),.slice ga acts.length ca,.bool false] 86 rz)
 gb:∃ cells,Pl.Blk w C.gb cells 49∧∀ i,i<C.n→cells[i]?=some (ptr (C.bt i))
 stn:Pl.Blk w C.st (standsOf C.n st) 72
 bt:∀ i,u≤i→i<C.n→w.heap[C.bt i]?=some (.cells #[ptr C.r,.int .i64 i,.chan (some (C.ch i)),.bool false] 79 (0,4))
 live:∀ i l rv,i<C.n→st i=.susp l rv→Pl.Blk w (C.b0 i) [ptr C.r] 76∧Pl.Blk w (C.b0 i+1) [.bool true,.bool true,.bool true,.nilFunc] 72
 rep:RepU w (.slice ga acts.length ca) acts
 sep:∀ b∈Pl.fp (.slice ga acts.length ca),b≠C.r∧b≠C.gb∧b≠C.st∧∀ j,j<C.n→b≠C.bt j∧b≠C.b0 j∧b≠C.b0 j+1
 room:∀ j,j<C.n→C.b0 j+1<w.heap.size∧C.bt j<w.heap.size
def WC.Y (C:WC)(v:Value)(b:Nat):Prop:=b=C.r∨b=C.gb∨b=C.st∨b∈Pl.fp v∨∃ i,i<C.n∧(b=C.bt i∨b=C.b0 i∨b=C.b0 i+1)
structure WC.Ok (C:WC):Prop where
 n8:C.n≤8
 g0:0<C.g0
 stb:∀ i,i<C.n→C.st≠C.b0 i∧C.st≠C.b0 i+1
 rb:∀ i,i<C.n→C.r≠C.b0 i∧C.r≠C.b0 i+1
 gbb:∀ i,i<C.n→C.gb≠C.b0 i∧C.gb≠C.b0 i+1
 btr:∀ i,i<C.n→C.bt i≠C.r
 btb:∀ i j,i<C.n→j<C.n→C.bt i≠C.b0 j∧C.bt i≠C.b0 j+1
 rgb:C.r≠C.gb∧C.r≠C.st∧C.gb≠C.st
 bts:∀ i,i<C.n→C.bt i≠C.gb∧C.bt i≠C.st
 b0s:∀ i j,i<j→j<C.n→C.b0 i+1<C.b0 j
 bti:∀ i j,i<C.n→j<C.n→C.bt i=C.bt j→i=j
 chi:∀ i j,i<C.n→j<C.n→C.ch i=C.ch j→i=j
 chk:∀ i,i<C.n→C.ch i≠C.k
section
variable {L A:Type}(B:Bods L A)(C:WC)
structure SeatF (i:Nat)(s:SeatS):Prop where
 c:s.c=C.ch i
 z:s.z=.agg #[]
 ok:s.ok=true
 lo:s.lo=C.b0 i
 hi:s.hi=C.b0 i+2
 lent:∀ b,s.lent b→b≠C.r∧∀ j,j<C.n→j≠i→b≠C.bt j
 at_:∀ g p,s.At g p→g=gs (comeAt (C.bt i) (C.ch i)) [liveA C.r (C.bt i) (.func (.func (C.fn i)) #[] (C.cap i)) C.all (C.b0 i) (C.b0 i+1),bot] ∧
  p.heap[C.b0 i]?=some (.cells #[ptr C.r] 76 (0,0))∧p.heap[C.b0 i+1]?=some (.cells #[.bool true,.bool true,.bool true,.nilFunc] 72 (0,0))
structure SeatX (i:Nat)(l:L × List Nat)(rv:Value)(s:SeatS):Prop where
 c:s.c=C.ch i
 z:s.z=.agg #[]
 ok:s.ok=true
 flat:s.lo=s.hi
 lent:∀ b,s.lent b→b≠C.r∧∀ j,j<C.n→j≠i→b≠C.bt j
 at_:∀ g p,s.At g p→∃ y c rest,B.rs i l (c::rest)∧g=gs (comeAt (C.bt i) (C.ch i)) (yieldB (C.bt i) C.r C.k y false false false rv::c::(rest++[liveB C.r (C.bt i) (C.fn i) (C.cap i) C.all (C.b0 i) (C.b0 i+1),bot]))
structure Seats (S:SC)(st:Nat→TS L)(h:Nat):Prop where
 n:S.n=C.g0+C.n
 fresh:∀ i,i<C.n→i≠h→st i=.fresh→∃ s,S.role (C.g0+i)=.seat s∧SeatF C i s
 susp:∀ i l rv,i<C.n→i≠h→st i=.susp l rv→∃ s,S.role (C.g0+i)=.seat s∧SeatX B C i l rv s
 done:∀ i,i<C.n→i≠h→st i=.done→S.role (C.g0+i)=.doner C.all
 old:∀ j,0<j→(∀ i,i<C.n→j≠C.g0+i)→S.role j=.none
 chk:S.chs C.k
 chs:∀ i,i<C.n→st i≠.done→S.chs (C.ch i)
 wgs:S.wgs C.all
 pend:S.pend C.all=0
 grp:∀ j,S.grp j=some C.all↔∃ i,i<C.n∧j=C.g0+i
 grn:∀ j,S.grp j=none∨S.grp j=some C.all
 fz:∀ i,i<C.n→st i≠.done→S.fz (C.bt i)
 rlo:S.n0≤C.r
 blo:∀ i,i<C.n→S.n0≤C.bt i
end
theorem sound_fair {P:Program}{ty:TypeId}{Post:Value→World→Prop}{h:Nat}{S:SC}{g:Goroutine}(hs:Fair S→S.role h=.none→h<S.n→Sound P ty Post h S g):Sound P ty Post h S g:=by
 intro ρ ω und T gs W sl q lv G R;have hn:h<S.n:=by
  have:=(aq' R.recd).1;rw[R.base.size] at this;exact this
 exact hs R.base.fair R.role hn ρ ω und T gs W sl q lv G R
def lentOf (w:World)(b0 b:Nat):Prop:=b=b0∨∃ a l,w.heap[b]?=some (.number a l)
theorem lentOf_still {w:World}{b0:Nat}{c:Array Value}{t:TypeId}(h:w.heap[b0]?=some (.cells c t (0,c.size))):∀ b,lentOf w b0 b→Stl w b∧w.heap[b]?≠some poison:=by
 rintro b (rfl | ⟨a,l,h'⟩)
 ·exact⟨.inr (.inl ⟨_,_,_,h,fun o ho=>by simp[inFz,ho]⟩),by rw[h];simp[poison]⟩
 ·exact⟨.inr (.inr ⟨a,l,h'⟩),by rw[h'];simp[poison]⟩
theorem only_cell {L:Nat→Prop}{w:World}{a:Addr}(h:L a.block):(only L w).cell? a=w.cell? a:=by
 unfold World.cell?;rw[only_in h]
theorem stp_send {P:Program}{m:Bool}{b:Frame}{a:Act}{k:List Item}{cs:List Frame}{w:World}{ops:Array Oper}{i:Nat}{rest:List Nat}{o:Oper}{x y:Operand}{c:Nat}{v:Value}(ho:ops[i]?=some o)(hg:o.guard=none)(hk:b.kind≠.early)(hop:o.op=.send x y)(hx:a.eval x=.chan (some c))(hy:a.eval y=v) :
  ∀ τ d,∃ es,stepG P m (gs (b.at a (.inRegion ops (i::rest)::k)) cs) (re w τ d)=.comm (gs (b.at a (.inRegion ops (i::rest)::k)) cs) #[scase c v (.tuple #[])] true .send (re w τ d) es:=fun τ d =>
 ⟨_,stepG_comm ho (by unfold Region.wanted;rw[hg]) hk (x_send hop hx hy)⟩
theorem x_recv79 {a:Act}{o:Oper}{x:Operand}{c:Nat}{w:World}(hop:o.op=.recv 77 x true)(hx:a.eval x=.chan (some c)):(execOp a.eval o).run Try.prog w=.ok (.comm #[rcase c (.agg #[])] true (.recv true)) w:=by
 unfold execOp;rw[hop];simp only[hx];simp[go_sem,Try.underlying77,Try.zeroValue80,rcase]
theorem x_recv84 {a:Act}{o:Oper}{x:Operand}{c:Nat}{w:World}(hop:o.op=.recv 84 x false)(hx:a.eval x=.chan (some c)):(execOp a.eval o).run Try.prog w=.ok (.comm #[rcase c (stopV false false false .nilFunc)] true (.recv false)) w:=by
 unfold execOp;rw[hop];simp only[hx];simp[go_sem,Try.underlying84,Try.zeroValue72,rcase]
theorem come_at {m:Bool}{b c:Nat}{cs:List Frame}{w:World}{s:SeatS}(hc:s.c=c)(hz:s.z=.agg #[])(ho:s.ok=true)(hA:s.At (gs (comeAt b c) cs) w):AtRecv Try.prog m s (gs (comeAt b c) cs) w:=by
 refine⟨rfl,fun _=>?_,fun τ d=>?_,hA⟩
 ·exact okHd_op (b:=base 36) (a:=_) (ops:=sO (sL c45)) (i:=4) rfl rfl nofun
 ·refine⟨_,(stepG_comm (b:=base 36) (ops:=sO (sL c45)) (i:=4) (rest:=[5,6,7,8,9,10]) (o:=_) (cases:=#[rcase s.c s.z]) (blocking:=true) (shape:=.recv s.ok) rfl rfl nofun ?_)⟩
  rw[hc,hz,ho];exact x_recv79 (x:=.tmp 8) rfl rfl
def isCells (w:World)(b:Nat):Prop:=∃ cs t fz,w.heap[b]?=some (.cells cs t fz)
theorem isCells.lt {w:World}{b:Nat}(h:isCells w b):b<w.heap.size:=let ⟨_,_,_,h⟩:=h;(aq' h).1
theorem isCells.kp {w w':World}{b:Nat}(h:isCells w b)(k:Kp [] w w'):isCells w' b:=let ⟨c,t,z,h'⟩:=h;⟨c,t,z,(k.block b h.lt (by simp)).trans h'⟩
theorem lentOf_ne {w:World}{b0 b x:Nat}(h:lentOf w b0 b)(hx:isCells w x)(hne:b0≠x):b≠x:=by
 rintro rfl;rcases h with rfl | ⟨a,l,h⟩
 ·exact hne rfl
 ·obtain⟨c,t,z,h'⟩:=hx
  rw[h'] at h;cases h
section
variable {L A:Type}{B:Bods L A}{C:WC}{Post:Value→World→Prop}{S:SC}{i:Nat}{l:L × List Nat}{rv:Value}{c:Frame}{rest:List Frame}{s0:SeatS}{ba sa ac:Value}
theorem thr_yield (hC:C.Ok)(hi:i<C.n)(h0:S.role 0=.seat s0)(hok:s0.ok=false)
  (hb:S.w.heap[C.bt i]?=some (.cells #[ptr C.r,.int .i64 i,.chan (some (C.ch i)),.bool false] 79 (0,4))) (hr:Cel S.w C.r [ba,sa,.chan (some C.k),ac,.bool false] 86) (hk0:s0.c=C.k)
  (hch:S.chs (C.ch i)) (hinj:∀ j s1,j≠0→S.role j=.seat s1→s1.c≠C.ch i) (hrs:B.rs i l (c::rest)) (hbr:C.bt i≠C.r) (hcells:∀ j,j<C.n→isCells S.w (C.bt j))
  (hnext:∀ w' g2 p2 s',Kp [] S.w w'→s0.At g2 p2→SeatX B C i l rv s'→Sound Try.prog link.tWg Post 0 (({S with w:=w'}).give (C.g0+i) 0 s0 (.seat s') p2) (Conc.served g2 (stopV false false false rv))) :
  Sound Try.prog link.tWg Post (C.g0+i) S (gs (Frame.enter Try.prog 30 #[ptr (C.bt i),stopV false false false rv] .normal) (c::(rest++[liveB C.r (C.bt i) (C.fn i) (C.cap i) C.all (C.b0 i) (C.b0 i+1),bot]))):=by
 have hK:=cl_sound (P:=Try.prog) (ty:=link.tWg) (Post:=Post) (S:=S) (h:=C.g0+i) fits;have hbC:Cel S.w (C.bt i) [ptr C.r,.int .i64 i,.chan (some (C.ch i)),.bool false] 79:=⟨_,hb⟩;refine ks (S:=S) (yield_to hK hbC hr ?_) rfl;have k1:=Kp.alloc [] S.w (.cells #[.bool false,.bool false,.bool false,rv] 72);generalize S.w.alloc (.cells #[.bool false,.bool false,.bool false,rv] 72)=w1 at k1 ⊢;have hb1:w1.heap[C.bt i]?=some (.cells #[ptr C.r,.int .i64 i,.chan (some (C.ch i)),.bool false] 79 (0,4)):=(k1.block _ hbC.lt (by simp)).trans hb;have hr1:=k1.cel hr (by simp);show Sound Try.prog link.tWg Post (C.g0+i) { S with w:=w1} _;refine sound_fair fun F hrole hn=>?_;have hg0:=hC.g0
 let s':SeatS:={c:=C.ch i,z:=.agg #[],ok:=true,lent:=lentOf w1 (C.bt i),lo:=w1.heap.size,hi:=w1.heap.size,At:=fun g _=>g=gs (comeAt (C.bt i) (C.ch i)) (yieldB (C.bt i) C.r C.k S.w.heap.size false false false rv::c::(rest++[liveB C.r (C.bt i) (C.fn i) (C.cap i) C.all (C.b0 i) (C.b0 i+1),bot]))}
 have hsx:SeatX B C i l rv s':=⟨rfl,rfl,rfl,rfl,fun b hb'=>⟨lentOf_ne hb' (let ⟨z,h⟩:=hr1;⟨_,_,z,h⟩) hbr,fun j hj hne=>lentOf_ne hb' ((hcells j hj).kp k1) fun e=>hne (hC.bti _ _ hj hi e.symm)⟩,fun g p h=>⟨_,c,rest,hrs,h⟩⟩;refine sound_give fits (j:=0) (s:=s0) (r:=.seat s') (v:=stopV false false false rv) (z:=.tuple #[]) (fun _=>okHd_op (b:=base 30) (ops:=y4) (i:=8) rfl rfl nofun) h0 (by omega)
  (fun τ d=>?_) ⟨fun s1 e=>?_,fun b e=>(by cases e),by simp⟩ (fun s1 e=>?_) (fun b e=>(by cases e)) fun g2 p2 hAt=>?_
 ·refine stp_send (b:=base 30) (ops:=y4) (i:=8) (rest:=[]) (x:=.tmp 18) (y:=.tmp 19) rfl rfl nofun rfl ?_ rfl τ d
  rw[hk0];rfl
 ·cases e
  exact⟨rfl,Nat.le_refl _,hch,lentOf_still hb1,fun j s1 hj hs=>hinj j s1 hj hs⟩
 ·cases e
  refine⟨rfl,fun b a l h=>.inr ⟨a,l,h⟩,?_⟩;have hA:Blind s'.At:=fun g w τ d h=>h;have hw:=yield_back (Kn:=KW Try.prog (C.g0+i==0) s') (n:=0) (det_walk hA) (b:=C.bt i) (c:=C.ch i) (r:=C.r) (k:=C.k) (y:=S.w.heap.size) (o:=false) (p:=false) (g:=false) (f:=rv) (w:=only s'.lent w1) (cs:=c::(rest++[liveB C.r (C.bt i) (C.fn i) (C.cap i) C.all (C.b0 i) (C.b0 i+1),bot]))
   ((only_cell (.inl rfl)).trans ((k1.cel hbC (by simp)).cell 2)) ⟨by rw[only_size];exact Nat.le_refl _,come_at rfl rfl rfl rfl⟩
  exact⟨_,hw.2⟩
 ·rw[hok]
  exact hnext w1 g2 p2 s' k1 hAt hsx
end
theorem Kp.set (w:World)(b i:Nat)(v:Value):Kp [b] w (w.setCell ⟨b,i,none⟩ v):=Keeps.kp (Pl.Keeps.setCell (F:=[b]) (Pl.Keeps.refl _ w) ⟨b,i,none⟩ v (fun _=>by simp))
section
variable {L A:Type}{B:Bods L A}{C:WC}{Post:Value→World→Prop}{S:SC}{i:Nat}{s0:SeatS}{ba sa ac:Value}
theorem thr_last (hC:C.Ok)(hi:i<C.n)(h0:S.role 0=.seat s0)(hok:s0.ok=false)(hk0:s0.c=C.k)(hgrp:S.grp (C.g0+i)=some C.all)(hwgs:S.wgs C.all){p:Bool}{v2:Value}{tmF:Array Value}{todoF:List Item}{mo:FrameMode}(hmo:mo=.returning∨∃ u,mo=.panicking [{v:=u,recovered:=true}])
  (hnext:∀ g2 p2,s0.At g2 p2→Sound Try.prog link.tWg Post 0 (S.give (C.g0+i) 0 s0 (.doner C.all) p2) (Conc.served g2 (stopV true p true .nilFunc))) :
  Sound Try.prog link.tWg Post (C.g0+i) S (gs (live1At (C.b0 i) (C.b0 i+1) C.r C.k true p true v2) [{(baseD 39).at ⟨tmF,[d59 C.all]⟩ todoF with mode:=mo},bot]):=by
 have hg0:=hC.g0;refine sound_give fits (j:=0) (s:=s0) (r:=.doner C.all) (v:=stopV true p true .nilFunc) (z:=.tuple #[]) (fun _=>okHd_op (b:=baseD 60) (ops:=opsL1) (i:=5) rfl rfl nofun) h0 (by omega)
  (fun τ d=>?_) ⟨fun s1 e=>(by cases e),fun b e=>?_,by simp⟩ (fun s1 e=>(by cases e)) (fun b e ρ W B' G hg hB hW=>?_) fun g2 p2 hAt=>?_
 ·refine stp_send (b:=baseD 60) (ops:=opsL1) (i:=5) (rest:=[]) (x:=.tmp 6) (y:=.tmp 7) rfl rfl nofun rfl ?_ rfl τ d
  rw[hk0];rfl
 ·cases e
  exact⟨hgrp,hwgs,by omega⟩
 ·cases e
  exact doner hmo hg hB hW
 ·rw[hok]
  exact hnext g2 p2 hAt
theorem thr_over (hC:C.Ok)(hi:i<C.n)(h0:S.role 0=.seat s0)(hok:s0.ok=false)(hk0:s0.c=C.k)(hgrp:S.grp (C.g0+i)=some C.all)(hwgs:S.wgs C.all)
  (hr:Cel S.w C.r [ba,sa,.chan (some C.k),ac,.bool false] 86) (hB0:Pl.Blk S.w (C.b0 i) [ptr C.r] 76) (hB1:Pl.Blk S.w (C.b0 i+1) [.bool true,.bool true,.bool true,.nilFunc] 72)
  (hnext:∀ w' g2 p2,Kp [C.b0 i+1] S.w w'→s0.At g2 p2→Sound Try.prog link.tWg Post 0 (({S with w:=w'}).give (C.g0+i) 0 s0 (.doner C.all) p2) (Conc.served g2 (stopV true false true .nilFunc))) :
  Sound Try.prog link.tWg Post (C.g0+i) S (gs ((liveB C.r (C.bt i) (C.fn i) (C.cap i) C.all (C.b0 i) (C.b0 i+1)).finish (.tuple #[])) [bot]):=by
 have hK:=cl_sound (P:=Try.prog) (ty:=link.tWg) (Post:=Post) (S:=S) (h:=C.g0+i) fits;refine ks (S:=S) (live_end (n:=0) hK.det hB1 ?_) rfl;have k1:=Kp.set S.w (C.b0 i+1) 1 (.bool false);have b1:=hB1.set 1 (.bool false);generalize S.w.setCell ⟨C.b0 i+1,1,none⟩ (.bool false)=w1 at k1 b1 ⊢;have hne:C.b0 i∉[C.b0 i+1]:=by simp
 have hrne:C.r∉[C.b0 i+1]:=by
  simp only[List.mem_singleton];intro e;obtain⟨z,hz⟩:=hr;have h1:S.w.heap[C.b0 i+1]?=some (.cells #[.bool true,.bool true,.bool true,.nilFunc] 72 (0,0)):=hB1;rw[e,h1] at hz;simp at hz
 refine live1_ret hK (cl:=liveR C.r (C.bt i) (C.fn i) (C.cap i) C.all (C.b0 i) (C.b0 i+1)) rfl ((k1.blk hB0 hne).cell 0) (k1.cel hr hrne) (Blk.cel b1) ?_;show Sound Try.prog link.tWg Post (C.g0+i) { S with w:=w1} _;exact thr_last (S:={S with w:=w1}) hC hi h0 hok hk0 hgrp hwgs (.inl rfl) (hnext w1 · · k1)
end
def stopOf {L:Type}:TS L→Value
 | .fresh=>stopV false false false .nilFunc
 | .susp _ rv=>stopV false false false rv
 | .done=>stopV true false true .nilFunc
def roleIs {L A:Type}(B:Bods L A)(C:WC)(i:Nat)(t:TS L)(r:Role):Prop:=match t with
 | .fresh=>False
 | .susp l rv=>∃ s,r=.seat s∧SeatX B C i l rv s
 | .done=>r=.doner C.all
def Acted {L A:Type}(B:Bods L A)(i:Nat)(t:TS L)(a:A)(n:Nat)(a':A)(t':TS L):Prop :=
 match t' with
 | .fresh=>False
 | .susp l rv=>B.go i (er t) a n=(a',some l.1)∧isFn rv
 | .done=>B.go i (er t) a n=(a',none)
structure Ka (C:WC)(i:Nat)(X X':Nat→Prop)(w w':World):Prop where
 size:w.heap.size≤w'.heap.size
 block:∀ b,b<w.heap.size→¬ X b→b≠C.b0 i+1→w'.heap[b]?=w.heap[b]?
 own:∀ b,X' b→X b∨w.heap.size≤b
theorem merge_flat {w p:World}{s:SeatS}(h:s.lo=s.hi):merge w s p=w:=by
 have:(merge w s p).heap=w.heap:=by
  apply Array.ext_getElem?;intro b;exact merge_not fun ho=>by have:=ho.1;have:=ho.2;omega
 show({w with heap:=(merge w s p).heap}:World)=w;rw[this]
section
variable {L A:Type}{B:Bods L A}{C:WC}{Post:Value→World→Prop}{S:SC}{i:Nat}{s0:SeatS}{ba sa:Value}{st:Nat→TS L}{a:A}{X:Nat→Prop}{n ca:Nat}{ga:Option Addr}
theorem thr_run (hB:BOk B C)(hC:C.Ok)(hi:i<C.n)(h0:S.role 0=.seat s0)(hok:s0.ok=false)(hk0:s0.c=C.k)(hfl:s0.lo=s0.hi)(hgrp:S.grp (C.g0+i)=some C.all)(hwgs:S.wgs C.all)
  (hch:S.chs (C.ch i)) (hinj:∀ j s1,j≠0→S.role j=.seat s1→s1.c≠C.ch i) (hcells:∀ j,j<C.n→isCells S.w (C.bt j)) (hbr:C.bt i≠C.r)
  (hb:S.w.heap[C.bt i]?=some (.cells #[ptr C.r,.int .i64 i,.chan (some (C.ch i)),.bool false] 79 (0,4)))
  (hr:Cel S.w C.r [ba,sa,.chan (some C.k),.slice ga n ca,.bool false] 86) (hn:n<4294967296) (hn0:0<n)
  (hB0:Pl.Blk S.w (C.b0 i) [ptr C.r] 76) (hB1:Pl.Blk S.w (C.b0 i+1) [.bool true,.bool true,.bool true,.nilFunc] 72)
  (hm:B.mem a st X S.w) (hX:∀ b,X b→b≠C.r∧b≠C.b0 i∧b≠C.b0 i+1∧∀ j,j<C.n→b≠C.bt j)
  (hnext:∀ w' g2 p2 r' a' t' X',Acted B i (st i) a n a' t'→roleIs B C i t' r'→B.mem a' (updT st i t') X' w'→Ka C i X X' S.w w'→((∃ l rv,t'=.susp l rv)→w'.heap[C.b0 i+1]?=S.w.heap[C.b0 i+1]?)→s0.At g2 p2 →
   Sound Try.prog link.tWg Post 0 (({S with w:=w'}).give (C.g0+i) 0 s0 r' p2) (Conc.served g2 (stopOf t')))
  {g:Goroutine} (hg:starts B C i (st i) (liveB C.r (C.bt i) (C.fn i) (C.cap i) C.all (C.b0 i) (C.b0 i+1)) [bot] g):Sound Try.prog link.tWg Post (C.g0+i) S g:=by
 have hK:=cl_sound (P:=Try.prog) (ty:=link.tWg) (Post:=Post) (S:=S) (h:=C.g0+i) fits;have hg0:=hC.g0;have hmf:(C.g0+i==0)=false:=by simp;omega
 rw[hmf] at hK;have hbC:Cel S.w (C.bt i) [ptr C.r,.int .i64 i,.chan (some (C.ch i)),.bool false] 79:=⟨_,hb⟩;refine ks (S:=S) (hB.run hi hm hn hn0 hbC hr hg rfl _ hK (fun a' l rv c rest X' w' hgo hrs hm' hk hf=>?_) fun a' X' w' hgo hm' hk=>?_) rfl
 ·show Sound Try.prog link.tWg Post (C.g0+i) { S with w:=w'} _
  have hbw:∀ j,j<C.n→w'.heap[C.bt j]?=S.w.heap[C.bt j]?:=fun j hj=>hk.block _ (hcells j hj).lt fun hx=>(hX _ hx).2.2.2 j hj rfl;have hB1':w'.heap[C.b0 i+1]?=S.w.heap[C.b0 i+1]?:=hk.block _ (Pl.Blk.lt hB1) fun hx=>(hX _ hx).2.2.1 rfl;refine thr_yield (S:={S with w:=w'}) (B:=B) hC hi h0 hok ((hbw i hi).trans hb) (hr.same (hk.block _ hr.lt fun hx=>(hX _ hx).1 rfl)) hk0 hch hinj hrs hbr (fun j hj=>?_) fun w2 g2 p2 s' k2 hAt hsx=>?_
  ·obtain⟨c,t,z,h⟩:=hcells j hj
   exact⟨c,t,z,(hbw j hj).trans h⟩
  ·exact hnext w2 g2 p2 (.seat s') a' (.susp l rv) X' ⟨hgo,hf⟩ ⟨s',rfl,hsx⟩ (hB.frame hm' (fun b hb=>k2.block b (hB.bound hm' hb) (by simp)) k2.size)
    ⟨Nat.le_trans hk.size k2.size,fun b hb hx _=>(k2.block b (nl' hb hk.size) (by simp)).trans (hk.block b hb hx),hk.own⟩
    (fun _=>(k2.block _ (nl' (Pl.Blk.lt hB1) hk.size) (by simp)).trans hB1') hAt
 ·show Sound Try.prog link.tWg Post (C.g0+i) { S with w:=w'} _
  have hB1':w'.heap[C.b0 i+1]?=S.w.heap[C.b0 i+1]?:=hk.block _ (Pl.Blk.lt hB1) fun hx=>(hX _ hx).2.2.1 rfl;have hB0':w'.heap[C.b0 i]?=S.w.heap[C.b0 i]?:=hk.block _ (Pl.Blk.lt hB0) fun hx=>(hX _ hx).2.1 rfl;refine thr_over (S:={S with w:=w'}) hC hi h0 hok hk0 hgrp hwgs (hr.same (hk.block _ hr.lt fun hx=>(hX _ hx).1 rfl)) (hB0'.trans hB0) (hB1'.trans hB1) fun w2 g2 p2 k2 hAt=>?_;have hx1:¬ X' (C.b0 i+1):=fun hx=>by
   rcases hk.own _ hx with h | h
   ·exact(hX _ h).2.2.1 rfl
   ·have:=Pl.Blk.lt hB1;omega
  exact hnext w2 g2 p2 (.doner C.all) a' .done X' hgo rfl (hB.frame hm' (fun b hb=>k2.block b (hB.bound hm' hb) (by simp only[List.mem_singleton];rintro rfl;exact hx1 hb)) k2.size)
   ⟨Nat.le_trans hk.size k2.size,fun b hb hx hne=>(k2.block b (nl' hb hk.size) (by simpa using hne)).trans (hk.block b hb hx),hk.own⟩ (fun⟨l,rv,e⟩=>by cases e) hAt
end
structure Wm (C:WC)(i:Nat)(w wm:World):Prop where
 size:w.heap.size≤wm.heap.size
 block:∀ b,b<w.heap.size→b≠C.b0 i→b≠C.b0 i+1→wm.heap[b]?=w.heap[b]?
 b0:Pl.Blk wm (C.b0 i) [ptr C.r] 76
 b1:Pl.Blk wm (C.b0 i+1) [.bool true,.bool true,.bool true,.nilFunc] 72
theorem Wm.kp {C:WC}{i:Nat}{w wm w':World}(h:Wm C i w wm)(k:Kp [] wm w'):Wm C i w w' :=
 ⟨Nat.le_trans h.size k.size,fun b hb h1 h2=>(k.block b (nl' hb h.size) (by simp)).trans (h.block b hb h1 h2),k.blk h.b0 (by simp),k.blk h.b1 (by simp)⟩
theorem wm_fresh {L A:Type}{B:Bods L A}{C:WC}{i:Nat}{s:SeatS}{w p:World}{g:Goroutine}(hs:SeatF C i s)(hAt:s.At g p)(htop:s.hi≤w.heap.size):Wm C i w (merge w s p):=by
 obtain⟨_,h0,h1⟩:=hs.at_ g p hAt;have hlo:=hs.lo;have hhi:=hs.hi;have g0:p.heap.getD (C.b0 i) poison=.cells #[ptr C.r] 76 (0,0):=by rw[gd',h0];rfl
 have g1:p.heap.getD (C.b0 i+1) poison=.cells #[.bool true,.bool true,.bool true,.nilFunc] 72 (0,0):=by rw[gd',h1];rfl
 refine⟨Nat.le_of_eq merge_size.symm,fun b hb n0 n1=>merge_not fun ho=>?_,?_,?_⟩
 ·have:=ho.1
  have:=ho.2;omega
 ·exact(merge_own ⟨by omega,by omega⟩ (by omega)).trans (congrArg some g0)
 ·exact(merge_own ⟨by omega,by omega⟩ (by omega)).trans (congrArg some g1)
section
variable {L A:Type}{B:Bods L A}{C:WC}{Post:Value→World→Prop}{S:SC}{i:Nat}{s s0:SeatS}{st:Nat→TS L}{a:A}{X:Nat→Prop}{acts:List Nat}{ca:Nat}{ga:Option Addr}{g2:Goroutine}{p2:World}
theorem thr_served (hB:BOk B C)(hC:C.Ok)(hi:i<C.n)(hS:Seats B C S st C.n)(hrole:S.role (C.g0+i)=.seat s)(hs:(st i=.fresh∧SeatF C i s)∨∃ l rv,st i=.susp l rv∧SeatX B C i l rv s)
  (htop:s.hi≤S.w.heap.size) (hc0:∀ j s1,S.role j=.seat s1→j≠C.g0+i→s1.c≠C.ch i)
  (hok:s0.ok=false) (hk0:s0.c=C.k) (hfl:s0.lo=s0.hi) (hM:WMem C st acts ga ca (0,5) 0 S.w) (hbr:∀ j,j<C.n→C.bt j≠C.r) (hbb:∀ j k,j<C.n→k<C.n→C.bt j≠C.b0 k∧C.bt j≠C.b0 k+1) (hrb:C.r≠C.b0 i∧C.r≠C.b0 i+1)
  (hn:acts.length<4294967296) (hn0:0<acts.length) (hm:B.mem a st X S.w) (hX:∀ b,X b→¬ C.Y (.slice ga acts.length ca) b)
  (hnext:∀ wm w' g2' p2' r' a' t' X',Wm C i S.w wm→Acted B i (st i) a acts.length a' t'→roleIs B C i t' r'→B.mem a' (updT st i t') X' w'→Ka C i X X' wm w'→((∃ l rv,t'=.susp l rv)→w'.heap[C.b0 i+1]?=wm.heap[C.b0 i+1]?)→s0.At g2' p2' →
   Sound Try.prog link.tWg Post 0 (({S.give 0 (C.g0+i) s (.seat s0) p2 with w:=w'}).give (C.g0+i) 0 s0 r' p2') (Conc.served g2' (stopOf t')))
  (hAt:s.At g2 p2):Sound Try.prog link.tWg Post (C.g0+i) (S.give 0 (C.g0+i) s (.seat s0) p2) (Conc.served g2 (recvd s.ok (.agg #[]) true)):=by
 have hg0:=hC.g0;have hK:=cl_sound (P:=Try.prog) (ty:=link.tWg) (Post:=Post) (S:=S.give 0 (C.g0+i) s (.seat s0) p2) (h:=C.g0+i) fits;have hwm:Wm C i S.w (S.give 0 (C.g0+i) s (.seat s0) p2).w:=by
  show Wm C i S.w (merge S.w s p2);rcases hs with⟨_,hs⟩ | ⟨l,rv,e,hs⟩
  ·exact wm_fresh (B:=B) hs hAt htop
  ·rw[merge_flat hs.flat]
   obtain⟨h0,h1⟩:=hM.live i l rv hi e;exact⟨Nat.le_refl _,fun _ _ _ _=>rfl,h0,h1⟩
 have hsok:s.ok=true:=by rcases hs with⟨_,hs⟩ | ⟨l,rv,e,hs⟩<;>exact hs.ok
 have hsc:s.c=C.ch i:=by rcases hs with⟨_,hs⟩ | ⟨l,rv,e,hs⟩<;>exact hs.c
 have htd:st i≠.done:=by rcases hs with⟨e,_⟩ | ⟨l,rv,e,_⟩<;>rw[e]<;>simp
 rw[hsok];have goes:∀ g w2,Wm C i S.w w2→starts B C i (st i) (liveB C.r (C.bt i) (C.fn i) (C.cap i) C.all (C.b0 i) (C.b0 i+1)) [bot] g →
   Sound Try.prog link.tWg Post (C.g0+i) { S.give 0 (C.g0+i) s (.seat s0) p2 with w:=w2} g:=by
  intro g w2 h2 hst;have hY:∀ b,C.Y (.slice ga acts.length ca) b→¬ X b:=fun b hb hx=>hX b hx hb;have hXl:∀ b,X b→w2.heap[b]?=S.w.heap[b]?:=fun b hb=>h2.block b (hB.bound hm hb) (fun e=>hX b hb (.inr (.inr (.inr (.inr ⟨i,hi,.inr (.inl e)⟩))))) fun e=>hX b hb (.inr (.inr (.inr (.inr ⟨i,hi,.inr (.inr e)⟩))));have hm2:=hB.frame hm hXl h2.size;have hbt:∀ j,j<C.n→w2.heap[C.bt j]?=some (.cells #[ptr C.r,.int .i64 j,.chan (some (C.ch j)),.bool false] 79 (0,4)):=fun j hj =>
   (h2.block _ (aq' (hM.bt j (Nat.zero_le _) hj)).1 (hbb j i hj hi).1 (hbb j i hj hi).2).trans (hM.bt j (Nat.zero_le _) hj)
  have hr2:w2.heap[C.r]?=_:=(h2.block _ (aq' hM.r).1 hrb.1 hrb.2).trans hM.r;refine thr_run (S:={S.give 0 (C.g0+i) s (.seat s0) p2 with w:=w2}) (B:=B) (s0:=s0) (n:=acts.length) hB hC hi ?_ hok hk0 hfl ((hS.grp _).2 ⟨i,hi,rfl⟩) hS.wgs (hS.chs i hi htd) (fun j s1 hj hs1=>?_) (fun j hj=>⟨_,_,_,hbt j hj⟩) (hbr i hi) (hbt i hi)
   ⟨_,hr2⟩ hn hn0 h2.b0 h2.b1 hm2 (fun b hb=>?_) (fun w' g2' p2' r' a' t' X' h3 h4 h5 h6 h7 h8=>hnext w2 w' g2' p2' r' a' t' X' h2 h3 h4 h5 h6 h7 h8) hst
  ·exact give_h (s:=s) (p:=p2) (by omega)
  ·by_cases e1:j=C.g0+i
   ·subst e1
    have:(S.give 0 (C.g0+i) s (.seat s0) p2).role (C.g0+i)=.none:=give_j;have hs1':(S.give 0 (C.g0+i) s (.seat s0) p2).role (C.g0+i)=.seat s1:=hs1;rw[this] at hs1';cases hs1'
   ·have hs1':(S.give 0 (C.g0+i) s (.seat s0) p2).role j=.seat s1:=hs1
    rw[give_x e1 hj] at hs1';exact hc0 j s1 hs1' e1
  ·exact⟨fun e=>hX b hb (.inl e),fun e=>hX b hb (.inr (.inr (.inr (.inr ⟨i,hi,.inr (.inl e)⟩)))),fun e=>hX b hb (.inr (.inr (.inr (.inr ⟨i,hi,.inr (.inr e)⟩)))),fun j hj e=>hX b hb (.inr (.inr (.inr (.inr ⟨j,hj,.inl e⟩))))⟩
 have k1:=Kp.alloc [] (S.give 0 (C.g0+i) s (.seat s0) p2).w (.cells #[] 80);have hwm2:=hwm.kp k1;rcases hs with⟨e,hs⟩ | ⟨l,rv,e,hs⟩
 ·obtain⟨rfl,_,_⟩:=hs.at_ g2 p2 hAt
  refine ks (S:=S.give 0 (C.g0+i) s (.seat s0) p2) (come_ok (Kn:=fun _=>KS Try.prog link.tWg Post (C.g0+i) (S.give 0 (C.g0+i) s (.seat s0) p2)) (n:=0) hK.det rfl ?_) rfl;obtain⟨fn,cd,h1,h2,h3⟩:=hB.fns hi;refine live_body (n:=0) hK.det h1 h2 h3 (args:=#[ptr (C.bt i)]++C.cap i) (by simp) ?_;refine goes _ _ hwm2 ?_;rw[e];exact⟨_,by simp,rfl⟩
 ·obtain⟨y,c,rest,hrs,rfl⟩:=hs.at_ g2 p2 hAt
  refine ks (S:=S.give 0 (C.g0+i) s (.seat s0) p2) (come_ok (Kn:=fun _=>KS Try.prog link.tWg Post (C.g0+i) (S.give 0 (C.g0+i) s (.seat s0) p2)) (n:=0) hK.det rfl ?_) rfl;refine yield_done (n:=0) hK.det (hB.rsok hrs c mc').1 ?_;refine goes _ _ hwm2 ?_;rw[e];exact⟨c,rest,hrs,rfl⟩
end
theorem act2_recv {m:Bool}{r j:Nat}{acts:List Nat}{ga:Option Addr}{ca nb' g cap gb nb cb b c gs' ns cs' k:Nat}{cs:List Frame}{G:Goroutine}{w:World}{s:SeatS}(hc:s.c=k)(hz:s.z=stopV false false false .nilFunc)(ho:s.ok=false)
  (hG:act2At r j acts ga ca nb' g cap gb nb cb b c gs' ns cs' k cs G) (hA:s.At G w):AtRecv Try.prog m s G w:=by
 obtain⟨fuel,t,li,tm,hJ,h9,_,_,rfl⟩:=hG;have hk:(base 42).kind≠.early:=nofun;obtain⟨o9,ho9⟩:∃ o9,a2[9]?=some o9:=⟨_,rfl⟩;have hop:o9.op=.recv 84 (.tmp 34) false:=by obtain rfl:=oj' (show some _=some o9 from ho9);rfl
 have hgd:o9.guard=none:=by obtain rfl:=oj' (show some _=some o9 from ho9);rfl
 have h34:Act.eval ⟨tm,[]⟩ (.tmp 34)=.chan (some k):=(hJ.eval (ds:=[]) (by decide +kernel) h9 ho9 (.tmp 34) (by rw[hop];simp[Op.operands])).trans rfl;refine⟨rfl,fun _=>okHd_op ho9 (by rw[hop];rfl) (by rw[hop];nofun),fun τ d=>?_,hA⟩;refine⟨_,stepG_comm (b:=base 42) (cases:=#[rcase s.c s.z]) (blocking:=true) (shape:=.recv s.ok) ho9 (by unfold Region.wanted;rw[hgd]) hk ?_⟩;rw[hc,hz,ho];exact x_recv84 hop h34
theorem setCell_frame {w:World}{b i x:Nat}{v:Value}(hx:x≠b):(w.setCell ⟨b,i,none⟩ v).heap[x]?=w.heap[x]?:=by
 by_cases hl:x<w.heap.size
 ·exact(Kp.set w b i v).block x hl (by simpa using hx)
 ·rw[ae' (by rw[World.size_setCell];omega),ae' (by omega)]
theorem set4_frame {w:World}{b i x:Nat}{v0 v1 v2 v3:Value}(hx:x≠b):(set4 w b i v0 v1 v2 v3).heap[x]?=w.heap[x]?:=by
 unfold set4;rw[setCell_frame hx,setCell_frame hx,setCell_frame hx,setCell_frame hx]
theorem set4_size {w:World}{b i:Nat}{v0 v1 v2 v3:Value}:(set4 w b i v0 v1 v2 v3).heap.size=w.heap.size:=by
 unfold set4;rw[World.size_setCell,World.size_setCell,World.size_setCell,World.size_setCell]
theorem set4_blk {w:World}{b i:Nat}{v0 v1 v2 v3:Value}{cs:List Value}{t:TypeId}(h:Pl.Blk w b cs t):Pl.Blk (set4 w b i v0 v1 v2 v3) b ((((cs.set i v0).set (i+1) v1).set (i+2) v2).set (i+3) v3) t:=(((h.set i v0).set (i+1) v1).set (i+2) v2).set (i+3) v3
section
variable {L:Type}
theorem standOf_len (t:TS L):(standOf t).length=4:=by cases t<;>rfl
theorem standsOf_succ (n:Nat)(st:Nat→TS L):standsOf (n+1) st=standsOf n st++standOf (st n):=by
 unfold standsOf;rw[List.range_succ,List.flatMap_append];simp
theorem standsOf_len (n:Nat)(st:Nat→TS L):(standsOf n st).length=n*4:=by
 induction n with
 | zero=>rfl
 | succ n ih=>rw[standsOf_succ,la',ih,standOf_len];omega
theorem standsOf_get {n:Nat}{st:Nat→TS L}{i c:Nat}(hi:i<n)(hc:c<4):(standsOf n st)[i*4+c]?=(standOf (st i))[c]?:=by
 induction n with
 | zero=>omega
 | succ n ih =>
  rw[standsOf_succ];by_cases e:i=n
  ·subst e
   rw[List.getElem?_append_right (by rw[standsOf_len];omega),standsOf_len];congr 1;omega
  ·rw[List.getElem?_append_left (by rw[standsOf_len];omega)]
   exact ih (by omega)
theorem standsOf_set {n:Nat}{st:Nat→TS L}{i:Nat}{t:TS L}{v0 v1 v2 v3:Value}(hi:i<n)(ht:standOf t=[v0,v1,v2,v3]):((((standsOf n st).set (i*4) v0).set (i*4+1) v1).set (i*4+2) v2).set (i*4+3) v3=standsOf n (updT st i t):=by
 apply List.ext_getElem?;intro x;by_cases hx:x<n*4
 ·obtain⟨j,c,rfl,hc⟩:∃ j c,x=j*4+c∧c<4:=⟨x / 4,x % 4,by omega,by omega⟩
  have hj:j<n:=by omega
  rw[standsOf_get hj hc];by_cases e:j=i
  ·subst e
   have:updT st j t j=t:=if_pos rfl;rw[this,ht];have hl:(standsOf n st).length=n*4:=standsOf_len n st;obtain rfl | rfl | rfl | rfl:c=0∨c=1∨c=2∨c=3:=by omega
   all_goals simp only[List.getElem?_set,List.length_set,hl]
   all_goals simp
   all_goals omega
  ·have:updT st i t j=st j:=if_neg e
   rw[this];simp only[List.getElem?_set];rw[if_neg (by omega),if_neg (by omega),if_neg (by omega),if_neg (by omega)];exact standsOf_get hj hc
 ·rw[List.getElem?_eq_none (by simp only[List.length_set,standsOf_len];omega),List.getElem?_eq_none (by rw[standsOf_len];omega)]
end
section
variable {L A:Type}{B:Bods L A}{C:WC}{st:Nat→TS L}{acts:List Nat}{ga:Option Addr}{ca:Nat}{rz:Nat × Nat}{u:Nat}{w w':World}{i:Nat}
theorem rep_same {α:Type}{e:TypeId}{k:Nat}{f:α→List Value}{v:Value}{xs:List α}(h:Pl.Rep e k f w v xs)(hs:w.heap.size≤w'.heap.size)(hb:∀ b∈Pl.fp v,w'.heap[b]?=w.heap[b]?):Pl.Rep e k f w' v xs:=by
 rcases h with⟨h1,h2⟩;refine⟨h1,?_⟩;rcases h2 with h2 | ⟨g,cap,cur,h2,h3,h4,h5⟩
 ·exact .inl h2
 ·refine .inr ⟨g,cap,cur,h2,h3,(hb g (by rw[h2];simp[Pl.fp,Value.ownBlock])).trans h4,h5⟩
theorem WMem.same (h:WMem C st acts ga ca rz u w)(hs:w.heap.size≤w'.heap.size)(hb:∀ b,C.Y (.slice ga acts.length ca) b→w'.heap[b]?=w.heap[b]?):WMem C st acts ga ca rz u w':=by
 refine⟨(hb _ (.inl rfl)).trans h.r,?_,(hb _ (.inr (.inr (.inl rfl)))).trans h.stn,fun j h1 h2=>(hb _ (.inr (.inr (.inr (.inr ⟨j,h2,.inl rfl⟩))))).trans (h.bt j h1 h2),fun j l rv hj hst=>?_,rep_same h.rep hs fun b hb'=>hb b (.inr (.inr (.inr (.inl hb')))),h.sep,fun j hj=>⟨nl' (h.room j hj).1 hs,nl' (h.room j hj).2 hs⟩⟩
 ·obtain⟨cells,h1,h2⟩:=h.gb
  exact⟨cells,(hb _ (.inr (.inl rfl))).trans h1,h2⟩
 ·obtain⟨h0,h1⟩:=h.live j l rv hj hst
  exact⟨(hb _ (.inr (.inr (.inr (.inr ⟨j,hj,.inr (.inl rfl)⟩))))).trans h0,(hb _ (.inr (.inr (.inr (.inr ⟨j,hj,.inr (.inr rfl)⟩))))).trans h1⟩
theorem WMem.ice (hC:C.Ok)(h:WMem C st acts ga ca rz u w){rz':Nat × Nat}:WMem C st acts ga ca rz' u (setB w C.r (.cells #[.slice (some ⟨C.gb,0,none⟩) C.n C.cb,.slice (some ⟨C.st,0,none⟩) C.n C.n,.chan (some C.k),.slice ga acts.length ca,.bool false] 86 rz')):=by
 have hne:∀ {x o},x≠C.r→(setB w C.r o).heap[x]?=w.heap[x]?:=fun h=>setB_ne h;have hlt:=(aq' h.r).1;refine⟨setB_self hlt,?_,(hne (Ne.symm hC.rgb.2.1)).trans h.stn,fun j h1 h2=>(hne (hC.btr j h2)).trans (h.bt j h1 h2),fun j l rv hj hst=>?_,rep_same h.rep (Nat.le_of_eq setB_size.symm) fun b hb=>hne (h.sep b hb).1,h.sep,fun j hj=>by rw[setB_size];exact h.room j hj⟩
 ·obtain⟨cells,h1,h2⟩:=h.gb
  exact⟨cells,(hne (Ne.symm hC.rgb.1)).trans h1,h2⟩
 ·obtain⟨h0,h1⟩:=h.live j l rv hj hst
  exact⟨(hne (Ne.symm (hC.rb j hj).1)).trans h0,(hne (Ne.symm (hC.rb j hj).2)).trans h1⟩
theorem WMem.told (hC:C.Ok)(h:WMem C st acts ga ca (0,0) u w){g cap:Nat}(h1:RepU w' (.slice (some ⟨g,0,none⟩) (acts.length+1) cap) (acts++[i]))
  (h2:Pl.Blk w' C.r [.slice (some ⟨C.gb,0,none⟩) C.n C.cb,.slice (some ⟨C.st,0,none⟩) C.n C.n,.chan (some C.k),.slice (some ⟨g,0,none⟩) (acts.length+1) cap,.bool false] 86) (h3:Kp (C.r::Pl.fp (.slice ga acts.length ca)) w w')
  (h4:g∈Pl.fp (.slice ga acts.length ca)∨w.heap.size≤g):WMem C st (acts++[i]) (some ⟨g,0,none⟩) cap (0,0) u w':=by
 have hl:(acts++[i]).length=acts.length+1:=by simp
 have hne:∀ {x},x<w.heap.size→x≠C.r→(∀ b∈Pl.fp (.slice ga acts.length ca),b≠x)→w'.heap[x]?=w.heap[x]?:=fun hx h5 h6=>h3.block _ hx (by
  simp only[List.mem_cons,not_or];exact⟨h5,fun hm=>h6 _ hm rfl⟩)
 have hlt:∀ {x o},w.heap[x]?=some o→x<w.heap.size:=fun h=>(aq' h).1;refine⟨by rw[hl];exact h2,?_,(hne (hlt h.stn) (Ne.symm hC.rgb.2.1) fun b hb=>(h.sep b hb).2.2.1).trans h.stn,fun j q1 q2=>(hne (hlt (h.bt j q1 q2)) (hC.btr j q2) fun b hb=>((h.sep b hb).2.2.2 j q2).1).trans (h.bt j q1 q2),fun j l rv hj hst=>?_,by rw[hl];exact h1,?_,
  fun j hj=>⟨nl' (h.room j hj).1 h3.size,nl' (h.room j hj).2 h3.size⟩⟩
 ·obtain⟨cells,q1,q2⟩:=h.gb
  exact⟨cells,(hne (hlt q1) (Ne.symm hC.rgb.1) fun b hb=>(h.sep b hb).2.1).trans q1,q2⟩
 ·obtain⟨q0,q1⟩:=h.live j l rv hj hst
  exact⟨(hne (hlt q0) (Ne.symm (hC.rb j hj).1) fun b hb=>((h.sep b hb).2.2.2 j hj).2.1).trans q0,(hne (hlt q1) (Ne.symm (hC.rb j hj).2) fun b hb=>((h.sep b hb).2.2.2 j hj).2.2).trans q1⟩
 ·intro b hb
  obtain rfl:b=g:=by simpa[Pl.fp,Value.ownBlock] using hb
  rcases h4 with h4 | h4
  ·exact h.sep _ h4
  ·obtain⟨cells,q1,_⟩:=h.gb
   refine⟨?_,?_,?_,fun j hj=>⟨?_,?_,?_⟩⟩
   ·have:=hlt h.r;omega
   ·have:=hlt q1;omega
   ·have:=hlt h.stn;omega
   ·have:=h.room j hj;omega
   ·have:=h.room j hj;omega
   ·have:=h.room j hj;omega
theorem WMem.next (hB:BOk B C)(hC:C.Ok)(hi:i<C.n)(h:WMem C st acts ga ca rz 0 w){a:A}{X X':Nat→Prop}(hm:B.mem a st X w)(hX:∀ b,X b→¬ C.Y (.slice ga acts.length ca) b){wm:World}(hwm:Wm C i w wm)(hka:Ka C i X X' wm w'){t':TS L}
  (hsu:(∃ l rv,t'=.susp l rv)→w'.heap[C.b0 i+1]?=wm.heap[C.b0 i+1]?) {v0 v1 v2 v3:Value} (ht:standOf t'=[v0,v1,v2,v3]):WMem C (updT st i t') acts ga ca rz 0 (set4 w' C.st (i*4) v0 v1 v2 v3):=by
 have hlt:∀ {x o},w.heap[x]?=some o→x<w.heap.size:=fun h=>(aq' h).1;have key:∀ {x},x<w.heap.size→C.Y (.slice ga acts.length ca) x→x≠C.b0 i→x≠C.b0 i+1→w'.heap[x]?=w.heap[x]?:=fun {x} hx hy h0 h1 =>
  (hka.block x (nl' hx hwm.size) (fun hb=>hX x hb hy) h1).trans (hwm.block x hx h0 h1)
 have q:∀ {x},x<w.heap.size→C.Y (.slice ga acts.length ca) x→x≠C.b0 i→x≠C.b0 i+1→x≠C.st→(set4 w' C.st (i*4) v0 v1 v2 v3).heap[x]?=w.heap[x]?:=fun hx hy h0 h1 h2=>(set4_frame h2).trans (key hx hy h0 h1);have yr:C.Y (.slice ga acts.length ca) C.r:=.inl rfl;have yg:C.Y (.slice ga acts.length ca) C.gb:=.inr (.inl rfl);have ys:C.Y (.slice ga acts.length ca) C.st:=.inr (.inr (.inl rfl));have yb:∀ j,j<C.n→C.Y (.slice ga acts.length ca) (C.bt j):=fun j hj=>.inr (.inr (.inr (.inr ⟨j,hj,.inl rfl⟩)));have y0:∀ j,j<C.n→C.Y (.slice ga acts.length ca) (C.b0 j):=fun j hj=>.inr (.inr (.inr (.inr ⟨j,hj,.inr (.inl rfl)⟩)));have y1:∀ j,j<C.n→C.Y (.slice ga acts.length ca) (C.b0 j+1):=fun j hj=>.inr (.inr (.inr (.inr ⟨j,hj,.inr (.inr rfl)⟩)));have yf:∀ b,b∈Pl.fp (.slice ga acts.length ca)→C.Y (.slice ga acts.length ca) b:=fun b hb=>.inr (.inr (.inr (.inl hb)));have hsz:w.heap.size≤(set4 w' C.st (i*4) v0 v1 v2 v3).heap.size:=by rw[set4_size];exact Nat.le_trans hwm.size hka.size
 refine⟨(q (hlt h.r) yr (hC.rb i hi).1 (hC.rb i hi).2 hC.rgb.2.1).trans h.r,?_,?_,fun j h1 h2=>(q (h.room j h2).2 (yb j h2) (hC.btb j i h2 hi).1 (hC.btb j i h2 hi).2 (hC.bts j h2).2).trans (h.bt j h1 h2),fun j l rv hj hst=>?_,
  rep_same h.rep hsz fun b hb=>q (h.rep.fp_lt b hb) (yf b hb) ((h.sep b hb).2.2.2 i hi).2.1 ((h.sep b hb).2.2.2 i hi).2.2 (h.sep b hb).2.2.1,h.sep,fun j hj=>⟨nl' (h.room j hj).1 hsz,nl' (h.room j hj).2 hsz⟩⟩
 ·obtain⟨cells,q1,q2⟩:=h.gb
  exact⟨cells,(q (hlt q1) yg (hC.gbb i hi).1 (hC.gbb i hi).2 hC.rgb.2.2).trans q1,q2⟩
 ·rw[← standsOf_set hi ht]
  exact set4_blk ((key (hlt h.stn) ys (hC.stb i hi).1 (hC.stb i hi).2).trans h.stn)
 ·by_cases e:j=i
  ·subst e
   have e1:updT st j t' j=t':=if_pos rfl;rw[e1] at hst;refine⟨?_,?_⟩
   ·have h2:C.b0 j≠C.b0 j+1:=by omega
    exact(set4_frame (Ne.symm (hC.stb j hj).1)).trans ((hka.block _ (nl' (by have:=(h.room j hj).1;omega) hwm.size) (fun hb=>hX _ hb (y0 j hj)) h2).trans hwm.b0)
   ·exact(set4_frame (Ne.symm (hC.stb j hj).2)).trans ((hsu ⟨l,rv,hst⟩).trans hwm.b1)
  ·have e1:updT st i t' j=st j:=if_neg e
   rw[e1] at hst;obtain⟨q0,q1⟩:=h.live j l rv hj hst;have hd:C.b0 j≠C.b0 i∧C.b0 j≠C.b0 i+1∧C.b0 j+1≠C.b0 i∧C.b0 j+1≠C.b0 i+1:=by
    rcases Nat.lt_or_gt_of_ne e with h' | h'
    ·have:=hC.b0s j i h' hi;omega
    ·have:=hC.b0s i j h' hj;omega
   exact⟨(q (hlt q0) (y0 j hj) hd.1 hd.2.1 (Ne.symm (hC.stb j hj).1)).trans q0,(q (hlt q1) (y1 j hj) hd.2.2.1 hd.2.2.2 (Ne.symm (hC.stb j hj).2)).trans q1⟩
end
end Go.Proofs.Ytfbjopkiicmiiaa.Lift
