/- Fh Ga Gb Gc Gd Ge Gf Gg Gh Gi Gj Gk Gl -/
import Derived.BigQuiet
import Derived.Conc.TokenWalk
import Derived.Conc.Own2
import Derived.Test.YtfbjopkiicmiiaaMc
set_option linter.unusedVariables false
set_option linter.unusedSimpArgs false
set_option maxRecDepth 100000
set_option maxHeartbeats 6400000
noncomputable section
namespace Go.Proofs.Ytfbjopkiicmiiaa.Lift
open Go Go.Conc
open Go.ConcN (sumTo upd sumTo_upd upd_ne upd_same WgLive)
theorem Kx.trans {X Y Z:Nat→Prop}{a b c:World}(h:Kx X Y a b)(k:Kx Y Z b c):Kx X Z a c :=
 ⟨Nat.le_trans h.size k.size,fun x hx hn=>(k.block x (nl' hx h.size) fun hy=>(h.own x hy).elim hn fun q=>by omega).trans (h.block x hx hn),
  fun x hz=>(k.own x hz).elim (h.own x) fun q=>.inr (Nat.le_trans h.size q)⟩
theorem Kx.kp {X:Nat→Prop}{a b:World}(h:Kp [] a b):Kx X X a b:=⟨h.size,fun x hx _=>h.block x hx (by simp),fun _ hx=>.inl hx⟩
theorem Kx.refl (X:Nat→Prop)(a:World):Kx X X a a:=⟨Nat.le_refl _,fun _ _ _=>rfl,fun _ h=>.inl h⟩
section
variable {L A:Type}(B:Bods L A)(C:WC)
structure MainAt (S:SC)(st:Nat→TS L)(acts:List Nat)(ga:Option Addr)(ca:Nat)(a:A)(X:Nat→Prop):Prop where
 seats:Seats B C S st C.n
 mem:WMem C st acts ga ca (0,0) 0 S.w
 bods:B.mem a st X S.w
 apart:∀ b,X b→¬ C.Y (.slice ga acts.length ca) b
 role:S.role 0=.none
structure Rest (S S':SC)(Z Z':Nat→Prop):Prop where
 kx:Kx Z Z' S.w S'.w
 n0:S'.n0=S.n0
 W0:S'.W0=S.W0
def allOf (X:Nat→Prop)(C:WC)(v:Value)(b:Nat):Prop:=X b∨C.Y v b
end
theorem Rest.trans {S S' S'':SC}{Z Z' Z'':Nat→Prop}(h:Rest S S' Z Z')(k:Rest S' S'' Z' Z''):Rest S S'' Z Z'':=⟨h.kx.trans k.kx,k.n0.trans h.n0,k.W0.trans h.W0⟩
section
variable {L A:Type}{B:Bods L A}{C:WC}{Post:Value→World→Prop}{S:SC}{i:Nat}{st:Nat→TS L}{a:A}{X:Nat→Prop}{acts:List Nat}{ca:Nat}{ga:Option Addr}{cl:Frame}{cs:List Frame}
theorem stopOf_parts (t:TS L)(h:∀ l rv,t=.susp l rv→isFn rv):∃ o p q f,stopOf t=stopV o p q f∧standOf t=[.bool o,.bool p,.bool q,f]∧isFn f:=by
 cases t with
 | fresh=>exact⟨_,_,_,_,rfl,rfl,.inl rfl⟩
 | susp l rv=>exact⟨_,_,_,_,rfl,rfl,h l rv rfl⟩
 | done=>exact⟨_,_,_,_,rfl,rfl,.inl rfl⟩
theorem WC.Y_mono {C:WC}{v v':Value}{N:Nat}(h:∀ b∈Pl.fp v',b∈Pl.fp v∨N≤b){b:Nat}(hb:C.Y v' b):C.Y v b∨N≤b:=by
 rcases hb with h1 | h1 | h1 | h1 | h1
 ·exact .inl (.inl h1)
 ·exact .inl (.inr (.inl h1))
 ·exact .inl (.inr (.inr (.inl h1)))
 ·exact(h b h1).imp (fun q=>.inr (.inr (.inr (.inl q)))) id
 ·exact .inl (.inr (.inr (.inr (.inr h1))))
theorem main_act (hB:BOk B C)(hC:C.Ok)(hi:i<C.n)(M:MainAt B C S st acts ga ca a X)(hst:st i≠.done)(hn:acts.length+1<4294967296)(hcl:cl.mode=.run)
  (hnext:∀ S' a' t' X' ga' ca',Acted B i (st i) a (acts.length+1) a' t'→MainAt B C S' (updT st i t') (acts++[i]) ga' ca' a' X' →
   Rest S S' (allOf X C (.slice ga acts.length ca)) (allOf X' C (.slice ga' (acts.length+1) ca'))→Sound Try.prog link.tWg Post 0 S' (gs (cl.finish (.tuple #[])) cs)) :
  Sound Try.prog link.tWg Post 0 S (gs (Frame.enter Try.prog 42 #[ptr C.r,.int .i64 i] .normal) (cl::cs)):=by
 have hg0:=hC.g0;have hK:=clS (Post:=Post) S;have hM:=M.mem;have hi8:i<8:=nl' hi hC.n8;refine ks (S:=S) (act_begin hK (hM.r:Pl.Blk S.w C.r _ 86) hM.rep (fun hm=>(hM.sep _ hm).1 rfl) (by omega) hi8 ?_) rfl;rintro t w1 ⟨nb,g,cap,rfl,hr1,hb1,hk1,hg1⟩;have hM1:=hM.told (i:=i) hC hr1 hb1 hk1 hg1;have hY0:∀ b,C.Y (.slice ga acts.length ca) b→¬ X b:=fun b hb hx=>M.apart b hx hb;have hX1:∀ b,X b→w1.heap[b]?=S.w.heap[b]?:=fun b hb=>hk1.block b (hB.bound M.bods hb) (by
  simp only[List.mem_cons,not_or];exact⟨fun e=>M.apart b hb (.inl e),fun hm=>M.apart b hb (.inr (.inr (.inr (.inl hm))))⟩)
 have hm1:=hB.frame M.bods hX1 hk1.size;have hl1:(acts++[i]).length=acts.length+1:=by simp
 have hfp:∀ b∈Pl.fp (.slice (some ⟨g,0,none⟩) (acts.length+1) cap),b∈Pl.fp (.slice ga acts.length ca)∨S.w.heap.size≤b:=fun b hb=>by
  obtain rfl:b=g:=by simpa[Pl.fp,Value.ownBlock] using hb
  exact hg1
 have hap1:∀ b,X b→¬ C.Y (.slice (some ⟨g,0,none⟩) (acts++[i]).length cap) b:=fun b hb hy=>by
  rw[hl1] at hy;rcases WC.Y_mono hfp hy with q | q
  ·exact M.apart b hb q
  ·have:=hB.bound M.bods hb;omega
 have hrest1:Kx (allOf X C (.slice ga acts.length ca)) (allOf X C (.slice (some ⟨g,0,none⟩) (acts.length+1) cap)) S.w w1:=by
  refine⟨hk1.size,fun b hb hz=>hk1.block b hb ?_,fun b hb=>?_⟩
  ·simp only[List.mem_cons,not_or]
   exact⟨fun e=>hz (.inr (.inl e)),fun hm=>hz (.inr (.inr (.inr (.inr (.inl hm)))))⟩
  ·rcases hb with hb | hb
   ·exact .inl (.inl hb)
   ·exact(WC.Y_mono hfp hb).imp .inr id
 show Sound Try.prog link.tWg Post 0 { S with w:=w1} _;have hlt1:=(aq' hM1.r).1;have hnl:∀ j s,S.role j=.seat s→¬ s.lent C.r:=fun j s hs hl=>by
  by_cases e:∃ k,k<C.n∧j=C.g0+k
  ·obtain⟨k,hk,rfl⟩:=e
   cases hk':st k with
   | fresh =>
    obtain⟨s1,h1,h2⟩:=M.seats.fresh k hk (by omega) hk';rw[hs] at h1;cases h1;exact(h2.lent _ hl).1 rfl
   | susp l rv =>
    obtain⟨s1,h1,h2⟩:=M.seats.susp k l rv hk (by omega) hk';rw[hs] at h1;cases h1;exact(h2.lent _ hl).1 rfl
   | done=>rw[M.seats.done k hk (by omega) hk'] at hs;cases hs
  ·by_cases e0:j=0
   ·subst e0;rw[M.role] at hs;cases hs
   ·rw[M.seats.old j (by omega) fun k hk he=>e ⟨k,hk,he⟩] at hs;cases hs
 refine sound_freeze (S:={S with w:=w1}) hM1.r M.seats.rlo hnl ?_;have hM2:=hM1.ice (rz':=(0,5)) hC;have e5:(#[.slice (some ⟨C.gb,0,none⟩) C.n C.cb,.slice (some ⟨C.st,0,none⟩) C.n C.n,.chan (some C.k),.slice (some ⟨g,0,none⟩) (acts++[i]).length cap,.bool false]:Array Value).size=5:=rfl;rw[e5];have hsz2:(setB w1 C.r (.cells #[.slice (some ⟨C.gb,0,none⟩) C.n C.cb,.slice (some ⟨C.st,0,none⟩) C.n C.n,.chan (some C.k),.slice (some ⟨g,0,none⟩) (acts++[i]).length cap,.bool false] 86 (0,5))).heap.size=w1.heap.size:=setB_size;have hne2:∀ {x},x≠C.r→(setB w1 C.r (.cells #[.slice (some ⟨C.gb,0,none⟩) C.n C.cb,.slice (some ⟨C.st,0,none⟩) C.n C.n,.chan (some C.k),.slice (some ⟨g,0,none⟩) (acts++[i]).length cap,.bool false] 86 (0,5))).heap[x]?=w1.heap[x]?:=fun h=>setB_ne h;show Sound Try.prog link.tWg Post 0 { S with w:=setB w1 C.r (.cells #[.slice (some ⟨C.gb,0,none⟩) C.n C.cb,.slice (some ⟨C.st,0,none⟩) C.n C.n,.chan (some C.k),.slice (some ⟨g,0,none⟩) (acts++[i]).length cap,.bool false] 86 (0,5)),fz:=fun x=>S.fz x∨x=C.r} _;generalize setB w1 C.r (.cells #[.slice (some ⟨C.gb,0,none⟩) C.n C.cb,.slice (some ⟨C.st,0,none⟩) C.n C.n,.chan (some C.k),.slice (some ⟨g,0,none⟩) (acts++[i]).length cap,.bool false] 86 (0,5))=w2 at hM2 hsz2 hne2 ⊢;have hm2:B.mem a st X w2:=hB.frame hm1 (fun b hb=>hne2 fun e=>M.apart b hb (.inl e)) (Nat.le_of_eq hsz2.symm);refine sound_fair fun F hrole0 hn0=>?_;have hK2:=clS (Post:=Post) ({S with w:=w2,fz:=fun x=>S.fz x∨x=C.r});obtain⟨cells,hgb,hgbi⟩:=hM2.gb;have hbti:=hM2.bt i (Nat.zero_le _) hi;have hrC:Cel w2 C.r _ 86:=⟨_,hM2.r⟩;have hbc:Cel w2 (C.bt i) [ptr C.r,.int .i64 i,.chan (some (C.ch i)),.bool false] 79:=⟨_,hbti⟩;refine ks (S:={S with w:=w2,fz:=fun x=>S.fz x∨x=C.r}) (act_send (n:=0) hK2.det (b:=C.bt i) (c:=C.ch i) (gb:=C.gb) (nb:=C.n) (cb:=C.cb) hrC hi ((hgb.cell i).trans (hgbi i hi)) (hbc.cell 2) ?_) rfl;show Sound Try.prog link.tWg Post 0 { S with w:=w2,fz:=fun x=>S.fz x∨x=C.r} _
 let s0:SeatS:={c:=C.k,z:=stopV false false false .nilFunc,ok:=false,lent:=lentOf w2 C.r,lo:=w2.heap.size,hi:=w2.heap.size,At:=fun g' _=>act2At C.r i acts ga ca nb g cap C.gb C.n C.cb (C.bt i) (C.ch i) C.st C.n C.n C.k (cl::cs) g'}
 obtain⟨s,hsr,hs⟩:∃ s,S.role (C.g0+i)=.seat s∧((st i=.fresh∧SeatF C i s)∨∃ l rv,st i=.susp l rv∧SeatX B C i l rv s):=by
  cases e:st i with
  | fresh=>obtain⟨s,h1,h2⟩:=M.seats.fresh i hi (by omega) e;exact⟨s,h1,.inl ⟨rfl,h2⟩⟩
  | susp l rv=>obtain⟨s,h1,h2⟩:=M.seats.susp i l rv hi (by omega) e;exact⟨s,h1,.inr ⟨l,rv,rfl,h2⟩⟩
  | done=>exact absurd e hst
 have hsc:s.c=C.ch i:=by rcases hs with⟨_,h⟩ | ⟨_,_,_,h⟩<;>exact h.c
 have hseatc:∀ j s1,S.role j=.seat s1→s1.c≠C.k:=fun j s1 hs1=>by
  by_cases e:∃ k,k<C.n∧j=C.g0+k
  ·obtain⟨k,hk,rfl⟩:=e
   cases hk':st k with
   | fresh =>
    obtain⟨s2,h1,h2⟩:=M.seats.fresh k hk (by omega) hk';rw[hs1] at h1;cases h1;rw[h2.c];exact hC.chk k hk
   | susp l rv =>
    obtain⟨s2,h1,h2⟩:=M.seats.susp k l rv hk (by omega) hk';rw[hs1] at h1;cases h1;rw[h2.c];exact hC.chk k hk
   | done=>rw[M.seats.done k hk (by omega) hk'] at hs1;cases hs1
  ·by_cases e0:j=0
   ·subst e0;rw[M.role] at hs1;cases hs1
   ·rw[M.seats.old j (by omega) fun k hk he=>e ⟨k,hk,he⟩] at hs1;cases hs1
 have hseats:Seats B C { S with w:=w2,fz:=fun x=>S.fz x∨x=C.r} st C.n :=
  ⟨M.seats.n,M.seats.fresh,M.seats.susp,M.seats.done,M.seats.old,M.seats.chk,M.seats.chs,M.seats.wgs,M.seats.pend,M.seats.grp,M.seats.grn,fun j hj e=>.inl (M.seats.fz j hj e),M.seats.rlo,M.seats.blo⟩
 refine sound_give fits (j:=C.g0+i) (s:=s) (r:=.seat s0) (v:=.agg #[]) (z:=.tuple #[]) (fun _=>okHd_op (b:=base 42) (ops:=sO (sL (sR c40))) (i:=11) rfl rfl nofun) hsr (by omega)
  (fun τ d=>?_) ⟨fun s1 e=>?_,fun b e=>(by cases e),by simp⟩ (fun s1 e=>?_) (fun b e=>(by cases e)) fun g2 p2 hAt=>?_
 ·refine stp_send (b:=base 42) (ops:=sO (sL (sR c40))) (i:=11) (rest:=[]) (x:=.tmp 24) (y:=.tmp 25) rfl rfl nofun rfl ?_ rfl τ d
  rw[hsc];rfl
 ·cases e
  exact⟨rfl,Nat.le_refl _,M.seats.chk,lentOf_still hM2.r,fun j s1 hj hs1=>hseatc j s1 hs1⟩
 ·cases e
  refine⟨rfl,fun b a l h=>.inr ⟨a,l,h⟩,?_⟩;have hA:Blind s0.At:=fun g w τ d h=>h;have hro:Cel (only s0.lent w2) C.r [.slice (some ⟨C.gb,0,none⟩) C.n C.cb,.slice (some ⟨C.st,0,none⟩) C.n C.n,.chan (some C.k),.slice (some ⟨g,0,none⟩) (acts++[i]).length cap,.bool false] 86:=hrC.same (only_in (.inl rfl));obtain⟨N,hN⟩:=act_walk (m:=true) (s:=s0) (n:=0) (w:=only s0.lent w2) (r:=C.r) (j:=i) (acts:=acts) (ga:=ga) (ca:=ca) (nb':=nb) (g:=g) (cap:=cap) (gb:=C.gb) (nb:=C.n) (cb:=C.cb) (b:=C.bt i) (c:=C.ch i) (gs':=C.st) (ns:=C.n) (cs':=C.n) (k:=C.k) (cs:=cl::cs) hA
   (by rw[only_size];exact Nat.le_refl _) hro hi fun G hG=>walk_at (by rw[only_size];exact Nat.le_refl _) (act2_recv rfl rfl rfl hG hG)
  exact⟨N,hN.2⟩
 ·refine thr_served (S:={S with w:=w2,fz:=fun x=>S.fz x∨x=C.r}) (s0:=s0) (acts:=acts++[i]) hB hC hi hseats hsr hs (F.top _ _ hsr) (fun j s1 hs1 hj hc=>hj (F.seatinj _ _ _ _ hs1 hsr (hc.trans hsc.symm))) rfl rfl rfl hM2 hC.btr hC.btb (hC.rb i hi)
   (by rw[hl1];exact hn) (by rw[hl1];omega) hm2 hap1 (fun wm w' g2' p2' r' a' t' X' hwm hact hro hm' hka hsu hAt'=>?_) hAt
  rw[hl1] at hact;obtain⟨o,p,q,f,hso,hsto,hf⟩:=stopOf_parts t' fun l rv e=>by subst e;exact hact.2
  rw[hso];have hw5:(({({S with w:=w2,fz:=fun x=>S.fz x∨x=C.r}:SC).give 0 (C.g0+i) s (.seat s0) p2 with w:=w'}:SC).give (C.g0+i) 0 s0 r' p2').w=w':=merge_flat rfl;generalize hS5:({({S with w:=w2,fz:=fun x=>S.fz x∨x=C.r}:SC).give 0 (C.g0+i) s (.seat s0) p2 with w:=w'}:SC).give (C.g0+i) 0 s0 r' p2'=S5 at hw5 ⊢;have hK5:=clS (Post:=Post) S5;have hmN:=hM2.next hB hC hi hm2 hap1 hwm hka hsu hsto;have hYk:∀ {x},x<w2.heap.size→C.Y (.slice (some ⟨g,0,none⟩) (acts++[i]).length cap) x→x≠C.b0 i→x≠C.b0 i+1→w'.heap[x]?=w2.heap[x]?:=fun {x} hx hy h0 h1 =>
   (hka.block x (nl' hx hwm.size) (fun hb=>hap1 x hb hy) h1).trans (hwm.block x hx h0 h1)
  have hr5:w'.heap[C.r]?=_:=(hYk (aq' hM2.r).1 (.inl rfl) (hC.rb i hi).1 (hC.rb i hi).2).trans hM2.r;have hS5b:Pl.Blk w' C.st (standsOf C.n st) 72:=(hYk (aq' hM2.stn).1 (.inr (.inr (.inl rfl))) (hC.stb i hi).1 (hC.stb i hi).2).trans hM2.stn;have hX':∀ b,X' b→¬ C.Y (.slice (some ⟨g,0,none⟩) (acts++[i]).length cap) b:=fun b hb hy=>by
   rcases hka.own b hb with h | h
   ·exact hap1 b h hy
   ·have hwz:w2.heap.size≤wm.heap.size:=hwm.size
    rcases hy with e | e | e | e | ⟨j,hj,e⟩
    ·have:=(aq' hM2.r).1;omega
    ·have:=hgb.lt;omega
    ·have:=(aq' hM2.stn).1;omega
    ·have:=hM2.rep.fp_lt b e;omega
    ·have:=hM2.room j hj;omega
  refine ks (S:=S5) (w:=w') (act_recv hK5.det hAt' hcl ⟨_,hr5⟩ hi hS5b (by rw[standsOf_len];omega) hf ?_) hw5;generalize hw6:set4 w' C.st (i*4) (.bool o) (.bool p) (.bool q) f=w6 at hmN ⊢;have h6f:∀ {x},x≠C.st→w6.heap[x]?=w'.heap[x]?:=fun hx=>hw6▸set4_frame hx;have h6s:w6.heap.size=w'.heap.size:=hw6▸set4_size;show Sound Try.prog link.tWg Post 0 { S5 with w:=w6} _;have hrole5:∀ x,S5.role x=if x=0 then .none else if x=C.g0+i then r' else S.role x:=fun x=>by
   rw[← hS5];by_cases e0:x=0
   ·subst e0;rw[if_pos rfl];exact give_j
   ·rw[if_neg e0]
    by_cases e1:x=C.g0+i
    ·subst e1;rw[if_pos rfl];exact give_h (by omega)
    ·rw[if_neg e1]
     refine(give_x e0 e1).trans ?_;show(SC.give _ 0 (C.g0+i) s (.seat s0) p2).role x=_;exact give_x e1 e0
  have h5fz:S5.fz=fun x=>S.fz x∨x=C.r:=by rw[← hS5];rfl
  have h5n:S5.n=S.n:=by rw[← hS5];rfl
  have h5n0:S5.n0=S.n0:=by rw[← hS5];rfl
  have h5W:S5.W0=S.W0:=by rw[← hS5];rfl
  have h5c:S5.chs=S.chs:=by rw[← hS5];rfl
  have h5w:S5.wgs=S.wgs:=by rw[← hS5];rfl
  have h5p:S5.pend=S.pend:=by rw[← hS5];rfl
  have h5g:S5.grp=S.grp:=by rw[← hS5];rfl
  have hnl5:∀ j s1,S5.role j=.seat s1→¬ s1.lent C.r:=fun j s1 hs1=>by
   rw[hrole5] at hs1;by_cases e0:j=0
   ·rw[if_pos e0] at hs1;cases hs1
   ·rw[if_neg e0] at hs1
    by_cases e1:j=C.g0+i
    ·rw[if_pos e1] at hs1
     subst hs1;cases t' with
     | fresh=>exact hro.elim
     | susp l rv =>
      obtain⟨s2,h1,h2⟩:=hro;cases h1;exact fun hl=>(h2.lent _ hl).1 rfl
     | done=>cases hro
    ·rw[if_neg e1] at hs1
     exact hnl j s1 hs1
  refine sound_thaw (S:={S5 with w:=w6}) (b:=C.r) hmN.r (by rw[h5fz];exact .inr rfl) (by show S5.n0≤_;rw[h5n0];exact M.seats.rlo) hnl5 ?_;have hmI:=hmN.ice (rz':=(0,0)) hC;have hrl:Kx (allOf X C (.slice (some ⟨g,0,none⟩) (acts++[i]).length cap)) (allOf X' C (.slice (some ⟨g,0,none⟩) (acts++[i]).length cap)) w2 w6:=by
   refine⟨by rw[h6s];exact Nat.le_trans hwm.size hka.size,fun b hb hz=>?_,fun b hb=>?_⟩
   ·have n0:b≠C.b0 i:=fun e=>hz (.inr (.inr (.inr (.inr (.inr ⟨i,hi,.inr (.inl e)⟩)))))
    have n1:b≠C.b0 i+1:=fun e=>hz (.inr (.inr (.inr (.inr (.inr ⟨i,hi,.inr (.inr e)⟩)))));exact(h6f fun e=>hz (.inr (.inr (.inr (.inl e))))).trans ((hka.block b (nl' hb hwm.size) (fun hx=>hz (.inl hx)) n1).trans (hwm.block b hb n0 n1))
   ·rcases hb with hb | hb
    ·exact(hka.own b hb).imp .inl fun q=>Nat.le_trans hwm.size q
    ·exact .inl (.inr hb)
  refine hnext _ a' t' X' (some ⟨g,0,none⟩) cap hact ⟨?_,hmI,?_,hX',?_⟩ ⟨?_,h5n0,h5W⟩
  ·refine⟨h5n.trans M.seats.n,fun j hj hj' e=>?_,fun j l rv hj hj' e=>?_,fun j hj hj' e=>?_,fun j hj hall=>?_,by show S5.chs _;rw[h5c];exact M.seats.chk,fun j hj e=>?_,by show S5.wgs _;rw[h5w];exact M.seats.wgs,by show S5.pend _=0;rw[h5p];exact M.seats.pend,
    fun j=>by show S5.grp j=_↔_;rw[h5g];exact M.seats.grp j,fun j=>by show S5.grp j=_∨S5.grp j=_;rw[h5g];exact M.seats.grn j,fun j hj e=>?_,by show S5.n0≤_;rw[h5n0];exact M.seats.rlo,fun j hj=>by show S5.n0≤_;rw[h5n0];exact M.seats.blo j hj⟩
   ·show ∃ s,S5.role (C.g0+j)=_∧_
    rw[hrole5,if_neg (by omega)];by_cases ej:j=i
    ·subst ej
     have e':t'=.fresh:=(if_pos rfl:updT st j t' j=t').symm.trans e;subst e';exact hact.elim
    ·rw[if_neg (by omega)]
     exact M.seats.fresh j hj hj' ((if_neg ej:updT st i t' j=st j).symm.trans e)
   ·show ∃ s,S5.role (C.g0+j)=_∧_
    rw[hrole5,if_neg (by omega)];by_cases ej:j=i
    ·subst ej
     have e':t'=.susp l rv:=(if_pos rfl:updT st j t' j=t').symm.trans e;subst e';rw[if_pos rfl];exact hro
    ·rw[if_neg (by omega)]
     exact M.seats.susp j l rv hj hj' ((if_neg ej:updT st i t' j=st j).symm.trans e)
   ·show S5.role (C.g0+j)=_
    rw[hrole5,if_neg (by omega)];by_cases ej:j=i
    ·subst ej
     have e':t'=.done:=(if_pos rfl:updT st j t' j=t').symm.trans e;subst e';rw[if_pos rfl];exact hro
    ·rw[if_neg (by omega)]
     exact M.seats.done j hj hj' ((if_neg ej:updT st i t' j=st j).symm.trans e)
   ·show S5.role j=_
    rw[hrole5,if_neg (by omega),if_neg (hall i hi)];exact M.seats.old j hj hall
   ·show S5.chs _
    rw[h5c];by_cases ej:j=i
    ·subst ej;exact M.seats.chs j hj hst
    ·exact M.seats.chs j hj fun e'=>e ((if_neg ej:updT st i t' j=st j).trans e')
   ·show S5.fz _∧_
    rw[h5fz];refine⟨.inl (M.seats.fz j hj fun e'=>?_),hC.btr j hj⟩;by_cases ej:j=i
    ·subst ej;exact hst e'
    ·exact e ((if_neg ej:updT st i t' j=st j).trans e')
  ·refine hB.frame hm' (fun b hb=>?_) (by rw[setB_size,h6s];exact Nat.le_refl _)
   exact(setB_ne fun e=>hX' b hb (.inl e)).trans (h6f fun e=>hX' b hb (.inr (.inr (.inl e))))
  ·show S5.role 0=_
   rw[hrole5,if_pos rfl]
  ·rw[← hl1]
   have k1:Kx (allOf X C (.slice (some ⟨g,0,none⟩) (acts++[i]).length cap)) (allOf X C (.slice (some ⟨g,0,none⟩) (acts++[i]).length cap)) w1 w2:=⟨Nat.le_of_eq hsz2.symm,fun b hb hz=>hne2 fun e=>hz (.inr (.inl e)),fun b hb=>.inl hb⟩;have k2:Kx (allOf X' C (.slice (some ⟨g,0,none⟩) (acts++[i]).length cap)) (allOf X' C (.slice (some ⟨g,0,none⟩) (acts++[i]).length cap)) w6 (setB w6 C.r (.cells #[.slice (some ⟨C.gb,0,none⟩) C.n C.cb,.slice (some ⟨C.st,0,none⟩) C.n C.n,.chan (some C.k),.slice (some ⟨g,0,none⟩) (acts++[i]).length cap,.bool false] 86 (0,0))) :=
    ⟨Nat.le_of_eq setB_size.symm,fun b hb hz=>setB_ne fun e=>hz (.inr (.inl e)),fun b hb=>.inl hb⟩
   rw[← hl1] at hrest1;exact hrest1.trans (k1.trans (hrl.trans k2))
end
open Go.RowKit
def Bytes (b:Nat)(w:World)(v:Value)(xs:List Nat):Prop :=
 ∃ g c,v=.slice g xs.length c∧xs.length≤c∧c≤maxLen∧(∀ u∈xs,u<256)∧(xs≠[]→∃ o,g=some ⟨b,o,none⟩∧∀ j u:Nat,xs[j]?=some u→w.cell? ⟨b,o+j,none⟩=some (.int .u8 u))
def chosen (rs acts left:List Nat):Nat × List Nat :=
 match left with
 | p::l=>(rs.getD (p % rs.length) 0,l)
 | []=>match acts.getLast? with
  | some last=>((rs.find? fun i=>decide (last<i)).getD (rs.headD 0),[])
  | none=>(rs.headD 0,[])
theorem next_calls (w:World)(r ca gr cr b:Nat)(ba sa bk lv:Value)(ga:Option Addr)(rs acts left:List Nat)(hr:Cel w r [ba,sa,bk,.slice ga acts.length ca,.bool false] 86)
  (ha:∀ last,acts.getLast?=some last→last<8∧∃ g,ga=some ⟨g,0,none⟩∧w.cell? ⟨g,acts.length-1,none⟩=some (.int .u8 last)) (hal:acts.length<4294967296)
  (hrs:∀ j i:Nat,rs[j]?=some i→i<8∧w.cell? ⟨gr,j,none⟩=some (.int .i64 i)) (hne:0<rs.length) (h8:rs.length≤8) (hl:Bytes b w lv left) :
  Calls Try.prog 41 #[ptr r,.slice (some ⟨gr,0,none⟩) rs.length cr,lv] w fun e w'=>∃ lv',e=.returned (.tuple #[.int .i64 (chosen rs acts left).1,lv'])∧Bytes b w lv' (chosen rs acts left).2∧∃ n,w'=w.drewN n:=by
 have h3:w.cell? ⟨r,3,none⟩=some (.slice ga acts.length ca):=hr.cell 3;obtain⟨gl,cl,rfl,hlc,hlm,hb,hlx⟩:=hl;cases left with
 | cons p l =>
  obtain⟨o,rfl,hcells⟩:=hlx (by simp);have hp:p<256:=hb p (by simp);have c0:w.cell? ⟨b,o,none⟩=some (.int .u8 p):=hcells 0 p rfl;have hpm:p % rs.length<rs.length:=Nat.mod_lt _ hne;have c1:w.cell? ⟨gr,p % rs.length,none⟩=some (.int .i64 (rs.getD (p % rs.length) 0:Nat)):=by
   rw[List.getD_eq_getElem?_getD,List.getElem?_eq_getElem hpm];exact(hrs _ _ (List.getElem?_eq_getElem hpm)).2
  have HQ:=Lib.hid hcells;have HB:=Lib.hid hb;clear hrs hcells hb hlx ha hr;simp only[chosen];simp only[List.length_cons] at hlc ⊢;generalize rs.getD (p % rs.length) 0=q at c1 ⊢
  go_enter Try.func41,Try.ntmps41
  go_wp2
  go_quiet (fail)
  go_wp2
  ·go_ret2
   have hl0:l=[]:=by cases l with
    | nil=>rfl
    | cons x l=>simp only[List.length_cons] at hlc;omega
   subst hl0;exact⟨_,rfl,⟨_,_,rfl,by simp,by decide,by simp,fun h=>absurd rfl h⟩,nq,rfl⟩
  ·go_ret2
   refine⟨_,rfl,⟨_,_,rfl,by omega,by omega,fun u hu=>HB.out u (List.mem_cons_of_mem _ hu),fun _=>⟨o+1,rfl,fun j u hj=>?_⟩⟩,nq,rfl⟩;have:=HQ.out (j+1) u (by simpa using hj);rw[show o+1+j=o+(j+1) from by omega];exact this
 | nil =>
  clear hlx hb;have hz:∀ j i:Nat,rs[j]?=some i→w.cell? ⟨gr,j,none⟩=some (.int .i64 i):=fun j i h=>(hrs j i h).2;have c1:w.cell? ⟨gr,0,none⟩=some (.int .i64 (rs.headD 0:Nat)):=by
   cases rs with
   | nil=>simp at hne
   | cons x l=>exact hz 0 x rfl
  have HN:Hid (Bytes b w (.slice none 0 0) []):=Lib.hid ⟨none,0,rfl,by simp,by decide,by simp,fun h=>absurd rfl h⟩;cases hac:acts.getLast? with
  | none =>
   have hl0:acts=[]:=List.getLast?_eq_none_iff.1 hac;subst hl0;have HR:=Lib.hid hrs;clear hrs ha hr hz;simp only[chosen,List.getLast?_nil];generalize rs.headD 0=q at c1 ⊢
   go_enter Try.func41,Try.ntmps41
   go_wp2
   go_ret2
   exact⟨_,rfl,HN.out,0,rfl⟩
  | some last =>
   obtain⟨hl8,g,rfl,c2⟩:=ha last hac;have hpos:0<acts.length:=by
    cases acts with
    | nil=>simp at hac
    | cons x l=>simp
   have HR:=Lib.hid hrs;have HZ:=Lib.hid hz;clear ha hr hrs hz;simp only[chosen,hac];clear hac;obtain⟨n,hn⟩:∃ n,n=acts.length:=⟨_,rfl⟩;rw[← hn] at c2 h3 hpos hal;obtain⟨m,hm⟩:∃ m,m=rs.length:=⟨_,rfl⟩;rw[← hm] at hne h8 ⊢;have HM:=Lib.hid hm;clear hn hm;generalize hq:rs.headD 0=q at c1 ⊢;have HQ:=Lib.hid hq;clear hq
   go_enter Try.func41,Try.ntmps41
   go_wp2
   go_loop [35] (fun i=>∃ j:Nat,j≤m∧i=.int .i64 j∧rs.find? (fun i=>decide (last<i))=(rs.drop j).find? (fun i=>decide (last<i))) (fun i=>m-(intOf i).toNat)
   case atStart=>exact⟨0,by omega,rfl,rfl⟩
   case round =>
    obtain⟨j,hj,rfl,hf⟩:=hrel;by_cases hlt:j<m
    ·obtain⟨x,hx⟩:∃ x,rs[j]?=some x:=⟨rs[j]'(by have:=HM.out;omega),List.getElem?_eq_getElem _⟩
     obtain⟨hx8,cx⟩:=HR.out j x hx;have hd:rs.drop j=x::rs.drop (j+1):=by
      have h1:j<rs.length:=by have:=HM.out;omega
      rw[List.drop_eq_getElem_cons h1];congr 1;rw[List.getElem?_eq_getElem h1] at hx;exact oj' hx
     rw[hd,List.find?_cons] at hf;have HF:=Lib.hid hf;have HX:=Lib.hid hx;clear hf hd hx
     go_wp2
     ·go_ret2
      have hf:=HF.out;rw[decide_eq_true (by omega)] at hf;rw[hf];exact⟨_,rfl,HN.out,0,rfl⟩
     ·go_round
      case rel =>
       refine⟨j+1,by omega,by go_num,?_⟩;have hf:=HF.out;rw[decide_eq_false (by omega)] at hf;exact hf
      case measure=>simp[intOf];omega
    ·have e1:j=m:=by omega
     have hf2:rs.find? (fun i=>decide (last<i))=none:=by
      rw[hf,e1,HM.out,List.drop_length];rfl
     have HF:=Lib.hid hf2;clear hf hf2
     go_wp2
     go_ret2
     rw[HF.out];exact⟨_,rfl,HN.out,0,rfl⟩
end Go.Proofs.Ytfbjopkiicmiiaa.Lift
namespace Go.Proofs.Ytfbjopkiicmiiaa.Lift
open Go Go.Conc Go.RowKit
def isNilF:Value→Bool
 | .nilFunc=>true
 | _=>false
def fitsM (vs:List Value)(most:Int)(p:Nat):Int :=
 if vs.length=0∨8<vs.length∨most<0 then 2 else if vs.any isNilF then 2 else if 65536<p then 4 else 0
theorem eq54_nil (w:World)(d:Nat):(Op.equalIn (d+1) 55 .nilFunc .nilFunc).run Try.prog w=.ok true w:=by simp[Op.equalIn,run_underlying Try.underlying55]
theorem eq54_fun (w:World)(d:Nat)(f:FuncId)(cap:Array Value):(Op.equalIn (d+1) 55 (.func (.func f) #[] cap) .nilFunc).run Try.prog w=.ok false w:=by simp[Op.equalIn,run_underlying Try.underlying55]
theorem rb54_nil (w:World):Sem.run Try.prog (binOp .eql 55 .nilFunc .nilFunc) w=.ok (.bool true) w:=by
 simp only[binOp];simp[Op.equal,Op.maxDepth,eq54_nil w 9999]
theorem rb54_fun (w:World)(f:FuncId)(cap:Array Value):Sem.run Try.prog (binOp .eql 55 (.func (.func f) #[] cap) .nilFunc) w=.ok (.bool false) w:=by
 simp only[binOp];simp[Op.equal,Op.maxDepth,eq54_fun w 9999]
theorem fits_calls (w:World)(g:Option Addr)(c:Nat)(vs:List Value)(lv:Value)(left:List Nat)(most:Int)(hv:∀ u∈vs,u=.nilFunc∨∃ f cap,u=.func (.func f) #[] cap)
  (hc:vs≠[]→∃ b o,g=some ⟨b,o,none⟩∧∀ (j:Nat) (u:Value),vs[j]?=some u→w.cell? ⟨b,o+j,none⟩=some u) {pb:Nat} (hl:Bytes pb w lv left) :
  Calls Try.prog 37 #[.slice g vs.length c,lv,.int .i64 most] w fun e w'=>e=.returned (.int .i64 (fitsM vs most left.length))∧w'=w:=by
 obtain⟨gl,cl,rfl,_,_,_,_⟩:=hl;obtain⟨n,hn⟩:∃ n,n=vs.length:=⟨_,rfl⟩;unfold fitsM;have HV:=Lib.hid hv;have HC:=Lib.hid hc;rw[← hn];have HN:=Lib.hid hn;clear hv hc hn;generalize hp:left.length=p;have HP:=Lib.hid hp;clear hp;generalize hres:(if n=0∨8<n∨most<0 then (2:Int) else if vs.any isNilF then 2 else if 65536<p then 4 else 0)=res;have HR:=Lib.hid hres;clear hres;have two:(n=0∨8<n∨most<0)→res=2:=fun h=>by have hr:=HR.out;rw[if_pos h] at hr;exact hr.symm
 by_cases h0:n=0
 ·obtain rfl:=two (.inl h0)
  subst h0;clear HR two
  go_enter Try.func37,Try.ntmps37
  go_wp2
  go_ret
  exact⟨rfl,rfl⟩
 by_cases h8:8<n
 ·obtain rfl:=two (.inr (.inl h8))
  clear HR two
  go_enter Try.func37,Try.ntmps37
  go_wp2
  go_ret
  exact⟨rfl,rfl⟩
 by_cases hm:most<0
 ·obtain rfl:=two (.inr (.inr hm))
  clear HR two
  go_enter Try.func37,Try.ntmps37
  go_wp2
  go_ret
  exact⟨rfl,rfl⟩
 clear two;have hr:=HR.out;rw[if_neg (by omega)] at hr;have HR:=Lib.hid hr;clear hr;have hn0:0<n:=by omega
 have hn8:n≤8:=by omega
 have hm0:0≤most:=by omega
 clear h0 h8 hm;obtain⟨b,o,rfl,hcell⟩:=HC.out (by intro e;have:=HN.out;subst e;simp at this;omega);have HE:=Lib.hid hcell;clear hcell;have l1:((n:Int)==0)=false:=by rw[beq_eq_false_iff_ne];omega
 have l2:decide ((8:Int)<n)=false:=decide_eq_false (by omega);have l3:decide (most<0)=false:=decide_eq_false (by omega)
 go_enter Try.func37,Try.ntmps37
 go_wp2
 go_loop [23] (fun i=>∃ j:Nat,j≤n∧i=.int .i64 j∧(vs.take j).any isNilF=false) (fun i=>n-(intOf i).toNat)
 case atStart=>exact⟨0,by omega,rfl,rfl⟩
 case round =>
  obtain⟨j,hj,rfl,hf⟩:=hrel;by_cases hlt:j<n
  ·obtain⟨u,hu⟩:∃ u,vs[j]?=some u:=⟨vs[j]'(by have:=HN.out;omega),List.getElem?_eq_getElem _⟩
   have cu:=HE.out j u hu;have ht:vs.take (j+1)=vs.take j++[u]:=by
    rw[List.take_add_one,hu];rfl
   have hm:=List.mem_of_getElem? hu;rcases HV.out u hm with rfl | ⟨f,cap,rfl⟩
   ·have hany:vs.any isNilF=true:=List.any_eq_true.2 ⟨_,hm,rfl⟩
    have HA:=Lib.hid hany;have hb:=rb54_nil w;clear hf hu ht hm hany
    go_wp2
    go_ret
    have hr:=HR.out;rw[if_pos HA.out] at hr;subst hr;exact⟨rfl,rfl⟩
   ·have HT:=Lib.hid ht
    have HF:=Lib.hid hf;have hb:=rb54_fun w f cap;clear hf hu ht hm
    go_wp2
    go_round
    case rel=>exact⟨j+1,by omega,by go_num,by rw[HT.out,List.any_append,HF.out];rfl⟩
    case measure=>simp[intOf];omega
  ·have e1:j=n:=by omega
   have HF:=Lib.hid hf;clear hf;have ha:vs.any isNilF=false:=by
    have:=HF.out;rw[List.take_of_length_le (by have:=HN.out;omega)] at this;exact this
   have hr:=HR.out;rw[if_neg (by rw[ha];simp)] at hr;clear ha;by_cases hp:65536<p
   ·rw[if_pos hp] at hr
    have hpl:=HP.out;subst hr
    go_wp2
    go_ret
    exact⟨rfl,rfl⟩
   ·rw[if_neg hp] at hr
    have hpl:=HP.out;subst hr
    go_wp2
    go_ret
    exact⟨rfl,rfl⟩
def endsM (cut:Bool)(ds:List Bool):List Nat:=ds.map fun d=>if d then 1 else if cut then 4 else 3
def codeM (cut:Bool)(ds:List Bool):Int:=if ds.all id then 0 else if cut then 81 else 80
theorem info69:(Try.prog.info? 118).map (fun i=>(i.zero,i.size,i.bytes))=some (some (.int .u8 0),1,1):=by kernel_rfl
abbrev RepE (w:World)(v:Value)(xs:List Nat):Prop:=Pl.Rep 118 1 (fun x:Nat=>[Value.int .u8 x]) w v xs
theorem any_not_all (ds:List Bool):ds.any not=!ds.all id:=by
 induction ds with
 | nil=>rfl
 | cons d l ih=>rw[List.any_cons,List.all_cons,ih];cases d<;>simp
theorem results_c30 {fn:Func}{a t:Tmp}{tmps:Array Value}{w:World}{b:Nat}{x0 x1 x2:Value}(h:fn.results=#[.cell a 59,.tmp t])(ha:tmps.getD a undef=ptr b)(hb:Pl.Blk w b [x0,x1,x2] 59):(results fn tmps).run Try.prog w=.ok (.tuple #[.agg #[x0,x1,x2],tmps.getD t undef]) w:=by
 have h0:=hb.cell 0;have h1:=hb.cell 1;have h2:=hb.cell 2;simp only[List.getElem?_cons_zero,List.getElem?_cons_succ] at h0 h1 h2;unfold results;rw[h];simp only[gd'] at ha;simp[go_sem,ha,h0,h1,h2,Result.andThen,Try.underlying59,Try.runUnderlying59,Try.sizeOf59,Try.isAgg59]
theorem cell_one_at (w:World)(v:Value)(t:TypeId){N:Nat}(hN:N=w.heap.size):∀ (j:Nat) (u:Value),([v]:List Value)[j]?=some u→(w.alloc (.cells #[v] t)).cell? ((⟨N,0,none⟩:Addr).add j)=some u:=hN▸cell_one_new w v t
open Pl in
theorem told_rel {w wr w2 w3:World}{n j na ca g2 cap2 N ev:Nat}{ga:Option Addr}{ve:Value}{ds:List Bool}{cut d lb:Bool}(hlt:j<n)(hN:N=w.heap.size)(ht:ds.take (j+1)=ds.take j++[d])(hev:ev=if d then 1 else if cut then 4 else 3)(hlb:lb=((ds.take j).any not||!d))
  (hb0:Blk wr N [.slice none 0 0,.slice none 0 0,.int .i64 0] 59) (hb1:Blk wr (N+1) [.slice ga na ca,ve,.int .i64 0] 59) (hfr:∀ b∈fp ve,N+2≤b) (hkp:Keeps [] w wr)
  (k1:Keeps [] wr w2) (r2:RepE w3 (.slice (some ⟨g2,0,none⟩) ((endsM cut (ds.take j)).length+1) cap2) (endsM cut (ds.take j)++[ev])) (k2:Keeps (fp ve) w2 w3) (a2:g2∈fp ve∨g2=w2.heap.size) :
  ∃ (j':Nat) (ve':Value),j'≤n∧Value.int .i64 ((j:Int)+1)=.int .i64 j'∧Value.bool lb=.bool ((ds.take j').any not)∧Value.bool false=.bool false∧RepE (w3.setCell ⟨N+1,1,none⟩ (.slice (some ⟨g2,0,none⟩) ((endsM cut (ds.take j)).length+1) cap2)) ve' (endsM cut (ds.take j'))∧Blk (w3.setCell ⟨N+1,1,none⟩ (.slice (some ⟨g2,0,none⟩) ((endsM cut (ds.take j)).length+1) cap2)) N [.slice none 0 0,.slice none 0 0,.int .i64 0] 59 ∧
   Blk (w3.setCell ⟨N+1,1,none⟩ (.slice (some ⟨g2,0,none⟩) ((endsM cut (ds.take j)).length+1) cap2)) (N+1) [.slice ga na ca,ve',.int .i64 0] 59∧(∀ b∈fp ve',N+2≤b)∧Keeps [] w (w3.setCell ⟨N+1,1,none⟩ (.slice (some ⟨g2,0,none⟩) ((endsM cut (ds.take j)).length+1) cap2)):=by
 have hend:endsM cut (ds.take (j+1))=endsM cut (ds.take j)++[ev]:=by rw[ht,hev];simp[endsM]
 have hl1:=hb1.lt;have hsz:=k1.size;have n0:N∉fp ve:=fun h=>by have:=hfr _ h;omega
 have n1:N+1∉fp ve:=fun h=>by have:=hfr _ h;omega
 have hg:N+2≤g2:=by
  rcases a2 with q | q
  ·exact hfr _ q
  ·omega
 have kc:Keeps [N+1] w3 (w3.setCell ⟨N+1,1,none⟩ (.slice (some ⟨g2,0,none⟩) ((endsM cut (ds.take j)).length+1) cap2)):=Keeps.setCell (Keeps.refl _ _) _ _ (fun _=>by simp);have b0:Blk w3 N _ 59:=k2.blk (k1.blk hb0 (by simp)) n0;have b1:Blk w3 (N+1) _ 59:=k2.blk (k1.blk hb1 (by simp)) n1;refine⟨j+1,.slice (some ⟨g2,0,none⟩) ((endsM cut (ds.take j)).length+1) cap2,by omega,by simp,?_,rfl,?_,kc.blk b0 (by simp),b1.set 1 _,?_,?_⟩
 ·rw[ht,hlb,List.any_append];simp
 ·rw[hend]
  exact r2.keeps kc (by intro b hb;simp[fp,Value.ownBlock] at hb ⊢;omega)
 ·intro b hb
  obtain rfl:b=g2:=by simpa[fp,Value.ownBlock] using hb
  exact hg
 ·have hs:=hkp.size
  refine((hkp.trans k1 (by simp)).trans k2 fun x hx hlt=>?_).trans kc fun x hx hlt=>?_
  ·have:=hfr x hx;omega
  ·simp only[List.mem_singleton] at hx;omega
open Pl in
theorem told_calls (w:World)(r gs' cs' ca n:Nat)(ba bk:Value)(ga:Option Addr)(na:Nat)(ds:List Bool)(cut:Bool)(hr:Cel w r [ba,.slice (some ⟨gs',0,none⟩) n cs',bk,.slice ga na ca,.bool false] 86)
  (hd:ds.length=n) (hn:n≤8) (hs:∀ (j:Nat) (d:Bool),ds[j]?=some d→∃ g f,isFn f∧w.cell? ⟨gs',j*4,none⟩=some (.bool d)∧w.cell? ⟨gs',j*4+1,none⟩=some (.bool false)∧w.cell? ⟨gs',j*4+2,none⟩=some (.bool g)∧w.cell? ⟨gs',j*4+3,none⟩=some f)
  (hlt:gs'<w.heap.size) :
  Calls Try.prog 43 #[ptr r,.bool cut] w fun e w'=>∃ ve,e=.returned (.tuple #[.agg #[.slice ga na ca,ve,.int .i64 0],.int .i64 (codeM cut ds)])∧RepE w' ve (endsM cut ds)∧Keeps [] w w'∧∀ b∈fp ve,w.heap.size≤b:=by
 have hcc:∀ W,Keeps [] w W→W.cell? ⟨r,3,none⟩=some (.slice ga na ca)∧W.cell? ⟨r,1,none⟩=some (.slice (some ⟨gs',0,none⟩) n cs'):=fun W k=>⟨((Keeps.kp k).cel hr (by simp)).cell 3,((Keeps.kp k).cel hr (by simp)).cell 1⟩;have hss:∀ W,Keeps [] w W→∀ (j:Nat) (d:Bool),ds[j]?=some d→∃ g f,isFn f∧W.cell? ⟨gs',j*4,none⟩=some (.bool d)∧W.cell? ⟨gs',j*4+1,none⟩=some (.bool false)∧W.cell? ⟨gs',j*4+2,none⟩=some (.bool g)∧W.cell? ⟨gs',j*4+3,none⟩=some f:=fun W k j d h=>by
  obtain⟨g,f,h0,h1,h2,h3,h4⟩:=hs j d h;have q:∀ o,W.cell? ⟨gs',o,none⟩=w.cell? ⟨gs',o,none⟩:=fun o=>(Keeps.kp k).cell hlt;exact⟨g,f,h0,(q _).trans h1,(q _).trans h2,(q _).trans h3,(q _).trans h4⟩
 have HCC:=Lib.hid hcc;have HSS:=Lib.hid hss;have HD:=Lib.hid hd;have hrl:=hr.lt;have hc0:=hr.cell 3;have hc1:=hr.cell 1;simp only[List.getElem?_cons_zero,List.getElem?_cons_succ] at hc0 hc1;clear hcc hss hd hs hr
 go_enter Try.func43,Try.ntmps43
 go_wp2
 go_loopw [6,7,22] (fun lv pv iv wr=>∃ (j:Nat) (ve:Value),j≤n∧iv=.int .i64 j∧lv=.bool ((ds.take j).any not)∧pv=.bool false∧RepE wr ve (endsM cut (ds.take j))∧Blk wr w.heap.size [.slice none 0 0,.slice none 0 0,.int .i64 0] 59∧Blk wr (w.heap.size+1) [.slice ga na ca,ve,.int .i64 0] 59∧(∀ b∈fp ve,w.heap.size+2≤b)∧Keeps [] w wr) (fun _ _ iv _=>n-(intOf iv).toNat)
 case atStart =>
  refine⟨0,_,by omega,rfl,rfl,rfl,Rep.nil,(Blk.new w [.slice none 0 0,.slice none 0 0,.int .i64 0] 59).alloc _,?_,by simp[fp,Value.ownBlock],((Keeps.refl _ _).alloc _).alloc _⟩;have:=Blk.new (w.alloc (.cells #[Value.slice none 0 0,Value.slice none 0 0,Value.int IntKind.i64 0] 59)) [.slice ga na ca,.slice none 0 0,.int .i64 0] 59;rw[wz'] at this;exact this
 case round =>
  obtain⟨j,ve,hj,rfl,rfl,rfl,hrep,hb0,hb1,hfr,hkp⟩:=hrel;by_cases hlt:j<n
  ·obtain⟨d,hdj⟩:∃ d,ds[j]?=some d:=⟨ds[j]'(by have:=HD.out;omega),List.getElem?_eq_getElem _⟩
   obtain⟨g,f,hf,s0,s1,s2,s3⟩:=HSS.out wr hkp j d hdj;have ht:ds.take (j+1)=ds.take j++[d]:=by rw[List.take_add_one,hdj];rfl
   have hsz:=hkp.size;have c1:=hb1.cell 1;have f1:=hb1.frozen 1;have l1:=hb1.lt;simp only[List.getElem?_cons_zero,List.getElem?_cons_succ] at c1;have HT:=Lib.hid ht;have HKP:=Lib.hid hkp;have HR:=Lib.hid (fun(W:World) (k:Keeps [] wr W)=>hrep.keeps k (by simp));have HF:=Lib.hid hfr;have HB0:=Lib.hid hb0;have HB1:=Lib.hid hb1;have hlen:(endsM cut (ds.take j)).length≤8:=by unfold endsM;rw[List.length_map];exact Nat.le_trans (List.length_take_le _ _) (by omega)
   clear hdj ht hkp hrep hfr hb0 hb1;have hgl:gs'<wr.heap.size:=by omega
   have hrw:=HKP.out.size;rcases hf with rfl | ⟨ff,fx,fc,rfl⟩
   ·cases d
    ·cases cut
     ·have HO:=Lib.hid (cell_one_at (wr.alloc (.cells #[.bool false,.bool false,.bool g,.nilFunc] 72)) (.int .u8 ((3:Nat):Int)) 118 (wz' _ _).symm)
      go_wp2_with (refine wpList_rep_append rfl (.tmp 35) (.tmp 37) 57 rfl (.int .u8 0) 1 Try.underlying57 info69 rfl (by decide) ve (endsM false (ds.take j)) rfl (HR.out _ (((Keeps.refl _ _).alloc _).alloc _)) (fun _=>rfl) ⟨wr.heap.size+1,0,none⟩ 1 1 [3] rfl rfl HO.out (by simp[Value.oneCell']) (by decide) (by unfold maxLen;omega) (by omega) ?_;intro g2 cap2 w2 r2 k2 a2 lg q2;have c2:=(k2.blk ((HB1.out.alloc _).alloc _) (fun hm=>by have:=HF.out _ hm;omega)).cell 1;have f2:=(k2.blk ((HB1.out.alloc _).alloc _) (fun hm=>by have:=HF.out _ hm;omega)).frozen 1;have R2:=Lib.hid r2;have K2:=Lib.hid k2;have A2:=Lib.hid a2;clear r2 k2 a2)
      go_roundw
      case rel =>
       exact told_rel (d:=false) (cut:=false ) (ev:=3) hlt rfl HT.out rfl (by simp) (HB0.out) HB1.out HF.out HKP.out (((Keeps.refl _ _).alloc _).alloc _) R2.out K2.out A2.out
      case measure=>simp[intOf];omega
     ·have HO:=Lib.hid (cell_one_at (wr.alloc (.cells #[.bool false,.bool false,.bool g,.nilFunc] 72)) (.int .u8 ((4:Nat):Int)) 118 (wz' _ _).symm)
      go_wp2_with (refine wpList_rep_append rfl (.tmp 35) (.tmp 37) 57 rfl (.int .u8 0) 1 Try.underlying57 info69 rfl (by decide) ve (endsM true (ds.take j)) rfl (HR.out _ (((Keeps.refl _ _).alloc _).alloc _)) (fun _=>rfl) ⟨wr.heap.size+1,0,none⟩ 1 1 [4] rfl rfl HO.out (by simp[Value.oneCell']) (by decide) (by unfold maxLen;omega) (by omega) ?_;intro g2 cap2 w2 r2 k2 a2 lg q2;have c2:=(k2.blk ((HB1.out.alloc _).alloc _) (fun hm=>by have:=HF.out _ hm;omega)).cell 1;have f2:=(k2.blk ((HB1.out.alloc _).alloc _) (fun hm=>by have:=HF.out _ hm;omega)).frozen 1;have R2:=Lib.hid r2;have K2:=Lib.hid k2;have A2:=Lib.hid a2;clear r2 k2 a2)
      go_roundw
      case rel =>
       exact told_rel (d:=false) (cut:=true ) (ev:=4) hlt rfl HT.out rfl (by simp) (HB0.out) HB1.out HF.out HKP.out (((Keeps.refl _ _).alloc _).alloc _) R2.out K2.out A2.out
      case measure=>simp[intOf];omega
    ·have HO:=Lib.hid (cell_one_at (wr.alloc (.cells #[.bool true,.bool false,.bool g,.nilFunc] 72)) (.int .u8 ((1:Nat):Int)) 118 (wz' _ _).symm)
     go_wp2_with (refine wpList_rep_append rfl (.tmp 35) (.tmp 37) 57 rfl (.int .u8 0) 1 Try.underlying57 info69 rfl (by decide) ve (endsM cut (ds.take j)) rfl (HR.out _ (((Keeps.refl _ _).alloc _).alloc _)) (fun _=>rfl) ⟨wr.heap.size+1,0,none⟩ 1 1 [1] rfl rfl HO.out (by simp[Value.oneCell']) (by decide) (by unfold maxLen;omega) (by omega) ?_;intro g2 cap2 w2 r2 k2 a2 lg q2;have c2:=(k2.blk ((HB1.out.alloc _).alloc _) (fun hm=>by have:=HF.out _ hm;omega)).cell 1;have f2:=(k2.blk ((HB1.out.alloc _).alloc _) (fun hm=>by have:=HF.out _ hm;omega)).frozen 1;have R2:=Lib.hid r2;have K2:=Lib.hid k2;have A2:=Lib.hid a2;clear r2 k2 a2)
     go_roundw
     case rel =>
      exact told_rel (d:=true) (cut:=cut ) (ev:=1) hlt rfl HT.out rfl (by simp) (HB0.out) HB1.out HF.out HKP.out (((Keeps.refl _ _).alloc _).alloc _) R2.out K2.out A2.out
     case measure=>simp[intOf];omega
   ·cases d
    ·cases cut
     ·have HO:=Lib.hid (cell_one_at (wr.alloc (.cells #[.bool false,.bool false,.bool g,.func ff fx fc] 72)) (.int .u8 ((3:Nat):Int)) 118 (wz' _ _).symm)
      go_wp2_with (refine wpList_rep_append rfl (.tmp 35) (.tmp 37) 57 rfl (.int .u8 0) 1 Try.underlying57 info69 rfl (by decide) ve (endsM false (ds.take j)) rfl (HR.out _ (((Keeps.refl _ _).alloc _).alloc _)) (fun _=>rfl) ⟨wr.heap.size+1,0,none⟩ 1 1 [3] rfl rfl HO.out (by simp[Value.oneCell']) (by decide) (by unfold maxLen;omega) (by omega) ?_;intro g2 cap2 w2 r2 k2 a2 lg q2;have c2:=(k2.blk ((HB1.out.alloc _).alloc _) (fun hm=>by have:=HF.out _ hm;omega)).cell 1;have f2:=(k2.blk ((HB1.out.alloc _).alloc _) (fun hm=>by have:=HF.out _ hm;omega)).frozen 1;have R2:=Lib.hid r2;have K2:=Lib.hid k2;have A2:=Lib.hid a2;clear r2 k2 a2)
      go_roundw
      case rel =>
       exact told_rel (d:=false) (cut:=false ) (ev:=3) hlt rfl HT.out rfl (by simp) (HB0.out) HB1.out HF.out HKP.out (((Keeps.refl _ _).alloc _).alloc _) R2.out K2.out A2.out
      case measure=>simp[intOf];omega
     ·have HO:=Lib.hid (cell_one_at (wr.alloc (.cells #[.bool false,.bool false,.bool g,.func ff fx fc] 72)) (.int .u8 ((4:Nat):Int)) 118 (wz' _ _).symm)
      go_wp2_with (refine wpList_rep_append rfl (.tmp 35) (.tmp 37) 57 rfl (.int .u8 0) 1 Try.underlying57 info69 rfl (by decide) ve (endsM true (ds.take j)) rfl (HR.out _ (((Keeps.refl _ _).alloc _).alloc _)) (fun _=>rfl) ⟨wr.heap.size+1,0,none⟩ 1 1 [4] rfl rfl HO.out (by simp[Value.oneCell']) (by decide) (by unfold maxLen;omega) (by omega) ?_;intro g2 cap2 w2 r2 k2 a2 lg q2;have c2:=(k2.blk ((HB1.out.alloc _).alloc _) (fun hm=>by have:=HF.out _ hm;omega)).cell 1;have f2:=(k2.blk ((HB1.out.alloc _).alloc _) (fun hm=>by have:=HF.out _ hm;omega)).frozen 1;have R2:=Lib.hid r2;have K2:=Lib.hid k2;have A2:=Lib.hid a2;clear r2 k2 a2)
      go_roundw
      case rel =>
       exact told_rel (d:=false) (cut:=true ) (ev:=4) hlt rfl HT.out rfl (by simp) (HB0.out) HB1.out HF.out HKP.out (((Keeps.refl _ _).alloc _).alloc _) R2.out K2.out A2.out
      case measure=>simp[intOf];omega
    ·have HO:=Lib.hid (cell_one_at (wr.alloc (.cells #[.bool true,.bool false,.bool g,.func ff fx fc] 72)) (.int .u8 ((1:Nat):Int)) 118 (wz' _ _).symm)
     go_wp2_with (refine wpList_rep_append rfl (.tmp 35) (.tmp 37) 57 rfl (.int .u8 0) 1 Try.underlying57 info69 rfl (by decide) ve (endsM cut (ds.take j)) rfl (HR.out _ (((Keeps.refl _ _).alloc _).alloc _)) (fun _=>rfl) ⟨wr.heap.size+1,0,none⟩ 1 1 [1] rfl rfl HO.out (by simp[Value.oneCell']) (by decide) (by unfold maxLen;omega) (by omega) ?_;intro g2 cap2 w2 r2 k2 a2 lg q2;have c2:=(k2.blk ((HB1.out.alloc _).alloc _) (fun hm=>by have:=HF.out _ hm;omega)).cell 1;have f2:=(k2.blk ((HB1.out.alloc _).alloc _) (fun hm=>by have:=HF.out _ hm;omega)).frozen 1;have R2:=Lib.hid r2;have K2:=Lib.hid k2;have A2:=Lib.hid a2;clear r2 k2 a2)
     go_roundw
     case rel =>
      exact told_rel (d:=true) (cut:=cut ) (ev:=1) hlt rfl HT.out rfl (by simp) (HB0.out) HB1.out HF.out HKP.out (((Keeps.refl _ _).alloc _).alloc _) R2.out K2.out A2.out
     case measure=>simp[intOf];omega
  ·have e1:j=n:=by omega
   subst e1;have hta:ds.take j=ds:=List.take_of_length_le (by have:=HD.out;omega);rw[hta] at hrep;obtain⟨ae,ce,rfl,_,_,_⟩:=hrep.form;generalize hle:(endsM cut ds).length=le at *;have HLE:=Lib.hid hle;clear hle;have hsz:=hkp.size;have c0:=hb1.cell 0;have c1:=hb1.cell 1;have c2:=hb1.cell 2;have f0:=hb0.frozen 0;have f1:=hb0.frozen 1;have f2:=hb0.frozen 2;have z0:=hb0.cell 0;have z1:=hb0.cell 1;have z2:=hb0.cell 2;have l0:=hb0.lt;have l1:=hb1.lt;simp only[List.getElem?_cons_zero,List.getElem?_cons_succ] at c0 c1 c2 z0 z1 z2;have hall:=any_not_all ds;have HA:=Lib.hid hall;have HB0:=Lib.hid hb0;have HKP:=Lib.hid hkp;have HR:=Lib.hid hrep;have HF:=Lib.hid hfr;have HCM:Hid (codeM cut ds=if ds.all id then 0 else if cut then 81 else 80):=rfl;rw[hta];clear hta hall hb0 hb1 hkp hrep hfr;rw[HA.out];generalize ds.all id=al at *;have three:∀ (W:World),RepE wr (.slice ae le ce) (endsM cut ds)→Keeps [] w wr→Keeps [w.heap.size] wr W→(∀ b∈fp (.slice ae le ce),w.heap.size+2≤b)→RepE W (.slice ae le ce) (endsM cut ds)∧Keeps [] w W∧∀ b∈fp (.slice ae le ce),w.heap.size≤b:=fun W h k k2 hf =>
    ⟨h.keeps k2 fun b hb=>by have:=hf b hb;simp;omega,k.trans k2 fun x hx hlt=>by simp only[List.mem_singleton] at hx;omega,fun b hb=>by have:=hf b hb;omega⟩
   have H3:=Lib.hid three;clear three;cases al
   ·cases cut
    ·have hcd:codeM false ds=80:=HCM.out
     go_wp2
     (try simp only[Exit.inBlock,Exit.then])
     refine bodyPost_ret (results_c30 rfl rfl (((HB0.out.set 0 _).set 1 _).set 2 _)) rfl ?_;exact⟨_,by first | rfl | (rw[hcd];rfl),H3.out _ HR.out HKP.out (Keeps.setCell (Keeps.setCell (Keeps.setCell (Keeps.refl _ _) _ _ (fun _=>by simp)) _ _ (fun _=>by simp)) _ _ (fun _=>by simp)) HF.out⟩
    ·have hcd:codeM true ds=81:=HCM.out
     go_wp2
     (try simp only[Exit.inBlock,Exit.then])
     refine bodyPost_ret (results_c30 rfl rfl (((HB0.out.set 0 _).set 1 _).set 2 _)) rfl ?_;exact⟨_,by first | rfl | (rw[hcd];rfl),H3.out _ HR.out HKP.out (Keeps.setCell (Keeps.setCell (Keeps.setCell (Keeps.refl _ _) _ _ (fun _=>by simp)) _ _ (fun _=>by simp)) _ _ (fun _=>by simp)) HF.out⟩
   ·have hcd:codeM cut ds=0:=HCM.out
    go_wp2
    (try simp only[Exit.inBlock,Exit.then])
    refine bodyPost_ret (results_c30 rfl rfl (((HB0.out.set 0 _).set 1 _).set 2 _)) rfl ?_;exact⟨_,by first | rfl | (rw[hcd];rfl),H3.out _ HR.out HKP.out (Keeps.setCell (Keeps.setCell (Keeps.setCell (Keeps.refl _ _) _ _ (fun _=>by simp)) _ _ (fun _=>by simp)) _ _ (fun _=>by simp)) HF.out⟩
end Go.Proofs.Ytfbjopkiicmiiaa.Lift
namespace Go.Proofs.Ytfbjopkiicmiiaa.Lift
open Go Go.Conc Go.RowKit
variable {K:Goroutine→World→Prop}{m:Bool}{w:World}{cs:List Frame}{v0 v1 bh lv rv:Value}{most:Int}{ob r all i:Nat}{tm:Array Value}{cl:Frame}
def watTm (v0 v1:Value)(most:Int)(bh:Value)(ob r all:Nat)(lv:Value)(tm:Array Value):Prop:=∃ x:Nat→Value,tm=#[v0,v1,.int .i64 most,bh,x 4,x 5,x 6,x 7,ptr ob,x 9,x 10,ptr r,ptr all,x 13,x 14,x 15,lv,x 17,x 18,x 19,x 20,x 21,x 22,x 23,x 24,x 25,x 26,x 27,x 28,x 29,x 30,x 31,x 32,x 33,x 34,x 35,x 36,x 37,x 38,x 39,x 40,x 41,x 42,x 43,x 44,x 45,x 46,x 47,x 48,x 49,x 50,x 51,x 52,x 53,x 54,x 55,x 56,x 57,x 58,x 59,x 60,x 61,x 62,x 63,x 64,x 65,x 66,x 67,x 68,x 69,x 70,x 71,x 72,x 73,x 74,x 75,x 76,x 77,x 78,x 79,x 80,x 81,x 82,x 83,x 84,x 85,x 86,x 87,x 88,x 89,x 90,x 91,x 92,x 93,x 94,x 95,x 96,x 97,x 98,x 99,x 100,x 101,x 102,x 103,x 104,x 105,x 106,x 107,x 108,x 109,x 110,x 111,x 112,x 113,x 114]
def watBody:Code:=sB (sB (sL (sR (sR (sR (sR (sR (sR c27))))))))
def watRest:Code:=sR (sR (sR (sR (sR (sR (sR c27))))))
noncomputable abbrev watTail:List Item:=[.inLoop watBody,.inBlock 2,.code watRest]
def watHead (tm:Array Value):Frame:=(base 32).at ⟨tm,[]⟩ (.code watBody::watTail)
def watOut (tm:Array Value):Frame:=(base 32).at ⟨tm,[]⟩ [.code watRest]
def watReady (tm:Array Value):Frame:=(base 32).at ⟨tm,[]⟩ [.inRegion (sO (sL (sB (sR (sB (sB (sL (sR (sR (sR (sR (sR (sR c27))))))))))))) [1,2],.code (sR (sB (sR (sB (sB (sL (sR (sR (sR (sR (sR (sR c27)))))))))))),.inBlock 3,.inLoop (sB (sB (sL (sR (sR (sR (sR (sR (sR c27))))))))),.inBlock 2,.code (sR (sR (sR (sR (sR (sR (sR c27)))))))]
theorem wat_full {ba sa bk:Value}{ga:Option Addr}{na ca:Nat}(hD:Det Try.prog m fun _=>K)(hr:Cel w r [ba,sa,bk,.slice ga na ca,.bool false] 86)(hb:most≤na)(htm:watTm v0 v1 most bh ob r all lv tm)(h:∀ tm,watTm v0 v1 most bh ob r all lv tm→K (gs (watOut tm) cs) w):K (gs (watHead tm) cs) w:=by
 obtain⟨x,rfl⟩:=htm;have hk:(base 32).kind≠.early:=nofun;unfold watHead;refine hD.s0 ?_;refine hD.s0 ?_;refine hD.r0 ?_;refine hD.mv (ptr r) hk ?_;refine hD.nc ⟨r,0,none⟩ hk ?_;refine hD.fd (ptrAt r 3) hk (fld86 (by omega)) ?_;refine hD.ld (.slice ga na ca) hk (fun τ d=>ld23 (hr.cell 3)) ?_;refine norm0 (a':=⟨#[v0,v1,.int .i64 most,bh,x 4,x 5,x 6,x 7,ptr ob,x 9,x 10,ptr r,ptr all,x 13,x 14,x 15,lv,x 17,x 18,x 19,x 20,x 21,x 22,x 23,x 24,x 25,x 26,x 27,x 28,x 29,x 30,x 31,x 32,x 33,x 34,x 35,x 36,x 37,x 38,x 39,x 40,x 41,x 42,x 43,x 44,x 45,x 46,x 47,x 48,x 49,x 50,x 51,x 52,x 53,x 54,x 55,x 56,x 57,x 58,x 59,x 60,x 61,x 62,ptr r,ptr r,ptrAt r 3,.slice ga na ca,x 67,x 68,x 69,x 70,x 71,x 72,x 73,x 74,x 75,x 76,x 77,x 78,x 79,x 80,x 81,x 82,x 83,x 84,x 85,x 86,x 87,x 88,x 89,x 90,x 91,x 92,x 93,x 94,x 95,x 96,x 97,x 98,x 99,x 100,x 101,x 102,x 103,x 104,x 105,x 106,x 107,x 108,x 109,x 110,x 111,x 112,x 113,x 114],[]⟩) ?_;refine hD.pu (.int .i64 na) hk (fun w=>pu_len (x:=.tmp 66) rfl rfl Try.underlying56) ?_;refine hD.mv (.int .i64 most) hk ?_;refine hD.pu (.bool (decide ((na:Int)<most))) hk (fun w=>pu_lss (x:=.tmp 67) (y:=.tmp 68) rfl rfl rfl) ?_;refine norm0 (a':=⟨#[v0,v1,.int .i64 most,bh,x 4,x 5,x 6,x 7,ptr ob,x 9,x 10,ptr r,ptr all,x 13,x 14,x 15,lv,x 17,x 18,x 19,x 20,x 21,x 22,x 23,x 24,x 25,x 26,x 27,x 28,x 29,x 30,x 31,x 32,x 33,x 34,x 35,x 36,x 37,x 38,x 39,x 40,x 41,x 42,x 43,x 44,x 45,x 46,x 47,x 48,x 49,x 50,x 51,x 52,x 53,x 54,x 55,x 56,x 57,x 58,x 59,x 60,x 61,x 62,ptr r,ptr r,ptrAt r 3,.slice ga na ca,.int .i64 na,.int .i64 most,.bool (decide ((na:Int)<most)),x 70,x 71,x 72,x 73,x 74,x 75,x 76,x 77,x 78,x 79,x 80,x 81,x 82,x 83,x 84,x 85,x 86,x 87,x 88,x 89,x 90,x 91,x 92,x 93,x 94,x 95,x 96,x 97,x 98,x 99,x 100,x 101,x 102,x 103,x 104,x 105,x 106,x 107,x 108,x 109,x 110,x 111,x 112,x 113,x 114],[]⟩) ?_;refine hD.e0 ?_;refine hD.cond (n:=0) false (by show Value.bool (decide ((na:Int)<most))=_;rw[decide_eq_false (by omega)]) rfl ?_;refine hD.exit (n:=0) (k':=[.code watRest]) rfl ?_;exact h _ ⟨fun q9=>(#[v0,v1,.int .i64 most,bh,x 4,x 5,x 6,x 7,ptr ob,x 9,x 10,ptr r,ptr all,x 13,x 14,x 15,lv,x 17,x 18,x 19,x 20,x 21,x 22,x 23,x 24,x 25,x 26,x 27,x 28,x 29,x 30,x 31,x 32,x 33,x 34,x 35,x 36,x 37,x 38,x 39,x 40,x 41,x 42,x 43,x 44,x 45,x 46,x 47,x 48,x 49,x 50,x 51,x 52,x 53,x 54,x 55,x 56,x 57,x 58,x 59,x 60,x 61,x 62,ptr r,ptr r,ptrAt r 3,.slice ga na ca,.int .i64 na,.int .i64 most,.bool (decide ((na:Int)<most)),x 70,x 71,x 72,x 73,x 74,x 75,x 76,x 77,x 78,x 79,x 80,x 81,x 82,x 83,x 84,x 85,x 86,x 87,x 88,x 89,x 90,x 91,x 92,x 93,x 94,x 95,x 96,x 97,x 98,x 99,x 100,x 101,x 102,x 103,x 104,x 105,x 106,x 107,x 108,x 109,x 110,x 111,x 112,x 113,x 114]:Array Value).getD q9 undef,rfl⟩
theorem wat_ask {ba sa bk:Value}{ga:Option Addr}{na ca:Nat}(hD:Det Try.prog m fun _=>K)(hr:Cel w r [ba,sa,bk,.slice ga na ca,.bool false] 86)(hb:na<most)(htm:watTm v0 v1 most bh ob r all lv tm)(h:∀ tm,watTm v0 v1 most bh ob r all lv tm→K (gs (Frame.enter Try.prog 40 #[ptr r] .normal) (watReady tm::cs)) w):K (gs (watHead tm) cs) w:=by
 obtain⟨x,rfl⟩:=htm;have hk:(base 32).kind≠.early:=nofun;unfold watHead;refine hD.s0 ?_;refine hD.s0 ?_;refine hD.r0 ?_;refine hD.mv (ptr r) hk ?_;refine hD.nc ⟨r,0,none⟩ hk ?_;refine hD.fd (ptrAt r 3) hk (fld86 (by omega)) ?_;refine hD.ld (.slice ga na ca) hk (fun τ d=>ld23 (hr.cell 3)) ?_;refine norm0 (a':=⟨#[v0,v1,.int .i64 most,bh,x 4,x 5,x 6,x 7,ptr ob,x 9,x 10,ptr r,ptr all,x 13,x 14,x 15,lv,x 17,x 18,x 19,x 20,x 21,x 22,x 23,x 24,x 25,x 26,x 27,x 28,x 29,x 30,x 31,x 32,x 33,x 34,x 35,x 36,x 37,x 38,x 39,x 40,x 41,x 42,x 43,x 44,x 45,x 46,x 47,x 48,x 49,x 50,x 51,x 52,x 53,x 54,x 55,x 56,x 57,x 58,x 59,x 60,x 61,x 62,ptr r,ptr r,ptrAt r 3,.slice ga na ca,x 67,x 68,x 69,x 70,x 71,x 72,x 73,x 74,x 75,x 76,x 77,x 78,x 79,x 80,x 81,x 82,x 83,x 84,x 85,x 86,x 87,x 88,x 89,x 90,x 91,x 92,x 93,x 94,x 95,x 96,x 97,x 98,x 99,x 100,x 101,x 102,x 103,x 104,x 105,x 106,x 107,x 108,x 109,x 110,x 111,x 112,x 113,x 114],[]⟩) ?_;refine hD.pu (.int .i64 na) hk (fun w=>pu_len (x:=.tmp 66) rfl rfl Try.underlying56) ?_;refine hD.mv (.int .i64 most) hk ?_;refine hD.pu (.bool (decide ((na:Int)<most))) hk (fun w=>pu_lss (x:=.tmp 67) (y:=.tmp 68) rfl rfl rfl) ?_;refine norm0 (a':=⟨#[v0,v1,.int .i64 most,bh,x 4,x 5,x 6,x 7,ptr ob,x 9,x 10,ptr r,ptr all,x 13,x 14,x 15,lv,x 17,x 18,x 19,x 20,x 21,x 22,x 23,x 24,x 25,x 26,x 27,x 28,x 29,x 30,x 31,x 32,x 33,x 34,x 35,x 36,x 37,x 38,x 39,x 40,x 41,x 42,x 43,x 44,x 45,x 46,x 47,x 48,x 49,x 50,x 51,x 52,x 53,x 54,x 55,x 56,x 57,x 58,x 59,x 60,x 61,x 62,ptr r,ptr r,ptrAt r 3,.slice ga na ca,.int .i64 na,.int .i64 most,.bool (decide ((na:Int)<most)),x 70,x 71,x 72,x 73,x 74,x 75,x 76,x 77,x 78,x 79,x 80,x 81,x 82,x 83,x 84,x 85,x 86,x 87,x 88,x 89,x 90,x 91,x 92,x 93,x 94,x 95,x 96,x 97,x 98,x 99,x 100,x 101,x 102,x 103,x 104,x 105,x 106,x 107,x 108,x 109,x 110,x 111,x 112,x 113,x 114],[]⟩) ?_;refine hD.e0 ?_;refine hD.cond (n:=0) true (by show Value.bool (decide ((na:Int)<most))=_;rw[decide_eq_true (by omega)]) rfl ?_;refine hD.k0 ?_;refine hD.block (n:=0) ?_;refine hD.s0 ?_;refine hD.r0 ?_;refine hD.mv (ptr r) hk ?_;refine norm0 (a':=⟨#[v0,v1,.int .i64 most,bh,x 4,x 5,x 6,x 7,ptr ob,x 9,x 10,ptr r,ptr all,x 13,x 14,x 15,lv,x 17,x 18,x 19,x 20,x 21,x 22,x 23,x 24,x 25,x 26,x 27,x 28,x 29,x 30,x 31,x 32,x 33,x 34,x 35,x 36,x 37,x 38,x 39,x 40,x 41,x 42,x 43,x 44,x 45,x 46,x 47,x 48,x 49,x 50,x 51,x 52,x 53,x 54,x 55,x 56,x 57,x 58,x 59,x 60,x 61,x 62,ptr r,ptr r,ptrAt r 3,.slice ga na ca,.int .i64 na,.int .i64 most,.bool (decide ((na:Int)<most)),ptr r,x 71,x 72,x 73,x 74,x 75,x 76,x 77,x 78,x 79,x 80,x 81,x 82,x 83,x 84,x 85,x 86,x 87,x 88,x 89,x 90,x 91,x 92,x 93,x 94,x 95,x 96,x 97,x 98,x 99,x 100,x 101,x 102,x 103,x 104,x 105,x 106,x 107,x 108,x 109,x 110,x 111,x 112,x 113,x 114],[]⟩) ?_;refine hD.cf #[ptr r] hk Try.func40 ?_;exact h _ ⟨fun q9=>(#[v0,v1,.int .i64 most,bh,x 4,x 5,x 6,x 7,ptr ob,x 9,x 10,ptr r,ptr all,x 13,x 14,x 15,lv,x 17,x 18,x 19,x 20,x 21,x 22,x 23,x 24,x 25,x 26,x 27,x 28,x 29,x 30,x 31,x 32,x 33,x 34,x 35,x 36,x 37,x 38,x 39,x 40,x 41,x 42,x 43,x 44,x 45,x 46,x 47,x 48,x 49,x 50,x 51,x 52,x 53,x 54,x 55,x 56,x 57,x 58,x 59,x 60,x 61,x 62,ptr r,ptr r,ptrAt r 3,.slice ga na ca,.int .i64 na,.int .i64 most,.bool (decide ((na:Int)<most)),ptr r,x 71,x 72,x 73,x 74,x 75,x 76,x 77,x 78,x 79,x 80,x 81,x 82,x 83,x 84,x 85,x 86,x 87,x 88,x 89,x 90,x 91,x 92,x 93,x 94,x 95,x 96,x 97,x 98,x 99,x 100,x 101,x 102,x 103,x 104,x 105,x 106,x 107,x 108,x 109,x 110,x 111,x 112,x 113,x 114]:Array Value).getD q9 undef,rfl⟩
theorem pu_eqz {a:Act}{oo:Oper}{w:World}{x:Operand}{i:Int}(h:oo.op=.binOp .eql 3 x (.const (.int .i64 0)) 3)(hx:a.eval x=.int .i64 i):(execOp a.eval oo).run Try.prog w=.ok (.value (.bool (decide (i=0)))) w:=by
 unfold execOp;rw[h];simp only[hx];rw[show a.eval (.const (.int .i64 0))=.int .i64 0 from rfl];exact run_vv (by simp[go_sem,Try.underlying3,Try.runUnderlying3,BEq.beq])
theorem wat_none {gl:Option Addr}{cl':Nat}(hD:Det Try.prog m fun _=>K)(htm:watTm v0 v1 most bh ob r all lv tm)(h:∀ tm,watTm v0 v1 most bh ob r all lv tm→K (gs (watOut tm) cs) w):K (gs ((watReady tm).finish (.slice gl 0 cl')) cs) w:=by
 obtain⟨x,rfl⟩:=htm;have hk:(base 32).kind≠.early:=nofun;unfold watReady;refine fin0 (some 71) ?_;refine hD.as (.slice gl 0 cl') hk ?_;refine norm0 (a':=⟨#[v0,v1,.int .i64 most,bh,x 4,x 5,x 6,x 7,ptr ob,x 9,x 10,ptr r,ptr all,x 13,x 14,x 15,lv,.slice gl 0 cl',x 18,x 19,x 20,x 21,x 22,x 23,x 24,x 25,x 26,x 27,x 28,x 29,x 30,x 31,x 32,x 33,x 34,x 35,x 36,x 37,x 38,x 39,x 40,x 41,x 42,x 43,x 44,x 45,x 46,x 47,x 48,x 49,x 50,x 51,x 52,x 53,x 54,x 55,x 56,x 57,x 58,x 59,x 60,x 61,x 62,x 63,x 64,x 65,x 66,x 67,x 68,x 69,x 70,.slice gl 0 cl',x 72,x 73,x 74,x 75,x 76,x 77,x 78,x 79,x 80,x 81,x 82,x 83,x 84,x 85,x 86,x 87,x 88,x 89,x 90,x 91,x 92,x 93,x 94,x 95,x 96,x 97,x 98,x 99,x 100,x 101,x 102,x 103,x 104,x 105,x 106,x 107,x 108,x 109,x 110,x 111,x 112,x 113,x 114],[]⟩) ?_;refine hD.e0 ?_;refine hD.s0 ?_;refine hD.s0 ?_;refine hD.r0 ?_;refine hD.mv (.slice gl 0 cl') hk ?_;refine hD.pu (.int .i64 (0:Nat)) hk (fun w=>pu_len (x:=.tmp 72) rfl rfl Try.underlying99) ?_;refine hD.pu (.bool (decide (((0:Nat):Int)=0))) hk (fun w=>pu_eqz (x:=.tmp 73) rfl rfl) ?_;refine norm0 (a':=⟨#[v0,v1,.int .i64 most,bh,x 4,x 5,x 6,x 7,ptr ob,x 9,x 10,ptr r,ptr all,x 13,x 14,x 15,lv,.slice gl 0 cl',x 18,x 19,x 20,x 21,x 22,x 23,x 24,x 25,x 26,x 27,x 28,x 29,x 30,x 31,x 32,x 33,x 34,x 35,x 36,x 37,x 38,x 39,x 40,x 41,x 42,x 43,x 44,x 45,x 46,x 47,x 48,x 49,x 50,x 51,x 52,x 53,x 54,x 55,x 56,x 57,x 58,x 59,x 60,x 61,x 62,x 63,x 64,x 65,x 66,x 67,x 68,x 69,x 70,.slice gl 0 cl',.slice gl 0 cl',.int .i64 (0:Nat),.bool (decide (((0:Nat):Int)=0)),x 75,x 76,x 77,x 78,x 79,x 80,x 81,x 82,x 83,x 84,x 85,x 86,x 87,x 88,x 89,x 90,x 91,x 92,x 93,x 94,x 95,x 96,x 97,x 98,x 99,x 100,x 101,x 102,x 103,x 104,x 105,x 106,x 107,x 108,x 109,x 110,x 111,x 112,x 113,x 114],[]⟩) ?_;refine hD.e0 ?_;refine hD.cond (n:=0) true rfl rfl ?_;refine hD.exit (n:=0) (k':=[.code watRest]) rfl ?_;exact h _ ⟨fun q9=>(#[v0,v1,.int .i64 most,bh,x 4,x 5,x 6,x 7,ptr ob,x 9,x 10,ptr r,ptr all,x 13,x 14,x 15,lv,.slice gl 0 cl',x 18,x 19,x 20,x 21,x 22,x 23,x 24,x 25,x 26,x 27,x 28,x 29,x 30,x 31,x 32,x 33,x 34,x 35,x 36,x 37,x 38,x 39,x 40,x 41,x 42,x 43,x 44,x 45,x 46,x 47,x 48,x 49,x 50,x 51,x 52,x 53,x 54,x 55,x 56,x 57,x 58,x 59,x 60,x 61,x 62,x 63,x 64,x 65,x 66,x 67,x 68,x 69,x 70,.slice gl 0 cl',.slice gl 0 cl',.int .i64 (0:Nat),.bool (decide (((0:Nat):Int)=0)),x 75,x 76,x 77,x 78,x 79,x 80,x 81,x 82,x 83,x 84,x 85,x 86,x 87,x 88,x 89,x 90,x 91,x 92,x 93,x 94,x 95,x 96,x 97,x 98,x 99,x 100,x 101,x 102,x 103,x 104,x 105,x 106,x 107,x 108,x 109,x 110,x 111,x 112,x 113,x 114]:Array Value).getD q9 undef,rfl⟩
def watNext (tm:Array Value):Frame:=(base 32).at ⟨tm,[]⟩ [.inRegion (sO (sL (sR (sR (sR (sB (sR (sB (sB (sL (sR (sR (sR (sR (sR (sR c27)))))))))))))))) [3,4,5,6,7,8],.code (sR (sR (sR (sR (sB (sR (sB (sB (sL (sR (sR (sR (sR (sR (sR c27))))))))))))))),.inBlock 3,.inLoop (sB (sB (sL (sR (sR (sR (sR (sR (sR c27))))))))),.inBlock 2,.code (sR (sR (sR (sR (sR (sR (sR c27)))))))]
theorem wat_some {gl:Option Addr}{nr cl':Nat}(hD:Det Try.prog m fun _=>K)(hnr:0<nr)(htm:watTm v0 v1 most bh ob r all lv tm)(h:∀ tm,watTm v0 v1 most bh ob r all lv tm→K (gs (Frame.enter Try.prog 41 #[ptr r,.slice gl nr cl',lv] .normal) (watNext tm::cs)) w):K (gs ((watReady tm).finish (.slice gl nr cl')) cs) w:=by
 obtain⟨x,rfl⟩:=htm;have hk:(base 32).kind≠.early:=nofun;unfold watReady;refine fin0 (some 71) ?_;refine hD.as (.slice gl nr cl') hk ?_;refine norm0 (a':=⟨#[v0,v1,.int .i64 most,bh,x 4,x 5,x 6,x 7,ptr ob,x 9,x 10,ptr r,ptr all,x 13,x 14,x 15,lv,.slice gl nr cl',x 18,x 19,x 20,x 21,x 22,x 23,x 24,x 25,x 26,x 27,x 28,x 29,x 30,x 31,x 32,x 33,x 34,x 35,x 36,x 37,x 38,x 39,x 40,x 41,x 42,x 43,x 44,x 45,x 46,x 47,x 48,x 49,x 50,x 51,x 52,x 53,x 54,x 55,x 56,x 57,x 58,x 59,x 60,x 61,x 62,x 63,x 64,x 65,x 66,x 67,x 68,x 69,x 70,.slice gl nr cl',x 72,x 73,x 74,x 75,x 76,x 77,x 78,x 79,x 80,x 81,x 82,x 83,x 84,x 85,x 86,x 87,x 88,x 89,x 90,x 91,x 92,x 93,x 94,x 95,x 96,x 97,x 98,x 99,x 100,x 101,x 102,x 103,x 104,x 105,x 106,x 107,x 108,x 109,x 110,x 111,x 112,x 113,x 114],[]⟩) ?_;refine hD.e0 ?_;refine hD.s0 ?_;refine hD.s0 ?_;refine hD.r0 ?_;refine hD.mv (.slice gl nr cl') hk ?_;refine hD.pu (.int .i64 (nr:Nat)) hk (fun w=>pu_len (x:=.tmp 72) rfl rfl Try.underlying99) ?_;refine hD.pu (.bool (decide (((nr:Nat):Int)=0))) hk (fun w=>pu_eqz (x:=.tmp 73) rfl rfl) ?_;refine norm0 (a':=⟨#[v0,v1,.int .i64 most,bh,x 4,x 5,x 6,x 7,ptr ob,x 9,x 10,ptr r,ptr all,x 13,x 14,x 15,lv,.slice gl nr cl',x 18,x 19,x 20,x 21,x 22,x 23,x 24,x 25,x 26,x 27,x 28,x 29,x 30,x 31,x 32,x 33,x 34,x 35,x 36,x 37,x 38,x 39,x 40,x 41,x 42,x 43,x 44,x 45,x 46,x 47,x 48,x 49,x 50,x 51,x 52,x 53,x 54,x 55,x 56,x 57,x 58,x 59,x 60,x 61,x 62,x 63,x 64,x 65,x 66,x 67,x 68,x 69,x 70,.slice gl nr cl',.slice gl nr cl',.int .i64 (nr:Nat),.bool (decide (((nr:Nat):Int)=0)),x 75,x 76,x 77,x 78,x 79,x 80,x 81,x 82,x 83,x 84,x 85,x 86,x 87,x 88,x 89,x 90,x 91,x 92,x 93,x 94,x 95,x 96,x 97,x 98,x 99,x 100,x 101,x 102,x 103,x 104,x 105,x 106,x 107,x 108,x 109,x 110,x 111,x 112,x 113,x 114],[]⟩) ?_;refine hD.e0 ?_;refine hD.cond (n:=0) false (by show Value.bool (decide (((nr:Nat):Int)=0))=_;rw[decide_eq_false (by omega)]) rfl ?_;refine hD.k0 ?_;refine hD.s0 ?_;refine hD.r0 ?_;refine hD.as (.int .i64 0) hk ?_;refine norm0 (a':=⟨#[v0,v1,.int .i64 most,bh,x 4,x 5,x 6,x 7,ptr ob,x 9,x 10,ptr r,ptr all,x 13,x 14,x 15,lv,.slice gl nr cl',.int .i64 0,x 19,x 20,x 21,x 22,x 23,x 24,x 25,x 26,x 27,x 28,x 29,x 30,x 31,x 32,x 33,x 34,x 35,x 36,x 37,x 38,x 39,x 40,x 41,x 42,x 43,x 44,x 45,x 46,x 47,x 48,x 49,x 50,x 51,x 52,x 53,x 54,x 55,x 56,x 57,x 58,x 59,x 60,x 61,x 62,x 63,x 64,x 65,x 66,x 67,x 68,x 69,x 70,.slice gl nr cl',.slice gl nr cl',.int .i64 (nr:Nat),.bool (decide (((nr:Nat):Int)=0)),x 75,x 76,x 77,x 78,x 79,x 80,x 81,x 82,x 83,x 84,x 85,x 86,x 87,x 88,x 89,x 90,x 91,x 92,x 93,x 94,x 95,x 96,x 97,x 98,x 99,x 100,x 101,x 102,x 103,x 104,x 105,x 106,x 107,x 108,x 109,x 110,x 111,x 112,x 113,x 114],[]⟩) ?_;refine hD.e0 ?_;refine hD.s0 ?_;refine hD.r0 ?_;refine hD.mv (ptr r) hk ?_;refine hD.mv (.slice gl nr cl') hk ?_;refine hD.mv lv hk ?_;refine norm0 (a':=⟨#[v0,v1,.int .i64 most,bh,x 4,x 5,x 6,x 7,ptr ob,x 9,x 10,ptr r,ptr all,x 13,x 14,x 15,lv,.slice gl nr cl',.int .i64 0,x 19,x 20,x 21,x 22,x 23,x 24,x 25,x 26,x 27,x 28,x 29,x 30,x 31,x 32,x 33,x 34,x 35,x 36,x 37,x 38,x 39,x 40,x 41,x 42,x 43,x 44,x 45,x 46,x 47,x 48,x 49,x 50,x 51,x 52,x 53,x 54,x 55,x 56,x 57,x 58,x 59,x 60,x 61,x 62,x 63,x 64,x 65,x 66,x 67,x 68,x 69,x 70,.slice gl nr cl',.slice gl nr cl',.int .i64 (nr:Nat),.bool (decide (((nr:Nat):Int)=0)),x 75,ptr r,.slice gl nr cl',lv,x 79,x 80,x 81,x 82,x 83,x 84,x 85,x 86,x 87,x 88,x 89,x 90,x 91,x 92,x 93,x 94,x 95,x 96,x 97,x 98,x 99,x 100,x 101,x 102,x 103,x 104,x 105,x 106,x 107,x 108,x 109,x 110,x 111,x 112,x 113,x 114],[]⟩) ?_
 refine hD.cf #[ptr r,.slice gl nr cl',lv] hk Try.func41 ?_;exact h _ ⟨fun q9=>(#[v0,v1,.int .i64 most,bh,x 4,x 5,x 6,x 7,ptr ob,x 9,x 10,ptr r,ptr all,x 13,x 14,x 15,lv,.slice gl nr cl',.int .i64 0,x 19,x 20,x 21,x 22,x 23,x 24,x 25,x 26,x 27,x 28,x 29,x 30,x 31,x 32,x 33,x 34,x 35,x 36,x 37,x 38,x 39,x 40,x 41,x 42,x 43,x 44,x 45,x 46,x 47,x 48,x 49,x 50,x 51,x 52,x 53,x 54,x 55,x 56,x 57,x 58,x 59,x 60,x 61,x 62,x 63,x 64,x 65,x 66,x 67,x 68,x 69,x 70,.slice gl nr cl',.slice gl nr cl',.int .i64 (nr:Nat),.bool (decide (((nr:Nat):Int)=0)),x 75,ptr r,.slice gl nr cl',lv,x 79,x 80,x 81,x 82,x 83,x 84,x 85,x 86,x 87,x 88,x 89,x 90,x 91,x 92,x 93,x 94,x 95,x 96,x 97,x 98,x 99,x 100,x 101,x 102,x 103,x 104,x 105,x 106,x 107,x 108,x 109,x 110,x 111,x 112,x 113,x 114]:Array Value).getD q9 undef,rfl⟩
def watAct (tm:Array Value):Frame:=(base 32).at ⟨tm,[]⟩ [.inRegion (sO (sL (sR (sR (sR (sR (sB (sR (sB (sB (sL (sR (sR (sR (sR (sR (sR c27))))))))))))))))) [2],.code (sR (sR (sR (sR (sR (sB (sR (sB (sB (sL (sR (sR (sR (sR (sR (sR c27)))))))))))))))),.inBlock 3,.inLoop (sB (sB (sL (sR (sR (sR (sR (sR (sR c27))))))))),.inBlock 2,.code (sR (sR (sR (sR (sR (sR (sR c27)))))))]
theorem wat_act {lv':Value}(hD:Det Try.prog m fun _=>K)(htm:watTm v0 v1 most bh ob r all lv tm)(h:∀ tm,watTm v0 v1 most bh ob r all lv' tm→K (gs (Frame.enter Try.prog 42 #[ptr r,.int .i64 i] .normal) (watAct tm::cs)) w):K (gs ((watNext tm).finish (.tuple #[.int .i64 i,lv'])) cs) w:=by
 obtain⟨x,rfl⟩:=htm;have hk:(base 32).kind≠.early:=nofun;unfold watNext;refine fin0 (some 79) ?_;refine hD.mv (.tuple #[.int .i64 i,lv']) hk ?_;refine hD.pu (.int .i64 i) hk (fun w=>rfl) ?_;refine hD.pu lv' hk (fun w=>rfl) ?_;refine norm0 (a':=⟨#[v0,v1,.int .i64 most,bh,x 4,x 5,x 6,x 7,ptr ob,x 9,x 10,ptr r,ptr all,x 13,x 14,x 15,lv,x 17,x 18,x 19,x 20,x 21,x 22,x 23,x 24,x 25,x 26,x 27,x 28,x 29,x 30,x 31,x 32,x 33,x 34,x 35,x 36,x 37,x 38,x 39,x 40,x 41,x 42,x 43,x 44,x 45,x 46,x 47,x 48,x 49,x 50,x 51,x 52,x 53,x 54,x 55,x 56,x 57,x 58,x 59,x 60,x 61,x 62,x 63,x 64,x 65,x 66,x 67,x 68,x 69,x 70,x 71,x 72,x 73,x 74,.tuple #[.int .i64 i,lv'],x 76,x 77,x 78,.tuple #[.int .i64 i,lv'],.int .i64 i,lv',x 82,x 83,x 84,x 85,x 86,x 87,x 88,x 89,x 90,x 91,x 92,x 93,x 94,x 95,x 96,x 97,x 98,x 99,x 100,x 101,x 102,x 103,x 104,x 105,x 106,x 107,x 108,x 109,x 110,x 111,x 112,x 113,x 114],[]⟩) ?_;refine hD.as (.int .i64 i) hk ?_;refine hD.as lv' hk ?_;refine norm0 (a':=⟨#[v0,v1,.int .i64 most,bh,x 4,x 5,x 6,x 7,ptr ob,x 9,x 10,ptr r,ptr all,x 13,x 14,x 15,lv',x 17,.int .i64 i,x 19,x 20,x 21,x 22,x 23,x 24,x 25,x 26,x 27,x 28,x 29,x 30,x 31,x 32,x 33,x 34,x 35,x 36,x 37,x 38,x 39,x 40,x 41,x 42,x 43,x 44,x 45,x 46,x 47,x 48,x 49,x 50,x 51,x 52,x 53,x 54,x 55,x 56,x 57,x 58,x 59,x 60,x 61,x 62,x 63,x 64,x 65,x 66,x 67,x 68,x 69,x 70,x 71,x 72,x 73,x 74,.tuple #[.int .i64 i,lv'],x 76,x 77,x 78,.tuple #[.int .i64 i,lv'],.int .i64 i,lv',x 82,x 83,x 84,x 85,x 86,x 87,x 88,x 89,x 90,x 91,x 92,x 93,x 94,x 95,x 96,x 97,x 98,x 99,x 100,x 101,x 102,x 103,x 104,x 105,x 106,x 107,x 108,x 109,x 110,x 111,x 112,x 113,x 114],[]⟩) ?_;refine hD.e0 ?_;refine hD.s0 ?_;refine hD.r0 ?_;refine hD.mv (ptr r) hk ?_;refine hD.mv (.int .i64 i) hk ?_;refine norm0 (a':=⟨#[v0,v1,.int .i64 most,bh,x 4,x 5,x 6,x 7,ptr ob,x 9,x 10,ptr r,ptr all,x 13,x 14,x 15,lv',x 17,.int .i64 i,x 19,x 20,x 21,x 22,x 23,x 24,x 25,x 26,x 27,x 28,x 29,x 30,x 31,x 32,x 33,x 34,x 35,x 36,x 37,x 38,x 39,x 40,x 41,x 42,x 43,x 44,x 45,x 46,x 47,x 48,x 49,x 50,x 51,x 52,x 53,x 54,x 55,x 56,x 57,x 58,x 59,x 60,x 61,x 62,x 63,x 64,x 65,x 66,x 67,x 68,x 69,x 70,x 71,x 72,x 73,x 74,.tuple #[.int .i64 i,lv'],x 76,x 77,x 78,.tuple #[.int .i64 i,lv'],.int .i64 i,lv',ptr r,.int .i64 i,x 84,x 85,x 86,x 87,x 88,x 89,x 90,x 91,x 92,x 93,x 94,x 95,x 96,x 97,x 98,x 99,x 100,x 101,x 102,x 103,x 104,x 105,x 106,x 107,x 108,x 109,x 110,x 111,x 112,x 113,x 114],[]⟩) ?_;refine hD.cf #[ptr r,.int .i64 i] hk Try.func42 ?_;exact h _ ⟨fun q9=>(#[v0,v1,.int .i64 most,bh,x 4,x 5,x 6,x 7,ptr ob,x 9,x 10,ptr r,ptr all,x 13,x 14,x 15,lv',x 17,.int .i64 i,x 19,x 20,x 21,x 22,x 23,x 24,x 25,x 26,x 27,x 28,x 29,x 30,x 31,x 32,x 33,x 34,x 35,x 36,x 37,x 38,x 39,x 40,x 41,x 42,x 43,x 44,x 45,x 46,x 47,x 48,x 49,x 50,x 51,x 52,x 53,x 54,x 55,x 56,x 57,x 58,x 59,x 60,x 61,x 62,x 63,x 64,x 65,x 66,x 67,x 68,x 69,x 70,x 71,x 72,x 73,x 74,.tuple #[.int .i64 i,lv'],x 76,x 77,x 78,.tuple #[.int .i64 i,lv'],.int .i64 i,lv',ptr r,.int .i64 i,x 84,x 85,x 86,x 87,x 88,x 89,x 90,x 91,x 92,x 93,x 94,x 95,x 96,x 97,x 98,x 99,x 100,x 101,x 102,x 103,x 104,x 105,x 106,x 107,x 108,x 109,x 110,x 111,x 112,x 113,x 114]:Array Value).getD q9 undef,rfl⟩
theorem eq1_nil (w:World)(d:Nat):(Op.equalIn (d+1) 1 .nilFunc .nilFunc).run Try.prog w=.ok true w:=by simp[Op.equalIn,run_underlying Try.underlying1]
theorem eq1_fun (w:World)(d:Nat)(f:FuncId)(cap:Array Value):(Op.equalIn (d+1) 1 (.func (.func f) #[] cap) .nilFunc).run Try.prog w=.ok false w:=by simp[Op.equalIn,run_underlying Try.underlying1]
theorem rb1_nil (w:World):Sem.run Try.prog (binOp .neq 1 .nilFunc .nilFunc) w=.ok (.bool false) w:=by
 simp only[binOp];simp[Op.equal,Op.maxDepth,eq1_nil w 9999]
theorem rb1_fun (w:World)(f:FuncId)(cap:Array Value):Sem.run Try.prog (binOp .neq 1 (.func (.func f) #[] cap) .nilFunc) w=.ok (.bool true) w:=by
 simp only[binOp];simp[Op.equal,Op.maxDepth,eq1_fun w 9999]
theorem pu_ne1nil {a:Act}{oo:Oper}{w:World}{x:Operand}(h:oo.op=.binOp .neq 1 x (.const .nilFunc) 1)(hx:a.eval x=.nilFunc):(execOp a.eval oo).run Try.prog w=.ok (.value (.bool false)) w:=by
 unfold execOp;rw[h];simp only[hx];rw[show a.eval (.const .nilFunc)=.nilFunc from rfl];exact run_vv (by simp[go_sem,rb1_nil,Try.underlying1,Try.runUnderlying1])
theorem pu_ne1fun {a:Act}{oo:Oper}{w:World}{x:Operand}{f:FuncId}{cap:Array Value}(h:oo.op=.binOp .neq 1 x (.const .nilFunc) 1)(hx:a.eval x=.func (.func f) #[] cap):(execOp a.eval oo).run Try.prog w=.ok (.value (.bool true)) w:=by
 unfold execOp;rw[h];simp only[hx];rw[show a.eval (.const .nilFunc)=.nilFunc from rfl];exact run_vv (by simp[go_sem,rb1_fun,Try.underlying1,Try.runUnderlying1])
theorem wat_bare (hD:Det Try.prog m fun _=>K)(htm:watTm v0 v1 most .nilFunc ob r all lv tm)(h:∀ tm,watTm v0 v1 most .nilFunc ob r all lv tm→K (gs (watHead tm) cs) w):K (gs ((watAct tm).finish (.tuple #[])) cs) w:=by
 obtain⟨x,rfl⟩:=htm;have hk:(base 32).kind≠.early:=nofun;unfold watAct;refine fin0 (some 84) ?_;refine norm0 (a':=⟨#[v0,v1,.int .i64 most,.nilFunc,x 4,x 5,x 6,x 7,ptr ob,x 9,x 10,ptr r,ptr all,x 13,x 14,x 15,lv,x 17,x 18,x 19,x 20,x 21,x 22,x 23,x 24,x 25,x 26,x 27,x 28,x 29,x 30,x 31,x 32,x 33,x 34,x 35,x 36,x 37,x 38,x 39,x 40,x 41,x 42,x 43,x 44,x 45,x 46,x 47,x 48,x 49,x 50,x 51,x 52,x 53,x 54,x 55,x 56,x 57,x 58,x 59,x 60,x 61,x 62,x 63,x 64,x 65,x 66,x 67,x 68,x 69,x 70,x 71,x 72,x 73,x 74,x 75,x 76,x 77,x 78,x 79,x 80,x 81,x 82,x 83,.tuple #[],x 85,x 86,x 87,x 88,x 89,x 90,x 91,x 92,x 93,x 94,x 95,x 96,x 97,x 98,x 99,x 100,x 101,x 102,x 103,x 104,x 105,x 106,x 107,x 108,x 109,x 110,x 111,x 112,x 113,x 114],[]⟩) ?_;refine hD.e0 ?_;refine hD.s0 ?_;refine hD.r0 ?_;refine hD.mv (.nilFunc) hk ?_;refine hD.pu (.bool false) hk (fun w=>pu_ne1nil (x:=.tmp 85) rfl rfl) ?_;refine norm0 (a':=⟨#[v0,v1,.int .i64 most,.nilFunc,x 4,x 5,x 6,x 7,ptr ob,x 9,x 10,ptr r,ptr all,x 13,x 14,x 15,lv,x 17,x 18,x 19,x 20,x 21,x 22,x 23,x 24,x 25,x 26,x 27,x 28,x 29,x 30,x 31,x 32,x 33,x 34,x 35,x 36,x 37,x 38,x 39,x 40,x 41,x 42,x 43,x 44,x 45,x 46,x 47,x 48,x 49,x 50,x 51,x 52,x 53,x 54,x 55,x 56,x 57,x 58,x 59,x 60,x 61,x 62,x 63,x 64,x 65,x 66,x 67,x 68,x 69,x 70,x 71,x 72,x 73,x 74,x 75,x 76,x 77,x 78,x 79,x 80,x 81,x 82,x 83,.tuple #[],.nilFunc,.bool false,x 87,x 88,x 89,x 90,x 91,x 92,x 93,x 94,x 95,x 96,x 97,x 98,x 99,x 100,x 101,x 102,x 103,x 104,x 105,x 106,x 107,x 108,x 109,x 110,x 111,x 112,x 113,x 114],[]⟩) ?_;refine hD.e0 ?_;refine hD.cond (n:=0) false rfl rfl ?_;refine hD.k0 ?_;refine hD.inBlock (n:=0) ?_;refine hD.inLoop (n:=0) ?_;exact h _ ⟨fun q9=>(#[v0,v1,.int .i64 most,.nilFunc,x 4,x 5,x 6,x 7,ptr ob,x 9,x 10,ptr r,ptr all,x 13,x 14,x 15,lv,x 17,x 18,x 19,x 20,x 21,x 22,x 23,x 24,x 25,x 26,x 27,x 28,x 29,x 30,x 31,x 32,x 33,x 34,x 35,x 36,x 37,x 38,x 39,x 40,x 41,x 42,x 43,x 44,x 45,x 46,x 47,x 48,x 49,x 50,x 51,x 52,x 53,x 54,x 55,x 56,x 57,x 58,x 59,x 60,x 61,x 62,x 63,x 64,x 65,x 66,x 67,x 68,x 69,x 70,x 71,x 72,x 73,x 74,x 75,x 76,x 77,x 78,x 79,x 80,x 81,x 82,x 83,.tuple #[],.nilFunc,.bool false,x 87,x 88,x 89,x 90,x 91,x 92,x 93,x 94,x 95,x 96,x 97,x 98,x 99,x 100,x 101,x 102,x 103,x 104,x 105,x 106,x 107,x 108,x 109,x 110,x 111,x 112,x 113,x 114]:Array Value).getD q9 undef,rfl⟩
def watBeh (tm:Array Value):Frame:=(base 32).at ⟨tm,[]⟩ [.inRegion (sO (sT (sR (sR (sR (sR (sR (sR (sB (sR (sB (sB (sL (sR (sR (sR (sR (sR (sR c27))))))))))))))))))) [1],.inBlock 3,.inLoop (sB (sB (sL (sR (sR (sR (sR (sR (sR c27))))))))),.inBlock 2,.code (sR (sR (sR (sR (sR (sR (sR c27)))))))]
theorem wat_beh {fb:FuncId}{capb:Array Value}{fn:Func}{cd:Code}(hD:Det Try.prog m fun _=>K)(hf:Try.prog.funcs[fb]?=some fn)(hn:(fn.name == "runtime.NumGoroutine")=false)(hbd:fn.body=some cd)(htm:watTm v0 v1 most (.func (.func fb) #[] capb) ob r all lv tm)(h:∀ tm,watTm v0 v1 most (.func (.func fb) #[] capb) ob r all lv tm→K (gs (Frame.enter Try.prog fb capb .normal) (watBeh tm::cs)) w):K (gs ((watAct tm).finish (.tuple #[])) cs) w:=by
 obtain⟨x,rfl⟩:=htm;have hk:(base 32).kind≠.early:=nofun;unfold watAct;refine fin0 (some 84) ?_;refine norm0 (a':=⟨#[v0,v1,.int .i64 most,(.func (.func fb) #[] capb),x 4,x 5,x 6,x 7,ptr ob,x 9,x 10,ptr r,ptr all,x 13,x 14,x 15,lv,x 17,x 18,x 19,x 20,x 21,x 22,x 23,x 24,x 25,x 26,x 27,x 28,x 29,x 30,x 31,x 32,x 33,x 34,x 35,x 36,x 37,x 38,x 39,x 40,x 41,x 42,x 43,x 44,x 45,x 46,x 47,x 48,x 49,x 50,x 51,x 52,x 53,x 54,x 55,x 56,x 57,x 58,x 59,x 60,x 61,x 62,x 63,x 64,x 65,x 66,x 67,x 68,x 69,x 70,x 71,x 72,x 73,x 74,x 75,x 76,x 77,x 78,x 79,x 80,x 81,x 82,x 83,.tuple #[],x 85,x 86,x 87,x 88,x 89,x 90,x 91,x 92,x 93,x 94,x 95,x 96,x 97,x 98,x 99,x 100,x 101,x 102,x 103,x 104,x 105,x 106,x 107,x 108,x 109,x 110,x 111,x 112,x 113,x 114],[]⟩) ?_;refine hD.e0 ?_;refine hD.s0 ?_;refine hD.r0 ?_;refine hD.mv (.func (.func fb) #[] capb) hk ?_;refine hD.pu (.bool true) hk (fun w=>pu_ne1fun (x:=.tmp 85) rfl rfl) ?_;refine norm0 (a':=⟨#[v0,v1,.int .i64 most,(.func (.func fb) #[] capb),x 4,x 5,x 6,x 7,ptr ob,x 9,x 10,ptr r,ptr all,x 13,x 14,x 15,lv,x 17,x 18,x 19,x 20,x 21,x 22,x 23,x 24,x 25,x 26,x 27,x 28,x 29,x 30,x 31,x 32,x 33,x 34,x 35,x 36,x 37,x 38,x 39,x 40,x 41,x 42,x 43,x 44,x 45,x 46,x 47,x 48,x 49,x 50,x 51,x 52,x 53,x 54,x 55,x 56,x 57,x 58,x 59,x 60,x 61,x 62,x 63,x 64,x 65,x 66,x 67,x 68,x 69,x 70,x 71,x 72,x 73,x 74,x 75,x 76,x 77,x 78,x 79,x 80,x 81,x 82,x 83,.tuple #[],(.func (.func fb) #[] capb),.bool true,x 87,x 88,x 89,x 90,x 91,x 92,x 93,x 94,x 95,x 96,x 97,x 98,x 99,x 100,x 101,x 102,x 103,x 104,x 105,x 106,x 107,x 108,x 109,x 110,x 111,x 112,x 113,x 114],[]⟩) ?_;refine hD.e0 ?_;refine hD.cond (n:=0) true rfl rfl ?_;refine hD.r0 ?_;refine hD.mv (.func (.func fb) #[] capb) hk ?_;refine norm0 (a':=⟨#[v0,v1,.int .i64 most,(.func (.func fb) #[] capb),x 4,x 5,x 6,x 7,ptr ob,x 9,x 10,ptr r,ptr all,x 13,x 14,x 15,lv,x 17,x 18,x 19,x 20,x 21,x 22,x 23,x 24,x 25,x 26,x 27,x 28,x 29,x 30,x 31,x 32,x 33,x 34,x 35,x 36,x 37,x 38,x 39,x 40,x 41,x 42,x 43,x 44,x 45,x 46,x 47,x 48,x 49,x 50,x 51,x 52,x 53,x 54,x 55,x 56,x 57,x 58,x 59,x 60,x 61,x 62,x 63,x 64,x 65,x 66,x 67,x 68,x 69,x 70,x 71,x 72,x 73,x 74,x 75,x 76,x 77,x 78,x 79,x 80,x 81,x 82,x 83,.tuple #[],(.func (.func fb) #[] capb),.bool true,(.func (.func fb) #[] capb),x 88,x 89,x 90,x 91,x 92,x 93,x 94,x 95,x 96,x 97,x 98,x 99,x 100,x 101,x 102,x 103,x 104,x 105,x 106,x 107,x 108,x 109,x 110,x 111,x 112,x 113,x 114],[]⟩) ?_;refine hD.callf (n:=0) (args:=capb) hk rfl ⟨rfl,rfl,rfl,(by decide +kernel),nofun⟩ (fun w=>x_call rfl rfl hf hn hbd (by simp)) ?_;exact h _ ⟨fun q9=>(#[v0,v1,.int .i64 most,(.func (.func fb) #[] capb),x 4,x 5,x 6,x 7,ptr ob,x 9,x 10,ptr r,ptr all,x 13,x 14,x 15,lv,x 17,x 18,x 19,x 20,x 21,x 22,x 23,x 24,x 25,x 26,x 27,x 28,x 29,x 30,x 31,x 32,x 33,x 34,x 35,x 36,x 37,x 38,x 39,x 40,x 41,x 42,x 43,x 44,x 45,x 46,x 47,x 48,x 49,x 50,x 51,x 52,x 53,x 54,x 55,x 56,x 57,x 58,x 59,x 60,x 61,x 62,x 63,x 64,x 65,x 66,x 67,x 68,x 69,x 70,x 71,x 72,x 73,x 74,x 75,x 76,x 77,x 78,x 79,x 80,x 81,x 82,x 83,.tuple #[],(.func (.func fb) #[] capb),.bool true,(.func (.func fb) #[] capb),x 88,x 89,x 90,x 91,x 92,x 93,x 94,x 95,x 96,x 97,x 98,x 99,x 100,x 101,x 102,x 103,x 104,x 105,x 106,x 107,x 108,x 109,x 110,x 111,x 112,x 113,x 114]:Array Value).getD q9 undef,rfl⟩
theorem wat_again (hD:Det Try.prog m fun _=>K)(htm:watTm v0 v1 most bh ob r all lv tm)(h:∀ tm,watTm v0 v1 most bh ob r all lv tm→K (gs (watHead tm) cs) w):K (gs ((watBeh tm).finish (.tuple #[])) cs) w:=by
 obtain⟨x,rfl⟩:=htm;have hk:(base 32).kind≠.early:=nofun;unfold watBeh;refine fin0 (some 88) ?_;refine norm0 (a':=⟨#[v0,v1,.int .i64 most,bh,x 4,x 5,x 6,x 7,ptr ob,x 9,x 10,ptr r,ptr all,x 13,x 14,x 15,lv,x 17,x 18,x 19,x 20,x 21,x 22,x 23,x 24,x 25,x 26,x 27,x 28,x 29,x 30,x 31,x 32,x 33,x 34,x 35,x 36,x 37,x 38,x 39,x 40,x 41,x 42,x 43,x 44,x 45,x 46,x 47,x 48,x 49,x 50,x 51,x 52,x 53,x 54,x 55,x 56,x 57,x 58,x 59,x 60,x 61,x 62,x 63,x 64,x 65,x 66,x 67,x 68,x 69,x 70,x 71,x 72,x 73,x 74,x 75,x 76,x 77,x 78,x 79,x 80,x 81,x 82,x 83,x 84,x 85,x 86,x 87,.tuple #[],x 89,x 90,x 91,x 92,x 93,x 94,x 95,x 96,x 97,x 98,x 99,x 100,x 101,x 102,x 103,x 104,x 105,x 106,x 107,x 108,x 109,x 110,x 111,x 112,x 113,x 114],[]⟩) ?_;refine hD.e0 ?_;refine hD.inBlock (n:=0) ?_;refine hD.inLoop (n:=0) ?_;exact h _ ⟨fun q9=>(#[v0,v1,.int .i64 most,bh,x 4,x 5,x 6,x 7,ptr ob,x 9,x 10,ptr r,ptr all,x 13,x 14,x 15,lv,x 17,x 18,x 19,x 20,x 21,x 22,x 23,x 24,x 25,x 26,x 27,x 28,x 29,x 30,x 31,x 32,x 33,x 34,x 35,x 36,x 37,x 38,x 39,x 40,x 41,x 42,x 43,x 44,x 45,x 46,x 47,x 48,x 49,x 50,x 51,x 52,x 53,x 54,x 55,x 56,x 57,x 58,x 59,x 60,x 61,x 62,x 63,x 64,x 65,x 66,x 67,x 68,x 69,x 70,x 71,x 72,x 73,x 74,x 75,x 76,x 77,x 78,x 79,x 80,x 81,x 82,x 83,x 84,x 85,x 86,x 87,.tuple #[],x 89,x 90,x 91,x 92,x 93,x 94,x 95,x 96,x 97,x 98,x 99,x 100,x 101,x 102,x 103,x 104,x 105,x 106,x 107,x 108,x 109,x 110,x 111,x 112,x 113,x 114]:Array Value).getD q9 undef,rfl⟩
end Go.Proofs.Ytfbjopkiicmiiaa.Lift
namespace Go.Proofs.Ytfbjopkiicmiiaa.Lift
open Go Go.Conc
open Go.ConcN (sumTo upd sumTo_upd upd_ne upd_same WgLive)
structure RunSt (L A:Type) where
 st:Nat→ES L
 a:A
 acts:List Nat
 left:List Nat
section
variable {L A:Type}(B:Bods L A)(n:Nat)(beh:A→A)
def rdyE (i:Nat)(t:ES L)(a:A):Bool:=match t with
 | .fresh=>true
 | .susp l=>B.rdy i l a
 | .done=>false
def rdyT (i:Nat)(t:TS L)(a:A):Bool:=rdyE B i (er t) a
def readies (x:RunSt L A):List Nat:=(List.range n).filter fun i=>rdyE B i (x.st i) x.a
def toT (q:Option L):ES L:=match q with
 | some l=>.susp l
 | none=>.done
def updE {L:Type}(st:Nat→ES L)(i:Nat)(t:ES L):Nat→ES L:=fun j=>if j=i then t else st j
def oneAct (x:RunSt L A)(i:Nat)(left:List Nat):RunSt L A :=
 { st:=updE x.st i (toT (B.go i (x.st i) x.a (x.acts.length+1)).2),a:=beh (B.go i (x.st i) x.a (x.acts.length+1)).1,acts:=x.acts++[i],left:=left}
def runF:Nat→RunSt L A→RunSt L A
 | 0,x=>x
 | k+1,x=>if readies B n x=[] then x else runF k (oneAct B beh x (chosen (readies B n x) x.acts x.left).1 (chosen (readies B n x) x.acts x.left).2)
end
section
variable {L A:Type}{B:Bods L A}{n:Nat}{beh:A→A}
theorem runF_acts (k:Nat):∀ x:RunSt L A,x.acts.length≤(runF B n beh k x).acts.length:=by
 induction k with
 | zero=>exact fun x=>Nat.le_refl _
 | succ k ih =>
  intro x;unfold runF;split
  ·exact Nat.le_refl _
  ·refine Nat.le_trans ?_ (ih _)
   show _≤(x.acts++[_]).length;simp
theorem chosen_mem {rs acts left:List Nat}(h:rs≠[]):(chosen rs acts left).1∈rs:=by
 have hd:rs.headD 0∈rs:=by cases rs with
  | nil=>exact absurd rfl h
  | cons x l=>simp
 have hl:0<rs.length:=List.length_pos_iff.2 h;unfold chosen;cases left with
 | cons p l =>
  show rs.getD (p % rs.length) 0∈rs;have hm:p % rs.length<rs.length:=Nat.mod_lt _ hl;rw[List.getD_eq_getElem?_getD,List.getElem?_eq_getElem hm];exact List.getElem_mem hm
 | nil =>
  cases acts.getLast? with
  | none=>exact hd
  | some last =>
   show(rs.find? _).getD _∈rs;cases e:rs.find? (fun i=>decide (last<i)) with
   | none=>exact hd
   | some y=>exact List.mem_of_find?_eq_some e
theorem readies_lt {x:RunSt L A}{i:Nat}(h:i∈readies B n x):i<n∧x.st i≠.done:=by
 unfold readies at h;obtain⟨h1,h2⟩:=List.mem_filter.1 h;refine⟨List.mem_range.1 h1,fun e=>?_⟩;rw[e] at h2;cases h2
end
def BehOk {L A:Type}(B:Bods L A)(beh:A→A)(bh:Value):Prop :=
 (bh=.nilFunc∧∀ a,beh a=a)∨∃ fb capb fn cd,bh=.func (.func fb) #[] capb∧Try.prog.funcs[fb]?=some fn∧(fn.name == "runtime.NumGoroutine")=false∧fn.body=some cd ∧
  ∀ {a st X w},B.due a→B.mem a st X w→∀ m K,Cl Try.prog m K→∀ (c:Frame) cs,c.mode=.run→(∀ X' w',B.mem (beh a) st X' w'→Kx X X' w w'→K (gs (c.finish (.tuple #[])) cs) w')→K (gs (Frame.enter Try.prog fb capb .normal) (c::cs)) w
theorem Bytes.same {b:Nat}{w w':World}{v:Value}{xs:List Nat}(h:Bytes b w v xs)(e:w'.heap[b]?=w.heap[b]?):Bytes b w' v xs:=by
 obtain⟨g,c,h1,h2,h3,h4,h5⟩:=h;refine⟨g,c,h1,h2,h3,h4,fun hx=>?_⟩;obtain⟨o,h6,h7⟩:=h5 hx;refine⟨o,h6,fun j u hu=>?_⟩;have:=h7 j u hu;unfold World.cell? at this ⊢;rw[e];exact this
section
variable {L A:Type}{B:Bods L A}{C:WC}{Post:Value→World→Prop}{S:SC}{st:Nat→TS L}{a:A}{X:Nat→Prop}{acts:List Nat}{ca:Nat}{ga:Option Addr}
theorem MainAt.kx (hB:BOk B C)(M:MainAt B C S st acts ga ca a X){w':World}(h:Kp [] S.w w'):MainAt B C { S with w:=w'} st acts ga ca a X:=by
 have hr:=M.mem;refine⟨⟨M.seats.n,M.seats.fresh,M.seats.susp,M.seats.done,M.seats.old,M.seats.chk,M.seats.chs,M.seats.wgs,M.seats.pend,M.seats.grp,M.seats.grn,M.seats.fz,M.seats.rlo,M.seats.blo⟩,hr.same h.size fun b hb=>h.block b ?_ (by simp),hB.frame M.bods (fun b hb=>h.block b (hB.bound M.bods hb) (by simp)) h.size,M.apart,M.role⟩;rcases hb with e | e | e | e | ⟨j,hj,e⟩
 ·have:=(aq' hr.r).1;omega
 ·obtain⟨cells,q,_⟩:=hr.gb;have:=q.lt;omega
 ·have:=hr.stn.lt;omega
 ·exact hr.rep.fp_lt b e
 ·have:=hr.room j hj;omega
theorem MainAt.beh (hB:BOk B C)(M:MainAt B C S st acts ga ca a X){a':A}{X':Nat→Prop}{w':World}(hm:B.mem a' st X' w')(h:Kx X X' S.w w'):MainAt B C { S with w:=w'} st acts ga ca a' X'∧Rest S { S with w:=w'} (allOf X C (.slice ga acts.length ca)) (allOf X' C (.slice ga acts.length ca)):=by
 have hr:=M.mem;have hlt:∀ b,C.Y (.slice ga acts.length ca) b→b<S.w.heap.size:=fun b hb=>by
  rcases hb with e | e | e | e | ⟨j,hj,e⟩
  ·have:=(aq' hr.r).1;omega
  ·obtain⟨cells,q,_⟩:=hr.gb;have:=q.lt;omega
  ·have:=hr.stn.lt;omega
  ·exact hr.rep.fp_lt b e
  ·have:=hr.room j hj;omega
 have hY:∀ b,C.Y (.slice ga acts.length ca) b→w'.heap[b]?=S.w.heap[b]?:=fun b hb=>h.block b (hlt b hb) fun hx=>M.apart b hx hb;refine⟨⟨⟨M.seats.n,M.seats.fresh,M.seats.susp,M.seats.done,M.seats.old,M.seats.chk,M.seats.chs,M.seats.wgs,M.seats.pend,M.seats.grp,M.seats.grn,M.seats.fz,M.seats.rlo,M.seats.blo⟩,hr.same h.size hY,hm,fun b hb hy=>?_,M.role⟩,⟨⟨h.size,fun b hb hz=>h.block b hb fun hx=>hz (.inl hx),fun b hb=>?_⟩,rfl,rfl⟩⟩
 ·rcases h.own b hb with q | q
  ·exact M.apart b q hy
  ·have:=hlt b hy;omega
 ·exact hb.elim (fun q=>(h.own b q).imp .inl id) fun q=>.inl (.inr q)
theorem ks_of {P:Program}{ty:TypeId}{h:Nat}{g:Goroutine}(hs:Sound P ty Post h S g):KS P ty Post h S g S.w:=hs
theorem askd_of (hB:BOk B C)(hC:C.Ok){K:Goroutine→World→Prop}{m:Bool}(hK:Cl Try.prog m K)(M:MainAt B C S st acts ga ca a X){j:Nat}(hj:j<C.n):Askd K S.w C.r j (rdyT B j (st j) a):=by
 intro c cs w1 hc k1 h;have M1:=M.kx hB k1;have hr:Cel w1 C.r _ 86:=⟨_,M1.mem.r⟩;have hst:=M1.mem.stn;have e0:(standsOf C.n st)[j*4+0]?=_:=standsOf_get hj (by omega);have e3:(standsOf C.n st)[j*4+3]?=_:=standsOf_get hj (by omega);cases e:st j with
 | fresh =>
  rw[e] at e0 e3 h;exact asked_nil hK hc hr hj hst e0 e3 h
 | done =>
  rw[e] at e0 e3 h;exact asked_over hK hc hr hj hst e0 h
 | susp l rv =>
  rw[e] at e0 e3 h;rcases hB.ready M1.bods hj e with⟨rfl,h2⟩ | ⟨f,bd,cap,fn,cd,rfl,h2,h3,h4,h5⟩
  ·have:rdyT B j (.susp l .nilFunc) a=true:=h2
   rw[this] at h;exact asked_nil hK hc hr hj hst e0 e3 h
  ·exact asked_fun hK hc hr hj hst e0 e3 h2 h3 h4 (h5 m K hK) h
theorem repN_form {w:World}{v:Value}{xs:List Nat}(h:RepN w v xs):∃ gl cl,v=.slice gl xs.length cl∧(0<xs.length→∃ g,gl=some ⟨g,0,none⟩∧∀ j i:Nat,xs[j]?=some i→w.cell? ⟨g,j,none⟩=some (.int .i64 i)):=by
 obtain⟨gl,cl,rfl,_,_,_⟩:=h.form;refine⟨gl,cl,rfl,fun hp=>?_⟩;obtain⟨g,cap,e,_,_⟩:=h.ex hp;cases e;exact⟨g,rfl,fun j i hi=>h.cell1 (fun _=>rfl) j i hi⟩
theorem wat_loop (hB:BOk B C)(hC:C.Ok){beh:A→A}{bh v0 v1:Value}(hbeh:BehOk B beh bh){most:Int}{ob pb:Nat}{cs:List Frame} :
  ∀ (k:Nat) (x:RunSt L A) (st:Nat→TS L) (S0:SC) (X:Nat→Prop) (ga:Option Addr) (ca:Nat) (lv:Value) (tm:Array Value),(k:Int)=most-x.acts.length→(runF B C.n beh k x).acts.length<4294967295 →
   (∀ i,er (st i)=x.st i)→MainAt B C S0 st x.acts ga ca x.a X→Bytes pb S0.w lv x.left→pb<S0.w.heap.size→(¬ allOf X C (.slice ga x.acts.length ca) pb∨∃ bo,∀ a st X w,B.mem a st X w→w.heap[pb]?=bo)→(∀ i∈x.acts,i<C.n)→watTm v0 v1 most bh ob C.r C.all lv tm →
   (∀ S' st' X' ga' ca' lv' tm',(∀ i,er (st' i)=(runF B C.n beh k x).st i)→MainAt B C S' st' (runF B C.n beh k x).acts ga' ca' (runF B C.n beh k x).a X'→Bytes pb S'.w lv' (runF B C.n beh k x).left →
    Rest S0 S' (allOf X C (.slice ga x.acts.length ca)) (allOf X' C (.slice ga' (runF B C.n beh k x).acts.length ca'))→(∀ i∈(runF B C.n beh k x).acts,i<C.n)→watTm v0 v1 most bh ob C.r C.all lv' tm'→Sound Try.prog link.tWg Post 0 S' (gs (watOut tm') cs)) →
   Sound Try.prog link.tWg Post 0 S0 (gs (watHead tm) cs):=by
 intro k
 induction k with
 | zero =>
  intro x st S0 X ga ca lv tm hk hfin her M hl hpb hnz hacts htm hnext;have hK:=clS (Post:=Post) S0;refine ks (S:=S0) (wat_full hK.det (na:=x.acts.length) ⟨_,M.mem.r⟩ (by omega) htm fun tm' htm'=>?_) rfl;exact hnext S0 st X ga ca lv tm' her M hl ⟨Kx.refl _ _,rfl,rfl⟩ hacts htm'
 | succ k ih =>
  intro x st S0 X ga ca lv tm hk hfin her M hl hpb hnz hacts htm hnext;have hK:=clS (Post:=Post) S0;refine ks (S:=S0) (wat_ask hK.det (na:=x.acts.length) ⟨_,M.mem.r⟩ (by omega) htm fun tm1 htm1=>?_) rfl;refine ready_to hK rfl ⟨_,M.mem.r⟩ hC.n8 (fun j hj=>askd_of hB hC hK M hj) fun v w1 hv k1 hf=>?_;have hrs:(List.range C.n).filter (fun i=>rdyT B i (st i) x.a)=readies B C.n x:=by
   unfold readies rdyT;congr 1;funext i;rw[her i]
  have M1:=M.kx hB k1;have hl1:=hl.same (k1.block pb hpb (by simp));have R1:Rest S0 { S0 with w:=w1} (allOf X C (.slice ga x.acts.length ca)) (allOf X C (.slice ga x.acts.length ca)):=⟨Kx.kp k1,rfl,rfl⟩;show Sound Try.prog link.tWg Post 0 { S0 with w:=w1} _;have hK1:=clS (Post:=Post) ({S0 with w:=w1});rw[hrs] at hv;obtain⟨gl,cl',rfl,hgl⟩:=repN_form hv;unfold runF at hfin hnext;by_cases hne:readies B C.n x=[]
  ·rw[if_pos hne] at hfin hnext
   rw[hne];refine ks (S:={S0 with w:=w1}) (wat_none hK1.det htm1 fun tm2 htm2=>?_) rfl;exact hnext { S0 with w:=w1} st X ga ca lv tm2 her M1 hl1 R1 hacts htm2
  ·rw[if_neg hne] at hfin hnext
   have hpos:0<(readies B C.n x).length:=List.length_pos_iff.2 hne;obtain⟨gr,rfl,hcells⟩:=hgl hpos;refine ks (S:={S0 with w:=w1}) (wat_some hK1.det hpos htm1 fun tm2 htm2=>?_) rfl;have hcm:=chosen_mem (acts:=x.acts) (left:=x.left) hne;generalize hch:chosen (readies B C.n x) x.acts x.left=ch at hfin hnext hcm;obtain⟨i,left'⟩:=ch;obtain⟨hi,hst'⟩:=readies_lt hcm;have hst:st i≠.done:=fun e=>hst' (by rw[← her i,e];rfl);have hlen8:(readies B C.n x).length≤8:=by
    unfold readies;refine Nat.le_trans (List.length_filter_le _ _) ?_;rw[List.length_range];exact hC.n8
   have hal:x.acts.length+1≤(runF B C.n beh k (oneAct B beh x i left')).acts.length:=by
    have:=runF_acts (B:=B) (n:=C.n) (beh:=beh) k (oneAct B beh x i left');have e:(oneAct B beh x i left').acts.length=x.acts.length+1:=by simp[oneAct]
    omega
   have hfin':(runF B C.n beh k (oneAct B beh x i left')).acts.length<4294967295:=hfin;refine hK1.call fits shut (f:=41) rfl (R:=fun v' w'=>∃ lv',v'=.tuple #[.int .i64 i,lv']∧Bytes pb w' lv' left'∧Kp [] w1 w') (fun v' w' τ d ⟨lv',h1,h2,h3⟩=>⟨lv',h1,h2,⟨h3.size,h3.block⟩⟩) (fun τ d=>?_) ?_
   ·refine(next_calls (Lift.re w1 τ d) C.r ca gr cl' pb _ _ _ lv ga (readies B C.n x) x.acts x.left ⟨_,M1.mem.r⟩ (fun last hlast=>?_) (by omega) (fun j y hy=>?_) hpos hlen8 hl1).mono fun e w' h=>?_
    ·have hm:=List.mem_of_getLast? hlast
     have h8:=hacts last hm;have hp0:0<x.acts.length:=List.length_pos_of_mem hm;have hrep:=M1.mem.rep;obtain⟨g,cap,e,_,_⟩:=hrep.ex hp0;cases e;refine⟨by have:=hC.n8;omega,g,rfl,?_⟩;exact hrep.cell1 (fun _=>rfl) (x.acts.length-1) last (by rw[List.getLast?_eq_getElem?] at hlast;exact hlast)
    ·exact⟨by have:=(readies_lt (List.mem_of_getElem? hy)).1;have:=hC.n8;omega,hcells j y hy⟩
    ·rw[hch] at h
     obtain⟨lv',h1,h2,nn,h3⟩:=h;subst h3;exact⟨_,h1,lv',rfl,h2,⟨Nat.le_refl _,fun _ _ _=>rfl⟩⟩
   ·rintro _ w2 ⟨lv',rfl,hl2,k2⟩
    have M2:=M1.kx hB k2;refine wat_act hK1.det htm2 fun tm3 htm3=>?_;show Sound Try.prog link.tWg Post 0 { S0 with w:=w2} _;have hpb2:pb<w2.heap.size:=nl' hpb (Nat.le_trans k1.size k2.size);refine main_act (S:={S0 with w:=w2}) hB hC hi M2 hst (by omega) rfl fun S3 a' t' X3 ga3 ca3 hact M3 R3=>?_;have ha':(B.go i (x.st i) x.a (x.acts.length+1)).1=a'∧toT (B.go i (x.st i) x.a (x.acts.length+1)).2=er t':=by
     rw[← her i];cases t' with
     | fresh=>exact hact.elim
     | susp l rv=>rw[hact.1];exact⟨rfl,rfl⟩
     | done=>rw[show B.go i (er (st i)) x.a (x.acts.length+1)=(a',none) from hact];exact⟨rfl,rfl⟩
    have R2:Rest { S0 with w:=w1} { S0 with w:=w2} (allOf X C (.slice ga x.acts.length ca)) (allOf X C (.slice ga x.acts.length ca)):=⟨Kx.kp k2,rfl,rfl⟩;have hla:(x.acts++[i]).length=x.acts.length+1:=by simp
    have R03:Rest S0 S3 (allOf X C (.slice ga x.acts.length ca)) (allOf X3 C (.slice ga3 (x.acts.length+1) ca3)):=(R1.trans R2).trans R3;have hlS3:Bytes pb S3.w lv' left':=hl2.same (hnz.elim (fun h=>R3.kx.block pb hpb2 h) fun⟨bo,h⟩=>(h _ _ _ _ M3.bods).trans (h _ _ _ _ M2.bods).symm);have hK3:=clS (Post:=Post) S3;have last:∀ (S4:SC) (X4:Nat→Prop) (tm4:Array Value),MainAt B C S4 (updT st i t') (oneAct B beh x i left').acts ga3 ca3 (oneAct B beh x i left').a X4→Rest S0 S4 (allOf X C (.slice ga x.acts.length ca)) (allOf X4 C (.slice ga3 (x.acts.length+1) ca3)) →
      Bytes pb S4.w lv' left'→watTm v0 v1 most bh ob C.r C.all lv' tm4→Sound Try.prog link.tWg Post 0 S4 (gs (watHead tm4) cs):=fun S4 X4 tm4 M4 R4 hl4 htm4=>by
     refine ih (oneAct B beh x i left') (updT st i t') S4 X4 ga3 ca3 lv' tm4 ?_ hfin' (fun y=>?_) M4 hl4 (nl' hpb R4.kx.size) (hnz.imp (fun hnz hz=>?_) id) (fun j hj=>?_) htm4 fun S' st' X' ga' ca' lv'' tm' h0 h1 h2 h3 h4 h5=>hnext S' st' X' ga' ca' lv'' tm' h0 h1 h2 (R4.trans ?_) h4 h5
     ·show(k:Int)=most-((x.acts++[i]).length:Nat)
      rw[hla];omega
     ·show er (if y=i then t' else st y)=if y=i then _ else _
      by_cases e:y=i
      ·rw[if_pos e,if_pos e];exact ha'.2.symm
      ·rw[if_neg e,if_neg e];exact her y
     ·rcases R4.kx.own pb (by rw[show(oneAct B beh x i left').acts.length=x.acts.length+1 from hla] at hz;exact hz) with q | q
      ·exact hnz q
      ·omega
     ·rcases List.mem_append.1 hj with q | q
      ·exact hacts j q
      ·rw[List.mem_singleton.1 q];exact hi
     ·rw[show(oneAct B beh x i left').acts.length=x.acts.length+1 from hla] at h3
      exact h3
    rcases hbeh with⟨rfl,hid⟩ | ⟨fb,capb,fn,cd,rfl,h1,h2,h3,h4⟩
    ·refine ks (S:=S3) (wat_bare hK3.det htm3 fun tm4 htm4=>?_) rfl
     refine last S3 X3 tm4 ?_ R03 hlS3 htm4;have:(oneAct B beh x i left').a=a':=(hid _).trans ha'.1;rw[this];exact M3
    ·refine ks (S:=S3) (wat_beh hK3.det h1 h2 h3 htm3 fun tm4 htm4=>?_) rfl
     refine h4 (ha'.1▸hB.dues _ _ _ _) M3.bods _ _ hK3 _ _ rfl fun X5 w5 hm5 hk5=>?_;refine wat_again hK3.det htm4 fun tm5 htm5=>?_;obtain⟨M5,R5⟩:=M3.beh hB hm5 hk5;show Sound Try.prog link.tWg Post 0 { S3 with w:=w5} _;rw[hla] at R5;refine last { S3 with w:=w5} X5 tm5 ?_ (R03.trans R5) (hlS3.same (hnz.elim (fun hnz=>R5.kx.block pb (nl' hpb R03.kx.size) fun hz=>(R03.kx.own pb hz).elim hnz fun q=>by omega) fun⟨bo,h⟩=>(h _ _ _ _ M5.bods).trans (h _ _ _ _ M3.bods).symm)) htm5;have:(oneAct B beh x i left').a=beh a':=congrArg beh ha'.1;rw[this];exact M5
end
theorem chan_rel {ρ:Ren}{c:Nat}{V:Value}(h:VRel ρ (.chan (some c)) V):∃ C,V=.chan (some C)∧ρ c=some C:=by
 cases h with
 | flat h=>cases h
 | chan h=>exact⟨_,rfl,h⟩
theorem close_rel {ρ:Ren}{G:Goroutine}{r gs' ns cs' j c:Nat}{tm:Array Value}{cs:List Frame}{m:Bool}(htm:unwTmC r gs' ns cs' j c tm)(hg:GRel ρ (gs (unwAt tm) cs) G) :
  ∃ C0 G',ρ c=some C0∧GRel ρ (gs (unwShut tm) cs) G'∧G'.status=.running∧mayWake Try.prog G=true∧∀ W k,W.heap[C0]?=some (.chan 0 #[] false k k false)→stepG Try.prog m G W=.go G' (W.setChan C0 0 #[] true k k false) (closeEvents C0):=by
 have h26:tm[26]?=some (.chan (some c)):=by
  obtain⟨x1,x2,x3,x10,x11,x12,x13,x14,x15,x16,x17,x18,x19,x20,x21,x22,x23,x24,x25,x27,x28,x29,x30,x31,x32,rfl⟩:=htm;rfl
 obtain⟨⟨f1,t1,l1,d1,m1,k1,r1⟩,CS,st,dy,off⟩:=G;obtain⟨hf,hc,hs,hd⟩:=hg;obtain⟨rfl⟩:=hd.2;have hs':st=.running:=hs.symm;subst hs';have e1:44=f1:=hf.fn;have e2:CallKind.normal=k1:=hf.kind;have e3:(unwAt tm).todo=l1:=hf.todo;have e4:r1=none:=hf.round.2;subst e1 e2 e3 e4;have e5:d1=[]:=by
  have:=hf.defers;simp only[gs,unwAt,Frame.at] at this;cases this;rfl
 have e6:m1=.run:=by
  have:=hf.mode;simp only[gs,unwAt,Frame.at] at this;cases this;rfl
 subst e5 e6;have htr:ARel ρ tm t1:=hf.tmps;obtain⟨V,hV,hr⟩:=htr.get h26;obtain⟨C0,rfl,hC0⟩:=chan_rel hr;have hx:Act.eval ⟨t1,[]⟩ (.tmp 26)=.chan (some C0):=by
  show t1.getD 26 undef=_;rw[gd',hV];rfl
 refine⟨C0,gs (unwShut t1) CS,hC0,⟨⟨rfl,rfl,rfl,htr,.nil,.run,⟨rfl,rfl⟩,?_⟩,hc,rfl,⟨rfl,rfl⟩⟩,rfl,rfl,fun W k hk=>?_⟩
 ·intro i hi
  have:=hf.clean;simp only[gs,unwShut,unwAt,Frame.at,List.mem_cons] at hi this;rcases hi with rfl | hi
  ·exact this (.inRegion (sO (sL (sT (sR (sR (sB (sL (sR (sR (sB (sB (sR c42)))))))))))) [10]) (.inl rfl)
  ·exact this i (.inr hi)
 ·refine(stepG_close (b:=base 44) (a:=⟨t1,[]⟩) (ops:=sO (sL (sT (sR (sR (sB (sL (sR (sR (sB (sB (sR c42)))))))))))) (i:=10) (rest:=[]) (x:=.tmp 26) (ats:=#[77]) (cs:=CS) rfl rfl nofun rfl hx hk ?_).trans ?_
  ·rw[show Try.prog.funcs[(base 44).fn]?=_ from Try.func44];rfl
  ·rfl
theorem unw_recv {m:Bool}{r gs' ns cs' j k:Nat}{cs:List Frame}{tm:Array Value}{w:World}{s:SeatS}(hc:s.c=k)(hz:s.z=stopV false false false .nilFunc)(ho:s.ok=false)
  (htm:unwTmR r gs' ns cs' j k tm) (hA:s.At (gs (unwRecv tm) cs) w):AtRecv Try.prog m s (gs (unwRecv tm) cs) w:=by
 obtain⟨x1,x2,x3,x10,x11,x12,x13,x14,x15,x16,x17,x18,x19,x20,x21,x22,x23,x24,x25,x26,x27,x28,x29,x31,x32,rfl⟩:=htm;have hk:(base 44).kind≠.early:=nofun;refine⟨rfl,fun _=>okHd_op (b:=base 44) (ops:=sO (sR (sT (sR (sR (sB (sL (sR (sR (sB (sB (sR c42)))))))))))) (i:=4) rfl rfl nofun,fun τ d=>?_,hA⟩;refine⟨_,stepG_comm (b:=base 44) (ops:=sO (sR (sT (sR (sR (sB (sL (sR (sR (sB (sB (sR c42)))))))))))) (i:=4) (rest:=[]) (cases:=#[rcase s.c s.z]) (blocking:=true) (shape:=.recv s.ok) rfl rfl hk ?_⟩;rw[hc,hz,ho];exact x_recv84 (x:=.tmp 30) rfl rfl
theorem Det.upF {P:Program}{m:Bool}{Kn:Nat→Goroutine→World→Prop}{n:Nat}{w:World}{cs:List Frame}(hK:Det P m Kn){f c:Frame}{ch:List PanicEntry}(hd:f.defers=[])(hf:∃ fn,P.funcs[f.fn]?=some fn)(hc:c.mode=.run)
  (h:Kn n (gs { c with mode:=.panicking ch} cs) w):Kn (n+1) (gs { f with mode:=.panicking ch} (c::cs)) w:=by
 refine hK _ _ _ _ _ rfl ⟨fun e=>(by cases e),fun τ d=>⟨#[],?_⟩,⟨rfl,rfl⟩,Nat.le_refl _⟩ h;show unwind P m { f with mode:=.panicking ch} (c::cs) none _=_;refine(unwind_up (fr:={f with mode:=.panicking ch}) (ch:=ch) hd rfl (catches_of (fr:={f with mode:=.panicking ch}) hf)).trans ?_;unfold Frame.raise;rw[hc]
theorem ups {P:Program}{m:Bool}{K:Goroutine→World→Prop}{w:World}(hK:Det P m fun _=>K){F:Frame}{cs:List Frame}{ch:List PanicEntry}(hF:F.mode=.run)(h:K (gs { F with mode:=.panicking ch} cs) w) :
  ∀ (rest:List Frame) (c:Frame),(∀ f∈c::rest,f.mode=.run∧f.defers=[]∧∃ fn,P.funcs[f.fn]?=some fn)→K (gs { c with mode:=.panicking ch} (rest++F::cs)) w
 | [],c,hc=>hK.upF (n:=0) (hc c mc').2.1 (hc c mc').2.2 hF h
 | d::rest,c,hc=>hK.upF (n:=0) (hc c mc').2.1 (hc c mc').2.2 (hc d (List.mem_cons_of_mem _ mc')).1 (ups hK hF h rest d fun f hf=>hc f (List.mem_cons_of_mem _ hf))
section
variable {L A:Type}{B:Bods L A}{C:WC}{Post:Value→World→Prop}{S:SC}{i:Nat}{s0:SeatS}{ba sa ac:Value}
theorem recov_eq {F:Frame}{a b:FrameMode}:({({F with mode:=a}:Frame) with mode:=b}:Frame)={F with mode:=b}:=rfl
theorem thr_lost (hC:C.Ok)(hi:i<C.n)(h0:S.role 0=.seat s0)(hok:s0.ok=false)(hk0:s0.c=C.k)(hgrp:S.grp (C.g0+i)=some C.all)(hwgs:S.wgs C.all)
  (hr:Cel S.w C.r [ba,sa,.chan (some C.k),ac,.bool false] 86) (hB0:Pl.Blk S.w (C.b0 i) [ptr C.r] 76) (hB1:Pl.Blk S.w (C.b0 i+1) [.bool true,.bool true,.bool true,.nilFunc] 72) {tm:Array Value} {todo:List Item}
  (hnext:∀ g2 p2,s0.At g2 p2→Sound Try.prog link.tWg Post 0 (S.give (C.g0+i) 0 s0 (.doner C.all) p2) (Conc.served g2 (stopV true true true .nilFunc))) :
  Sound Try.prog link.tWg Post (C.g0+i) S (gs { (baseD 39).at ⟨tm,[dlive (C.b0 i) (C.b0 i+1),d59 C.all]⟩ todo with mode:=.panicking lostE} [bot]):=by
 have hK:=cl_sound (P:=Try.prog) (ty:=link.tWg) (Post:=Post) (S:=S) (h:=C.g0+i) fits;refine ks (S:=S) (live_lost (n:=0) hK.det ?_) rfl;refine live1_lost hK rfl (hB0.cell 0) hr (Blk.cel hB1) ?_;show Sound Try.prog link.tWg Post (C.g0+i) S _;exact thr_last (S:=S) hC hi h0 hok hk0 hgrp hwgs (.inr ⟨_,rfl⟩) hnext
end
def doneTo {L:Type}(u:Nat)(st:Nat→TS L):Nat→TS L:=fun i=>if i<u then .done else st i
section
variable {L A:Type}(B:Bods L A)(C:WC)
structure UnwAt (S:SC)(st:Nat→TS L)(acts:List Nat)(ga:Option Addr)(ca:Nat)(a:A)(X:Nat→Prop)(u:Nat):Prop where
 seats:Seats B C S (doneTo u st) C.n
 mem:WMem C st acts ga ca (0,0) u S.w
 bods:B.mem a st X S.w
 apart:∀ b,X b→¬ C.Y (.slice ga acts.length ca) b
 role:S.role 0=.none
 bts:∀ i,i<C.n→st i=.done→S.w.heap[C.bt i]?=some (.cells #[ptr C.r,.int .i64 i,.chan (some (C.ch i)),.bool false] 79 (0,4))
end
section
variable {L A:Type}{B:Bods L A}{C:WC}{Post:Value→World→Prop}{S:SC}{u:Nat}{st:Nat→TS L}{a:A}{X:Nat→Prop}{acts:List Nat}{ca:Nat}{ga:Option Addr}{cl:Frame}{cs:List Frame}{tm:Array Value}
theorem MainAt.unw (M:MainAt B C S st acts ga ca a X):UnwAt B C S st acts ga ca a X 0:=by
 refine⟨?_,M.mem,M.bods,M.apart,M.role,fun i hi _=>M.mem.bt i (Nat.zero_le _) hi⟩;have:doneTo 0 st=st:=by
  funext i;show(if i<0 then _ else st i)=st i;rw[if_neg (by omega)]
 rw[this];exact M.seats
theorem WMem.unw {rz:Nat × Nat}{w w':World}(h:WMem C st acts ga ca rz u w)(hC:C.Ok)(hu:u<C.n)(hs:w.heap.size≤w'.heap.size)(hb:∀ b,C.Y (.slice ga acts.length ca) b→b≠C.bt u→b≠C.b0 u→b≠C.b0 u+1→w'.heap[b]?=w.heap[b]?)
  (hl:∀ l rv,st u=.susp l rv→w'.heap[C.b0 u]?=w.heap[C.b0 u]?∧w'.heap[C.b0 u+1]?=w.heap[C.b0 u+1]?):WMem C st acts ga ca rz (u+1) w':=by
 have q:∀ {b},C.Y (.slice ga acts.length ca) b→b≠C.bt u→b≠C.b0 u→b≠C.b0 u+1→w'.heap[b]?=w.heap[b]?:=fun h1 h2 h3 h4=>hb _ h1 h2 h3 h4;refine⟨(q (.inl rfl) (Ne.symm (hC.btr u hu)) (hC.rb u hu).1 (hC.rb u hu).2).trans h.r,?_,(q (.inr (.inr (.inl rfl))) (Ne.symm (hC.bts u hu).2) (hC.stb u hu).1 (hC.stb u hu).2).trans h.stn,
  fun j h1 h2=>(q (.inr (.inr (.inr (.inr ⟨j,h2,.inl rfl⟩)))) (fun e=>by have:=hC.bti j u h2 hu e;omega) (hC.btb j u h2 hu).1 (hC.btb j u h2 hu).2).trans (h.bt j (by omega) h2),fun j l rv hj hst=>?_,
  rep_same h.rep hs fun b hb'=>q (.inr (.inr (.inr (.inl hb')))) ((h.sep b hb').2.2.2 u hu).1 ((h.sep b hb').2.2.2 u hu).2.1 ((h.sep b hb').2.2.2 u hu).2.2,h.sep,fun j hj=>⟨nl' (h.room j hj).1 hs,nl' (h.room j hj).2 hs⟩⟩
 ·obtain⟨cells,h1,h2⟩:=h.gb
  exact⟨cells,(q (.inr (.inl rfl)) (Ne.symm (hC.bts u hu).1) (hC.gbb u hu).1 (hC.gbb u hu).2).trans h1,h2⟩
 ·obtain⟨h0,h1⟩:=h.live j l rv hj hst
  by_cases e:j=u
  ·subst e
   obtain⟨k0,k1⟩:=hl l rv hst;exact⟨k0.trans h0,k1.trans h1⟩
  ·have hd:C.b0 j≠C.b0 u∧C.b0 j≠C.b0 u+1∧C.b0 j+1≠C.b0 u∧C.b0 j+1≠C.b0 u+1:=by
    rcases Nat.lt_or_gt_of_ne e with h' | h'
    ·have:=hC.b0s j u h' hu;omega
    ·have:=hC.b0s u j h' hj;omega
   exact⟨(q (.inr (.inr (.inr (.inr ⟨j,hj,.inr (.inl rfl)⟩)))) (Ne.symm (hC.btb u j hu hj).1) hd.1 hd.2.1).trans h0,(q (.inr (.inr (.inr (.inr ⟨j,hj,.inr (.inr rfl)⟩)))) (Ne.symm (hC.btb u j hu hj).2) hd.2.2.1 hd.2.2.2).trans h1⟩
theorem WMem.up {rz:Nat × Nat}{w:World}(h:WMem C st acts ga ca rz u w):WMem C st acts ga ca rz (u+1) w :=
 ⟨h.r,h.gb,h.stn,fun j h1 h2=>h.bt j (by omega) h2,h.live,h.rep,h.sep,h.room⟩
theorem Seats.roles {st:Nat→TS L}(hC:C.Ok)(M:Seats B C S st C.n)(h0:S.role 0=.none){j:Nat}{s:SeatS}(hs:S.role j=.seat s):∃ k,k<C.n∧j=C.g0+k∧((st k=.fresh∧SeatF C k s)∨∃ l rv,st k=.susp l rv∧SeatX B C k l rv s):=by
 have hg0:=hC.g0;by_cases e:∃ k,k<C.n∧j=C.g0+k
 ·obtain⟨k,hk,rfl⟩:=e
  refine⟨k,hk,rfl,?_⟩;cases hk':st k with
  | fresh =>
   obtain⟨s1,h1,h2⟩:=M.fresh k hk (by omega) hk';rw[hs] at h1;cases h1;exact .inl ⟨rfl,h2⟩
  | susp l rv =>
   obtain⟨s1,h1,h2⟩:=M.susp k l rv hk (by omega) hk';rw[hs] at h1;cases h1;exact .inr ⟨l,rv,rfl,h2⟩
  | done=>rw[M.done k hk (by omega) hk'] at hs;cases hs
 ·by_cases e0:j=0
  ·subst e0;rw[h0] at hs;cases hs
  ·rw[M.old j (by omega) fun k hk he=>e ⟨k,hk,he⟩] at hs;cases hs
theorem unw_one (hB:BOk B C)(hC:C.Ok)(hu:u<C.n)(M:UnwAt B C S st acts ga ca a X u)(hst:st u≠.done)(hcl:cl.mode=.run)(htm:unwTm C.r C.st C.n C.n u tm)
  (hnext:∀ S' tm',UnwAt B C S' st acts ga ca a X (u+1)→Rest S S' (allOf X C (.slice ga acts.length ca)) (allOf X C (.slice ga acts.length ca))→unwTm C.r C.st C.n C.n (u+1) tm'→Sound Try.prog link.tWg Post 0 S' (gs (unwHead tm') (cl::cs))) :
  Sound Try.prog link.tWg Post 0 S (gs (unwHead tm) (cl::cs)):=by
 have hg0:=hC.g0;have hK:=clS (Post:=Post) S;have hM:=M.mem;have hdt:doneTo u st u=st u:=if_neg (by omega);obtain⟨cells,hgb,hgbi⟩:=hM.gb;have hbti:=hM.bt u (Nat.le_refl _) hu;have hbc:Cel S.w (C.bt u) [ptr C.r,.int .i64 u,.chan (some (C.ch u)),.bool false] 79:=⟨_,hbti⟩;have hrC:Cel S.w C.r _ 86:=⟨_,hM.r⟩;obtain⟨f,hf,hst4⟩:∃ f,isFn f∧standOf (st u)=[.bool false,.bool false,.bool false,f]:=by
  cases e:st u with
  | fresh=>exact⟨_,.inl rfl,rfl⟩
  | done=>exact absurd e hst
  | susp l rv =>
   refine⟨rv,?_,rfl⟩;rcases hB.ready M.bods hu e with⟨rfl,_⟩ | ⟨f,bd,cap,_,_,rfl,_⟩
   ·exact .inl rfl
   ·exact .inr ⟨_,_,_,rfl⟩
 have q0:(standsOf C.n st)[u*4]?=some (.bool false):=(standsOf_get hu (c:=0) (by omega)).trans (by rw[hst4];rfl);have q1:(standsOf C.n st)[u*4+1]?=some (.bool false):=(standsOf_get hu (c:=1) (by omega)).trans (by rw[hst4];rfl);have q2:(standsOf C.n st)[u*4+2]?=some (.bool false):=(standsOf_get hu (c:=2) (by omega)).trans (by rw[hst4];rfl);have q3:(standsOf C.n st)[u*4+3]?=some f:=(standsOf_get hu (c:=3) (by omega)).trans (by rw[hst4];rfl);refine ks (S:=S) (unw_close hK.det hu hM.stn hf q0 q1 q2 q3 hrC hu hgb.lt ((hgb.cell u).trans (hgbi u hu)) hbc.lt (hbc.cell 2) htm fun w1 tm1 k1 htm1=>?_) rfl;show Sound Try.prog link.tWg Post 0 { S with w:=w1} _;have hYlt:∀ b,C.Y (.slice ga acts.length ca) b→b<S.w.heap.size:=fun b hb=>by
  rcases hb with e | e | e | e | ⟨j,hj,e⟩
  ·have:=(aq' hM.r).1;omega
  ·have:=hgb.lt;omega
  ·have:=hM.stn.lt;omega
  ·exact hM.rep.fp_lt b e
  ·have:=hM.room j hj;omega
 have hM1:=hM.same k1.size fun b hb=>k1.block b (hYlt b hb) (by simp);have hm1:=hB.frame M.bods (fun b hb=>k1.block b (hB.bound M.bods hb) (by simp)) k1.size;have hnl:∀ j s,S.role j=.seat s→¬ s.lent C.r:=fun j s hs hl=>by
  obtain⟨k,_,_,⟨_,h⟩ | ⟨_,_,_,h⟩⟩:=M.seats.roles hC M.role hs<;>exact(h.lent _ hl).1 rfl
 have hseatc:∀ j s1,S.role j=.seat s1→s1.c≠C.k:=fun j s1 hs=>by
  obtain⟨k,hk,_,⟨_,h⟩ | ⟨_,_,_,h⟩⟩:=M.seats.roles hC M.role hs<;>(rw[h.c];exact hC.chk k hk)
 obtain⟨s,hsr,hs⟩:∃ s,S.role (C.g0+u)=.seat s∧((st u=.fresh∧SeatF C u s)∨∃ l rv,st u=.susp l rv∧SeatX B C u l rv s):=by
  cases e:st u with
  | fresh=>obtain⟨s,h1,h2⟩:=M.seats.fresh u hu (by omega) (hdt.trans e);exact⟨s,h1,.inl ⟨rfl,h2⟩⟩
  | susp l rv=>obtain⟨s,h1,h2⟩:=M.seats.susp u l rv hu (by omega) (hdt.trans e);exact⟨s,h1,.inr ⟨l,rv,rfl,h2⟩⟩
  | done=>exact absurd e hst
 have hsc:s.c=C.ch u:=by rcases hs with⟨_,h⟩ | ⟨_,_,_,h⟩<;>exact h.c
 have hsz:s.z=.agg #[]:=by rcases hs with⟨_,h⟩ | ⟨_,_,_,h⟩<;>exact h.z
 have hso:s.ok=true:=by rcases hs with⟨_,h⟩ | ⟨_,_,_,h⟩<;>exact h.ok
 refine sound_freeze (S:={S with w:=w1}) hM1.r M.seats.rlo hnl ?_;have hM2:=hM1.ice (rz':=(0,5)) hC;have e5:(#[.slice (some ⟨C.gb,0,none⟩) C.n C.cb,.slice (some ⟨C.st,0,none⟩) C.n C.n,.chan (some C.k),.slice ga acts.length ca,.bool false]:Array Value).size=5:=rfl;rw[e5];have hsz2:(setB w1 C.r (.cells #[.slice (some ⟨C.gb,0,none⟩) C.n C.cb,.slice (some ⟨C.st,0,none⟩) C.n C.n,.chan (some C.k),.slice ga acts.length ca,.bool false] 86 (0,5))).heap.size=w1.heap.size:=setB_size;have hne2:∀ {x},x≠C.r→(setB w1 C.r (.cells #[.slice (some ⟨C.gb,0,none⟩) C.n C.cb,.slice (some ⟨C.st,0,none⟩) C.n C.n,.chan (some C.k),.slice ga acts.length ca,.bool false] 86 (0,5))).heap[x]?=w1.heap[x]?:=fun h=>setB_ne h;show Sound Try.prog link.tWg Post 0 { S with w:=setB w1 C.r (.cells #[.slice (some ⟨C.gb,0,none⟩) C.n C.cb,.slice (some ⟨C.st,0,none⟩) C.n C.n,.chan (some C.k),.slice ga acts.length ca,.bool false] 86 (0,5)),fz:=fun x=>S.fz x∨x=C.r} _;generalize setB w1 C.r (.cells #[.slice (some ⟨C.gb,0,none⟩) C.n C.cb,.slice (some ⟨C.st,0,none⟩) C.n C.n,.chan (some C.k),.slice ga acts.length ca,.bool false] 86 (0,5))=w2 at hM2 hsz2 hne2 ⊢;refine sound_fair fun F hrole0 hn0=>?_
 let s0:SeatS:={c:=C.k,z:=stopV false false false .nilFunc,ok:=false,lent:=lentOf w2 C.r,lo:=w2.heap.size,hi:=w2.heap.size,At:=fun g' _=>∃ tm',unwTmR C.r C.st C.n C.n u C.k tm'∧g'=gs (unwRecv tm') (cl::cs)}
 have hA:Blind s0.At:=fun g w τ d h=>h;have hr2:Cel w2 C.r [.slice (some ⟨C.gb,0,none⟩) C.n C.cb,.slice (some ⟨C.st,0,none⟩) C.n C.n,.chan (some C.k),.slice ga acts.length ca,.bool false] 86:=⟨_,hM2.r⟩;refine sound_shut fits (j:=C.g0+u) (s:=s) (s':=s0) (g':=gs (unwShut tm1) (cl::cs)) hsr (by omega) ⟨rfl,rfl,M.seats.chk,fun e=>hC.chk u hu (hsc.symm.trans e.symm),lentOf_still hM2.r,fun b a l h=>.inr ⟨a,l,h⟩,fun j s1 hs1=>hseatc j s1 hs1⟩ (fun ρ=>?_) (fun ρ G hg=>?_) ?_ fun g2 p2 hAt=>?_
 ·rw[hsz];exact VRel.agg' ARel.nil
 ·rw[hsc];exact close_rel htm1 hg
 ·have hw:=unw_walk (Kn:=KW Try.prog (0==0) s0) (n:=0) (det_walk hA) (w:=only s0.lent w2) (cs:=cl::cs) (k:=C.k) (hr2.same (only_in (.inl rfl))) htm1 fun tm2 htm2=>⟨by rw[only_size];exact Nat.le_refl _,unw_recv rfl rfl rfl htm2 ⟨tm2,htm2,rfl⟩⟩
  exact⟨_,hw.2⟩
 ·rw[hso,hsz]
  have hrole3:∀ x,((({S with w:=w2,fz:=fun x=>S.fz x∨x=C.r}:SC).shut 0 s s0).take (C.g0+u) s p2).role x=if x=C.g0+u then .none else if x=0 then .seat s0 else S.role x:=fun x=>rfl;have hw3:((({S with w:=w2,fz:=fun x=>S.fz x∨x=C.r}:SC).shut 0 s s0).take (C.g0+u) s p2).w=merge w2 s p2:=rfl;have hwm:Wm C u w2 (merge w2 s p2):=by
   rcases hs with⟨_,hs⟩ | ⟨l,rv,e,hs⟩
   ·exact wm_fresh (B:=B) hs hAt (F.top _ _ hsr)
   ·rw[merge_flat hs.flat]
    obtain⟨h0,h1⟩:=hM2.live u l rv hu e;exact⟨Nat.le_refl _,fun _ _ _ _=>rfl,h0,h1⟩
  have h3fz:((({S with w:=w2,fz:=fun x=>S.fz x∨x=C.r}:SC).shut 0 s s0).take (C.g0+u) s p2).fz=fun x=>S.fz x∨x=C.r:=rfl;have h3rest:((({S with w:=w2,fz:=fun x=>S.fz x∨x=C.r}:SC).shut 0 s s0).take (C.g0+u) s p2).n=S.n∧((({S with w:=w2,fz:=fun x=>S.fz x∨x=C.r}:SC).shut 0 s s0).take (C.g0+u) s p2).n0=S.n0∧((({S with w:=w2,fz:=fun x=>S.fz x∨x=C.r}:SC).shut 0 s s0).take (C.g0+u) s p2).W0=S.W0 ∧
   ((({S with w:=w2,fz:=fun x=>S.fz x∨x=C.r}:SC).shut 0 s s0).take (C.g0+u) s p2).chs=(fun c=>S.chs c∧c≠s.c)∧((({S with w:=w2,fz:=fun x=>S.fz x∨x=C.r}:SC).shut 0 s s0).take (C.g0+u) s p2).wgs=S.wgs∧((({S with w:=w2,fz:=fun x=>S.fz x∨x=C.r}:SC).shut 0 s s0).take (C.g0+u) s p2).pend=S.pend∧((({S with w:=w2,fz:=fun x=>S.fz x∨x=C.r}:SC).shut 0 s s0).take (C.g0+u) s p2).grp=S.grp:=⟨rfl,rfl,rfl,rfl,rfl,rfl,rfl⟩
  generalize ((({S with w:=w2,fz:=fun x=>S.fz x∨x=C.r}:SC).shut 0 s s0).take (C.g0+u) s p2)=S3 at hrole3 hw3 h3fz h3rest ⊢;obtain⟨h3n,h3n0,h3W,h3c,h3w,h3p,h3g⟩:=h3rest;generalize merge w2 s p2=w3 at hwm hw3;have hbt2:w2.heap[C.bt u]?=_:=hM2.bt u (Nat.le_refl _) hu;have hbt3:w3.heap[C.bt u]?=_:=(hwm.block _ (aq' hbt2).1 (hC.btb u u hu hu).1 (hC.btb u u hu hu).2).trans hbt2;have hr3:w3.heap[C.r]?=_:=(hwm.block _ hr2.lt (hC.rb u hu).1 (hC.rb u hu).2).trans hM2.r;have hnl3:∀ j s1,S3.role j=.seat s1→¬ s1.lent (C.bt u):=fun j s1 hs1 hl=>by
   rw[hrole3] at hs1;by_cases e1:j=C.g0+u
   ·rw[if_pos e1] at hs1;cases hs1
   ·rw[if_neg e1] at hs1
    by_cases e0:j=0
    ·rw[if_pos e0] at hs1
     cases hs1;exact lentOf_ne (w:=w2) (b0:=C.r) hl ⟨_,_,_,hbt2⟩ (Ne.symm (hC.btr u hu)) rfl
    ·rw[if_neg e0] at hs1
     obtain⟨k,hk,hjk,⟨_,h⟩ | ⟨_,_,_,h⟩⟩:=M.seats.roles hC M.role hs1
     ·exact(h.lent _ hl).2 u hu (fun e=>e1 (by rw[hjk,e])) rfl
     ·exact(h.lent _ hl).2 u hu (fun e=>e1 (by rw[hjk,e])) rfl
  refine sound_thaw (S:=S3) (b:=C.bt u) (c:=#[ptr C.r,.int .i64 u,.chan (some (C.ch u)),.bool false]) (t:=79) (by rw[hw3];exact hbt3) (by rw[h3fz];exact .inl (M.seats.fz u hu fun e=>hst (hdt.symm.trans e))) (by rw[h3n0];exact M.seats.blo u hu) hnl3 ?_;rw[hw3];generalize hw4:setB w3 (C.bt u) (.cells #[ptr C.r,.int .i64 u,.chan (some (C.ch u)),.bool false] 79 (0,0))=w4;have hlt3:=(aq' hbt3).1;have hbt4:Pl.Blk w4 (C.bt u) [ptr C.r,.int .i64 u,.chan (some (C.ch u)),.bool false] 79:=by rw[← hw4];exact setB_self hlt3
  have h4f:∀ {x},x≠C.bt u→w4.heap[x]?=w3.heap[x]?:=fun hx=>hw4▸setB_ne hx;have h4s:w4.heap.size=w3.heap.size:=hw4▸setB_size;have hK4:=cl_sound (P:=Try.prog) (ty:=link.tWg) (Post:=Post) (S:={S3 with w:=w4,fz:=fun x=>S3.fz x∧x≠C.bt u}) (h:=C.g0+u) fits;show Sound Try.prog link.tWg Post (C.g0+u) { S3 with w:=w4,fz:=fun x=>S3.fz x∧x≠C.bt u} _;have hw5s:((w4.alloc (.cells #[] 80)).setCell ⟨C.bt u,3,none⟩ (.bool true)).heap.size=w4.heap.size+1:=by rw[World.size_setCell,wz']
  have hw5f:∀ {x},x<w4.heap.size→x≠C.bt u→((w4.alloc (.cells #[] 80)).setCell ⟨C.bt u,3,none⟩ (.bool true)).heap[x]?=w4.heap[x]?:=fun hx hne=>(setCell_frame hne).trans (Go.RowKit.Below.heap_alloc w4 _ _ hx);generalize hw5:(w4.alloc (.cells #[] 80)).setCell ⟨C.bt u,3,none⟩ (.bool true)=w5 at hw5s hw5f;have hq:∀ {x},x<w3.heap.size→x≠C.bt u→w5.heap[x]?=w3.heap[x]?:=fun hx hne=>(hw5f (by rw[h4s];exact hx) hne).trans (h4f hne);have hb05:Pl.Blk w5 (C.b0 u) [ptr C.r] 76:=(hq hwm.b0.lt (Ne.symm (hC.btb u u hu hu).1)).trans hwm.b0;have hb15:Pl.Blk w5 (C.b0 u+1) [.bool true,.bool true,.bool true,.nilFunc] 72:=(hq hwm.b1.lt (Ne.symm (hC.btb u u hu hu).2)).trans hwm.b1;have hr5:w5.heap[C.r]?=_:=(hq (aq' hr3).1 (Ne.symm (hC.btr u hu))).trans hr3;have lost:∀ {tmF:Array Value} {todoF:List Item},Sound Try.prog link.tWg Post (C.g0+u) { S3 with w:=w5,fz:=fun x=>S3.fz x∧x≠C.bt u} (gs { (baseD 39).at ⟨tmF,[dlive (C.b0 u) (C.b0 u+1),d59 C.all]⟩ todoF with mode:=.panicking lostE} [bot]):=by
   intro tmF todoF;refine thr_lost (S:={S3 with w:=w5,fz:=fun x=>S3.fz x∧x≠C.bt u}) (s0:=s0) hC hu (by show S3.role 0=_;rw[hrole3,if_neg (by omega),if_pos rfl]) rfl rfl (by show S3.grp _=_;rw[h3g];exact(M.seats.grp _).2 ⟨u,hu,rfl⟩) (by show S3.wgs _;rw[h3w];exact M.seats.wgs)
    ⟨_,hr5⟩ hb05 hb15 fun g3 p3 hAt3=>?_
   obtain⟨tm3,htm3,rfl⟩:=hAt3;have hw6:(({S3 with w:=w5,fz:=fun x=>S3.fz x∧x≠C.bt u}:SC).give (C.g0+u) 0 s0 (.doner C.all) p3).w=w5:=merge_flat rfl;have hrole6:∀ x,(({S3 with w:=w5,fz:=fun x=>S3.fz x∧x≠C.bt u}:SC).give (C.g0+u) 0 s0 (.doner C.all) p3).role x=if x=0 then .none else if x=C.g0+u then .doner C.all else S3.role x:=fun x=>rfl;have h6:(({S3 with w:=w5,fz:=fun x=>S3.fz x∧x≠C.bt u}:SC).give (C.g0+u) 0 s0 (.doner C.all) p3).fz=(fun x=>S3.fz x∧x≠C.bt u)∧(({S3 with w:=w5,fz:=fun x=>S3.fz x∧x≠C.bt u}:SC).give (C.g0+u) 0 s0 (.doner C.all) p3).n=S3.n∧(({S3 with w:=w5,fz:=fun x=>S3.fz x∧x≠C.bt u}:SC).give (C.g0+u) 0 s0 (.doner C.all) p3).n0=S3.n0 ∧
    (({S3 with w:=w5,fz:=fun x=>S3.fz x∧x≠C.bt u}:SC).give (C.g0+u) 0 s0 (.doner C.all) p3).W0=S3.W0∧(({S3 with w:=w5,fz:=fun x=>S3.fz x∧x≠C.bt u}:SC).give (C.g0+u) 0 s0 (.doner C.all) p3).chs=S3.chs∧(({S3 with w:=w5,fz:=fun x=>S3.fz x∧x≠C.bt u}:SC).give (C.g0+u) 0 s0 (.doner C.all) p3).wgs=S3.wgs ∧
    (({S3 with w:=w5,fz:=fun x=>S3.fz x∧x≠C.bt u}:SC).give (C.g0+u) 0 s0 (.doner C.all) p3).pend=S3.pend∧(({S3 with w:=w5,fz:=fun x=>S3.fz x∧x≠C.bt u}:SC).give (C.g0+u) 0 s0 (.doner C.all) p3).grp=S3.grp:=⟨rfl,rfl,rfl,rfl,rfl,rfl,rfl,rfl⟩
   generalize (({S3 with w:=w5,fz:=fun x=>S3.fz x∧x≠C.bt u}:SC).give (C.g0+u) 0 s0 (.doner C.all) p3)=S6 at hw6 hrole6 h6 ⊢;obtain⟨h6fz,h6n,h6n0,h6W,h6c,h6w,h6p,h6g⟩:=h6;have hK6:=clS (Post:=Post) S6;refine ks (S:=S6) (w:=w5) (unw_next hK6.det hC.n8 hu htm3 fun tm4 htm4=>?_) hw6;show Sound Try.prog link.tWg Post 0 { S6 with w:=w5} _;have hnl6:∀ j s1,S6.role j=.seat s1→¬ s1.lent C.r:=fun j s1 hs1=>by
    rw[hrole6] at hs1;by_cases e0:j=0
    ·rw[if_pos e0] at hs1;cases hs1
    ·rw[if_neg e0] at hs1
     by_cases e1:j=C.g0+u
     ·rw[if_pos e1] at hs1;cases hs1
     ·rw[if_neg e1,hrole3,if_neg e1,if_neg e0] at hs1
      exact hnl j s1 hs1
   refine sound_thaw (S:={S6 with w:=w5}) (b:=C.r) hr5 (by show S6.fz _;rw[h6fz,h3fz];exact⟨.inr rfl,Ne.symm (hC.btr u hu)⟩) (by show S6.n0≤_;rw[h6n0,h3n0];exact M.seats.rlo) hnl6 ?_;have hYk:∀ b,C.Y (.slice ga acts.length ca) b→b≠C.bt u→b≠C.b0 u→b≠C.b0 u+1→w5.heap[b]?=w2.heap[b]?:=fun b hb n1 n2 n3=>by
    have hlt:b<w2.heap.size:=by have:=hYlt b hb;have:=k1.size;rw[hsz2];omega
    exact(hq (nl' hlt hwm.size) n1).trans (hwm.block b hlt n2 n3)
   have hs25:w2.heap.size≤w5.heap.size:=by have:=hwm.size;rw[hw5s,h4s];omega
   have hM5:WMem C st acts ga ca (0,5) (u+1) w5:=hM2.unw hC hu hs25 hYk fun l rv e=>by
    obtain⟨k0,k1'⟩:=hM2.live u l rv hu e;exact⟨Eq.trans hb05 k0.symm,Eq.trans hb15 k1'.symm⟩
   have hM7:=hM5.ice (rz':=(0,0)) hC;have hXk:∀ b,b<S.w.heap.size→¬ C.Y (.slice ga acts.length ca) b→w5.heap[b]?=S.w.heap[b]?:=fun b hb hy=>by
    have hlt1:b<w1.heap.size:=nl' hb k1.size;have hlt2:b<w2.heap.size:=by rw[hsz2];exact hlt1
    exact(hq (nl' hlt2 hwm.size) fun e=>hy (.inr (.inr (.inr (.inr ⟨u,hu,.inl e⟩))))).trans ((hwm.block b hlt2 (fun e=>hy (.inr (.inr (.inr (.inr ⟨u,hu,.inr (.inl e)⟩))))) fun e=>hy (.inr (.inr (.inr (.inr ⟨u,hu,.inr (.inr e)⟩)))) ).trans
     ((hne2 fun e=>hy (.inl e)).trans (k1.block b hb (by simp))))
   have hs05:S.w.heap.size≤w5.heap.size:=Nat.le_trans k1.size (by rw[← hsz2];exact hs25);refine hnext _ tm4 ⟨?_,hM7,?_,M.apart,?_,?_⟩ ⟨⟨?_,fun b hb hz=>?_,fun b hb=>.inl hb⟩,?_,?_⟩ htm4
   ·have hdt':∀ j,j≠u→doneTo (u+1) st j=doneTo u st j:=fun j hj=>by
     show(if j<u+1 then _ else _)=if j<u then _ else _;by_cases e:j<u
     ·rw[if_pos e,if_pos (by omega)]
     ·rw[if_neg e,if_neg (by omega)]
    have hdu:doneTo (u+1) st u=.done:=if_pos (by omega);have hx:∀ j,j≠u→S6.role (C.g0+j)=S.role (C.g0+j):=fun j hj=>by
     rw[hrole6,if_neg (by omega),if_neg (by omega),hrole3,if_neg (by omega),if_neg (by omega)]
    refine⟨(h6n.trans h3n).trans M.seats.n,fun j hj hj' e=>?_,fun j l rv hj hj' e=>?_,fun j hj hj' e=>?_,fun j hj hall=>?_,by show S6.chs _;rw[h6c,h3c];exact⟨M.seats.chk,fun e=>hC.chk u hu (hsc.symm.trans e.symm)⟩,fun j hj e=>?_,by show S6.wgs _;rw[h6w,h3w];exact M.seats.wgs,by show S6.pend _=0;rw[h6p,h3p];exact M.seats.pend,
     fun j=>by show S6.grp j=_↔_;rw[h6g,h3g];exact M.seats.grp j,fun j=>by show S6.grp j=_∨S6.grp j=_;rw[h6g,h3g];exact M.seats.grn j,fun j hj e=>?_,by show S6.n0≤_;rw[h6n0,h3n0];exact M.seats.rlo,fun j hj=>by show S6.n0≤_;rw[h6n0,h3n0];exact M.seats.blo j hj⟩
    ·show ∃ s,S6.role (C.g0+j)=_∧_
     by_cases ej:j=u
     ·subst ej;rw[hdu] at e;cases e
     ·rw[hx j ej];exact M.seats.fresh j hj hj' ((hdt' j ej).symm.trans e)
    ·show ∃ s,S6.role (C.g0+j)=_∧_
     by_cases ej:j=u
     ·subst ej;rw[hdu] at e;cases e
     ·rw[hx j ej];exact M.seats.susp j l rv hj hj' ((hdt' j ej).symm.trans e)
    ·show S6.role (C.g0+j)=_
     by_cases ej:j=u
     ·subst ej;rw[hrole6,if_neg (by omega),if_pos rfl]
     ·rw[hx j ej];exact M.seats.done j hj hj' ((hdt' j ej).symm.trans e)
    ·show S6.role j=_
     rw[hrole6,if_neg (by omega),if_neg (hall u hu),hrole3,if_neg (hall u hu),if_neg (by omega)];exact M.seats.old j hj hall
    ·show S6.chs _
     rw[h6c,h3c];by_cases ej:j=u
     ·subst ej;exact absurd hdu e
     ·exact⟨M.seats.chs j hj fun e'=>e ((hdt' j ej).trans e'),fun e'=>ej (hC.chi j u hj hu (e'.trans hsc))⟩
    ·show S6.fz _∧_
     rw[h6fz,h3fz];by_cases ej:j=u
     ·subst ej;exact absurd hdu e
     ·exact⟨⟨.inl (M.seats.fz j hj fun e'=>e ((hdt' j ej).trans e')),fun e'=>ej (hC.bti j u hj hu e')⟩,hC.btr j hj⟩
   ·refine hB.frame M.bods (fun b hb=>?_) (by rw[setB_size];exact hs05)
    exact(setB_ne fun e=>M.apart b hb (.inl e)).trans (hXk b (hB.bound M.bods hb) (M.apart b hb))
   ·show S6.role 0=_
    rw[hrole6,if_pos rfl]
   ·intro j hj e
    have hju:j≠u:=fun e'=>hst (e'▸e);have h0:=M.bts j hj e;have hlt:=(aq' h0).1;refine(setB_ne (hC.btr j hj)).trans ((hYk _ (.inr (.inr (.inr (.inr ⟨j,hj,.inl rfl⟩)))) (fun e'=>hju (hC.bti j u hj hu e')) (hC.btb j u hj hu).1 (hC.btb j u hj hu).2).trans ((hne2 (hC.btr j hj)).trans ((k1.block _ hlt (by simp)).trans h0)))
   ·rw[setB_size];exact hs05
   ·exact(setB_ne fun e=>hz (.inr (.inl e))).trans (hXk b hb fun hy=>hz (.inr hy))
   ·show S6.n0=_;rw[h6n0,h3n0]
   ·show S6.W0=_;rw[h6W,h3W]
  rcases hs with⟨e,hs⟩ | ⟨l,rv,e,hs⟩
  ·obtain⟨rfl,_,_⟩:=hs.at_ g2 p2 hAt
   refine ks (S:={S3 with w:=w4,fz:=fun x=>S3.fz x∧x≠C.bt u}) (come_lost (Kn:=fun _=>KS Try.prog link.tWg Post (C.g0+u) { S3 with w:=w4,fz:=fun x=>S3.fz x∧x≠C.bt u}) (n:=0) hK4.det rfl hbt4 ?_) rfl;rw[hw5];exact lost
  ·obtain⟨y,c,rest,hrs,rfl⟩:=hs.at_ g2 p2 hAt
   refine ks (S:={S3 with w:=w4,fz:=fun x=>S3.fz x∧x≠C.bt u}) (come_lost (Kn:=fun _=>KS Try.prog link.tWg Post (C.g0+u) { S3 with w:=w4,fz:=fun x=>S3.fz x∧x≠C.bt u}) (n:=0) hK4.det rfl hbt4 ?_) rfl;rw[hw5];refine hK4.det.upF (n:=0) (f:=yieldB (C.bt u) C.r C.k y false false false rv) rfl ⟨_,Try.func30⟩ (hB.rsok hrs c mc').1 ?_;refine ups hK4.det (F:=liveB C.r (C.bt u) (C.fn u) (C.cap u) C.all (C.b0 u) (C.b0 u+1)) (cs:=[bot]) rfl ?_ rest c (hB.rsok hrs);exact lost
theorem UnwAt.skip (hB:BOk B C)(hC:C.Ok)(hu:u<C.n)(M:UnwAt B C S st acts ga ca a X u)(hst:st u=.done){w':World}(h:Kp [] S.w w'):UnwAt B C { S with w:=w'} st acts ga ca a X (u+1)∧Rest S { S with w:=w'} (allOf X C (.slice ga acts.length ca)) (allOf X C (.slice ga acts.length ca)):=by
 have hr:=M.mem;have hYlt:∀ b,C.Y (.slice ga acts.length ca) b→b<S.w.heap.size:=fun b hb=>by
  rcases hb with e | e | e | e | ⟨j,hj,e⟩
  ·have:=(aq' hr.r).1;omega
  ·obtain⟨cells,q,_⟩:=hr.gb;have:=q.lt;omega
  ·have:=hr.stn.lt;omega
  ·exact hr.rep.fp_lt b e
  ·have:=hr.room j hj;omega
 have hdt:doneTo (u+1) st=doneTo u st:=by
  funext j;show(if j<u+1 then _ else _)=if j<u then _ else _;by_cases e:j<u
  ·rw[if_pos e,if_pos (by omega)]
  ·by_cases e2:j=u
   ·subst e2;rw[if_pos (by omega),if_neg (by omega),hst]
   ·rw[if_neg e,if_neg (by omega)]
 have hs:=M.seats;refine⟨⟨by rw[hdt];exact⟨hs.n,hs.fresh,hs.susp,hs.done,hs.old,hs.chk,hs.chs,hs.wgs,hs.pend,hs.grp,hs.grn,hs.fz,hs.rlo,hs.blo⟩,(hr.same h.size fun b hb=>h.block b (hYlt b hb) (by simp)).up,hB.frame M.bods (fun b hb=>h.block b (hB.bound M.bods hb) (by simp)) h.size,M.apart,M.role,fun i hi e=>(h.block _ (hr.room i hi).2 (by simp)).trans (M.bts i hi e)⟩,⟨Kx.kp h,rfl,rfl⟩⟩
theorem unw_all (hB:BOk B C)(hC:C.Ok)(hcl:cl.mode=.run):∀ (k u:Nat) (S:SC) (tm:Array Value),k=C.n-u→u≤C.n→UnwAt B C S st acts ga ca a X u→unwTm C.r C.st C.n C.n u tm →
  (∀ S',UnwAt B C S' st acts ga ca a X C.n→Rest S S' (allOf X C (.slice ga acts.length ca)) (allOf X C (.slice ga acts.length ca))→Sound Try.prog link.tWg Post 0 S' (gs (cl.finish (.tuple #[])) cs)) →
  Sound Try.prog link.tWg Post 0 S (gs (unwHead tm) (cl::cs)):=by
 intro k
 induction k with
 | zero =>
  intro u S tm hk hu M htm hnext;have e:u=C.n:=by omega
  have hK:=clS (Post:=Post) S;exact ks (S:=S) (unw_end hK.det hcl (by omega) htm (hnext S (e▸M) ⟨Kx.refl _ _,rfl,rfl⟩)) rfl
 | succ k ih =>
  intro u S tm hk hu M htm hnext;have hlt:u<C.n:=by omega
  by_cases hst:st u=.done
  ·have hK:=clS (Post:=Post) S
   have q0:(standsOf C.n st)[u*4]?=some (.bool true):=(standsOf_get hlt (c:=0) (by omega)).trans (by rw[hst];rfl);have q1:(standsOf C.n st)[u*4+1]?=some (.bool false):=(standsOf_get hlt (c:=1) (by omega)).trans (by rw[hst];rfl);have q2:(standsOf C.n st)[u*4+2]?=some (.bool true):=(standsOf_get hlt (c:=2) (by omega)).trans (by rw[hst];rfl);have q3:(standsOf C.n st)[u*4+3]?=some .nilFunc:=(standsOf_get hlt (c:=3) (by omega)).trans (by rw[hst];rfl);refine ks (S:=S) (unw_gone hK.det hC.n8 hlt M.mem.stn (.inl rfl) q0 q1 q2 q3 htm fun w1 tm1 k1 htm1=>?_) rfl;obtain⟨M1,R1⟩:=M.skip hB hC hlt hst k1;show Sound Try.prog link.tWg Post 0 { S with w:=w1} _;exact ih (u+1) { S with w:=w1} tm1 (by omega) hlt M1 htm1 fun S' M' R'=>hnext S' M' (R1.trans R')
  ·exact unw_one hB hC hlt M hst hcl htm fun S1 tm1 M1 R1 htm1=>ih (u+1) S1 tm1 (by omega) hlt M1 htm1 fun S' M' R'=>hnext S' M' (R1.trans R')
end
end Go.Proofs.Ytfbjopkiicmiiaa.Lift
namespace Go.Proofs.Ytfbjopkiicmiiaa.Lift
open Go Go.Conc Go.RowKit
variable {K:Goroutine→World→Prop}{m:Bool}{w:World}{cs:List Frame}{v0 v1 bh lv rv:Value}{most code:Int}{ob r all i rb:Nat}{tm:Array Value}{cl:Frame}
theorem pu_geq {a:Act}{oo:Oper}{w:World}{x y:Operand}{i j:Int}(h:oo.op=.binOp .geq 3 x y 3)(hx:a.eval x=.int .i64 i)(hy:a.eval y=.int .i64 j):(execOp a.eval oo).run Try.prog w=.ok (.value (.bool (decide (j≤i)))) w:=by
 unfold execOp;rw[h];simp only[hx,hy];exact run_vv (by simp[go_sem,Try.underlying3,Try.runUnderlying3])
theorem pu_sub {a:Act}{oo:Oper}{w:World}{x y:Operand}{i j:Nat}(h:oo.op=.binOp .sub 3 x y 3)(hx:a.eval x=.int .i64 i)(hy:a.eval y=.int .i64 j)(hj:j≤i)(hi:i<4611686018427387904):(execOp a.eval oo).run Try.prog w=.ok (.value (.int .i64 ((i-j:Nat):Int))) w:=by
 have hw:IntKind.i64.wrap ((i:Int)-j)=((i-j:Nat):Int):=by rw[IntKind.wrap_i64];omega
 unfold execOp;rw[h];simp only[hx,hy];exact run_vv (by simp[go_sem,hw,Try.underlying3,Try.runUnderlying3])
theorem al30:∀ w:World,(Instr.alloc 59 true (.tuple #[])).run Try.prog w=.ok (ptr w.heap.size) (w.alloc (.cells #[.slice none 0 0,.slice none 0 0,.int .i64 0] 59)):=fun w=>by
 simp[go_sem,Try.underlying59,Try.runUnderlying59,Try.sizeOf59,Try.isAgg59,Try.zeroValue59]
def set3 (w:World)(b:Nat)(x0 x1 x2:Value):World:=((w.setCell ⟨b,0,none⟩ x0).setCell ⟨b,1,none⟩ x1).setCell ⟨b,2,none⟩ x2
theorem st30 {w:World}{b:Nat}{x0 x1 x2:Value}{ga ge:Option Addr}{na ca ne ce:Nat}{u:Int}(hb:Pl.Blk w b [x0,x1,x2] 59):(Instr.storeAt 59 (ptr b) (.agg #[.slice ga na ca,.slice ge ne ce,.int .i64 u])).run Try.prog w=.ok () (set3 w b (.slice ga na ca) (.slice ge ne ce) (.int .i64 u)):=by
 have b1:=hb.set 0 (.slice ga na ca);have b2:=b1.set 1 (.slice ge ne ce);have c0:=hb.cell 0;have c1:=b1.cell 1;have c2:=b2.cell 2;simp only[List.getElem?_cons_zero,List.getElem?_cons_succ,List.set_cons_zero,List.set_cons_succ] at c0 c1 c2;have f0:=hb.frozen 0;have f1:=b1.frozen 1;have f2:=b2.frozen 2;simp[go_sem,set3,c0,c1,c2,f0,f1,f2,Try.underlying59,Try.runUnderlying59,Try.sizeOf59,Try.isAgg59]
theorem ld30 {w:World}{b:Nat}{x0 x1 x2:Value}(hb:Pl.Blk w b [x0,x1,x2] 59):(Instr.loadAt 59 (ptr b)).run Try.prog w=.ok (.agg #[x0,x1,x2]) w:=by
 have h0:=hb.cell 0;have h1:=hb.cell 1;have h2:=hb.cell 2;simp only[List.getElem?_cons_zero,List.getElem?_cons_succ] at h0 h1 h2;simp[go_sem,h0,h1,h2,Try.underlying59,Try.runUnderlying59,Try.sizeOf59,Try.isAgg59,List.range,List.range.loop]
theorem fld30 {b f:Nat}(hf:f<3):∀ w,(Instr.fieldAt 59 (.pointer (some ⟨b,0,none⟩)) f).run Try.prog w=.ok (.pointer (some ⟨b,f,none⟩)) w:=fun w=>by
 obtain rfl | rfl | rfl:f=0∨f=1∨f=2:=by omega
 all_goals simp[go_sem,Try.underlying59,Try.runUnderlying59,Try.sizeOf59,Try.isAgg59,Try.sizeOf56,Try.sizeOf57,Try.sizeOf3]
theorem st3 {w:World}{a:Addr}{x:Value}{y:Int}(hc:w.cell? a=some x)(hf:w.frozen? a=false):(Instr.storeAt 3 (.pointer (some a)) (.int .i64 y)).run Try.prog w=.ok () (w.setCell a (.int .i64 y)):=by simp[go_sem,hc,hf,Try.underlying3,Try.runUnderlying3,Try.sizeOf3,Try.isAgg3]
theorem set3_blk {w:World}{b:Nat}{x0 x1 x2 y0 y1 y2:Value}{t:TypeId}(h:Pl.Blk w b [y0,y1,y2] t):Pl.Blk (set3 w b x0 x1 x2) b [x0,x1,x2] t:=((h.set 0 x0).set 1 x1).set 2 x2
theorem set3_frame {w:World}{b x:Nat}{v0 v1 v2:Value}(hx:x≠b):(set3 w b v0 v1 v2).heap[x]?=w.heap[x]?:=by
 unfold set3;rw[setCell_frame hx,setCell_frame hx,setCell_frame hx]
theorem set3_size {w:World}{b:Nat}{v0 v1 v2:Value}:(set3 w b v0 v1 v2).heap.size=w.heap.size:=by
 unfold set3;rw[World.size_setCell,World.size_setCell,World.size_setCell]
theorem re_set3 {w:World}{τ:Nat→Question→Nat}{d b:Nat}{x0 x1 x2:Value}:set3 (re w τ d) b x0 x1 x2=re (set3 w b x0 x1 x2) τ d:=by
 unfold set3;rw[re_setCell,re_setCell,re_setCell]
def watTm2 (ob r all rb:Nat)(code:Int)(tm:Array Value):Prop:=∃ x:Nat→Value,tm=#[x 0,x 1,x 2,x 3,x 4,x 5,x 6,x 7,ptr ob,x 9,x 10,ptr r,ptr all,x 13,x 14,x 15,x 16,x 17,x 18,ptr rb,.int .i64 code,x 21,x 22,x 23,x 24,x 25,x 26,x 27,x 28,x 29,x 30,x 31,x 32,x 33,x 34,x 35,x 36,x 37,x 38,x 39,x 40,x 41,x 42,x 43,x 44,x 45,x 46,x 47,x 48,x 49,x 50,x 51,x 52,x 53,x 54,x 55,x 56,x 57,x 58,x 59,x 60,x 61,x 62,x 63,x 64,x 65,x 66,x 67,x 68,x 69,x 70,x 71,x 72,x 73,x 74,x 75,x 76,x 77,x 78,x 79,x 80,x 81,x 82,x 83,x 84,x 85,x 86,x 87,x 88,x 89,x 90,x 91,x 92,x 93,x 94,x 95,x 96,x 97,x 98,x 99,x 100,x 101,x 102,x 103,x 104,x 105,x 106,x 107,x 108,x 109,x 110,x 111,x 112,x 113,x 114]
def watTold (tm:Array Value):Frame:=(base 32).at ⟨tm,[]⟩ [.inRegion (sO (sL (sR (sR (sR (sR (sR (sR (sR c27))))))))) [8,9,10,11,12,13,14],.code (sR (sR (sR (sR (sR (sR (sR (sR c27))))))))]
theorem wat_told {ba sa bk:Value}{ga:Option Addr}{na ca:Nat}(hD:Det Try.prog m fun _=>K)(hr:Cel w r [ba,sa,bk,.slice ga na ca,.bool false] 86)(htm:watTm v0 v1 most bh ob r all lv tm)(h:∀ tm,watTm v0 v1 most bh ob r all lv tm→K (gs (Frame.enter Try.prog 43 #[ptr r,.bool (decide (most≤(na:Int)))] .normal) (watTold tm::cs)) w):K (gs (watOut tm) cs) w:=by
 obtain⟨x,rfl⟩:=htm;have hk:(base 32).kind≠.early:=nofun;unfold watOut;refine hD.s0 ?_;refine hD.r0 ?_;refine hD.mv (ptr r) hk ?_;refine hD.mv (ptr r) hk ?_;refine hD.nc ⟨r,0,none⟩ hk ?_;refine hD.fd (ptrAt r 3) hk (fld86 (by omega)) ?_;refine norm0 (a':=⟨#[v0,v1,.int .i64 most,bh,x 4,x 5,x 6,x 7,ptr ob,x 9,x 10,ptr r,ptr all,x 13,x 14,x 15,lv,x 17,x 18,x 19,x 20,x 21,x 22,x 23,x 24,x 25,x 26,x 27,x 28,x 29,x 30,x 31,x 32,x 33,x 34,x 35,x 36,x 37,x 38,x 39,x 40,x 41,x 42,x 43,x 44,x 45,x 46,x 47,x 48,x 49,x 50,x 51,x 52,x 53,x 54,x 55,x 56,x 57,x 58,x 59,x 60,x 61,x 62,x 63,x 64,x 65,x 66,x 67,x 68,x 69,x 70,x 71,x 72,x 73,x 74,x 75,x 76,x 77,x 78,x 79,x 80,x 81,x 82,x 83,x 84,x 85,x 86,x 87,x 88,x 89,ptr r,ptr r,ptr r,ptrAt r 3,x 94,x 95,x 96,x 97,x 98,x 99,x 100,x 101,x 102,x 103,x 104,x 105,x 106,x 107,x 108,x 109,x 110,x 111,x 112,x 113,x 114],[]⟩) ?_;refine hD.ld (.slice ga na ca) hk (fun τ d=>ld23 (hr.cell 3)) ?_;refine hD.pu (.int .i64 na) hk (fun w=>pu_len (x:=.tmp 94) rfl rfl Try.underlying56) ?_;refine hD.mv (.int .i64 most) hk ?_;refine hD.pu (.bool (decide (most≤(na:Int)))) hk (fun w=>pu_geq (x:=.tmp 95) (y:=.tmp 96) rfl rfl rfl) ?_;refine norm0 (a':=⟨#[v0,v1,.int .i64 most,bh,x 4,x 5,x 6,x 7,ptr ob,x 9,x 10,ptr r,ptr all,x 13,x 14,x 15,lv,x 17,x 18,x 19,x 20,x 21,x 22,x 23,x 24,x 25,x 26,x 27,x 28,x 29,x 30,x 31,x 32,x 33,x 34,x 35,x 36,x 37,x 38,x 39,x 40,x 41,x 42,x 43,x 44,x 45,x 46,x 47,x 48,x 49,x 50,x 51,x 52,x 53,x 54,x 55,x 56,x 57,x 58,x 59,x 60,x 61,x 62,x 63,x 64,x 65,x 66,x 67,x 68,x 69,x 70,x 71,x 72,x 73,x 74,x 75,x 76,x 77,x 78,x 79,x 80,x 81,x 82,x 83,x 84,x 85,x 86,x 87,x 88,x 89,ptr r,ptr r,ptr r,ptrAt r 3,.slice ga na ca,.int .i64 na,.int .i64 most,.bool (decide (most≤(na:Int))),x 98,x 99,x 100,x 101,x 102,x 103,x 104,x 105,x 106,x 107,x 108,x 109,x 110,x 111,x 112,x 113,x 114],[]⟩) ?_;refine hD.cf #[ptr r,.bool (decide (most≤(na:Int)))] hk Try.func43 ?_;exact h _ ⟨fun q9=>(#[v0,v1,.int .i64 most,bh,x 4,x 5,x 6,x 7,ptr ob,x 9,x 10,ptr r,ptr all,x 13,x 14,x 15,lv,x 17,x 18,x 19,x 20,x 21,x 22,x 23,x 24,x 25,x 26,x 27,x 28,x 29,x 30,x 31,x 32,x 33,x 34,x 35,x 36,x 37,x 38,x 39,x 40,x 41,x 42,x 43,x 44,x 45,x 46,x 47,x 48,x 49,x 50,x 51,x 52,x 53,x 54,x 55,x 56,x 57,x 58,x 59,x 60,x 61,x 62,x 63,x 64,x 65,x 66,x 67,x 68,x 69,x 70,x 71,x 72,x 73,x 74,x 75,x 76,x 77,x 78,x 79,x 80,x 81,x 82,x 83,x 84,x 85,x 86,x 87,x 88,x 89,ptr r,ptr r,ptr r,ptrAt r 3,.slice ga na ca,.int .i64 na,.int .i64 most,.bool (decide (most≤(na:Int))),x 98,x 99,x 100,x 101,x 102,x 103,x 104,x 105,x 106,x 107,x 108,x 109,x 110,x 111,x 112,x 113,x 114]:Array Value).getD q9 undef,rfl⟩
def watUnw (tm:Array Value):Frame:=(base 32).at ⟨tm,[]⟩ [.inRegion (sO (sL (sR (sR (sR (sR (sR (sR (sR (sR (sR c27))))))))))) [1],.code (sR (sR (sR (sR (sR (sR (sR (sR (sR (sR c27))))))))))]
theorem wat_used {ga ge g1 gl:Option Addr}{na ca ne ce np c1 nl cl':Nat}(hD:Det Try.prog m fun _=>K)(hle:nl≤np)(hnp:np<4611686018427387904)(htm:watTm v0 (.slice g1 np c1) most bh ob r all (.slice gl nl cl') tm)(h:∀ w1 rb,Kp [] w w1→Pl.Blk w1 rb [.slice ga na ca,.slice ge ne ce,.int .i64 ((np-nl:Nat):Int)] 59→w.heap.size≤rb→∀ tm,watTm2 ob r all rb code tm→K (gs (Frame.enter Try.prog 44 #[ptr r] .normal) (watUnw tm::cs)) w1):K (gs ((watTold tm).finish (.tuple #[.agg #[.slice ga na ca,.slice ge ne ce,.int .i64 0],.int .i64 code])) cs) w:=by
 obtain⟨x,rfl⟩:=htm;have hk:(base 32).kind≠.early:=nofun;unfold watTold;refine fin0 (some 98) ?_;refine hD.mv (.tuple #[.agg #[.slice ga na ca,.slice ge ne ce,.int .i64 0],.int .i64 code]) hk ?_;refine hD.pu (.agg #[.slice ga na ca,.slice ge ne ce,.int .i64 0]) hk (fun w=>rfl) ?_;refine hD.pu (.int .i64 code) hk (fun w=>rfl) ?_;refine norm0 (a':=⟨#[v0,.slice g1 np c1,.int .i64 most,bh,x 4,x 5,x 6,x 7,ptr ob,x 9,x 10,ptr r,ptr all,x 13,x 14,x 15,.slice gl nl cl',x 17,x 18,x 19,x 20,x 21,x 22,x 23,x 24,x 25,x 26,x 27,x 28,x 29,x 30,x 31,x 32,x 33,x 34,x 35,x 36,x 37,x 38,x 39,x 40,x 41,x 42,x 43,x 44,x 45,x 46,x 47,x 48,x 49,x 50,x 51,x 52,x 53,x 54,x 55,x 56,x 57,x 58,x 59,x 60,x 61,x 62,x 63,x 64,x 65,x 66,x 67,x 68,x 69,x 70,x 71,x 72,x 73,x 74,x 75,x 76,x 77,x 78,x 79,x 80,x 81,x 82,x 83,x 84,x 85,x 86,x 87,x 88,.tuple #[.agg #[.slice ga na ca,.slice ge ne ce,.int .i64 0],.int .i64 code],x 90,x 91,x 92,x 93,x 94,x 95,x 96,x 97,.tuple #[.agg #[.slice ga na ca,.slice ge ne ce,.int .i64 0],.int .i64 code],.agg #[.slice ga na ca,.slice ge ne ce,.int .i64 0],.int .i64 code,x 101,x 102,x 103,x 104,x 105,x 106,x 107,x 108,x 109,x 110,x 111,x 112,x 113,x 114],[]⟩) ?_;obtain⟨rb,hrb⟩:∃ rb,rb=w.heap.size:=⟨_,rfl⟩;obtain⟨w1,hw1⟩:∃ w1,w1=w.alloc (.cells #[.slice none 0 0,.slice none 0 0,.int .i64 0] 59):=⟨_,rfl⟩;refine hD.alloc (n:=0) hk rfl ⟨rfl,rfl,rfl,(by decide +kernel),nofun⟩ al30 ?_;rw[← hrb,← hw1];refine norm0 (a':=⟨#[v0,.slice g1 np c1,.int .i64 most,bh,x 4,x 5,x 6,x 7,ptr ob,x 9,x 10,ptr r,ptr all,x 13,x 14,x 15,.slice gl nl cl',x 17,x 18,ptr rb,x 20,x 21,x 22,x 23,x 24,x 25,x 26,x 27,x 28,x 29,x 30,x 31,x 32,x 33,x 34,x 35,x 36,x 37,x 38,x 39,x 40,x 41,x 42,x 43,x 44,x 45,x 46,x 47,x 48,x 49,x 50,x 51,x 52,x 53,x 54,x 55,x 56,x 57,x 58,x 59,x 60,x 61,x 62,x 63,x 64,x 65,x 66,x 67,x 68,x 69,x 70,x 71,x 72,x 73,x 74,x 75,x 76,x 77,x 78,x 79,x 80,x 81,x 82,x 83,x 84,x 85,x 86,x 87,x 88,.tuple #[.agg #[.slice ga na ca,.slice ge ne ce,.int .i64 0],.int .i64 code],x 90,x 91,x 92,x 93,x 94,x 95,x 96,x 97,.tuple #[.agg #[.slice ga na ca,.slice ge ne ce,.int .i64 0],.int .i64 code],.agg #[.slice ga na ca,.slice ge ne ce,.int .i64 0],.int .i64 code,x 101,x 102,x 103,x 104,x 105,x 106,x 107,x 108,x 109,x 110,x 111,x 112,x 113,x 114],[]⟩) ?_;have b1:Pl.Blk w1 rb [.slice none 0 0,.slice none 0 0,.int .i64 0] 59:=by rw[hw1,hrb];exact Pl.Blk.new w [.slice none 0 0,.slice none 0 0,.int .i64 0] 59
 have k1:Kp [] w w1:=hw1▸Kp.alloc [] w _;clear hw1;refine hD.store (n:=0) (u:=(ptr rb)) (z:=(.agg #[.slice ga na ca,.slice ge ne ce,.int .i64 0])) hk rfl ⟨rfl,rfl,rfl,rfl,nofun⟩ rfl rfl (fun τ d=>((st30 (w:=re w1 τ d) b1).trans (congrArg (Result.ok ()) re_set3))) (Nat.le_of_eq set3_size.symm) ?_;have b2:Pl.Blk (set3 w1 rb (.slice ga na ca) (.slice ge ne ce) (.int .i64 0)) rb [.slice ga na ca,.slice ge ne ce,.int .i64 0] 59:=set3_blk b1;have k2:Kp [] w (set3 w1 rb (.slice ga na ca) (.slice ge ne ce) (.int .i64 0)):=⟨by rw[set3_size];exact k1.size,fun b hb hn=>(set3_frame (by omega)).trans (k1.block b hb hn)⟩;generalize set3 w1 rb (.slice ga na ca) (.slice ge ne ce) (.int .i64 0)=w2 at b2 k2 ⊢;refine hD.as (.int .i64 code) hk ?_;refine norm0 (a':=⟨#[v0,.slice g1 np c1,.int .i64 most,bh,x 4,x 5,x 6,x 7,ptr ob,x 9,x 10,ptr r,ptr all,x 13,x 14,x 15,.slice gl nl cl',x 17,x 18,ptr rb,.int .i64 code,x 21,x 22,x 23,x 24,x 25,x 26,x 27,x 28,x 29,x 30,x 31,x 32,x 33,x 34,x 35,x 36,x 37,x 38,x 39,x 40,x 41,x 42,x 43,x 44,x 45,x 46,x 47,x 48,x 49,x 50,x 51,x 52,x 53,x 54,x 55,x 56,x 57,x 58,x 59,x 60,x 61,x 62,x 63,x 64,x 65,x 66,x 67,x 68,x 69,x 70,x 71,x 72,x 73,x 74,x 75,x 76,x 77,x 78,x 79,x 80,x 81,x 82,x 83,x 84,x 85,x 86,x 87,x 88,.tuple #[.agg #[.slice ga na ca,.slice ge ne ce,.int .i64 0],.int .i64 code],x 90,x 91,x 92,x 93,x 94,x 95,x 96,x 97,.tuple #[.agg #[.slice ga na ca,.slice ge ne ce,.int .i64 0],.int .i64 code],.agg #[.slice ga na ca,.slice ge ne ce,.int .i64 0],.int .i64 code,x 101,x 102,x 103,x 104,x 105,x 106,x 107,x 108,x 109,x 110,x 111,x 112,x 113,x 114],[]⟩) ?_;refine hD.e0 ?_;refine hD.s0 ?_;refine hD.r0 ?_;refine hD.mv (.slice g1 np c1) hk ?_;refine hD.pu (.int .i64 np) hk (fun w=>pu_len (x:=.tmp 101) rfl rfl Try.underlying56) ?_;refine hD.mv (.slice gl nl cl') hk ?_;refine hD.pu (.int .i64 nl) hk (fun w=>pu_len (x:=.tmp 103) rfl rfl Try.underlying56) ?_;refine norm0 (a':=⟨#[v0,.slice g1 np c1,.int .i64 most,bh,x 4,x 5,x 6,x 7,ptr ob,x 9,x 10,ptr r,ptr all,x 13,x 14,x 15,.slice gl nl cl',x 17,x 18,ptr rb,.int .i64 code,x 21,x 22,x 23,x 24,x 25,x 26,x 27,x 28,x 29,x 30,x 31,x 32,x 33,x 34,x 35,x 36,x 37,x 38,x 39,x 40,x 41,x 42,x 43,x 44,x 45,x 46,x 47,x 48,x 49,x 50,x 51,x 52,x 53,x 54,x 55,x 56,x 57,x 58,x 59,x 60,x 61,x 62,x 63,x 64,x 65,x 66,x 67,x 68,x 69,x 70,x 71,x 72,x 73,x 74,x 75,x 76,x 77,x 78,x 79,x 80,x 81,x 82,x 83,x 84,x 85,x 86,x 87,x 88,.tuple #[.agg #[.slice ga na ca,.slice ge ne ce,.int .i64 0],.int .i64 code],x 90,x 91,x 92,x 93,x 94,x 95,x 96,x 97,.tuple #[.agg #[.slice ga na ca,.slice ge ne ce,.int .i64 0],.int .i64 code],.agg #[.slice ga na ca,.slice ge ne ce,.int .i64 0],.int .i64 code,.slice g1 np c1,.int .i64 np,.slice gl nl cl',.int .i64 nl,x 105,x 106,x 107,x 108,x 109,x 110,x 111,x 112,x 113,x 114],[]⟩) ?_;refine hD.pu (.int .i64 ((np-nl:Nat):Int)) hk (fun w=>pu_sub (x:=.tmp 102) (y:=.tmp 104) rfl rfl rfl hle hnp) ?_;refine hD.fd (ptrAt rb 2) hk (fld30 (by omega)) ?_;refine norm0 (a':=⟨#[v0,.slice g1 np c1,.int .i64 most,bh,x 4,x 5,x 6,x 7,ptr ob,x 9,x 10,ptr r,ptr all,x 13,x 14,x 15,.slice gl nl cl',x 17,x 18,ptr rb,.int .i64 code,x 21,x 22,x 23,x 24,x 25,x 26,x 27,x 28,x 29,x 30,x 31,x 32,x 33,x 34,x 35,x 36,x 37,x 38,x 39,x 40,x 41,x 42,x 43,x 44,x 45,x 46,x 47,x 48,x 49,x 50,x 51,x 52,x 53,x 54,x 55,x 56,x 57,x 58,x 59,x 60,x 61,x 62,x 63,x 64,x 65,x 66,x 67,x 68,x 69,x 70,x 71,x 72,x 73,x 74,x 75,x 76,x 77,x 78,x 79,x 80,x 81,x 82,x 83,x 84,x 85,x 86,x 87,x 88,.tuple #[.agg #[.slice ga na ca,.slice ge ne ce,.int .i64 0],.int .i64 code],x 90,x 91,x 92,x 93,x 94,x 95,x 96,x 97,.tuple #[.agg #[.slice ga na ca,.slice ge ne ce,.int .i64 0],.int .i64 code],.agg #[.slice ga na ca,.slice ge ne ce,.int .i64 0],.int .i64 code,.slice g1 np c1,.int .i64 np,.slice gl nl cl',.int .i64 nl,.int .i64 ((np-nl:Nat):Int),ptrAt rb 2,x 107,x 108,x 109,x 110,x 111,x 112,x 113,x 114],[]⟩) ?_
 refine hD.store (n:=0) (u:=(ptrAt rb 2)) (z:=(.int .i64 ((np-nl:Nat):Int))) hk rfl ⟨rfl,rfl,rfl,rfl,nofun⟩ rfl rfl (fun τ d=>((st3 (w:=re w2 τ d) (b2.cell 2) (b2.frozen 2)).trans (congrArg (Result.ok ()) re_setCell))) (by rw[World.size_setCell];exact Nat.le_refl _) ?_;have b3:=b2.set 2 (.int .i64 ((np-nl:Nat):Int));have k3:Kp [] w (w2.setCell ⟨rb,2,none⟩ (.int .i64 ((np-nl:Nat):Int))):=k2.setNew (by omega);generalize w2.setCell ⟨rb,2,none⟩ (.int .i64 ((np-nl:Nat):Int))=w3 at b3 k3 ⊢;refine hD.e0 ?_;refine hD.s0 ?_;refine hD.r0 ?_;refine hD.mv (ptr r) hk ?_;refine norm0 (a':=⟨#[v0,.slice g1 np c1,.int .i64 most,bh,x 4,x 5,x 6,x 7,ptr ob,x 9,x 10,ptr r,ptr all,x 13,x 14,x 15,.slice gl nl cl',x 17,x 18,ptr rb,.int .i64 code,x 21,x 22,x 23,x 24,x 25,x 26,x 27,x 28,x 29,x 30,x 31,x 32,x 33,x 34,x 35,x 36,x 37,x 38,x 39,x 40,x 41,x 42,x 43,x 44,x 45,x 46,x 47,x 48,x 49,x 50,x 51,x 52,x 53,x 54,x 55,x 56,x 57,x 58,x 59,x 60,x 61,x 62,x 63,x 64,x 65,x 66,x 67,x 68,x 69,x 70,x 71,x 72,x 73,x 74,x 75,x 76,x 77,x 78,x 79,x 80,x 81,x 82,x 83,x 84,x 85,x 86,x 87,x 88,.tuple #[.agg #[.slice ga na ca,.slice ge ne ce,.int .i64 0],.int .i64 code],x 90,x 91,x 92,x 93,x 94,x 95,x 96,x 97,.tuple #[.agg #[.slice ga na ca,.slice ge ne ce,.int .i64 0],.int .i64 code],.agg #[.slice ga na ca,.slice ge ne ce,.int .i64 0],.int .i64 code,.slice g1 np c1,.int .i64 np,.slice gl nl cl',.int .i64 nl,.int .i64 ((np-nl:Nat):Int),ptrAt rb 2,ptr r,x 108,x 109,x 110,x 111,x 112,x 113,x 114],[]⟩) ?_;refine hD.cf #[ptr r] hk Try.func44 ?_;exact h w3 rb k3 b3 (by omega) _ ⟨fun q9=>(#[v0,.slice g1 np c1,.int .i64 most,bh,x 4,x 5,x 6,x 7,ptr ob,x 9,x 10,ptr r,ptr all,x 13,x 14,x 15,.slice gl nl cl',x 17,x 18,ptr rb,.int .i64 code,x 21,x 22,x 23,x 24,x 25,x 26,x 27,x 28,x 29,x 30,x 31,x 32,x 33,x 34,x 35,x 36,x 37,x 38,x 39,x 40,x 41,x 42,x 43,x 44,x 45,x 46,x 47,x 48,x 49,x 50,x 51,x 52,x 53,x 54,x 55,x 56,x 57,x 58,x 59,x 60,x 61,x 62,x 63,x 64,x 65,x 66,x 67,x 68,x 69,x 70,x 71,x 72,x 73,x 74,x 75,x 76,x 77,x 78,x 79,x 80,x 81,x 82,x 83,x 84,x 85,x 86,x 87,x 88,.tuple #[.agg #[.slice ga na ca,.slice ge ne ce,.int .i64 0],.int .i64 code],x 90,x 91,x 92,x 93,x 94,x 95,x 96,x 97,.tuple #[.agg #[.slice ga na ca,.slice ge ne ce,.int .i64 0],.int .i64 code],.agg #[.slice ga na ca,.slice ge ne ce,.int .i64 0],.int .i64 code,.slice g1 np c1,.int .i64 np,.slice gl nl cl',.int .i64 nl,.int .i64 ((np-nl:Nat):Int),ptrAt rb 2,ptr r,x 108,x 109,x 110,x 111,x 112,x 113,x 114]:Array Value).getD q9 undef,rfl⟩
def watWait (tm:Array Value):Frame:=(base 32).at ⟨tm,[]⟩ [.inRegion (sO (sL (sR (sR (sR (sR (sR (sR (sR (sR (sR (sR c27)))))))))))) [0],.code (sR (sR (sR (sR (sR (sR (sR (sR (sR (sR (sR c27)))))))))))]
theorem wat_wait (hD:Det Try.prog m fun _=>K)(htm:watTm2 ob r all rb code tm)(h:∀ tm,watTm2 ob r all rb code tm→K (gs (watWait tm) cs) w):K (gs ((watUnw tm).finish (.tuple #[])) cs) w:=by
 obtain⟨x,rfl⟩:=htm;have hk:(base 32).kind≠.early:=nofun;unfold watUnw;refine fin0 (some 108) ?_;refine norm0 (a':=⟨#[x 0,x 1,x 2,x 3,x 4,x 5,x 6,x 7,ptr ob,x 9,x 10,ptr r,ptr all,x 13,x 14,x 15,x 16,x 17,x 18,ptr rb,.int .i64 code,x 21,x 22,x 23,x 24,x 25,x 26,x 27,x 28,x 29,x 30,x 31,x 32,x 33,x 34,x 35,x 36,x 37,x 38,x 39,x 40,x 41,x 42,x 43,x 44,x 45,x 46,x 47,x 48,x 49,x 50,x 51,x 52,x 53,x 54,x 55,x 56,x 57,x 58,x 59,x 60,x 61,x 62,x 63,x 64,x 65,x 66,x 67,x 68,x 69,x 70,x 71,x 72,x 73,x 74,x 75,x 76,x 77,x 78,x 79,x 80,x 81,x 82,x 83,x 84,x 85,x 86,x 87,x 88,x 89,x 90,x 91,x 92,x 93,x 94,x 95,x 96,x 97,x 98,x 99,x 100,x 101,x 102,x 103,x 104,x 105,x 106,x 107,.tuple #[],x 109,x 110,x 111,x 112,x 113,x 114],[]⟩) ?_;refine hD.e0 ?_;refine hD.s0 ?_;refine hD.r0 ?_;exact h _ ⟨fun q9=>(#[x 0,x 1,x 2,x 3,x 4,x 5,x 6,x 7,ptr ob,x 9,x 10,ptr r,ptr all,x 13,x 14,x 15,x 16,x 17,x 18,ptr rb,.int .i64 code,x 21,x 22,x 23,x 24,x 25,x 26,x 27,x 28,x 29,x 30,x 31,x 32,x 33,x 34,x 35,x 36,x 37,x 38,x 39,x 40,x 41,x 42,x 43,x 44,x 45,x 46,x 47,x 48,x 49,x 50,x 51,x 52,x 53,x 54,x 55,x 56,x 57,x 58,x 59,x 60,x 61,x 62,x 63,x 64,x 65,x 66,x 67,x 68,x 69,x 70,x 71,x 72,x 73,x 74,x 75,x 76,x 77,x 78,x 79,x 80,x 81,x 82,x 83,x 84,x 85,x 86,x 87,x 88,x 89,x 90,x 91,x 92,x 93,x 94,x 95,x 96,x 97,x 98,x 99,x 100,x 101,x 102,x 103,x 104,x 105,x 106,x 107,.tuple #[],x 109,x 110,x 111,x 112,x 113,x 114]:Array Value).getD q9 undef,rfl⟩
theorem wat_at (htm:watTm2 ob r all rb code tm):CallAt Try.prog (watWait tm) 45 #[ptr all]:=by
 obtain⟨x,rfl⟩:=htm;exact⟨⟨_,_,_,_,_,_,_,rfl,rfl,rfl,rfl,Array.ext' (Array.toList_map.trans rfl),by simp[okO]⟩,rfl,nofun,rfl,rfl⟩
theorem wat_end {ga ge:Option Addr}{na ca ne ce:Nat}{us:Int}{y0 y1 y2 y3 z0 z1 z2:Value}(hD:Det Try.prog m fun _=>K)(hcl:cl.mode=.run)(hr:Pl.Blk w r [y0,y1,y2,y3,.bool false] 86)(hrb:Pl.Blk w rb [.slice ga na ca,.slice ge ne ce,.int .i64 us] 59)(hob:Pl.Blk w ob [z0,z1,z2] 59)(hrbr:rb≠r)(hobr:ob≠r)(htm:watTm2 ob r all rb code tm)(h:∀ w',(∀ b,b≠r→b≠ob→w'.heap[b]?=w.heap[b]?)→w'.heap.size=w.heap.size→Pl.Blk w' r [y0,y1,y2,y3,.bool true] 86→K (gs (cl.finish (.tuple #[.agg #[.slice ga na ca,.slice ge ne ce,.int .i64 us],.int .i64 code])) cs) w'):K (gs ((watWait tm).finish (.tuple #[])) (cl::cs)) w:=by
 obtain⟨x,rfl⟩:=htm;have hk:(base 32).kind≠.early:=nofun;unfold watWait;refine fin0 (some 109) ?_;refine norm0 (a':=⟨#[x 0,x 1,x 2,x 3,x 4,x 5,x 6,x 7,ptr ob,x 9,x 10,ptr r,ptr all,x 13,x 14,x 15,x 16,x 17,x 18,ptr rb,.int .i64 code,x 21,x 22,x 23,x 24,x 25,x 26,x 27,x 28,x 29,x 30,x 31,x 32,x 33,x 34,x 35,x 36,x 37,x 38,x 39,x 40,x 41,x 42,x 43,x 44,x 45,x 46,x 47,x 48,x 49,x 50,x 51,x 52,x 53,x 54,x 55,x 56,x 57,x 58,x 59,x 60,x 61,x 62,x 63,x 64,x 65,x 66,x 67,x 68,x 69,x 70,x 71,x 72,x 73,x 74,x 75,x 76,x 77,x 78,x 79,x 80,x 81,x 82,x 83,x 84,x 85,x 86,x 87,x 88,x 89,x 90,x 91,x 92,x 93,x 94,x 95,x 96,x 97,x 98,x 99,x 100,x 101,x 102,x 103,x 104,x 105,x 106,x 107,x 108,.tuple #[],x 110,x 111,x 112,x 113,x 114],[]⟩) ?_;refine hD.e0 ?_;refine hD.s0 ?_;refine hD.r0 ?_;refine hD.mv (ptr r) hk ?_;refine hD.nc ⟨r,0,none⟩ hk ?_;refine hD.fd (ptrAt r 4) hk (fld86 (by omega)) ?_;refine norm0 (a':=⟨#[x 0,x 1,x 2,x 3,x 4,x 5,x 6,x 7,ptr ob,x 9,x 10,ptr r,ptr all,x 13,x 14,x 15,x 16,x 17,x 18,ptr rb,.int .i64 code,x 21,x 22,x 23,x 24,x 25,x 26,x 27,x 28,x 29,x 30,x 31,x 32,x 33,x 34,x 35,x 36,x 37,x 38,x 39,x 40,x 41,x 42,x 43,x 44,x 45,x 46,x 47,x 48,x 49,x 50,x 51,x 52,x 53,x 54,x 55,x 56,x 57,x 58,x 59,x 60,x 61,x 62,x 63,x 64,x 65,x 66,x 67,x 68,x 69,x 70,x 71,x 72,x 73,x 74,x 75,x 76,x 77,x 78,x 79,x 80,x 81,x 82,x 83,x 84,x 85,x 86,x 87,x 88,x 89,x 90,x 91,x 92,x 93,x 94,x 95,x 96,x 97,x 98,x 99,x 100,x 101,x 102,x 103,x 104,x 105,x 106,x 107,x 108,.tuple #[],ptr r,ptr r,ptrAt r 4,x 113,x 114],[]⟩) ?_;refine hD.store (n:=0) (u:=(ptrAt r 4)) (z:=(.bool true)) hk rfl ⟨rfl,rfl,rfl,rfl,nofun⟩ rfl rfl (fun τ d=>((st4 (w:=re w τ d) (x:=.bool false) (hr.cell 4) (hr.frozen 4)).trans (congrArg (Result.ok ()) re_setCell))) (by rw[World.size_setCell];exact Nat.le_refl _) ?_;have r1:=hr.set 4 (.bool true);have q1:∀ {b},b≠r→(w.setCell ⟨r,4,none⟩ (.bool true)).heap[b]?=w.heap[b]?:=fun h=>setCell_frame h;have s1:(w.setCell ⟨r,4,none⟩ (.bool true)).heap.size=w.heap.size:=World.size_setCell _ _ _;generalize w.setCell ⟨r,4,none⟩ (.bool true)=w1 at r1 q1 s1 ⊢;have bb1:Pl.Blk w1 rb _ 59:=(q1 hrbr).trans hrb;have bo1:Pl.Blk w1 ob _ 59:=(q1 hobr).trans hob;refine hD.e0 ?_;refine hD.s0 ?_;refine hD.r0 ?_;refine hD.ld (.agg #[.slice ga na ca,.slice ge ne ce,.int .i64 us]) hk (fun τ d=>(show(Instr.loadAt 59 (ptr rb)).run Try.prog (re w1 τ d)=_ from ld30 (w:=re w1 τ d) bb1)) ?_;refine hD.mv (.int .i64 code) hk ?_;refine norm0 (a':=⟨#[x 0,x 1,x 2,x 3,x 4,x 5,x 6,x 7,ptr ob,x 9,x 10,ptr r,ptr all,x 13,x 14,x 15,x 16,x 17,x 18,ptr rb,.int .i64 code,x 21,x 22,x 23,x 24,x 25,x 26,x 27,x 28,x 29,x 30,x 31,x 32,x 33,x 34,x 35,x 36,x 37,x 38,x 39,x 40,x 41,x 42,x 43,x 44,x 45,x 46,x 47,x 48,x 49,x 50,x 51,x 52,x 53,x 54,x 55,x 56,x 57,x 58,x 59,x 60,x 61,x 62,x 63,x 64,x 65,x 66,x 67,x 68,x 69,x 70,x 71,x 72,x 73,x 74,x 75,x 76,x 77,x 78,x 79,x 80,x 81,x 82,x 83,x 84,x 85,x 86,x 87,x 88,x 89,x 90,x 91,x 92,x 93,x 94,x 95,x 96,x 97,x 98,x 99,x 100,x 101,x 102,x 103,x 104,x 105,x 106,x 107,x 108,.tuple #[],ptr r,ptr r,ptrAt r 4,.agg #[.slice ga na ca,.slice ge ne ce,.int .i64 us],.int .i64 code],[]⟩) ?_
 refine hD.store (n:=0) (u:=(ptr ob)) (z:=(.agg #[.slice ga na ca,.slice ge ne ce,.int .i64 us])) hk rfl ⟨rfl,rfl,rfl,rfl,nofun⟩ rfl rfl (fun τ d=>((st30 (w:=re w1 τ d) bo1).trans (congrArg (Result.ok ()) re_set3))) (Nat.le_of_eq set3_size.symm) ?_;refine hD.as (.int .i64 code) hk ?_;refine norm0 (a':=⟨#[x 0,x 1,x 2,x 3,x 4,x 5,x 6,x 7,ptr ob,.int .i64 code,x 10,ptr r,ptr all,x 13,x 14,x 15,x 16,x 17,x 18,ptr rb,.int .i64 code,x 21,x 22,x 23,x 24,x 25,x 26,x 27,x 28,x 29,x 30,x 31,x 32,x 33,x 34,x 35,x 36,x 37,x 38,x 39,x 40,x 41,x 42,x 43,x 44,x 45,x 46,x 47,x 48,x 49,x 50,x 51,x 52,x 53,x 54,x 55,x 56,x 57,x 58,x 59,x 60,x 61,x 62,x 63,x 64,x 65,x 66,x 67,x 68,x 69,x 70,x 71,x 72,x 73,x 74,x 75,x 76,x 77,x 78,x 79,x 80,x 81,x 82,x 83,x 84,x 85,x 86,x 87,x 88,x 89,x 90,x 91,x 92,x 93,x 94,x 95,x 96,x 97,x 98,x 99,x 100,x 101,x 102,x 103,x 104,x 105,x 106,x 107,x 108,.tuple #[],ptr r,ptr r,ptrAt r 4,.agg #[.slice ga na ca,.slice ge ne ce,.int .i64 us],.int .i64 code],[]⟩) ?_;have bo2:Pl.Blk (set3 w1 ob (.slice ga na ca) (.slice ge ne ce) (.int .i64 us)) ob _ 59:=set3_blk bo1;have r2:Pl.Blk (set3 w1 ob (.slice ga na ca) (.slice ge ne ce) (.int .i64 us)) r _ 86:=(set3_frame (Ne.symm hobr)).trans r1;have q2:∀ b,b≠r→b≠ob→(set3 w1 ob (.slice ga na ca) (.slice ge ne ce) (.int .i64 us)).heap[b]?=w.heap[b]?:=fun b h1 h2=>(set3_frame h2).trans (q1 h1);have s2:(set3 w1 ob (.slice ga na ca) (.slice ge ne ce) (.int .i64 us)).heap.size=w.heap.size:=set3_size.trans s1;generalize set3 w1 ob (.slice ga na ca) (.slice ge ne ce) (.int .i64 us)=w2 at bo2 r2 q2 s2 ⊢;refine hD.e0 ?_;refine hD.ret (n:=0) ?_;refine hD.leave (n:=0) (b:=base 32) (a:=⟨#[x 0,x 1,x 2,x 3,x 4,x 5,x 6,x 7,ptr ob,.int .i64 code,x 10,ptr r,ptr all,x 13,x 14,x 15,x 16,x 17,x 18,ptr rb,.int .i64 code,x 21,x 22,x 23,x 24,x 25,x 26,x 27,x 28,x 29,x 30,x 31,x 32,x 33,x 34,x 35,x 36,x 37,x 38,x 39,x 40,x 41,x 42,x 43,x 44,x 45,x 46,x 47,x 48,x 49,x 50,x 51,x 52,x 53,x 54,x 55,x 56,x 57,x 58,x 59,x 60,x 61,x 62,x 63,x 64,x 65,x 66,x 67,x 68,x 69,x 70,x 71,x 72,x 73,x 74,x 75,x 76,x 77,x 78,x 79,x 80,x 81,x 82,x 83,x 84,x 85,x 86,x 87,x 88,x 89,x 90,x 91,x 92,x 93,x 94,x 95,x 96,x 97,x 98,x 99,x 100,x 101,x 102,x 103,x 104,x 105,x 106,x 107,x 108,.tuple #[],ptr r,ptr r,ptrAt r 4,.agg #[.slice ga na ca,.slice ge ne ce,.int .i64 us],.int .i64 code],[]⟩) (v:=.tuple #[.agg #[.slice ga na ca,.slice ge ne ce,.int .i64 us],.int .i64 code]) rfl rfl Try.func32 (fun τ d=>results_c30 (fn:=Try.f32) (a:=8) (t:=9) (tmps:=#[x 0,x 1,x 2,x 3,x 4,x 5,x 6,x 7,ptr ob,.int .i64 code,x 10,ptr r,ptr all,x 13,x 14,x 15,x 16,x 17,x 18,ptr rb,.int .i64 code,x 21,x 22,x 23,x 24,x 25,x 26,x 27,x 28,x 29,x 30,x 31,x 32,x 33,x 34,x 35,x 36,x 37,x 38,x 39,x 40,x 41,x 42,x 43,x 44,x 45,x 46,x 47,x 48,x 49,x 50,x 51,x 52,x 53,x 54,x 55,x 56,x 57,x 58,x 59,x 60,x 61,x 62,x 63,x 64,x 65,x 66,x 67,x 68,x 69,x 70,x 71,x 72,x 73,x 74,x 75,x 76,x 77,x 78,x 79,x 80,x 81,x 82,x 83,x 84,x 85,x 86,x 87,x 88,x 89,x 90,x 91,x 92,x 93,x 94,x 95,x 96,x 97,x 98,x 99,x 100,x 101,x 102,x 103,x 104,x 105,x 106,x 107,x 108,.tuple #[],ptr r,ptr r,ptrAt r 4,.agg #[.slice ga na ca,.slice ge ne ce,.int .i64 us],.int .i64 code]) (w:=re w2 τ d) rfl rfl bo2) hcl ?_
 exact h w2 q2 s2 r2
end Go.Proofs.Ytfbjopkiicmiiaa.Lift
namespace Go.Proofs.Ytfbjopkiicmiiaa.Lift
open Go Go.Conc
open Go.ConcN (sumTo upd sumTo_upd upd_ne upd_same WgLive)
def isDone {L:Type}:TS L→Bool
 | .done=>true
 | _=>false
def donesOf {L:Type}(n:Nat)(st:Nat→TS L):List Bool:=(List.range n).map fun i=>isDone (st i)
section
variable {L A:Type}(B:Bods L A)(C:WC)
structure WatEnd (S S':SC)(st:Nat→TS L)(acts:List Nat)(ga:Option Addr)(ca:Nat)(a:A)(X:Nat→Prop)(ob:Nat)(ve:Value)(cut:Bool):Prop where
 roles:∀ j,S'.role j=.none
 grps:∀ j,S'.grp j=none
 num:S'.n=S.n
 n0:S'.n0=S.n0
 W0:S'.W0=S.W0
 actsv:RepU S'.w (.slice ga acts.length ca) acts
 ends:RepE S'.w ve (endsM cut (donesOf C.n st))
 mem:B.mem a st X S'.w
 run:Cel S'.w C.r [.slice (some ⟨C.gb,0,none⟩) C.n C.cb,.slice (some ⟨C.st,0,none⟩) C.n C.n,.chan (some C.k),.slice ga acts.length ca,.bool true] 86
 bts:∀ i,i<C.n→st i=.done→Cel S'.w (C.bt i) [ptr C.r,.int .i64 i,.chan (some (C.ch i)),.bool false] 79
 size:S.w.heap.size≤S'.w.heap.size
 block:∀ b,b<S.w.heap.size→¬ allOf X C (.slice ga acts.length ca) b→b≠ob→S'.w.heap[b]?=S.w.heap[b]?
 vef:∀ b∈Pl.fp ve,S.w.heap.size≤b
end
section
variable {L A:Type}{B:Bods L A}{C:WC}{Post:Value→World→Prop}{S:SC}{st:Nat→TS L}{a:A}{X:Nat→Prop}{acts:List Nat}{ca:Nat}{ga:Option Addr}{cl:Frame}{cs:List Frame}{tm:Array Value}{v0 bh:Value}{most:Int}{ob:Nat}
theorem all_lt (hB:BOk B C){rz:Nat × Nat}{u:Nat}{w:World}(hr:WMem C st acts ga ca rz u w)(hm:B.mem a st X w):∀ b,allOf X C (.slice ga acts.length ca) b→b<w.heap.size:=fun b hb=>by
 rcases hb with hb | hb
 ·exact hB.bound hm hb
 ·rcases hb with e | e | e | e | ⟨j,hj,e⟩
  ·have:=(aq' hr.r).1;omega
  ·obtain⟨cells,q,_⟩:=hr.gb;have:=q.lt;omega
  ·have:=hr.stn.lt;omega
  ·exact hr.rep.fp_lt b e
  ·have:=hr.room j hj;omega
theorem donesOf_get {n:Nat}{st:Nat→TS L}{j:Nat}{d:Bool}(h:(donesOf n st)[j]?=some d):j<n∧d=isDone (st j):=by
 unfold donesOf at h;rw[List.getElem?_map] at h;have hj:j<n:=by
  apply Classical.byContradiction;intro hn;rw[List.getElem?_eq_none (by simp;omega)] at h;cases h
 rw[List.getElem?_range hj] at h;exact⟨hj,(oj' h).symm⟩
theorem wat_tail (hB:BOk B C)(hC:C.Ok)(hcl:cl.mode=.run)(M:MainAt B C S st acts ga ca a X){g1 gl:Option Addr}{np c1 nl cl':Nat}{z0 z1 z2:Value}(hob:Pl.Blk S.w ob [z0,z1,z2] 59)(hnz:¬ allOf X C (.slice ga acts.length ca) ob)(hle:nl≤np)(hnp:np<4611686018427387904)
  (htm:watTm v0 (.slice g1 np c1) most bh ob C.r C.all (.slice gl nl cl') tm)
  (hnext:∀ S' ge ne ce,WatEnd B C S S' st acts ga ca a X ob (.slice ge ne ce) (decide (most≤(acts.length:Int))) →
   Sound Try.prog link.tWg Post 0 S' (gs (cl.finish (.tuple #[.agg #[.slice ga acts.length ca,.slice ge ne ce,.int .i64 ((np-nl:Nat):Int)],.int .i64 (codeM (decide (most≤(acts.length:Int))) (donesOf C.n st))])) cs)) :
  Sound Try.prog link.tWg Post 0 S (gs (watOut tm) (cl::cs)):=by
 have hg0:=hC.g0;have hK:=clS (Post:=Post) S;have hM:=M.mem;have hlt:=all_lt hB hM M.bods;refine ks (S:=S) (wat_told hK.det (na:=acts.length) ⟨_,hM.r⟩ htm fun tm1 htm1=>?_) rfl;generalize hcut:decide (most≤(acts.length:Int))=cut at hnext ⊢;refine hK.call fits shut (f:=43) rfl (R:=fun v' w'=>∃ ge ne ce,v'=.tuple #[.agg #[.slice ga acts.length ca,.slice ge ne ce,.int .i64 0],.int .i64 (codeM cut (donesOf C.n st))]∧RepE w' (.slice ge ne ce) (endsM cut (donesOf C.n st))∧Kp [] S.w w'∧∀ b∈Pl.fp (.slice ge ne ce),S.w.heap.size≤b)
  (fun v' w' τ d ⟨ge,ne,ce,h1,h2,h3,h4⟩=>⟨ge,ne,ce,h1,h2,⟨h3.size,h3.block⟩,h4⟩) (fun τ d=>?_) ?_
 ·refine(told_calls (Lift.re S.w τ d) C.r C.st C.n ca C.n _ _ ga acts.length (donesOf C.n st) cut ⟨_,hM.r⟩ (by simp[donesOf]) hC.n8 (fun j dd hj=>?_) hM.stn.lt).mono fun e w' h=>?_
  ·obtain⟨hjn,rfl⟩:=donesOf_get hj
   have hc:∀ c,c<4→S.w.cell? ⟨C.st,j*4+c,none⟩=(standOf (st j))[c]?:=fun c hc=>(hM.stn.cell (j*4+c)).trans (standsOf_get hjn hc);cases e:st j with
   | fresh =>
    rw[e] at hc;exact⟨_,_,.inl rfl,hc 0 (by omega),hc 1 (by omega),hc 2 (by omega),hc 3 (by omega)⟩
   | done =>
    rw[e] at hc;exact⟨_,_,.inl rfl,hc 0 (by omega),hc 1 (by omega),hc 2 (by omega),hc 3 (by omega)⟩
   | susp l rv =>
    rw[e] at hc;refine⟨_,rv,?_,hc 0 (by omega),hc 1 (by omega),hc 2 (by omega),hc 3 (by omega)⟩;rcases hB.ready M.bods hjn e with⟨rfl,_⟩ | ⟨f,bd,cap,_,_,rfl,_⟩
    ·exact .inl rfl
    ·exact .inr ⟨_,_,_,rfl⟩
  ·obtain⟨ve,h1,h2,h3,h4⟩:=h
   obtain⟨ge,ce,rfl,_,_,_⟩:=h2.form;exact⟨_,h1,ge,_,ce,rfl,h2,⟨(Keeps.kp h3).size,(Keeps.kp h3).block⟩,h4⟩
 ·rintro _ w1 ⟨ge,ne,ce,rfl,hre,k1,hfe⟩
  refine wat_used hK.det hle hnp htm1 fun w2 rb k2 hrb hrbl tm2 htm2=>?_;have k12:=k1.trans k2;have M2:=M.kx hB k12;show Sound Try.prog link.tWg Post 0 { S with w:=w2} _;have hK2:=clS (Post:=Post) ({S with w:=w2});refine ks (S:={S with w:=w2}) (unw_to hK2.det ⟨_,M2.mem.r⟩ fun tm3 htm3=>?_) rfl;refine unw_all hB hC rfl (C.n-0) 0 { S with w:=w2} tm3 rfl (Nat.zero_le _) M2.unw htm3 fun S3 M3 R3=>?_;have hK3:=clS (Post:=Post) S3;refine ks (S:=S3) (wat_wait hK3.det htm2 fun tm4 htm4=>?_) rfl;have hdone:∀ i,i<C.n→doneTo C.n st i=.done:=fun i hi=>if_pos hi;have hrole:∀ j,S3.role j=.none∨S3.role j=.doner C.all:=fun j=>by
   by_cases e:∃ k,k<C.n∧j=C.g0+k
   ·obtain⟨k,hk,rfl⟩:=e
    exact .inr (M3.seats.done k hk (by omega) (hdone k hk))
   ·by_cases e0:j=0
    ·subst e0;exact .inl M3.role
    ·exact .inl (M3.seats.old j (by omega) fun k hk he=>e ⟨k,hk,he⟩)
  show Sound Try.prog link.tWg Post 0 S3 _;refine sound_into fits (wat_at htm4) (sound_wait (L:=link) (S:=S3) (b:=C.all) wgLib fits ⟨M3.seats.wgs,M3.seats.pend,fun j s e=>?_,fun j x e=>?_,fun j e=>?_,M3.role,by rw[M3.seats.n];omega⟩ ?_)
  ·rcases hrole j with h | h<;>(rw[h] at e;cases e)
  ·rcases hrole j with h | h
   ·rw[h] at e;cases e
   ·rw[h] at e;cases e;rfl
  ·obtain⟨k,hk,rfl⟩:=(M3.seats.grp j).1 e
   exact M3.seats.done k hk (by omega) (hdone k hk)
  ·have hK5:=clS (Post:=Post) (S3.calm C.all)
   have hs02:S.w.heap.size≤w2.heap.size:=k12.size;have hobl:ob<S.w.heap.size:=hob.lt;have hrb_n:¬ allOf X C (.slice ga acts.length ca) rb:=fun h=>by have:=hlt rb h;have:=k1.size;omega
   have hrb3:Pl.Blk S3.w rb _ 59:=(R3.kx.block rb hrb.lt hrb_n).trans hrb;have hob3:Pl.Blk S3.w ob _ 59:=(R3.kx.block ob (nl' hobl hs02) hnz).trans ((k12.block ob hobl (by simp)).trans hob);have hrY:allOf X C (.slice ga acts.length ca) C.r:=.inr (.inl rfl);refine ks (S:=S3.calm C.all) (wat_end hK5.det hcl (M3.mem.r:Pl.Blk S3.w C.r _ 86) hrb3 hob3 (fun e=>hrb_n (e▸hrY)) (fun e=>hnz (e▸hrY)) htm4 fun w4 hq hs4 hr4=>?_) rfl;show Sound Try.prog link.tWg Post 0 ({(S3.calm C.all) with w:=w4}:SC) _;have hs3:w2.heap.size≤S3.w.heap.size:=R3.kx.size;refine hnext _ ge ne ce ⟨fun j=>rfl,fun j=>?_,?_,?_,?_,?_,?_,?_,⟨_,hr4⟩,fun i hi e=>?_,?_,fun b hb hn hne=>?_,hfe⟩
   ·show(if S3.grp j=some C.all then none else S3.grp j)=none
    rcases M3.seats.grn j with h | h
    ·rw[h];simp
    ·rw[if_pos h]
   ·exact M3.seats.n.trans M.seats.n.symm
   ·exact R3.n0
   ·exact R3.W0
   ·exact rep_same M3.mem.rep (Nat.le_of_eq hs4.symm) fun b hb=>hq b (M.mem.sep b hb).1 fun e=>hnz (e▸.inr (.inr (.inr (.inr (.inl hb)))))
   ·have h1:RepE w2 (.slice ge ne ce) _:=rep_same hre k2.size fun b hb=>k2.block b (hre.fp_lt b hb) (by simp)
    refine rep_same h1 (by show w2.heap.size≤w4.heap.size;omega) fun b hb=>?_;have hbl:=h1.fp_lt b hb;have hbn:¬ allOf X C (.slice ga acts.length ca) b:=fun h=>by have:=hlt b h;have:=hfe b hb;omega
    exact(hq b (fun e=>hbn (e▸hrY)) fun e=>by have:=hfe b hb;omega).trans (R3.kx.block b hbl hbn)
   ·exact hB.frame M3.bods (fun b hb=>hq b (fun e=>M3.apart b hb (.inl e)) fun e=>hnz (e▸.inl hb)) (Nat.le_of_eq hs4.symm)
   ·have h3:=M3.bts i hi e
    exact⟨_,(hq _ (hC.btr i hi) fun e'=>hnz (e'▸.inr (.inr (.inr (.inr (.inr ⟨i,hi,.inl rfl⟩)))))).trans h3⟩
   ·show S.w.heap.size≤w4.heap.size;omega
   ·exact(hq b (fun e=>hn (e▸hrY)) hne).trans ((R3.kx.block b (nl' hb hs02) hn).trans (k12.block b hb (by simp)))
end
end Go.Proofs.Ytfbjopkiicmiiaa.Lift
namespace Go.Proofs.Ytfbjopkiicmiiaa.Lift
open Go Go.Conc Go.RowKit
theorem info77:(Try.prog.info? 72).map (fun i=>(i.zero,i.size,i.bytes))=some (some (stopV false false false .nilFunc),4,16):=by kernel_rfl
theorem mkc84:∀ w:World,(Instr.makeChan 84 (.int .i64 0)).run Try.prog w=.ok (.chan (some w.heap.size)) (w.alloc (.chan 0 #[] false 0 0 false)):=fun w=>by
 simp[go_sem,Instr.makeChan,Try.underlying84,Try.runUnderlying84]
theorem mkc79:∀ w:World,(Instr.makeChan 77 (.int .i64 0)).run Try.prog w=.ok (.chan (some w.heap.size)) (w.alloc (.chan 0 #[] false 0 0 false)):=fun w=>by
 simp[go_sem,Instr.makeChan,Try.underlying77,Try.runUnderlying77]
theorem bx86 {st k n c:Nat}:∀ w:World,(Instr.box 86 (.agg #[.slice none 0 0,.slice (some ⟨st,0,none⟩) n c,.chan (some k),.slice none 0 0,.bool false])).run Try.prog w=.ok (ptr w.heap.size) (w.alloc (.cells #[.slice none 0 0,.slice (some ⟨st,0,none⟩) n c,.chan (some k),.slice none 0 0,.bool false] 86)):=fun w=>by
 simp[go_sem,Try.underlying86,Try.runUnderlying86,Try.sizeOf86,Try.isAgg86,Try.zeroValue86]
theorem bx81 {r j c:Nat}:∀ w:World,(Instr.box 79 (.agg #[ptr r,.int .i64 j,.chan (some c),.bool false])).run Try.prog w=.ok (ptr w.heap.size) (w.alloc (.cells #[ptr r,.int .i64 j,.chan (some c),.bool false] 79)):=fun w=>by
 simp[go_sem,Try.underlying79,Try.runUnderlying79,Try.sizeOf79,Try.isAgg79,Try.zeroValue79]
theorem al98:∀ w:World,(Instr.alloc 95 true (.tuple #[])).run Try.prog w=.ok (ptr w.heap.size) (w.alloc (Go.ConcR.wgBlock 95 0 0)):=fun w=>by
 simp[go_sem,Go.ConcR.wgBlock,Try.underlying95,Try.runUnderlying95,Try.sizeOf95,Try.isAgg95,Try.zeroValue95]
theorem fresh_cells {L:Type}(n:Nat):(List.replicate n 0).flatMap (fun _:Nat=>([.bool false,.bool false,.bool false,.nilFunc]:List Value))=standsOf n (fun _=>(.fresh:TS L)):=by
 induction n with
 | zero=>rfl
 | succ n ih=>rw[standsOf_succ,← ih,List.replicate_succ',List.flatMap_append];simp[standOf]
theorem mk83 {L:Type}{n:Nat}(hn:n≤8)(w:World):(Instr.makeSlice 83 (.int .i64 n) (.int .i64 n)).run Try.prog w=.ok (.slice (some ⟨w.heap.size,0,none⟩) n n) (w.alloc (.cells (standsOf n (fun _=>(.fresh:TS L))).toArray 72)):=by
 obtain⟨i,hi,hzz⟩:=Option.map_eq_some_iff.1 info77;simp only[Prod.mk.injEq] at hzz;obtain⟨hz,hs,hb⟩:=hzz;have hrun:=run_make (P:=Try.prog) w 83 72 i _ Try.underlying83 hi hz .i64 .i64 n n (by omega) (Int.le_refl _) (by rw[hb];omega) (by omega);simp only[Int.toNat_natCast,hs] at hrun;rw[hrun];have h1:=Pl.made_eq (α:=Nat) (fun _=>[.bool false,.bool false,.bool false,.nilFunc]) 0 #[Value.bool false,.bool false,.bool false,.nilFunc] rfl (by decide) n;rw[fresh_cells (L:=L) n] at h1;exact congrArg (fun z=>Result.ok (Value.slice (some ⟨w.heap.size,0,none⟩) n n) (w.alloc (.cells z 72))) h1
theorem pu_build86 {a:Act}{oo:Oper}{w:World}{x y:Operand}{st k n c:Nat}(h:oo.op=.build 86 #[(1,x),(2,y)])(hx:a.eval x=.slice (some ⟨st,0,none⟩) n c)(hy:a.eval y=.chan (some k)):(execOp a.eval oo).run Try.prog w=.ok (.value (.agg #[.slice none 0 0,.slice (some ⟨st,0,none⟩) n c,.chan (some k),.slice none 0 0,.bool false])) w:=by
 unfold execOp;rw[h];generalize a.eval=ρ at hx hy ⊢;exact run_vv (by simp[go_sem,hx,hy,Try.underlying86,Try.runUnderlying86,Try.sizeOf86,Try.zeroValue86,Try.sizeOf82,Try.sizeOf83,Try.sizeOf84,Try.sizeOf56,Try.sizeOf4])
theorem pu_build81 {a:Act}{oo:Oper}{w:World}{x y z:Operand}{r j c:Nat}(h:oo.op=.build 79 #[(0,x),(1,y),(2,z)])(hx:a.eval x=ptr r)(hy:a.eval y=.int .i64 j)(hz:a.eval z=.chan (some c)):(execOp a.eval oo).run Try.prog w=.ok (.value (.agg #[ptr r,.int .i64 j,.chan (some c),.bool false])) w:=by
 unfold execOp;rw[h];generalize a.eval=ρ at hx hy hz ⊢;exact run_vv (by simp[go_sem,hx,hy,hz,Try.underlying79,Try.runUnderlying79,Try.sizeOf79,Try.zeroValue79,Try.sizeOf76,Try.sizeOf3,Try.sizeOf77,Try.sizeOf4])
theorem pu_ne31 {a:Act}{oo:Oper}{w:World}{x:Operand}{i:Int}(h:oo.op=.binOp .neq 53 x (.const (.int .i64 0)) 53)(hx:a.eval x=.int .i64 i):(execOp a.eval oo).run Try.prog w=.ok (.value (.bool (decide (i≠0)))) w:=by
 unfold execOp;rw[h];simp only[hx];rw[show a.eval (.const (.int .i64 0))=.int .i64 0 from rfl];exact run_vv (by simp[go_sem,Try.underlying53,Try.runUnderlying53,bne,BEq.beq])
theorem pu_build30 {a:Act}{oo:Oper}{w:World}(h:oo.op=.build 59 #[]):(execOp a.eval oo).run Try.prog w=.ok (.value (.agg #[.slice none 0 0,.slice none 0 0,.int .i64 0])) w:=by
 unfold execOp;rw[h];exact run_vv (by simp[go_sem,Try.underlying59,Try.runUnderlying59,Try.sizeOf59,Try.zeroValue59])
theorem x_mkslice {L:Type}{a:Act}{oo:Oper}{w:World}{x y:Operand}{n:Nat}(h:oo.op=.makeSlice 83 x y)(hx:a.eval x=.int .i64 n)(hy:a.eval y=.int .i64 n)(hn:n≤8):(execOp a.eval oo).run Try.prog w=.ok (.value (.slice (some ⟨w.heap.size,0,none⟩) n n)) (w.alloc (.cells (standsOf n (fun _=>(.fresh:TS L))).toArray 72)):=by
 unfold execOp;rw[h];generalize a.eval=ρ at hx hy ⊢;simp only[hx,hy];exact run_vv (mk83 hn w)
theorem x_mkc84 {a:Act}{oo:Oper}{w:World}(h:oo.op=.makeChan 84 (.const (.int .i64 0))):(execOp a.eval oo).run Try.prog w=.ok (.value (.chan (some w.heap.size))) (w.alloc (.chan 0 #[] false 0 0 false)):=by
 unfold execOp;rw[h];exact run_vv (mkc84 w)
theorem x_mkc79 {a:Act}{oo:Oper}{w:World}(h:oo.op=.makeChan 77 (.const (.int .i64 0))):(execOp a.eval oo).run Try.prog w=.ok (.value (.chan (some w.heap.size))) (w.alloc (.chan 0 #[] false 0 0 false)):=by
 unfold execOp;rw[h];exact run_vv (mkc79 w)
theorem ix50 {n c b o j:Nat}(hj:j<n):∀ w,(Instr.indexAt 62 (.slice (some ⟨b,o,none⟩) n c) (.int .i64 j)).run Try.prog w=.ok (.pointer (some ⟨b,o+j,none⟩)) w:=fun w=>by
 simp[go_sem,Try.underlying62,Try.runUnderlying62,Try.sizeOf62,Try.isAgg62,hj,Try.sizeOf55]
theorem ld54' {w:World}{a:Addr}{v:Value}(hc:w.cell? a=some v):(Instr.loadAt 55 (.pointer (some a))).run Try.prog w=.ok v w:=ld54 hc
variable {K:Goroutine→World→Prop}{m:Bool}{w:World}{cs:List Frame}{v1 bh:Value}{most:Int}{ob r all i:Nat}{tm:Array Value}{cl:Frame}{g0:Option Addr}{n c0:Nat}
theorem enter27 {x0 x1 x2 x3:Value}:Frame.enter Try.prog 32 #[x0,x1,x2,x3] .normal=(base 32).at ⟨#[x0,x1,x2,x3,uu,uu,uu,uu,uu,uu,uu,uu,uu,uu,uu,uu,uu,uu,uu,uu,uu,uu,uu,uu,uu,uu,uu,uu,uu,uu,uu,uu,uu,uu,uu,uu,uu,uu,uu,uu,uu,uu,uu,uu,uu,uu,uu,uu,uu,uu,uu,uu,uu,uu,uu,uu,uu,uu,uu,uu,uu,uu,uu,uu,uu,uu,uu,uu,uu,uu,uu,uu,uu,uu,uu,uu,uu,uu,uu,uu,uu,uu,uu,uu,uu,uu,uu,uu,uu,uu,uu,uu,uu,uu,uu,uu,uu,uu,uu,uu,uu,uu,uu,uu,uu,uu,uu,uu,uu,uu,uu,uu,uu,uu,uu],[]⟩ [.code c27]:=enter_lit Try.func32 rfl rfl
def watTm0 (g0:Option Addr)(n c0:Nat)(v1:Value)(most:Int)(bh:Value)(ob:Nat):Array Value:=#[.slice g0 n c0,v1,.int .i64 most,bh,uu,uu,uu,uu,ptr ob,.int .i64 0,uu,uu,uu,uu,uu,uu,uu,uu,uu,uu,uu,.slice g0 n c0,v1,.int .i64 most,uu,uu,uu,uu,uu,uu,uu,uu,uu,uu,uu,uu,uu,uu,uu,uu,uu,uu,uu,uu,uu,uu,uu,uu,uu,uu,uu,uu,uu,uu,uu,uu,uu,uu,uu,uu,uu,uu,uu,uu,uu,uu,uu,uu,uu,uu,uu,uu,uu,uu,uu,uu,uu,uu,uu,uu,uu,uu,uu,uu,uu,uu,uu,uu,uu,uu,uu,uu,uu,uu,uu,uu,uu,uu,uu,uu,uu,uu,uu,uu,uu,uu,uu,uu,uu,uu,uu,uu,uu,uu,uu]
def watFits (tm:Array Value):Frame:=(base 32).at ⟨tm,[]⟩ [.inRegion (sO (sL (sL (sR c27)))) [3,4],.code (sR (sL (sR c27))),.code (sR (sR c27))]
theorem wat_enter (hD:Det Try.prog m fun _=>K)(h:K (gs (Frame.enter Try.prog 37 #[.slice g0 n c0,v1,.int .i64 most] .normal) (watFits (watTm0 g0 n c0 v1 most bh w.heap.size)::cs)) (w.alloc (.cells #[.slice none 0 0,.slice none 0 0,.int .i64 0] 59))):K (gs (Frame.enter Try.prog 32 #[.slice g0 n c0,v1,.int .i64 most,bh] .normal) cs) w:=by
 rw[enter27];have hk:(base 32).kind≠.early:=nofun;refine hD.s0 ?_;refine hD.r0 ?_;obtain⟨ob,hob⟩:∃ ob,ob=w.heap.size:=⟨_,rfl⟩;rw[← hob] at h;refine hD.alloc (n:=0) hk rfl ⟨rfl,rfl,rfl,(by decide +kernel),nofun⟩ al30 ?_;rw[← hob];refine hD.as (.int .i64 0) hk ?_;refine norm0 (a':=⟨#[.slice g0 n c0,v1,.int .i64 most,bh,uu,uu,uu,uu,ptr ob,.int .i64 0,uu,uu,uu,uu,uu,uu,uu,uu,uu,uu,uu,uu,uu,uu,uu,uu,uu,uu,uu,uu,uu,uu,uu,uu,uu,uu,uu,uu,uu,uu,uu,uu,uu,uu,uu,uu,uu,uu,uu,uu,uu,uu,uu,uu,uu,uu,uu,uu,uu,uu,uu,uu,uu,uu,uu,uu,uu,uu,uu,uu,uu,uu,uu,uu,uu,uu,uu,uu,uu,uu,uu,uu,uu,uu,uu,uu,uu,uu,uu,uu,uu,uu,uu,uu,uu,uu,uu,uu,uu,uu,uu,uu,uu,uu,uu,uu,uu,uu,uu,uu,uu,uu,uu,uu,uu],[]⟩) ?_;refine hD.e0 ?_;refine hD.s0 ?_;refine hD.s0 ?_;refine hD.r0 ?_;refine hD.mv (.slice g0 n c0) hk ?_;refine hD.mv v1 hk ?_;refine hD.mv (.int .i64 most) hk ?_;refine norm0 (a':=⟨#[.slice g0 n c0,v1,.int .i64 most,bh,uu,uu,uu,uu,ptr ob,.int .i64 0,uu,uu,uu,uu,uu,uu,uu,uu,uu,uu,uu,.slice g0 n c0,v1,.int .i64 most,uu,uu,uu,uu,uu,uu,uu,uu,uu,uu,uu,uu,uu,uu,uu,uu,uu,uu,uu,uu,uu,uu,uu,uu,uu,uu,uu,uu,uu,uu,uu,uu,uu,uu,uu,uu,uu,uu,uu,uu,uu,uu,uu,uu,uu,uu,uu,uu,uu,uu,uu,uu,uu,uu,uu,uu,uu,uu,uu,uu,uu,uu,uu,uu,uu,uu,uu,uu,uu,uu,uu,uu,uu,uu,uu,uu,uu,uu,uu,uu,uu,uu,uu,uu,uu,uu,uu,uu,uu,uu,uu],[]⟩) ?_;refine hD.cf #[.slice g0 n c0,v1,.int .i64 most] hk Try.func37 ?_;exact h
theorem wat_bad {e:Int}(hD:Det Try.prog m fun _=>K)(hcl:cl.mode=.run)(he:e≠0)(hob:Pl.Blk w ob [.slice none 0 0,.slice none 0 0,.int .i64 0] 59)(h:∀ w',(∀ b,b≠ob→w'.heap[b]?=w.heap[b]?)→w'.heap.size=w.heap.size→K (gs (cl.finish (.tuple #[.agg #[.slice none 0 0,.slice none 0 0,.int .i64 0],.int .i64 e])) cs) w'):K (gs ((watFits (watTm0 g0 n c0 v1 most bh ob)).finish (.int .i64 e)) (cl::cs)) w:=by
 have hk:(base 32).kind≠.early:=nofun;unfold watFits watTm0;refine fin0 (some 24) ?_;refine hD.as (.int .i64 e) hk ?_;refine norm0 (a':=⟨#[.slice g0 n c0,v1,.int .i64 most,bh,uu,uu,uu,uu,ptr ob,.int .i64 0,.int .i64 e,uu,uu,uu,uu,uu,uu,uu,uu,uu,uu,.slice g0 n c0,v1,.int .i64 most,.int .i64 e,uu,uu,uu,uu,uu,uu,uu,uu,uu,uu,uu,uu,uu,uu,uu,uu,uu,uu,uu,uu,uu,uu,uu,uu,uu,uu,uu,uu,uu,uu,uu,uu,uu,uu,uu,uu,uu,uu,uu,uu,uu,uu,uu,uu,uu,uu,uu,uu,uu,uu,uu,uu,uu,uu,uu,uu,uu,uu,uu,uu,uu,uu,uu,uu,uu,uu,uu,uu,uu,uu,uu,uu,uu,uu,uu,uu,uu,uu,uu,uu,uu,uu,uu,uu,uu,uu,uu,uu,uu,uu],[]⟩) ?_;refine hD.e0 ?_;refine hD.s0 ?_;refine hD.r0 ?_;refine hD.mv (.int .i64 e) hk ?_;refine hD.pu (.bool (decide ((e:Int)≠0))) hk (fun w=>pu_ne31 (x:=.tmp 25) rfl rfl) ?_;refine norm0 (a':=⟨#[.slice g0 n c0,v1,.int .i64 most,bh,uu,uu,uu,uu,ptr ob,.int .i64 0,.int .i64 e,uu,uu,uu,uu,uu,uu,uu,uu,uu,uu,.slice g0 n c0,v1,.int .i64 most,.int .i64 e,.int .i64 e,.bool (decide ((e:Int)≠0)),uu,uu,uu,uu,uu,uu,uu,uu,uu,uu,uu,uu,uu,uu,uu,uu,uu,uu,uu,uu,uu,uu,uu,uu,uu,uu,uu,uu,uu,uu,uu,uu,uu,uu,uu,uu,uu,uu,uu,uu,uu,uu,uu,uu,uu,uu,uu,uu,uu,uu,uu,uu,uu,uu,uu,uu,uu,uu,uu,uu,uu,uu,uu,uu,uu,uu,uu,uu,uu,uu,uu,uu,uu,uu,uu,uu,uu,uu,uu,uu,uu,uu,uu,uu,uu,uu,uu,uu],[]⟩) ?_;refine hD.e0 ?_;refine hD.cond (n:=0) true (by show Value.bool (decide (e≠0))=_;rw[decide_eq_true he]) rfl ?_;refine hD.s0 ?_;refine hD.r0 ?_;refine hD.pu (.agg #[.slice none 0 0,.slice none 0 0,.int .i64 0]) hk (fun w=>pu_build30 rfl) ?_;refine hD.mv (.int .i64 e) hk ?_;refine norm0 (a':=⟨#[.slice g0 n c0,v1,.int .i64 most,bh,uu,uu,uu,uu,ptr ob,.int .i64 0,.int .i64 e,uu,uu,uu,uu,uu,uu,uu,uu,uu,uu,.slice g0 n c0,v1,.int .i64 most,.int .i64 e,.int .i64 e,.bool (decide ((e:Int)≠0)),.agg #[.slice none 0 0,.slice none 0 0,.int .i64 0],.int .i64 e,uu,uu,uu,uu,uu,uu,uu,uu,uu,uu,uu,uu,uu,uu,uu,uu,uu,uu,uu,uu,uu,uu,uu,uu,uu,uu,uu,uu,uu,uu,uu,uu,uu,uu,uu,uu,uu,uu,uu,uu,uu,uu,uu,uu,uu,uu,uu,uu,uu,uu,uu,uu,uu,uu,uu,uu,uu,uu,uu,uu,uu,uu,uu,uu,uu,uu,uu,uu,uu,uu,uu,uu,uu,uu,uu,uu,uu,uu,uu,uu,uu,uu,uu,uu,uu,uu],[]⟩) ?_;refine hD.store (n:=0) (u:=(ptr ob)) (z:=(.agg #[.slice none 0 0,.slice none 0 0,.int .i64 0])) hk rfl ⟨rfl,rfl,rfl,rfl,nofun⟩ rfl rfl (fun τ d=>((st30 (w:=re w τ d) hob).trans (congrArg (Result.ok ()) re_set3))) (Nat.le_of_eq set3_size.symm) ?_;refine hD.as (.int .i64 e) hk ?_;refine norm0 (a':=⟨#[.slice g0 n c0,v1,.int .i64 most,bh,uu,uu,uu,uu,ptr ob,.int .i64 e,.int .i64 e,uu,uu,uu,uu,uu,uu,uu,uu,uu,uu,.slice g0 n c0,v1,.int .i64 most,.int .i64 e,.int .i64 e,.bool (decide ((e:Int)≠0)),.agg #[.slice none 0 0,.slice none 0 0,.int .i64 0],.int .i64 e,uu,uu,uu,uu,uu,uu,uu,uu,uu,uu,uu,uu,uu,uu,uu,uu,uu,uu,uu,uu,uu,uu,uu,uu,uu,uu,uu,uu,uu,uu,uu,uu,uu,uu,uu,uu,uu,uu,uu,uu,uu,uu,uu,uu,uu,uu,uu,uu,uu,uu,uu,uu,uu,uu,uu,uu,uu,uu,uu,uu,uu,uu,uu,uu,uu,uu,uu,uu,uu,uu,uu,uu,uu,uu,uu,uu,uu,uu,uu,uu,uu,uu,uu,uu,uu,uu],[]⟩) ?_;have bo2:Pl.Blk (set3 w ob (.slice none 0 0) (.slice none 0 0) (.int .i64 0)) ob _ 59:=set3_blk hob;have k2:∀ b,b≠ob→(set3 w ob (.slice none 0 0) (.slice none 0 0) (.int .i64 0)).heap[b]?=w.heap[b]?:=fun b hb=>set3_frame hb
 have s2:(set3 w ob (.slice none 0 0) (.slice none 0 0) (.int .i64 0)).heap.size=w.heap.size:=set3_size;generalize set3 w ob (.slice none 0 0) (.slice none 0 0) (.int .i64 0)=w2 at bo2 k2 s2 ⊢;refine hD.e0 ?_;refine hD.ret (n:=0) ?_;refine hD.leave (n:=0) (b:=base 32) (a:=⟨#[.slice g0 n c0,v1,.int .i64 most,bh,uu,uu,uu,uu,ptr ob,.int .i64 e,.int .i64 e,uu,uu,uu,uu,uu,uu,uu,uu,uu,uu,.slice g0 n c0,v1,.int .i64 most,.int .i64 e,.int .i64 e,.bool (decide ((e:Int)≠0)),.agg #[.slice none 0 0,.slice none 0 0,.int .i64 0],.int .i64 e,uu,uu,uu,uu,uu,uu,uu,uu,uu,uu,uu,uu,uu,uu,uu,uu,uu,uu,uu,uu,uu,uu,uu,uu,uu,uu,uu,uu,uu,uu,uu,uu,uu,uu,uu,uu,uu,uu,uu,uu,uu,uu,uu,uu,uu,uu,uu,uu,uu,uu,uu,uu,uu,uu,uu,uu,uu,uu,uu,uu,uu,uu,uu,uu,uu,uu,uu,uu,uu,uu,uu,uu,uu,uu,uu,uu,uu,uu,uu,uu,uu,uu,uu,uu,uu,uu],[]⟩) (v:=.tuple #[.agg #[.slice none 0 0,.slice none 0 0,.int .i64 0],.int .i64 e]) rfl rfl Try.func32 (fun τ d=>results_c30 (fn:=Try.f32) (a:=8) (t:=9) (tmps:=#[.slice g0 n c0,v1,.int .i64 most,bh,uu,uu,uu,uu,ptr ob,.int .i64 e,.int .i64 e,uu,uu,uu,uu,uu,uu,uu,uu,uu,uu,.slice g0 n c0,v1,.int .i64 most,.int .i64 e,.int .i64 e,.bool (decide ((e:Int)≠0)),.agg #[.slice none 0 0,.slice none 0 0,.int .i64 0],.int .i64 e,uu,uu,uu,uu,uu,uu,uu,uu,uu,uu,uu,uu,uu,uu,uu,uu,uu,uu,uu,uu,uu,uu,uu,uu,uu,uu,uu,uu,uu,uu,uu,uu,uu,uu,uu,uu,uu,uu,uu,uu,uu,uu,uu,uu,uu,uu,uu,uu,uu,uu,uu,uu,uu,uu,uu,uu,uu,uu,uu,uu,uu,uu,uu,uu,uu,uu,uu,uu,uu,uu,uu,uu,uu,uu,uu,uu,uu,uu,uu,uu,uu,uu,uu,uu,uu,uu]) (w:=re w2 τ d) rfl rfl bo2) hcl ?_;exact h w2 k2 s2
def r4Tm (g0:Option Addr)(n c0:Nat)(v1:Value)(most:Int)(bh:Value)(ob:Nat):Array Value:=#[.slice g0 n c0,v1,.int .i64 most,bh,uu,uu,uu,uu,ptr ob,.int .i64 0,.int .i64 0,uu,uu,uu,uu,uu,uu,uu,uu,uu,uu,.slice g0 n c0,v1,.int .i64 most,.int .i64 0,.int .i64 0,.bool (decide ((0:Int)≠0)),uu,uu,uu,uu,uu,uu,uu,uu,uu,uu,uu,uu,uu,uu,uu,uu,uu,uu,uu,uu,uu,uu,uu,uu,uu,uu,uu,uu,uu,uu,uu,uu,uu,uu,uu,uu,uu,uu,uu,uu,uu,uu,uu,uu,uu,uu,uu,uu,uu,uu,uu,uu,uu,uu,uu,uu,uu,uu,uu,uu,uu,uu,uu,uu,uu,uu,uu,uu,uu,uu,uu,uu,uu,uu,uu,uu,uu,uu,uu,uu,uu,uu,uu,uu,uu,uu,uu,uu]
def r4ops:Array Oper:=sO (sL (sR (sR c27)))
theorem wat_fine (hD:Det Try.prog m fun _=>K)(h:K (gs ((base 32).at ⟨r4Tm g0 n c0 v1 most bh ob,[]⟩ [.code (sL (sR (sR c27))),.code (sR (sR (sR c27)))]) cs) w):K (gs ((watFits (watTm0 g0 n c0 v1 most bh ob)).finish (.int .i64 0)) cs) w:=by
 have hk:(base 32).kind≠.early:=nofun;unfold watFits watTm0;refine fin0 (some 24) ?_;refine hD.as (.int .i64 0) hk ?_;refine norm0 (a':=⟨#[.slice g0 n c0,v1,.int .i64 most,bh,uu,uu,uu,uu,ptr ob,.int .i64 0,.int .i64 0,uu,uu,uu,uu,uu,uu,uu,uu,uu,uu,.slice g0 n c0,v1,.int .i64 most,.int .i64 0,uu,uu,uu,uu,uu,uu,uu,uu,uu,uu,uu,uu,uu,uu,uu,uu,uu,uu,uu,uu,uu,uu,uu,uu,uu,uu,uu,uu,uu,uu,uu,uu,uu,uu,uu,uu,uu,uu,uu,uu,uu,uu,uu,uu,uu,uu,uu,uu,uu,uu,uu,uu,uu,uu,uu,uu,uu,uu,uu,uu,uu,uu,uu,uu,uu,uu,uu,uu,uu,uu,uu,uu,uu,uu,uu,uu,uu,uu,uu,uu,uu,uu,uu,uu,uu,uu,uu,uu,uu,uu],[]⟩) ?_;refine hD.e0 ?_;refine hD.s0 ?_;refine hD.r0 ?_;refine hD.mv (.int .i64 0) hk ?_;refine hD.pu (.bool (decide ((0:Int)≠0))) hk (fun w=>pu_ne31 (x:=.tmp 25) rfl rfl) ?_;refine norm0 (a':=⟨#[.slice g0 n c0,v1,.int .i64 most,bh,uu,uu,uu,uu,ptr ob,.int .i64 0,.int .i64 0,uu,uu,uu,uu,uu,uu,uu,uu,uu,uu,.slice g0 n c0,v1,.int .i64 most,.int .i64 0,.int .i64 0,.bool (decide ((0:Int)≠0)),uu,uu,uu,uu,uu,uu,uu,uu,uu,uu,uu,uu,uu,uu,uu,uu,uu,uu,uu,uu,uu,uu,uu,uu,uu,uu,uu,uu,uu,uu,uu,uu,uu,uu,uu,uu,uu,uu,uu,uu,uu,uu,uu,uu,uu,uu,uu,uu,uu,uu,uu,uu,uu,uu,uu,uu,uu,uu,uu,uu,uu,uu,uu,uu,uu,uu,uu,uu,uu,uu,uu,uu,uu,uu,uu,uu,uu,uu,uu,uu,uu,uu,uu,uu,uu,uu,uu,uu],[]⟩) ?_;refine hD.e0 ?_;refine hD.cond (n:=0) false rfl rfl ?_;refine hD.k0 ?_;refine hD.s0 ?_;exact h
theorem lin_step {ops:Array Oper}{fuel t i:Nat}{listed:Array Bool}{rs:List Nat}(h:Region.ready .any ops listed=rs)(hi:rs[t % rs.length]?=some i):Region.linearise.go .any ops (fuel+1) t listed []=i::Region.linearise.go .any ops fuel (t / rs.length) (listed.setIfInBounds i true) []:=by
 rw[Region.linearise.go];change (match (Region.ready .any ops listed)[t % (Region.ready .any ops listed).length]? with
   | some i=>Region.linearise.go .any ops fuel (t / (Region.ready .any ops listed).length) (listed.setIfInBounds i true) [i]
   | none=>[].reverse)=_
 rw[h,hi];simp only[];rw[linearise_go_acc,List.reverse_singleton,List.singleton_append]
theorem lin_one {ops:Array Oper}{fuel t i:Nat}{listed:Array Bool}(h:Region.ready .any ops listed=[i]):∃ t',Region.linearise.go .any ops (fuel+1) t listed []=i::Region.linearise.go .any ops fuel t' (listed.setIfInBounds i true) [] :=
 ⟨_,lin_step h (by simp[Nat.mod_one])⟩
theorem lin_two {ops:Array Oper}{fuel t i j:Nat}{listed:Array Bool}(h:Region.ready .any ops listed=[i,j]):∃ t',Region.linearise.go .any ops (fuel+1) t listed []=i::Region.linearise.go .any ops fuel t' (listed.setIfInBounds i true) []∨Region.linearise.go .any ops (fuel+1) t listed []=j::Region.linearise.go .any ops fuel t' (listed.setIfInBounds j true) []:=by
 refine⟨t / 2,?_⟩;rcases Nat.mod_two_eq_zero_or_one t with e | e
 ·exact .inl (lin_step h (by show([i,j]:List Nat)[t % 2]?=_;rw[e];rfl))
 ·exact .inr (lin_step h (by show([i,j]:List Nat)[t % 2]?=_;rw[e];rfl))
theorem r4_orders (G:List Nat→Prop)(h0:G [0,1,2,3,4,5,6])(h1:G [0,1,3,2,4,5,6])(h2:G [0,3,1,2,4,5,6])(h3:G [3,0,1,2,4,5,6])(t:Nat):G (Region.linearise .any r4ops t):=by
 show G (Region.linearise.go .any r4ops 7 t #[false,false,false,false,false,false,false] []);obtain⟨t,e | e⟩:=lin_two (ops:=r4ops) (fuel:=6) (t:=t) (listed:=#[false,false,false,false,false,false,false]) (i:=0) (j:=3) (by decide +kernel)
 ·rw[e]
  clear e;obtain⟨t,e | e⟩:=lin_two (ops:=r4ops) (fuel:=5) (t:=t) (listed:=(#[false,false,false,false,false,false,false].setIfInBounds 0 true)) (i:=1) (j:=3) (by decide +kernel)
  ·rw[e]
   clear e;obtain⟨t,e | e⟩:=lin_two (ops:=r4ops) (fuel:=4) (t:=t) (listed:=((#[false,false,false,false,false,false,false].setIfInBounds 0 true).setIfInBounds 1 true)) (i:=2) (j:=3) (by decide +kernel)
   ·rw[e]
    clear e;obtain⟨t,e⟩:=lin_one (ops:=r4ops) (fuel:=3) (t:=t) (listed:=(((#[false,false,false,false,false,false,false].setIfInBounds 0 true).setIfInBounds 1 true).setIfInBounds 2 true)) (i:=3) (by decide +kernel);rw[e];clear e;obtain⟨t,e⟩:=lin_one (ops:=r4ops) (fuel:=2) (t:=t) (listed:=((((#[false,false,false,false,false,false,false].setIfInBounds 0 true).setIfInBounds 1 true).setIfInBounds 2 true).setIfInBounds 3 true)) (i:=4) (by decide +kernel);rw[e];clear e;obtain⟨t,e⟩:=lin_one (ops:=r4ops) (fuel:=1) (t:=t) (listed:=(((((#[false,false,false,false,false,false,false].setIfInBounds 0 true).setIfInBounds 1 true).setIfInBounds 2 true).setIfInBounds 3 true).setIfInBounds 4 true)) (i:=5) (by decide +kernel);rw[e];clear e;obtain⟨t,e⟩:=lin_one (ops:=r4ops) (fuel:=0) (t:=t) (listed:=((((((#[false,false,false,false,false,false,false].setIfInBounds 0 true).setIfInBounds 1 true).setIfInBounds 2 true).setIfInBounds 3 true).setIfInBounds 4 true).setIfInBounds 5 true)) (i:=6) (by decide +kernel);rw[e];clear e;exact h0
   ·rw[e]
    clear e;obtain⟨t,e⟩:=lin_one (ops:=r4ops) (fuel:=3) (t:=t) (listed:=(((#[false,false,false,false,false,false,false].setIfInBounds 0 true).setIfInBounds 1 true).setIfInBounds 3 true)) (i:=2) (by decide +kernel);rw[e];clear e;obtain⟨t,e⟩:=lin_one (ops:=r4ops) (fuel:=2) (t:=t) (listed:=((((#[false,false,false,false,false,false,false].setIfInBounds 0 true).setIfInBounds 1 true).setIfInBounds 3 true).setIfInBounds 2 true)) (i:=4) (by decide +kernel);rw[e];clear e;obtain⟨t,e⟩:=lin_one (ops:=r4ops) (fuel:=1) (t:=t) (listed:=(((((#[false,false,false,false,false,false,false].setIfInBounds 0 true).setIfInBounds 1 true).setIfInBounds 3 true).setIfInBounds 2 true).setIfInBounds 4 true)) (i:=5) (by decide +kernel);rw[e];clear e;obtain⟨t,e⟩:=lin_one (ops:=r4ops) (fuel:=0) (t:=t) (listed:=((((((#[false,false,false,false,false,false,false].setIfInBounds 0 true).setIfInBounds 1 true).setIfInBounds 3 true).setIfInBounds 2 true).setIfInBounds 4 true).setIfInBounds 5 true)) (i:=6) (by decide +kernel);rw[e];clear e;exact h1
  ·rw[e]
   clear e;obtain⟨t,e⟩:=lin_one (ops:=r4ops) (fuel:=4) (t:=t) (listed:=((#[false,false,false,false,false,false,false].setIfInBounds 0 true).setIfInBounds 3 true)) (i:=1) (by decide +kernel);rw[e];clear e;obtain⟨t,e⟩:=lin_one (ops:=r4ops) (fuel:=3) (t:=t) (listed:=(((#[false,false,false,false,false,false,false].setIfInBounds 0 true).setIfInBounds 3 true).setIfInBounds 1 true)) (i:=2) (by decide +kernel);rw[e];clear e;obtain⟨t,e⟩:=lin_one (ops:=r4ops) (fuel:=2) (t:=t) (listed:=((((#[false,false,false,false,false,false,false].setIfInBounds 0 true).setIfInBounds 3 true).setIfInBounds 1 true).setIfInBounds 2 true)) (i:=4) (by decide +kernel);rw[e];clear e;obtain⟨t,e⟩:=lin_one (ops:=r4ops) (fuel:=1) (t:=t) (listed:=(((((#[false,false,false,false,false,false,false].setIfInBounds 0 true).setIfInBounds 3 true).setIfInBounds 1 true).setIfInBounds 2 true).setIfInBounds 4 true)) (i:=5) (by decide +kernel);rw[e];clear e;obtain⟨t,e⟩:=lin_one (ops:=r4ops) (fuel:=0) (t:=t) (listed:=((((((#[false,false,false,false,false,false,false].setIfInBounds 0 true).setIfInBounds 3 true).setIfInBounds 1 true).setIfInBounds 2 true).setIfInBounds 4 true).setIfInBounds 5 true)) (i:=6) (by decide +kernel);rw[e];clear e;exact h2
 ·rw[e]
  clear e;obtain⟨t,e⟩:=lin_one (ops:=r4ops) (fuel:=5) (t:=t) (listed:=(#[false,false,false,false,false,false,false].setIfInBounds 3 true)) (i:=0) (by decide +kernel);rw[e];clear e;obtain⟨t,e⟩:=lin_one (ops:=r4ops) (fuel:=4) (t:=t) (listed:=((#[false,false,false,false,false,false,false].setIfInBounds 3 true).setIfInBounds 0 true)) (i:=1) (by decide +kernel);rw[e];clear e;obtain⟨t,e⟩:=lin_one (ops:=r4ops) (fuel:=3) (t:=t) (listed:=(((#[false,false,false,false,false,false,false].setIfInBounds 3 true).setIfInBounds 0 true).setIfInBounds 1 true)) (i:=2) (by decide +kernel);rw[e];clear e;obtain⟨t,e⟩:=lin_one (ops:=r4ops) (fuel:=2) (t:=t) (listed:=((((#[false,false,false,false,false,false,false].setIfInBounds 3 true).setIfInBounds 0 true).setIfInBounds 1 true).setIfInBounds 2 true)) (i:=4) (by decide +kernel);rw[e];clear e;obtain⟨t,e⟩:=lin_one (ops:=r4ops) (fuel:=1) (t:=t) (listed:=(((((#[false,false,false,false,false,false,false].setIfInBounds 3 true).setIfInBounds 0 true).setIfInBounds 1 true).setIfInBounds 2 true).setIfInBounds 4 true)) (i:=5) (by decide +kernel);rw[e];clear e;obtain⟨t,e⟩:=lin_one (ops:=r4ops) (fuel:=0) (t:=t) (listed:=((((((#[false,false,false,false,false,false,false].setIfInBounds 3 true).setIfInBounds 0 true).setIfInBounds 1 true).setIfInBounds 2 true).setIfInBounds 4 true).setIfInBounds 5 true)) (i:=6) (by decide +kernel);rw[e];clear e;exact h3
theorem chan_new (w:World)(ob:Obj):(w.alloc ob).heap[w.heap.size]?=some ob:=by
 show(w.heap.push _)[w.heap.size]?=_;simp
def r5Tm (g0:Option Addr)(n c0:Nat)(v1:Value)(most:Int)(bh:Value)(ob st kc r:Nat):Array Value:=#[.slice g0 n c0,v1,.int .i64 most,bh,uu,uu,uu,uu,ptr ob,.int .i64 0,.int .i64 0,ptr r,uu,uu,uu,uu,uu,uu,uu,uu,uu,.slice g0 n c0,v1,.int .i64 most,.int .i64 0,.int .i64 0,.bool (decide ((0:Int)≠0)),uu,uu,.slice g0 n c0,.int .i64 n,.slice (some ⟨st,0,none⟩) n n,.chan (some kc),.agg #[.slice none 0 0,.slice (some ⟨st,0,none⟩) n n,.chan (some kc),.slice none 0 0,.bool false],ptr r,uu,uu,uu,uu,uu,uu,uu,uu,uu,uu,uu,uu,uu,uu,uu,uu,uu,uu,uu,uu,uu,uu,uu,uu,uu,uu,uu,uu,uu,uu,uu,uu,uu,uu,uu,uu,uu,uu,uu,uu,uu,uu,uu,uu,uu,uu,uu,uu,uu,uu,uu,uu,uu,uu,uu,uu,uu,uu,uu,uu,uu,uu,uu,uu,uu,uu,uu,uu,uu,uu,uu,uu,uu,uu,uu,uu,uu,uu,uu,uu]
theorem r4_0 {L:Type}(hD:Det Try.prog m fun _=>K)(hn:n≤8)(h:∀ st kc r w',Kp [] w w'→Pl.Blk w' st (standsOf n (fun _=>(.fresh:TS L))) 72→w'.heap[kc]?=some (.chan 0 #[] false 0 0 false)→Pl.Blk w' r [.slice none 0 0,.slice (some ⟨st,0,none⟩) n n,.chan (some kc),.slice none 0 0,.bool false] 86→w.heap.size≤st→w.heap.size≤kc→w.heap.size≤r→st≠kc→st≠r→kc≠r→∀ tm,tm=r5Tm g0 n c0 v1 most bh ob st kc r→K (gs ((base 32).at ⟨tm,[]⟩ [.code (sR (sR (sR c27)))]) cs) w'):K (gs ((base 32).at ⟨r4Tm g0 n c0 v1 most bh ob,[]⟩ [.inRegion r4ops [0,1,2,3,4,5,6],.code (sR (sR (sR c27)))]) cs) w:=by
 have hk:(base 32).kind≠.early:=nofun;show K (gs ((base 32).at ⟨#[.slice g0 n c0,v1,.int .i64 most,bh,uu,uu,uu,uu,ptr ob,.int .i64 0,.int .i64 0,uu,uu,uu,uu,uu,uu,uu,uu,uu,uu,.slice g0 n c0,v1,.int .i64 most,.int .i64 0,.int .i64 0,.bool (decide ((0:Int)≠0)),uu,uu,uu,uu,uu,uu,uu,uu,uu,uu,uu,uu,uu,uu,uu,uu,uu,uu,uu,uu,uu,uu,uu,uu,uu,uu,uu,uu,uu,uu,uu,uu,uu,uu,uu,uu,uu,uu,uu,uu,uu,uu,uu,uu,uu,uu,uu,uu,uu,uu,uu,uu,uu,uu,uu,uu,uu,uu,uu,uu,uu,uu,uu,uu,uu,uu,uu,uu,uu,uu,uu,uu,uu,uu,uu,uu,uu,uu,uu,uu,uu,uu,uu,uu,uu,uu,uu,uu],[]⟩ [.inRegion r4ops [0,1,2,3,4,5,6],.code (sR (sR (sR c27)))]) cs) w;refine hD.mv (.slice g0 n c0) hk ?_;refine hD.pu (.int .i64 n) hk (fun w=>pu_len (x:=.tmp 29) rfl rfl Try.underlying62) ?_;refine norm0 (a':=⟨#[.slice g0 n c0,v1,.int .i64 most,bh,uu,uu,uu,uu,ptr ob,.int .i64 0,.int .i64 0,uu,uu,uu,uu,uu,uu,uu,uu,uu,uu,.slice g0 n c0,v1,.int .i64 most,.int .i64 0,.int .i64 0,.bool (decide ((0:Int)≠0)),uu,uu,.slice g0 n c0,.int .i64 n,uu,uu,uu,uu,uu,uu,uu,uu,uu,uu,uu,uu,uu,uu,uu,uu,uu,uu,uu,uu,uu,uu,uu,uu,uu,uu,uu,uu,uu,uu,uu,uu,uu,uu,uu,uu,uu,uu,uu,uu,uu,uu,uu,uu,uu,uu,uu,uu,uu,uu,uu,uu,uu,uu,uu,uu,uu,uu,uu,uu,uu,uu,uu,uu,uu,uu,uu,uu,uu,uu,uu,uu,uu,uu,uu,uu,uu,uu,uu,uu,uu,uu,uu,uu],[]⟩) ?_;obtain⟨st,hst⟩:∃ st,st=w.heap.size:=⟨_,rfl⟩;obtain⟨w1,hw1⟩:∃ w',w'=w.alloc (.cells (standsOf n (fun _=>(.fresh:TS L))).toArray 72):=⟨_,rfl⟩;refine hD.opv (n:=0) (v:=.slice (some ⟨st,0,none⟩) n n) (w':=w1) hk rfl ⟨rfl,rfl,rfl,(by decide +kernel),nofun⟩ (fun τ d=>by rw[hst,hw1];exact x_mkslice (L:=L) (w:=re w τ d) rfl rfl rfl hn) (by rw[hw1,wz'];omega) ?_;refine norm0 (a':=⟨#[.slice g0 n c0,v1,.int .i64 most,bh,uu,uu,uu,uu,ptr ob,.int .i64 0,.int .i64 0,uu,uu,uu,uu,uu,uu,uu,uu,uu,uu,.slice g0 n c0,v1,.int .i64 most,.int .i64 0,.int .i64 0,.bool (decide ((0:Int)≠0)),uu,uu,.slice g0 n c0,.int .i64 n,.slice (some ⟨st,0,none⟩) n n,uu,uu,uu,uu,uu,uu,uu,uu,uu,uu,uu,uu,uu,uu,uu,uu,uu,uu,uu,uu,uu,uu,uu,uu,uu,uu,uu,uu,uu,uu,uu,uu,uu,uu,uu,uu,uu,uu,uu,uu,uu,uu,uu,uu,uu,uu,uu,uu,uu,uu,uu,uu,uu,uu,uu,uu,uu,uu,uu,uu,uu,uu,uu,uu,uu,uu,uu,uu,uu,uu,uu,uu,uu,uu,uu,uu,uu,uu,uu,uu,uu,uu,uu],[]⟩) ?_;have bst1:Pl.Blk w1 st (standsOf n (fun _=>(.fresh:TS L))) 72:=by rw[hw1,hst];exact Pl.Blk.new w _ 72
 have sz1:w1.heap.size=w.heap.size+1:=by rw[hw1,wz']
 have k1:Kp [] w w1:=hw1▸Kp.alloc [] w _;obtain⟨kc,hkc⟩:∃ kc,kc=w1.heap.size:=⟨_,rfl⟩;obtain⟨w2,hw2⟩:∃ w',w'=w1.alloc (.chan 0 #[] false 0 0 false):=⟨_,rfl⟩;refine hD.opv (n:=0) (v:=.chan (some kc)) (w':=w2) hk rfl ⟨rfl,rfl,rfl,(by decide +kernel),nofun⟩ (fun τ d=>by rw[hkc,hw2];exact x_mkc84 (w:=re w1 τ d) rfl) (by rw[hw2,wz'];omega) ?_;refine norm0 (a':=⟨#[.slice g0 n c0,v1,.int .i64 most,bh,uu,uu,uu,uu,ptr ob,.int .i64 0,.int .i64 0,uu,uu,uu,uu,uu,uu,uu,uu,uu,uu,.slice g0 n c0,v1,.int .i64 most,.int .i64 0,.int .i64 0,.bool (decide ((0:Int)≠0)),uu,uu,.slice g0 n c0,.int .i64 n,.slice (some ⟨st,0,none⟩) n n,.chan (some kc),uu,uu,uu,uu,uu,uu,uu,uu,uu,uu,uu,uu,uu,uu,uu,uu,uu,uu,uu,uu,uu,uu,uu,uu,uu,uu,uu,uu,uu,uu,uu,uu,uu,uu,uu,uu,uu,uu,uu,uu,uu,uu,uu,uu,uu,uu,uu,uu,uu,uu,uu,uu,uu,uu,uu,uu,uu,uu,uu,uu,uu,uu,uu,uu,uu,uu,uu,uu,uu,uu,uu,uu,uu,uu,uu,uu,uu,uu,uu,uu,uu,uu],[]⟩) ?_;have bkc2:w2.heap[kc]?=some (.chan 0 #[] false 0 0 false):=by rw[hw2,hkc];exact chan_new w1 _
 have sz2:w2.heap.size=w1.heap.size+1:=by rw[hw2,wz']
 have k2:Kp [] w1 w2:=hw2▸Kp.alloc [] w1 _;refine hD.pu (.agg #[.slice none 0 0,.slice (some ⟨st,0,none⟩) n n,.chan (some kc),.slice none 0 0,.bool false]) hk (fun w=>pu_build86 (x:=.tmp 31) (y:=.tmp 32) rfl rfl rfl) ?_;refine norm0 (a':=⟨#[.slice g0 n c0,v1,.int .i64 most,bh,uu,uu,uu,uu,ptr ob,.int .i64 0,.int .i64 0,uu,uu,uu,uu,uu,uu,uu,uu,uu,uu,.slice g0 n c0,v1,.int .i64 most,.int .i64 0,.int .i64 0,.bool (decide ((0:Int)≠0)),uu,uu,.slice g0 n c0,.int .i64 n,.slice (some ⟨st,0,none⟩) n n,.chan (some kc),.agg #[.slice none 0 0,.slice (some ⟨st,0,none⟩) n n,.chan (some kc),.slice none 0 0,.bool false],uu,uu,uu,uu,uu,uu,uu,uu,uu,uu,uu,uu,uu,uu,uu,uu,uu,uu,uu,uu,uu,uu,uu,uu,uu,uu,uu,uu,uu,uu,uu,uu,uu,uu,uu,uu,uu,uu,uu,uu,uu,uu,uu,uu,uu,uu,uu,uu,uu,uu,uu,uu,uu,uu,uu,uu,uu,uu,uu,uu,uu,uu,uu,uu,uu,uu,uu,uu,uu,uu,uu,uu,uu,uu,uu,uu,uu,uu,uu,uu,uu],[]⟩) ?_;obtain⟨r,hr⟩:∃ r,r=w2.heap.size:=⟨_,rfl⟩;obtain⟨w3,hw3⟩:∃ w',w'=w2.alloc (.cells #[.slice none 0 0,.slice (some ⟨st,0,none⟩) n n,.chan (some kc),.slice none 0 0,.bool false] 86):=⟨_,rfl⟩;refine hD.box (n:=0) (u:=(.agg #[.slice none 0 0,.slice (some ⟨st,0,none⟩) n n,.chan (some kc),.slice none 0 0,.bool false])) hk rfl ⟨rfl,rfl,rfl,rfl,nofun⟩ rfl bx86 ?_;rw[← hr,← hw3];refine norm0 (a':=⟨#[.slice g0 n c0,v1,.int .i64 most,bh,uu,uu,uu,uu,ptr ob,.int .i64 0,.int .i64 0,uu,uu,uu,uu,uu,uu,uu,uu,uu,uu,.slice g0 n c0,v1,.int .i64 most,.int .i64 0,.int .i64 0,.bool (decide ((0:Int)≠0)),uu,uu,.slice g0 n c0,.int .i64 n,.slice (some ⟨st,0,none⟩) n n,.chan (some kc),.agg #[.slice none 0 0,.slice (some ⟨st,0,none⟩) n n,.chan (some kc),.slice none 0 0,.bool false],ptr r,uu,uu,uu,uu,uu,uu,uu,uu,uu,uu,uu,uu,uu,uu,uu,uu,uu,uu,uu,uu,uu,uu,uu,uu,uu,uu,uu,uu,uu,uu,uu,uu,uu,uu,uu,uu,uu,uu,uu,uu,uu,uu,uu,uu,uu,uu,uu,uu,uu,uu,uu,uu,uu,uu,uu,uu,uu,uu,uu,uu,uu,uu,uu,uu,uu,uu,uu,uu,uu,uu,uu,uu,uu,uu,uu,uu,uu,uu,uu,uu],[]⟩) ?_;have br:Pl.Blk w3 r [.slice none 0 0,.slice (some ⟨st,0,none⟩) n n,.chan (some kc),.slice none 0 0,.bool false] 86:=by rw[hw3,hr];exact Pl.Blk.new w2 _ 86
 have sz3:w3.heap.size=w2.heap.size+1:=by rw[hw3,wz']
 have k3:Kp [] w2 w3:=hw3▸Kp.alloc [] w2 _;refine hD.as (ptr r) hk ?_;refine norm0 (a':=⟨#[.slice g0 n c0,v1,.int .i64 most,bh,uu,uu,uu,uu,ptr ob,.int .i64 0,.int .i64 0,ptr r,uu,uu,uu,uu,uu,uu,uu,uu,uu,.slice g0 n c0,v1,.int .i64 most,.int .i64 0,.int .i64 0,.bool (decide ((0:Int)≠0)),uu,uu,.slice g0 n c0,.int .i64 n,.slice (some ⟨st,0,none⟩) n n,.chan (some kc),.agg #[.slice none 0 0,.slice (some ⟨st,0,none⟩) n n,.chan (some kc),.slice none 0 0,.bool false],ptr r,uu,uu,uu,uu,uu,uu,uu,uu,uu,uu,uu,uu,uu,uu,uu,uu,uu,uu,uu,uu,uu,uu,uu,uu,uu,uu,uu,uu,uu,uu,uu,uu,uu,uu,uu,uu,uu,uu,uu,uu,uu,uu,uu,uu,uu,uu,uu,uu,uu,uu,uu,uu,uu,uu,uu,uu,uu,uu,uu,uu,uu,uu,uu,uu,uu,uu,uu,uu,uu,uu,uu,uu,uu,uu,uu,uu,uu,uu,uu,uu],[]⟩) ?_;refine hD.e0 ?_;have fst:Pl.Blk w3 st (standsOf n (fun _=>(.fresh:TS L))) 72:=k3.blk (k2.blk bst1 (by simp)) (by simp);have fkc:w3.heap[kc]?=some (.chan 0 #[] false 0 0 false):=(k3.block kc (by omega) (by simp)).trans bkc2;refine h st kc r w3 ((k1.trans k2).trans k3) fst fkc br (by omega) (by omega) (by omega) (by omega) (by omega) (by omega) _ rfl
theorem r4_1 {L:Type}(hD:Det Try.prog m fun _=>K)(hn:n≤8)(h:∀ st kc r w',Kp [] w w'→Pl.Blk w' st (standsOf n (fun _=>(.fresh:TS L))) 72→w'.heap[kc]?=some (.chan 0 #[] false 0 0 false)→Pl.Blk w' r [.slice none 0 0,.slice (some ⟨st,0,none⟩) n n,.chan (some kc),.slice none 0 0,.bool false] 86→w.heap.size≤st→w.heap.size≤kc→w.heap.size≤r→st≠kc→st≠r→kc≠r→∀ tm,tm=r5Tm g0 n c0 v1 most bh ob st kc r→K (gs ((base 32).at ⟨tm,[]⟩ [.code (sR (sR (sR c27)))]) cs) w'):K (gs ((base 32).at ⟨r4Tm g0 n c0 v1 most bh ob,[]⟩ [.inRegion r4ops [0,1,3,2,4,5,6],.code (sR (sR (sR c27)))]) cs) w:=by
 have hk:(base 32).kind≠.early:=nofun;show K (gs ((base 32).at ⟨#[.slice g0 n c0,v1,.int .i64 most,bh,uu,uu,uu,uu,ptr ob,.int .i64 0,.int .i64 0,uu,uu,uu,uu,uu,uu,uu,uu,uu,uu,.slice g0 n c0,v1,.int .i64 most,.int .i64 0,.int .i64 0,.bool (decide ((0:Int)≠0)),uu,uu,uu,uu,uu,uu,uu,uu,uu,uu,uu,uu,uu,uu,uu,uu,uu,uu,uu,uu,uu,uu,uu,uu,uu,uu,uu,uu,uu,uu,uu,uu,uu,uu,uu,uu,uu,uu,uu,uu,uu,uu,uu,uu,uu,uu,uu,uu,uu,uu,uu,uu,uu,uu,uu,uu,uu,uu,uu,uu,uu,uu,uu,uu,uu,uu,uu,uu,uu,uu,uu,uu,uu,uu,uu,uu,uu,uu,uu,uu,uu,uu,uu,uu,uu,uu,uu,uu],[]⟩ [.inRegion r4ops [0,1,3,2,4,5,6],.code (sR (sR (sR c27)))]) cs) w;refine hD.mv (.slice g0 n c0) hk ?_;refine hD.pu (.int .i64 n) hk (fun w=>pu_len (x:=.tmp 29) rfl rfl Try.underlying62) ?_;refine norm0 (a':=⟨#[.slice g0 n c0,v1,.int .i64 most,bh,uu,uu,uu,uu,ptr ob,.int .i64 0,.int .i64 0,uu,uu,uu,uu,uu,uu,uu,uu,uu,uu,.slice g0 n c0,v1,.int .i64 most,.int .i64 0,.int .i64 0,.bool (decide ((0:Int)≠0)),uu,uu,.slice g0 n c0,.int .i64 n,uu,uu,uu,uu,uu,uu,uu,uu,uu,uu,uu,uu,uu,uu,uu,uu,uu,uu,uu,uu,uu,uu,uu,uu,uu,uu,uu,uu,uu,uu,uu,uu,uu,uu,uu,uu,uu,uu,uu,uu,uu,uu,uu,uu,uu,uu,uu,uu,uu,uu,uu,uu,uu,uu,uu,uu,uu,uu,uu,uu,uu,uu,uu,uu,uu,uu,uu,uu,uu,uu,uu,uu,uu,uu,uu,uu,uu,uu,uu,uu,uu,uu,uu,uu],[]⟩) ?_;obtain⟨kc,hkc⟩:∃ kc,kc=w.heap.size:=⟨_,rfl⟩;obtain⟨w1,hw1⟩:∃ w',w'=w.alloc (.chan 0 #[] false 0 0 false):=⟨_,rfl⟩;refine hD.opv (n:=0) (v:=.chan (some kc)) (w':=w1) hk rfl ⟨rfl,rfl,rfl,(by decide +kernel),nofun⟩ (fun τ d=>by rw[hkc,hw1];exact x_mkc84 (w:=re w τ d) rfl) (by rw[hw1,wz'];omega) ?_;refine norm0 (a':=⟨#[.slice g0 n c0,v1,.int .i64 most,bh,uu,uu,uu,uu,ptr ob,.int .i64 0,.int .i64 0,uu,uu,uu,uu,uu,uu,uu,uu,uu,uu,.slice g0 n c0,v1,.int .i64 most,.int .i64 0,.int .i64 0,.bool (decide ((0:Int)≠0)),uu,uu,.slice g0 n c0,.int .i64 n,uu,.chan (some kc),uu,uu,uu,uu,uu,uu,uu,uu,uu,uu,uu,uu,uu,uu,uu,uu,uu,uu,uu,uu,uu,uu,uu,uu,uu,uu,uu,uu,uu,uu,uu,uu,uu,uu,uu,uu,uu,uu,uu,uu,uu,uu,uu,uu,uu,uu,uu,uu,uu,uu,uu,uu,uu,uu,uu,uu,uu,uu,uu,uu,uu,uu,uu,uu,uu,uu,uu,uu,uu,uu,uu,uu,uu,uu,uu,uu,uu,uu,uu,uu,uu,uu],[]⟩) ?_;have bkc1:w1.heap[kc]?=some (.chan 0 #[] false 0 0 false):=by rw[hw1,hkc];exact chan_new w _
 have sz1:w1.heap.size=w.heap.size+1:=by rw[hw1,wz']
 have k1:Kp [] w w1:=hw1▸Kp.alloc [] w _;obtain⟨st,hst⟩:∃ st,st=w1.heap.size:=⟨_,rfl⟩;obtain⟨w2,hw2⟩:∃ w',w'=w1.alloc (.cells (standsOf n (fun _=>(.fresh:TS L))).toArray 72):=⟨_,rfl⟩;refine hD.opv (n:=0) (v:=.slice (some ⟨st,0,none⟩) n n) (w':=w2) hk rfl ⟨rfl,rfl,rfl,(by decide +kernel),nofun⟩ (fun τ d=>by rw[hst,hw2];exact x_mkslice (L:=L) (w:=re w1 τ d) rfl rfl rfl hn) (by rw[hw2,wz'];omega) ?_;refine norm0 (a':=⟨#[.slice g0 n c0,v1,.int .i64 most,bh,uu,uu,uu,uu,ptr ob,.int .i64 0,.int .i64 0,uu,uu,uu,uu,uu,uu,uu,uu,uu,uu,.slice g0 n c0,v1,.int .i64 most,.int .i64 0,.int .i64 0,.bool (decide ((0:Int)≠0)),uu,uu,.slice g0 n c0,.int .i64 n,.slice (some ⟨st,0,none⟩) n n,.chan (some kc),uu,uu,uu,uu,uu,uu,uu,uu,uu,uu,uu,uu,uu,uu,uu,uu,uu,uu,uu,uu,uu,uu,uu,uu,uu,uu,uu,uu,uu,uu,uu,uu,uu,uu,uu,uu,uu,uu,uu,uu,uu,uu,uu,uu,uu,uu,uu,uu,uu,uu,uu,uu,uu,uu,uu,uu,uu,uu,uu,uu,uu,uu,uu,uu,uu,uu,uu,uu,uu,uu,uu,uu,uu,uu,uu,uu,uu,uu,uu,uu,uu,uu],[]⟩) ?_;have bst2:Pl.Blk w2 st (standsOf n (fun _=>(.fresh:TS L))) 72:=by rw[hw2,hst];exact Pl.Blk.new w1 _ 72
 have sz2:w2.heap.size=w1.heap.size+1:=by rw[hw2,wz']
 have k2:Kp [] w1 w2:=hw2▸Kp.alloc [] w1 _;refine hD.pu (.agg #[.slice none 0 0,.slice (some ⟨st,0,none⟩) n n,.chan (some kc),.slice none 0 0,.bool false]) hk (fun w=>pu_build86 (x:=.tmp 31) (y:=.tmp 32) rfl rfl rfl) ?_;refine norm0 (a':=⟨#[.slice g0 n c0,v1,.int .i64 most,bh,uu,uu,uu,uu,ptr ob,.int .i64 0,.int .i64 0,uu,uu,uu,uu,uu,uu,uu,uu,uu,uu,.slice g0 n c0,v1,.int .i64 most,.int .i64 0,.int .i64 0,.bool (decide ((0:Int)≠0)),uu,uu,.slice g0 n c0,.int .i64 n,.slice (some ⟨st,0,none⟩) n n,.chan (some kc),.agg #[.slice none 0 0,.slice (some ⟨st,0,none⟩) n n,.chan (some kc),.slice none 0 0,.bool false],uu,uu,uu,uu,uu,uu,uu,uu,uu,uu,uu,uu,uu,uu,uu,uu,uu,uu,uu,uu,uu,uu,uu,uu,uu,uu,uu,uu,uu,uu,uu,uu,uu,uu,uu,uu,uu,uu,uu,uu,uu,uu,uu,uu,uu,uu,uu,uu,uu,uu,uu,uu,uu,uu,uu,uu,uu,uu,uu,uu,uu,uu,uu,uu,uu,uu,uu,uu,uu,uu,uu,uu,uu,uu,uu,uu,uu,uu,uu,uu,uu],[]⟩) ?_;obtain⟨r,hr⟩:∃ r,r=w2.heap.size:=⟨_,rfl⟩;obtain⟨w3,hw3⟩:∃ w',w'=w2.alloc (.cells #[.slice none 0 0,.slice (some ⟨st,0,none⟩) n n,.chan (some kc),.slice none 0 0,.bool false] 86):=⟨_,rfl⟩;refine hD.box (n:=0) (u:=(.agg #[.slice none 0 0,.slice (some ⟨st,0,none⟩) n n,.chan (some kc),.slice none 0 0,.bool false])) hk rfl ⟨rfl,rfl,rfl,rfl,nofun⟩ rfl bx86 ?_;rw[← hr,← hw3];refine norm0 (a':=⟨#[.slice g0 n c0,v1,.int .i64 most,bh,uu,uu,uu,uu,ptr ob,.int .i64 0,.int .i64 0,uu,uu,uu,uu,uu,uu,uu,uu,uu,uu,.slice g0 n c0,v1,.int .i64 most,.int .i64 0,.int .i64 0,.bool (decide ((0:Int)≠0)),uu,uu,.slice g0 n c0,.int .i64 n,.slice (some ⟨st,0,none⟩) n n,.chan (some kc),.agg #[.slice none 0 0,.slice (some ⟨st,0,none⟩) n n,.chan (some kc),.slice none 0 0,.bool false],ptr r,uu,uu,uu,uu,uu,uu,uu,uu,uu,uu,uu,uu,uu,uu,uu,uu,uu,uu,uu,uu,uu,uu,uu,uu,uu,uu,uu,uu,uu,uu,uu,uu,uu,uu,uu,uu,uu,uu,uu,uu,uu,uu,uu,uu,uu,uu,uu,uu,uu,uu,uu,uu,uu,uu,uu,uu,uu,uu,uu,uu,uu,uu,uu,uu,uu,uu,uu,uu,uu,uu,uu,uu,uu,uu,uu,uu,uu,uu,uu,uu],[]⟩) ?_;have br:Pl.Blk w3 r [.slice none 0 0,.slice (some ⟨st,0,none⟩) n n,.chan (some kc),.slice none 0 0,.bool false] 86:=by rw[hw3,hr];exact Pl.Blk.new w2 _ 86
 have sz3:w3.heap.size=w2.heap.size+1:=by rw[hw3,wz']
 have k3:Kp [] w2 w3:=hw3▸Kp.alloc [] w2 _;refine hD.as (ptr r) hk ?_;refine norm0 (a':=⟨#[.slice g0 n c0,v1,.int .i64 most,bh,uu,uu,uu,uu,ptr ob,.int .i64 0,.int .i64 0,ptr r,uu,uu,uu,uu,uu,uu,uu,uu,uu,.slice g0 n c0,v1,.int .i64 most,.int .i64 0,.int .i64 0,.bool (decide ((0:Int)≠0)),uu,uu,.slice g0 n c0,.int .i64 n,.slice (some ⟨st,0,none⟩) n n,.chan (some kc),.agg #[.slice none 0 0,.slice (some ⟨st,0,none⟩) n n,.chan (some kc),.slice none 0 0,.bool false],ptr r,uu,uu,uu,uu,uu,uu,uu,uu,uu,uu,uu,uu,uu,uu,uu,uu,uu,uu,uu,uu,uu,uu,uu,uu,uu,uu,uu,uu,uu,uu,uu,uu,uu,uu,uu,uu,uu,uu,uu,uu,uu,uu,uu,uu,uu,uu,uu,uu,uu,uu,uu,uu,uu,uu,uu,uu,uu,uu,uu,uu,uu,uu,uu,uu,uu,uu,uu,uu,uu,uu,uu,uu,uu,uu,uu,uu,uu,uu,uu,uu],[]⟩) ?_;refine hD.e0 ?_;have fst:Pl.Blk w3 st (standsOf n (fun _=>(.fresh:TS L))) 72:=k3.blk bst2 (by simp);have fkc:w3.heap[kc]?=some (.chan 0 #[] false 0 0 false):=(k3.block kc (by omega) (by simp)).trans ((k2.block kc (by omega) (by simp)).trans bkc1);refine h st kc r w3 ((k1.trans k2).trans k3) fst fkc br (by omega) (by omega) (by omega) (by omega) (by omega) (by omega) _ rfl
theorem r4_2 {L:Type}(hD:Det Try.prog m fun _=>K)(hn:n≤8)(h:∀ st kc r w',Kp [] w w'→Pl.Blk w' st (standsOf n (fun _=>(.fresh:TS L))) 72→w'.heap[kc]?=some (.chan 0 #[] false 0 0 false)→Pl.Blk w' r [.slice none 0 0,.slice (some ⟨st,0,none⟩) n n,.chan (some kc),.slice none 0 0,.bool false] 86→w.heap.size≤st→w.heap.size≤kc→w.heap.size≤r→st≠kc→st≠r→kc≠r→∀ tm,tm=r5Tm g0 n c0 v1 most bh ob st kc r→K (gs ((base 32).at ⟨tm,[]⟩ [.code (sR (sR (sR c27)))]) cs) w'):K (gs ((base 32).at ⟨r4Tm g0 n c0 v1 most bh ob,[]⟩ [.inRegion r4ops [0,3,1,2,4,5,6],.code (sR (sR (sR c27)))]) cs) w:=by
 have hk:(base 32).kind≠.early:=nofun;show K (gs ((base 32).at ⟨#[.slice g0 n c0,v1,.int .i64 most,bh,uu,uu,uu,uu,ptr ob,.int .i64 0,.int .i64 0,uu,uu,uu,uu,uu,uu,uu,uu,uu,uu,.slice g0 n c0,v1,.int .i64 most,.int .i64 0,.int .i64 0,.bool (decide ((0:Int)≠0)),uu,uu,uu,uu,uu,uu,uu,uu,uu,uu,uu,uu,uu,uu,uu,uu,uu,uu,uu,uu,uu,uu,uu,uu,uu,uu,uu,uu,uu,uu,uu,uu,uu,uu,uu,uu,uu,uu,uu,uu,uu,uu,uu,uu,uu,uu,uu,uu,uu,uu,uu,uu,uu,uu,uu,uu,uu,uu,uu,uu,uu,uu,uu,uu,uu,uu,uu,uu,uu,uu,uu,uu,uu,uu,uu,uu,uu,uu,uu,uu,uu,uu,uu,uu,uu,uu,uu,uu],[]⟩ [.inRegion r4ops [0,3,1,2,4,5,6],.code (sR (sR (sR c27)))]) cs) w;refine hD.mv (.slice g0 n c0) hk ?_;refine norm0 (a':=⟨#[.slice g0 n c0,v1,.int .i64 most,bh,uu,uu,uu,uu,ptr ob,.int .i64 0,.int .i64 0,uu,uu,uu,uu,uu,uu,uu,uu,uu,uu,.slice g0 n c0,v1,.int .i64 most,.int .i64 0,.int .i64 0,.bool (decide ((0:Int)≠0)),uu,uu,.slice g0 n c0,uu,uu,uu,uu,uu,uu,uu,uu,uu,uu,uu,uu,uu,uu,uu,uu,uu,uu,uu,uu,uu,uu,uu,uu,uu,uu,uu,uu,uu,uu,uu,uu,uu,uu,uu,uu,uu,uu,uu,uu,uu,uu,uu,uu,uu,uu,uu,uu,uu,uu,uu,uu,uu,uu,uu,uu,uu,uu,uu,uu,uu,uu,uu,uu,uu,uu,uu,uu,uu,uu,uu,uu,uu,uu,uu,uu,uu,uu,uu,uu,uu,uu,uu,uu,uu],[]⟩) ?_;obtain⟨kc,hkc⟩:∃ kc,kc=w.heap.size:=⟨_,rfl⟩;obtain⟨w1,hw1⟩:∃ w',w'=w.alloc (.chan 0 #[] false 0 0 false):=⟨_,rfl⟩;refine hD.opv (n:=0) (v:=.chan (some kc)) (w':=w1) hk rfl ⟨rfl,rfl,rfl,(by decide +kernel),nofun⟩ (fun τ d=>by rw[hkc,hw1];exact x_mkc84 (w:=re w τ d) rfl) (by rw[hw1,wz'];omega) ?_;refine norm0 (a':=⟨#[.slice g0 n c0,v1,.int .i64 most,bh,uu,uu,uu,uu,ptr ob,.int .i64 0,.int .i64 0,uu,uu,uu,uu,uu,uu,uu,uu,uu,uu,.slice g0 n c0,v1,.int .i64 most,.int .i64 0,.int .i64 0,.bool (decide ((0:Int)≠0)),uu,uu,.slice g0 n c0,uu,uu,.chan (some kc),uu,uu,uu,uu,uu,uu,uu,uu,uu,uu,uu,uu,uu,uu,uu,uu,uu,uu,uu,uu,uu,uu,uu,uu,uu,uu,uu,uu,uu,uu,uu,uu,uu,uu,uu,uu,uu,uu,uu,uu,uu,uu,uu,uu,uu,uu,uu,uu,uu,uu,uu,uu,uu,uu,uu,uu,uu,uu,uu,uu,uu,uu,uu,uu,uu,uu,uu,uu,uu,uu,uu,uu,uu,uu,uu,uu,uu,uu,uu,uu,uu,uu],[]⟩) ?_;have bkc1:w1.heap[kc]?=some (.chan 0 #[] false 0 0 false):=by rw[hw1,hkc];exact chan_new w _
 have sz1:w1.heap.size=w.heap.size+1:=by rw[hw1,wz']
 have k1:Kp [] w w1:=hw1▸Kp.alloc [] w _;refine hD.pu (.int .i64 n) hk (fun w=>pu_len (x:=.tmp 29) rfl rfl Try.underlying62) ?_;refine norm0 (a':=⟨#[.slice g0 n c0,v1,.int .i64 most,bh,uu,uu,uu,uu,ptr ob,.int .i64 0,.int .i64 0,uu,uu,uu,uu,uu,uu,uu,uu,uu,uu,.slice g0 n c0,v1,.int .i64 most,.int .i64 0,.int .i64 0,.bool (decide ((0:Int)≠0)),uu,uu,.slice g0 n c0,.int .i64 n,uu,.chan (some kc),uu,uu,uu,uu,uu,uu,uu,uu,uu,uu,uu,uu,uu,uu,uu,uu,uu,uu,uu,uu,uu,uu,uu,uu,uu,uu,uu,uu,uu,uu,uu,uu,uu,uu,uu,uu,uu,uu,uu,uu,uu,uu,uu,uu,uu,uu,uu,uu,uu,uu,uu,uu,uu,uu,uu,uu,uu,uu,uu,uu,uu,uu,uu,uu,uu,uu,uu,uu,uu,uu,uu,uu,uu,uu,uu,uu,uu,uu,uu,uu,uu,uu],[]⟩) ?_;obtain⟨st,hst⟩:∃ st,st=w1.heap.size:=⟨_,rfl⟩;obtain⟨w2,hw2⟩:∃ w',w'=w1.alloc (.cells (standsOf n (fun _=>(.fresh:TS L))).toArray 72):=⟨_,rfl⟩;refine hD.opv (n:=0) (v:=.slice (some ⟨st,0,none⟩) n n) (w':=w2) hk rfl ⟨rfl,rfl,rfl,(by decide +kernel),nofun⟩ (fun τ d=>by rw[hst,hw2];exact x_mkslice (L:=L) (w:=re w1 τ d) rfl rfl rfl hn) (by rw[hw2,wz'];omega) ?_;refine norm0 (a':=⟨#[.slice g0 n c0,v1,.int .i64 most,bh,uu,uu,uu,uu,ptr ob,.int .i64 0,.int .i64 0,uu,uu,uu,uu,uu,uu,uu,uu,uu,uu,.slice g0 n c0,v1,.int .i64 most,.int .i64 0,.int .i64 0,.bool (decide ((0:Int)≠0)),uu,uu,.slice g0 n c0,.int .i64 n,.slice (some ⟨st,0,none⟩) n n,.chan (some kc),uu,uu,uu,uu,uu,uu,uu,uu,uu,uu,uu,uu,uu,uu,uu,uu,uu,uu,uu,uu,uu,uu,uu,uu,uu,uu,uu,uu,uu,uu,uu,uu,uu,uu,uu,uu,uu,uu,uu,uu,uu,uu,uu,uu,uu,uu,uu,uu,uu,uu,uu,uu,uu,uu,uu,uu,uu,uu,uu,uu,uu,uu,uu,uu,uu,uu,uu,uu,uu,uu,uu,uu,uu,uu,uu,uu,uu,uu,uu,uu,uu,uu],[]⟩) ?_;have bst2:Pl.Blk w2 st (standsOf n (fun _=>(.fresh:TS L))) 72:=by rw[hw2,hst];exact Pl.Blk.new w1 _ 72
 have sz2:w2.heap.size=w1.heap.size+1:=by rw[hw2,wz']
 have k2:Kp [] w1 w2:=hw2▸Kp.alloc [] w1 _;refine hD.pu (.agg #[.slice none 0 0,.slice (some ⟨st,0,none⟩) n n,.chan (some kc),.slice none 0 0,.bool false]) hk (fun w=>pu_build86 (x:=.tmp 31) (y:=.tmp 32) rfl rfl rfl) ?_;refine norm0 (a':=⟨#[.slice g0 n c0,v1,.int .i64 most,bh,uu,uu,uu,uu,ptr ob,.int .i64 0,.int .i64 0,uu,uu,uu,uu,uu,uu,uu,uu,uu,uu,.slice g0 n c0,v1,.int .i64 most,.int .i64 0,.int .i64 0,.bool (decide ((0:Int)≠0)),uu,uu,.slice g0 n c0,.int .i64 n,.slice (some ⟨st,0,none⟩) n n,.chan (some kc),.agg #[.slice none 0 0,.slice (some ⟨st,0,none⟩) n n,.chan (some kc),.slice none 0 0,.bool false],uu,uu,uu,uu,uu,uu,uu,uu,uu,uu,uu,uu,uu,uu,uu,uu,uu,uu,uu,uu,uu,uu,uu,uu,uu,uu,uu,uu,uu,uu,uu,uu,uu,uu,uu,uu,uu,uu,uu,uu,uu,uu,uu,uu,uu,uu,uu,uu,uu,uu,uu,uu,uu,uu,uu,uu,uu,uu,uu,uu,uu,uu,uu,uu,uu,uu,uu,uu,uu,uu,uu,uu,uu,uu,uu,uu,uu,uu,uu,uu,uu],[]⟩) ?_;obtain⟨r,hr⟩:∃ r,r=w2.heap.size:=⟨_,rfl⟩;obtain⟨w3,hw3⟩:∃ w',w'=w2.alloc (.cells #[.slice none 0 0,.slice (some ⟨st,0,none⟩) n n,.chan (some kc),.slice none 0 0,.bool false] 86):=⟨_,rfl⟩;refine hD.box (n:=0) (u:=(.agg #[.slice none 0 0,.slice (some ⟨st,0,none⟩) n n,.chan (some kc),.slice none 0 0,.bool false])) hk rfl ⟨rfl,rfl,rfl,rfl,nofun⟩ rfl bx86 ?_;rw[← hr,← hw3];refine norm0 (a':=⟨#[.slice g0 n c0,v1,.int .i64 most,bh,uu,uu,uu,uu,ptr ob,.int .i64 0,.int .i64 0,uu,uu,uu,uu,uu,uu,uu,uu,uu,uu,.slice g0 n c0,v1,.int .i64 most,.int .i64 0,.int .i64 0,.bool (decide ((0:Int)≠0)),uu,uu,.slice g0 n c0,.int .i64 n,.slice (some ⟨st,0,none⟩) n n,.chan (some kc),.agg #[.slice none 0 0,.slice (some ⟨st,0,none⟩) n n,.chan (some kc),.slice none 0 0,.bool false],ptr r,uu,uu,uu,uu,uu,uu,uu,uu,uu,uu,uu,uu,uu,uu,uu,uu,uu,uu,uu,uu,uu,uu,uu,uu,uu,uu,uu,uu,uu,uu,uu,uu,uu,uu,uu,uu,uu,uu,uu,uu,uu,uu,uu,uu,uu,uu,uu,uu,uu,uu,uu,uu,uu,uu,uu,uu,uu,uu,uu,uu,uu,uu,uu,uu,uu,uu,uu,uu,uu,uu,uu,uu,uu,uu,uu,uu,uu,uu,uu,uu],[]⟩) ?_;have br:Pl.Blk w3 r [.slice none 0 0,.slice (some ⟨st,0,none⟩) n n,.chan (some kc),.slice none 0 0,.bool false] 86:=by rw[hw3,hr];exact Pl.Blk.new w2 _ 86
 have sz3:w3.heap.size=w2.heap.size+1:=by rw[hw3,wz']
 have k3:Kp [] w2 w3:=hw3▸Kp.alloc [] w2 _;refine hD.as (ptr r) hk ?_;refine norm0 (a':=⟨#[.slice g0 n c0,v1,.int .i64 most,bh,uu,uu,uu,uu,ptr ob,.int .i64 0,.int .i64 0,ptr r,uu,uu,uu,uu,uu,uu,uu,uu,uu,.slice g0 n c0,v1,.int .i64 most,.int .i64 0,.int .i64 0,.bool (decide ((0:Int)≠0)),uu,uu,.slice g0 n c0,.int .i64 n,.slice (some ⟨st,0,none⟩) n n,.chan (some kc),.agg #[.slice none 0 0,.slice (some ⟨st,0,none⟩) n n,.chan (some kc),.slice none 0 0,.bool false],ptr r,uu,uu,uu,uu,uu,uu,uu,uu,uu,uu,uu,uu,uu,uu,uu,uu,uu,uu,uu,uu,uu,uu,uu,uu,uu,uu,uu,uu,uu,uu,uu,uu,uu,uu,uu,uu,uu,uu,uu,uu,uu,uu,uu,uu,uu,uu,uu,uu,uu,uu,uu,uu,uu,uu,uu,uu,uu,uu,uu,uu,uu,uu,uu,uu,uu,uu,uu,uu,uu,uu,uu,uu,uu,uu,uu,uu,uu,uu,uu,uu],[]⟩) ?_;refine hD.e0 ?_;have fst:Pl.Blk w3 st (standsOf n (fun _=>(.fresh:TS L))) 72:=k3.blk bst2 (by simp);have fkc:w3.heap[kc]?=some (.chan 0 #[] false 0 0 false):=(k3.block kc (by omega) (by simp)).trans ((k2.block kc (by omega) (by simp)).trans bkc1);refine h st kc r w3 ((k1.trans k2).trans k3) fst fkc br (by omega) (by omega) (by omega) (by omega) (by omega) (by omega) _ rfl
theorem r4_3 {L:Type}(hD:Det Try.prog m fun _=>K)(hn:n≤8)(h:∀ st kc r w',Kp [] w w'→Pl.Blk w' st (standsOf n (fun _=>(.fresh:TS L))) 72→w'.heap[kc]?=some (.chan 0 #[] false 0 0 false)→Pl.Blk w' r [.slice none 0 0,.slice (some ⟨st,0,none⟩) n n,.chan (some kc),.slice none 0 0,.bool false] 86→w.heap.size≤st→w.heap.size≤kc→w.heap.size≤r→st≠kc→st≠r→kc≠r→∀ tm,tm=r5Tm g0 n c0 v1 most bh ob st kc r→K (gs ((base 32).at ⟨tm,[]⟩ [.code (sR (sR (sR c27)))]) cs) w'):K (gs ((base 32).at ⟨r4Tm g0 n c0 v1 most bh ob,[]⟩ [.inRegion r4ops [3,0,1,2,4,5,6],.code (sR (sR (sR c27)))]) cs) w:=by
 have hk:(base 32).kind≠.early:=nofun;show K (gs ((base 32).at ⟨#[.slice g0 n c0,v1,.int .i64 most,bh,uu,uu,uu,uu,ptr ob,.int .i64 0,.int .i64 0,uu,uu,uu,uu,uu,uu,uu,uu,uu,uu,.slice g0 n c0,v1,.int .i64 most,.int .i64 0,.int .i64 0,.bool (decide ((0:Int)≠0)),uu,uu,uu,uu,uu,uu,uu,uu,uu,uu,uu,uu,uu,uu,uu,uu,uu,uu,uu,uu,uu,uu,uu,uu,uu,uu,uu,uu,uu,uu,uu,uu,uu,uu,uu,uu,uu,uu,uu,uu,uu,uu,uu,uu,uu,uu,uu,uu,uu,uu,uu,uu,uu,uu,uu,uu,uu,uu,uu,uu,uu,uu,uu,uu,uu,uu,uu,uu,uu,uu,uu,uu,uu,uu,uu,uu,uu,uu,uu,uu,uu,uu,uu,uu,uu,uu,uu,uu],[]⟩ [.inRegion r4ops [3,0,1,2,4,5,6],.code (sR (sR (sR c27)))]) cs) w;obtain⟨kc,hkc⟩:∃ kc,kc=w.heap.size:=⟨_,rfl⟩;obtain⟨w1,hw1⟩:∃ w',w'=w.alloc (.chan 0 #[] false 0 0 false):=⟨_,rfl⟩;refine hD.opv (n:=0) (v:=.chan (some kc)) (w':=w1) hk rfl ⟨rfl,rfl,rfl,(by decide +kernel),nofun⟩ (fun τ d=>by rw[hkc,hw1];exact x_mkc84 (w:=re w τ d) rfl) (by rw[hw1,wz'];omega) ?_;refine norm0 (a':=⟨#[.slice g0 n c0,v1,.int .i64 most,bh,uu,uu,uu,uu,ptr ob,.int .i64 0,.int .i64 0,uu,uu,uu,uu,uu,uu,uu,uu,uu,uu,.slice g0 n c0,v1,.int .i64 most,.int .i64 0,.int .i64 0,.bool (decide ((0:Int)≠0)),uu,uu,uu,uu,uu,.chan (some kc),uu,uu,uu,uu,uu,uu,uu,uu,uu,uu,uu,uu,uu,uu,uu,uu,uu,uu,uu,uu,uu,uu,uu,uu,uu,uu,uu,uu,uu,uu,uu,uu,uu,uu,uu,uu,uu,uu,uu,uu,uu,uu,uu,uu,uu,uu,uu,uu,uu,uu,uu,uu,uu,uu,uu,uu,uu,uu,uu,uu,uu,uu,uu,uu,uu,uu,uu,uu,uu,uu,uu,uu,uu,uu,uu,uu,uu,uu,uu,uu,uu,uu],[]⟩) ?_;have bkc1:w1.heap[kc]?=some (.chan 0 #[] false 0 0 false):=by rw[hw1,hkc];exact chan_new w _
 have sz1:w1.heap.size=w.heap.size+1:=by rw[hw1,wz']
 have k1:Kp [] w w1:=hw1▸Kp.alloc [] w _;refine hD.mv (.slice g0 n c0) hk ?_;refine hD.pu (.int .i64 n) hk (fun w=>pu_len (x:=.tmp 29) rfl rfl Try.underlying62) ?_;refine norm0 (a':=⟨#[.slice g0 n c0,v1,.int .i64 most,bh,uu,uu,uu,uu,ptr ob,.int .i64 0,.int .i64 0,uu,uu,uu,uu,uu,uu,uu,uu,uu,uu,.slice g0 n c0,v1,.int .i64 most,.int .i64 0,.int .i64 0,.bool (decide ((0:Int)≠0)),uu,uu,.slice g0 n c0,.int .i64 n,uu,.chan (some kc),uu,uu,uu,uu,uu,uu,uu,uu,uu,uu,uu,uu,uu,uu,uu,uu,uu,uu,uu,uu,uu,uu,uu,uu,uu,uu,uu,uu,uu,uu,uu,uu,uu,uu,uu,uu,uu,uu,uu,uu,uu,uu,uu,uu,uu,uu,uu,uu,uu,uu,uu,uu,uu,uu,uu,uu,uu,uu,uu,uu,uu,uu,uu,uu,uu,uu,uu,uu,uu,uu,uu,uu,uu,uu,uu,uu,uu,uu,uu,uu,uu,uu],[]⟩) ?_;obtain⟨st,hst⟩:∃ st,st=w1.heap.size:=⟨_,rfl⟩;obtain⟨w2,hw2⟩:∃ w',w'=w1.alloc (.cells (standsOf n (fun _=>(.fresh:TS L))).toArray 72):=⟨_,rfl⟩;refine hD.opv (n:=0) (v:=.slice (some ⟨st,0,none⟩) n n) (w':=w2) hk rfl ⟨rfl,rfl,rfl,(by decide +kernel),nofun⟩ (fun τ d=>by rw[hst,hw2];exact x_mkslice (L:=L) (w:=re w1 τ d) rfl rfl rfl hn) (by rw[hw2,wz'];omega) ?_;refine norm0 (a':=⟨#[.slice g0 n c0,v1,.int .i64 most,bh,uu,uu,uu,uu,ptr ob,.int .i64 0,.int .i64 0,uu,uu,uu,uu,uu,uu,uu,uu,uu,uu,.slice g0 n c0,v1,.int .i64 most,.int .i64 0,.int .i64 0,.bool (decide ((0:Int)≠0)),uu,uu,.slice g0 n c0,.int .i64 n,.slice (some ⟨st,0,none⟩) n n,.chan (some kc),uu,uu,uu,uu,uu,uu,uu,uu,uu,uu,uu,uu,uu,uu,uu,uu,uu,uu,uu,uu,uu,uu,uu,uu,uu,uu,uu,uu,uu,uu,uu,uu,uu,uu,uu,uu,uu,uu,uu,uu,uu,uu,uu,uu,uu,uu,uu,uu,uu,uu,uu,uu,uu,uu,uu,uu,uu,uu,uu,uu,uu,uu,uu,uu,uu,uu,uu,uu,uu,uu,uu,uu,uu,uu,uu,uu,uu,uu,uu,uu,uu,uu],[]⟩) ?_;have bst2:Pl.Blk w2 st (standsOf n (fun _=>(.fresh:TS L))) 72:=by rw[hw2,hst];exact Pl.Blk.new w1 _ 72
 have sz2:w2.heap.size=w1.heap.size+1:=by rw[hw2,wz']
 have k2:Kp [] w1 w2:=hw2▸Kp.alloc [] w1 _;refine hD.pu (.agg #[.slice none 0 0,.slice (some ⟨st,0,none⟩) n n,.chan (some kc),.slice none 0 0,.bool false]) hk (fun w=>pu_build86 (x:=.tmp 31) (y:=.tmp 32) rfl rfl rfl) ?_;refine norm0 (a':=⟨#[.slice g0 n c0,v1,.int .i64 most,bh,uu,uu,uu,uu,ptr ob,.int .i64 0,.int .i64 0,uu,uu,uu,uu,uu,uu,uu,uu,uu,uu,.slice g0 n c0,v1,.int .i64 most,.int .i64 0,.int .i64 0,.bool (decide ((0:Int)≠0)),uu,uu,.slice g0 n c0,.int .i64 n,.slice (some ⟨st,0,none⟩) n n,.chan (some kc),.agg #[.slice none 0 0,.slice (some ⟨st,0,none⟩) n n,.chan (some kc),.slice none 0 0,.bool false],uu,uu,uu,uu,uu,uu,uu,uu,uu,uu,uu,uu,uu,uu,uu,uu,uu,uu,uu,uu,uu,uu,uu,uu,uu,uu,uu,uu,uu,uu,uu,uu,uu,uu,uu,uu,uu,uu,uu,uu,uu,uu,uu,uu,uu,uu,uu,uu,uu,uu,uu,uu,uu,uu,uu,uu,uu,uu,uu,uu,uu,uu,uu,uu,uu,uu,uu,uu,uu,uu,uu,uu,uu,uu,uu,uu,uu,uu,uu,uu,uu],[]⟩) ?_;obtain⟨r,hr⟩:∃ r,r=w2.heap.size:=⟨_,rfl⟩;obtain⟨w3,hw3⟩:∃ w',w'=w2.alloc (.cells #[.slice none 0 0,.slice (some ⟨st,0,none⟩) n n,.chan (some kc),.slice none 0 0,.bool false] 86):=⟨_,rfl⟩;refine hD.box (n:=0) (u:=(.agg #[.slice none 0 0,.slice (some ⟨st,0,none⟩) n n,.chan (some kc),.slice none 0 0,.bool false])) hk rfl ⟨rfl,rfl,rfl,rfl,nofun⟩ rfl bx86 ?_;rw[← hr,← hw3];refine norm0 (a':=⟨#[.slice g0 n c0,v1,.int .i64 most,bh,uu,uu,uu,uu,ptr ob,.int .i64 0,.int .i64 0,uu,uu,uu,uu,uu,uu,uu,uu,uu,uu,.slice g0 n c0,v1,.int .i64 most,.int .i64 0,.int .i64 0,.bool (decide ((0:Int)≠0)),uu,uu,.slice g0 n c0,.int .i64 n,.slice (some ⟨st,0,none⟩) n n,.chan (some kc),.agg #[.slice none 0 0,.slice (some ⟨st,0,none⟩) n n,.chan (some kc),.slice none 0 0,.bool false],ptr r,uu,uu,uu,uu,uu,uu,uu,uu,uu,uu,uu,uu,uu,uu,uu,uu,uu,uu,uu,uu,uu,uu,uu,uu,uu,uu,uu,uu,uu,uu,uu,uu,uu,uu,uu,uu,uu,uu,uu,uu,uu,uu,uu,uu,uu,uu,uu,uu,uu,uu,uu,uu,uu,uu,uu,uu,uu,uu,uu,uu,uu,uu,uu,uu,uu,uu,uu,uu,uu,uu,uu,uu,uu,uu,uu,uu,uu,uu,uu,uu],[]⟩) ?_;have br:Pl.Blk w3 r [.slice none 0 0,.slice (some ⟨st,0,none⟩) n n,.chan (some kc),.slice none 0 0,.bool false] 86:=by rw[hw3,hr];exact Pl.Blk.new w2 _ 86
 have sz3:w3.heap.size=w2.heap.size+1:=by rw[hw3,wz']
 have k3:Kp [] w2 w3:=hw3▸Kp.alloc [] w2 _;refine hD.as (ptr r) hk ?_;refine norm0 (a':=⟨#[.slice g0 n c0,v1,.int .i64 most,bh,uu,uu,uu,uu,ptr ob,.int .i64 0,.int .i64 0,ptr r,uu,uu,uu,uu,uu,uu,uu,uu,uu,.slice g0 n c0,v1,.int .i64 most,.int .i64 0,.int .i64 0,.bool (decide ((0:Int)≠0)),uu,uu,.slice g0 n c0,.int .i64 n,.slice (some ⟨st,0,none⟩) n n,.chan (some kc),.agg #[.slice none 0 0,.slice (some ⟨st,0,none⟩) n n,.chan (some kc),.slice none 0 0,.bool false],ptr r,uu,uu,uu,uu,uu,uu,uu,uu,uu,uu,uu,uu,uu,uu,uu,uu,uu,uu,uu,uu,uu,uu,uu,uu,uu,uu,uu,uu,uu,uu,uu,uu,uu,uu,uu,uu,uu,uu,uu,uu,uu,uu,uu,uu,uu,uu,uu,uu,uu,uu,uu,uu,uu,uu,uu,uu,uu,uu,uu,uu,uu,uu,uu,uu,uu,uu,uu,uu,uu,uu,uu,uu,uu,uu,uu,uu,uu,uu,uu,uu],[]⟩) ?_;refine hD.e0 ?_;have fst:Pl.Blk w3 st (standsOf n (fun _=>(.fresh:TS L))) 72:=k3.blk bst2 (by simp);have fkc:w3.heap[kc]?=some (.chan 0 #[] false 0 0 false):=(k3.block kc (by omega) (by simp)).trans ((k2.block kc (by omega) (by simp)).trans bkc1);refine h st kc r w3 ((k1.trans k2).trans k3) fst fkc br (by omega) (by omega) (by omega) (by omega) (by omega) (by omega) _ rfl
theorem wat_made {L:Type}(hK:Cl Try.prog m K)(hn:n≤8)(h:∀ st kc r w',Kp [] w w'→Pl.Blk w' st (standsOf n (fun _=>(.fresh:TS L))) 72→w'.heap[kc]?=some (.chan 0 #[] false 0 0 false)→Pl.Blk w' r [.slice none 0 0,.slice (some ⟨st,0,none⟩) n n,.chan (some kc),.slice none 0 0,.bool false] 86→w.heap.size≤st→w.heap.size≤kc→w.heap.size≤r→st≠kc→st≠r→kc≠r→∀ tm,tm=r5Tm g0 n c0 v1 most bh ob st kc r→K (gs ((base 32).at ⟨tm,[]⟩ [.code (sR (sR (sR c27)))]) cs) w'):K (gs ((base 32).at ⟨r4Tm g0 n c0 v1 most bh ob,[]⟩ [.code (sL (sR (sR c27))),.code (sR (sR (sR c27)))]) cs) w:=by
 refine hK.draw mixed fun t=>?_;exact r4_orders (fun l=>K (gs ((base 32).at ⟨r4Tm g0 n c0 v1 most bh ob,[]⟩ [.inRegion r4ops l,.code (sR (sR (sR c27)))]) cs) w) (r4_0 (L:=L) hK.det hn h) (r4_1 (L:=L) hK.det hn h) (r4_2 (L:=L) hK.det hn h) (r4_3 (L:=L) hK.det hn h) t
def hirTm (g0:Option Addr)(n c0:Nat)(v1:Value)(most:Int)(bh:Value)(ob r all j:Nat)(tm:Array Value):Prop:=∃ x:Nat→Value,tm=#[.slice g0 n c0,v1,.int .i64 most,bh,x 4,x 5,x 6,x 7,ptr ob,x 9,x 10,ptr r,ptr all,x 13,x 14,x 15,x 16,x 17,x 18,x 19,x 20,x 21,x 22,x 23,x 24,x 25,x 26,x 27,x 28,x 29,x 30,x 31,x 32,x 33,x 34,.slice g0 n c0,.int .i64 n,.int .i64 j,x 38,x 39,x 40,x 41,x 42,x 43,x 44,x 45,x 46,x 47,x 48,x 49,x 50,x 51,x 52,x 53,x 54,x 55,x 56,x 57,x 58,x 59,x 60,x 61,x 62,x 63,x 64,x 65,x 66,x 67,x 68,x 69,x 70,x 71,x 72,x 73,x 74,x 75,x 76,x 77,x 78,x 79,x 80,x 81,x 82,x 83,x 84,x 85,x 86,x 87,x 88,x 89,x 90,x 91,x 92,x 93,x 94,x 95,x 96,x 97,x 98,x 99,x 100,x 101,x 102,x 103,x 104,x 105,x 106,x 107,x 108,x 109,x 110,x 111,x 112,x 113,x 114]
def hirBody:Code:=sB (sB (sR (sL (sR (sR (sR (sR c27)))))))
noncomputable abbrev hirTail:List Item:=[.inLoop hirBody,.inBlock 0,.code (sR (sR (sR (sR (sR c27)))))]
def hirHead (tm:Array Value):Frame:=(base 32).at ⟨tm,[]⟩ (.code hirBody::hirTail)
theorem wat_group {st kc:Nat}(hD:Det Try.prog m fun _=>K)(htm:tm=r5Tm g0 n c0 v1 most bh ob st kc r)(h:∀ tm,hirTm g0 n c0 v1 most bh ob r w.heap.size 0 tm→K (gs (hirHead tm) cs) (w.alloc (Go.ConcR.wgBlock 95 0 0))):K (gs ((base 32).at ⟨tm,[]⟩ [.code (sR (sR (sR c27)))]) cs) w:=by
 subst htm;unfold r5Tm;have hk:(base 32).kind≠.early:=nofun;refine hD.s0 ?_;refine hD.r0 ?_;obtain⟨all,hall⟩:∃ all,all=w.heap.size:=⟨_,rfl⟩;rw[← hall] at h;refine hD.alloc (n:=0) hk rfl ⟨rfl,rfl,rfl,(by decide +kernel),nofun⟩ al98 ?_;rw[← hall];refine norm0 (a':=⟨#[.slice g0 n c0,v1,.int .i64 most,bh,uu,uu,uu,uu,ptr ob,.int .i64 0,.int .i64 0,ptr r,ptr all,uu,uu,uu,uu,uu,uu,uu,uu,.slice g0 n c0,v1,.int .i64 most,.int .i64 0,.int .i64 0,.bool (decide ((0:Int)≠0)),uu,uu,.slice g0 n c0,.int .i64 n,.slice (some ⟨st,0,none⟩) n n,.chan (some kc),.agg #[.slice none 0 0,.slice (some ⟨st,0,none⟩) n n,.chan (some kc),.slice none 0 0,.bool false],ptr r,uu,uu,uu,uu,uu,uu,uu,uu,uu,uu,uu,uu,uu,uu,uu,uu,uu,uu,uu,uu,uu,uu,uu,uu,uu,uu,uu,uu,uu,uu,uu,uu,uu,uu,uu,uu,uu,uu,uu,uu,uu,uu,uu,uu,uu,uu,uu,uu,uu,uu,uu,uu,uu,uu,uu,uu,uu,uu,uu,uu,uu,uu,uu,uu,uu,uu,uu,uu,uu,uu,uu,uu,uu,uu,uu,uu,uu,uu,uu,uu],[]⟩) ?_;refine hD.e0 ?_;refine hD.s0 ?_;refine hD.s0 ?_;refine hD.r0 ?_;refine hD.mv (.slice g0 n c0) hk ?_;refine hD.pu (.int .i64 n) hk (fun w=>pu_len (x:=.tmp 35) rfl rfl Try.underlying62) ?_;refine hD.mv (.int .i64 ((0:Nat):Int)) hk ?_;refine norm0 (a':=⟨#[.slice g0 n c0,v1,.int .i64 most,bh,uu,uu,uu,uu,ptr ob,.int .i64 0,.int .i64 0,ptr r,ptr all,uu,uu,uu,uu,uu,uu,uu,uu,.slice g0 n c0,v1,.int .i64 most,.int .i64 0,.int .i64 0,.bool (decide ((0:Int)≠0)),uu,uu,.slice g0 n c0,.int .i64 n,.slice (some ⟨st,0,none⟩) n n,.chan (some kc),.agg #[.slice none 0 0,.slice (some ⟨st,0,none⟩) n n,.chan (some kc),.slice none 0 0,.bool false],ptr r,.slice g0 n c0,.int .i64 n,.int .i64 ((0:Nat):Int),uu,uu,uu,uu,uu,uu,uu,uu,uu,uu,uu,uu,uu,uu,uu,uu,uu,uu,uu,uu,uu,uu,uu,uu,uu,uu,uu,uu,uu,uu,uu,uu,uu,uu,uu,uu,uu,uu,uu,uu,uu,uu,uu,uu,uu,uu,uu,uu,uu,uu,uu,uu,uu,uu,uu,uu,uu,uu,uu,uu,uu,uu,uu,uu,uu,uu,uu,uu,uu,uu,uu,uu,uu,uu,uu,uu,uu],[]⟩) ?_;refine hD.e0 ?_;refine hD.block (n:=0) ?_;refine hD.loop (n:=0) ?_;exact h _ ⟨fun q9=>(#[.slice g0 n c0,v1,.int .i64 most,bh,uu,uu,uu,uu,ptr ob,.int .i64 0,.int .i64 0,ptr r,ptr all,uu,uu,uu,uu,uu,uu,uu,uu,.slice g0 n c0,v1,.int .i64 most,.int .i64 0,.int .i64 0,.bool (decide ((0:Int)≠0)),uu,uu,.slice g0 n c0,.int .i64 n,.slice (some ⟨st,0,none⟩) n n,.chan (some kc),.agg #[.slice none 0 0,.slice (some ⟨st,0,none⟩) n n,.chan (some kc),.slice none 0 0,.bool false],ptr r,.slice g0 n c0,.int .i64 n,.int .i64 ((0:Nat):Int),uu,uu,uu,uu,uu,uu,uu,uu,uu,uu,uu,uu,uu,uu,uu,uu,uu,uu,uu,uu,uu,uu,uu,uu,uu,uu,uu,uu,uu,uu,uu,uu,uu,uu,uu,uu,uu,uu,uu,uu,uu,uu,uu,uu,uu,uu,uu,uu,uu,uu,uu,uu,uu,uu,uu,uu,uu,uu,uu,uu,uu,uu,uu,uu,uu,uu,uu,uu,uu,uu,uu,uu,uu,uu,uu,uu,uu]:Array Value).getD q9 undef,rfl⟩
theorem hir_end {j:Nat}(hD:Det Try.prog m fun _=>K)(hj:n≤j)(htm:hirTm g0 n c0 v1 most bh ob r all j tm)(h:∀ tm,watTm (.slice g0 n c0) v1 most bh ob r all v1 tm→K (gs (watHead tm) cs) w):K (gs (hirHead tm) cs) w:=by
 obtain⟨x,rfl⟩:=htm;have hk:(base 32).kind≠.early:=nofun;unfold hirHead;refine hD.s0 ?_;refine hD.r0 ?_;refine hD.pu (.bool (decide ((j:Int)<n))) hk (fun w=>pu_lss (x:=.tmp 37) (y:=.tmp 36) rfl rfl rfl) ?_;refine norm0 (a':=⟨#[.slice g0 n c0,v1,.int .i64 most,bh,x 4,x 5,x 6,x 7,ptr ob,x 9,x 10,ptr r,ptr all,x 13,x 14,x 15,x 16,x 17,x 18,x 19,x 20,x 21,x 22,x 23,x 24,x 25,x 26,x 27,x 28,x 29,x 30,x 31,x 32,x 33,x 34,.slice g0 n c0,.int .i64 n,.int .i64 j,.bool (decide ((j:Int)<n)),x 39,x 40,x 41,x 42,x 43,x 44,x 45,x 46,x 47,x 48,x 49,x 50,x 51,x 52,x 53,x 54,x 55,x 56,x 57,x 58,x 59,x 60,x 61,x 62,x 63,x 64,x 65,x 66,x 67,x 68,x 69,x 70,x 71,x 72,x 73,x 74,x 75,x 76,x 77,x 78,x 79,x 80,x 81,x 82,x 83,x 84,x 85,x 86,x 87,x 88,x 89,x 90,x 91,x 92,x 93,x 94,x 95,x 96,x 97,x 98,x 99,x 100,x 101,x 102,x 103,x 104,x 105,x 106,x 107,x 108,x 109,x 110,x 111,x 112,x 113,x 114],[]⟩) ?_;refine hD.e0 ?_;refine hD.s0 ?_;refine hD.cond (n:=0) false (by show Value.bool (decide ((j:Int)<n))=_;rw[decide_eq_false (by omega)]) rfl ?_;refine hD.exit (n:=0) (k':=[.code (sR (sR (sR (sR (sR c27)))))]) rfl ?_;refine hD.s0 ?_;refine hD.r0 ?_;refine hD.mv v1 hk ?_;refine hD.as v1 hk ?_;refine norm0 (a':=⟨#[.slice g0 n c0,v1,.int .i64 most,bh,x 4,x 5,x 6,x 7,ptr ob,x 9,x 10,ptr r,ptr all,x 13,x 14,x 15,v1,x 17,x 18,x 19,x 20,x 21,x 22,x 23,x 24,x 25,x 26,x 27,x 28,x 29,x 30,x 31,x 32,x 33,x 34,.slice g0 n c0,.int .i64 n,.int .i64 j,.bool (decide ((j:Int)<n)),x 39,x 40,x 41,x 42,x 43,x 44,x 45,x 46,x 47,x 48,x 49,x 50,x 51,x 52,x 53,x 54,x 55,x 56,x 57,x 58,x 59,x 60,x 61,v1,x 63,x 64,x 65,x 66,x 67,x 68,x 69,x 70,x 71,x 72,x 73,x 74,x 75,x 76,x 77,x 78,x 79,x 80,x 81,x 82,x 83,x 84,x 85,x 86,x 87,x 88,x 89,x 90,x 91,x 92,x 93,x 94,x 95,x 96,x 97,x 98,x 99,x 100,x 101,x 102,x 103,x 104,x 105,x 106,x 107,x 108,x 109,x 110,x 111,x 112,x 113,x 114],[]⟩) ?_;refine hD.e0 ?_;refine hD.s0 ?_;refine hD.block (n:=0) ?_;refine hD.loop (n:=0) ?_;exact h _ ⟨fun q9=>(#[.slice g0 n c0,v1,.int .i64 most,bh,x 4,x 5,x 6,x 7,ptr ob,x 9,x 10,ptr r,ptr all,x 13,x 14,x 15,v1,x 17,x 18,x 19,x 20,x 21,x 22,x 23,x 24,x 25,x 26,x 27,x 28,x 29,x 30,x 31,x 32,x 33,x 34,.slice g0 n c0,.int .i64 n,.int .i64 j,.bool (decide ((j:Int)<n)),x 39,x 40,x 41,x 42,x 43,x 44,x 45,x 46,x 47,x 48,x 49,x 50,x 51,x 52,x 53,x 54,x 55,x 56,x 57,x 58,x 59,x 60,x 61,v1,x 63,x 64,x 65,x 66,x 67,x 68,x 69,x 70,x 71,x 72,x 73,x 74,x 75,x 76,x 77,x 78,x 79,x 80,x 81,x 82,x 83,x 84,x 85,x 86,x 87,x 88,x 89,x 90,x 91,x 92,x 93,x 94,x 95,x 96,x 97,x 98,x 99,x 100,x 101,x 102,x 103,x 104,x 105,x 106,x 107,x 108,x 109,x 110,x 111,x 112,x 113,x 114]:Array Value).getD q9 undef,rfl⟩
def hirTm3 (g0:Option Addr)(n c0:Nat)(v1:Value)(most:Int)(bh:Value)(ob r all j:Nat)(fv:Value)(b:Nat)(tm:Array Value):Prop:=∃ x:Nat→Value,tm=#[.slice g0 n c0,v1,.int .i64 most,bh,x 4,x 5,x 6,x 7,ptr ob,x 9,x 10,ptr r,ptr all,x 13,fv,ptr b,x 16,x 17,x 18,x 19,x 20,x 21,x 22,x 23,x 24,x 25,x 26,x 27,x 28,x 29,x 30,x 31,x 32,x 33,x 34,.slice g0 n c0,.int .i64 n,.int .i64 j,x 38,x 39,x 40,x 41,x 42,x 43,x 44,x 45,x 46,x 47,x 48,x 49,x 50,x 51,x 52,x 53,x 54,x 55,x 56,x 57,x 58,x 59,x 60,x 61,x 62,x 63,x 64,x 65,x 66,x 67,x 68,x 69,x 70,x 71,x 72,x 73,x 74,x 75,x 76,x 77,x 78,x 79,x 80,x 81,x 82,x 83,x 84,x 85,x 86,x 87,x 88,x 89,x 90,x 91,x 92,x 93,x 94,x 95,x 96,x 97,x 98,x 99,x 100,x 101,x 102,x 103,x 104,x 105,x 106,x 107,x 108,x 109,x 110,x 111,x 112,x 113,x 114]
theorem hir_make {j fb fo:Nat}{fv:Value}(hD:Det Try.prog m fun _=>K)(hj:j<n)(hfv:w.cell? ⟨fb,fo+j,none⟩=some fv)(htm:hirTm (some ⟨fb,fo,none⟩) n c0 v1 most bh ob r all j tm)(h:∀ c b w',Kp [] w w'→w'.heap[c]?=some (.chan 0 #[] false 0 0 false)→Pl.Blk w' b [ptr r,.int .i64 j,.chan (some c),.bool false] 79→w.heap.size≤c→w.heap.size≤b→c≠b→∀ tm,hirTm3 (some ⟨fb,fo,none⟩) n c0 v1 most bh ob r all j fv b tm→K (gs ((base 32).at ⟨tm,[]⟩ (.code (sL (sR (sR (sB (sL (sR (sR (sB (sB (sR (sL (sR (sR (sR (sR c27)))))))))))))))::[.code (sR (sR (sR (sB (sL (sR (sR (sB (sB (sR (sL (sR (sR (sR (sR c27))))))))))))))),.inBlock 1,.code (sR (sR (sR (sB (sB (sR (sL (sR (sR (sR (sR c27))))))))))),.inLoop (sB (sB (sR (sL (sR (sR (sR (sR c27)))))))),.inBlock 0,.code (sR (sR (sR (sR (sR c27)))))])) cs) w'):K (gs (hirHead tm) cs) w:=by
 obtain⟨x,rfl⟩:=htm;have hk:(base 32).kind≠.early:=nofun;unfold hirHead;refine hD.s0 ?_;refine hD.r0 ?_;refine hD.pu (.bool (decide ((j:Int)<n))) hk (fun w=>pu_lss (x:=.tmp 37) (y:=.tmp 36) rfl rfl rfl) ?_;refine norm0 (a':=⟨#[.slice (some ⟨fb,fo,none⟩) n c0,v1,.int .i64 most,bh,x 4,x 5,x 6,x 7,ptr ob,x 9,x 10,ptr r,ptr all,x 13,x 14,x 15,x 16,x 17,x 18,x 19,x 20,x 21,x 22,x 23,x 24,x 25,x 26,x 27,x 28,x 29,x 30,x 31,x 32,x 33,x 34,.slice (some ⟨fb,fo,none⟩) n c0,.int .i64 n,.int .i64 j,.bool (decide ((j:Int)<n)),x 39,x 40,x 41,x 42,x 43,x 44,x 45,x 46,x 47,x 48,x 49,x 50,x 51,x 52,x 53,x 54,x 55,x 56,x 57,x 58,x 59,x 60,x 61,x 62,x 63,x 64,x 65,x 66,x 67,x 68,x 69,x 70,x 71,x 72,x 73,x 74,x 75,x 76,x 77,x 78,x 79,x 80,x 81,x 82,x 83,x 84,x 85,x 86,x 87,x 88,x 89,x 90,x 91,x 92,x 93,x 94,x 95,x 96,x 97,x 98,x 99,x 100,x 101,x 102,x 103,x 104,x 105,x 106,x 107,x 108,x 109,x 110,x 111,x 112,x 113,x 114],[]⟩) ?_;refine hD.e0 ?_;refine hD.s0 ?_;refine hD.cond (n:=0) true (by show Value.bool (decide ((j:Int)<n))=_;rw[decide_eq_true (by omega)]) rfl ?_;refine hD.k0 ?_;refine hD.s0 ?_;refine hD.block (n:=0) ?_;refine hD.s0 ?_;refine hD.r0 ?_;refine hD.mv (.int .i64 j) hk ?_;refine hD.index (n:=0) (v:=(.pointer (some ⟨fb,fo+j,none⟩))) hk rfl ⟨rfl,rfl,rfl,rfl,nofun⟩ rfl rfl (ix50 hj) ?_;refine hD.ld fv hk (fun τ d=>ld54 hfv) ?_;refine hD.as (.int .i64 j) hk ?_;refine norm0 (a':=⟨#[.slice (some ⟨fb,fo,none⟩) n c0,v1,.int .i64 most,bh,x 4,x 5,x 6,x 7,ptr ob,x 9,x 10,ptr r,ptr all,.int .i64 j,x 14,x 15,x 16,x 17,x 18,x 19,x 20,x 21,x 22,x 23,x 24,x 25,x 26,x 27,x 28,x 29,x 30,x 31,x 32,x 33,x 34,.slice (some ⟨fb,fo,none⟩) n c0,.int .i64 n,.int .i64 j,.bool (decide ((j:Int)<n)),.int .i64 j,(.pointer (some ⟨fb,fo+j,none⟩)),fv,x 42,x 43,x 44,x 45,x 46,x 47,x 48,x 49,x 50,x 51,x 52,x 53,x 54,x 55,x 56,x 57,x 58,x 59,x 60,x 61,x 62,x 63,x 64,x 65,x 66,x 67,x 68,x 69,x 70,x 71,x 72,x 73,x 74,x 75,x 76,x 77,x 78,x 79,x 80,x 81,x 82,x 83,x 84,x 85,x 86,x 87,x 88,x 89,x 90,x 91,x 92,x 93,x 94,x 95,x 96,x 97,x 98,x 99,x 100,x 101,x 102,x 103,x 104,x 105,x 106,x 107,x 108,x 109,x 110,x 111,x 112,x 113,x 114],[]⟩) ?_;refine hD.as fv hk ?_;refine norm0 (a':=⟨#[.slice (some ⟨fb,fo,none⟩) n c0,v1,.int .i64 most,bh,x 4,x 5,x 6,x 7,ptr ob,x 9,x 10,ptr r,ptr all,.int .i64 j,fv,x 15,x 16,x 17,x 18,x 19,x 20,x 21,x 22,x 23,x 24,x 25,x 26,x 27,x 28,x 29,x 30,x 31,x 32,x 33,x 34,.slice (some ⟨fb,fo,none⟩) n c0,.int .i64 n,.int .i64 j,.bool (decide ((j:Int)<n)),.int .i64 j,(.pointer (some ⟨fb,fo+j,none⟩)),fv,x 42,x 43,x 44,x 45,x 46,x 47,x 48,x 49,x 50,x 51,x 52,x 53,x 54,x 55,x 56,x 57,x 58,x 59,x 60,x 61,x 62,x 63,x 64,x 65,x 66,x 67,x 68,x 69,x 70,x 71,x 72,x 73,x 74,x 75,x 76,x 77,x 78,x 79,x 80,x 81,x 82,x 83,x 84,x 85,x 86,x 87,x 88,x 89,x 90,x 91,x 92,x 93,x 94,x 95,x 96,x 97,x 98,x 99,x 100,x 101,x 102,x 103,x 104,x 105,x 106,x 107,x 108,x 109,x 110,x 111,x 112,x 113,x 114],[]⟩) ?_;refine hD.e0 ?_;refine hD.s0 ?_;refine hD.r0 ?_;refine hD.mv (ptr r) hk ?_;refine hD.mv (.int .i64 j) hk ?_
 refine norm0 (a':=⟨#[.slice (some ⟨fb,fo,none⟩) n c0,v1,.int .i64 most,bh,x 4,x 5,x 6,x 7,ptr ob,x 9,x 10,ptr r,ptr all,.int .i64 j,fv,x 15,x 16,x 17,x 18,x 19,x 20,x 21,x 22,x 23,x 24,x 25,x 26,x 27,x 28,x 29,x 30,x 31,x 32,x 33,x 34,.slice (some ⟨fb,fo,none⟩) n c0,.int .i64 n,.int .i64 j,.bool (decide ((j:Int)<n)),.int .i64 j,(.pointer (some ⟨fb,fo+j,none⟩)),fv,ptr r,.int .i64 j,x 44,x 45,x 46,x 47,x 48,x 49,x 50,x 51,x 52,x 53,x 54,x 55,x 56,x 57,x 58,x 59,x 60,x 61,x 62,x 63,x 64,x 65,x 66,x 67,x 68,x 69,x 70,x 71,x 72,x 73,x 74,x 75,x 76,x 77,x 78,x 79,x 80,x 81,x 82,x 83,x 84,x 85,x 86,x 87,x 88,x 89,x 90,x 91,x 92,x 93,x 94,x 95,x 96,x 97,x 98,x 99,x 100,x 101,x 102,x 103,x 104,x 105,x 106,x 107,x 108,x 109,x 110,x 111,x 112,x 113,x 114],[]⟩) ?_;obtain⟨c,hc⟩:∃ c,c=w.heap.size:=⟨_,rfl⟩;obtain⟨w1,hw1⟩:∃ w',w'=w.alloc (.chan 0 #[] false 0 0 false):=⟨_,rfl⟩;refine hD.opv (n:=0) (v:=.chan (some c)) (w':=w1) hk rfl ⟨rfl,rfl,rfl,(by decide +kernel),nofun⟩ (fun τ d=>by rw[hc,hw1];exact x_mkc79 (w:=re w τ d) rfl) (by rw[hw1,wz'];omega) ?_;refine norm0 (a':=⟨#[.slice (some ⟨fb,fo,none⟩) n c0,v1,.int .i64 most,bh,x 4,x 5,x 6,x 7,ptr ob,x 9,x 10,ptr r,ptr all,.int .i64 j,fv,x 15,x 16,x 17,x 18,x 19,x 20,x 21,x 22,x 23,x 24,x 25,x 26,x 27,x 28,x 29,x 30,x 31,x 32,x 33,x 34,.slice (some ⟨fb,fo,none⟩) n c0,.int .i64 n,.int .i64 j,.bool (decide ((j:Int)<n)),.int .i64 j,(.pointer (some ⟨fb,fo+j,none⟩)),fv,ptr r,.int .i64 j,.chan (some c),x 45,x 46,x 47,x 48,x 49,x 50,x 51,x 52,x 53,x 54,x 55,x 56,x 57,x 58,x 59,x 60,x 61,x 62,x 63,x 64,x 65,x 66,x 67,x 68,x 69,x 70,x 71,x 72,x 73,x 74,x 75,x 76,x 77,x 78,x 79,x 80,x 81,x 82,x 83,x 84,x 85,x 86,x 87,x 88,x 89,x 90,x 91,x 92,x 93,x 94,x 95,x 96,x 97,x 98,x 99,x 100,x 101,x 102,x 103,x 104,x 105,x 106,x 107,x 108,x 109,x 110,x 111,x 112,x 113,x 114],[]⟩) ?_;have bc1:w1.heap[c]?=some (.chan 0 #[] false 0 0 false):=by rw[hw1,hc];exact chan_new w _
 have sz1:w1.heap.size=w.heap.size+1:=by rw[hw1,wz']
 have k1:Kp [] w w1:=hw1▸Kp.alloc [] w _;refine hD.pu (.agg #[ptr r,.int .i64 j,.chan (some c),.bool false]) hk (fun w=>pu_build81 (x:=.tmp 42) (y:=.tmp 43) (z:=.tmp 44) rfl rfl rfl rfl) ?_;refine norm0 (a':=⟨#[.slice (some ⟨fb,fo,none⟩) n c0,v1,.int .i64 most,bh,x 4,x 5,x 6,x 7,ptr ob,x 9,x 10,ptr r,ptr all,.int .i64 j,fv,x 15,x 16,x 17,x 18,x 19,x 20,x 21,x 22,x 23,x 24,x 25,x 26,x 27,x 28,x 29,x 30,x 31,x 32,x 33,x 34,.slice (some ⟨fb,fo,none⟩) n c0,.int .i64 n,.int .i64 j,.bool (decide ((j:Int)<n)),.int .i64 j,(.pointer (some ⟨fb,fo+j,none⟩)),fv,ptr r,.int .i64 j,.chan (some c),.agg #[ptr r,.int .i64 j,.chan (some c),.bool false],x 46,x 47,x 48,x 49,x 50,x 51,x 52,x 53,x 54,x 55,x 56,x 57,x 58,x 59,x 60,x 61,x 62,x 63,x 64,x 65,x 66,x 67,x 68,x 69,x 70,x 71,x 72,x 73,x 74,x 75,x 76,x 77,x 78,x 79,x 80,x 81,x 82,x 83,x 84,x 85,x 86,x 87,x 88,x 89,x 90,x 91,x 92,x 93,x 94,x 95,x 96,x 97,x 98,x 99,x 100,x 101,x 102,x 103,x 104,x 105,x 106,x 107,x 108,x 109,x 110,x 111,x 112,x 113,x 114],[]⟩) ?_;obtain⟨b,hb⟩:∃ b,b=w1.heap.size:=⟨_,rfl⟩;obtain⟨w2,hw2⟩:∃ w',w'=w1.alloc (.cells #[ptr r,.int .i64 j,.chan (some c),.bool false] 79):=⟨_,rfl⟩;refine hD.box (n:=0) (u:=(.agg #[ptr r,.int .i64 j,.chan (some c),.bool false])) hk rfl ⟨rfl,rfl,rfl,rfl,nofun⟩ rfl bx81 ?_;rw[← hb,← hw2];refine norm0 (a':=⟨#[.slice (some ⟨fb,fo,none⟩) n c0,v1,.int .i64 most,bh,x 4,x 5,x 6,x 7,ptr ob,x 9,x 10,ptr r,ptr all,.int .i64 j,fv,x 15,x 16,x 17,x 18,x 19,x 20,x 21,x 22,x 23,x 24,x 25,x 26,x 27,x 28,x 29,x 30,x 31,x 32,x 33,x 34,.slice (some ⟨fb,fo,none⟩) n c0,.int .i64 n,.int .i64 j,.bool (decide ((j:Int)<n)),.int .i64 j,(.pointer (some ⟨fb,fo+j,none⟩)),fv,ptr r,.int .i64 j,.chan (some c),.agg #[ptr r,.int .i64 j,.chan (some c),.bool false],ptr b,x 47,x 48,x 49,x 50,x 51,x 52,x 53,x 54,x 55,x 56,x 57,x 58,x 59,x 60,x 61,x 62,x 63,x 64,x 65,x 66,x 67,x 68,x 69,x 70,x 71,x 72,x 73,x 74,x 75,x 76,x 77,x 78,x 79,x 80,x 81,x 82,x 83,x 84,x 85,x 86,x 87,x 88,x 89,x 90,x 91,x 92,x 93,x 94,x 95,x 96,x 97,x 98,x 99,x 100,x 101,x 102,x 103,x 104,x 105,x 106,x 107,x 108,x 109,x 110,x 111,x 112,x 113,x 114],[]⟩) ?_;have bb2:Pl.Blk w2 b [ptr r,.int .i64 j,.chan (some c),.bool false] 79:=by rw[hw2,hb];exact Pl.Blk.new w1 _ 79
 have sz2:w2.heap.size=w1.heap.size+1:=by rw[hw2,wz']
 have k2:Kp [] w1 w2:=hw2▸Kp.alloc [] w1 _;refine hD.as (ptr b) hk ?_;refine norm0 (a':=⟨#[.slice (some ⟨fb,fo,none⟩) n c0,v1,.int .i64 most,bh,x 4,x 5,x 6,x 7,ptr ob,x 9,x 10,ptr r,ptr all,.int .i64 j,fv,ptr b,x 16,x 17,x 18,x 19,x 20,x 21,x 22,x 23,x 24,x 25,x 26,x 27,x 28,x 29,x 30,x 31,x 32,x 33,x 34,.slice (some ⟨fb,fo,none⟩) n c0,.int .i64 n,.int .i64 j,.bool (decide ((j:Int)<n)),.int .i64 j,(.pointer (some ⟨fb,fo+j,none⟩)),fv,ptr r,.int .i64 j,.chan (some c),.agg #[ptr r,.int .i64 j,.chan (some c),.bool false],ptr b,x 47,x 48,x 49,x 50,x 51,x 52,x 53,x 54,x 55,x 56,x 57,x 58,x 59,x 60,x 61,x 62,x 63,x 64,x 65,x 66,x 67,x 68,x 69,x 70,x 71,x 72,x 73,x 74,x 75,x 76,x 77,x 78,x 79,x 80,x 81,x 82,x 83,x 84,x 85,x 86,x 87,x 88,x 89,x 90,x 91,x 92,x 93,x 94,x 95,x 96,x 97,x 98,x 99,x 100,x 101,x 102,x 103,x 104,x 105,x 106,x 107,x 108,x 109,x 110,x 111,x 112,x 113,x 114],[]⟩) ?_;refine hD.e0 ?_;refine hD.s0 ?_;refine h c b w2 (k1.trans k2) ((k2.block c (by omega) (by simp)).trans bc1) bb2 (by omega) (by omega) (by omega) _ ⟨fun q9=>(#[.slice (some ⟨fb,fo,none⟩) n c0,v1,.int .i64 most,bh,x 4,x 5,x 6,x 7,ptr ob,x 9,x 10,ptr r,ptr all,.int .i64 j,fv,ptr b,x 16,x 17,x 18,x 19,x 20,x 21,x 22,x 23,x 24,x 25,x 26,x 27,x 28,x 29,x 30,x 31,x 32,x 33,x 34,.slice (some ⟨fb,fo,none⟩) n c0,.int .i64 n,.int .i64 j,.bool (decide ((j:Int)<n)),.int .i64 j,(.pointer (some ⟨fb,fo+j,none⟩)),fv,ptr r,.int .i64 j,.chan (some c),.agg #[ptr r,.int .i64 j,.chan (some c),.bool false],ptr b,x 47,x 48,x 49,x 50,x 51,x 52,x 53,x 54,x 55,x 56,x 57,x 58,x 59,x 60,x 61,x 62,x 63,x 64,x 65,x 66,x 67,x 68,x 69,x 70,x 71,x 72,x 73,x 74,x 75,x 76,x 77,x 78,x 79,x 80,x 81,x 82,x 83,x 84,x 85,x 86,x 87,x 88,x 89,x 90,x 91,x 92,x 93,x 94,x 95,x 96,x 97,x 98,x 99,x 100,x 101,x 102,x 103,x 104,x 105,x 106,x 107,x 108,x 109,x 110,x 111,x 112,x 113,x 114]:Array Value).getD q9 undef,rfl⟩
def hirAdd (tm:Array Value):Frame:=(base 32).at ⟨tm,[]⟩ [.inRegion (sO (sL (sR (sR (sR (sB (sL (sR (sR (sB (sB (sR (sL (sR (sR (sR (sR c27))))))))))))))))) [0],.code (sR (sR (sR (sR (sB (sL (sR (sR (sB (sB (sR (sL (sR (sR (sR (sR c27)))))))))))))))),.inBlock 1,.code (sR (sR (sR (sB (sB (sR (sL (sR (sR (sR (sR c27))))))))))),.inLoop (sB (sB (sR (sL (sR (sR (sR (sR c27)))))))),.inBlock 0,.code (sR (sR (sR (sR (sR c27)))))]
theorem hir_add {j b:Nat}{fv:Value}(hD:Det Try.prog m fun _=>K)(htm:hirTm3 g0 n c0 v1 most bh ob r all j fv b tm)(h:∀ tm,hirTm3 g0 n c0 v1 most bh ob r all j fv b tm→K (gs (hirAdd tm) cs) w):K (gs ((base 32).at ⟨tm,[]⟩ [.code (sR (sR (sR (sB (sL (sR (sR (sB (sB (sR (sL (sR (sR (sR (sR c27))))))))))))))),.inBlock 1,.code (sR (sR (sR (sB (sB (sR (sL (sR (sR (sR (sR c27))))))))))),.inLoop (sB (sB (sR (sL (sR (sR (sR (sR c27)))))))),.inBlock 0,.code (sR (sR (sR (sR (sR c27)))))]) cs) w:=by
 obtain⟨x,rfl⟩:=htm;have hk:(base 32).kind≠.early:=nofun;refine hD.s0 ?_;refine hD.r0 ?_;exact h _ ⟨fun q9=>(#[.slice g0 n c0,v1,.int .i64 most,bh,x 4,x 5,x 6,x 7,ptr ob,x 9,x 10,ptr r,ptr all,x 13,fv,ptr b,x 16,x 17,x 18,x 19,x 20,x 21,x 22,x 23,x 24,x 25,x 26,x 27,x 28,x 29,x 30,x 31,x 32,x 33,x 34,.slice g0 n c0,.int .i64 n,.int .i64 j,x 38,x 39,x 40,x 41,x 42,x 43,x 44,x 45,x 46,x 47,x 48,x 49,x 50,x 51,x 52,x 53,x 54,x 55,x 56,x 57,x 58,x 59,x 60,x 61,x 62,x 63,x 64,x 65,x 66,x 67,x 68,x 69,x 70,x 71,x 72,x 73,x 74,x 75,x 76,x 77,x 78,x 79,x 80,x 81,x 82,x 83,x 84,x 85,x 86,x 87,x 88,x 89,x 90,x 91,x 92,x 93,x 94,x 95,x 96,x 97,x 98,x 99,x 100,x 101,x 102,x 103,x 104,x 105,x 106,x 107,x 108,x 109,x 110,x 111,x 112,x 113,x 114]:Array Value).getD q9 undef,rfl⟩
theorem hir_at {j b:Nat}{fv:Value}(htm:hirTm3 g0 n c0 v1 most bh ob r all j fv b tm):CallAt Try.prog (hirAdd tm) 38 #[ptr all,.int .i64 1]:=by
 obtain⟨x,rfl⟩:=htm;exact⟨⟨_,_,_,_,_,_,_,rfl,rfl,rfl,rfl,Array.ext' (Array.toList_map.trans rfl),by simp[okO,Lift.flat]⟩,rfl,nofun,rfl,rfl⟩
def hirTm4 (g0:Option Addr)(n c0:Nat)(v1:Value)(most:Int)(bh:Value)(ob r all j:Nat)(fv:Value)(b:Nat)(tm:Array Value):Prop:=∃ x:Nat→Value,tm=#[.slice g0 n c0,v1,.int .i64 most,bh,x 4,x 5,x 6,x 7,ptr ob,x 9,x 10,ptr r,ptr all,x 13,x 14,x 15,x 16,x 17,x 18,x 19,x 20,x 21,x 22,x 23,x 24,x 25,x 26,x 27,x 28,x 29,x 30,x 31,x 32,x 33,x 34,.slice g0 n c0,.int .i64 n,.int .i64 j,x 38,x 39,x 40,x 41,x 42,x 43,x 44,x 45,x 46,x 47,x 48,x 49,x 50,x 51,x 52,x 53,x 54,x 55,x 56,x 57,ptr r,ptr b,fv,x 61,x 62,x 63,x 64,x 65,x 66,x 67,x 68,x 69,x 70,x 71,x 72,x 73,x 74,x 75,x 76,x 77,x 78,x 79,x 80,x 81,x 82,x 83,x 84,x 85,x 86,x 87,x 88,x 89,x 90,x 91,x 92,x 93,x 94,x 95,x 96,x 97,x 98,x 99,x 100,x 101,x 102,x 103,x 104,x 105,x 106,x 107,x 108,x 109,x 110,x 111,x 112,x 113,x 114]
def hirGo (tm:Array Value):Frame:=(base 32).at ⟨tm,[]⟩ [.inRegion (sO (sR (sR (sR (sR (sB (sL (sR (sR (sB (sB (sR (sL (sR (sR (sR (sR c27))))))))))))))))) [3],.inBlock 1,.code (sR (sR (sR (sB (sB (sR (sL (sR (sR (sR (sR c27))))))))))),.inLoop (sB (sB (sR (sL (sR (sR (sR (sR c27)))))))),.inBlock 0,.code (sR (sR (sR (sR (sR c27)))))]
def hirGone (tm:Array Value):Frame:=(base 32).at ⟨tm,[]⟩ [.inRegion (sO (sR (sR (sR (sR (sB (sL (sR (sR (sB (sB (sR (sL (sR (sR (sR (sR c27))))))))))))))))) [],.inBlock 1,.code (sR (sR (sR (sB (sB (sR (sL (sR (sR (sR (sR c27))))))))))),.inLoop (sB (sB (sR (sL (sR (sR (sR (sR c27)))))))),.inBlock 0,.code (sR (sR (sR (sR (sR c27)))))]
theorem hir_go {j b:Nat}{fv:Value}(hD:Det Try.prog m fun _=>K)(htm:hirTm3 g0 n c0 v1 most bh ob r all j fv b tm)(h:∀ tm,hirTm4 g0 n c0 v1 most bh ob r all j fv b tm→K (gs (hirGo tm) cs) w):K (gs ((hirAdd tm).finish (.tuple #[])) cs) w:=by
 obtain⟨x,rfl⟩:=htm;have hk:(base 32).kind≠.early:=nofun;unfold hirAdd;refine fin0 (some 57) ?_;refine norm0 (a':=⟨#[.slice g0 n c0,v1,.int .i64 most,bh,x 4,x 5,x 6,x 7,ptr ob,x 9,x 10,ptr r,ptr all,x 13,fv,ptr b,x 16,x 17,x 18,x 19,x 20,x 21,x 22,x 23,x 24,x 25,x 26,x 27,x 28,x 29,x 30,x 31,x 32,x 33,x 34,.slice g0 n c0,.int .i64 n,.int .i64 j,x 38,x 39,x 40,x 41,x 42,x 43,x 44,x 45,x 46,x 47,x 48,x 49,x 50,x 51,x 52,x 53,x 54,x 55,x 56,.tuple #[],x 58,x 59,x 60,x 61,x 62,x 63,x 64,x 65,x 66,x 67,x 68,x 69,x 70,x 71,x 72,x 73,x 74,x 75,x 76,x 77,x 78,x 79,x 80,x 81,x 82,x 83,x 84,x 85,x 86,x 87,x 88,x 89,x 90,x 91,x 92,x 93,x 94,x 95,x 96,x 97,x 98,x 99,x 100,x 101,x 102,x 103,x 104,x 105,x 106,x 107,x 108,x 109,x 110,x 111,x 112,x 113,x 114],[]⟩) ?_;refine hD.e0 ?_;refine hD.r0 ?_;refine hD.mv (ptr r) hk ?_;refine hD.mv (ptr b) hk ?_;refine hD.mv fv hk ?_;refine norm0 (a':=⟨#[.slice g0 n c0,v1,.int .i64 most,bh,x 4,x 5,x 6,x 7,ptr ob,x 9,x 10,ptr r,ptr all,x 13,fv,ptr b,x 16,x 17,x 18,x 19,x 20,x 21,x 22,x 23,x 24,x 25,x 26,x 27,x 28,x 29,x 30,x 31,x 32,x 33,x 34,.slice g0 n c0,.int .i64 n,.int .i64 j,x 38,x 39,x 40,x 41,x 42,x 43,x 44,x 45,x 46,x 47,x 48,x 49,x 50,x 51,x 52,x 53,x 54,x 55,x 56,.tuple #[],ptr r,ptr b,fv,x 61,x 62,x 63,x 64,x 65,x 66,x 67,x 68,x 69,x 70,x 71,x 72,x 73,x 74,x 75,x 76,x 77,x 78,x 79,x 80,x 81,x 82,x 83,x 84,x 85,x 86,x 87,x 88,x 89,x 90,x 91,x 92,x 93,x 94,x 95,x 96,x 97,x 98,x 99,x 100,x 101,x 102,x 103,x 104,x 105,x 106,x 107,x 108,x 109,x 110,x 111,x 112,x 113,x 114],[]⟩) ?_;exact h _ ⟨fun q9=>(#[.slice g0 n c0,v1,.int .i64 most,bh,x 4,x 5,x 6,x 7,ptr ob,x 9,x 10,ptr r,ptr all,x 13,fv,ptr b,x 16,x 17,x 18,x 19,x 20,x 21,x 22,x 23,x 24,x 25,x 26,x 27,x 28,x 29,x 30,x 31,x 32,x 33,x 34,.slice g0 n c0,.int .i64 n,.int .i64 j,x 38,x 39,x 40,x 41,x 42,x 43,x 44,x 45,x 46,x 47,x 48,x 49,x 50,x 51,x 52,x 53,x 54,x 55,x 56,.tuple #[],ptr r,ptr b,fv,x 61,x 62,x 63,x 64,x 65,x 66,x 67,x 68,x 69,x 70,x 71,x 72,x 73,x 74,x 75,x 76,x 77,x 78,x 79,x 80,x 81,x 82,x 83,x 84,x 85,x 86,x 87,x 88,x 89,x 90,x 91,x 92,x 93,x 94,x 95,x 96,x 97,x 98,x 99,x 100,x 101,x 102,x 103,x 104,x 105,x 106,x 107,x 108,x 109,x 110,x 111,x 112,x 113,x 114]:Array Value).getD q9 undef,rfl⟩
theorem hir_again {j b:Nat}{fv:Value}(hD:Det Try.prog m fun _=>K)(hj:j<8)(htm:hirTm4 g0 n c0 v1 most bh ob r all j fv b tm)(h:∀ tm,hirTm g0 n c0 v1 most bh ob r all (j+1) tm→K (gs (hirHead tm) cs) w):K (gs (hirGone tm) cs) w:=by
 obtain⟨x,rfl⟩:=htm;have hk:(base 32).kind≠.early:=nofun;unfold hirGone;refine hD.e0 ?_;refine hD.inBlock (n:=0) ?_;refine hD.r0 ?_;refine hD.pure (n:=0) (v:=(.int .i64 ((j+1:Nat):Int))) hk rfl ⟨rfl,rfl,rfl,(by decide +kernel),nofun⟩ (fun w=>pu_inc (x:=.tmp 37) rfl rfl (by omega)) ?_;refine hD.mv (.int .i64 ((j+1:Nat):Int)) hk ?_;refine norm0 (a':=⟨#[.slice g0 n c0,v1,.int .i64 most,bh,x 4,x 5,x 6,x 7,ptr ob,x 9,x 10,ptr r,ptr all,x 13,x 14,x 15,x 16,x 17,x 18,x 19,x 20,x 21,x 22,x 23,x 24,x 25,x 26,x 27,x 28,x 29,x 30,x 31,x 32,x 33,x 34,.slice g0 n c0,.int .i64 n,.int .i64 ((j+1:Nat):Int),x 38,x 39,x 40,x 41,x 42,x 43,x 44,x 45,x 46,x 47,x 48,x 49,x 50,x 51,x 52,x 53,x 54,x 55,x 56,x 57,ptr r,ptr b,fv,.int .i64 ((j+1:Nat):Int),x 62,x 63,x 64,x 65,x 66,x 67,x 68,x 69,x 70,x 71,x 72,x 73,x 74,x 75,x 76,x 77,x 78,x 79,x 80,x 81,x 82,x 83,x 84,x 85,x 86,x 87,x 88,x 89,x 90,x 91,x 92,x 93,x 94,x 95,x 96,x 97,x 98,x 99,x 100,x 101,x 102,x 103,x 104,x 105,x 106,x 107,x 108,x 109,x 110,x 111,x 112,x 113,x 114],[]⟩) ?_;refine hD.e0 ?_;refine hD.inLoop (n:=0) ?_;exact h _ ⟨fun q9=>(#[.slice g0 n c0,v1,.int .i64 most,bh,x 4,x 5,x 6,x 7,ptr ob,x 9,x 10,ptr r,ptr all,x 13,x 14,x 15,x 16,x 17,x 18,x 19,x 20,x 21,x 22,x 23,x 24,x 25,x 26,x 27,x 28,x 29,x 30,x 31,x 32,x 33,x 34,.slice g0 n c0,.int .i64 n,.int .i64 ((j+1:Nat):Int),x 38,x 39,x 40,x 41,x 42,x 43,x 44,x 45,x 46,x 47,x 48,x 49,x 50,x 51,x 52,x 53,x 54,x 55,x 56,x 57,ptr r,ptr b,fv,.int .i64 ((j+1:Nat):Int),x 62,x 63,x 64,x 65,x 66,x 67,x 68,x 69,x 70,x 71,x 72,x 73,x 74,x 75,x 76,x 77,x 78,x 79,x 80,x 81,x 82,x 83,x 84,x 85,x 86,x 87,x 88,x 89,x 90,x 91,x 92,x 93,x 94,x 95,x 96,x 97,x 98,x 99,x 100,x 101,x 102,x 103,x 104,x 105,x 106,x 107,x 108,x 109,x 110,x 111,x 112,x 113,x 114]:Array Value).getD q9 undef,rfl⟩
end Go.Proofs.Ytfbjopkiicmiiaa.Lift
namespace Go.Proofs.Ytfbjopkiicmiiaa.Lift
open Go Go.Conc Go.RowKit Pl
theorem info60:(Try.prog.info? 49).map (fun i=>(i.zero,i.size,i.bytes))=some (some (.pointer none),1,8):=by kernel_rfl
abbrev RepP (w:World)(v:Value)(xs:List Nat):Prop:=Rep 49 1 (fun x:Nat=>[ptr x]) w v xs
def r10Q (g0:Option Addr)(n c0:Nat)(v1:Value)(most:Int)(bh:Value)(ob r all j:Nat)(fv:Value)(b:Nat)(bs:List Nat)(ga:Option Addr)(ca:Nat)(sa sk sc:Value)(w:World)(t:Array Value)(w':World):Prop :=
 hirTm3 g0 n c0 v1 most bh ob r all j fv b t∧∃ g cap,RepP w' (.slice (some ⟨g,0,none⟩) (bs.length+1) cap) (bs++[b])∧Blk w' r [.slice (some ⟨g,0,none⟩) (bs.length+1) cap,sa,sk,sc,.bool false] 86∧Kp (r::fp (.slice ga bs.length ca)) w w'∧(g∈fp (.slice ga bs.length ca)∨w.heap.size≤g)
theorem r10_wp (w:World)(x:Nat→Value)(g0:Option Addr)(n c0:Nat)(v1:Value)(most:Int)(bh:Value)(ob r all j:Nat)(fv:Value)(b:Nat)(bs:List Nat)(ga:Option Addr)(ca:Nat)(sa sk sc:Value)
 (hr:Blk w r [.slice ga bs.length ca,sa,sk,sc,.bool false] 86) (ha:RepP w (.slice ga bs.length ca) bs) (hd:r∉fp (.slice ga bs.length ca)) (hn:bs.length≤8) :
 (sL (sR (sR (sB (sL (sR (sR (sB (sB (sR (sL (sR (sR (sR (sR c27))))))))))))))).wp Try.prog (fun e a' w'=>e=.normal∧a'.defers=[]∧r10Q g0 n c0 v1 most bh ob r all j fv b bs ga ca sa sk sc w a'.tmps w') ⟨#[.slice g0 n c0,v1,.int .i64 most,bh,x 4,x 5,x 6,x 7,ptr ob,x 9,x 10,ptr r,ptr all,x 13,fv,ptr b,x 16,x 17,x 18,x 19,x 20,x 21,x 22,x 23,x 24,x 25,x 26,x 27,x 28,x 29,x 30,x 31,x 32,x 33,x 34,.slice g0 n c0,.int .i64 n,.int .i64 j,x 38,x 39,x 40,x 41,x 42,x 43,x 44,x 45,x 46,x 47,x 48,x 49,x 50,x 51,x 52,x 53,x 54,x 55,x 56,x 57,x 58,x 59,x 60,x 61,x 62,x 63,x 64,x 65,x 66,x 67,x 68,x 69,x 70,x 71,x 72,x 73,x 74,x 75,x 76,x 77,x 78,x 79,x 80,x 81,x 82,x 83,x 84,x 85,x 86,x 87,x 88,x 89,x 90,x 91,x 92,x 93,x 94,x 95,x 96,x 97,x 98,x 99,x 100,x 101,x 102,x 103,x 104,x 105,x 106,x 107,x 108,x 109,x 110,x 111,x 112,x 113,x 114],[]⟩ w:=by
 have h3:w.cell? ⟨r,0,none⟩=some (.slice ga bs.length ca):=hr.cell 0;have HQ:Hid (∀ (t:Array Value) (w':World),r10Q g0 n c0 v1 most bh ob r all j fv b bs ga ca sa sk sc w t w'→r10Q g0 n c0 v1 most bh ob r all j fv b bs ga ca sa sk sc w t w'):=Lib.hid fun _ _ h=>h;generalize hG:r10Q g0 n c0 v1 most bh ob r all j fv b bs ga ca sa sk sc w=G at HQ ⊢;have HG:=Lib.hid hG;clear hG;simp only[c27,Try.f32,Option.getD_some,sL,sR,sB,sT,sF];have HA:=Lib.hid (fun(W:World) (k:Keeps [] w W)=>ha.keeps k (by simp));have HR:=Lib.hid hr;have HD:=Lib.hid hd;have hlt:r<w.heap.size:=HR.out.lt;have hap:=cell_one_new w (ptr b) 49;have HP:=Lib.hid hap;clear hr ha hd hap
 go_wp2_with (refine wpList_rep_append rfl (.tmp 51) (.tmp 53) 82 rfl (.pointer none) 8 Try.underlying82 info60 rfl (by decide) (.slice ga bs.length ca) bs rfl (HA.out _ ((Keeps.refl _ _).alloc _)) (fun _=>rfl) ⟨w.heap.size,0,none⟩ 1 1 [b] rfl rfl HP.out (by simp[Value.oneCell']) (by decide) (by unfold maxLen;omega) (by omega) ?_;intro g2 cap2 w2 r2 k2 a2 lg q2;have c2:=(k2.blk (HR.out.alloc _) HD.out).cell 0;have f2:=(k2.blk (HR.out.alloc _) HD.out).frozen 0;have R2:=Lib.hid r2;have K2:=Lib.hid k2;have A2:=Lib.hid a2;clear r2 k2 a2)
 have hg:g2≠r:=fun e=>by
  rcases A2.out with q | q
  ·exact HD.out (e▸q)
  ·rw[wz'] at q;omega
 have kr:Keeps [r] w2 (w2.setCell ⟨r,0,none⟩ (.slice (some ⟨g2,0,none⟩) (bs.length+1) cap2)):=Keeps.setCell (Keeps.refl _ _) _ _ (fun _=>by simp);refine HQ.out _ _ ?_;rw[← HG.out];refine⟨⟨fun q9=>(#[.slice g0 n c0,v1,.int .i64 most,bh,x 4,x 5,x 6,x 7,ptr ob,x 9,x 10,ptr r,ptr all,x 13,fv,ptr b,x 16,x 17,x 18,x 19,x 20,x 21,x 22,x 23,x 24,x 25,x 26,x 27,x 28,x 29,x 30,x 31,x 32,x 33,x 34,.slice g0 n c0,.int .i64 n,.int .i64 j,x 38,x 39,x 40,x 41,x 42,x 43,x 44,x 45,x 46,ptr r,ptr r,ptr r,ptrAt r 0,.slice ga bs.length ca,ptr b,.slice (some ⟨w.heap.size,0,none⟩) 1 1,.slice (some ⟨g2,0,none⟩) (bs.length+1) cap2,ptr r,ptrAt r 0,x 57,x 58,x 59,x 60,x 61,x 62,x 63,x 64,x 65,x 66,x 67,x 68,x 69,x 70,x 71,x 72,x 73,x 74,x 75,x 76,x 77,x 78,x 79,x 80,x 81,x 82,x 83,x 84,x 85,x 86,x 87,x 88,x 89,x 90,x 91,x 92,x 93,x 94,x 95,x 96,x 97,x 98,x 99,x 100,x 101,x 102,x 103,x 104,x 105,x 106,x 107,x 108,x 109,x 110,x 111,x 112,x 113,x 114]:Array Value).getD q9 undef,rfl⟩,g2,cap2,R2.out.keeps kr (by intro b hb;simp[fp,Value.ownBlock] at hb ⊢;omega),((K2.out.blk (HR.out.alloc _) HD.out).set 0 _).of rfl,?_,?_⟩
 ·have k1:=Keeps.kp K2.out
  have k2:=Keeps.kp kr;refine⟨by have:=k1.size;have:=k2.size;rw[wz'] at *;omega,fun b hb hn=>?_⟩;simp only[List.mem_cons,not_or] at hn;rw[k2.block b (by have:=k1.size;rw[wz'] at *;omega) (by simpa using hn.1),k1.block b (by rw[wz'];omega) hn.2];exact Below.heap_alloc w _ b hb
 ·exact A2.out.imp id fun q=>by rw[q,wz'];omega
theorem hir_list {K:Goroutine→World→Prop}{m:Bool}{w:World}{cs:List Frame}{tm:Array Value}{g0:Option Addr}{n c0:Nat}{v1:Value}{most:Int}{bh:Value}{ob r all j:Nat}{fv:Value}{b:Nat}{bs:List Nat}{ga:Option Addr}{ca:Nat}{sa sk sc:Value}(hK:Cl Try.prog m K)
 (hr:Blk w r [.slice ga bs.length ca,sa,sk,sc,.bool false] 86) (ha:RepP w (.slice ga bs.length ca) bs) (hd:r∉fp (.slice ga bs.length ca)) (hn:bs.length≤8) (htm:hirTm3 g0 n c0 v1 most bh ob r all j fv b tm)
 (h:∀ t w',r10Q g0 n c0 v1 most bh ob r all j fv b bs ga ca sa sk sc w t w'→K (gs ((base 32).at ⟨t,[]⟩ [.code (sR (sR (sR (sB (sL (sR (sR (sB (sB (sR (sL (sR (sR (sR (sR c27))))))))))))))),.inBlock 1,.code (sR (sR (sR (sB (sB (sR (sL (sR (sR (sR (sR c27))))))))))),.inLoop (sB (sB (sR (sL (sR (sR (sR (sR c27)))))))),.inBlock 0,.code (sR (sR (sR (sR (sR c27)))))]) cs) w') :
 K (gs ((base 32).at ⟨tm,[]⟩ (.code (sL (sR (sR (sB (sL (sR (sR (sB (sB (sR (sL (sR (sR (sR (sR c27)))))))))))))))::[.code (sR (sR (sR (sB (sL (sR (sR (sB (sB (sR (sL (sR (sR (sR (sR c27))))))))))))))),.inBlock 1,.code (sR (sR (sR (sB (sB (sR (sL (sR (sR (sR (sR c27))))))))))),.inLoop (sB (sB (sR (sL (sR (sR (sR (sR c27)))))))),.inBlock 0,.code (sR (sR (sR (sR (sR c27)))))])) cs) w:=by
 obtain⟨x,rfl⟩:=htm;refine hK.seg fits shut (b:=base 32) ⟨_,Try.func32⟩ nofun (c:=(sL (sR (sR (sB (sL (sR (sR (sB (sB (sR (sL (sR (sR (sR (sR c27)))))))))))))))) (by decide +kernel) (Q:=r10Q g0 n c0 v1 most bh ob r all j fv b bs ga ca sa sk sc w)
  (fun t w' τ d ⟨h1,g,cap,h2,h3,h4,h5⟩=>⟨h1,g,cap,h2,h3,⟨h4.size,h4.block⟩,h5⟩) (fun τ d=>?_) h
 have:=r10_wp (re w τ d) x g0 n c0 v1 most bh ob r all j fv b bs ga ca sa sk sc hr ha hd hn;exact Code.wp_mono (fun e a w' ⟨h1,h2,h3,g,cap,h4,h5,h6,h7⟩=>⟨h1,h2,h3,g,cap,h4,h5,⟨h6.size,h6.block⟩,h7⟩) this
open Go.ConcN (sumTo upd sumTo_upd upd_ne upd_same WgLive)
def updN (f:Nat→Nat)(j v:Nat):Nat→Nat:=fun i=>if i=j then v else f i
theorem updN_same {f:Nat→Nat}{j v:Nat}:updN f j v j=v:=if_pos rfl
theorem updN_ne {f:Nat→Nat}{j v i:Nat}(h:i≠j):updN f j v i=f i:=if_neg h
structure SeatR (r all:Nat)(fn:FuncId)(cap:Array Value)(b cc b0:Nat)(s:SeatS):Prop where
 c:s.c=cc
 z:s.z=.agg #[]
 ok:s.ok=true
 lo:s.lo=b0
 hi:s.hi=b0+2
 at_:∀ g p,s.At g p→g=gs (comeAt b cc) [liveA r b (.func (.func fn) #[] cap) all b0 (b0+1),bot]∧p.heap[b0]?=some (.cells #[ptr r] 76 (0,0))∧p.heap[b0+1]?=some (.cells #[.bool true,.bool true,.bool true,.nilFunc] 72 (0,0))
 lent:∀ x,s.lent x→x<b0∧x≠r
structure HirAt (w0:World)(g0 n r kc st all:Nat)(fn:Nat→FuncId)(cap:Nat→Array Value)(S:SC)(bt ch b0:Nat→Nat)(j:Nat)(ga:Option Addr)(ca s0:Nat):Prop where
 num:S.n=g0+j
 seats:∀ i,i<j→∃ s,S.role (g0+i)=.seat s∧SeatR r all (fn i) (cap i) (bt i) (ch i) (b0 i) s∧∀ x,s.lent x→∀ i',i'<i→x≠bt i'
 old:∀ x,(∀ i,i<j→x≠g0+i)→S.role x=.none
 chk:S.chs kc
 chs:∀ i,i<j→S.chs (ch i)
 wgs:S.wgs all
 pend:S.pend all=0
 grp:∀ x,S.grp x=some all↔∃ i,i<j∧x=g0+i
 grn:∀ x,S.grp x=none∨S.grp x=some all
 fz:∀ i,i<j→S.fz (bt i)
 rm:Pl.Blk S.w r [.slice ga j ca,.slice (some ⟨st,0,none⟩) n n,.chan (some kc),.slice none 0 0,.bool false] 86
 rep:RepP S.w (.slice ga j ca) ((List.range j).map bt)
 stn:∀ (L:Type),Pl.Blk S.w st (standsOf n fun _=>(.fresh:TS L)) 72
 btm:∀ i,i<j→S.w.heap[bt i]?=some (.cells #[ptr r,.int .i64 i,.chan (some (ch i)),.bool false] 79 (0,4))
 size:w0.heap.size≤s0∧s0≤S.w.heap.size
 keep:∀ b,b<w0.heap.size→S.w.heap[b]?=w0.heap[b]?
 lows:(w0.heap.size≤r∧r<s0)∧(w0.heap.size≤kc∧kc<s0)∧(w0.heap.size≤st∧st<s0)∧(w0.heap.size≤all∧all<s0)∧r≠st
 ord:∀ i,i<j→s0≤ch i∧s0≤bt i∧ch i≠bt i∧ch i<b0 i∧bt i<b0 i∧b0 i+1<S.w.heap.size
 inc:∀ i i',i<i'→i'<j→b0 i+1<ch i'∧b0 i+1<bt i'∧b0 i+1<b0 i'
 fps:∀ b∈Pl.fp (.slice ga j ca),s0≤b∧∀ i,i<j→b≠bt i∧b≠b0 i∧b≠b0 i+1
 n0:S.n0≤w0.heap.size
theorem more_cell {w:World}{k b:Nat}{cs:List Value}{t:TypeId}(h:Pl.Blk w b cs t):Pl.Blk (more w k) b cs t:=(more_old h.lt).trans h
theorem more_kp {w:World}{k:Nat}:Kp [] w (more w k):=⟨by rw[more_size];omega,fun b hb _=>more_old hb⟩
theorem x_go {P:Program}{a:Act}{o:Oper}{w:World}{f:FuncId}{ar:Array Operand}{ats:Array TypeId}{args:Array Value}(hop:o.op=.go { callee:=.value (.func f),args:=ar,argTypes:=ats})(ha:ar.toList.map a.eval=args.toList) :
  (execOp a.eval o).run P w=.ok (.spawn { target:=.fn (.func f) #[],args:=args}) w:=by
 have h2:=args_of (a:=a) (cap:=#[]) (ar:=ar) (args:=args) (by simpa using ha);simp only[Array.append_empty] at h2;unfold execOp;rw[hop];have h3:a.eval (.func f)=.func (.func f) #[] #[]:=rfl;generalize a.eval=ρ at h2 h3 ⊢;simp[resolve,Deferred.ofValue,h2,h3]
theorem go_step {m:Bool}{w:World}{cs:List Frame}{g0:Option Addr}{n c0:Nat}{v1:Value}{most:Int}{bh:Value}{ob r all j:Nat}{fv:Value}{b:Nat}{tm:Array Value}(htm:hirTm4 g0 n c0 v1 most bh ob r all j fv b tm) :
  (∀ τ d,∃ es,stepG Try.prog m (gs (hirGo tm) cs) (re w τ d)=.spawn (gs (hirGone tm) cs) (child r b fv all) (re w τ d) es)∧((gs (hirGo tm) cs).frame.mode=.run→okHd Try.prog (gs (hirGo tm) cs).frame.eval (gs (hirGo tm) cs).frame.todo):=by
 obtain⟨x,rfl⟩:=htm;refine⟨fun τ d=>⟨_,stepG_spawn (b:=base 32) (ops:=(sO (sR (sR (sR (sR (sB (sL (sR (sR (sB (sB (sR (sL (sR (sR (sR (sR c27)))))))))))))))))) (i:=3) (rest:=[]) (d:={target:=.fn (.func 39) #[],args:=#[ptr r,ptr b,fv,ptr all]}) rfl rfl nofun (x_go (ar:=#[.tmp 58,.tmp 59,.tmp 60,.tmp 12]) (ats:=#[76,49,55,98]) rfl rfl) rfl⟩,fun _=>okHd_op (b:=base 32) (ops:=(sO (sR (sR (sR (sR (sB (sL (sR (sR (sB (sB (sR (sL (sR (sR (sR (sR c27)))))))))))))))))) (i:=3) rfl (by decide +kernel) nofun⟩
theorem hire_count {S:SC}{g0 all j:Nat}(hn:S.n=g0+j)(hg:∀ x,S.grp x=some all↔∃ i,i<j∧x=g0+i)(u:Nat→Bool):sumTo S.n (cnt S u all)≤j:=by
 have key:∀ k,k≤j→sumTo (g0+k) (cnt S u all)≤k:=by
  intro k
  induction k with
  | zero =>
   intro _;have:∀ m,m≤g0→sumTo m (cnt S u all)=0:=by
    intro m
    induction m with
    | zero=>intro _;rfl
    | succ m ih =>
     intro hm;show sumTo m _+cnt S u all m=0;rw[ih (by omega)];unfold cnt;rw[if_neg fun h=>by obtain⟨i,_,e⟩:=(hg m).1 h.1;omega]
   exact Nat.le_of_eq (this g0 (Nat.le_refl _))
  | succ k ih =>
   intro hk;show sumTo (g0+k) _+cnt S u all (g0+k)≤k+1;have h1:=ih (by omega);have h2:cnt S u all (g0+k)≤1:=by unfold cnt;split<;>omega
   omega
 rw[hn];exact key j (Nat.le_refl _)
section
variable {Post:Value→World→Prop}{w0:World}{g0n:Nat}{n c0:Nat}{v1 bh:Value}{most:Int}{ob r kc st all:Nat}{fn:Nat→FuncId}{cap:Nat→Array Value}{S:SC}{bt ch b0:Nat→Nat}{j:Nat}{ga:Option Addr}{ca s0 fb fo:Nat}{cs:List Frame}{tm:Array Value}
theorem hire_one (hg0:0<g0n)(hn8:n≤8)(hj:j<n)(H:HirAt w0 g0n n r kc st all fn cap S bt ch b0 j ga ca s0)(hfb:fb<w0.heap.size)(hfv:w0.cell? ⟨fb,fo+j,none⟩=some (.func (.func (fn j)) #[] (cap j)))
  (htm:hirTm (some ⟨fb,fo,none⟩) n c0 v1 most bh ob r all j tm)
  (hnext:∀ S' bt' ch' b0' ga' ca' tm',HirAt w0 g0n n r kc st all fn cap S' bt' ch' b0' (j+1) ga' ca' s0→S'.n0=S.n0→S'.W0=S.W0→S.w.heap.size≤S'.w.heap.size→hirTm (some ⟨fb,fo,none⟩) n c0 v1 most bh ob r all (j+1) tm'→Sound Try.prog link.tWg Post 0 S' (gs (hirHead tm') cs)) :
  Sound Try.prog link.tWg Post 0 S (gs (hirHead tm) cs):=by
 have hK:=clS (Post:=Post) S;obtain⟨⟨lr0,lr1⟩,⟨lk0,lk1⟩,⟨lt0,lt1⟩,⟨la0,la1⟩,lrs⟩:=H.lows;obtain⟨hs1,hs2⟩:=H.size;have hfv':S.w.cell? ⟨fb,fo+j,none⟩=some (.func (.func (fn j)) #[] (cap j)):=by
  unfold World.cell? at hfv ⊢;rw[H.keep fb hfb];exact hfv
 refine ks (S:=S) (hir_make hK.det hj hfv' htm fun c b w1 k1 hc1 hb1 hcl hbl hcb tm1 htm1=>?_) rfl;show Sound Try.prog link.tWg Post 0 { S with w:=w1} _;have hnseat:∀ x s,S.role x=.seat s→∃ i,i<j∧x=g0n+i:=fun x s hs=>by
  apply Classical.byContradiction;intro hn;rw[H.old x fun i hi e=>hn ⟨i,hi,e⟩] at hs;cases hs
 have hlen:∀ x s,S.role x=.seat s→∀ y,s.lent y→y<S.w.heap.size∧y≠r:=fun x s hs y hy=>by
  obtain⟨i,hi,rfl⟩:=hnseat x s hs;obtain⟨s',h1,h2,_⟩:=H.seats i hi;rw[hs] at h1;cases h1;obtain⟨q1,q2⟩:=h2.lent y hy;have:=(H.ord i hi).2.2.2.2.2;exact⟨by omega,q2⟩
 refine sound_hide (S:={S with w:=w1}) (c:=c) (k:=0) hc1 (by show S.n0≤c;have:=H.n0;omega) (fun x s hs hl=>by have:=(hlen x s hs c hl).1;omega) ?_;have hc1':c<w1.heap.size:=(aq' hc1).1;have hbn:Pl.Blk (setB w1 c poison) b [ptr r,.int .i64 j,.chan (some c),.bool false] 79:=(setB_ne (Ne.symm hcb)).trans hb1;refine sound_freeze (S:={S with w:=setB w1 c poison,chs:=fun x=>S.chs x∨x=c}) (b:=b) hbn (by show S.n0≤b;have:=H.n0;omega) (fun x s hs hl=>by have:=(hlen x s hs b hl).1;omega) ?_;have e4:([ptr r,.int .i64 j,.chan (some c),.bool false]:List Value).toArray.size=4:=rfl;rw[e4];generalize hw2:setB (setB w1 c poison) b (.cells [ptr r,.int .i64 j,.chan (some c),.bool false].toArray 79 (0,4))=w2;have hb2:w2.heap[b]?=some (.cells #[ptr r,.int .i64 j,.chan (some c),.bool false] 79 (0,4)):=by rw[← hw2];exact setB_self (by rw[setB_size];exact hb1.lt)
 have hc2:w2.heap[c]?=some poison:=by rw[← hw2];exact(setB_ne hcb).trans (setB_self hc1')
 have q2:∀ x,x≠c→x≠b→w2.heap[x]?=w1.heap[x]?:=fun x h1 h2=>by rw[← hw2];exact(setB_ne h2).trans (setB_ne h1)
 have s2:w2.heap.size=w1.heap.size:=by rw[← hw2,setB_size,setB_size]
 have q02:∀ x,x<S.w.heap.size→w2.heap[x]?=S.w.heap[x]?:=fun x hx=>(q2 x (by omega) (by omega)).trans (k1.block x hx (by simp));have z12:S.w.heap.size≤w2.heap.size:=by rw[s2];exact k1.size
 show Sound Try.prog link.tWg Post 0 { S with w:=w2,chs:=fun x=>S.chs x∨x=c,fz:=fun x=>S.fz x∨x=b} _;have hK2:=clS (Post:=Post) ({S with w:=w2,chs:=fun x=>S.chs x∨x=c,fz:=fun x=>S.fz x∨x=b});have hbs:((List.range j).map bt).length=j:=by simp
 have hrm2:Pl.Blk w2 r [.slice ga ((List.range j).map bt).length ca,.slice (some ⟨st,0,none⟩) n n,.chan (some kc),.slice none 0 0,.bool false] 86:=by rw[hbs];exact(q02 r (by omega)).trans H.rm
 have hrep2:RepP w2 (.slice ga ((List.range j).map bt).length ca) ((List.range j).map bt):=by
  rw[hbs];exact rep_same H.rep z12 fun y hy=>q02 y (H.rep.fp_lt y hy)
 have hrn:r∉Pl.fp (.slice ga ((List.range j).map bt).length ca):=by
  rw[hbs];intro hm;have:=(H.fps r hm).1;omega
 refine ks (S:={S with w:=w2,chs:=fun x=>S.chs x∨x=c,fz:=fun x=>S.fz x∨x=b}) (hir_list hK2 hrm2 hrep2 hrn (by omega) htm1 fun tm2 w3 hq=>?_) rfl;obtain⟨htm2,g,cap2,hrep3,hrm3,k3,hg⟩:=hq;rw[hbs] at hrep3 hrm3 k3 hg;have hl3:∀ x,x<w2.heap.size→x≠r→x∉Pl.fp (.slice ga j ca)→w3.heap[x]?=w2.heap[x]?:=fun x hx h1 h2=>k3.block x hx (by simp only[List.mem_cons,not_or];exact⟨h1,h2⟩);show Sound Try.prog link.tWg Post 0 { S with w:=w3,chs:=fun x=>S.chs x∨x=c,fz:=fun x=>S.fz x∨x=b} _;have hK3:=clS (Post:=Post) ({S with w:=w3,chs:=fun x=>S.chs x∨x=c,fz:=fun x=>S.fz x∨x=b});refine ks (S:={S with w:=w3,chs:=fun x=>S.chs x∨x=c,fz:=fun x=>S.fz x∨x=b}) (hir_add hK3.det htm2 fun tm3 htm3=>?_) rfl;show Sound Try.prog link.tWg Post 0 { S with w:=w3,chs:=fun x=>S.chs x∨x=c,fz:=fun x=>S.fz x∨x=b} _;refine sound_into fits (hir_at htm3) (sound_add (L:=link) (S:={S with w:=w3,chs:=fun x=>S.chs x∨x=c,fz:=fun x=>S.fz x∨x=b}) (b:=all) wgLib fits H.wgs ?_ ?_)
 ·show S.pend all+1+sumTo S.n (cnt S (fun _=>true) all)<1000
  have:=hire_count H.num H.grp (fun _=>true);have:=H.pend;omega
 ·have hK4:=clS (Post:=Post) (({S with w:=w3,chs:=fun x=>S.chs x∨x=c,fz:=fun x=>S.fz x∨x=b}:SC).up all)
  refine ks (S:=({S with w:=w3,chs:=fun x=>S.chs x∨x=c,fz:=fun x=>S.fz x∨x=b}:SC).up all) (w:=w3) (hir_go hK4.det htm3 fun tm4 htm4=>?_) rfl;show Sound Try.prog link.tWg Post 0 (({S with w:=w3,chs:=fun x=>S.chs x∨x=c,fz:=fun x=>S.fz x∨x=b}:SC).up all) _;have hb3:w3.heap[b]?=some (.cells #[ptr r,.int .i64 j,.chan (some c),.bool false] 79 (0,4)):=(hl3 b (aq' hb2).1 (by omega) fun hm=>by have:=H.rep.fp_lt b hm;omega).trans hb2;have z23:w2.heap.size≤w3.heap.size:=k3.size;have hbc3:Cel w3 b [ptr r,.int .i64 j,.chan (some c),.bool false] 79:=⟨_,hb3⟩
  let s:SeatS:={c:=c,z:=.agg #[],ok:=true,lent:=lentOf w3 b,lo:=w3.heap.size,hi:=w3.heap.size+2,At:=fun g p=>g=gs (comeAt b c) [liveA r b (.func (.func (fn j)) #[] (cap j)) all w3.heap.size (w3.heap.size+1),bot]∧p.heap[w3.heap.size]?=some (.cells #[ptr r] 76 (0,0))∧p.heap[w3.heap.size+1]?=some (.cells #[.bool true,.bool true,.bool true,.nilFunc] 72 (0,0))}
  have hA:Blind s.At:=fun g w τ d h=>h;have hrlt:r<w3.heap.size:=hrm3.lt;have hlents:∀ x,lentOf w3 b x→x<w3.heap.size∧x≠r:=fun x hx=>by
   refine⟨?_,lentOf_ne hx ⟨_,_,_,hrm3⟩ (by omega)⟩;rcases hx with rfl | ⟨a,l,h⟩
   ·exact hbc3.lt
   ·exact(aq' h).1
  obtain⟨hstep,hokh⟩:=go_step (m:=true) (w:=w3) (cs:=cs) htm4;refine sound_hire (S:=({S with w:=w3,chs:=fun x=>S.chs x∨x=c,fz:=fun x=>S.fz x∨x=b}:SC).up all) (s:=s) (b:=all) (g':=gs (hirGone tm4) cs) (child:=child r b (.func (.func (fn j)) #[] (cap j)) all) fits hokh
   ⟨rfl,by show w3.heap.size≤w3.heap.size+2;omega,.inr rfl,lentOf_still hb3,fun y a l h=>.inr ⟨a,l,h⟩,fun x s1 hs1 e=>?_,H.wgs,by show 0<(if all=all then S.pend all+1 else S.pend all);rw[if_pos rfl];omega⟩ hstep rfl ?_ ?_
  ·obtain⟨i,hi,rfl⟩:=hnseat x s1 hs1
   obtain⟨s',h1,h2,_⟩:=H.seats i hi;have hs1':S.role (g0n+i)=.seat s1:=hs1;rw[hs1'] at h1;cases h1;have h3:=h2.c.symm.trans e;have h4:=(H.ord i hi);have h5:s.c=c:=rfl;omega
  ·have hwk:=live_to (Kn:=KW Try.prog false s) (n:=0) (det_walk hA) (w:=only s.lent w3) (b:=b) (c:=c) (r:=r) (body:=.func (.func (fn j)) #[] (cap j)) (all:=all) (by rw[only_size];exact hbc3.lt) ((only_cell (.inl rfl)).trans (hbc3.cell 2)) ?_
   ·exact⟨_,hwk.2⟩
   ·rw[only_size]
    have hsz:((only s.lent w3).alloc (.cells #[ptr r] 76)).heap.size=w3.heap.size+1:=by rw[wz',only_size]
    refine walk_at ?_ (come_at rfl rfl rfl ⟨rfl,?_,?_⟩)
    ·rw[wz',hsz];exact Nat.le_refl _
    ·have h1:=chan_new (only s.lent w3) (.cells #[ptr r] 76)
     rw[only_size] at h1;exact(Go.RowKit.Below.heap_alloc _ _ _ (by rw[hsz];omega)).trans h1
    ·have h1:=chan_new ((only s.lent w3).alloc (.cells #[ptr r] 76)) (.cells #[.bool true,.bool true,.bool true,.nilFunc] 72)
     rw[hsz] at h1;exact h1
  ·have hwf:((({S with w:=w3,chs:=fun x=>S.chs x∨x=c,fz:=fun x=>S.fz x∨x=b}:SC).up all).hire s all).w=more w3 2:=by
    show more w3 (w3.heap.size+2-w3.heap.size)=_;rw[show w3.heap.size+2-w3.heap.size=2 by omega]
   have hrolef:∀ x,((({S with w:=w3,chs:=fun x=>S.chs x∨x=c,fz:=fun x=>S.fz x∨x=b}:SC).up all).hire s all).role x=if x=S.n then .seat s else S.role x:=fun x=>rfl;have hgrpf:∀ x,((({S with w:=w3,chs:=fun x=>S.chs x∨x=c,fz:=fun x=>S.fz x∨x=b}:SC).up all).hire s all).grp x=if x=S.n then some all else S.grp x:=fun x=>rfl;have hpendf:((({S with w:=w3,chs:=fun x=>S.chs x∨x=c,fz:=fun x=>S.fz x∨x=b}:SC).up all).hire s all).pend all=0:=by
    show(if all=all then (if all=all then S.pend all+1 else S.pend all)-1 else _)=0;rw[if_pos rfl,if_pos rfl,H.pend]
   have hrest:((({S with w:=w3,chs:=fun x=>S.chs x∨x=c,fz:=fun x=>S.fz x∨x=b}:SC).up all).hire s all).n=S.n+1∧((({S with w:=w3,chs:=fun x=>S.chs x∨x=c,fz:=fun x=>S.fz x∨x=b}:SC).up all).hire s all).chs=(fun x=>S.chs x∨x=c)∧((({S with w:=w3,chs:=fun x=>S.chs x∨x=c,fz:=fun x=>S.fz x∨x=b}:SC).up all).hire s all).wgs=S.wgs ∧
    ((({S with w:=w3,chs:=fun x=>S.chs x∨x=c,fz:=fun x=>S.fz x∨x=b}:SC).up all).hire s all).fz=(fun x=>S.fz x∨x=b)∧((({S with w:=w3,chs:=fun x=>S.chs x∨x=c,fz:=fun x=>S.fz x∨x=b}:SC).up all).hire s all).n0=S.n0∧((({S with w:=w3,chs:=fun x=>S.chs x∨x=c,fz:=fun x=>S.fz x∨x=b}:SC).up all).hire s all).W0=S.W0:=⟨rfl,rfl,rfl,rfl,rfl,rfl⟩
   generalize ((({S with w:=w3,chs:=fun x=>S.chs x∨x=c,fz:=fun x=>S.fz x∨x=b}:SC).up all).hire s all)=S5 at hwf hrolef hgrpf hpendf hrest ⊢;obtain⟨h5n,h5c,h5w,h5f,h5n0,h5W⟩:=hrest;have hK5:=clS (Post:=Post) S5;refine ks (S:=S5) (w:=S5.w) (hir_again hK5.det (by omega) htm4 fun tm5 htm5=>?_) rfl;show Sound Try.prog link.tWg Post 0 S5 _;have hnum:=H.num;have hmk:∀ x,x<w3.heap.size→S5.w.heap[x]?=w3.heap[x]?:=fun x hx=>by rw[hwf];exact more_old hx
   have hms:S5.w.heap.size=w3.heap.size+2:=by rw[hwf,more_size]
   have hold3:∀ x,x<S.w.heap.size→x≠r→x∉Pl.fp (.slice ga j ca)→S5.w.heap[x]?=S.w.heap[x]?:=fun x hx h1 h2=>(hmk x (by omega)).trans ((hl3 x (by omega) h1 h2).trans (q02 x hx));have hmap:(List.range (j+1)).map (updN bt j b)=(List.range j).map bt++[b]:=by
    rw[List.range_succ,List.map_append];congr 1
    ·exact List.map_congr_left fun x hx=>updN_ne (by have:=List.mem_range.1 hx;omega)
    ·simp[updN]
   have hgs:s0≤g∧g<w3.heap.size∧g≠r∧g≠b∧∀ i,i<j→g≠bt i∧g≠b0 i∧g≠b0 i+1:=by
    have h1:=hrep3.fp_lt g (by simp[Pl.fp,Value.ownBlock]);rcases hg with q | q
    ·have h2:=H.fps g q
     have h3:=H.rep.fp_lt g q;exact⟨h2.1,h1,by omega,by omega,h2.2⟩
    ·have hb2l:=(aq' hb2).1
     refine⟨by omega,h1,by omega,by omega,fun i hi=>?_⟩;have:=H.ord i hi;omega
   refine hnext S5 (updN bt j b) (updN ch j c) (updN b0 j w3.heap.size) (some ⟨g,0,none⟩) cap2 tm5 ?_ h5n0 h5W (by omega) htm5;refine⟨by omega,fun i hi=>?_,fun x hx=>?_,by rw[h5c];exact .inl H.chk,fun i hi=>?_,by rw[h5w];exact H.wgs,hpendf,fun x=>?_,fun x=>?_,fun i hi=>?_,by rw[hwf];exact more_cell hrm3,?_,fun L=>?_,fun i hi=>?_,⟨hs1,by omega⟩,fun x hx=>?_,H.lows,fun i hi=>?_,fun i i' hi hi'=>?_,fun x hx=>?_,by rw[h5n0];exact H.n0⟩
   ·by_cases e:i=j
    ·subst e
     refine⟨s,by rw[hrolef,if_pos hnum.symm],?_,fun x hx i' hi'=>?_⟩
     ·rw[updN_same,updN_same,updN_same]
      exact⟨rfl,rfl,rfl,rfl,rfl,fun g p h=>h,hlents⟩
     ·rw[updN_ne (by omega)]
      have hcb:=H.btm i' hi';have hlt:=(aq' hcb).1;refine lentOf_ne (w:=w3) hx ⟨_,_,_,((hl3 (bt i') (by omega) (by have:=H.ord i' hi';omega) fun hm=>((H.fps _ hm).2 i' hi').1 rfl).trans ((q02 _ hlt).trans hcb))⟩ (by omega)
    ·obtain⟨s',h1,h2,h3⟩:=H.seats i (by omega)
     refine⟨s',by rw[hrolef,if_neg (by omega)];exact h1,by rw[updN_ne e,updN_ne e,updN_ne e];exact h2,fun x hx i' hi'=>?_⟩;rw[updN_ne (by omega)];exact h3 x hx i' hi'
   ·rw[hrolef,if_neg (by have:=hx j (by omega);omega)]
    exact H.old x fun i hi=>hx i (by omega)
   ·rw[h5c]
    by_cases e:i=j
    ·subst e;rw[updN_same];exact .inr rfl
    ·rw[updN_ne e];exact .inl (H.chs i (by omega))
   ·rw[hgrpf]
    by_cases e:x=S.n
    ·rw[if_pos e]
     exact⟨fun _=>⟨j,by omega,by omega⟩,fun _=>rfl⟩
    ·rw[if_neg e,H.grp x]
     exact⟨fun⟨i,h1,h2⟩=>⟨i,by omega,h2⟩,fun⟨i,h1,h2⟩=>⟨i,by omega,h2⟩⟩
   ·rw[hgrpf]
    by_cases e:x=S.n
    ·rw[if_pos e];exact .inr rfl
    ·rw[if_neg e];exact H.grn x
   ·rw[h5f]
    by_cases e:i=j
    ·subst e;rw[updN_same];exact .inr rfl
    ·rw[updN_ne e];exact .inl (H.fz i (by omega))
   ·rw[hmap]
    exact rep_same hrep3 (by omega) fun y hy=>hmk y (hrep3.fp_lt y hy)
   ·have h1:=H.stn L
    exact(hold3 st (by omega) (Ne.symm lrs) fun hm=>by have:=(H.fps _ hm).1;omega).trans h1
   ·by_cases e:i=j
    ·subst e
     rw[updN_same,updN_same];exact(hmk b hbc3.lt).trans hb3
    ·rw[updN_ne e,updN_ne e]
     have hi':i<j:=by omega
     have hcb:=H.btm i hi';have hlt:=(aq' hcb).1;exact(hold3 _ hlt (by have:=H.ord i hi';omega) fun hm=>((H.fps _ hm).2 i hi').1 rfl).trans hcb
   ·exact(hold3 x (by omega) (by omega) fun hm=>by have:=(H.fps _ hm).1;omega).trans (H.keep x hx)
   ·have hb2l:=(aq' hb2).1
    have hc2l:=(aq' hc2).1;by_cases e:i=j
    ·subst e
     rw[updN_same,updN_same,updN_same];omega
    ·rw[updN_ne e,updN_ne e,updN_ne e]
     have:=H.ord i (by omega);omega
   ·have h1:=H.ord i (by omega)
    rw[updN_ne (by omega:i≠j)];by_cases e:i'=j
    ·subst e
     rw[updN_same,updN_same,updN_same];omega
    ·rw[updN_ne e,updN_ne e,updN_ne e]
     exact H.inc i i' hi (by omega)
   ·obtain rfl:x=g:=by simpa[Pl.fp,Value.ownBlock] using hx
    obtain⟨h1,h2,h3,h4,h5⟩:=hgs;refine⟨h1,fun i hi=>?_⟩;by_cases e:i=j
    ·subst e
     rw[updN_same,updN_same];omega
    ·rw[updN_ne e,updN_ne e]
     exact h5 i (by omega)
end
section
variable {Post:Value→World→Prop}{w0:World}{g0n:Nat}{n c0:Nat}{v1 bh:Value}{most:Int}{ob r kc st all:Nat}{fn:Nat→FuncId}{cap:Nat→Array Value}{s0 fb fo:Nat}{cs:List Frame}
theorem hire_all (hg0:0<g0n)(hn8:n≤8)(hfb:fb<w0.heap.size)(hfv:∀ j,j<n→w0.cell? ⟨fb,fo+j,none⟩=some (.func (.func (fn j)) #[] (cap j))) :
  ∀ (k j:Nat) (S:SC) (bt ch b0:Nat→Nat) (ga:Option Addr) (ca:Nat) (tm:Array Value),k=n-j→j≤n→HirAt w0 g0n n r kc st all fn cap S bt ch b0 j ga ca s0→hirTm (some ⟨fb,fo,none⟩) n c0 v1 most bh ob r all j tm →
  (∀ S' bt' ch' b0' ga' ca' tm',HirAt w0 g0n n r kc st all fn cap S' bt' ch' b0' n ga' ca' s0→S'.n0=S.n0→S'.W0=S.W0→S.w.heap.size≤S'.w.heap.size→watTm (.slice (some ⟨fb,fo,none⟩) n c0) v1 most bh ob r all v1 tm'→Sound Try.prog link.tWg Post 0 S' (gs (watHead tm') cs)) →
  Sound Try.prog link.tWg Post 0 S (gs (hirHead tm) cs):=by
 intro k
 induction k with
 | zero =>
  intro j S bt ch b0 ga ca tm hk hj H htm hnext;obtain rfl:j=n:=by omega
  have hK:=clS (Post:=Post) S;exact ks (S:=S) (hir_end hK.det (Nat.le_refl _) htm fun tm' htm'=>hnext S bt ch b0 ga ca tm' H rfl rfl (Nat.le_refl _) htm') rfl
 | succ k ih =>
  intro j S bt ch b0 ga ca tm hk hj H htm hnext;refine hire_one hg0 hn8 (by omega) H hfb (hfv j (by omega)) htm fun S' bt' ch' b0' ga' ca' tm' H' e1 e2 e3 htm'=>?_;exact ih (j+1) S' bt' ch' b0' ga' ca' tm' (by omega) (by omega) H' htm' fun S2 bt2 ch2 b02 ga2 ca2 tm2 H2 f1 f2 f3 htm2=>hnext S2 bt2 ch2 b02 ga2 ca2 tm2 H2 (f1.trans e1) (f2.trans e2) (Nat.le_trans e3 f3) htm2
end
def wcOf (g0n n r kc st all:Nat)(fn:Nat→FuncId)(cap:Nat→Array Value)(bt ch b0:Nat→Nat)(gb cb:Nat):WC :=
 { n:=n,r:=r,k:=kc,st:=st,gb:=gb,cb:=cb,all:=all,g0:=g0n,bt:=bt,ch:=ch,b0:=b0,fn:=fn,cap:=cap}
section
variable {L A:Type}{w0:World}{g0n n r kc st all:Nat}{fn:Nat→FuncId}{cap:Nat→Array Value}{S:SC}{bt ch b0:Nat→Nat}{ga:Option Addr}{ca s0:Nat}
theorem hired (hg0:0<g0n)(hn:0<n)(hn8:n≤8)(H:HirAt w0 g0n n r kc st all fn cap S bt ch b0 n ga ca s0) :
  ∃ gb,ga=some ⟨gb,0,none⟩∧(wcOf g0n n r kc st all fn cap bt ch b0 gb ca).Ok∧(∀ B:Bods L A,Seats B (wcOf g0n n r kc st all fn cap bt ch b0 gb ca) S (fun _=>.fresh) n)∧WMem (wcOf g0n n r kc st all fn cap bt ch b0 gb ca) (fun _=>(.fresh:TS L)) [] none 0 (0,0) 0 S.w ∧
   ∀ b,(wcOf g0n n r kc st all fn cap bt ch b0 gb ca).Y (.slice none 0 0) b→w0.heap.size≤b∧(b<s0→b=r∨b=st):=by
 obtain⟨⟨lr0,lr1⟩,⟨lk0,lk1⟩,⟨lt0,lt1⟩,⟨la0,la1⟩,lrs⟩:=H.lows;obtain⟨hs1,hs2⟩:=H.size;have hlen:((List.range n).map bt).length=n:=by simp
 have hrep:RepP S.w (.slice ga n ca) ((List.range n).map bt):=H.rep;obtain⟨gb,cap',e,hgl,_⟩:=hrep.ex (by rw[hlen];exact hn);rw[hlen] at e;cases e;have hfp:=H.fps gb (by simp[Pl.fp,Value.ownBlock]);have hrw:=H.rm;have hn0:=H.n0;refine⟨gb,rfl,⟨hn8,hg0,fun i hi=>?_,fun i hi=>?_,fun i hi=>?_,fun i hi=>?_,fun i j hi hj=>?_,⟨?_,?_,?_⟩,fun i hi=>?_,fun i j hi hj=>?_,fun i j hi hj e=>?_,fun i j hi hj e=>?_,fun i hi=>?_⟩,fun B=>?_,?_,fun b hb=>?_⟩
 ·have:=H.ord i hi;show st≠b0 i∧st≠b0 i+1;omega
 ·have:=H.ord i hi;show r≠b0 i∧r≠b0 i+1;omega
 ·exact(hfp.2 i hi).2
 ·have:=H.ord i hi;show bt i≠r;omega
 ·have h1:=H.ord i hi
  have h2:=H.ord j hj;show bt i≠b0 j∧bt i≠b0 j+1;rcases Nat.lt_trichotomy i j with q | q | q
  ·have:=H.inc i j q hj;omega
  ·subst q;omega
  ·have:=H.inc j i q hi;omega
 ·show r≠gb;omega
 ·exact lrs
 ·show gb≠st;omega
 ·have h1:=H.ord i hi
  exact⟨Ne.symm (hfp.2 i hi).1,by show bt i≠st;omega⟩
 ·exact(H.inc i j hi hj).2.2
 ·have h1:=H.ord i hi
  have h2:=H.ord j hj;have e':bt i=bt j:=e;rcases Nat.lt_trichotomy i j with q | q | q
  ·have:=H.inc i j q hj;omega
  ·exact q
  ·have:=H.inc j i q hi;omega
 ·have h1:=H.ord i hi
  have h2:=H.ord j hj;have e':ch i=ch j:=e;rcases Nat.lt_trichotomy i j with q | q | q
  ·have:=H.inc i j q hj;omega
  ·exact q
  ·have:=H.inc j i q hi;omega
 ·have:=H.ord i hi;show ch i≠kc;omega
 ·refine⟨H.num,fun i hi _ _=>?_,fun i l rv _ _ e=>(by cases e),fun i _ _ e=>(by cases e),fun j h0 hall=>H.old j hall,H.chk,fun i hi _=>H.chs i hi,H.wgs,H.pend,H.grp,H.grn,fun i hi _=>H.fz i hi,?_,fun i hi=>?_⟩
  ·obtain⟨s,h1,h2,h3⟩:=H.seats i hi
   refine⟨s,h1,h2.c,h2.z,h2.ok,h2.lo,h2.hi,fun x hx=>⟨(h2.lent x hx).2,fun j hj hne=>?_⟩,h2.at_⟩;rcases Nat.lt_or_gt_of_ne hne with q | q
   ·exact h3 x hx j q
   ·have h4:=(h2.lent x hx).1
    have h5:=H.inc i j q hj;show x≠bt j;omega
  ·show S.n0≤r;omega
  ·have:=H.ord i hi;show S.n0≤bt i;omega
 ·refine⟨hrw,?_,H.stn L,fun i _ hi=>H.btm i hi,fun i l rv _ e=>(by cases e),Pl.Rep.nil,fun b hb=>(by simp[Pl.fp,Value.ownBlock] at hb),fun j hj=>?_⟩
  ·rcases hrep.2 with⟨h,_⟩ | ⟨g,cp,cur,h1,_,h2,_⟩
   ·cases h
   ·injection h1 with h1 h3 h4
    cases h1;refine⟨cur.toList,h2,fun i hi=>?_⟩;have h3:Pl.Blk S.w gb cur.toList 49:=h2;rw[← h3.cell i];refine hrep.cell1 (fun _=>rfl) i (bt i) ?_;rw[List.getElem?_map,List.getElem?_range (show i<n from hi)];rfl
  ·have:=H.ord j hj
   show b0 j+1<_∧bt j<_;omega
 ·rcases hb with e | e | e | e | ⟨i,hi,e⟩
  ·have e':b=r:=e;omega
  ·have e':b=gb:=e;omega
  ·have e':b=st:=e;omega
  ·simp[Pl.fp,Value.ownBlock] at e
  ·have h1:=H.ord i hi
   rcases e with e | e | e
   ·have e':b=bt i:=e;omega
   ·have e':b=b0 i:=e;omega
   ·have e':b=b0 i+1:=e;omega
end
section
variable {L A:Type}{B B':Bods L A}{n:Nat}{beh:A→A}
theorem readies_congr (hr:B.rdy=B'.rdy)(x:RunSt L A):readies B n x=readies B' n x:=by
 unfold readies;congr 1;funext i;unfold rdyE;rw[hr]
theorem runF_congr (hg:B.go=B'.go)(hr:B.rdy=B'.rdy)(k:Nat):∀ x,runF B n beh k x=runF B' n beh k x:=by
 induction k with
 | zero=>exact fun x=>rfl
 | succ k ih =>
  intro x;unfold runF;rw[readies_congr hr];have:∀ i l,oneAct B beh x i l=oneAct B' beh x i l:=fun i l=>by unfold oneAct;rw[hg]
  rw[this,ih]
theorem chosen_left {rs acts left:List Nat}:(chosen rs acts left).2.length≤left.length:=by
 unfold chosen;cases left with
 | cons p l=>show l.length≤_;simp
 | nil=>cases acts.getLast?<;>exact Nat.le_refl _
theorem runF_left (k:Nat):∀ x:RunSt L A,(runF B n beh k x).left.length≤x.left.length:=by
 induction k with
 | zero=>exact fun x=>Nat.le_refl _
 | succ k ih =>
  intro x;unfold runF;split
  ·exact Nat.le_refl _
  ·exact Nat.le_trans (ih _) chosen_left
end
def isDoneE {L:Type}:ES L→Bool
 | .done=>true
 | _=>false
def donesE {L:Type}(n:Nat)(st:Nat→ES L):List Bool:=(List.range n).map fun i=>isDoneE (st i)
theorem dones_er {L:Type}{n:Nat}{st:Nat→TS L}{st':Nat→ES L}(h:∀ i,er (st i)=st' i):donesOf n st=donesE n st':=by
 unfold donesOf donesE;refine List.map_congr_left fun i _=>?_;rw[← h i];cases st i<;>rfl
structure Idle (S:SC):Prop where
 roles:∀ j,S.role j=.none
 grps:∀ j,S.grp j=none
 pos:0<S.n
structure Watched {L A:Type}(B:Bods L A)(C:WC)(S S':SC)(y:RunSt L A)(st:Nat→TS L)(X X':Nat→Prop)(cut:Bool)(va ve:Value):Prop where
 idle:Idle S'
 n0:S'.n0=S.n0
 W0:S'.W0=S.W0
 actsv:RepU S'.w va y.acts
 erased:∀ i,er (st i)=y.st i
 ends:RepE S'.w ve (endsM cut (donesE C.n y.st))
 mem:B.mem y.a st X' S'.w
 run:∃ ba sa sk ac,Cel S'.w C.r [ba,sa,sk,ac,.bool true] 86
 bts:∀ i,i<C.n→y.st i=.done→∃ tu,Cel S'.w (C.bt i) [ptr C.r,.int .i64 i,tu,.bool false] 79
 size:S.w.heap.size≤S'.w.heap.size
 block:∀ b,b<S.w.heap.size→¬ X b→S'.w.heap[b]?=S.w.heap[b]?
 own:∀ b,X' b→X b∨S.w.heap.size≤b
 apart:∀ b,X' b→b∉Pl.fp va∧b∉Pl.fp ve
theorem rest_eta {S:SC}{w:World}(h:S.w=w):({S with w:=w}:SC)=S:=by subst h;rfl
section
variable {L A:Type}{Bf:WC→Bods L A}{go:Nat→ES L→A→Nat→A × Option L}{rdy:Nat→L→A→Bool}{Post:Value→World→Prop}{S:SC}{n c0:Nat}{v1 bh:Value}{most:Int}{fn:Nat→FuncId}{cap:Nat→Array Value}{fb fo pb:Nat}{beh:A→A}{a0:A}{X:Nat→Prop}{picks:List Nat}{cl:Frame}{cs:List Frame}
theorem watch_runs (hgo:∀ C,(Bf C).go=go)(hrdy:∀ C,(Bf C).rdy=rdy)(hB:∀ C:WC,C.Ok→C.n=n→C.fn=fn→C.cap=cap→BOk (Bf C) C)(hbeh:∀ C,BehOk (Bf C) beh bh)(hid:Idle S)(hn:0<n)(hn8:n≤8)(hcl:cl.mode=.run)
  (hfb:fb<S.w.heap.size) (hfv:∀ j,j<n→S.w.cell? ⟨fb,fo+j,none⟩=some (.func (.func (fn j)) #[] (cap j))) (hpk:Bytes pb S.w v1 picks) (hpb:pb<S.w.heap.size) (hpx:¬ X pb∨∃ bo,∀ C a st X w,(Bf C).mem a st X w→w.heap[pb]?=bo) (hpl:picks.length≤65536) (hm0:0≤most)
  (hmem:∀ C,(Bf C).mem a0 (fun _=>.fresh) X S.w) (hXl:∀ b,X b→b<S.w.heap.size)
  (hfin:∀ C,(runF (Bf C) n beh most.toNat ⟨fun _=>.fresh,a0,[],picks⟩).acts.length<4294967295)
  (hnext:∀ C S' st' X' ga' ca' ge ne ce,C.Ok→C.n=n→Watched (Bf C) C S S' (runF (Bf C) n beh most.toNat ⟨fun _=>.fresh,a0,[],picks⟩) st' X X' (decide (most≤((runF (Bf C) n beh most.toNat ⟨fun _=>.fresh,a0,[],picks⟩).acts.length:Int))) (.slice ga' (runF (Bf C) n beh most.toNat ⟨fun _=>.fresh,a0,[],picks⟩).acts.length ca') (.slice ge ne ce) →
   Sound Try.prog link.tWg Post 0 S' (gs (cl.finish (.tuple #[.agg #[.slice ga' (runF (Bf C) n beh most.toNat ⟨fun _=>.fresh,a0,[],picks⟩).acts.length ca',.slice ge ne ce,.int .i64 ((picks.length-(runF (Bf C) n beh most.toNat ⟨fun _=>.fresh,a0,[],picks⟩).left.length:Nat):Int)],
    .int .i64 (codeM (decide (most≤((runF (Bf C) n beh most.toNat ⟨fun _=>.fresh,a0,[],picks⟩).acts.length:Int))) (donesE n (runF (Bf C) n beh most.toNat ⟨fun _=>.fresh,a0,[],picks⟩).st))])) cs)) :
  Sound Try.prog link.tWg Post 0 S (gs (Frame.enter Try.prog 32 #[.slice (some ⟨fb,fo,none⟩) n c0,v1,.int .i64 most,bh] .normal) (cl::cs)):=by
 refine sound_fair fun F hrole0 hn0=>?_;have hlow:=n0_le F;have hK:=clS (Post:=Post) S;refine ks (S:=S) (wat_enter hK.det ?_) rfl;have k1:=Kp.alloc [] S.w (.cells #[.slice none 0 0,.slice none 0 0,.int .i64 0] 59);have bo1:Pl.Blk (S.w.alloc (.cells #[.slice none 0 0,.slice none 0 0,.int .i64 0] 59)) S.w.heap.size [.slice none 0 0,.slice none 0 0,.int .i64 0] 59:=Pl.Blk.new S.w [.slice none 0 0,.slice none 0 0,.int .i64 0] 59;have z1:(S.w.alloc (.cells #[.slice none 0 0,.slice none 0 0,.int .i64 0] 59)).heap.size=S.w.heap.size+1:=wz' _ _;generalize S.w.alloc (.cells #[.slice none 0 0,.slice none 0 0,.int .i64 0] 59)=w1 at k1 bo1 z1 ⊢;have hvs:∀ j u,((List.range n).map fun i=>Value.func (.func (fn i)) #[] (cap i))[j]?=some u→j<n∧u=.func (.func (fn j)) #[] (cap j):=fun j u h=>by
  rw[List.getElem?_map] at h;have hj:j<n:=by
   apply Classical.byContradiction;intro hn;rw[List.getElem?_eq_none (by simp;omega)] at h;cases h
  rw[List.getElem?_range hj] at h;exact⟨hj,(oj' h).symm⟩
 have hvl:((List.range n).map fun i=>Value.func (.func (fn i)) #[] (cap i)).length=n:=by simp
 refine hK.call fits shut (f:=37) rfl (R:=fun v' w'=>v'=.int .i64 0∧Kp [] w1 w') (fun v' w' τ d ⟨h1,h2⟩=>⟨h1,⟨h2.size,h2.block⟩⟩) (fun τ d=>?_) ?_
 ·have hf:=fits_calls (Lift.re w1 τ d) (some ⟨fb,fo,none⟩) c0 ((List.range n).map fun i=>Value.func (.func (fn i)) #[] (cap i)) v1 picks most (fun u hu=>?_) (fun _=>⟨fb,fo,rfl,fun j u hu=>?_⟩) (pb:=pb) (hpk.same (k1.block pb hpb (by simp)))
  ·rw[hvl] at hf
   refine hf.mono fun e w' h=>⟨_,h.1,?_,?_⟩
   ·unfold fitsM
    have hany:((List.range n).map fun i=>Value.func (.func (fn i)) #[] (cap i)).any isNilF=false:=by
     rw[List.any_eq_false];intro u hu;obtain⟨i,_,rfl⟩:=List.mem_map.1 hu;simp[isNilF]
    rw[hvl,hany,if_neg (by omega),if_neg (by simp),if_neg (by omega)]
   ·rw[h.2];exact⟨Nat.le_refl _,fun _ _ _=>rfl⟩
  ·obtain⟨i,_,rfl⟩:=List.mem_map.1 hu
   exact .inr ⟨_,_,rfl⟩
  ·obtain⟨hj,rfl⟩:=hvs j u hu
   exact(k1.cell hfb).trans (hfv j hj)
 ·rintro _ w2 ⟨rfl,k2⟩
  refine wat_fine hK.det ?_;refine wat_made (L:=L) hK hn8 fun st kc r w3 k3 bst bkc br lst lkc lr n1 n2 n3 tm3 htm3=>?_;show Sound Try.prog link.tWg Post 0 { S with w:=w3} _;have k13:=k1.trans (k2.trans k3);have bo3:Pl.Blk w3 S.w.heap.size _ 59:=(k2.trans k3).blk bo1 (by simp);have z2:=k2.size;have hnol:∀ j s,S.role j=.seat s→False:=fun j s hs=>by rw[hid.roles] at hs;cases hs
  refine sound_hide (S:={S with w:=w3}) (c:=kc) (k:=0) bkc (by show S.n0≤kc;omega) (fun j s hs=>(hnol j s hs).elim) ?_;have hkcl:=(aq' bkc).1;have z4:(setB w3 kc poison).heap.size=w3.heap.size:=setB_size;have q4:∀ x,x≠kc→(setB w3 kc poison).heap[x]?=w3.heap[x]?:=fun x hx=>setB_ne hx;show Sound Try.prog link.tWg Post 0 { S with w:=setB w3 kc poison,chs:=fun x=>S.chs x∨x=kc} _;generalize setB w3 kc poison=w4 at z4 q4 ⊢;have hK4:=clS (Post:=Post) ({S with w:=w4,chs:=fun x=>S.chs x∨x=kc});refine ks (S:={S with w:=w4,chs:=fun x=>S.chs x∨x=kc}) (wat_group hK4.det htm3 fun tm4 htm4=>?_) rfl;have bw5:=chan_new w4 (Go.ConcR.wgBlock 95 0 0);have k5:=Kp.alloc [] w4 (Go.ConcR.wgBlock 95 0 0);have z5:(w4.alloc (Go.ConcR.wgBlock 95 0 0)).heap.size=w4.heap.size+1:=wz' _ _;show Sound Try.prog link.tWg Post 0 { S with w:=w4.alloc (Go.ConcR.wgBlock 95 0 0),chs:=fun x=>S.chs x∨x=kc} _;generalize w4.alloc (Go.ConcR.wgBlock 95 0 0)=w5 at bw5 k5 z5 ⊢;refine sound_hideG (S:={S with w:=w5,chs:=fun x=>S.chs x∨x=kc}) (b:=w4.heap.size) (fz:=(0,0)) bw5 (by show S.n0≤_;omega) (fun j s hs=>(hnol j s hs).elim) (fun j x e=>?_) (fun j e=>?_) ?_
  ·have e':S.role j=.doner x:=e
   rw[hid.roles] at e';cases e'
  ·have e':S.grp j=some w4.heap.size:=e
   rw[hid.grps] at e';cases e'
  have z6:(setB w5 w4.heap.size poison).heap.size=w5.heap.size:=setB_size;have q6:∀ x,x≠w4.heap.size→(setB w5 w4.heap.size poison).heap[x]?=w5.heap[x]?:=fun x hx=>setB_ne hx;show Sound Try.prog link.tWg Post 0 { S with w:=setB w5 w4.heap.size poison,chs:=fun x=>S.chs x∨x=kc,wgs:=fun x=>S.wgs x∨x=w4.heap.size,pend:=fun x=>if x=w4.heap.size then 0 else S.pend x} _;generalize setB w5 w4.heap.size poison=w6 at z6 q6 ⊢;have q36:∀ x,x<w3.heap.size→x≠kc→w6.heap[x]?=w3.heap[x]?:=fun x hx hne=>(q6 x (by omega)).trans ((k5.block x (by omega) (by simp)).trans (q4 x hne));have q06:∀ x,x<S.w.heap.size→w6.heap[x]?=S.w.heap[x]?:=fun x hx=>(q36 x (by have:=k13.size;omega) (by omega)).trans (k13.block x hx (by simp));have z3:=k3.size;have H0:HirAt w1 S.n n r kc st w4.heap.size fn cap { S with w:=w6,chs:=fun x=>S.chs x∨x=kc,wgs:=fun x=>S.wgs x∨x=w4.heap.size,pend:=fun x=>if x=w4.heap.size then 0 else S.pend x} (fun _=>0) (fun _=>0) (fun _=>0) 0 none 0 w6.heap.size:=by
   refine⟨rfl,fun i hi=>(by omega),fun x _=>hid.roles x,.inr rfl,fun i hi=>(by omega),.inr rfl,if_pos rfl,fun x=>⟨fun e=>?_,fun⟨i,hi,_⟩=>(by omega)⟩,fun x=>.inl (hid.grps x),fun i hi=>(by omega),(q36 r br.lt (Ne.symm n3)).trans br,Pl.Rep.nil,fun L'=>?_,fun i hi=>(by omega),⟨by show w1.heap.size≤w6.heap.size;omega,Nat.le_refl _⟩,fun x hx=>(q36 x (by omega) (by omega)).trans ((k2.trans k3).block x hx (by simp)),
    ⟨⟨by omega,by have:=br.lt;omega⟩,⟨by omega,by omega⟩,⟨by omega,by have:=bst.lt;omega⟩,⟨by omega,by omega⟩,Ne.symm n2⟩,fun i hi=>(by omega),fun i i' _ hi=>(by omega),fun b hb=>(by simp[Pl.fp,Value.ownBlock] at hb),(by show S.n0≤w1.heap.size;omega)⟩
   ·have e':S.grp x=some w4.heap.size:=e
    rw[hid.grps] at e';cases e'
   ·have h1:Pl.Blk w6 st (standsOf n fun _=>(.fresh:TS L)) 72:=(q36 st bst.lt n1).trans bst
    exact h1.of (by rw[← fresh_cells (L:=L) n,← fresh_cells (L:=L') n])
  have hpos:=hid.pos;refine hire_all (w0:=w1) (g0n:=S.n) (s0:=w6.heap.size) hpos hn8 (by omega) (fun j hj=>(k1.cell hfb).trans (hfv j hj)) (n-0) 0 _ (fun _=>0) (fun _=>0) (fun _=>0) none 0 tm4 rfl (Nat.zero_le _) H0 htm4 fun S7 bt ch b0 ga7 ca7 tm7 H7 e1 e2 z7 htm7=>?_;obtain⟨gb,rfl,hCok,hseats,hwm,hYge⟩:=hired (L:=L) (A:=A) hpos hn hn8 H7;have hBo:=hB _ hCok rfl rfl rfl;generalize hC:wcOf S.n n r kc st w4.heap.size fn cap bt ch b0 gb ca7=C at hCok hseats hwm hYge hBo;have hCn:C.n=n:=by rw[← hC];rfl
  have hCr:C.r=r:=by rw[← hC];rfl
  have hCa:C.all=w4.heap.size:=by rw[← hC];rfl
  have hCg:C.g0=S.n:=by rw[← hC];rfl
  have hz7:w1.heap.size≤S7.w.heap.size:=by have:=H7.size;omega
  have hm7:(Bf C).mem a0 (fun _=>.fresh) X S7.w:=hBo.frame (hmem C) (fun b hb=>(H7.keep b (by have:=hXl b hb;omega)).trans (k1.block b (hXl b hb) (by simp))) (by omega);have hapart:∀ b,X b→¬ C.Y (.slice none 0 0) b:=fun b hb hy=>by
   have h1:=hXl b hb;have h2:=(hYge b hy).1;omega
  have M7:MainAt (Bf C) C S7 (fun _=>.fresh) [] none 0 a0 X:=⟨by rw[hCn];exact hseats (Bf C),hwm,hm7,hapart,H7.old 0 fun i hi=>by omega⟩;have hob7:Pl.Blk S7.w S.w.heap.size _ 59:=(H7.keep _ (by omega)).trans bo1;have hl7:Bytes pb S7.w v1 picks:=hpk.same ((H7.keep pb (by omega)).trans (k1.block pb hpb (by simp)));have hnz7:∀ b,b≤S.w.heap.size→¬ X b→¬ allOf X C (.slice none 0 0) b:=fun b hb hx hz=>by
   rcases hz with hz | hz
   ·exact hx hz
   ·have:=(hYge b hz).1;omega
  have hXob:¬ X S.w.heap.size:=fun h=>by have:=hXl _ h;omega
  have htm7':watTm (.slice (some ⟨fb,fo,none⟩) n c0) v1 most bh S.w.heap.size C.r C.all v1 tm7:=by rw[hCr,hCa];exact htm7
  have hk:((most.toNat:Nat):Int)=most-(([]:List Nat).length:Nat):=by simp;omega
  rw[← hCn] at hfin;refine wat_loop hBo hCok (hbeh C) (ob:=S.w.heap.size) (pb:=pb) most.toNat ⟨fun _=>.fresh,a0,[],picks⟩ (fun _=>.fresh) S7 X none 0 v1 tm7 hk (hfin C) (fun _=>rfl) M7 hl7 (by omega) (hpx.imp (fun hpx=>hnz7 pb (by omega) hpx) fun⟨bo,h⟩=>⟨bo,h C⟩) (fun i hi=>by cases hi) htm7' fun S8 st8 X8 ga8 ca8 lv8 tm8 her8 M8 hl8 R8 hacts8 htm8=>?_;obtain⟨gl8,cl8,rfl,_,_,_,_⟩:=hl8;obtain⟨g1,c1,rfl,_,_,_,_⟩:=hpk;have hob8n:¬ allOf X8 C (.slice ga8 (runF (Bf C) C.n beh most.toNat ⟨fun _=>.fresh,a0,[],picks⟩).acts.length ca8) S.w.heap.size:=fun h=>by
   rcases R8.kx.own _ h with q | q
   ·exact hnz7 _ (Nat.le_refl _) hXob q
   ·omega
  have hob8:Pl.Blk S8.w S.w.heap.size [.slice none 0 0,.slice none 0 0,.int .i64 0] 59:=(R8.kx.block _ (by omega) (hnz7 _ (Nat.le_refl _) hXob)).trans hob7;refine wat_tail (np:=picks.length) hBo hCok hcl M8 hob8 hob8n (runF_left _ _) (by omega) htm8 fun S9 ge ne ce W9=>?_;have hn8':S8.n=C.g0+C.n:=M8.seats.n;have hde:donesOf C.n st8=donesE n (runF (Bf C) n beh most.toNat ⟨fun _=>.fresh,a0,[],picks⟩).st:=by
   rw[hCn] at her8 ⊢;exact dones_er her8
  have hends:=W9.ends;rw[hde] at hends ⊢;rw[hCn] at her8 hends ⊢;rw[hCn] at W9 R8;refine hnext C S9 st8 X8 ga8 ca8 ge ne ce hCok hCn ⟨⟨W9.roles,W9.grps,by rw[W9.num];omega⟩,W9.n0.trans (R8.n0.trans e1),W9.W0.trans (R8.W0.trans e2),W9.actsv,her8,by rw[hCn];exact hends,W9.mem,⟨_,_,_,_,W9.run⟩,fun i hi e=>⟨_,W9.bts i hi (by have h1:=her8 i;rw[e] at h1;revert h1;cases st8 i<;>simp[er])⟩,by have:=W9.size;have:=R8.kx.size;omega,fun b hb hx=>?_,fun b hb=>?_,fun b hb=>⟨fun h=>M8.apart b hb (.inr (.inr (.inr (.inl (by rw[hCn];exact h))))),fun h=>?_⟩⟩
  ·have h1:=hnz7 b (by omega) hx
   refine(W9.block b (by have:=R8.kx.size;omega) (fun h=>?_) (by omega)).trans ((R8.kx.block b (by omega) h1).trans ((H7.keep b (by omega)).trans (k1.block b hb (by simp))));rcases R8.kx.own b h with q | q
   ·exact h1 q
   ·omega
  ·rcases R8.kx.own b (.inl hb) with q | q
   ·rcases q with q | q
    ·exact .inl q
    ·have:=(hYge b q).1;exact .inr (by omega)
   ·exact .inr (by omega)
  ·have h1:=W9.vef b h
   have h2:=hBo.bound M8.bods hb;omega
end
end Go.Proofs.Ytfbjopkiicmiiaa.Lift
