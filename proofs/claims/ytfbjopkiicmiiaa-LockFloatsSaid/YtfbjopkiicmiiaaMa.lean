/- La Lb Lc Ld Le Lf Lg Lh Li Lj Lk Ll Lm Ln Lo Lp Ba Bb Bc -/
import Derived.Conc.Events
import Derived.Conc.Own5
import Derived.Control
import Derived.Conc.Listed
import Derived.Conc.Own4
import Derived.Calls
import Derived.Conc.TokenTrace
import Derived.Conc.CrowdSel
import Derived.Conc.WgGenN3
set_option linter.unusedVariables false
set_option linter.unusedSimpArgs false
set_option maxRecDepth 100000
set_option maxHeartbeats 6400000
noncomputable section
namespace Go.Proofs.Ytfbjopkiicmiiaa.Lift
open Go
theorem sx' {P:Program}{main:Bool}{b:Frame}{a:Act}{k:List Item}{cs:List Frame}{w:World}{x y:Code}:stepG P main (Go.Conc.G (b.at a (.code (.seq x y)::k)) cs) w=.go (Go.Conc.G (b.at a (.code x::.code y::k)) cs) w:=Go.Conc.stepG_seq
theorem ae' {α:Type}{xs:Array α}{i:Nat}(h:xs.size≤i):xs[i]?=none:=Array.getElem?_eq_none h
theorem la' {α:Type}{xs ys:List α}:(xs++ys).length=xs.length+ys.length:=List.length_append
theorem oj' {α:Type}{a b:α}(h:some a=some b):a=b:=Option.some.inj h
theorem gd' {α:Type}{xs:Array α}{i:Nat}{d:α}:xs.getD i d=xs[i]?.getD d:=Array.getD_eq_getD_getElem?
theorem se' {P:Program}{main:Bool}{b:Frame}{a:Act}{k:List Item}{cs:List Frame}{w:World}{ops:Array Oper}:stepG P main (Go.Conc.G (b.at a (.inRegion ops []::k)) cs) w=.go (Go.Conc.G (b.at a k) cs) w:=Go.Conc.stepG_region_end
theorem wz' (w:World)(o:Obj):(w.alloc o).heap.size=w.heap.size+1:=World.size_alloc w o
theorem aq' {α:Type}{xs:Array α}{i:Nat}{b:α}(h:xs[i]?=some b):∃ h:i<xs.size,xs[i]=b:=Array.getElem?_eq_some_iff.1 h
theorem ar' {α:Type}{xs:Array α}{i j:Nat}(h:i≠j){x:α}:(xs.setIfInBounds i x)[j]?=xs[j]?:=Array.getElem?_setIfInBounds_ne h
theorem as' {α:Type}{c:Array α}{i:Nat}(h:i<c.size):c[i]?=some c[i]:=Array.getElem?_eq_getElem h
theorem nl' {a b c:Nat}(h:a<b)(k:b≤c):a<c:=Nat.lt_of_lt_of_le h k
theorem mc' {α:Type}{a:α}{l:List α}:a∈a::l:=List.mem_cons_self
abbrev Ren:=Nat→Option Nat
def Ren.le (ρ σ:Ren):Prop:=∀ b B,ρ b=some B→σ b=some B
theorem Ren.le_refl (ρ:Ren):ρ.le ρ:=fun _ _ h=>h
theorem Ren.le_trans {ρ σ τ:Ren}(h:ρ.le σ)(k:σ.le τ):ρ.le τ:=fun b B x=>k b B (h b B x)
def flat:Value→Bool
 | .bool _ | .int _ _ | .float _ _ | .string _ | .pointer none | .slice none _ _ | .map none | .chan none | .nilFunc | .nilIface=>true
 | _=>false
def okF (f:FuncId):Bool:=(1<f&&f<4)||(4<f&&f<17)||(17<f&&f<46)||(58<f&&f<62)||f==71
def okX (f:FuncId):Bool:=f==4||f==17
def okFn:Fn→Bool
 | .func f=>okF f
 | _=>false
def hard:Value→Bool
 | .agg _ | .bool _ | .int _ _ | .string _ | .nilFunc | .nilIface | .pointer none | .slice none _ _ | .map none | .chan none | .tuple _ | .func (.method _) _ _=>false
 | _=>true
def dull:Value:=.func (.method "") #[.iface 1000000 undef] #[]
inductive VRel (ρ:Ren):Value→Value→Prop
 | flat {v:Value}:flat v=true→VRel ρ v v
 | pointer {b B o:Nat} {s:Option Nat}:ρ b=some B→VRel ρ (.pointer (some ⟨b,o,s⟩)) (.pointer (some ⟨B,o,s⟩))
 | slice {b B o n c:Nat} {s:Option Nat}:ρ b=some B→VRel ρ (.slice (some ⟨b,o,s⟩) n c) (.slice (some ⟨B,o,s⟩) n c)
 | chan {r R:Nat}:ρ r=some R→VRel ρ (.chan (some r)) (.chan (some R))
 | func {f:Fn} {x X c C:Array Value}:okFn f=true→x.size=X.size→(∀ (i:Nat) v V,x[i]?=some v→X[i]?=some V→VRel ρ v V)→c.size=C.size→(∀ (i:Nat) v V,c[i]?=some v→C[i]?=some V→VRel ρ v V) →
   VRel ρ (.func f x c) (.func f X C)
 | iface {t:TypeId} {v V:Value}:VRel ρ v V→VRel ρ (.iface t v) (.iface t V)
 | agg {c C:Array Value}:c.size=C.size→(∀ (i:Nat) v V,c[i]?=some v→C[i]?=some V→VRel ρ v V)→VRel ρ (.agg c) (.agg C)
 | tuple {c C:Array Value}:c.size=C.size→(∀ (i:Nat) v V,c[i]?=some v→C[i]?=some V→VRel ρ v V)→VRel ρ (.tuple c) (.tuple C)
 | hole {V:Value}:hard V=true→VRel ρ undef V
 | meth {n:String} {x c:Array Value}:VRel ρ dull (.func (.method n) x c)
 | void {a A:Addr}:VRel ρ (.slice (some a) 0 0) (.slice (some A) 0 0)
theorem VRel.mono {ρ σ:Ren}(hl:ρ.le σ){v V:Value}(h:VRel ρ v V):VRel σ v V:=by
 induction h with
 | flat h=>exact .flat h
 | pointer h=>exact .pointer (hl _ _ h)
 | slice h=>exact .slice (hl _ _ h)
 | chan h=>exact .chan (hl _ _ h)
 | func h0 h1 _ h3 _ i1 i2=>exact .func h0 h1 i1 h3 i2
 | iface _ ih=>exact .iface ih
 | agg h1 _ ih=>exact .agg h1 ih
 | tuple h1 _ ih=>exact .tuple h1 ih
 | hole h=>exact .hole h
 | meth=>exact .meth
 | void=>exact .void
def ARel (ρ:Ren)(c C:Array Value):Prop:=c.size=C.size∧∀ (i:Nat) v V,c[i]?=some v→C[i]?=some V→VRel ρ v V
theorem ARel.mono {ρ σ:Ren}(hl:ρ.le σ){c C:Array Value}(h:ARel ρ c C):ARel σ c C:=⟨h.1,fun i v V a b=>(h.2 i v V a b).mono hl⟩
section
variable {ρ:Ren}{c C d D:Array Value}
theorem ARel.get (h:ARel ρ c C){i:Nat}{v:Value}(hv:c[i]?=some v):∃ V,C[i]?=some V∧VRel ρ v V:=by
 have hi:=(Array.getElem?_eq_some_iff.1 hv).1;have hI:i<C.size:=by rw[← h.1];exact hi
 exact⟨C[i],Array.getElem?_eq_getElem hI,h.2 i v _ hv (Array.getElem?_eq_getElem hI)⟩
theorem ARel.nil:ARel ρ #[] #[]:=⟨rfl,fun i v V h=>by simp at h⟩
theorem ARel.push (h:ARel ρ c C){v V:Value}(hv:VRel ρ v V):ARel ρ (c.push v) (C.push V):=by
 refine⟨by simp[h.1],fun i x X hx hX=>?_⟩;rw[Array.getElem?_push] at hx hX;rw[← h.1] at hX;split at hx
 ·rename_i e
  rw[if_pos e] at hX;cases hx;cases hX;exact hv
 ·rename_i e
  rw[if_neg e] at hX;exact h.2 i x X hx hX
theorem ARel.set (h:ARel ρ c C)(j:Nat){v V:Value}(hv:VRel ρ v V):ARel ρ (c.setIfInBounds j v) (C.setIfInBounds j V):=by
 refine⟨by simp[h.1],fun i x X hx hX=>?_⟩;by_cases e:j=i
 ·subst e
  have hi:j<c.size:=by have:=(Array.getElem?_eq_some_iff.1 hx).1;simpa using this
  have hI:j<C.size:=by rw[← h.1];exact hi
  rw[Array.getElem?_setIfInBounds_self_of_lt hi] at hx;rw[Array.getElem?_setIfInBounds_self_of_lt hI] at hX;cases hx;cases hX;exact hv
 ·rw[Array.getElem?_setIfInBounds_ne e] at hx hX
  exact h.2 i x X hx hX
theorem ARel.append (h:ARel ρ c C)(k:ARel ρ d D):ARel ρ (c++d) (C++D):=by
 refine⟨by simp[h.1,k.1],fun i x X hx hX=>?_⟩;rw[Array.getElem?_append] at hx hX;rw[← h.1] at hX;split at hx
 ·rename_i e
  rw[if_pos e] at hX;exact h.2 i x X hx hX
 ·rename_i e
  rw[if_neg e] at hX;exact k.2 _ x X hx hX
theorem ARel.same (h:∀ (i:Nat) v,c[i]?=some v→flat v=true):ARel ρ c c:=⟨rfl,fun i v V h1 h2=>by rw[h1] at h2;cases h2;exact .flat (h i v h1)⟩
theorem VRel.agg' (h:ARel ρ c C):VRel ρ (.agg c) (.agg C):=.agg h.1 h.2
theorem VRel.tuple' (h:ARel ρ c C):VRel ρ (.tuple c) (.tuple C):=.tuple h.1 h.2
theorem ARel.one {v V:Value}(h:VRel ρ v V):ARel ρ #[v] #[V]:=ARel.nil.push h
theorem VRel.cells {v V:Value}(h:VRel ρ v V):ARel ρ v.cells V.cells:=by
 cases h with
 | agg h1 h2=>exact⟨h1,h2⟩
 | flat h=>cases ‹Value›<;>first | exact ARel.one (.flat h) | simp[Lift.flat] at h
 | pointer h=>exact ARel.one (.pointer h)
 | slice h=>exact ARel.one (.slice h)
 | chan h=>exact ARel.one (.chan h)
 | func h0 h1 h2 h3 h4=>exact ARel.one (.func h0 h1 h2 h3 h4)
 | iface h=>exact ARel.one (.iface h)
 | tuple h1 h2=>exact ARel.one (.tuple h1 h2)
 | hole h=>cases ‹Value›<;>first | exact ARel.one (.hole h) | simp[Lift.hard] at h
 | meth=>exact ARel.one .meth
 | void=>exact ARel.one .void
end
def poison:Obj:=.coro none
def inFz (fz:Nat × Nat)(o:Nat):Bool:=fz.1≤o&&o<fz.2
def FzR (fz FZ:Nat × Nat):Prop:=(∀ o,inFz FZ o=true→inFz fz o=true)∧(fz=(0,0)→FZ=(0,0))
inductive ORel (ρ:Ren):Obj→Obj→Prop
 | cells {c C:Array Value} {t:TypeId} {fz FZ:Nat × Nat}:ARel ρ c C→FzR fz FZ→ORel ρ (.cells c t fz) (.cells C t FZ)
 | chan {cap s r:Nat} {cl tm:Bool}:ORel ρ (.chan cap #[] cl s r tm) (.chan cap #[] cl s r tm)
 | number {b B o:Nat} {s:Option Nat} {l:Bool}:ρ b=some B→ORel ρ (.number ⟨b,o,s⟩ l) (.number ⟨B,o,s⟩ l)
 | hidC {C:Array Value} {t:TypeId} {FZ:Nat × Nat}:ORel ρ Lift.poison (.cells C t FZ)
 | hidH {cap s r:Nat} {buf:Array Value} {cl tm:Bool}:ORel ρ Lift.poison (.chan cap buf cl s r tm)
theorem ORel.mono {ρ σ:Ren}(hl:ρ.le σ){o O:Obj}(h:ORel ρ o O):ORel σ o O:=by
 cases h with
 | cells h1 h2=>exact .cells (h1.mono hl) h2
 | chan=>exact .chan
 | number h=>exact .number (hl _ _ h)
 | hidC=>exact .hidC
 | hidH=>exact .hidH
def GN:Nat:=1
def Low (ρ:Ren)(n N:Nat):Prop:=GN≤n∧GN≤N∧∀ b B,ρ b=some B→(b<GN↔B<GN)
theorem Low.le {ρ:Ren}{n N m M:Nat}(h:Low ρ n N)(h1:n≤m)(h2:N≤M):Low ρ m M:=⟨Nat.le_trans h.1 h1,Nat.le_trans h.2.1 h2,h.2.2⟩
structure WRel (ρ:Ren)(w W:World):Prop where
 dom:∀ b B,ρ b=some B→b<w.heap.size∧B<W.heap.size
 inj:∀ b c B,ρ b=some B→ρ c=some B→b=c
 obj:∀ b B,ρ b=some B→∃ o O,w.heap[b]?=some o∧W.heap[B]?=some O∧ORel ρ o O
 tape:∀ i q,w.tape (w.drawn+i) q=W.tape (W.drawn+i) q
 os:w.os=W.os
 low:Low ρ w.heap.size W.heap.size
structure Frm (ρ σ:Ren)(W W':World):Prop where
 le:ρ.le σ
 fresh:∀ b B,σ b=some B→ρ b=some B∨W.heap.size≤B
 size:W.heap.size≤W'.heap.size
 block:∀ B,B<W.heap.size→(∀ b,ρ b≠some B)→W'.heap[B]?=W.heap[B]?
 tape:W'.tape=W.tape
 os:W'.os=W.os
 output:W'.output=W.output
theorem Frm.refl (ρ:Ren)(W:World):Frm ρ ρ W W:=⟨ρ.le_refl,fun _ _ h=>.inl h,Nat.le_refl _,fun _ _ _=>rfl,rfl,rfl,rfl⟩
theorem Frm.trans {ρ σ τ:Ren}{A B C:World}(h:Frm ρ σ A B)(k:Frm σ τ B C):Frm ρ τ A C:=by
 refine⟨Ren.le_trans h.le k.le,fun b X hx=>?_,Nat.le_trans h.size k.size,fun X hX hn=>?_,k.tape.trans h.tape,k.os.trans h.os,k.output.trans h.output⟩
 ·rcases k.fresh b X hx with q | q
  ·exact h.fresh b X q
  ·exact .inr (Nat.le_trans h.size q)
 ·refine(k.block X (Nat.lt_of_lt_of_le hX h.size) (fun b hb=>?_)).trans (h.block X hX hn)
  rcases h.fresh b X hb with q | q
  ·exact hn b q
  ·omega
def Stl (w:World)(b:Nat):Prop:=w.heap[b]?=some Lift.poison∨(∃ c t fz,w.heap[b]?=some (.cells c t fz)∧∀ o,o<c.size→inFz fz o=true)∨∃ a l,w.heap[b]?=some (.number a l)
theorem Stl.eq {w w1:World}{b:Nat}(h:Stl w b)(e:w1.heap[b]?=w.heap[b]?):Stl w1 b:=by
 unfold Stl at h ⊢;rw[e];exact h
def EvR (ρ:Ren)(w w':World)(e:Event):Prop :=
 (∃ b B o s,ρ b=some B∧e.loc=.cell ⟨B,o,s⟩∧e.sync=false∧w'.heap[b]?≠some Lift.poison∧(e.write=true→¬ Stl w b)) ∨
 (∃ b B,ρ b=some B∧e.loc=.obj B∧e.write=false∧(e.sync=true∨w'.heap[b]?≠some Lift.poison))∨e.loc=.mark .noRoom∨∃ f,e.loc=.mark (.extern f)
def CC (W:World)(B:Nat):Prop:=(∃ C t fz,W.heap[B]?=some (.cells C t fz))∨∃ cap buf cl s r tm,W.heap[B]?=some (.chan cap buf cl s r tm)
structure Went (ρ σ:Ren)(w w' W W':World)(new:Array Event):Prop where
 rel:WRel σ w' W'
 frm:Frm ρ σ W W'
 evs:∀ e∈new,EvR σ w w' e
 fz:∀ a,w.frozen? a=true→w'.frozen? a=true
 still:∀ b,Stl w b→w'.heap[b]?=w.heap[b]?∧∀ B,ρ b=some B→W'.heap[B]?=W.heap[B]?
 vis:∀ b,b<w.heap.size→w.heap[b]?≠some Lift.poison→w'.heap[b]?≠some Lift.poison
 vsize:w.heap.size≤w'.heap.size
 kind:∀ B,CC W B→CC W' B
 newb:∀ b B,σ b=some B→ρ b=some B∨w.heap.size≤b
 full:∀ b,w.heap.size≤b→b<w'.heap.size→∃ B,σ b=some B
theorem Went.look {ρ:Ren}{w W:World}{new:Array Event}(h:WRel ρ w W)(he:∀ e∈new,EvR ρ w w e):Went ρ ρ w w W W new :=
 ⟨h,Frm.refl _ _,he,fun _ h=>h,fun _ _=>⟨rfl,fun _ _=>rfl⟩,fun _ _ h=>h,Nat.le_refl _,fun _ h=>h,fun _ _ h=>.inl h,fun b h k=>absurd k (Nat.not_lt.2 h)⟩
theorem Went.refl {ρ:Ren}{w W:World}(h:WRel ρ w W):Went ρ ρ w w W W #[]:=Went.look h (by simp)
theorem Went.trans {ρ σ τ:Ren}{w w1 w2 W W1 W2:World}{n m:Array Event}(h:Went ρ σ w w1 W W1 n)(k:Went σ τ w1 w2 W1 W2 m):Went ρ τ w w2 W W2 (n++m):=by
 refine⟨k.rel,h.frm.trans k.frm,fun e he=>?_,fun a ha=>k.fz a (h.fz a ha),fun b hb=>?_,fun b hb hn=>k.vis b (Nat.lt_of_lt_of_le hb h.vsize) (h.vis b hb hn),Nat.le_trans h.vsize k.vsize,fun B hB=>k.kind B (h.kind B hB),fun b B hb=>(k.newb b B hb).elim (h.newb b B) fun x=>.inr (Nat.le_trans h.vsize x),fun b h1 h2=>by
  by_cases e:b<w1.heap.size
  ·exact(h.full b h1 e).imp fun B x=>k.frm.le _ _ x
  ·exact k.full b (Nat.not_lt.1 e) h2⟩
 ·rcases Array.mem_append.1 he with q | q
  ·rcases h.evs e q with⟨b,B,o,s,h1,h2,h3,h4,h5⟩ | ⟨b,B,h1,h2,h3,h4⟩ | r
   ·exact .inl ⟨b,B,o,s,k.frm.le _ _ h1,h2,h3,k.vis b (h.rel.dom b B h1).1 h4,h5⟩
   ·exact .inr (.inl ⟨b,B,k.frm.le _ _ h1,h2,h3,h4.imp id (k.vis b (h.rel.dom b B h1).1)⟩)
   ·exact .inr (.inr r)
  ·rcases k.evs e q with⟨b,B,o,s,h1,h2,h3,h4,h5⟩ | r
   ·refine .inl ⟨b,B,o,s,h1,h2,h3,h4,fun hw hs=>h5 hw ?_⟩
    exact hs.eq (h.still b hs).1
   ·exact .inr r
 ·obtain⟨h1,h2⟩:=h.still b hb
  have hb1:Stl w1 b:=hb.eq h1;obtain⟨k1,k2⟩:=k.still b hb1;exact⟨k1.trans h1,fun B hB=>(k2 B (h.frm.le _ _ hB)).trans (h2 B hB)⟩
theorem noNew (es:Array Event):es++#[]=es:=by simp
@[simp] def quiet:Halt→Bool
 | .unsupported (.initOrder _)=>false
 | .stuck _ | .unsupported _=>true
 | _=>false
def re (w:World)(τ:Nat→Question→Nat)(d:Nat):World:={w with tape:=τ,drawn:=d}
def wOf {α:Type}:Result α→World
 | .ok _ w=>w
 | .halt _ w=>w
def reW {α:Type}(τ:Nat→Question→Nat)(d:Nat):Result α→Result α
 | .ok a w=>.ok a (re w τ d)
 | .halt h w=>.halt h (re w τ d)
def quietR {α:Type}:Result α→Bool
 | .ok _ _=>false
 | .halt k _=>quiet k
structure LocR {α:Type}(P:Program)(s:Sem α)(w:World)(r:Result α):Prop where
 more:w.drawn≤(wOf r).drawn
 tape:(wOf r).tape=w.tape
 same:∀ τ d,(∀ i q,w.drawn+i<(wOf r).drawn→τ (d+i) q=w.tape (w.drawn+i) q)→s.run P (re w τ d)=reW τ (d+((wOf r).drawn-w.drawn)) r
def Lok {α:Type}(P:Program)(s:Sem α)(w:World):Prop:=LocR P s w (s.run P w)
theorem Lok.still {α:Type}{P:Program}{s:Sem α}{w:World}{r:Result α}(h0:s.run P w=r)(h1:(wOf r).drawn=w.drawn)(h2:(wOf r).tape=w.tape)(h3:∀ τ d,s.run P (re w τ d)=reW τ d r):Lok P s w:=by
 unfold Lok;rw[h0];exact⟨Nat.le_of_eq h1.symm,h2,fun τ d _=>by rw[h3,h1,Nat.sub_self,Nat.add_zero]⟩
theorem run_bind {α β:Type}(P:Program)(s:Sem α)(f:α→Sem β)(w:World):(s >>= f).run P w=match s.run P w with | .ok a w'=>(f a).run P w' | .halt h w'=>.halt h w':=by
 have:=congrArg Prod.fst (Sem.runT_bind' P s f w #[]);rw[Sem.runT_fst] at this;show(s.bind f).run P w=_;rw[this,← Sem.runT_fst P s w #[]];cases s.runT P w #[] with
 | mk r es=>cases r with
  | ok a w'=>exact Sem.runT_fst P (f a) w' es
  | halt h w'=>rfl
theorem Lok.bind {α β:Type}{P:Program}{s:Sem α}{f:α→Sem β}{w w1:World}{a:α}(h0:s.run P w=.ok a w1)(h:Lok P s w)(k:Lok P (f a) w1):Lok P (s >>= f) w:=by
 unfold Lok at h k ⊢;rw[run_bind];rw[h0] at h ⊢;obtain⟨h1,h2,h3⟩:=h;obtain⟨k1,k2,k3⟩:=k;simp only[wOf] at h1 h2 h3;dsimp only;generalize (f a).run P w1=r at k1 k2 k3;refine⟨Nat.le_trans h1 k1,k2.trans h2,fun τ d hτ=>?_⟩;have e:=h3 τ d fun i q hi=>hτ i q (Nat.lt_of_lt_of_le hi k1);rw[run_bind,e];simp only[reW];have e2:=k3 τ (d+(w1.drawn-w.drawn)) fun i q hi=>by
  have:=hτ (w1.drawn-w.drawn+i) q (by omega);rw[show d+(w1.drawn-w.drawn)+i=d+(w1.drawn-w.drawn+i) by omega,this,h2];congr 1;omega
 rw[e2];congr 1;omega
theorem Lok.bindP {α β:Type}{P:Program}{s:Sem α}{f:α→Sem β}{w w1:World}{v:Halt}(h0:s.run P w=.halt v w1)(h:Lok P s w):Lok P (s >>= f) w:=by
 unfold Lok at h ⊢;rw[run_bind];rw[h0] at h ⊢;obtain⟨h1,h2,h3⟩:=h;exact⟨h1,h2,fun τ d hτ=>by rw[run_bind,h3 τ d hτ];rfl⟩
def Sim0 (P:Program){α β:Type}(Q:Ren→α→β→Prop)(ρ:Ren)(s:Sem α)(S:Sem β):Prop :=
 ∀ w W ES,WRel ρ w W→match s.run P w with
  | .ok a w'=>∃ b W' σ new,S.runT P W ES=(.ok b W',ES++new)∧Went ρ σ w w' W W' new∧Q σ a b
  | .halt (.panic v) w'=>∃ V W' σ new,S.runT P W ES=(.halt (.panic V) W',ES++new)∧Went ρ σ w w' W W' new∧VRel σ v V
  | .halt k _=>quiet k=true
structure Sim (P:Program){α β:Type}(Q:Ren→α→β→Prop)(ρ:Ren)(s:Sem α)(S:Sem β):Prop where
 up:Sim0 P Q ρ s S
 loc:∀ w W,WRel ρ w W→quietR (s.run P w)=false→Lok P s w
section
variable {P:Program}{α β γ δ:Type}{ρ:Ren}
theorem Sim.low {Q:Ren→α→β→Prop}{s:Sem α}{S:Sem β}(h:(∀ b B,ρ b=some B→(b<GN↔B<GN))→Sim P Q ρ s S):Sim P Q ρ s S:=⟨fun w W ES hw=>(h hw.low.2.2).up w W ES hw,fun w W hw=>(h hw.low.2.2).loc w W hw⟩
theorem Sim.pure {Q:Ren→α→β→Prop}{a:α}{b:β}(h:Q ρ a b):Sim P Q ρ (.pure a) (.pure b) :=
 ⟨fun w W ES hw=>⟨b,W,ρ,#[],by rw[noNew];rfl,.refl hw,h⟩,fun w W hw hq=>Lok.still (r:=.ok a w) rfl rfl rfl fun _ _=>rfl⟩
theorem Sim.pure' {Q:Ren→α→β→Prop}{a:α}{b:β}(h:Q ρ a b):Sim P Q ρ (Pure.pure a) (Pure.pure b):=Sim.pure h
theorem Sim.mono {Q Q':Ren→α→β→Prop}{s:Sem α}{S:Sem β}(h:Sim P Q ρ s S)(hq:∀ σ a b,ρ.le σ→Q σ a b→Q' σ a b):Sim P Q' ρ s S:=by
 refine⟨?_,h.loc⟩;intro w W ES hw;have:=h.up w W ES hw;cases hr:s.run P w with
 | ok a w' =>
  rw[hr] at this;obtain⟨b,W',σ,new,h1,h2,h3⟩:=this;exact⟨b,W',σ,new,h1,h2,hq _ _ _ h2.frm.le h3⟩
 | halt k w' =>
  rw[hr] at this;cases k<;>exact this
theorem Sim.bind {Q:Ren→α→β→Prop}{R:Ren→γ→δ→Prop}{s:Sem α}{S:Sem β}{f:α→Sem γ}{F:β→Sem δ}(h:Sim P Q ρ s S)(k:∀ σ a b,ρ.le σ→Q σ a b→Sim P R σ (f a) (F b)) :
  Sim P R ρ (s >>= f) (S >>= F):=by
 refine⟨?_,?_⟩
 ·intro w W ES hw
  have h0:=h.up w W ES hw;rw[run_bind];cases hr:s.run P w with
  | ok a w' =>
   rw[hr] at h0;obtain⟨b,W',σ,new,h1,h2,h3⟩:=h0;have k0:=(k σ a b h2.frm.le h3).up w' W' (ES++new) h2.rel;simp only;have e2:∀ r,(F b).runT P W' (ES++new)=r→(S >>= F).runT P W ES=r:=fun r hr=>by
    show(S.bind F).runT P W ES=r;rw[Sem.runT_bind',h1];exact hr
   cases hf:(f a).run P w' with
   | ok c w'' =>
    rw[hf] at k0;obtain⟨d,W'',τ,new',g1,g2,g3⟩:=k0;exact⟨d,W'',τ,new++new',by rw[e2 _ g1,Array.append_assoc],h2.trans g2,g3⟩
   | halt c w'' =>
    rw[hf] at k0;cases c<;>first | exact k0 | skip
    obtain⟨d,W'',τ,new',g1,g2,g3⟩:=k0;exact⟨d,W'',τ,new++new',by rw[e2 _ g1,Array.append_assoc],h2.trans g2,g3⟩
  | halt c w' =>
   rw[hr] at h0;cases c<;>first | exact h0 | skip
   obtain⟨V,W',σ,new,h1,h2,h3⟩:=h0;refine⟨V,W',σ,new,?_,h2,h3⟩;show(S.bind F).runT P W ES=_;rw[Sem.runT_bind',h1]
 ·intro w W hw hq
  have h0:=h.up w W #[] hw;have hl:=h.loc w W hw;rw[run_bind] at hq;cases hr:s.run P w with
  | ok a w' =>
   rw[hr] at h0 hq hl;obtain⟨b,W',σ,new,h1,h2,h3⟩:=h0;exact Lok.bind hr (hl rfl) ((k σ a b h2.frm.le h3).loc w' W' h2.rel hq)
  | halt c w' =>
   rw[hr] at hq hl;exact Lok.bindP hr (hl hq)
theorem Sim.stuck {Q:Ren→α→β→Prop}{why:String}{S:Sem β}:Sim P Q ρ (Go.stuck why) S:=⟨fun _ _ _ _=>rfl,fun _ _ _ h=>by cases h⟩
theorem Sim.unsupported {Q:Ren→α→β→Prop}{u:Unsupported}{S:Sem β}(h:quiet (.unsupported u)=true:=by rfl):Sim P Q ρ (Go.unsupported u) S :=
 ⟨fun _ _ _ _=>h,fun _ _ _ k=>by
  have e:quiet (.unsupported u)=false:=k;rw[h] at e;cases e⟩
theorem Sim.goPanic {Q:Ren→α→β→Prop}{v V:Value}(h:VRel ρ v V):Sim P Q ρ (Go.goPanic v) (Go.goPanic V) :=
 ⟨fun w W ES hw=>⟨V,W,ρ,#[],by rw[noNew];rfl,.refl hw,h⟩,fun w W hw hq=>Lok.still (r:=.halt (.panic v) w) rfl rfl rfl fun _ _=>rfl⟩
theorem Sim.program {Q:Ren→Program→Program→Prop}(h:Q ρ P P):Sim P Q ρ Go.program Go.program :=
 ⟨fun w W ES hw=>⟨P,W,ρ,#[],by rw[noNew];rfl,.refl hw,h⟩,fun w W hw hq=>Lok.still (r:=.ok P w) rfl rfl rfl fun _ _=>rfl⟩
theorem Sim.ite {Q:Ren→α→β→Prop}{c:Prop}[Decidable c]{s t:Sem α}{S T:Sem β}(h:c→Sim P Q ρ s S)(k:¬ c→Sim P Q ρ t T):Sim P Q ρ (if c then s else t) (if c then S else T):=by
 split
 ·exact h ‹_›
 ·exact k ‹_›
end
theorem WRel.draw {ρ:Ren}{w W:World}(h:WRel ρ w W):WRel ρ { w with drawn:=w.drawn+1} { W with drawn:=W.drawn+1} :=
 ⟨h.dom,h.inj,h.obj,fun i q=>by
  have:=h.tape (i+1) q;show w.tape (w.drawn+1+i) q=W.tape (W.drawn+1+i) q;rw[Nat.add_assoc,Nat.add_assoc,Nat.add_comm 1 i];exact this,h.os,h.low⟩
theorem Sim0.choose {P:Program}{ρ:Ren}{q:Question}:Sim0 P (fun _ a b=>a=b) ρ (Go.choose q) (Go.choose q):=by
 intro w W ES hw;have e1:∀ w,(Go.choose q).run P w=if q.forced then .ok 0 w else .ok (q.cut (w.tape w.drawn q)) { w with drawn:=w.drawn+1}:=fun w=>rfl;have e2:∀ w es,(Go.choose q).runT P w es=if q.forced then (.ok 0 w,es) else (.ok (q.cut (w.tape w.drawn q)) { w with drawn:=w.drawn+1},es):=fun w es=>by
  show(Sem.choose q .pure).runT P w es=_;unfold Sem.runT;split<;>rfl
 rw[e1,e2];by_cases hq:q.forced=true
 ·rw[if_pos hq,if_pos hq]
  exact⟨0,W,ρ,#[],by rw[noNew],.refl hw,rfl⟩
 ·rw[if_neg hq,if_neg hq]
  have ht:=hw.tape 0 q;rw[Nat.add_zero,Nat.add_zero] at ht;exact⟨q.cut (W.tape W.drawn q),{W with drawn:=W.drawn+1},ρ,#[],by rw[noNew],⟨hw.draw,⟨ρ.le_refl,fun _ _ h=>.inl h,Nat.le_refl _,fun _ _ _=>rfl,rfl,rfl,rfl⟩,by simp,fun _ h=>h,fun _ _=>⟨rfl,fun _ _=>rfl⟩,fun _ _ h=>h,Nat.le_refl _,fun _ h=>h,fun _ _ h=>.inl h,fun b h k=>absurd k (Nat.not_lt.2 h)⟩,by rw[ht]⟩
theorem Sim.choose {P:Program}{ρ:Ren}{q:Question}:Sim P (fun _ a b=>a=b) ρ (Go.choose q) (Go.choose q):=by
 refine⟨Sim0.choose,fun w W hw _=>?_⟩;have e1:∀ w,(Go.choose q).run P w=if q.forced then .ok 0 w else .ok (q.cut (w.tape w.drawn q)) { w with drawn:=w.drawn+1}:=fun w=>rfl;by_cases hq:q.forced=true
 ·exact Lok.still (r:=.ok 0 w) (by rw[e1,if_pos hq]) rfl rfl fun τ d=>by rw[e1,if_pos hq];rfl
 ·unfold Lok
  rw[e1,if_neg hq];refine⟨Nat.le_succ _,rfl,fun τ d hτ=>?_⟩;rw[e1,if_neg hq];have:=hτ 0 q (Nat.lt_succ_self _);rw[Nat.add_zero,Nat.add_zero] at this;show Result.ok (q.cut (τ d q)) _=Result.ok (q.cut (w.tape w.drawn q)) _;rw[this];simp only[wOf,Nat.add_sub_cancel_left];rfl
def ext (ρ:Ren)(b B:Nat):Ren:=fun x=>if x=b then some B else ρ x
section
variable {ρ:Ren}{w W:World}{b B o:Nat}{s:Option Nat}
theorem WRel.cell (h:WRel ρ w W)(hb:ρ b=some B){v:Value}(hc:w.cell? ⟨b,o,s⟩=some v):∃ V,W.cell? ⟨B,o,s⟩=some V∧VRel ρ v V:=by
 obtain⟨x,X,h1,h2,h3⟩:=h.obj b B hb;unfold World.cell? at hc ⊢;rw[h1] at hc;rw[h2];cases h3 with
 | cells ha hf =>
  simp only at hc ⊢;split at hc
  ·cases hc
  ·rename_i e
   rw[if_neg e];exact ha.get hc
 | chan=>cases hc
 | number=>cases hc
 | hidC=>simp[Lift.poison] at hc
 | hidH=>simp[Lift.poison] at hc
theorem WRel.fz (h:WRel ρ w W)(hb:ρ b=some B)(hf:w.frozen? ⟨b,o,s⟩=false)(hc:∃ v,w.cell? ⟨b,o,s⟩=some v):W.frozen? ⟨B,o,s⟩=false:=by
 obtain⟨x,X,h1,h2,h3⟩:=h.obj b B hb;obtain⟨v,hc⟩:=hc;unfold World.cell? at hc;unfold World.frozen? at hf ⊢;rw[h1] at hc hf;rw[h2];cases h3 with
 | @cells c C t fz FZ ha hz =>
  simp only at hf ⊢;cases hF:inFz FZ o with
  | false=>exact hF
  | true =>
   have:=hz.1 o hF;unfold inFz at this;rw[this] at hf;cases hf
 | chan=>cases hc
 | number=>cases hc
 | hidC=>simp[Lift.poison] at hc
 | hidH=>simp[Lift.poison] at hc
theorem WRel.far (h:WRel ρ w W)(hb:ρ b=some B){P:Program}{m:Bool}:∃ k,w.farLoad P ⟨b,o,s⟩ m=.error k∧quiet k=true:=by
 obtain⟨x,X,h1,h2,h3⟩:=h.obj b B hb;unfold World.farLoad;simp only[h1];cases h3 with
 | cells ha hz=>exact⟨_,rfl,by unfold World.noCell;simp only[h1];simp⟩
 | chan=>exact⟨_,rfl,by unfold World.noCell;simp only[h1];simp⟩
 | number=>exact⟨_,rfl,by unfold World.noCell;simp only[h1];simp⟩
 | hidC=>simp only[Lift.poison];exact⟨_,rfl,by unfold World.noCell;simp only[h1,Lift.poison];simp⟩
 | hidH=>simp only[Lift.poison];exact⟨_,rfl,by unfold World.noCell;simp only[h1,Lift.poison];simp⟩
theorem WRel.farS (h:WRel ρ w W)(hb:ρ b=some B){P:Program}{v:Value}{m:Bool}:∃ k,w.farStore P ⟨b,o,s⟩ v m=.error k∧quiet k=true:=by
 obtain⟨x,X,h1,h2,h3⟩:=h.obj b B hb;unfold World.farStore;simp only[h1];cases h3 with
 | cells ha hz=>exact⟨_,rfl,by unfold World.noCell;simp only[h1];simp⟩
 | chan=>exact⟨_,rfl,by unfold World.noCell;simp only[h1];simp⟩
 | number=>exact⟨_,rfl,by unfold World.noCell;simp only[h1];simp⟩
 | hidC=>simp only[Lift.poison];exact⟨_,rfl,by unfold World.noCell;simp only[h1,Lift.poison];simp⟩
 | hidH=>simp only[Lift.poison];exact⟨_,rfl,by unfold World.noCell;simp only[h1,Lift.poison];simp⟩
theorem heap_set_ne (w:World)(a:Addr)(v:Value){x:Nat}(h:x≠a.block):(w.setCell a v).heap[x]?=w.heap[x]?:=by
 unfold World.setCell;simp only;rw[Array.getElem?_modify,if_neg (fun e=>h e.symm)]
theorem WRel.set (h:WRel ρ w W)(hb:ρ b=some B){v V:Value}(hv:VRel ρ v V):WRel ρ (w.setCell ⟨b,o,s⟩ v) (W.setCell ⟨B,o,s⟩ V):=by
 have z1:(w.setCell ⟨b,o,s⟩ v).heap.size=w.heap.size:=by simp[World.setCell]
 have z2:(W.setCell ⟨B,o,s⟩ V).heap.size=W.heap.size:=by simp[World.setCell]
 refine⟨fun x X hx=>by rw[z1,z2];exact h.dom x X hx,h.inj,fun x X hx=>?_,h.tape,h.os,by rw[z1,z2];exact h.low⟩;obtain⟨p,q,h1,h2,h3⟩:=h.obj x X hx;by_cases e:x=b
 ·subst e
  obtain rfl:X=B:=by rw[hx] at hb;exact oj' hb
  have e1:(w.setCell ⟨x,o,s⟩ v).heap[x]?=(w.heap[x]?).map (fun p=>match p with | .cells c e fz=>.cells (if s.isSome then c else c.setIfInBounds o v) e fz | q=>q):=by unfold World.setCell;simp only;rw[Array.getElem?_modify,if_pos rfl];rfl
  have e2:(W.setCell ⟨X,o,s⟩ V).heap[X]?=(W.heap[X]?).map (fun p=>match p with | .cells c e fz=>.cells (if s.isSome then c else c.setIfInBounds o V) e fz | q=>q):=by unfold World.setCell;simp only;rw[Array.getElem?_modify,if_pos rfl];rfl
  rw[h1] at e1;rw[h2] at e2;refine⟨_,_,e1,e2,?_⟩;cases h3 with
  | cells ha hz =>
   refine .cells ?_ hz;split
   ·exact ha
   ·exact ha.set o hv
  | chan=>exact .chan
  | number h=>exact .number h
  | hidC =>
   split
   all_goals exact .hidC
  | hidH=>exact .hidH
 ·have eX:X≠B:=fun q=>e (h.inj x b B (q▸hx) hb)
  exact⟨p,q,by rw[heap_set_ne _ _ _ (by exact e)];exact h1,by rw[heap_set_ne _ _ _ (by exact eX)];exact h2,h3⟩
theorem ext_le (h:WRel ρ w W)(B:Nat):ρ.le (ext ρ w.heap.size B):=fun x X hx=>by
 unfold ext;have:=(h.dom x X hx).1;rw[if_neg (by omega)];exact hx
theorem WRel.new (h:WRel ρ w W){x X:Obj}(ho:ORel (ext ρ w.heap.size W.heap.size) x X):WRel (ext ρ w.heap.size W.heap.size) { w with heap:=w.heap.push x} { W with heap:=W.heap.push X}:=by
 refine⟨fun c C hc=>?_,fun c d C hc hd=>?_,fun c C hc=>?_,h.tape,h.os,Nat.le_trans h.low.1 (by simp),Nat.le_trans h.low.2.1 (by simp),fun c C hc=>?_⟩
 ·simp only[Array.size_push]
  unfold ext at hc;split at hc
  ·cases hc;omega
  ·have:=h.dom c C hc;omega
 ·unfold ext at hc hd
  split at hc<;>split at hd
  ·omega
  ·cases hc;have:=(h.dom d _ hd).2;omega
  ·cases hd;have:=(h.dom c _ hc).2;omega
  ·exact h.inj c d C hc hd
 ·by_cases e:c=w.heap.size
  ·unfold ext at hc
   rw[if_pos e] at hc;cases hc;subst e;exact⟨x,X,by simp,by simp,ho⟩
  ·have hc':ρ c=some C:=by unfold ext at hc;rw[if_neg e] at hc;exact hc
   obtain⟨p,q,h1,h2,h3⟩:=h.obj c C hc';have d:=h.dom c C hc';refine⟨p,q,?_,?_,h3.mono (ext_le h _)⟩
   ·show(w.heap.push x)[c]?=_
    rw[Array.getElem?_push_lt d.1,← h1,as' d.1]
   ·show(W.heap.push X)[C]?=_
    rw[Array.getElem?_push_lt d.2,← h2,as' d.2]
 ·have l1:=h.low.1
  have l2:=h.low.2.1;unfold ext at hc;split at hc
  ·cases hc;omega
  ·exact h.low.2.2 c C hc
end
section
variable {P:Program}{ρ:Ren}{b B o:Nat}{s:Option Nat}
theorem cell_vis {w:World}{v:Value}(h:w.cell? ⟨b,o,s⟩=some v):w.heap[b]?≠some Lift.poison:=by
 intro e;unfold World.cell? at h;rw[e] at h;cases h
theorem stl_lt {w:World}{b:Nat}(h:Stl w b):b<w.heap.size:=by
 rcases Nat.lt_or_ge b w.heap.size with q | q
 ·exact q
 ·rcases h with h | ⟨c,t,fz,h,_⟩ | ⟨a,l,h⟩<;>rw[ae' q] at h<;>cases h
theorem stl_frozen {w:World}{v:Value}(hs:Stl w b)(h:w.cell? ⟨b,o,s⟩=some v):w.frozen? ⟨b,o,s⟩=true:=by
 rcases hs with hs | ⟨c,t,fz,hs,hz⟩ | ⟨a,l,hs⟩
 rotate_left 2
 ·unfold World.cell? at h
  rw[hs] at h;cases h
 ·exact absurd hs (cell_vis h)
 ·unfold World.cell? at h
  unfold World.frozen?;rw[hs] at h ⊢;simp only at h;split at h
  ·cases h
  ·have:=hz o (aq' h).1
   unfold inFz at this;exact this
theorem set_vis {w:World}{a:Addr}{v:Value}{x:Nat}(h:w.heap[x]?≠some Lift.poison):(w.setCell a v).heap[x]?≠some Lift.poison:=by
 unfold World.setCell;simp only;rw[Array.getElem?_modify];split
 ·intro e
  rw[Option.map_eq_some_iff] at e;obtain⟨p,hp,hq⟩:=e;cases p<;>first | (cases hq;done) | exact h (hp.trans (congrArg some hq))
 ·exact h
theorem Sim0.load (hb:ρ b=some B):Sim0 P VRel ρ (Go.load ⟨b,o,s⟩) (Go.load ⟨B,o,s⟩):=by
 intro w W ES hw;have e1:(Go.load ⟨b,o,s⟩).run P w=match w.cell? ⟨b,o,s⟩ with | some v=>.ok v w | none=>match w.farLoad P ⟨b,o,s⟩ false with | .ok (v,_)=>.ok v w | .error h=>.halt h w:=by
  show(Sem.load .plain ⟨b,o,s⟩ .pure).run P w=_;unfold Sem.run;cases w.cell? ⟨b,o,s⟩ with
  | some v=>rfl
  | none =>
   simp only;rw[show(Mode.plain==Mode.atomic)=false from rfl];cases w.farLoad P ⟨b,o,s⟩ false with
   | ok x=>rfl
   | error k=>rfl
 rw[e1];cases hc:w.cell? ⟨b,o,s⟩ with
 | some v =>
  obtain⟨V,hV,hv⟩:=hw.cell hb hc;refine⟨V,W,ρ,#[⟨.cell ⟨B,o,s⟩,false,false⟩],?_,Went.look hw fun e he=>?_,hv⟩
  ·show(Sem.load .plain ⟨B,o,s⟩ .pure).runT P W ES=_
   unfold Sem.runT;rw[hV];simp only[Sem.runT];rfl
  ·simp only[List.mem_toArray,List.mem_cons,List.not_mem_nil,or_false] at he
   subst he;exact .inl ⟨b,B,o,s,hb,rfl,rfl,cell_vis hc,fun h=>by cases h⟩
 | none =>
  obtain⟨k,hk,hp⟩:=hw.far (P:=P) (m:=false) (o:=o) (s:=s) hb;simp only[hk];cases k<;>first | exact hp | (cases hp;done)
theorem Sim0.store (hb:ρ b=some B){v V:Value}(hv:VRel ρ v V):Sim0 P (fun _ _ _=>True) ρ (Go.store ⟨b,o,s⟩ v) (Go.store ⟨B,o,s⟩ V):=by
 intro w W ES hw;have hbad:(∃ c,v=.agg c)∨(∃ c,v=.tuple c)∨((∀ c,v≠.agg c)∧∀ c,v≠.tuple c):=by cases v<;>simp
 rcases hbad with⟨c,rfl⟩ | ⟨c,rfl⟩ | ⟨n1,n2⟩
 ·exact rfl
 ·exact rfl
 have N1:∀ c,V≠.agg c:=fun c e=>by subst e;cases hv<;>first | exact n1 _ rfl | (simp[Lift.flat] at *;done) | (rename_i h;cases h)
 have N2:∀ c,V≠.tuple c:=fun c e=>by subst e;cases hv<;>first | exact n2 _ rfl | simp[Lift.flat] at *
 have e1:(Go.store ⟨b,o,s⟩ v).run P w=match w.cell? ⟨b,o,s⟩ with | some _=>if w.frozen? ⟨b,o,s⟩ then .halt (.unsupported (.unsafePointer "a write to bytes that a string shares")) w else .ok () (w.setCell ⟨b,o,s⟩ v) | none=>match w.farStore P ⟨b,o,s⟩ v false with | .ok (w,_)=>.ok () w | .error h=>.halt h w:=by
  cases v<;>first | rfl | exact absurd rfl (n1 _) | exact absurd rfl (n2 _)
 rw[e1];cases hc:w.cell? ⟨b,o,s⟩ with
 | some u =>
  cases hf:w.frozen? ⟨b,o,s⟩ with
  | true=>simp only[if_true];rfl
  | false =>
   obtain⟨U,hU,_⟩:=hw.cell hb hc;have hF:=hw.fz hb hf ⟨u,hc⟩;simp only[Bool.false_eq_true,if_false];refine⟨(),W.setCell ⟨B,o,s⟩ V,ρ,#[⟨.cell ⟨B,o,s⟩,true,false⟩],?_,⟨hw.set hb hv,⟨ρ.le_refl,fun _ _ h=>.inl h,by simp[World.setCell],fun x hx hn=>heap_set_ne _ _ _ (fun e=>hn b (e▸hb)),rfl,rfl,rfl⟩,fun e he=>?_,fun a h=>by rw[World.frozen?_setCell];exact h,fun x hx=>?_,fun x hx hn=>?_,by simp[World.setCell],fun X hX=>?_,fun _ _ h=>.inl h,fun b h k=>absurd k (by simp only[World.setCell,Array.size_modify];omega)⟩,trivial⟩
   ·show(Sem.store .plain ⟨B,o,s⟩ V (.pure ())).runT P W ES=_
    have e2:(Sem.store .plain ⟨B,o,s⟩ V (.pure ())).runT P W ES=match W.cell? ⟨B,o,s⟩ with | some _=>if W.frozen? ⟨B,o,s⟩ then (.halt (.unsupported (.unsafePointer "a write to bytes that a string shares")) W,ES) else (.ok () (W.setCell ⟨B,o,s⟩ V),ES.push ⟨.cell ⟨B,o,s⟩,true,false⟩) | none=>match W.farStore P ⟨B,o,s⟩ V false with | .ok (w,touched)=>(.ok () w,ES++touched.toArray.map (⟨.cell ·,true,false⟩)) | .error h=>(.halt h W,ES):=by
     cases V<;>first | rfl | exact absurd rfl (N1 _) | exact absurd rfl (N2 _)
    rw[e2,hU];simp only[hF,Bool.false_eq_true,if_false];rfl
   ·simp only[List.mem_toArray,List.mem_cons,List.not_mem_nil,or_false] at he
    subst he;exact .inl ⟨b,B,o,s,hb,rfl,rfl,set_vis (cell_vis hc),fun _ hs=>by rw[stl_frozen hs hc] at hf;cases hf⟩
   ·have hne:x≠b:=fun e=>by subst e;rw[stl_frozen hx hc] at hf;cases hf
    exact⟨heap_set_ne _ _ _ hne,fun X hX=>heap_set_ne _ _ _ fun e=>hne (hw.inj x b B (by have e':X=B:=e;rw[← e'];exact hX) hb)⟩
   ·exact set_vis hn
   ·by_cases e:X=B
    ·subst e
     rcases hX with⟨C,t,fz,hX⟩ | ⟨cap,buf,cl,a,r,tm,hX⟩
     ·refine .inl ⟨if s.isSome then C else C.setIfInBounds o V,t,fz,?_⟩
      unfold World.setCell;simp only;rw[Array.getElem?_modify,if_pos rfl,hX];rfl
     ·refine .inr ⟨cap,buf,cl,a,r,tm,?_⟩
      unfold World.setCell;simp only;rw[Array.getElem?_modify,if_pos rfl,hX];rfl
    ·unfold CC
     rw[heap_set_ne _ _ _ (by exact e)];exact hX
 | none =>
  obtain⟨k,hk,hp⟩:=hw.farS (P:=P) (v:=v) (m:=false) (o:=o) (s:=s) hb;simp only[hk];cases k<;>first | exact hp | (cases hp;done)
theorem Sim0.new {x X:Obj}(ho:ORel ρ x X):Sim0 P (fun σ a b=>σ a=some b) ρ (Go.newObj x) (Go.newObj X):=by
 intro w W ES hw;have e1:(Go.newObj x).run P w=.ok w.heap.size { w with heap:=w.heap.push x}:=rfl;rw[e1];refine⟨W.heap.size,{W with heap:=W.heap.push X},ext ρ w.heap.size W.heap.size,#[],by rw[noNew];rfl,⟨hw.new (ho.mono (ext_le hw _)),⟨ext_le hw _,fun c C hc=>?_,by simp,fun x hx _=>?_,rfl,rfl,rfl⟩,by simp,fun a h=>?_,fun y hy=>?_,fun y hy hn=>?_,by simp,fun Y hY=>?_,fun c C hc=>?_,fun c h1 h2=>?_⟩,by unfold ext;simp⟩
 ·unfold ext at hc
  split at hc
  ·cases hc;exact .inr (Nat.le_refl _)
  ·exact .inl hc
 ·show(W.heap.push X)[x]?=_
  rw[Array.getElem?_push_lt hx,as' hx]
 ·have hlt:a.block<w.heap.size:=by
   rcases Nat.lt_or_ge a.block w.heap.size with q | q
   ·exact q
   ·unfold World.frozen? at h;rw[ae' q] at h;cases h
  unfold World.frozen? at h ⊢;show(match (w.heap.push x)[a.block]? with | some (.cells _ _ (lo,hi))=>decide (lo≤a.off)&&decide (a.off<hi) | _=>false)=true;rw[Array.getElem?_push_lt hlt,← as' hlt];exact h
 ·have hlt:=stl_lt hy
  refine⟨by show(w.heap.push x)[y]?=_;rw[Array.getElem?_push_lt hlt,as' hlt],fun Y hY=>?_⟩;have hLt:=(hw.dom y Y hY).2;show(W.heap.push X)[Y]?=_;rw[Array.getElem?_push_lt hLt,as' hLt]
 ·show(w.heap.push x)[y]?≠_
  rw[Array.getElem?_push_lt hy,← as' hy];exact hn
 ·have hlt:Y<W.heap.size:=by
   rcases hY with⟨_,_,_,h⟩ | ⟨_,_,_,_,_,_,h⟩<;>exact(aq' h).1
  unfold CC at hY ⊢;show(∃ C t fz,(W.heap.push X)[Y]?=_)∨∃ cap buf cl s r tm,(W.heap.push X)[Y]?=_;rw[Array.getElem?_push_lt hlt,← as' hlt];exact hY
 ·unfold ext at hc
  split at hc
  ·exact .inr (by omega)
  ·exact .inl hc
 ·have e:c=w.heap.size:=by simp at h2;omega
  exact⟨W.heap.size,by unfold ext;rw[if_pos e]⟩
theorem Sim.load (hb:ρ b=some B):Sim P VRel ρ (Go.load ⟨b,o,s⟩) (Go.load ⟨B,o,s⟩):=by
 refine⟨Sim0.load hb,fun w W hw hq=>?_⟩;have e1:∀ w:World,(Go.load ⟨b,o,s⟩).run P w=match w.cell? ⟨b,o,s⟩ with | some v=>.ok v w | none=>match w.farLoad P ⟨b,o,s⟩ false with | .ok (v,_)=>.ok v w | .error h=>.halt h w:=by
  intro w;show(Sem.load .plain ⟨b,o,s⟩ .pure).run P w=_;unfold Sem.run;cases w.cell? ⟨b,o,s⟩ with
  | some v=>rfl
  | none =>
   simp only;rw[show(Mode.plain==Mode.atomic)=false from rfl];cases w.farLoad P ⟨b,o,s⟩ false with
   | ok x=>rfl
   | error k=>rfl
 rw[e1] at hq;cases hc:w.cell? ⟨b,o,s⟩ with
 | some v=>exact Lok.still (r:=.ok v w) (by rw[e1,hc]) rfl rfl fun τ d=>by rw[e1,show(re w τ d).cell? ⟨b,o,s⟩=some v from hc];rfl
 | none =>
  obtain⟨k,hk,hp⟩:=hw.far (P:=P) (m:=false) (o:=o) (s:=s) hb;rw[hc,hk] at hq;simp only[quietR,hp] at hq;cases hq
theorem Sim.store (hb:ρ b=some B){v V:Value}(hv:VRel ρ v V):Sim P (fun _ _ _=>True) ρ (Go.store ⟨b,o,s⟩ v) (Go.store ⟨B,o,s⟩ V):=by
 refine⟨Sim0.store hb hv,fun w W hw hq=>?_⟩;have hbad:(∃ c,v=.agg c)∨(∃ c,v=.tuple c)∨((∀ c,v≠.agg c)∧∀ c,v≠.tuple c):=by cases v<;>simp
 rcases hbad with⟨c,rfl⟩ | ⟨c,rfl⟩ | ⟨n1,n2⟩
 ·cases hq
 ·cases hq
 have e1:∀ w:World,(Go.store ⟨b,o,s⟩ v).run P w=match w.cell? ⟨b,o,s⟩ with | some _=>if w.frozen? ⟨b,o,s⟩ then .halt (.unsupported (.unsafePointer "a write to bytes that a string shares")) w else .ok () (w.setCell ⟨b,o,s⟩ v) | none=>match w.farStore P ⟨b,o,s⟩ v false with | .ok (w,_)=>.ok () w | .error h=>.halt h w:=by
  intro w;cases v<;>first | rfl | exact absurd rfl (n1 _) | exact absurd rfl (n2 _)
 rw[e1] at hq;cases hc:w.cell? ⟨b,o,s⟩ with
 | some u =>
  cases hf:w.frozen? ⟨b,o,s⟩ with
  | true=>rw[hc,hf] at hq;cases hq
  | false=>exact Lok.still (r:=.ok () (w.setCell ⟨b,o,s⟩ v)) (by rw[e1,hc,hf];rfl) rfl rfl fun τ d=>by rw[e1,show(re w τ d).cell? ⟨b,o,s⟩=some u from hc,show(re w τ d).frozen? ⟨b,o,s⟩=false from hf];rfl
 | none =>
  obtain⟨k,hk,hp⟩:=hw.farS (P:=P) (v:=v) (m:=false) (o:=o) (s:=s) hb;rw[hc,hk] at hq;simp only[quietR,hp] at hq;cases hq
theorem Sim.new {x X:Obj}(ho:ORel ρ x X):Sim P (fun σ a b=>σ a=some b) ρ (Go.newObj x) (Go.newObj X) :=
 ⟨Sim0.new ho,fun w W hw hq=>Lok.still (r:=.ok w.heap.size { w with heap:=w.heap.push x}) rfl rfl rfl fun _ _=>rfl⟩
end
def flatTy (P:Program)(t:TypeId):Bool:=match P.info? t with
 | some i=>match i.zero with
  | some v=>v.cells.all flat
  | none=>true
 | none=>true
def flatEl (P:Program)(t:TypeId):Bool:=match P.underlying t with
 | some (.slice e)=>flatTy P e
 | _=>true
theorem flatTy_zero {P:Program}{t:TypeId}{i:TypeInfo}{v:Value}(h:flatTy P t=true)(hi:P.info? t=some i)(hv:i.zero=some v):∀ (j:Nat) c,v.cells[j]?=some c→flat c=true:=by
 unfold flatTy at h;rw[hi] at h;simp only[hv] at h;exact fun j c hc=>Array.all_eq_true'.1 h c (Array.mem_of_getElem? hc)
theorem flatEl_elem {P:Program}{t e:TypeId}(h:flatEl P t=true)(hu:P.underlying t=some (.slice e)):flatTy P e=true:=by
 unfold flatEl at h;rw[hu] at h;exact h
section
variable {P:Program}{ρ:Ren}{α β:Type}
theorem Sim.typeInfo (t:TypeId):Sim P (fun _ a b=>a=b∧P.info? t=some a) ρ (Go.typeInfo t) (Go.typeInfo t):=by
 unfold Go.typeInfo;refine Sim.bind (Sim.program (Q:=fun _ a b=>a=P∧b=P) ⟨rfl,rfl⟩) ?_;rintro σ a b hl ⟨rfl,rfl⟩;cases h:b.info? t with
 | some i=>exact Sim.pure' ⟨rfl,rfl⟩
 | none=>exact Sim.stuck
theorem Sim.underlying (t:TypeId):Sim P (fun _ a b=>a=b∧P.underlying t=some a) ρ (Go.underlying t) (Go.underlying t):=by
 unfold Go.underlying;refine Sim.bind (Sim.program (Q:=fun _ a b=>a=P∧b=P) ⟨rfl,rfl⟩) ?_;rintro σ a b hl ⟨rfl,rfl⟩;cases h:b.underlying t with
 | some i=>exact Sim.pure' ⟨rfl,rfl⟩
 | none=>exact Sim.stuck
theorem Sim.sizeOf (t:TypeId):Sim P (fun _ a b=>a=b) ρ (Go.sizeOf t) (Go.sizeOf t):=by
 unfold Go.sizeOf;refine Sim.bind (Sim.typeInfo t) ?_;rintro σ a b hl ⟨rfl,_⟩;exact Sim.pure' rfl
theorem Sim.zeroValue' (t:TypeId):Sim P (fun _ a b=>a=b) ρ (Go.zeroValue t) (Go.zeroValue t):=by
 unfold Go.zeroValue;refine Sim.bind (Sim.typeInfo t) ?_;rintro σ a b hl ⟨rfl,hi⟩;cases h:a.zero with
 | some i=>exact Sim.pure' rfl
 | none=>exact Sim.unsupported
theorem Sim.zeroValue (t:TypeId)(hZ:flatTy P t=true):Sim P (fun _ a b=>a=b∧∀ (j:Nat) c,a.cells[j]?=some c→flat c=true) ρ (Go.zeroValue t) (Go.zeroValue t):=by
 unfold Go.zeroValue;refine Sim.bind (Sim.typeInfo t) ?_;rintro σ a b hl ⟨rfl,hi⟩;cases h:a.zero with
 | some i=>exact Sim.pure' ⟨rfl,flatTy_zero hZ hi h⟩
 | none=>exact Sim.unsupported
theorem Sim.isAgg (t:TypeId):Sim P (fun _ a b=>a=b) ρ (Go.isAgg t) (Go.isAgg t):=by
 unfold Go.isAgg;refine Sim.bind (Sim.underlying t) ?_;rintro σ a b hl ⟨rfl,_⟩;cases a<;>exact Sim.pure' rfl
theorem add_map {b B o n:Nat}{s:Option Nat}:∃ o' s',(⟨b,o,s⟩:Addr).add n=⟨b,o',s'⟩∧(⟨B,o,s⟩:Addr).add n=⟨B,o',s'⟩:=by
 unfold Addr.add;by_cases h:n=0
 ·exact⟨o,s,by rw[if_pos h],by rw[if_pos h]⟩
 ·exact⟨o+n,none,by rw[if_neg h],by rw[if_neg h]⟩
theorem Sim.loadCellsFrom {b B o:Nat}{s:Option Nat}:∀ (n i:Nat) (ρ:Ren) (x X:Array Value),ρ b=some B→ARel ρ x X→Sim P (fun σ a c=>ARel σ a c) ρ (Go.loadCellsFrom ⟨b,o,s⟩ i n x) (Go.loadCellsFrom ⟨B,o,s⟩ i n X)
 | 0,i,ρ,x,X,hb,hx=>Sim.pure' hx
 | n+1,i,ρ,x,X,hb,hx=>by
  unfold Go.loadCellsFrom;obtain⟨o',s',e1,e2⟩:=add_map (b:=b) (B:=B) (o:=o) (n:=i) (s:=s);rw[e1,e2];refine Sim.bind (Sim.load hb) ?_;intro σ v V hl hv;exact Sim.loadCellsFrom n (i+1) σ _ _ (hl _ _ hb) ((hx.mono hl).push hv)
theorem Sim.loadCells {b B o n:Nat}{s:Option Nat}(hb:ρ b=some B):Sim P (fun σ a c=>ARel σ a c) ρ (Go.loadCells ⟨b,o,s⟩ n) (Go.loadCells ⟨B,o,s⟩ n):=Sim.loadCellsFrom n 0 ρ _ _ hb ARel.nil
theorem Sim.loadVar {b B o:Nat}{s:Option Nat}(hb:ρ b=some B)(t:TypeId):Sim P VRel ρ (Go.loadVar t ⟨b,o,s⟩) (Go.loadVar t ⟨B,o,s⟩):=by
 unfold Go.loadVar;refine Sim.bind (Sim.isAgg t) ?_;rintro σ a _ hl rfl;refine Sim.ite (fun _=>?_) (fun _=>Sim.load (hl _ _ hb));refine Sim.bind (Sim.sizeOf t) ?_;rintro τ n _ hl2 rfl;refine Sim.bind (Sim.loadCells (hl2 _ _ (hl _ _ hb))) ?_;intro υ c C hl3 hc;exact Sim.pure' (VRel.agg' hc)
def LRel (ρ:Ren):List Value→List Value→Prop
 | [],[]=>True
 | v::l,V::L=>VRel ρ v V∧LRel ρ l L
 | _,_=>False
theorem LRel.mono {σ:Ren}(hl:ρ.le σ):∀ {l L:List Value},LRel ρ l L→LRel σ l L
 | [],[],_=>trivial
 | _::_,_::_,h=>⟨h.1.mono hl,h.2.mono hl⟩
theorem LRel.of:∀ {l L:List Value},l.length=L.length→(∀ (i:Nat) v V,l[i]?=some v→L[i]?=some V→VRel ρ v V)→LRel ρ l L
 | [],[],_,_=>trivial
 | v::l,V::L,hn,h=>⟨h 0 v V rfl rfl,LRel.of (by simpa using hn) fun i x X hx hX=>h (i+1) x X (by simpa using hx) (by simpa using hX)⟩
theorem ARel.list {c C:Array Value}(h:ARel ρ c C):LRel ρ c.toList C.toList:=LRel.of (by simpa using h.1) fun i v V h1 h2=>h.2 i v V (by simpa using h1) (by simpa using h2)
theorem Sim.storeCells {b B o:Nat}{s:Option Nat}:∀ (l L:List Value) (i:Nat) (ρ:Ren),ρ b=some B→LRel ρ l L→Sim P (fun _ _ _=>True) ρ (Go.storeCells ⟨b,o,s⟩ l i) (Go.storeCells ⟨B,o,s⟩ L i)
 | [],[],i,ρ,hb,_=>Sim.pure' trivial
 | v::l,V::L,i,ρ,hb,hx=>by
  unfold Go.storeCells;obtain⟨o',s',e1,e2⟩:=add_map (b:=b) (B:=B) (o:=o) (n:=i) (s:=s);rw[e1,e2];refine Sim.bind (Sim.store hb hx.1) ?_;intro σ _ _ hl _;exact Sim.storeCells l L (i+1) σ (hl _ _ hb) (hx.2.mono hl)
theorem Sim.storeVar {b B o:Nat}{s:Option Nat}(hb:ρ b=some B)(t:TypeId){v V:Value}(hv:VRel ρ v V):Sim P (fun _ _ _=>True) ρ (Go.storeVar t ⟨b,o,s⟩ v) (Go.storeVar t ⟨B,o,s⟩ V):=by
 unfold Go.storeVar;refine Sim.bind (Sim.sizeOf t) ?_;rintro σ n _ hl rfl;have hc:=(hv.mono hl).cells;rw[hc.1];dsimp only;refine Sim.ite (fun _=>Sim.bind (Q:=fun _ _ _=>True) Sim.stuck fun τ _ _ hl2 _=>?_) (fun _=>?_)
 ·exact Sim.storeCells _ _ 0 τ (hl2 _ _ (hl _ _ hb)) (hc.list.mono hl2)
 ·exact Sim.storeCells _ _ 0 σ (hl _ _ hb) hc.list
theorem Sim.newRow (t:TypeId){c C:Array Value}(h:ARel ρ c C):Sim P (fun σ a b=>∃ x X,σ x=some X∧a=⟨x,0,none⟩∧b=⟨X,0,none⟩) ρ (Go.newRow t c) (Go.newRow t C):=by
 unfold Go.newRow;refine Sim.bind (Sim.new (.cells h ⟨fun o h=>h,id⟩)) ?_;intro σ x X hl hx;exact Sim.pure' ⟨x,X,hx,rfl,rfl⟩
theorem Sim.newVar (t:TypeId){v V:Value}(h:VRel ρ v V):Sim P (fun σ a b=>∃ x X,σ x=some X∧a=⟨x,0,none⟩∧b=⟨X,0,none⟩) ρ (Go.newVar t v) (Go.newVar t V):=Sim.newRow t h.cells
end
section
variable {P:Program}{ρ:Ren}
theorem Sim.sureAddr {v V:Value}(h:VRel ρ v V):Sim P (fun σ a b=>∃ x X o s,σ x=some X∧a=⟨x,o,s⟩∧b=⟨X,o,s⟩) ρ (Instr.sureAddr v) (Instr.sureAddr V):=by
 cases h with
 | pointer hb=>exact Sim.pure' ⟨_,_,_,_,hb,rfl,rfl⟩
 | flat h=>cases v<;>first | exact Sim.stuck | (rename_i a;cases a<;>first | exact Sim.stuck | simp[Lift.flat] at h)
 | _=>exact Sim.stuck
theorem Sim.loadAt (t:TypeId){v V:Value}(h:VRel ρ v V):Sim P VRel ρ (Instr.loadAt t v) (Instr.loadAt t V):=by
 unfold Instr.loadAt;refine Sim.bind (Sim.sureAddr h) ?_;rintro σ _ _ hl ⟨x,X,o,s,hx,rfl,rfl⟩;exact Sim.loadVar hx t
theorem Sim.storeAt (t:TypeId){v V x X:Value}(h:VRel ρ v V)(hx:VRel ρ x X):Sim P (fun _ _ _=>True) ρ (Instr.storeAt t v x) (Instr.storeAt t V X):=by
 unfold Instr.storeAt;refine Sim.bind (Sim.sureAddr h) ?_;rintro σ _ _ hl ⟨b,B,o,s,hb,rfl,rfl⟩;exact Sim.storeVar hb t (hx.mono hl)
theorem Sim.alloc (t:TypeId)(hZ:flatTy P t=true):Sim P VRel ρ (Instr.alloc t true (.tuple #[])) (Instr.alloc t true (.tuple #[])):=by
 unfold Instr.alloc;refine Sim.bind (Sim.zeroValue t hZ) ?_;rintro σ a _ hl ⟨rfl,hf⟩;refine Sim.bind (Sim.newRow t (c:=a.cells) (C:=a.cells) (ARel.same hf)) ?_;rintro τ _ _ hl ⟨x,X,hx,rfl,rfl⟩;exact Sim.pure' (.pointer hx)
theorem Sim.box (t:TypeId){v V:Value}(h:VRel ρ v V):Sim P VRel ρ (Instr.box t v) (Instr.box t V):=by
 unfold Instr.box;refine Sim.bind (Sim.newVar t h) ?_;rintro τ _ _ hl ⟨x,X,hx,rfl,rfl⟩;exact Sim.pure' (.pointer hx)
theorem Sim.extract {v V:Value}(i:Nat)(h:VRel ρ v V):Sim P VRel ρ (Instr.extract v i) (Instr.extract V i):=by
 cases h with
 | @tuple c C h1 h2 =>
  show Sim P VRel ρ (match c[i]? with | some v=>Pure.pure v | none=>Go.stuck _) (match C[i]? with | some v=>Pure.pure v | none=>Go.stuck _);cases hc:c[i]? with
  | none=>exact Sim.stuck
  | some v =>
   obtain⟨V,hV,hv⟩:=ARel.get ⟨h1,h2⟩ hc;rw[hV];exact Sim.pure' hv
 | flat h=>cases v<;>first | exact Sim.stuck | simp[Lift.flat] at h
 | _=>exact Sim.stuck
theorem Sim.makeFunc (fn:Fn)(hf:okFn fn=true){x X c C:Array Value}(h:ARel ρ x X)(k:ARel ρ c C):Sim P VRel ρ (Instr.makeFunc fn x c) (Instr.makeFunc fn X C):=Sim.pure' (.func hf h.1 h.2 k.1 k.2)
theorem Sim.makeInterface (t:TypeId){v V:Value}(h:VRel ρ v V):Sim P VRel ρ (Instr.makeInterface t v) (Instr.makeInterface t V):=by
 unfold Instr.makeInterface;refine Sim.bind (Sim.underlying t) ?_;rintro σ a _ hl ⟨rfl,_⟩;cases a<;>first | exact Sim.stuck | exact Sim.pure' (.iface (h.mono hl))
end
section
variable {P:Program}{ρ:Ren}
theorem Sim.halts {α β:Type}{Q:Ren→α→β→Prop}{s:Sem α}{S:Sem β}(h:∀ w,∃ k w',s.run P w=.halt k w'∧quiet k=true):Sim P Q ρ s S:=by
 refine⟨?_,fun w W hw hq=>?_⟩
 case refine_2 =>
  obtain⟨k,w',e,hn⟩:=h w;rw[e] at hq;simp only[quietR,hn] at hq;cases hq
 intro w W ES hw;obtain⟨k,w',e,hn⟩:=h w;rw[e];cases k<;>first | exact hn | (cases hn;done)
def ADRel (ρ:Ren)(a A:Addr):Prop:=ρ a.block=some A.block∧a.off=A.off∧a.spot=A.spot
theorem ADRel.of {b B o:Nat}{s:Option Nat}(h:ρ b=some B):ADRel ρ ⟨b,o,s⟩ ⟨B,o,s⟩:=⟨h,rfl,rfl⟩
theorem ADRel.mono {σ:Ren}(hl:ρ.le σ){a A:Addr}(h:ADRel ρ a A):ADRel σ a A:=⟨hl _ _ h.1,h.2⟩
theorem ADRel.ptr {a A:Addr}(h:ADRel ρ a A):VRel ρ (.pointer (some a)) (.pointer (some A)):=by
 obtain⟨b,o,s⟩:=a;obtain⟨B,O,S⟩:=A;obtain⟨h1,h2,h3⟩:=h;simp only at h1 h2 h3;subst h2 h3;exact .pointer h1
theorem Sim.shape {r R:Nat}(h:ρ r=some R):Sim P (fun _ a b=>a=b∨a=none) ρ (Go.shape r) (Go.shape R):=by
 refine⟨?_,fun w W hw hq=>Lok.still (r:=.ok (w.shape? r) w) rfl rfl rfl fun _ _=>rfl⟩;intro w W ES hw;have e1:(Go.shape r).run P w=.ok (w.shape? r) w:=rfl;rw[e1];refine⟨W.shape? R,W,ρ,#[],by rw[noNew];rfl,.refl hw,?_⟩;obtain⟨x,X,h1,h2,h3⟩:=hw.obj r R h;unfold World.shape?;rw[h1,h2];cases h3 with
 | cells ha _=>exact .inl (by simp only;rw[ha.1])
 | chan=>exact .inl rfl
 | number=>exact .inl rfl
 | hidC=>exact .inr rfl
 | hidH=>exact .inr rfl
theorem getObj_run {w:World}{r:Nat}{o:Obj}(h:w.heap[r]?=some o)(ho:∀ c t f,o≠.cells c t f):(Go.getObj r).run P w=.ok o w:=by
 show(Sem.getObj r .pure).run P w=_;unfold Sem.run;rw[h];cases o<;>first | rfl | exact absurd rfl (ho _ _ _)
theorem getObj_ev {w:World}{r:Nat}{o:Obj}(h:w.heap[r]?=some o)(ho:∀ c t f,o≠.cells c t f)(es:Array Event):(Go.getObj r).events P w es=es.push ⟨.obj r,false,o.isChan⟩:=by
 show((Sem.getObj r .pure).runT P w es).2=_;unfold Sem.runT;rw[h];cases o<;>first | rfl | exact absurd rfl (ho _ _ _)
def NRel (ρ:Ren):Option (Addr × Bool)→Option (Addr × Bool)→Prop
 | none,none=>True
 | some (a,l),some (A,L)=>ADRel ρ a A∧l=L
 | _,_=>False
theorem Sim0.numberAt {r R:Nat}(h:ρ r=some R):Sim0 P NRel ρ (Go.numberAt r) (Go.numberAt R):=by
 intro w W ES hw;obtain⟨x,X,h1,h2,h3⟩:=hw.obj r R h;have e:w.heap[r]?≠some Lift.poison→∀ e∈(#[⟨.obj R,false,false⟩]:Array Event),EvR ρ w w e:=fun hn e he=>by
  simp only[List.mem_toArray,List.mem_cons,List.not_mem_nil,or_false] at he;subst he;exact .inr (.inl ⟨r,R,h,rfl,rfl,.inr hn⟩)
 have e':∀ e∈(#[⟨.obj R,false,true⟩]:Array Event),EvR ρ w w e:=fun e he=>by
  simp only[List.mem_toArray,List.mem_cons,List.not_mem_nil,or_false] at he;subst he;exact .inr (.inl ⟨r,R,h,rfl,rfl,.inl rfl⟩)
 cases h3 with
 | cells ha _ =>
  have r1:(Go.numberAt r).run P w=.ok none w:=by first | (simp[Go.numberAt,World.shape?,h1];done) | simp[Go.numberAt,World.shape?,h1,getObj_run (P:=P) h1 (by simp)]
  rw[r1];exact⟨none,W,ρ,#[],by simp[Go.numberAt,World.shape?,h2],.refl hw,trivial⟩
 | chan =>
  have r1:(Go.numberAt r).run P w=.ok none w:=by first | (simp[Go.numberAt,World.shape?,h1];done) | simp[Go.numberAt,World.shape?,h1,getObj_run (P:=P) h1 (by simp)]
  rw[r1];exact⟨none,W,ρ,#[⟨.obj R,false,true⟩],by simp[Go.numberAt,World.shape?,h2,Obj.isChan,getObj_run (P:=P) h2 (by simp),getObj_ev (P:=P) h2 (by simp)],Went.look hw e',trivial⟩
 | @number b B o s l hb =>
  have r1:(Go.numberAt r).run P w=.ok (some (⟨b,o,s⟩,l)) w:=by first | (simp[Go.numberAt,World.shape?,h1];done) | simp[Go.numberAt,World.shape?,h1,getObj_run (P:=P) h1 (by simp)]
  rw[r1];exact⟨some (⟨B,o,s⟩,l),W,ρ,#[⟨.obj R,false,false⟩],by simp[Go.numberAt,World.shape?,h2,Obj.isChan,getObj_run (P:=P) h2 (by simp),getObj_ev (P:=P) h2 (by simp)],Went.look hw (e (by rw[h1];simp[Lift.poison])),ADRel.of hb,rfl⟩
 | hidC =>
  have r1:(Go.numberAt r).run P w=.ok none w:=by simp[Go.numberAt,World.shape?,h1,Lift.poison,getObj_run (P:=P) h1 (by intro _ _ _;simp[Lift.poison])]
  rw[r1];exact⟨none,W,ρ,#[],by simp[Go.numberAt,World.shape?,h2],.refl hw,trivial⟩
 | hidH =>
  have r1:(Go.numberAt r).run P w=.ok none w:=by simp[Go.numberAt,World.shape?,h1,Lift.poison,getObj_run (P:=P) h1 (by intro _ _ _;simp[Lift.poison])]
  rw[r1];exact⟨none,W,ρ,#[⟨.obj R,false,true⟩],by simp[Go.numberAt,World.shape?,h2,Obj.isChan,getObj_run (P:=P) h2 (by simp),getObj_ev (P:=P) h2 (by simp)],Went.look hw e',trivial⟩
theorem Sim0.viewAt {r R:Nat}(h:ρ r=some R):Sim0 P (fun _ a b=>a=none∧b=none) ρ (Go.viewAt r) (Go.viewAt R):=by
 intro w W ES hw;obtain⟨x,X,h1,h2,h3⟩:=hw.obj r R h;have e:∀ t,t=true∨w.heap[r]?≠some Lift.poison→∀ e∈(#[⟨.obj R,false,t⟩]:Array Event),EvR ρ w w e:=fun t ht e he=>by
  simp only[List.mem_toArray,List.mem_cons,List.not_mem_nil,or_false] at he;subst he;exact .inr (.inl ⟨r,R,h,rfl,rfl,ht⟩)
 have r1:(Go.viewAt r).run P w=.ok none w:=by
  cases h3<;>first | (simp[Go.viewAt,World.shape?,h1];done) | (simp[Go.viewAt,World.shape?,h1,getObj_run (P:=P) h1 (by simp)];done) | (have:=getObj_run (P:=P) h1 (by intro _ _ _;simp[Lift.poison]);simp[Go.viewAt,World.shape?,h1,Lift.poison] at this ⊢;simp[this])
 rw[r1];cases h3 with
 | cells ha _=>exact⟨none,W,ρ,#[],by simp[Go.viewAt,World.shape?,h2],.refl hw,rfl,rfl⟩
 | chan=>exact⟨none,W,ρ,#[⟨.obj R,false,true⟩],by simp[Go.viewAt,World.shape?,h2,Obj.isChan,getObj_run (P:=P) h2 (by simp),getObj_ev (P:=P) h2 (by simp)],Went.look hw (e _ (.inl rfl)),rfl,rfl⟩
 | number hb=>exact⟨none,W,ρ,#[⟨.obj R,false,false⟩],by simp[Go.viewAt,World.shape?,h2,Obj.isChan,getObj_run (P:=P) h2 (by simp),getObj_ev (P:=P) h2 (by simp)],Went.look hw (e _ (.inr (by rw[h1];simp[Lift.poison]))),rfl,rfl⟩
 | hidC=>exact⟨none,W,ρ,#[],by simp[Go.viewAt,World.shape?,h2],.refl hw,rfl,rfl⟩
 | hidH=>exact⟨none,W,ρ,#[⟨.obj R,false,true⟩],by simp[Go.viewAt,World.shape?,h2,Obj.isChan,getObj_run (P:=P) h2 (by simp),getObj_ev (P:=P) h2 (by simp)],Went.look hw (e _ (.inl rfl)),rfl,rfl⟩
theorem at_still {r:Nat}{x:Obj}{w:World}{α:Type}{t:Sem α}{v:α}(h:∀ w:World,w.heap[r]?=some x→t.run P w=.ok v w)(h1:w.heap[r]?=some x):Lok P t w :=
 Lok.still (r:=.ok v w) (h w h1) rfl rfl fun τ d=>h (re w τ d) h1
theorem Sim.numberAt {r R:Nat}(h:ρ r=some R):Sim P NRel ρ (Go.numberAt r) (Go.numberAt R):=by
 refine⟨Sim0.numberAt h,fun w W hw hq=>?_⟩;obtain⟨x,X,h1,h2,h3⟩:=hw.obj r R h;cases h3 with
 | cells ha _=>exact at_still (v:=none) (fun w h1=>by first | (simp[Go.numberAt,World.shape?,h1];done) | simp[Go.numberAt,World.shape?,h1,getObj_run (P:=P) h1 (by simp)]) h1
 | chan=>exact at_still (v:=none) (fun w h1=>by first | (simp[Go.numberAt,World.shape?,h1];done) | simp[Go.numberAt,World.shape?,h1,getObj_run (P:=P) h1 (by simp)]) h1
 | @number b B o s l hb=>exact at_still (v:=some (⟨b,o,s⟩,l)) (fun w h1=>by first | (simp[Go.numberAt,World.shape?,h1];done) | simp[Go.numberAt,World.shape?,h1,getObj_run (P:=P) h1 (by simp)]) h1
 | hidC=>exact at_still (v:=none) (fun w h1=>by simp[Go.numberAt,World.shape?,h1,Lift.poison,getObj_run (P:=P) h1 (by intro _ _ _;simp[Lift.poison])]) h1
 | hidH=>exact at_still (v:=none) (fun w h1=>by simp[Go.numberAt,World.shape?,h1,Lift.poison,getObj_run (P:=P) h1 (by intro _ _ _;simp[Lift.poison])]) h1
theorem Sim.viewAt {r R:Nat}(h:ρ r=some R):Sim P (fun _ a b=>a=none∧b=none) ρ (Go.viewAt r) (Go.viewAt R):=by
 refine⟨Sim0.viewAt h,fun w W hw hq=>?_⟩;obtain⟨x,X,h1,h2,h3⟩:=hw.obj r R h;refine at_still (x:=x) (v:=none) (fun w h1=>?_) h1;cases h3<;>first | (simp[Go.viewAt,World.shape?,h1];done) | (simp[Go.viewAt,World.shape?,h1,getObj_run (P:=P) h1 (by simp)];done) | (have:=getObj_run (P:=P) h1 (by intro _ _ _;simp[Lift.poison]);simp[Go.viewAt,World.shape?,h1,Lift.poison] at this ⊢;simp[this])
theorem Sim.behindNumber {a A:Addr}(h:ADRel ρ a A):Sim P (fun σ x X=>ADRel σ x.1 X.1∧x.2=X.2) ρ (Go.behindNumber a) (Go.behindNumber A):=by
 unfold Go.behindNumber;refine Sim.bind (Sim.numberAt h.1) ?_;intro σ x X hl hx
 match x,X,hx with
 | none,none,_=>exact Sim.pure' ⟨h.mono hl,rfl⟩
 | some (a,l),some (A,L),hx=>exact Sim.pure' hx
theorem Sim.noView {a A:Addr}(h:ADRel ρ a A):Sim P (fun _ _ _=>True) ρ (Go.noView a) (Go.noView A):=by
 unfold Go.noView;refine Sim.bind (Sim.viewAt h.1) ?_;rintro σ _ _ hl ⟨rfl,rfl⟩;exact Sim.pure' trivial
theorem Sim.byteOf {a A:Addr}(h:ADRel ρ a A):Sim P (fun _ x X=>x=X) ρ (Go.byteOf a) (Go.byteOf A):=by
 unfold Go.byteOf;rw[h.2.2];cases hs:A.spot with
 | some s=>exact Sim.pure' rfl
 | none =>
  refine Sim.bind (Sim.program (Q:=fun _ a b=>a=P∧b=P) ⟨rfl,rfl⟩) ?_;rintro σ p q hl ⟨rfl,rfl⟩;refine Sim.bind (Sim.noView (h.mono hl)) ?_;intro σ2 _ _ hl2 _;refine Sim.bind (Sim.shape ((h.mono hl).mono hl2).1) ?_;rintro σ3 x X hl3 hx;cases x with
  | none=>exact Sim.stuck
  | some e =>
   obtain rfl:some e=X:=by rcases hx with q | q<;>first | exact q | cases q
   obtain⟨e,n⟩:=e;dsimp only;rw[h.2.1];refine Sim.ite (fun _=>Sim.pure' rfl) (fun _=>?_);cases byteOfCell q q.depth e (A.off % q.cellsOf e) with
   | none=>exact Sim.stuck
   | some b=>exact Sim.pure' rfl
theorem Sim.asInt {v V:Value}(h:VRel ρ v V):Sim P (fun _ a b=>a=b) ρ (Go.asInt v) (Go.asInt V):=by
 unfold Go.asInt;refine Sim.bind (Q:=fun _ a b=>a=b) ?_ (fun σ a b hl e=>by subst e;exact Sim.pure' rfl);cases h with
 | flat h=>cases v<;>first | exact Sim.stuck | exact Sim.pure' rfl | (rename_i a;cases a<;>first | exact Sim.stuck | exact Sim.unsupported)
 | pointer h=>exact Sim.unsupported
 | _=>exact Sim.stuck
theorem Sim.unsafeAdd (t:TypeId){a A:Addr}(h:ADRel ρ a A){y Y:Value}(hy:VRel ρ y Y) :
  Sim P (fun σ v V=>∃ b B,v=.pointer (some b)∧V=.pointer (some B)∧ADRel σ b B) ρ (Builtin.unsafeAdd_ #[] t #[.pointer (some a),y]) (Builtin.unsafeAdd_ #[] t #[.pointer (some A),Y]):=by
 unfold Builtin.unsafeAdd_;dsimp only;refine Sim.bind (Sim.asInt hy) ?_;rintro σ n _ hl rfl;refine Sim.ite (fun _=>?_) (fun _=>?_)
 ·refine Sim.bind (Sim.viewAt (h.mono hl).1) ?_
  rintro σ2 _ _ hl2 ⟨rfl,rfl⟩;exact Sim.pure' ⟨a,A,rfl,rfl,(h.mono hl).mono hl2⟩
 ·refine Sim.ite (fun _=>Sim.halts fun w=>⟨_,w,rfl,by simp⟩) (fun _=>?_)
  dsimp only;refine Sim.bind (Sim.shape (h.mono hl).1) ?_;rintro σ2 x X hl2 hx;cases x with
  | none=>exact Sim.unsupported
  | some e =>
   obtain rfl:some e=X:=by rcases hx with q | q<;>first | exact q | cases q
   obtain⟨e,m⟩:=e;dsimp only;refine Sim.bind (Sim.program (Q:=fun _ a b=>a=P∧b=P) ⟨rfl,rfl⟩) ?_;rintro σ3 p q hl3 ⟨rfl,rfl⟩;rw[h.2.1];cases cellAtBytes q q.depth e (m / q.cellsOf e) A.off n with
   | none=>exact Sim.unsupported
   | some off=>exact Sim.pure' ⟨_,_,rfl,rfl,(((h.mono hl).mono hl2).mono hl3).1,rfl,h.2.2⟩
theorem Sim.runtimePanic {α β:Type}{Q:Ren→α→β→Prop}{e:RuntimeError}(he:∀ i c a m,e≠.typeAssertion i c a m)(h2:e≠.panicNil)(h3:∀ t,e≠.unhashable t):Sim P Q ρ (Go.runtimePanic e) (Go.runtimePanic e):=by
 unfold Go.runtimePanic;refine Sim.bind (Sim.program (Q:=fun _ a b=>a=P∧b=P) ⟨rfl,rfl⟩) ?_;rintro σ p q hl ⟨rfl,rfl⟩;cases e with
 | bounds x y s c =>
  refine Sim.goPanic (.iface (VRel.agg' (ARel.same fun i v hv=>?_)))
  match i,hv with
  | 0,h=>cases h;rfl
  | 1,h=>cases h;rfl
  | 2,h=>cases h;rfl
  | 3,h=>cases h;rfl
  | i+4,h=>simp at h
 | error m=>exact Sim.goPanic (.iface (.flat rfl))
 | plain m=>exact Sim.goPanic (.iface (.flat rfl))
 | nilDeref=>exact Sim.goPanic (.iface (.flat rfl))
 | typeAssertion i c a m=>exact absurd rfl (he i c a m)
 | panicNil=>exact absurd rfl h2
 | unhashable t=>exact absurd rfl (h3 t)
theorem Sim.movedNumber (t:TypeId){a A:Addr}(h:ADRel ρ a A){y Y:Value}(hy:VRel ρ y Y):Sim P VRel ρ (Go.movedNumber t (.pointer (some a)) y) (Go.movedNumber t (.pointer (some A)) Y):=by
 unfold Go.movedNumber;refine Sim.bind (Sim.underlying t) ?_;rintro σ d _ hl ⟨rfl,_⟩;dsimp only;refine Sim.ite (fun _=>Sim.halts fun w=>⟨_,w,rfl,by simp⟩) (fun _=>?_);refine Sim.bind (Sim.behindNumber (h.mono hl)) ?_;rintro σ2 ⟨b,l⟩ ⟨B,L⟩ hl2 ⟨hb,rfl⟩;dsimp only;refine Sim.bind (Sim.unsafeAdd t hb (hy.mono (Ren.le_trans hl hl2))) ?_;rintro σ3 _ _ hl3 ⟨c,C,rfl,rfl,hc⟩;obtain⟨cb,co,cs⟩:=c;obtain⟨CB,CO,CS⟩:=C;obtain⟨c1,c2,c3⟩:=hc;simp only at c1 c2 c3;subst c2 c3;show Sim P VRel σ3 (Go.asNumber _ _) (Go.asNumber _ _);unfold Go.asNumber;refine Sim.bind (Sim.new (.number c1)) ?_;intro σ4 x X hl4 hx;exact Sim.pure' (.pointer hx)
theorem Sim.movedPointer (t:TypeId){a A:Addr}(h:ADRel ρ a A){y Y:Value}(hy:VRel ρ y Y):Sim P VRel ρ (Go.movedPointer t (.pointer (some a)) y) (Go.movedPointer t (.pointer (some A)) Y):=by
 unfold Go.movedPointer;dsimp only;refine Sim.bind (Sim.numberAt h.1) ?_;intro σ x X hl hx
 match x,X,hx with
 | some _,some _,_=>exact Sim.halts fun w=>⟨_,w,rfl,by simp⟩
 | none,none,_ =>
  refine Sim.mono (Sim.unsafeAdd t (h.mono hl) (hy.mono hl)) ?_;rintro σ2 _ _ hl2 ⟨c,C,rfl,rfl,hc⟩;exact hc.ptr
theorem Sim.twoPlaces (hG:P.globals.size=GN){a A b B:Addr}(h:ADRel ρ a A)(k:ADRel ρ b B):Sim P (fun _ x X=>x=X) ρ (Op.twoPlaces a b) (Op.twoPlaces A B):=by
 refine Sim.low fun hg=>?_;unfold Op.twoPlaces;refine Sim.bind (Sim.program (Q:=fun _ a b=>a=P∧b=P) ⟨rfl,rfl⟩) ?_;rintro σ p q hl ⟨rfl,rfl⟩;by_cases e:a.block=b.block∧a.block<GN
 ·have e1:A.block=B.block:=by
   have h1:=h.1;have k1:=k.1;rw[e.1] at h1;rw[h1] at k1;exact oj' k1
  have e2:A.block<GN:=(hg _ _ h.1).1 e.2;have c1:¬ ((a.block != b.block||decide (a.block≥q.globals.size))=true):=by
   rw[hG,Bool.or_eq_true,decide_eq_true_eq,bne_iff_ne];omega
  have c2:¬ ((A.block != B.block||decide (A.block≥q.globals.size))=true):=by
   rw[hG,Bool.or_eq_true,decide_eq_true_eq,bne_iff_ne];omega
  rw[if_neg c1,if_neg c2];refine Sim.bind (Sim.byteOf (h.mono hl)) ?_;rintro σ2 x _ hl2 rfl;refine Sim.bind (Sim.byteOf ((k.mono hl).mono hl2)) ?_;rintro σ3 y _ hl3 rfl;exact Sim.pure' rfl
 ·refine Sim.halts fun w=>?_
  rw[if_pos (by rw[hG,Bool.or_eq_true,decide_eq_true_eq,bne_iff_ne];omega)];exact⟨_,w,rfl,by simp⟩
theorem Sim.addrSub (hG:P.globals.size=GN)(k:IntKind){a A b B:Addr}(ha:ADRel ρ a A)(hb:ADRel ρ b B):Sim P VRel ρ (Op.addrSub k a b) (Op.addrSub k A B):=by
 unfold Op.addrSub;refine Sim.bind (Sim.twoPlaces hG ha hb) ?_;rintro σ p _ hl rfl;exact Sim.pure' (.flat rfl)
theorem Sim.addrCmp (hG:P.globals.size=GN)(op:BinOp){a A b B:Addr}(ha:ADRel ρ a A)(hb:ADRel ρ b B):Sim P VRel ρ (Op.addrCmp op a b) (Op.addrCmp op A B):=by
 unfold Op.addrCmp;refine Sim.bind (Sim.twoPlaces hG ha hb) ?_;rintro σ p _ hl rfl;cases op<;>first | exact Sim.pure' (.flat rfl) | exact Sim.unsupported
theorem Sim.addrMod (k:IntKind)(n:Int){a A:Addr}(h:ADRel ρ a A):Sim P VRel ρ (Op.addrMod k a n) (Op.addrMod k A n):=by
 unfold Op.addrMod;refine Sim.bind (Sim.shape h.1) ?_;intro σ x X hl hx;cases x with
 | none=>exact Sim.unsupported
 | some e =>
  obtain rfl:some e=X:=by rcases hx with q | q<;>first | exact q | cases q
  obtain⟨e,m⟩:=e;refine Sim.bind (Sim.typeInfo e) ?_;rintro σ2 i _ hl2 ⟨rfl,_⟩;dsimp only;refine Sim.ite (fun _=>Sim.halts fun w=>⟨_,w,rfl,by simp⟩) (fun _=>?_);refine Sim.bind (Sim.byteOf ((h.mono hl).mono hl2)) ?_;rintro σ3 p _ hl3 rfl;exact Sim.pure' (.flat rfl)
def plainTy (P:Program)(t:TypeId):Bool:=match P.underlying t with
 | some (.int _) | some .bool | some .string | some (.float _)=>true
 | _=>false
def nilV:Value→Bool
 | .pointer none | .slice none _ _ | .map none | .chan none | .nilFunc | .nilIface=>true
 | _=>false
theorem Sim.int2 (op:BinOp)(t:TypeId)(k k':IntKind)(a b:Int):Sim P VRel ρ (Go.binOp op t (.int k a) (.int k' b)) (Go.binOp op t (.int k a) (.int k' b)):=by
 have hsh:Sim P VRel ρ (Op.shift op k a k' b) (Op.shift op k a k' b):=by
  unfold Op.shift;refine Sim.ite (fun _=>Sim.runtimePanic (by simp) (by simp) (by simp)) (fun _=>?_);cases op<;>first | exact Sim.pure' (.flat rfl) | exact Sim.stuck
 have hdv:Sim P VRel ρ (Op.intDiv op k a b) (Op.intDiv op k a b):=by
  unfold Op.intDiv;refine Sim.ite (fun _=>Sim.runtimePanic (by simp) (by simp) (by simp)) (fun _=>?_);cases op<;>first | exact Sim.pure' (.flat rfl) | exact Sim.stuck
 cases op
 case shl=>exact hsh
 case shr=>exact hsh
 case quo=>exact Sim.ite (fun _=>Sim.stuck) (fun _=>hdv)
 case rem=>exact Sim.ite (fun _=>Sim.stuck) (fun _=>hdv)
 all_goals exact Sim.ite (fun _=>Sim.stuck) (fun _=>Sim.pure' (.flat rfl))
theorem Sim.str2 (op:BinOp)(t:TypeId)(a b:ByteArray):Sim P VRel ρ (Go.binOp op t (.string a) (.string b)) (Go.binOp op t (.string a) (.string b)):=by
 cases op
 case add=>exact Sim.ite (fun _=>Sim.unsupported) (fun _=>Sim.pure' (.flat rfl))
 all_goals first | exact Sim.pure' (.flat rfl) | exact Sim.stuck
theorem eqPtr_int (hG:P.globals.size=GN)(t:TypeId){a A b B:Addr}(h:ADRel ρ a A)(k:ADRel ρ b B):Sim P (fun _ a b=>a=b) ρ
  (do
    let (a,b):=((← Go.behindNumber a).1,(← Go.behindNumber b).1)
    if a.block==b.block&&a.block<(← Go.program).globals.size then return (← Go.byteOf a)==(← Go.byteOf b)
    let .named "sync.copyChecker" _:=(← Go.typeInfo t).desc | Go.unsupported .addressObserved
    if a==b then Pure.pure true else Go.unsupported .addressObserved)
  (do
    let (a,b):=((← Go.behindNumber A).1,(← Go.behindNumber B).1)
    if a.block==b.block&&a.block<(← Go.program).globals.size then return (← Go.byteOf a)==(← Go.byteOf b)
    let .named "sync.copyChecker" _:=(← Go.typeInfo t).desc | Go.unsupported .addressObserved
    if a==b then Pure.pure true else Go.unsupported .addressObserved):=by
 refine Sim.bind (Sim.behindNumber h) ?_;rintro σ ⟨a1,l1⟩ ⟨A1,L1⟩ hl ⟨h1,rfl⟩;refine Sim.bind (Sim.behindNumber (k.mono hl)) ?_;rintro σ2 ⟨b1,m1⟩ ⟨B1,M1⟩ hl2 ⟨h2,rfl⟩;have h1':=h1.mono hl2;dsimp only at h1' h2 ⊢;refine Sim.low fun hg=>?_;refine Sim.bind (Sim.program (Q:=fun _ a b=>a=P∧b=P) ⟨rfl,rfl⟩) ?_;rintro σ3 p q hl3 ⟨rfl,rfl⟩;have hAB:a1.block=b1.block→A1.block=B1.block:=fun e=>by
  have p1:=h1'.1;have k1:=h2.1;rw[e,k1] at p1;exact(oj' p1).symm
 by_cases hz:a1.block=b1.block∧a1.block<GN
 ·have e1:=hAB hz.1
  have e2:A1.block<GN:=(hg _ _ h1'.1).1 hz.2;rw[if_pos (c:=(a1.block==b1.block&&decide (a1.block<q.globals.size))=true) (by rw[hG,Bool.and_eq_true,decide_eq_true_eq];exact⟨beq_iff_eq.2 hz.1,hz.2⟩),if_pos (c:=(A1.block==B1.block&&decide (A1.block<q.globals.size))=true) (by rw[hG,Bool.and_eq_true,decide_eq_true_eq];exact⟨beq_iff_eq.2 e1,e2⟩)];refine Sim.bind (Sim.byteOf (h1'.mono hl3)) ?_;rintro σ4 x _ hl4 rfl;refine Sim.bind (Sim.byteOf ((h2.mono hl3).mono hl4)) ?_;rintro σ5 y _ hl5 rfl;exact Sim.pure' rfl
 rw[if_neg (c:=(a1.block==b1.block&&decide (a1.block<q.globals.size))=true) (by rw[hG,Bool.and_eq_true,decide_eq_true_eq,beq_iff_eq];exact hz)];by_cases e:a1=b1
 ·subst e
  have e3:A1=B1:=by
   obtain⟨X,O,S⟩:=A1;obtain⟨X',O',S'⟩:=B1;obtain⟨p1,p2,p3⟩:=h1';obtain⟨q1,q2,q3⟩:=h2;simp only at p1 p2 p3 q1 q2 q3;rw[p1] at q1;cases q1;rw[← p2,← p3,q2,q3]
  subst e3;have e4:¬ A1.block<GN:=fun h=>hz ⟨rfl,(hg _ _ h1'.1).2 h⟩;rw[if_neg (c:=(A1.block==A1.block&&decide (A1.block<q.globals.size))=true) (by rw[hG,Bool.and_eq_true,decide_eq_true_eq];exact fun h=>e4 h.2)];refine Sim.bind (Sim.typeInfo t) ?_;rintro σ4 i _ hl4 ⟨rfl,_⟩;split
  ·rw[if_pos (by simp),if_pos (by simp)]
   exact Sim.pure' rfl
  ·exact Sim.unsupported
 ·refine Sim.halts fun w=>?_
  rw[Sem.run_bind];cases hi:q.info? t with
  | none =>
   have:∃ k,(Go.typeInfo t).run q w=.halt k w∧quiet k=true:=⟨.stuck "no such type",by simp[Go.typeInfo,hi,Go.stuck,Sem.run],by simp⟩;obtain⟨k,hk,hq⟩:=this;rw[hk];exact⟨_,w,rfl,hq⟩
  | some i =>
   have:(Go.typeInfo t).run q w=.ok i w:=by simp[Go.typeInfo,hi]
   rw[this,Result.andThen_ok];split
   ·rw[if_neg (by simpa using e)]
    exact⟨_,w,rfl,by simp⟩
   ·exact⟨_,w,rfl,by simp⟩
theorem Sim.equalIn (hG:P.globals.size=GN)(t:TypeId)(n:Nat){v V y Y:Value}(hv:VRel ρ v V)(hy:VRel ρ y Y)(hc:plainTy P t=true∨nilV y=true):Sim P (fun _ a b=>a=b) ρ (Op.equalIn (n+1) t v y) (Op.equalIn (n+1) t V Y):=by
 unfold Op.equalIn;refine Sim.bind (Sim.underlying t) ?_;rintro σ d _ hl ⟨rfl,hd⟩;have hv':=hv.mono hl;have hy':=hy.mono hl;rcases hc with hc | hc
 ·unfold plainTy at hc
  rw[hd] at hc;cases d<;>first | (simp at hc;done) | skip
  ·cases v<;>cases y<;>first | exact Sim.stuck | exact Sim.unsupported | skip
   cases hv' with
   | flat _=>cases hy' with
    | flat _=>exact Sim.pure' rfl
  ·by_cases hp:∃ a,v=.pointer (some a)
   ·obtain⟨a,rfl⟩:=hp
    cases hv' with
    | flat h=>simp[Lift.flat] at h
    | pointer h1 =>
     cases hy' with
     | flat h =>
      cases y<;>first | (simp[Lift.flat] at h;done) | exact Sim.stuck | exact Sim.unsupported | skip
      case int k n =>
       match n with
       | 0=>exact Sim.pure' rfl
       | (n+1:Nat)=>exact Sim.unsupported
       | .negSucc n=>exact Sim.unsupported
      case pointer b =>
       cases b with
       | none=>exact Sim.unsupported
       | some b=>simp[Lift.flat] at h
     | pointer h2=>exact eqPtr_int hG t (ADRel.of h1) (ADRel.of h2)
     | _=>exact Sim.unsupported
   by_cases hp2:v=.pointer none
   ·subst hp2
    cases y<;>exact Sim.unsupported
   have hnp:∀ a,v≠.pointer a:=fun a e=>by
    cases a with
    | none=>exact hp2 e
    | some a=>exact hp ⟨a,e⟩
   clear hp hp2;cases v<;>cases y<;>first | exact Sim.stuck | exact Sim.unsupported | exact absurd rfl (hnp _) | skip
   case int.int =>
    cases hv' with
    | flat _=>cases hy' with
     | flat _=>exact Sim.ite (fun _=>Sim.pure' rfl) (fun _=>Sim.stuck)
   case int.pointer k n a =>
    cases hv' with
    | flat _=>cases hy' with
     | flat ha =>
      cases a with
      | none=>exact Sim.unsupported
      | some a=>simp[Lift.flat] at ha
     | pointer hb =>
      match n with
      | 0=>exact Sim.pure' rfl
      | (n+1:Nat)=>exact Sim.unsupported
      | .negSucc n=>exact Sim.unsupported
  ·cases v<;>cases y<;>first | exact Sim.stuck | exact Sim.unsupported | skip
   cases hv' with
   | flat _=>cases hy' with
    | flat _=>exact Sim.ite (fun _=>Sim.pure' rfl) (fun _=>Sim.stuck)
  ·cases v<;>cases y<;>first | exact Sim.stuck | exact Sim.unsupported | skip
   cases hv' with
   | flat _=>cases hy' with
    | flat _=>exact Sim.pure' rfl
 ·have hY:Y=y:=by
   cases hy with
   | flat _=>rfl
   | hole _=>cases hc
   | meth=>cases hc
   | _=>simp[nilV] at hc
  subst hY;clear hv hy hy' hd;obtain⟨y,rfl⟩:∃ y,y=Y:=⟨_,rfl⟩;have hn:y=.pointer none∨(∃ l c,y=.slice none l c)∨y=.map none∨y=.chan none∨y=.nilFunc∨y=.nilIface:=by
   cases y<;>first | (simp[nilV] at hc;done) | (rename Option Addr=>a;cases a<;>simp[nilV] at hc ⊢;done) | (rename Option Nat=>a;cases a<;>simp[nilV] at hc ⊢;done) | simp
  clear hc;rcases hn with rfl | ⟨l,c,rfl⟩ | rfl | rfl | rfl | rfl
  all_goals
   cases hv' with
   | flat h =>
    cases v<;>first | (simp[Lift.flat] at h;done) | skip
    all_goals cases d<;>first | exact Sim.stuck | exact Sim.unsupported | exact Sim.pure' rfl | skip
    all_goals first
     | (rename Option Addr=>a;cases a<;>first | exact Sim.stuck | exact Sim.unsupported | exact Sim.pure' rfl | (simp[Lift.flat] at h;done))
     | (rename Option Nat=>a;cases a<;>first | exact Sim.stuck | exact Sim.unsupported | exact Sim.pure' rfl | (simp[Lift.flat] at h;done))
   | pointer h=>cases d<;>first | exact Sim.stuck | exact Sim.unsupported | exact Sim.pure' rfl
   | slice h=>cases d<;>first | exact Sim.stuck | exact Sim.unsupported | exact Sim.pure' rfl
   | chan h=>cases d<;>first | exact Sim.stuck | exact Sim.unsupported | exact Sim.pure' rfl
   | func _ _ _ _ _=>cases d<;>first | exact Sim.stuck | exact Sim.unsupported | exact Sim.pure' rfl
   | iface _=>cases d<;>first | exact Sim.stuck | exact Sim.unsupported | exact Sim.pure' rfl
   | agg _ _=>cases d<;>first | exact Sim.stuck | exact Sim.unsupported | exact Sim.pure' rfl
   | tuple _ _=>cases d<;>first | exact Sim.stuck | exact Sim.unsupported | exact Sim.pure' rfl
   | hole h=>cases d<;>first | exact Sim.stuck | exact Sim.unsupported | exact Sim.pure' rfl | (cases V<;>first | (cases h;done) | exact Sim.pure' rfl | (rename_i p;cases p<;>first | (cases h;done) | exact Sim.pure' rfl))
   | meth=>cases d<;>first | exact Sim.stuck | exact Sim.unsupported | exact Sim.pure' rfl
   | void=>cases d<;>first | exact Sim.stuck | exact Sim.unsupported | exact Sim.pure' rfl
theorem Sim.equal (hG:P.globals.size=GN)(t:TypeId){v V y Y:Value}(hv:VRel ρ v V)(hy:VRel ρ y Y)(hc:plainTy P t=true∨nilV y=true):Sim P (fun _ a b=>a=b) ρ (Op.equal t v y) (Op.equal t V Y):=Sim.equalIn hG t 9999 hv hy hc
end
section
variable {P:Program}{ρ:Ren}
def nilOp:Operand→Bool
 | .const v=>nilV v
 | _=>false
def noNum (P:Program)(t:TypeId):Bool:=match P.underlying t with
 | some .unsafePointer=>false
 | _=>true
def fltV:Value→Bool
 | .float _ _ | .complex _ _ _=>true
 | _=>false
theorem VRel.flt {v V:Value}(h:VRel ρ v V)(hf:fltV v=true):∃ k n,v=.float k n∧V=.float k n:=by
 cases h with
 | flat h=>cases v<;>first | (cases hf;done) | exact⟨_,_,rfl,rfl⟩ | simp[Lift.flat] at h
 | _=>cases hf
theorem VRel.nocx {v V:Value}(h:VRel ρ v V):∀ k a b,v≠.complex k a b:=by
 intro k a b e;subst e;obtain⟨_,_,e,_⟩:=h.flt rfl;cases e
theorem VRel.int {v:Value}{k:IntKind}{n:Int}(h:VRel ρ v (.int k n)):v=.int k n:=by
 cases h with
 | flat _=>rfl
 | hole h=>cases h
theorem VRel.str {v:Value}{s:ByteArray}(h:VRel ρ v (.string s)):v=.string s:=by
 cases h with
 | flat _=>rfl
 | hole h=>cases h
theorem VRel.fltH {v V:Value}(h:VRel ρ v V)(hf:fltV V=true):v=undef∨∃ k n,v=.float k n:=by
 cases h with
 | flat h=>cases v<;>first | (cases hf;done) | exact .inr ⟨_,_,rfl⟩ | simp[Lift.flat] at h
 | hole _=>exact .inl rfl
 | _=>cases hf
theorem Sim.flt2 (op:BinOp)(t:TypeId)(k k':FloatKind)(a b:Nat):Sim P VRel ρ (Go.binOp op t (.float k a) (.float k' b)) (Go.binOp op t (.float k a) (.float k' b)):=by
 have har:∀ op,Sim P VRel ρ (Op.floatArith op k a b) (Op.floatArith op k a b):=by
  intro op;unfold Op.floatArith;have hj:∀ (σ:Ren) (r:Option Nat),Sim P VRel σ (match r with | some r=>Pure.pure (Value.float k r) | none=>do Pure.pure (Value.float k (← Go.choose (.nanBits k a b)))) (match r with | some r=>Pure.pure (Value.float k r) | none=>do Pure.pure (Value.float k (← Go.choose (.nanBits k a b)))):=by
   intro σ r;cases r with
   | some r=>exact Sim.pure' (.flat rfl)
   | none =>
    refine Sim.bind Sim.choose ?_;rintro τ x _ _ rfl;exact Sim.pure' (.flat rfl)
  have hq:∀ s:Sem (Option Nat),Sim P (fun _ a b=>a=b) ρ s s→Sim P VRel ρ (do match ← s with | some r=>Pure.pure (Value.float k r) | none=>do Pure.pure (Value.float k (← Go.choose (.nanBits k a b)))) (do match ← s with | some r=>Pure.pure (Value.float k r) | none=>do Pure.pure (Value.float k (← Go.choose (.nanBits k a b)))):=fun s hs=>by
   refine Sim.bind hs ?_;rintro σ r _ hl rfl;exact hj σ r
  cases op<;>first | exact hq _ (Sim.pure' rfl) | exact hq _ Sim.stuck
 have hcm:∀ op,Sim P VRel ρ (Op.floatCmp op k a b) (Op.floatCmp op k a b):=by
  intro op;unfold Op.floatCmp;cases op<;>first | exact Sim.pure' (.flat rfl) | exact Sim.stuck
 cases op<;>first | exact Sim.ite (fun _=>Sim.stuck) (fun _=>har _) | exact Sim.ite (fun _=>Sim.stuck) (fun _=>hcm _)
theorem binOp_eq (t:TypeId)(v y:Value)(h1:¬ ((∃ k n,v=.int k n)∧∃ k n,y=.int k n))(h2:¬ ((∃ s,v=.string s)∧∃ s,y=.string s))(h3:¬(fltV v=true∧fltV y=true)) :
  Go.binOp .eql t v y=(do Pure.pure (Value.bool (← Op.equal t v y)))∧Go.binOp .neq t v y=(do Pure.pure (Value.bool (!(← Op.equal t v y)))):=by
 cases v<;>cases y<;>first | exact⟨rfl,rfl⟩ | (simp at h1;done) | (simp at h2;done) | (simp[fltV] at h3;done)
theorem unsafeNone_run (t:TypeId)(y:Value)(w:World):∃ k w',(Builtin.unsafeAdd_ #[] t #[.pointer none,y]).run P w=.halt k w'∧quiet k=true:=by
 cases y with
 | int k n =>
  match n with
  | 0=>exact⟨_,w,rfl,by simp⟩
  | (n+1:Nat)=>exact⟨.unsupported (.unsafePointer "Add"),w,rfl,by simp⟩
  | .negSucc n =>
   refine⟨.unsupported (.unsafePointer "Add: a move by a count below zero"),w,?_,by simp⟩;show(if Int.negSucc n=0 then (Go.unsupported (.unsafePointer "Add: from nil"):Sem Value) else if Int.negSucc n<0 then (do let _ ← (Go.unsupported (.unsafePointer "Add: a move by a count below zero"):Sem Unit);Go.unsupported (.unsafePointer "Add")) else Go.unsupported (.unsafePointer "Add")).run P w=_;rw[if_neg (by simp),if_pos (by omega)];rfl
 | pointer a =>
  cases a with
  | none=>exact⟨_,w,rfl,by simp⟩
  | some a=>exact⟨_,w,rfl,by simp⟩
 | _=>exact⟨_,w,rfl,by simp⟩
theorem underlying_run (t:TypeId)(w:World):(∃ d,P.underlying t=some d∧(Go.underlying t).run P w=.ok d w)∨(Go.underlying t).run P w=.halt (.stuck "no such type") w:=by
 cases h:P.underlying t with
 | some d=>exact .inl ⟨d,rfl,by simp[Go.underlying,h]⟩
 | none=>exact .inr (by simp[Go.underlying,h,Go.stuck,Sem.run])
theorem movedNone_run (t:TypeId)(y:Value)(w:World):∃ k w',(Go.movedNumber t (.pointer none) y).run P w=.halt k w'∧quiet k=true:=by
 unfold Go.movedNumber;rw[Sem.run_bind];rcases underlying_run (P:=P) t w with⟨d,_,e⟩ | e
 ·rw[e,Result.andThen_ok]
  dsimp only;split
  ·exact⟨_,w,rfl,by simp⟩
  ·exact unsafeNone_run t y w
 ·rw[e]
  exact⟨_,w,rfl,by simp⟩
theorem movedNoneP_run (t:TypeId)(y:Value)(w:World):∃ k w',(do if (← Go.underlying t) matches .unsafePointer then Go.movedPointer t (.pointer none) y else Go.movedNumber t (.pointer none) y:Sem Value).run P w=.halt k w'∧quiet k=true:=by
 rw[Sem.run_bind];rcases underlying_run (P:=P) t w with⟨d,_,e⟩ | e
 ·rw[e,Result.andThen_ok]
  split
  ·exact unsafeNone_run t y w
  ·exact movedNone_run t y w
 ·rw[e]
  exact⟨_,w,rfl,by simp⟩
theorem eqU_run (t:TypeId)(h:plainTy P t=true){v y:Value}(hv:v=undef∨∃ k n,v=.float k n)(hy:y=undef∨∃ k n,y=.float k n)(hn:¬((∃ k n,v=.float k n)∧∃ k n,y=.float k n))(w:World):∃ k w',(Op.equal t v y).run P w=.halt k w'∧quiet k=true:=by
 show ∃ k w',(Op.equalIn (9999+1) t v y).run P w=.halt k w'∧quiet k=true;unfold Op.equalIn;rw[Sem.run_bind];rcases underlying_run (P:=P) t w with⟨d,hd,e⟩ | e
 ·rw[e,Result.andThen_ok]
  unfold plainTy at h;rw[hd] at h;rcases hv with rfl | ⟨k,n,rfl⟩<;>rcases hy with rfl | ⟨k',n',rfl⟩<;>first | exact absurd ⟨⟨_,_,rfl⟩,⟨_,_,rfl⟩⟩ hn | skip
  all_goals cases d<;>first | exact⟨_,w,rfl,rfl⟩ | (cases h;done)
 ·rw[e]
  exact⟨_,w,rfl,by simp⟩
theorem Sim.binOp (hG:P.globals.size=GN)(op:BinOp)(t:TypeId){v V y Y:Value}(hv:VRel ρ v V)(hy:VRel ρ y Y)(hc:plainTy P t=true∨((op=.eql∨op=.neq)∧nilV y=true)) :
  Sim P VRel ρ (Go.binOp op t v y) (Go.binOp op t V Y):=by
 by_cases hi:(∃ k n,v=.int k n)∧∃ k n,y=.int k n
 ·obtain⟨⟨k,n,rfl⟩,⟨k',n',rfl⟩⟩:=hi
  cases hv with
  | flat _=>cases hy with
   | flat _=>exact Sim.int2 op t k k' n n'
 by_cases hs:(∃ s,v=.string s)∧∃ s,y=.string s
 ·obtain⟨⟨a,rfl⟩,⟨b,rfl⟩⟩:=hs
  cases hv with
  | flat _=>cases hy with
   | flat _=>exact Sim.str2 op t a b
 by_cases hfl:(∃ k n,v=.float k n)∧∃ k n,y=.float k n
 ·obtain⟨⟨k,a,rfl⟩,⟨k',b,rfl⟩⟩:=hfl
  cases hv with
  | flat _=>cases hy with
   | flat _=>exact Sim.flt2 op t k k' a b
 have hI:¬ ((∃ k n,V=.int k n)∧∃ k n,Y=.int k n):=fun⟨⟨k,n,e⟩,⟨k',n',e'⟩⟩=>hi ⟨⟨k,n,(e▸hv).int⟩,⟨k',n',(e'▸hy).int⟩⟩;have hS:¬ ((∃ s,V=.string s)∧∃ s,Y=.string s):=fun⟨⟨k,e⟩,⟨k',e'⟩⟩=>hs ⟨⟨k,(e▸hv).str⟩,⟨k',(e'▸hy).str⟩⟩;by_cases he:op=.eql∨op=.neq
 ·have hq:=Sim.equal hG t hv hy (hc.imp id (·.2))
  obtain⟨e1,e3⟩:=binOp_eq t v y hi hs (fun h=>hfl ⟨(hv.flt h.1).imp fun _ x=>x.imp fun _ x=>x.1,(hy.flt h.2).imp fun _ x=>x.imp fun _ x=>x.1⟩);by_cases hff:fltV V=true∧fltV Y=true
  ·have g1:=hv.fltH hff.1
   have g2:=hy.fltH hff.2;have hp:=hc.resolve_right (fun h=>by
    rcases g2 with rfl | ⟨_,_,rfl⟩<;>cases h.2)
   have hb:∀ f:Bool→Bool,∀ w,∃ k w',(do Pure.pure (Value.bool (f (← Op.equal t v y))):Sem Value).run P w=.halt k w'∧quiet k=true:=fun f w=>by
    obtain⟨k,w',e,hk⟩:=eqU_run t hp g1 g2 hfl w;exact⟨k,w',by rw[Sem.run_bind,e];rfl,hk⟩
   rcases he with rfl | rfl
   ·rw[e1]
    exact Sim.halts (hb id)
   ·rw[e3]
    exact Sim.halts (hb not)
  obtain⟨e2,e4⟩:=binOp_eq t V Y hI hS hff;rcases he with rfl | rfl
  ·rw[e1,e2]
   refine Sim.bind hq ?_;rintro σ b _ hl rfl;exact Sim.pure' (.flat rfl)
  ·rw[e3,e4]
   refine Sim.bind hq ?_;rintro σ b _ hl rfl;exact Sim.pure' (.flat rfl)
 ·have ht:=hc.resolve_right (fun h=>he h.1)
  clear hc hI hS;have n1:op≠.eql:=fun e=>he (.inl e);have n2:op≠.neq:=fun e=>he (.inr e);clear he;by_cases pv:∃ a,v=.pointer (some a)
  ·obtain⟨a,rfl⟩:=pv
   cases hv with
   | flat h=>simp[Lift.flat] at h
   | pointer h1 =>
    by_cases py:∃ b,y=.pointer (some b)
    ·obtain⟨b,rfl⟩:=py
     cases hy with
     | flat h=>simp[Lift.flat] at h
     | pointer h2 =>
      have hb:∀ {f:Addr→Addr→Sem Value},(∀ {σ:Ren} {a A b B:Addr},ADRel σ a A→ADRel σ b B→Sim P VRel σ (f a b) (f A B))→∀ {a A b B:Addr},ADRel ρ a A→ADRel ρ b B→Sim P VRel ρ (do f (← Go.behindNumber a).1 (← Go.behindNumber b).1) (do f (← Go.behindNumber A).1 (← Go.behindNumber B).1):=by
       intro f hf a A b B ha hb;refine Sim.bind (Sim.behindNumber ha) ?_;rintro σ x X hl ⟨hx,_⟩;refine Sim.bind (Sim.behindNumber (hb.mono hl)) ?_;rintro σ2 x2 X2 hl2 ⟨hx2,_⟩;exact hf (hx.mono hl2) hx2
      cases op<;>first | exact Sim.unsupported | exact absurd rfl n1 | exact absurd rfl n2 | exact hb (f:=Op.addrSub .u64) (fun p q=>Sim.addrSub hG _ p q) (ADRel.of h1) (ADRel.of h2) | exact hb (f:=Op.addrCmp _) (fun p q=>Sim.addrCmp hG _ p q) (ADRel.of h1) (ADRel.of h2)
    ·cases hy with
     | pointer h2=>exact absurd ⟨_,rfl⟩ py
     | flat h =>
      cases y<;>first | (simp[Lift.flat] at h;done) | skip
      case int k n =>
       cases op<;>first | exact Sim.unsupported | exact absurd rfl n1 | exact absurd rfl n2 | skip
       case add =>
        refine Sim.bind (Sim.underlying t) ?_;rintro σ d _ hl ⟨rfl,_⟩;refine Sim.ite (fun _=>Sim.movedPointer t ((ADRel.of h1).mono hl) (.flat h)) (fun _=>Sim.movedNumber t ((ADRel.of h1).mono hl) (.flat h))
       case sub=>exact Sim.movedNumber t (ADRel.of h1) (.flat rfl)
       all_goals
        refine Sim.bind (Sim.behindNumber (ADRel.of h1)) ?_;rintro σ x X hl ⟨hx,_⟩;exact Sim.addrMod _ _ hx
      case pointer b =>
       cases b with
       | none=>cases op<;>first | exact Sim.unsupported | exact absurd rfl n1 | exact absurd rfl n2
       | some b=>simp[Lift.flat] at h
      all_goals cases op<;>first | exact Sim.unsupported | exact absurd rfl n1 | exact absurd rfl n2
     | _=>cases op<;>first | exact Sim.unsupported | exact absurd rfl n1 | exact absurd rfl n2
  ·by_cases py:∃ b,y=.pointer (some b)
   ·obtain⟨b,rfl⟩:=py
    cases hy with
    | flat h=>simp[Lift.flat] at h
    | pointer h2 =>
     cases hv with
     | pointer h1=>exact absurd ⟨_,rfl⟩ pv
     | flat h =>
      cases v<;>first | (simp[Lift.flat] at h;done) | skip
      case int k n =>
       cases op<;>first | exact Sim.unsupported | exact absurd rfl n1 | exact absurd rfl n2 | skip
       case add=>exact Sim.movedNumber t (ADRel.of h2) (.flat h)
       all_goals
        refine Sim.bind (Sim.behindNumber (ADRel.of h2)) ?_;rintro σ x X hl ⟨hx,_⟩;exact Sim.addrMod _ _ hx
      case pointer a =>
       cases a with
       | none=>cases op<;>first | exact Sim.unsupported | exact absurd rfl n1 | exact absurd rfl n2
       | some a=>simp[Lift.flat] at h
      all_goals cases op<;>first | exact Sim.unsupported | exact absurd rfl n1 | exact absurd rfl n2
     | _=>cases op<;>first | exact Sim.unsupported | exact absurd rfl n1 | exact absurd rfl n2
   ·have q1:∀ a,v≠.pointer (some a):=fun a e=>pv ⟨a,e⟩
    have q2:∀ a,y≠.pointer (some a):=fun a e=>py ⟨a,e⟩;have f1:=hv.nocx;have f2:=hy.nocx;clear pv py hv hy;have hm:∀ z,∀ {S:Sem Value},Sim P VRel ρ (Go.movedNumber t (.pointer none) z) S:=by
     exact fun z S=>Sim.halts fun w=>movedNone_run t z w
    by_cases e1:v=.pointer none
    ·subst e1
     cases y
     case pointer b =>
      cases b with
      | none=>cases op<;>first | exact Sim.unsupported | exact absurd rfl n1 | exact absurd rfl n2
      | some b=>exact absurd rfl (q2 _)
     case int k n =>
      cases op<;>first | exact Sim.unsupported | exact absurd rfl n1 | exact absurd rfl n2 | skip
      case add=>exact Sim.halts fun w=>movedNoneP_run t _ w
      case sub=>exact hm _
     all_goals cases op<;>first | exact Sim.unsupported | exact absurd rfl n1 | exact absurd rfl n2
    by_cases e2:y=.pointer none
    ·subst e2
     cases v
     case pointer b =>
      cases b with
      | none=>exact absurd rfl e1
      | some b=>exact absurd rfl (q1 _)
     case int k n =>
      cases op<;>first | exact Sim.unsupported | exact absurd rfl n1 | exact absurd rfl n2 | skip
      case add=>exact hm _
     all_goals cases op<;>first | exact Sim.unsupported | exact absurd rfl n1 | exact absurd rfl n2
    have p1:∀ a,v≠.pointer a:=fun a e=>by
     cases a with
     | none=>exact e1 e
     | some a=>exact q1 a e
    have p2:∀ a,y≠.pointer a:=fun a e=>by
     cases a with
     | none=>exact e2 e
     | some a=>exact q2 a e
    clear q1 q2 e1 e2 hm;cases v<;>cases y<;>first | exact absurd rfl (p1 _) | exact absurd rfl (p2 _) | (simp at hi;done) | (simp at hs;done) | exact absurd rfl (f1 _ _ _) | exact absurd rfl (f2 _ _ _) | (simp at hfl;done) | (cases op<;>first | exact Sim.stuck | exact absurd rfl n1 | exact absurd rfl n2)
end
theorem VRel.nilI {ρ:Ren}{v:Value}(h:VRel ρ v .nilIface):v=.nilIface:=by
 cases h with
 | flat _=>rfl
 | hole h=>cases h
theorem VRel.aggI {ρ:Ren}{v:Value}{c:Array Value}(h:VRel ρ v (.agg c)):∃ c',v=.agg c':=by
 cases h with
 | flat h=>simp[Lift.flat] at h
 | agg _ _=>exact⟨_,rfl⟩
 | hole h=>cases h
section
variable {P:Program}{ρ:Ren}
theorem Sim.map {α β γ δ:Type}{Q:Ren→α→β→Prop}{R:Ren→γ→δ→Prop}{s:Sem α}{S:Sem β}{f:α→γ}{F:β→δ}(h:Sim P Q ρ s S)(k:∀ σ a b,ρ.le σ→Q σ a b→R σ (f a) (F b)):Sim P R ρ (f <$> s) (F <$> S):=by
 show Sim P R ρ (s >>= fun a=>Pure.pure (f a)) (S >>= fun a=>Pure.pure (F a));exact Sim.bind h fun σ a b hl hq=>Sim.pure' (k σ a b hl hq)
theorem Sim.eqGuardIn (t:TypeId)(ht:plainTy P t=true)(v y V Y:Value):Sim P (fun _ a b=>a=false∧b=false) ρ (Op.eqGuardIn Op.maxDepth t v y) (Op.eqGuardIn Op.maxDepth t V Y):=by
 show Sim P _ ρ (Op.eqGuardIn (9999+1) t v y) (Op.eqGuardIn (9999+1) t V Y);unfold Op.eqGuardIn;refine Sim.bind (Sim.underlying t) ?_;rintro σ d _ hl ⟨rfl,hd⟩;unfold plainTy at ht;rw[hd] at ht;cases d<;>first | (simp at ht;done) | exact Sim.pure' ⟨rfl,rfl⟩
theorem eqGuard_none (t:TypeId)(x z:Operand)(a b:Value)(h1:¬ (a=.nilIface∧b=.nilIface))(h2:¬ ((∃ c,a=.agg c)∧∃ c,b=.agg c)):Go.eqGuard .eql t x z a b=Pure.pure ():=by
 cases a<;>cases b<;>first | rfl | (simp at h1;done) | (simp at h2;done)
theorem Sim.eqGuard (op:BinOp)(t:TypeId)(x z:Operand){v V y Y:Value}(hv:VRel ρ v V)(hy:VRel ρ y Y)(hc:plainTy P t=true∨nilOp z=true)(hz:nilOp z=true→nilV y=true) :
  Sim P (fun _ _ _=>True) ρ (Go.eqGuard op t x z v y) (Go.eqGuard op t x z V Y):=by
 have key:Sim P (fun _ _ _=>True) ρ (Go.eqGuard .eql t x z v y) (Go.eqGuard .eql t x z V Y):=by
  by_cases hn:v=.nilIface∧y=.nilIface
  ·unfold Go.eqGuard
   refine Sim.ite (fun _=>Sim.pure' trivial) (fun _=>?_);obtain⟨rfl,rfl⟩:=hn;cases hv with
   | flat _=>cases hy with
    | flat _ =>
     dsimp only;refine Sim.ite (fun _=>Sim.pure' trivial) (fun hx=>?_);have ht:plainTy P t=true:=hc.resolve_right (fun h=>by
      cases z<;>first | (simp[nilOp] at h;done) | skip
      simp at hx)
     refine Sim.bind (Sim.eqGuardIn t ht _ _ _ _) ?_;rintro σ _ _ hl ⟨rfl,rfl⟩;exact Sim.pure' trivial
  by_cases ha:(∃ c,v=.agg c)∧∃ c,y=.agg c
  ·unfold Go.eqGuard
   refine Sim.ite (fun _=>Sim.pure' trivial) (fun _=>?_);obtain⟨⟨c,rfl⟩,⟨c',rfl⟩⟩:=ha;have ht:plainTy P t=true:=hc.resolve_right (fun h=>by have:=hz h;simp[nilV] at this);cases hv with
   | flat h=>simp[Lift.flat] at h
   | agg _ _ =>
    cases hy with
    | flat h=>simp[Lift.flat] at h
    | agg _ _ =>
     refine Sim.bind (Sim.program (Q:=fun _ a b=>a=P∧b=P) ⟨rfl,rfl⟩) ?_;rintro σ p q hl ⟨rfl,rfl⟩;refine Sim.bind (Sim.program (Q:=fun _ a b=>a=q∧b=q) ⟨rfl,rfl⟩) ?_;rintro σ2 p p' hl2 ⟨rfl,rfl⟩;refine Sim.ite (fun _=>Sim.pure' trivial) (fun _=>?_);refine Sim.bind (Sim.eqGuardIn t ht _ _ _ _) ?_;rintro σ _ _ hl ⟨rfl,rfl⟩;exact Sim.pure' trivial
  ·have hn':¬ (V=.nilIface∧Y=.nilIface):=fun⟨e1,e2⟩=>hn ⟨(by subst e1;exact hv.nilI),(by subst e2;exact hy.nilI)⟩
   have ha':¬ ((∃ c,V=.agg c)∧∃ c,Y=.agg c):=fun⟨⟨c,e1⟩,⟨c',e2⟩⟩=>ha ⟨(by subst e1;exact hv.aggI),(by subst e2;exact hy.aggI)⟩;rw[eqGuard_none t x z v y hn ha,eqGuard_none t x z V Y hn' ha'];exact Sim.pure' trivial
 cases op
 case eql=>exact key
 case neq=>exact key
 all_goals exact Sim.pure' trivial
theorem Sim.not {v V:Value}(h:VRel ρ v V):Sim P VRel ρ (Op.unary .not v) (Op.unary .not V):=by
 cases h with
 | flat h=>cases v<;>first | exact Sim.stuck | exact Sim.pure' (.flat rfl) | (rename_i a;cases a<;>first | exact Sim.stuck | exact Sim.unsupported)
 | _=>first | exact Sim.stuck | exact Sim.unsupported
def intTy (P:Program)(t:TypeId):Bool:=match P.underlying t with
 | some (.int _)=>true
 | _=>false
theorem Sim.floatToInt (s:FloatKind)(n:Nat)(k:IntKind):Sim P VRel ρ (Conv.floatToInt s n k) (Conv.floatToInt s n k):=by
 have hany:Sim P VRel ρ (do Pure.pure (.int k (k.wrap (← Go.choose (.floatToInt s n k))))) (do Pure.pure (.int k (k.wrap (← Go.choose (.floatToInt s n k))))):=by
  refine Sim.bind Sim.choose ?_;rintro σ x _ hl rfl;exact Sim.pure' (.flat rfl)
 unfold Conv.floatToInt;dsimp only;split
 ·exact Sim.ite (fun _=>Sim.pure' (.flat rfl)) (fun _=>hany)
 ·exact hany
theorem Sim.convert (s t:TypeId)(hs:intTy P s=true)(ht:intTy P t=true){v V:Value}(h:VRel ρ v V):Sim P VRel ρ (Go.convert s t v) (Go.convert s t V):=by
 unfold Go.convert;refine Sim.bind (Sim.underlying s) ?_;rintro σ d _ hl ⟨rfl,hd⟩;refine Sim.bind (Sim.underlying t) ?_;rintro σ2 d2 _ hl2 ⟨rfl,hd2⟩;unfold intTy at hs ht;rw[hd] at hs;rw[hd2] at ht;cases d<;>first | (simp at hs;done) | skip
 cases d2<;>first | (simp at ht;done) | skip
 cases h with
 | flat h=>cases v<;>first | exact Sim.unsupported | exact Sim.pure' (.flat rfl) | exact Sim.floatToInt _ _ _ | (simp[Lift.flat] at h;done) | (rename_i a;cases a<;>first | exact Sim.unsupported | (simp[Lift.flat] at h;done))
 | _=>exact Sim.unsupported
theorem Sim.partAt {a A:Addr}(h:ADRel ρ a A)(c b:Nat):Sim P ADRel ρ (Go.partAt a c b) (Go.partAt A c b):=by
 unfold Go.partAt;refine Sim.bind (Sim.byteOf h) ?_;rintro σ x _ hl rfl;have h2:ADRel σ ⟨a.block,a.off+c,none⟩ ⟨A.block,A.off+c,none⟩:=⟨(h.mono hl).1,by show a.off+c=A.off+c;rw[h.2.1],rfl⟩;refine Sim.bind (Sim.byteOf h2) ?_;rintro σ2 y _ hl2 rfl;refine Sim.pure' ?_;split
 ·exact h2.mono hl2
 ·exact⟨(h2.mono hl2).1,h2.2.1,rfl⟩
theorem ADRel.add {a A:Addr}(h:ADRel ρ a A)(n:Nat):ADRel ρ (a.add n) (A.add n):=by
 unfold Addr.add;split
 ·exact h
 ·exact⟨h.1,by show a.off+n=A.off+n;rw[h.2.1],rfl⟩
theorem Sim.fieldPlace {a A:Addr}(h:ADRel ρ a A)(f:Field):Sim P ADRel ρ (Go.fieldPlace a f) (Go.fieldPlace A f):=by
 unfold Go.fieldPlace;refine Sim.bind (Sim.sizeOf f.type) ?_;rintro σ n _ hl rfl;exact Sim.ite (fun _=>Sim.partAt (h.mono hl) _ _) (fun _=>Sim.pure' ((h.mono hl).add _))
theorem Sim.fieldAt (t:TypeId){v V:Value}(f:Nat)(h:VRel ρ v V):Sim P VRel ρ (Instr.fieldAt t v f) (Instr.fieldAt t V f):=by
 unfold Instr.fieldAt;refine Sim.bind (Sim.underlying t) ?_;rintro σ d _ hl ⟨rfl,_⟩;cases d with
 | struct fs =>
  dsimp only;cases fs[f]? with
  | none=>exact Sim.stuck
  | some fd =>
   dsimp only;refine Sim.bind (Sim.sureAddr (h.mono hl)) ?_;rintro σ2 _ _ hl2 ⟨x,X,o,s,hx,rfl,rfl⟩;refine Sim.bind (Sim.fieldPlace (ADRel.of hx) fd) ?_;intro σ3 a A hl3 ha;exact Sim.pure' ha.ptr
 | _=>exact Sim.stuck
theorem Sim.asIntOf {v V:Value}(h:VRel ρ v V):Sim P (fun _ a b=>a=b) ρ (Go.asIntOf v) (Go.asIntOf V):=by
 cases h with
 | flat h=>cases v<;>first | exact Sim.stuck | exact Sim.pure' rfl | (rename_i a;cases a<;>first | exact Sim.stuck | exact Sim.unsupported)
 | pointer h=>exact Sim.unsupported
 | _=>exact Sim.stuck
theorem Sim.boundsPanic {α β:Type}{Q:Ren→α→β→Prop}(k:IntKind)(x y:Int)(c:BoundsCode):Sim P Q ρ (Go.boundsPanic k x y c) (Go.boundsPanic k x y c):=by
 unfold Go.boundsPanic;dsimp only;refine Sim.ite (fun _=>?_) (fun _=>?_)
 ·refine Sim.bind (Q:=fun _ a b=>a=b) (Sim.map Sim.choose (fun _ a b _ e=>by rw[e])) ?_
  rintro σ s _ hl rfl;exact Sim.runtimePanic (by simp) (by simp) (by simp)
 ·refine Sim.bind (Q:=fun _ a b=>a=b) (Sim.pure' rfl) ?_
  rintro σ s _ hl rfl;exact Sim.runtimePanic (by simp) (by simp) (by simp)
theorem Sim.indexAt (t:TypeId){v V i I:Value}(h:VRel ρ v V)(hi:VRel ρ i I):Sim P VRel ρ (Instr.indexAt t v i) (Instr.indexAt t V I):=by
 unfold Instr.indexAt;refine Sim.bind (Sim.asIntOf hi) ?_;rintro σ ⟨k,n⟩ _ hl rfl;dsimp only;refine Sim.bind (Sim.underlying t) ?_;rintro σ2 d _ hl2 ⟨rfl,hd⟩;have h':=(h.mono hl).mono hl2;have fin:∀ (τ:Ren) (a b:Option Addr) (len:Nat) (e:TypeId),(a=none∧b=none∨∃ x X,a=some x∧b=some X∧(ADRel τ x X∨len=0))→Sim P VRel τ
   (do
     let tiny:=decide (len≤1)&&(match ← Go.underlying t with | .array ..=>true | _=>false)
     match a with
     | some a=>if 0≤n∧n<len then Pure.pure (.pointer (some (a.add (n.toNat*(← Go.sizeOf e))))) else if tiny then Go.unsupported (.noEntry "op/indexAddr.an index out of range at an array of length 0 or 1 (ledger 616)") else Go.boundsPanic k n len .index
     | none=>Go.boundsPanic k n 0 .index)
   (do
     let tiny:=decide (len≤1)&&(match ← Go.underlying t with | .array ..=>true | _=>false)
     match b with
     | some a=>if 0≤n∧n<len then Pure.pure (.pointer (some (a.add (n.toNat*(← Go.sizeOf e))))) else if tiny then Go.unsupported (.noEntry "op/indexAddr.an index out of range at an array of length 0 or 1 (ledger 616)") else Go.boundsPanic k n len .index
     | none=>Go.boundsPanic k n 0 .index):=by
  intro τ a b len e hab;refine Sim.bind (Sim.underlying t) ?_;rintro σ4 d' _ hl4 ⟨rfl,_⟩;dsimp only;rcases hab with⟨rfl,rfl⟩ | ⟨x,X,rfl,rfl,hx⟩
  ·exact Sim.boundsPanic _ _ _ _
  ·refine Sim.ite (fun hlt=>?_) (fun _=>Sim.ite (fun _=>Sim.unsupported) (fun _=>Sim.boundsPanic _ _ _ _))
   have hx:=hx.resolve_right (by omega);refine Sim.bind (Sim.sizeOf e) ?_;rintro σ5 m _ hl5 rfl;exact Sim.pure' (((hx.mono hl4).mono hl5).add _).ptr
 cases d with
 | array m e =>
  dsimp only;refine Sim.bind (Sim.sureAddr h') ?_;rintro σ3 _ _ hl3 ⟨x,X,o,s,hx,rfl,rfl⟩;exact fin σ3 _ _ m e (.inr ⟨_,_,rfl,rfl,.inl (ADRel.of hx)⟩)
 | slice e =>
  cases h' with
  | flat hf =>
   cases v with
   | slice a l c =>
    cases a with
    | none=>exact fin σ2 _ _ l e (.inl ⟨rfl,rfl⟩)
    | some a=>simp[Lift.flat] at hf
   | _=>exact Sim.stuck
  | @slice b B o n' c s hb=>exact fin σ2 _ _ n' e (.inr ⟨_,_,rfl,rfl,.inl (ADRel.of hb)⟩)
  | void=>exact fin σ2 _ _ 0 e (.inr ⟨_,_,rfl,rfl,.inr rfl⟩)
  | _=>exact Sim.stuck
 | _=>exact Sim.stuck
theorem Sim.part (t:TypeId){c C:Array Value}(h:ARel ρ c C)(off:Nat):Sim P VRel ρ (Go.part t c off) (Go.part t C off):=by
 unfold Go.part;refine Sim.bind (Sim.isAgg t) ?_;rintro σ b _ hl rfl;refine Sim.ite (fun _=>?_) (fun _=>?_)
 ·refine Sim.bind (Sim.sizeOf t) ?_
  rintro σ2 n _ hl2 rfl;have h':=(h.mono hl).mono hl2;refine Sim.pure' (VRel.agg' ⟨by simp[h'.1],fun i v V h1 h2=>?_⟩);rw[Array.getElem?_extract] at h1 h2;rw[← h'.1] at h2;split at h1
  ·rename_i e
   rw[if_pos e] at h2;exact h'.2 _ v V h1 h2
  ·cases h1
 ·cases e:c[off]? with
  | none=>exact Sim.stuck
  | some v =>
   obtain⟨V,e2,hv⟩:=h.get e;rw[e2];exact Sim.pure' (hv.mono hl)
theorem Sim.index (t:TypeId){v V i I:Value}(h:VRel ρ v V)(hi:VRel ρ i I):Sim P VRel ρ (Instr.index t v i) (Instr.index t V I):=by
 unfold Instr.index;refine Sim.bind (Sim.asIntOf hi) ?_;rintro σ ⟨k,n⟩ _ hl rfl;dsimp only;refine Sim.bind (Sim.underlying t) ?_;rintro σ2 d _ hl2 ⟨rfl,hd⟩;have h':=(h.mono hl).mono hl2;cases d with
 | array m e =>
  cases h' with
  | agg h1 h2 =>
   refine Sim.ite (fun _=>?_) (fun _=>Sim.boundsPanic _ _ _ _);refine Sim.bind (Sim.sizeOf e) ?_;rintro σ3 s _ hl3 rfl;exact Sim.part e (ARel.mono hl3 ⟨h1,h2⟩) _
  | flat hf=>cases v<;>first | exact Sim.stuck | (simp[Lift.flat] at hf;done)
  | _=>exact Sim.stuck
 | string =>
  cases h' with
  | flat hf =>
   cases v<;>first | exact Sim.stuck | (simp[Lift.flat] at hf;done) | skip
   dsimp only;split
   ·exact Sim.pure' (.flat rfl)
   ·exact Sim.boundsPanic _ _ _ _
  | _=>exact Sim.stuck
 | _=>exact Sim.stuck
theorem Sim.forL {β:Type}{f F:Nat→β→Sem (ForInStep β)}:∀ (l:List Nat) (ρ:Ren) (s:β),(∀ σ x s,ρ.le σ→Sim P (fun _ a b=>a=b) σ (f x s) (F x s))→Sim P (fun _ a b=>a=b) ρ (forIn l s f) (forIn l s F)
 | [],ρ,s,_=>Sim.pure' rfl
 | x::l,ρ,s,h=>by
  rw[List.forIn_cons,List.forIn_cons];refine Sim.bind (h ρ x s ρ.le_refl) ?_;rintro σ r _ hl rfl;cases r with
  | done b=>exact Sim.pure' rfl
  | yield b=>exact Sim.forL l σ b fun τ x s ht=>h τ x s (Ren.le_trans hl ht)
def arrTy (P:Program)(t:TypeId):Bool:=match P.underlying t with
 | some (.array _ e)=>plainTy P e
 | _=>false
theorem Sim.equalArr (hG:P.globals.size=GN)(t:TypeId)(m n:Nat)(hm:m=n+1){v V y Y:Value}(hv:VRel ρ v V)(hy:VRel ρ y Y)(hc:arrTy P t=true):Sim P (fun _ a b=>a=b) ρ (Op.equalIn (m+1) t v y) (Op.equalIn (m+1) t V Y):=by
 unfold Op.equalIn;refine Sim.bind (Sim.underlying t) ?_;rintro σ d _ hl ⟨rfl,hd⟩;have hv':=hv.mono hl;have hy':=hy.mono hl;unfold arrTy at hc;rw[hd] at hc;cases d<;>first | (cases hc;done) | skip
 rename_i len e;have hc:plainTy P e=true:=hc;cases v<;>cases y<;>first | exact Sim.stuck | skip
 cases hv' with
 | flat h=>simp[Lift.flat] at h
 | agg h1 h2 =>
  cases hy' with
  | flat h=>simp[Lift.flat] at h
  | agg h3 h4 =>
   dsimp only;refine Sim.bind (Sim.sizeOf e) ?_;rintro σ2 s _ hl2 rfl;refine Sim.bind (Q:=fun _ a b=>a=b) ?_ ?_
   ·rw[Std.Legacy.Range.forIn_eq_forIn_range',Std.Legacy.Range.forIn_eq_forIn_range']
    refine Sim.forL _ _ _ fun τ i r ht=>?_;refine Sim.bind (Sim.part e (ARel.mono (Ren.le_trans hl2 ht) ⟨h1,h2⟩) _) ?_;intro τ2 a A ht2 ha;refine Sim.bind (Sim.part e (ARel.mono (Ren.le_trans hl2 (Ren.le_trans ht ht2)) ⟨h3,h4⟩) _) ?_;intro τ3 b B ht3 hb;subst hm;refine Sim.bind (Sim.equalIn hG e n (ha.mono ht3) hb (.inl hc)) ?_;rintro τ4 q _ ht4 rfl;exact Sim.ite (fun _=>Sim.pure' rfl) (fun _=>Sim.pure' rfl)
   ·rintro τ r _ ht rfl
    split
    ·exact Sim.pure' rfl
    ·exact Sim.pure' rfl
theorem eqGuardType_arr {t:TypeId}(hc:arrTy P t=true):∀ n,P.eqGuardType (n+2) t=false:=fun n=>by
 unfold arrTy at hc;unfold Program.eqGuardType;split at hc
 ·rename_i len e hu
  rw[hu];dsimp only;unfold Program.eqGuardType;unfold plainTy at hc;split at hc<;>first | (cases hc;done) | (rename_i h;rw[h])
 ·cases hc
theorem Sim.eqGuardArr (op:BinOp)(t:TypeId)(x z:Operand){v V y Y:Value}(hv:VRel ρ v V)(hy:VRel ρ y Y)(hc:arrTy P t=true)(hd:1<P.depth) :
  Sim P (fun _ _ _=>True) ρ (Go.eqGuard op t x z v y) (Go.eqGuard op t x z V Y):=by
 have key:Sim P (fun _ _ _=>True) ρ (Go.eqGuard .eql t x z v y) (Go.eqGuard .eql t x z V Y):=by
  by_cases hn:v=.nilIface∧y=.nilIface
  ·unfold Go.eqGuard
   refine Sim.ite (fun _=>Sim.pure' trivial) (fun _=>?_);obtain⟨rfl,rfl⟩:=hn;cases hv with
   | flat _=>cases hy with
    | flat _ =>
     dsimp only;refine Sim.ite (fun _=>Sim.pure' trivial) (fun hx=>?_);have h0:∀ w,(Op.eqGuardIn Op.maxDepth t .nilIface .nilIface).run P w=.ok false w:=fun w=>by
      show(Op.eqGuardIn (9999+1) t .nilIface .nilIface).run P w=_;unfold Op.eqGuardIn;rw[Sem.run_bind];unfold arrTy at hc;rcases underlying_run (P:=P) t w with⟨d,hd,e⟩ | e
      ·rw[e,Result.andThen_ok]
       rw[hd] at hc;cases d<;>first | (cases hc;done) | rfl
      ·have:P.underlying t≠none:=fun h=>by rw[h] at hc;cases hc
       cases hu:P.underlying t with
       | none=>exact absurd hu this
       | some d =>
        have:=(by simp[Go.underlying,hu]:(Go.underlying t).run P w=.ok d w);rw[this] at e;cases e
     have hs:Sim P (fun _ a b=>a=false∧b=false) ρ (Op.eqGuardIn Op.maxDepth t .nilIface .nilIface) (Op.eqGuardIn Op.maxDepth t .nilIface .nilIface):=by
      show Sim P _ ρ (Op.eqGuardIn (9999+1) t _ _) (Op.eqGuardIn (9999+1) t _ _);unfold Op.eqGuardIn;refine Sim.bind (Sim.underlying t) ?_;rintro σ d _ hl ⟨rfl,hd⟩;unfold arrTy at hc;rw[hd] at hc;cases d<;>first | (cases hc;done) | exact Sim.pure' ⟨rfl,rfl⟩
     refine Sim.bind hs ?_;rintro σ _ _ hl ⟨rfl,rfl⟩;exact Sim.pure' trivial
  by_cases ha:(∃ c,v=.agg c)∧∃ c,y=.agg c
  ·unfold Go.eqGuard
   refine Sim.ite (fun _=>Sim.pure' trivial) (fun _=>?_);obtain⟨⟨c,rfl⟩,⟨c',rfl⟩⟩:=ha;cases hv with
   | flat h=>simp[Lift.flat] at h
   | agg _ _ =>
    cases hy with
    | flat h=>simp[Lift.flat] at h
    | agg _ _ =>
     refine Sim.bind (Sim.program (Q:=fun _ a b=>a=P∧b=P) ⟨rfl,rfl⟩) ?_;rintro σ p q hl ⟨rfl,rfl⟩;refine Sim.bind (Sim.program (Q:=fun _ a b=>a=q∧b=q) ⟨rfl,rfl⟩) ?_;rintro σ2 p p' hl2 ⟨rfl,rfl⟩;obtain⟨n,hn⟩:∃ n,p'.depth=n+2:=⟨p'.depth-2,by omega⟩;refine Sim.ite (fun _=>Sim.pure' trivial) (fun h=>absurd ?_ h);rw[hn,eqGuardType_arr hc];rfl
  ·have hn':¬ (V=.nilIface∧Y=.nilIface):=fun⟨e1,e2⟩=>hn ⟨(by subst e1;exact hv.nilI),(by subst e2;exact hy.nilI)⟩
   have ha':¬ ((∃ c,V=.agg c)∧∃ c,Y=.agg c):=fun⟨⟨c,e1⟩,⟨c',e2⟩⟩=>ha ⟨(by subst e1;exact hv.aggI),(by subst e2;exact hy.aggI)⟩;rw[eqGuard_none t x z v y hn ha,eqGuard_none t x z V Y hn' ha'];exact Sim.pure' trivial
 cases op
 case eql=>exact key
 case neq=>exact key
 all_goals exact Sim.pure' trivial
theorem Sim.binOpArr (hG:P.globals.size=GN)(op:BinOp)(ho:op=.eql∨op=.neq)(t:TypeId){v V y Y:Value}(hv:VRel ρ v V)(hy:VRel ρ y Y)(hc:arrTy P t=true) :
  Sim P VRel ρ (Go.binOp op t v y) (Go.binOp op t V Y):=by
 by_cases ha:(∃ c,v=.agg c)∧∃ c,y=.agg c
 ·obtain⟨⟨c,rfl⟩,⟨c',rfl⟩⟩:=ha
  have hq:=Sim.equalArr hG t 9999 9998 rfl hv hy hc;have hV:∃ C,V=.agg C:=by
   cases hv with
   | flat h=>simp[Lift.flat] at h
   | agg _ _=>exact⟨_,rfl⟩
  have hY:∃ C,Y=.agg C:=by
   cases hy with
   | flat h=>simp[Lift.flat] at h
   | agg _ _=>exact⟨_,rfl⟩
  obtain⟨C,rfl⟩:=hV;obtain⟨C',rfl⟩:=hY;rcases ho with rfl | rfl
  all_goals
   refine Sim.bind (s:=Op.equal t (.agg c) (.agg c')) (S:=Op.equal t (.agg C) (.agg C')) hq ?_;rintro σ b _ hl rfl;exact Sim.pure' (.flat rfl)
 ·by_cases hi:(∃ k n,v=.int k n)∧∃ k n,y=.int k n
  ·obtain⟨⟨k,n,rfl⟩,⟨k',n',rfl⟩⟩:=hi
   cases hv with
   | flat _=>cases hy with
    | flat _=>exact Sim.int2 op t k k' n n'
  by_cases hs:(∃ s,v=.string s)∧∃ s,y=.string s
  ·obtain⟨⟨a,rfl⟩,⟨b,rfl⟩⟩:=hs
   cases hv with
   | flat _=>cases hy with
    | flat _=>exact Sim.str2 op t a b
  by_cases hfl:(∃ k n,v=.float k n)∧∃ k n,y=.float k n
  ·obtain⟨⟨k,a,rfl⟩,⟨k',b,rfl⟩⟩:=hfl
   cases hv with
   | flat _=>cases hy with
    | flat _=>exact Sim.flt2 op t k k' a b
  have hst:∀ w,∃ k w',(Op.equal t v y).run P w=.halt k w'∧quiet k=true:=fun w=>by
   show ∃ k w',(Op.equalIn (9999+1) t v y).run P w=.halt k w'∧quiet k=true;unfold Op.equalIn;rw[Sem.run_bind];unfold arrTy at hc;rcases underlying_run (P:=P) t w with⟨d,hd,e⟩ | e
   ·rw[e,Result.andThen_ok]
    rw[hd] at hc;cases d<;>first | (cases hc;done) | skip
    cases v<;>cases y<;>first | exact⟨_,w,rfl,rfl⟩ | exact absurd ⟨⟨_,rfl⟩,⟨_,rfl⟩⟩ ha
   ·rw[e]
    exact⟨_,w,rfl,by simp⟩
  obtain⟨e1,e2⟩:=binOp_eq t v y hi hs (fun h=>hfl ⟨(hv.flt h.1).imp fun _ x=>x.imp fun _ x=>x.1,(hy.flt h.2).imp fun _ x=>x.imp fun _ x=>x.1⟩);have hb:∀ f:Bool→Bool,∀ w,∃ k w',(do Pure.pure (Value.bool (f (← Op.equal t v y))):Sem Value).run P w=.halt k w'∧quiet k=true:=fun f w=>by
   obtain⟨k,w',e,hk⟩:=hst w;exact⟨k,w',by rw[Sem.run_bind,e];rfl,hk⟩
  rcases ho with rfl | rfl
  ·rw[e1];exact Sim.halts (hb id)
  ·rw[e2];exact Sim.halts (hb Bool.not)
end
section
variable {P:Program}{ρ:Ren}
theorem Sim.askRoom (n:Nat):Sim P (fun _ _ _=>True) ρ (Go.askRoom n) (Go.askRoom n):=by
 unfold Go.askRoom;refine Sim.ite (fun _=>?_) (fun _=>Sim.pure' trivial);refine⟨?_,fun w W hw hq=>Lok.still (r:=.ok () w) rfl rfl rfl fun _ _=>rfl⟩;intro w W ES hw;exact⟨(),W,ρ,#[⟨.mark .noRoom,false,true⟩],rfl,Went.look hw (fun e he=>by
  simp only[List.mem_toArray,List.mem_cons,List.not_mem_nil,or_false] at he;subst he;exact .inr (.inr (.inl rfl))),trivial⟩
theorem fill_rel {place:Nat→Option (Nat × Nat)}:∀ {l L:List (Nat × Value)} {c C:Array Value},l.length=L.length→(∀ (i:Nat) x X,l[i]?=some x→L[i]?=some X→x.1=X.1∧VRel ρ x.2 X.2)→ARel ρ c C →
  (Instr.fill place c l=none∧Instr.fill place C L=none)∨∃ d D,Instr.fill place c l=some d∧Instr.fill place C L=some D∧ARel ρ d D
 | [],[],c,C,_,_,h=>.inr ⟨c,C,rfl,rfl,h⟩
 | (i,v)::l,(I,V)::L,c,C,hn,hx,h=>by
  obtain⟨hi,hv⟩:=hx 0 (i,v) (I,V) rfl rfl;simp only at hi hv;subst hi;unfold Instr.fill;cases hp:place i with
  | none=>exact .inl ⟨rfl,rfl⟩
  | some os =>
   obtain⟨off,size⟩:=os;simp only;have hc:=hv.cells;rw[hc.1,h.1];split
   ·exact .inl ⟨rfl,rfl⟩
   ·refine fill_rel (by simpa using hn) (fun j x X a b=>hx (j+1) x X (by simpa using a) (by simpa using b)) ?_
    have key:∀ (m M:List (Value × Nat)) (d D:Array Value),m.length=M.length→(∀ (j:Nat) x X,m[j]?=some x→M[j]?=some X→x.2=X.2∧VRel ρ x.1 X.1)→ARel ρ d D →
      ARel ρ (m.foldl (fun cs (c,j)=>cs.setIfInBounds (off+j) c) d) (M.foldl (fun cs (c,j)=>cs.setIfInBounds (off+j) c) D):=by
     intro m
     induction m with
     | nil=>intro M d D hm _ hd;cases M with
      | nil=>exact hd
      | cons _ _=>simp at hm
     | cons x m ih=>intro M d D hm hx hd;cases M with
      | nil=>simp at hm
      | cons X M =>
       obtain⟨e,hv⟩:=hx 0 x X rfl rfl;obtain⟨x,j⟩:=x;obtain⟨X,J⟩:=X;simp only at e hv;subst e;exact ih M _ _ (by simpa using hm) (fun k y Y a b=>hx (k+1) y Y (by simpa using a) (by simpa using b)) (hd.set _ hv)
    rw[← Array.foldl_toList,← Array.foldl_toList];refine key _ _ _ _ (by simp[hc.1]) (fun j x X a b=>?_) h;simp only[Array.toList_zipIdx,List.getElem?_zipIdx,Array.getElem?_toList,Option.map_eq_some_iff] at a b;obtain⟨y,hy,rfl⟩:=a;obtain⟨Y,hY,rfl⟩:=b;exact⟨rfl,hc.2 j y Y hy hY⟩
def PRel (ρ:Ren)(p q:Array (Nat × Value)):Prop:=p.size=q.size∧∀ (i:Nat) x X,p[i]?=some x→q[i]?=some X→x.1=X.1∧VRel ρ x.2 X.2
theorem PRel.mono {σ:Ren}(hl:ρ.le σ){p q:Array (Nat × Value)}(h:PRel ρ p q):PRel σ p q:=⟨h.1,fun i x X a b=>⟨(h.2 i x X a b).1,(h.2 i x X a b).2.mono hl⟩⟩
theorem PRel.fill {place:Nat→Option (Nat × Nat)}{p q:Array (Nat × Value)}(h:PRel ρ p q){c C:Array Value}(hc:ARel ρ c C) :
  (Instr.fill place c p.toList=none∧Instr.fill place C q.toList=none)∨∃ d D,Instr.fill place c p.toList=some d∧Instr.fill place C q.toList=some D∧ARel ρ d D :=
 fill_rel (by simpa using h.1) (fun i x X a b=>h.2 i x X (by simpa using a) (by simpa using b)) hc
theorem Sim.mapM {α β γ:Type}{Q:Ren→β→γ→Prop}(hQ:∀ σ τ a b,σ.le τ→Q σ a b→Q τ a b){f:α→Sem β}{F:α→Sem γ}:∀ (l:List α) (ρ:Ren),(∀ σ x,ρ.le σ→x∈l→Sim P Q σ (f x) (F x))→Sim P (fun σ a b=>a.length=b.length∧∀ (i:Nat) x y,a[i]?=some x→b[i]?=some y→Q σ x y) ρ (l.mapM f) (l.mapM F)
 | [],ρ,_=>by
  rw[List.mapM_nil,List.mapM_nil];exact Sim.pure' ⟨rfl,fun i x y h=>by simp at h⟩
 | x::l,ρ,h=>by
  rw[List.mapM_cons,List.mapM_cons];refine Sim.bind (h ρ x (ρ.le_refl) (by simp)) ?_;intro σ a b hl hab;refine Sim.bind (Sim.mapM hQ l σ (fun τ y ht hy=>h τ y (Ren.le_trans hl ht) (by simp[hy]))) ?_;rintro σ2 as bs hl2 ⟨hn,hx⟩;refine Sim.pure' ⟨by simp[hn],fun i x y hx' hy'=>?_⟩
  match i,hx',hy' with
  | 0,h1,h2=>cases h1;cases h2;exact hQ _ _ _ _ hl2 hab
  | i+1,h1,h2=>exact hx i x y (by simpa using h1) (by simpa using h2)
theorem Sim.build (t:TypeId)(hZ:flatTy P t=true){p q:Array (Nat × Value)}(h:PRel ρ p q):Sim P VRel ρ (Instr.build t p) (Instr.build t q):=by
 unfold Instr.build;refine Sim.bind (Sim.zeroValue t hZ) ?_;rintro σ z _ hl ⟨rfl,hz⟩;dsimp only;refine Sim.bind (Sim.underlying t) ?_;rintro σ2 d _ hl2 ⟨rfl,_⟩;have h':=(h.mono hl).mono hl2;cases d with
 | struct fs =>
  dsimp only;refine Sim.bind (Q:=fun _ a b=>a=b) ?_ ?_
  ·rw[Array.mapM_eq_mapM_toList]
   refine Sim.map (Sim.mapM (Q:=fun _ a b=>a=b) (fun _ _ _ _ _ e=>e) _ _ (fun τ f _ _=>?_)) ?_
   ·refine Sim.bind (Sim.sizeOf f.type) ?_
    rintro υ m _ _ rfl;exact Sim.pure' rfl
   ·rintro τ a b _ ⟨hn,hx⟩
    have:a=b:=by
     apply List.ext_getElem?;intro i;rcases Nat.lt_or_ge i a.length with q | q
     ·have q':i<b.length:=by omega
      rw[List.getElem?_eq_getElem q,List.getElem?_eq_getElem q'];rw[hx i _ _ (List.getElem?_eq_getElem q) (List.getElem?_eq_getElem q')]
     ·rw[List.getElem?_eq_none q,List.getElem?_eq_none (by omega)]
    rw[this]
  ·rintro σ3 pl _ hl3 rfl
   rcases (h'.mono hl3).fill (place:=(pl[·]?)) (ARel.same hz) with⟨e1,e2⟩ | ⟨d,D,e1,e2,hd⟩
   ·rw[e1];exact Sim.stuck
   ·rw[e1,e2];exact Sim.pure' (VRel.agg' hd)
 | array n e =>
  dsimp only;refine Sim.bind (Sim.sizeOf e) ?_;rintro σ3 m _ hl3 rfl;rcases (h'.mono hl3).fill (place:=fun i=>some (i*m,m)) (ARel.same hz) with⟨e1,e2⟩ | ⟨d,D,e1,e2,hd⟩
  ·rw[e1];exact Sim.stuck
  ·rw[e1,e2];exact Sim.pure' (VRel.agg' hd)
 | _=>exact Sim.stuck
theorem cyc_flat {z:Value}(hz:∀ (j:Nat) c,z.cells[j]?=some c→flat c=true)(n:Nat):∀ (i:Nat) v,((Array.range n).map (fun i=>z.cells[i % z.cells.size]!))[i]?=some v→flat v=true:=by
 intro i v hv;rw[Array.getElem?_map] at hv;obtain⟨j,_,rfl⟩:=Option.map_eq_some_iff.1 hv;by_cases h0:j % z.cells.size<z.cells.size
 ·exact hz (j % z.cells.size) _ (by rw[getElem!_pos z.cells _ h0];exact as' h0)
 ·rw[getElem!_neg z.cells _ h0];rfl
theorem empty_flat (n:Nat):∀ (i:Nat) v,((Array.range n).map (fun i=>(#[]:Array Value)[i % 0]!))[i]?=some v→flat v=true:=by
 intro i v hv;rw[Array.getElem?_map] at hv;obtain⟨j,_,rfl⟩:=Option.map_eq_some_iff.1 hv;rw[getElem!_neg (#[]:Array Value) _ (by simp)];rfl
theorem Sim.buildSlice (t:TypeId)(hZ:flatEl P t=true)(n:Nat){p q:Array (Nat × Value)}(h:PRel ρ p q):Sim P VRel ρ (Instr.buildSlice t n p) (Instr.buildSlice t n q):=by
 unfold Instr.buildSlice;refine Sim.bind (Sim.underlying t) ?_;rintro σ d _ hl ⟨rfl,hu⟩;cases d with
 | slice e =>
  dsimp only;refine Sim.bind (Sim.sizeOf e) ?_;rintro σ2 m _ hl2 rfl;have fin:∀ (τ:Ren) (z:Array Value),σ2.le τ→(∀ (i:Nat) v,((Array.range (n*m)).map (fun i=>z[i % z.size]!))[i]?=some v→flat v=true) →
    Sim P VRel τ
     (match Instr.fill (fun i=>some (i*m,m)) ((Array.range (n*m)).map (z[· % z.size]!)) p.toList with
      | some cells=>do Pure.pure (.slice (some (← Go.newRow e cells)) n n)
      | _=>Go.stuck "buildSlice: a part of the wrong size")
     (match Instr.fill (fun i=>some (i*m,m)) ((Array.range (n*m)).map (z[· % z.size]!)) q.toList with
      | some cells=>do Pure.pure (.slice (some (← Go.newRow e cells)) n n)
      | _=>Go.stuck "buildSlice: a part of the wrong size"):=by
   intro τ z hl3 hz;rcases (((h.mono hl).mono hl2).mono hl3).fill (place:=fun i=>some (i*m,m)) (ARel.same hz) with⟨e1,e2⟩ | ⟨d,D,e1,e2,hd⟩
   ·rw[e1];exact Sim.stuck
   ·rw[e1,e2]
    refine Sim.bind (Sim.newRow e hd) ?_;rintro υ _ _ hl4 ⟨x,X,hx,rfl,rfl⟩;exact Sim.pure' (.slice hx)
  refine Sim.ite (fun _=>Sim.halts fun w=>⟨_,w,rfl,by simp⟩) (fun _=>?_);refine Sim.ite (fun _=>?_) (fun _=>?_)
  ·refine Sim.bind (Q:=fun _ a b=>a=#[]∧b=#[]) (Sim.pure' ⟨rfl,rfl⟩) ?_
   rintro τ _ _ hl3 ⟨rfl,rfl⟩;exact fin τ #[] hl3 (empty_flat _)
  ·refine Sim.bind (Sim.zeroValue e (flatEl_elem hZ hu)) ?_
   rintro τ z _ hl3 ⟨rfl,hz⟩;refine Sim.bind (Q:=fun _ (a b:Array Value)=>a=z.cells∧b=z.cells) (Sim.pure' ⟨rfl,rfl⟩) ?_;rintro τ2 _ _ hl4 ⟨rfl,rfl⟩;exact fin τ2 _ (Ren.le_trans hl3 hl4) (cyc_flat hz _)
 | _=>exact Sim.stuck
theorem Sim.makeSlice (t:TypeId)(hZ:flatEl P t=true){l L c C:Value}(hl:VRel ρ l L)(hc:VRel ρ c C):Sim P VRel ρ (Instr.makeSlice t l c) (Instr.makeSlice t L C):=by
 unfold Instr.makeSlice;refine Sim.bind (Sim.underlying t) ?_;rintro σ d _ hl1 ⟨rfl,hu⟩;cases d with
 | slice e =>
  dsimp only;refine Sim.bind (Sim.asInt (hl.mono hl1)) ?_;rintro σ2 n _ hl2 rfl;refine Sim.bind (Sim.asInt ((hc.mono hl1).mono hl2)) ?_;rintro σ3 m _ hl3 rfl;refine Sim.bind (Sim.typeInfo e) ?_;rintro σ4 i _ hl4 ⟨rfl,_⟩;have fin:∀ τ,Sim P VRel τ
    (do
      Go.askRoom ((IntKind.i64.wrap m).toNat*i.bytes)
      let n':=(IntKind.i64.wrap m).toNat*(← Go.sizeOf e)
      let zero ← if n'=0 then Pure.pure #[] else do Pure.pure (← Go.zeroValue e).cells
      let a ← Go.newRow e ((Array.range n').map (zero[· % zero.size]!))
      Pure.pure (.slice (some a) (IntKind.i64.wrap n).toNat (IntKind.i64.wrap m).toNat))
    (do
      Go.askRoom ((IntKind.i64.wrap m).toNat*i.bytes)
      let n':=(IntKind.i64.wrap m).toNat*(← Go.sizeOf e)
      let zero ← if n'=0 then Pure.pure #[] else do Pure.pure (← Go.zeroValue e).cells
      let a ← Go.newRow e ((Array.range n').map (zero[· % zero.size]!))
      Pure.pure (.slice (some a) (IntKind.i64.wrap n).toNat (IntKind.i64.wrap m).toNat)):=by
   intro τ;refine Sim.bind (Sim.askRoom _) ?_;intro τ2 _ _ _ _;refine Sim.bind (Sim.sizeOf e) ?_;rintro τ3 k _ _ rfl;have fin2:∀ τ (z:Array Value),(∀ (j:Nat) v,((Array.range ((IntKind.i64.wrap m).toNat*k)).map (fun i=>z[i % z.size]!))[j]?=some v→flat v=true)→Sim P VRel τ
     (do
       let a ← Go.newRow e ((Array.range ((IntKind.i64.wrap m).toNat*k)).map (z[· % z.size]!))
       Pure.pure (.slice (some a) (IntKind.i64.wrap n).toNat (IntKind.i64.wrap m).toNat))
     (do
       let a ← Go.newRow e ((Array.range ((IntKind.i64.wrap m).toNat*k)).map (z[· % z.size]!))
       Pure.pure (.slice (some a) (IntKind.i64.wrap n).toNat (IntKind.i64.wrap m).toNat)):=by
    intro τ z hz;refine Sim.bind (Sim.newRow e (ARel.same hz)) ?_;rintro υ _ _ hl4 ⟨x,X,hx,rfl,rfl⟩;exact Sim.pure' (.slice hx)
   dsimp only;refine Sim.ite (fun _=>?_) (fun _=>?_)
   ·refine Sim.bind (Q:=fun _ a b=>a=#[]∧b=#[]) (Sim.pure' ⟨rfl,rfl⟩) ?_
    rintro τ _ _ hl3 ⟨rfl,rfl⟩;exact fin2 τ #[] (empty_flat _)
   ·refine Sim.bind (Sim.zeroValue e (flatEl_elem hZ hu)) ?_
    rintro τ z _ hl3 ⟨rfl,hz⟩;refine Sim.bind (Q:=fun _ (a b:Array Value)=>a=z.cells∧b=z.cells) (Sim.pure' ⟨rfl,rfl⟩) ?_;rintro τ2 _ _ hl4 ⟨rfl,rfl⟩;exact fin2 τ2 _ (cyc_flat hz _)
  refine Sim.ite (fun _=>?_) (fun _=>fin _);refine Sim.ite (fun _=>?_) (fun _=>Sim.ite (fun _=>?_) (fun _=>?_))
  ·exact Sim.bind (Q:=fun _ _ _=>False) (Sim.runtimePanic (by simp) (by simp) (by simp)) (fun _ _ _ _ h=>h.elim)
  ·exact Sim.bind (Q:=fun _ _ _=>False) (Sim.runtimePanic (by simp) (by simp) (by simp)) (fun _ _ _ _ h=>h.elim)
  ·refine Sim.bind Sim.choose ?_
   rintro τ x _ _ rfl;exact Sim.bind (Q:=fun _ _ _=>False) (Sim.runtimePanic (by simp) (by simp) (by simp)) (fun _ _ _ _ h=>h.elim)
 | _=>exact Sim.stuck
theorem Sim.makeChan (t:TypeId){l L:Value}(hl:VRel ρ l L):Sim P VRel ρ (Instr.makeChan t l) (Instr.makeChan t L):=by
 unfold Instr.makeChan;refine Sim.bind (Sim.asInt hl) ?_;rintro σ n _ hl1 rfl;refine Sim.bind (Sim.underlying t) ?_;rintro σ2 d _ hl2 ⟨rfl,_⟩;cases d with
 | chan dir e =>
  dsimp only;refine Sim.bind (Sim.typeInfo e) ?_;rintro σ3 i _ hl3 ⟨rfl,_⟩;refine Sim.ite (fun _=>?_) (fun _=>?_)
  ·exact Sim.bind (Q:=fun _ _ _=>False) (Sim.runtimePanic (by simp) (by simp) (by simp)) (fun _ _ _ _ h=>h.elim)
  ·refine Sim.bind (Sim.new .chan) ?_
   intro τ x X hl4 hx;exact Sim.pure' (.chan hx)
 | _=>exact Sim.stuck
end
section
variable {P:Program}{ρ:Ren}
def OVRel (ρ:Ren):Option Value→Option Value→Prop
 | none,none=>True
 | some v,some V=>VRel ρ v V
 | _,_=>False
theorem OVRel.mono {σ:Ren}(hl:ρ.le σ):∀ {a b:Option Value},OVRel ρ a b→OVRel σ a b
 | none,none,_=>trivial
 | some _,some _,h=>VRel.mono hl h
theorem Sim.sliceBound {v V:Value}(h:VRel ρ v V)(y:Nat)(c:BoundsCode):Sim P (fun _ a b=>a=b∧a≤y) ρ (Instr.sliceBound v y c) (Instr.sliceBound V y c):=by
 unfold Instr.sliceBound;refine Sim.bind (Sim.asIntOf h) ?_;rintro σ ⟨k,i⟩ _ hl rfl;exact Sim.ite (fun h=>Sim.pure' ⟨rfl,by omega⟩) (fun _=>Sim.boundsPanic _ _ _ _)
theorem Sim.sliceBounds0 (b:Bool)(len cap:Nat){lo hi mx LO HI MX:Option Value}(h1:OVRel ρ lo LO)(h2:OVRel ρ hi HI)(h3:OVRel ρ mx MX) :
  Sim P (fun _ a b=>a=b∧(len=0→cap=0→a.2.1=0∧a.2.2=0)) ρ (Instr.sliceBounds b len cap lo hi mx) (Instr.sliceBounds b len cap LO HI MX):=by
 have fin:∀ (τ:Ren) (m h:Nat),(len=0→cap=0→h=0∧m=0)→OVRel τ lo LO→Sim P (fun _ a b=>a=b∧(len=0→cap=0→a.2.1=0∧a.2.2=0)) τ
   (do
     let l ← match lo with | some v=>Instr.sliceBound v h (if mx.isSome then .slice3C else .sliceB) | none=>Pure.pure 0
     Pure.pure (l,h,m))
   (do
     let l ← match LO with | some v=>Instr.sliceBound v h (if MX.isSome then .slice3C else .sliceB) | none=>Pure.pure 0
     Pure.pure (l,h,m)):=by
  intro τ m h hz ho;have em:mx.isSome=MX.isSome:=by cases mx<;>cases MX<;>first | rfl | exact h3.elim
  rw[em]
  match lo,LO,ho with
  | none,none,_=>exact Sim.bind (Q:=fun _ a b=>a=b) (Sim.pure' rfl) (fun _ _ _ _ e=>by subst e;exact Sim.pure' ⟨rfl,hz⟩)
  | some v,some V,ho=>exact Sim.bind (Sim.sliceBound ho _ _) (fun _ _ _ _ e=>by obtain⟨e,_⟩:=e;subst e;exact Sim.pure' ⟨rfl,hz⟩)
 unfold Instr.sliceBounds
 match mx,MX,h3 with
 | none,none,_ =>
  dsimp only;refine Sim.bind (Q:=fun _ a b=>a=b∧a=cap) (Sim.pure' ⟨rfl,rfl⟩) ?_;rintro σ m _ hl ⟨rfl,hm⟩
  match hi,HI,h2 with
  | none,none,_ =>
   refine Sim.bind (Q:=fun _ a b=>a=b∧a=len) (Sim.pure' ⟨rfl,rfl⟩) ?_;rintro σ2 h _ hl2 ⟨rfl,hh⟩;exact fin σ2 m h (fun _ _=>by omega) (h1.mono (Ren.le_trans hl hl2))
  | some v,some V,h2 =>
   refine Sim.bind (Sim.sliceBound (VRel.mono hl h2) _ _) ?_;rintro σ2 h _ hl2 ⟨rfl,hh⟩;exact fin σ2 m h (fun _ _=>by omega) (h1.mono (Ren.le_trans hl hl2))
 | some u,some U,h3 =>
  dsimp only;refine Sim.bind (Sim.sliceBound h3 _ _) ?_;rintro σ m _ hl ⟨rfl,hm⟩
  match hi,HI,h2 with
  | none,none,_=>exact Sim.bind (Q:=fun _ _ _=>False) Sim.stuck (fun _ _ _ _ h=>h.elim)
  | some v,some V,h2 =>
   refine Sim.bind (Sim.sliceBound (VRel.mono hl h2) _ _) ?_;rintro σ2 h _ hl2 ⟨rfl,hh⟩;exact fin σ2 m h (fun _ _=>by omega) (h1.mono (Ren.le_trans hl hl2))
theorem Sim.sliceBounds (b:Bool)(len cap:Nat){lo hi mx LO HI MX:Option Value}(h1:OVRel ρ lo LO)(h2:OVRel ρ hi HI)(h3:OVRel ρ mx MX) :
  Sim P (fun _ a b=>a=b) ρ (Instr.sliceBounds b len cap lo hi mx) (Instr.sliceBounds b len cap LO HI MX):=(Sim.sliceBounds0 b len cap h1 h2 h3).mono fun _ _ _ _ h=>h.1
theorem ADRel.slice {a A:Addr}(h:ADRel ρ a A)(n c:Nat):VRel ρ (.slice (some a) n c) (.slice (some A) n c):=by
 obtain⟨b,o,s⟩:=a;obtain⟨B,O,S⟩:=A;obtain⟨h1,h2,h3⟩:=h;simp only at h1 h2 h3;subst h2 h3;exact .slice h1
theorem Sim.asAddr {v V:Value}(h:VRel ρ v V):Sim P ADRel ρ (Go.asAddr v) (Go.asAddr V):=by
 cases h with
 | pointer hb=>exact Sim.pure' (ADRel.of hb)
 | flat h=>cases v<;>first | exact Sim.stuck | (rename_i a;cases a<;>first | exact Sim.stuck | exact Sim.runtimePanic (e:=.nilDeref) (by simp) (by simp) (by simp) | (simp[Lift.flat] at h;done))
 | _=>exact Sim.stuck
theorem Sim.slice (t:TypeId){v V:Value}(h:VRel ρ v V){lo hi mx LO HI MX:Option Value}(h1:OVRel ρ lo LO)(h2:OVRel ρ hi HI)(h3:OVRel ρ mx MX) :
  Sim P VRel ρ (Instr.slice t v lo hi mx) (Instr.slice t V LO HI MX):=by
 unfold Instr.slice;refine Sim.bind (Sim.underlying t) ?_;rintro σ d _ hl ⟨rfl,_⟩;have h':=h.mono hl;have h1':=h1.mono hl;have h2':=h2.mono hl;have h3':=h3.mono hl;clear h h1 h2 h3;cases d with
 | string =>
  cases h' with
  | flat hf =>
   cases v with
   | string s =>
    dsimp only
    match mx,MX,h3' with
    | none,none,_ =>
     refine Sim.ite (fun h=>by simp at h) (fun _=>?_);refine Sim.bind (Sim.sliceBounds false s.size s.size h1' h2' (trivial:OVRel σ none none)) ?_;rintro σ2 ⟨l,hh,m⟩ _ hl2 rfl;exact Sim.pure' (.flat rfl)
    | some _,some _,_=>exact Sim.ite (fun _=>Sim.bind (Q:=fun _ _ _=>False) Sim.stuck (fun _ _ _ _ h=>h.elim)) (fun h=>by simp at h)
   | _=>exact Sim.stuck
  | _=>exact Sim.stuck
 | slice e =>
  cases h' with
  | flat hf =>
   cases v with
   | slice a len cap =>
    dsimp only;refine Sim.bind (Sim.sliceBounds true len cap h1' h2' h3') ?_;rintro σ2 ⟨l,hh,m⟩ _ hl2 rfl;refine Sim.bind (Sim.sizeOf e) ?_;rintro σ3 n _ hl3 rfl;refine Sim.pure' ?_;cases a with
    | none=>simp only[Option.map_none,ite_self];exact .flat rfl
    | some a=>simp[Lift.flat] at hf
   | _=>exact Sim.stuck
  | @slice b B o len cap s hb =>
   dsimp only;refine Sim.bind (Sim.sliceBounds true len cap h1' h2' h3') ?_;rintro σ2 ⟨l,hh,m⟩ _ hl2 rfl;refine Sim.bind (Sim.sizeOf e) ?_;rintro σ3 n _ hl3 rfl;refine Sim.pure' ?_;have ha:=((ADRel.of (o:=o) (s:=s) hb).mono hl2).mono hl3;dsimp only;split
   ·exact ha.slice _ _
   ·exact(ha.add _).slice _ _
  | void =>
   dsimp only;refine Sim.bind (Sim.sliceBounds0 true 0 0 h1' h2' h3') ?_;rintro σ2 ⟨l,hh,m⟩ _ hl2 ⟨rfl,hz⟩;obtain⟨z1,z2⟩:=hz rfl rfl;simp only at z1 z2;subst z1 z2;refine Sim.bind (Sim.sizeOf e) ?_;rintro σ3 n _ hl3 rfl;refine Sim.pure' ?_;dsimp only;rw[Nat.zero_sub];split
   ·exact .void
   ·exact .void
  | _=>exact Sim.stuck
 | pointer arr =>
  dsimp only;refine Sim.bind (Sim.asAddr h') ?_;intro σ2 a A hl2 ha;refine Sim.bind (Sim.underlying arr) ?_;rintro σ3 d _ hl3 ⟨rfl,_⟩;cases d with
  | array n e =>
   dsimp only;refine Sim.bind (Sim.sliceBounds false n n ((h1'.mono hl2).mono hl3) ((h2'.mono hl2).mono hl3) ((h3'.mono hl2).mono hl3)) ?_;rintro σ4 ⟨l,hh,m⟩ _ hl4 rfl;refine Sim.bind (Sim.sizeOf e) ?_;rintro σ5 n _ hl5 rfl;refine Sim.pure' ?_;have ha':=((ha.mono hl3).mono hl4).mono hl5;dsimp only;split
   ·exact ha'.slice _ _
   ·exact(ha'.add _).slice _ _
  | _=>exact Sim.stuck
 | _=>exact Sim.stuck
theorem Sim.sliceAt (t:TypeId){v V:Value}(h:VRel ρ v V){lo hi mx LO HI MX:Option Value}(h1:OVRel ρ lo LO)(h2:OVRel ρ hi HI)(h3:OVRel ρ mx MX) :
  Sim P VRel ρ (Instr.sliceAt t v lo hi mx) (Instr.sliceAt t V LO HI MX):=by
 unfold Instr.sliceAt;refine Sim.bind (Sim.underlying t) ?_;rintro σ d _ hl ⟨rfl,_⟩;cases d with
 | array n e =>
  dsimp only;refine Sim.bind (Sim.sureAddr (h.mono hl)) ?_;rintro σ2 _ _ hl2 ⟨x,X,o,s,hx,rfl,rfl⟩;have q:=Ren.le_trans hl hl2;refine Sim.bind (Sim.sliceBounds false n n (h1.mono q) (h2.mono q) (h3.mono q)) ?_;rintro σ4 ⟨l,hh,m⟩ _ hl4 rfl;refine Sim.bind (Sim.sizeOf e) ?_;rintro σ5 n _ hl5 rfl;refine Sim.pure' ?_;have ha':=((ADRel.of (o:=o) (s:=s) hx).mono hl4).mono hl5;dsimp only;split
  ·exact ha'.slice _ _
  ·exact(ha'.add _).slice _ _
 | _=>exact Sim.slice t (h.mono hl) (h1.mono hl) (h2.mono hl) (h3.mono hl)
theorem Sim.len (ats:Array TypeId)(ty:TypeId){c C:Array Value}(h:ARel ρ c C)(hm:∀ t d,ats[0]?=some t→P.underlying t=some d→(∀ k e,d≠.map k e)∧∀ k e,d≠.chan k e):Sim P VRel ρ (Builtin.len_ ats ty c) (Builtin.len_ ats ty C):=by
 unfold Builtin.len_;cases ht:ats[0]? with
 | none=>exact Sim.stuck
 | some t =>
  cases hc:c[0]? with
  | none=>exact Sim.stuck
  | some x =>
   obtain⟨X,hX,hx⟩:=h.get hc;rw[hX];dsimp only;refine Sim.bind (Sim.underlying t) ?_;rintro σ d _ hl ⟨rfl,hd⟩;obtain⟨m1,m2⟩:=hm t d ht hd;have hx':=hx.mono hl;cases d with
   | string =>
    cases hx' with
    | flat hf=>cases x<;>first | exact Sim.stuck | exact Sim.pure' (.flat rfl)
    | _=>exact Sim.stuck
   | array n e=>exact Sim.pure' (.flat rfl)
   | pointer arr =>
    refine Sim.bind (Sim.underlying arr) ?_;rintro σ2 d _ hl2 ⟨rfl,_⟩;cases d<;>first | exact Sim.stuck | exact Sim.pure' (.flat rfl)
   | slice e =>
    cases hx' with
    | flat hf=>cases x<;>first | exact Sim.stuck | exact Sim.pure' (.flat rfl)
    | slice hb=>exact Sim.pure' (.flat rfl)
    | void=>exact Sim.pure' (.flat rfl)
    | _=>exact Sim.stuck
   | map k e=>exact absurd rfl (m1 k e)
   | chan k e=>exact absurd rfl (m2 k e)
   | _=>exact Sim.stuck
def vd:Value→Bool
 | .slice (some _) 0 0=>true
 | _=>false
theorem vd_len {a:Option Addr}{n c:Nat}(h:vd (.slice a n c)=true):n=0:=by
 unfold vd at h;split at h
 ·rename_i e;cases e;rfl
 ·cases h
theorem Sim.firstCells (size n:Nat){v V:Value}(h:VRel ρ v V)(hn:vd v=true→n=0):Sim P (fun σ a b=>ARel σ a b) ρ (Builtin.firstCells size n v) (Builtin.firstCells size n V):=by
 cases h with
 | flat hf =>
  cases v with
  | slice a l c =>
   cases a with
   | none=>exact Sim.pure' ARel.nil
   | some a=>simp[Lift.flat] at hf
  | string s =>
   refine Sim.pure' (ARel.same fun i v hv=>?_);rw[Array.getElem?_map] at hv;obtain⟨j,_,rfl⟩:=Option.map_eq_some_iff.1 hv;rfl
  | _=>exact Sim.stuck
 | slice hb=>exact Sim.loadCells hb
 | void =>
  obtain rfl:=hn rfl;unfold Builtin.firstCells;dsimp only;rw[Nat.zero_mul];exact Sim.pure' ARel.nil
 | _=>exact Sim.stuck
theorem Sim.firstCells0 (size:Nat){v V:Value}(h:VRel ρ v V):Sim P (fun σ a b=>a=#[]∧b=#[]) ρ (Builtin.firstCells size 0 v) (Builtin.firstCells size 0 V):=by
 unfold Builtin.firstCells;cases h with
 | flat hf =>
  cases v with
  | slice a l c =>
   cases a with
   | none=>exact Sim.pure' ⟨rfl,rfl⟩
   | some a=>simp[Lift.flat] at hf
  | string s =>
   refine Sim.pure' ?_;simp
  | _=>exact Sim.stuck
 | slice hb =>
  dsimp only;rw[Nat.zero_mul];exact Sim.pure' ⟨rfl,rfl⟩
 | void =>
  dsimp only;rw[Nat.zero_mul];exact Sim.pure' ⟨rfl,rfl⟩
 | _=>exact Sim.stuck
theorem Sim.lenOf {v V:Value}(h:VRel ρ v V):Sim P (fun _ a b=>a=b∧(vd v=true→a=0)) ρ (Builtin.lenOf v) (Builtin.lenOf V):=by
 cases h with
 | flat hf=>cases v<;>first | exact Sim.stuck | exact Sim.pure' ⟨rfl,fun h=>by cases h⟩ | (rename_i a n c;cases a<;>first | exact Sim.pure' ⟨rfl,fun h=>by cases h⟩ | (simp[Lift.flat] at hf;done))
 | @slice b B o n c s hb =>
  refine Sim.pure' ⟨rfl,fun h=>?_⟩;unfold vd at h;split at h
  ·rename_i e;cases e;rfl
  ·cases h
 | void=>exact Sim.pure' ⟨rfl,fun _=>rfl⟩
 | _=>exact Sim.stuck
theorem zero_flat {z:Array Value}(hz:∀ (j:Nat) c,z[j]?=some c→flat c=true)(n:Nat):ARel ρ (Builtin.zeroCells z n) (Builtin.zeroCells z n):=by
 refine ARel.same fun i v hv=>?_;unfold Builtin.zeroCells at hv;rw[Array.getElem?_map] at hv;obtain⟨j,_,rfl⟩:=Option.map_eq_some_iff.1 hv;by_cases h0:j % z.size<z.size
 ·exact hz _ _ (by rw[getElem!_pos z _ h0];exact as' h0)
 ·rw[getElem!_neg z _ h0];rfl
theorem holds_run (a:Addr)(n:Nat)(w:World):∃ b,(Builtin.holdsCells a n).run P w=.ok b w:=by
 unfold Builtin.holdsCells;simp only[Sem.run_bind,run_shape,Result.andThen_ok];cases w.shape? a.block with
 | none=>exact⟨_,rfl⟩
 | some x=>exact⟨_,rfl⟩
theorem share_run (size sLen n:Nat)(base:Option Addr)(x:Value)(w:World):∃ b,(Builtin.mayShare size sLen n base x).run P w=.ok b w:=by
 unfold Builtin.mayShare;have jp:∀ there:Bool,∃ b,(if (!there)=true then Pure.pure true else match x with
   | .slice (some b) _ _=>do Pure.pure (!(← Builtin.holdsCells b (n*size))||base.any (·.block==b.block))
   | _=>Pure.pure false:Sem Bool).run P w=.ok b w:=by
  intro there;cases there with
  | false=>exact⟨_,rfl⟩
  | true =>
   simp only[Bool.not_true,Bool.false_eq_true,if_false];cases x with
   | slice a l c =>
    cases a with
    | none=>exact⟨_,rfl⟩
    | some a =>
     obtain⟨b,hb⟩:=holds_run (P:=P) a (n*size) w;simp only[Sem.run_bind,hb,Result.andThen_ok];exact⟨_,rfl⟩
   | _=>exact⟨_,rfl⟩
 cases base with
 | none=>exact jp true
 | some a =>
  obtain⟨b,hb⟩:=holds_run (P:=P) a (sLen*size) w;simp only[Sem.run_bind,hb,Result.andThen_ok,run_frozen,Sem.run_pure];exact jp _
theorem Sim.append (ats:Array TypeId)(hZ:∀ t,ats[0]?=some t→flatEl P t=true)(ty:TypeId){c C:Array Value}(h:ARel ρ c C)(hm:∀ t k,ats[1]?=some t→P.underlying t≠some (.int k)):Sim P VRel ρ (Builtin.append_ ats ty c) (Builtin.append_ ats ty C):=by
 unfold Builtin.append_;cases hat0:ats[0]? with
 | none=>exact Sim.stuck
 | some t =>
  cases hc:c[0]? with
  | none=>exact Sim.stuck
  | some s =>
   cases hc1:c[1]? with
   | none=>exact Sim.stuck
   | some x =>
    obtain⟨S,hS,hs⟩:=h.get hc;obtain⟨X,hX,hx⟩:=h.get hc1;rw[hS,hX];dsimp only;refine Sim.bind (Sim.underlying t) ?_;rintro σ d _ hl ⟨rfl,hu⟩;cases d with
    | slice e =>
     dsimp only;have hs':=hs.mono hl;have hx':=hx.mono hl;have hb:(∃ base len cap BASE,s=.slice base len cap∧S=.slice BASE len cap∧(base=none∧BASE=none∨∃ a A,base=some a∧BASE=some A∧(ADRel σ a A∨len=0∧cap=0)))∨∀ base len cap,s≠.slice base len cap:=by
      cases hs' with
      | flat hf =>
       cases s with
       | slice a l c =>
        cases a with
        | none=>exact .inl ⟨_,_,_,_,rfl,rfl,.inl ⟨rfl,rfl⟩⟩
        | some a=>simp[Lift.flat] at hf
       | _=>exact .inr (by simp)
      | slice hb=>exact .inl ⟨_,_,_,_,rfl,rfl,.inr ⟨_,_,rfl,rfl,.inl (ADRel.of hb)⟩⟩
      | void=>exact .inl ⟨_,_,_,_,rfl,rfl,.inr ⟨_,_,rfl,rfl,.inr ⟨rfl,rfl⟩⟩⟩
      | hole h=>exact .inr (fun _ _ _ e=>by cases e)
      | meth=>exact .inr (fun _ _ _ e=>by cases e)
      | _=>exact .inr (by simp)
     clear hs hx hS hX hc hc1 h;rcases hb with⟨base,sLen,sCap,BASE,rfl,rfl,hbb⟩ | hno
     ·dsimp only
      refine Sim.bind (Sim.sizeOf e) ?_;rintro σ2 size _ hl2 rfl;cases hat:ats[1]? with
      | none =>
       dsimp only;refine Sim.bind (Q:=fun _ a b=>a=false∧b=false) (Sim.pure' ⟨rfl,rfl⟩) ?_;rintro τ _ _ ht0 ⟨rfl,rfl⟩;have ht:=Ren.le_trans hl2 ht0;refine Sim.ite (fun h=>by simp at h) (fun _=>?_);refine Sim.bind (Sim.lenOf (hx'.mono ht)) ?_;rintro τ2 n _ ht2 ⟨rfl,hn0⟩;refine Sim.ite (fun hle=>?_) (fun _=>?_)
       ·by_cases hz:sLen=0∧sCap=0
        ·obtain⟨rfl,rfl⟩:=hz
         obtain rfl:n=0:=by omega
         refine Sim.bind (Sim.ite (fun _=>Sim.firstCells0 size ((hx'.mono ht).mono ht2)) (fun h=>by simp at h)) ?_;rintro τ3 _ _ ht3 ⟨rfl,rfl⟩;rcases hbb with⟨rfl,rfl⟩ | ⟨a,A,rfl,rfl,ha⟩
         ·exact Sim.pure' (.flat rfl)
         ·exact Sim.bind (Q:=fun _ _ _=>True) (Sim.pure' trivial) fun τ4 _ _ ht4 _=>Sim.pure' .void
        refine Sim.bind (Sim.ite (fun _=>Sim.firstCells size n ((hx'.mono ht).mono ht2) hn0) (fun h=>by simp at h)) ?_;intro τ3 new NEW ht3 hnew;rcases hbb with⟨rfl,rfl⟩ | ⟨a,A,rfl,rfl,ha⟩
        ·exact Sim.pure' (.flat rfl)
        ·have ha:=ha.resolve_right hz
         have ha':=((ha.mono ht).mono ht2).mono ht3;have hA:=ha'.add (sLen*size);dsimp only;generalize a.add (sLen*size)=p at *;generalize A.add (sLen*size)=q at *;obtain⟨b,o,s⟩:=p;obtain⟨B,O,S⟩:=q;obtain⟨q1,q2,q3⟩:=hA;simp only at q1 q2 q3;subst q2 q3;refine Sim.bind (Sim.storeCells _ _ 0 τ3 q1 hnew.list) ?_;intro τ4 _ _ ht4 _;exact Sim.pure' ((ha'.mono ht4).slice _ _)
       ·refine Sim.bind (Sim.typeInfo e) ?_
        rintro τ3 i _ ht3 ⟨rfl,_⟩;refine Sim.ite (fun _=>Sim.bind (Q:=fun _ _ _=>False) (Sim.runtimePanic (by simp) (by simp) (by simp)) (fun _ _ _ _ h=>h.elim)) (fun _=>?_);refine Sim.bind (Sim.typeInfo e) ?_;rintro τ4 i2 _ ht4 ⟨rfl,_⟩;refine Sim.ite (fun _=>?_) (fun _=>?_)
        ·refine Sim.halts fun w=>?_
         obtain⟨b,hb⟩:=share_run (P:=P) size sLen n base x w;refine⟨.unsupported (.resourceLimit "append: a slice or a string whose bytes no memory bears"),w,?_,by simp⟩;cases b with
         | false=>simp[hb,Go.unsupported,Sem.run]
         | true=>simp[hb,Go.unsupported,Sem.run]
        ·refine Sim.bind Sim.choose ?_
         rintro τ5 cap _ ht5 rfl;refine Sim.bind (Sim.typeInfo e) ?_;rintro τ6 i3 _ ht6 ⟨rfl,_⟩;refine Sim.bind (Sim.askRoom _) ?_;intro τ7 _ _ ht7 _;have up:=Ren.le_trans ht (Ren.le_trans ht2 (Ren.le_trans ht3 (Ren.le_trans ht4 (Ren.le_trans ht5 (Ren.le_trans ht6 ht7)))));refine Sim.bind (Sim.firstCells size sLen (hs'.mono up) (fun h=>vd_len h)) ?_;intro τ8 old OLD ht8 hold;refine Sim.bind (Sim.ite (fun _=>Sim.firstCells size n ((hx'.mono up).mono ht8) hn0) (fun h=>by simp at h)) ?_;intro τ9 new NEW ht9 hnew;refine Sim.bind (Sim.zeroValue e (flatEl_elem (hZ _ hat0) hu)) ?_;rintro τ10 z _ ht10 ⟨rfl,hz⟩;refine Sim.bind (Sim.newRow e ((((hold.mono ht9).mono ht10).append (hnew.mono ht10)).append (zero_flat hz _))) ?_;rintro τ11 _ _ ht11 ⟨y,Y,hy,rfl,rfl⟩;exact Sim.pure' (.slice hy)
      | some t1 =>
       dsimp only;refine Sim.bind (Sim.underlying t1) ?_;rintro τ0 d1 _ ht00 ⟨rfl,hd1⟩;refine Sim.bind (Q:=fun _ a b=>a=false∧b=false) ?_ ?_
       ·cases d1<;>first | exact absurd hd1 (hm t1 _ hat) | exact Sim.pure' ⟨rfl,rfl⟩
       rintro τ _ _ ht0 ⟨rfl,rfl⟩;have ht:=Ren.le_trans hl2 (Ren.le_trans ht00 ht0);refine Sim.ite (fun h=>by simp at h) (fun _=>?_);refine Sim.bind (Sim.lenOf (hx'.mono ht)) ?_;rintro τ2 n _ ht2 ⟨rfl,hn0⟩;refine Sim.ite (fun hle=>?_) (fun _=>?_)
       ·by_cases hz:sLen=0∧sCap=0
        ·obtain⟨rfl,rfl⟩:=hz
         obtain rfl:n=0:=by omega
         refine Sim.bind (Sim.ite (fun _=>Sim.firstCells0 size ((hx'.mono ht).mono ht2)) (fun h=>by simp at h)) ?_;rintro τ3 _ _ ht3 ⟨rfl,rfl⟩;rcases hbb with⟨rfl,rfl⟩ | ⟨a,A,rfl,rfl,ha⟩
         ·exact Sim.pure' (.flat rfl)
         ·exact Sim.bind (Q:=fun _ _ _=>True) (Sim.pure' trivial) fun τ4 _ _ ht4 _=>Sim.pure' .void
        refine Sim.bind (Sim.ite (fun _=>Sim.firstCells size n ((hx'.mono ht).mono ht2) hn0) (fun h=>by simp at h)) ?_;intro τ3 new NEW ht3 hnew;rcases hbb with⟨rfl,rfl⟩ | ⟨a,A,rfl,rfl,ha⟩
        ·exact Sim.pure' (.flat rfl)
        ·have ha:=ha.resolve_right hz
         have ha':=((ha.mono ht).mono ht2).mono ht3;have hA:=ha'.add (sLen*size);dsimp only;generalize a.add (sLen*size)=p at *;generalize A.add (sLen*size)=q at *;obtain⟨b,o,s⟩:=p;obtain⟨B,O,S⟩:=q;obtain⟨q1,q2,q3⟩:=hA;simp only at q1 q2 q3;subst q2 q3;refine Sim.bind (Sim.storeCells _ _ 0 τ3 q1 hnew.list) ?_;intro τ4 _ _ ht4 _;exact Sim.pure' ((ha'.mono ht4).slice _ _)
       ·refine Sim.bind (Sim.typeInfo e) ?_
        rintro τ3 i _ ht3 ⟨rfl,_⟩;refine Sim.ite (fun _=>Sim.bind (Q:=fun _ _ _=>False) (Sim.runtimePanic (by simp) (by simp) (by simp)) (fun _ _ _ _ h=>h.elim)) (fun _=>?_);refine Sim.bind (Sim.typeInfo e) ?_;rintro τ4 i2 _ ht4 ⟨rfl,_⟩;refine Sim.ite (fun _=>?_) (fun _=>?_)
        ·refine Sim.halts fun w=>?_
         obtain⟨b,hb⟩:=share_run (P:=P) size sLen n base x w;refine⟨.unsupported (.resourceLimit "append: a slice or a string whose bytes no memory bears"),w,?_,by simp⟩;cases b with
         | false=>simp[hb,Go.unsupported,Sem.run]
         | true=>simp[hb,Go.unsupported,Sem.run]
        ·refine Sim.bind Sim.choose ?_
         rintro τ5 cap _ ht5 rfl;refine Sim.bind (Sim.typeInfo e) ?_;rintro τ6 i3 _ ht6 ⟨rfl,_⟩;refine Sim.bind (Sim.askRoom _) ?_;intro τ7 _ _ ht7 _;have up:=Ren.le_trans ht (Ren.le_trans ht2 (Ren.le_trans ht3 (Ren.le_trans ht4 (Ren.le_trans ht5 (Ren.le_trans ht6 ht7)))));refine Sim.bind (Sim.firstCells size sLen (hs'.mono up) (fun h=>vd_len h)) ?_;intro τ8 old OLD ht8 hold;refine Sim.bind (Sim.ite (fun _=>Sim.firstCells size n ((hx'.mono up).mono ht8) hn0) (fun h=>by simp at h)) ?_;intro τ9 new NEW ht9 hnew;refine Sim.bind (Sim.zeroValue e (flatEl_elem (hZ _ hat0) hu)) ?_;rintro τ10 z _ ht10 ⟨rfl,hz⟩;refine Sim.bind (Sim.newRow e ((((hold.mono ht9).mono ht10).append (hnew.mono ht10)).append (zero_flat hz _))) ?_;rintro τ11 _ _ ht11 ⟨y,Y,hy,rfl,rfl⟩;exact Sim.pure' (.slice hy)
     ·cases s<;>first | exact Sim.stuck | exact absurd rfl (hno _ _ _)
    | _=>exact Sim.stuck
end
structure Fits (P:Program):Prop where
 hG:P.globals.size=GN
 hF:∀ f,okF f=true→∃ fn c,P.funcs[f]?=some fn∧fn.body=some c∧(fn.name == "runtime.NumGoroutine")=false
 hT:∀ i,P.info? 1000000=some i→i.methods.find? (·.name == "")=none
 hX:∀ f,okX f=true→∃ fn,P.funcs[f]?=some fn∧(fn.name == "runtime.NumGoroutine")=false∧fn.body=none∧Extern.findNext fn=none∧(Extern.find fn=some Extern.MathFloatBits.float64bits∨Extern.find fn=some Extern.MathFloatBits.float64frombits)
 hD:1<P.depth
def okO:Operand→Bool
 | .tmp _=>true
 | .const v=>flat v
 | .func f=>okF f
 | .global _=>false
def okOO:Option Operand→Bool
 | none=>true
 | some x=>okO x
def okLen (P:Program)(ats:Array TypeId):Bool:=match ats[0]? with
 | some t=>match P.underlying t with
  | some (.map _ _) | some (.chan _ _)=>false
  | _=>true
 | none=>true
def okApp0 (P:Program)(ats:Array TypeId):Bool:=match ats[0]? with
 | some t=>flatEl P t
 | none=>true
def okApp (P:Program)(ats:Array TypeId):Bool:=okApp0 P ats&&match ats[1]? with
 | some t=>match P.underlying t with
  | some (.int _)=>false
  | _=>true
 | none=>true
def okCall (P:Program)(c:Call):Bool:=c.args.all okO&&match c.callee with
 | .builtin .len=>okLen P c.argTypes
 | .builtin .append=>okApp P c.argTypes
 | .builtin .recover=>true
 | .value (.func f)=>okF f||okX f
 | .value f=>okO f
 | _=>false
def okDefer (c:Call):Bool:=c.args.all okO&&match c.callee with
 | .value f=>okO f
 | _=>false
def isEq:BinOp→Bool
 | .eql | .neq=>true
 | _=>false
def isNot:UnOp→Bool
 | .not=>true
 | _=>false
def okOp (P:Program):Op→Bool
 | .move x | .assign x=>okO x
 | .pick c a b=>okO c&&okO a&&okO b
 | .alloc t=>flatTy P t
 | .box _ x=>okO x
 | .build t parts=>flatTy P t&&parts.all (fun p=>okO p.2)
 | .buildSlice t _ parts=>flatEl P t&&parts.all (fun p=>okO p.2)
 | .load _ a=>okO a
 | .store _ a x=>okO a&&okO x
 | .nilCheck x=>okO x
 | .binOp op t x y _=>okO x&&okO y&&(plainTy P t||(isEq op&&(nilOp y||arrTy P t)))
 | .index _ x i=>okO x&&okO i
 | .unOp op _ x=>isNot op&&okO x
 | .convert s d x=>intTy P s&&intTy P d&&okO x
 | .makeInterface _ x=>okO x
 | .makeFunc fn a b=>okFn fn&&a.all okO&&b.all okO
 | .makeChan _ s=>okO s
 | .makeSlice t l c=>flatEl P t&&(okO l&&okO c)
 | .slice _ x lo hi mx=>okO x&&okOO lo&&okOO hi&&okOO mx
 | .fieldAddr _ x _=>okO x
 | .indexAddr _ x i=>okO x&&okO i
 | .extract t _=>okO t
 | .call c=>okCall P c
 | .defer c=>okDefer c
 | .send ch x=>okO ch&&okO x
 | .recv _ ch _=>okO ch
 | .panic x=>okO x
 | .go c=>okDefer c
 | _=>false
inductive TRel (ρ:Ren):Target→Target→Prop
 | fn {f:FuncId} {c C:Array Value}:okF f=true→ARel ρ c C→TRel ρ (.fn (.func f) c) (.fn (.func f) C)
 | nil:TRel ρ .nil .nil
 | dull {n:String} {c:Array Value}:TRel ρ (.fn (.method "") #[]) (.fn (.method n) c)
theorem TRel.mono {ρ σ:Ren}(hl:ρ.le σ){a b:Target}(h:TRel ρ a b):TRel σ a b:=by
 cases h with
 | fn h1 h2=>exact .fn h1 (h2.mono hl)
 | nil=>exact .nil
 | dull=>exact .dull
structure DRel (ρ:Ren)(d D:Deferred):Prop where
 tg:TRel ρ d.target D.target
 args:(∃ c,d.target=.fn (.method "") c)∧d.args[0]?=some (.iface 1000000 undef)∨(∀ n c,d.target≠.fn (.method n) c)∧ARel ρ d.args D.args
theorem DRel.mono {ρ σ:Ren}(hl:ρ.le σ){a b:Deferred}(h:DRel ρ a b):DRel σ a b:=⟨h.tg.mono hl,h.args.imp id fun h=>⟨h.1,h.2.mono hl⟩⟩
structure CRel (ρ:Ren)(c C:CommCase):Prop where
 chan:VRel ρ c.chan C.chan
 send:OVRel ρ c.send C.send
 zero:c.zero=C.zero
inductive XRel (ρ:Ren):Next→Next→Prop
 | value {v V:Value}:VRel ρ v V→XRel ρ (.value v) (.value V)
 | skip:XRel ρ .skip .skip
 | enter {f:FuncId} {a A:Array Value}:okF f=true→ARel ρ a A→XRel ρ (.enter f a) (.enter f A)
 | defer {d D:Deferred}:DRel ρ d D→XRel ρ (.defer d) (.defer D)
 | recover:XRel ρ .recover .recover
 | spawn {d D:Deferred}:DRel ρ d D→XRel ρ (.spawn d) (.spawn D)
 | comm {c C:CommCase} {s:CommShape}:CRel ρ c C→XRel ρ (.comm #[c] true s) (.comm #[C] true s)
section
variable {P:Program}{ρ:Ren}{a A:Act}
theorem ARel.getD {c C:Array Value}(h:ARel ρ c C)(i:Nat):VRel ρ (c.getD i undef) (C.getD i undef):=by
 rcases Nat.lt_or_ge i c.size with q | q
 ·have q':i<C.size:=by rw[← h.1];exact q
  have e1:c.getD i undef=c[i]:=by simp[Array.getD,q]
  have e2:C.getD i undef=C[i]:=by simp[Array.getD,q']
  rw[e1,e2];exact h.2 i _ _ (as' q) (as' q')
 ·have q':C.size≤i:=by rw[← h.1];exact q
  have e1:c.getD i undef=undef:=by simp[Array.getD,Nat.not_lt.2 q]
  have e2:C.getD i undef=undef:=by simp[Array.getD,Nat.not_lt.2 q']
  rw[e1,e2];exact VRel.tuple' ARel.nil
theorem eval_rel (h:ARel ρ a.tmps A.tmps){x:Operand}(hx:okO x=true):VRel ρ (a.eval x) (A.eval x):=by
 cases x with
 | tmp t=>exact h.getD t
 | const v=>exact .flat hx
 | func f=>exact .func hx rfl (fun i v V h _=>by simp at h) rfl (fun i v V h _=>by simp at h)
 | global g=>cases hx
theorem evals_rel (h:ARel ρ a.tmps A.tmps){xs:Array Operand}(hx:xs.all okO=true):ARel ρ (xs.map a.eval) (xs.map A.eval):=by
 refine⟨by simp,fun i v V h1 h2=>?_⟩;rw[Array.getElem?_map] at h1 h2;obtain⟨x,e,rfl⟩:=Option.map_eq_some_iff.1 h1;rw[e] at h2;cases h2;have:=Array.all_eq_true.1 hx i (aq' e).1;rw[(aq' e).2] at this;exact eval_rel h this
theorem parts_rel (h:ARel ρ a.tmps A.tmps){xs:Array (Nat × Operand)}(hx:xs.all (fun p=>okO p.2)=true):PRel ρ (xs.map fun(i,x)=>(i,a.eval x)) (xs.map fun(i,x)=>(i,A.eval x)):=by
 refine⟨by simp,fun i v V h1 h2=>?_⟩;rw[Array.getElem?_map] at h1 h2;obtain⟨x,e,rfl⟩:=Option.map_eq_some_iff.1 h1;rw[e] at h2;cases h2;have:=Array.all_eq_true.1 hx i (aq' e).1;rw[(aq' e).2] at this;exact⟨rfl,eval_rel h this⟩
theorem opt_rel (h:ARel ρ a.tmps A.tmps){x:Option Operand}(hx:okOO x=true):OVRel ρ (x.map a.eval) (x.map A.eval):=by
 cases x with
 | none=>trivial
 | some x=>exact eval_rel h hx
theorem Sim.asBool {v V:Value}(h:VRel ρ v V):Sim P (fun _ a b=>a=b) ρ (Go.asBool v) (Go.asBool V):=by
 cases h with
 | flat hf=>cases v<;>first | exact Sim.stuck | exact Sim.pure' rfl
 | _=>exact Sim.stuck
theorem Sim.nil0:Sim P XRel ρ (Go.runtimePanic .nilDeref) (Go.runtimePanic .nilDeref):=Sim.runtimePanic (by simp) (by simp) (by simp)
theorem Sim.callFunc (hP:Fits P){f:FuncId}(hf:okF f=true){c C:Array Value}(h:ARel ρ c C):Sim P XRel ρ (Go.callFunc f c) (Go.callFunc f C):=by
 obtain⟨fn,b,h1,h2,h3⟩:=hP.hF f hf;unfold Go.callFunc;refine Sim.bind (Sim.program (Q:=fun _ a b=>a=P∧b=P) ⟨rfl,rfl⟩) ?_;rintro σ p q hl ⟨rfl,rfl⟩;rw[h1];dsimp only;rw[h3,h2];exact Sim.pure' (.enter hf (h.mono hl))
theorem Sim.markX (f:FuncId):Sim P (fun _ _ _=>True) ρ (Go.mark (.extern f)) (Go.mark (.extern f)):=by
 refine⟨?_,fun w W hw hq=>Lok.still (r:=.ok () w) rfl rfl rfl fun _ _=>rfl⟩;intro w W ES hw;exact⟨(),W,ρ,#[⟨.mark (.extern f),false,true⟩],rfl,Went.look hw (fun e he=>by
  simp only[List.mem_toArray,List.mem_cons,List.not_mem_nil,or_false] at he;subst he;exact .inr (.inr (.inr ⟨f,rfl⟩))),trivial⟩
theorem ARel.one' {c C:Array Value}(h:ARel ρ c C):(∃ v V,c=#[v]∧C=#[V]∧VRel ρ v V)∨(c.size≠1∧C.size≠1):=by
 by_cases e:c.size=1
 ·have e2:C.size=1:=by rw[← h.1];exact e
  refine .inl ⟨c[0],C[0],?_,?_,h.2 0 _ _ (as' _) (as' _)⟩
  ·apply Array.ext (by simp[e]);intro i h1 h2;have:i=0:=by omega
   subst this;rfl
  ·apply Array.ext (by simp[e2]);intro i h1 h2;have:i=0:=by omega
   subst this;rfl
 ·exact .inr ⟨e,by rw[← h.1];exact e⟩
theorem Sim.bits {c C:Array Value}(h:ARel ρ c C):Sim P VRel ρ (Extern.MathFloatBits.float64bits c) (Extern.MathFloatBits.float64bits C):=by
 rcases h.one' with⟨v,V,rfl,rfl,hv⟩ | ⟨h1,h2⟩
 ·cases hv with
  | flat hf =>
   cases v<;>first | exact Sim.stuck | skip
   rename_i k n;cases k
   ·exact Sim.stuck
   ·exact Sim.pure' (.flat rfl)
  | _=>exact Sim.stuck
 ·have:Extern.MathFloatBits.float64bits c=Go.stuck "math.Float64bits: a float64 expected" := by
   obtain⟨l⟩:=c
   match l,h1 with
   | [],_=>rfl
   | [_],h1=>exact absurd rfl h1
   | _::_::_,_=>rfl
  rw[this];exact Sim.stuck
theorem Sim.ofBits {c C:Array Value}(h:ARel ρ c C):Sim P VRel ρ (Extern.MathFloatBits.float64frombits c) (Extern.MathFloatBits.float64frombits C):=by
 rcases h.one' with⟨v,V,rfl,rfl,hv⟩ | ⟨h1,h2⟩
 ·cases hv with
  | flat hf =>
   cases v<;>first | exact Sim.stuck | skip
   rename_i k n;cases k<;>first | exact Sim.stuck | exact Sim.pure' (.flat rfl)
  | _=>exact Sim.stuck
 ·have:Extern.MathFloatBits.float64frombits c=Go.stuck "math.Float64frombits: a uint64 expected" := by
   obtain⟨l⟩:=c
   match l,h1 with
   | [],_=>rfl
   | [_],h1=>exact absurd rfl h1
   | _::_::_,_=>rfl
  rw[this];exact Sim.stuck
theorem Sim.callX (hP:Fits P){f:FuncId}(hf:okX f=true){c C:Array Value}(h:ARel ρ c C):Sim P XRel ρ (Go.callFunc f c) (Go.callFunc f C):=by
 obtain⟨fn,h1,h2,h3,h4,h5⟩:=hP.hX f hf;unfold Go.callFunc;refine Sim.bind (Sim.program (Q:=fun _ a b=>a=P∧b=P) ⟨rfl,rfl⟩) ?_;rintro σ p q hl ⟨rfl,rfl⟩;rw[h1];dsimp only;rw[h2,h3];refine Sim.bind (Sim.markX f) ?_;intro σ2 _ _ hl2 _;rw[h4];have h':=(h.mono hl).mono hl2;rcases h5 with h5 | h5
 ·rw[h5]
  refine Sim.bind (Sim.bits h') ?_;intro σ3 v V hl3 hv;exact Sim.pure' (.value hv)
 ·rw[h5]
  refine Sim.bind (Sim.ofBits h') ?_;intro σ3 v V hl3 hv;exact Sim.pure' (.value hv)
theorem Sim.value {s S:Sem Value}(h:Sim P VRel ρ s S):Sim P XRel ρ (do Pure.pure (Next.value (← s))) (do Pure.pure (Next.value (← S))) :=
 Sim.bind h fun _ _ _ _ hv=>Sim.pure' (.value hv)
theorem Sim.unit {s S:Sem Unit}(h:Sim P (fun _ _ _=>True) ρ s S):Sim P XRel ρ (do s;Pure.pure Next.skip) (do S;Pure.pure Next.skip) :=
 Sim.bind h fun _ _ _ _ _=>Sim.pure' .skip
theorem run_program {w:World}:Go.program.run P w=.ok P w:=rfl
theorem typeInfo_dull (hP:Fits P)(w:World):(∃ m,(Go.typeInfo 1000000).run P w=.halt (.stuck m) w)∨∃ i,(Go.typeInfo 1000000).run P w=.ok i w∧i.methods.find? (·.name == "")=none:=by
 unfold Go.typeInfo;rw[run_bind,run_program];dsimp only;cases e:P.info? 1000000 with
 | none=>exact .inl ⟨_,rfl⟩
 | some i=>exact .inr ⟨i,rfl,hP.hT i e⟩
theorem method_dull (hP:Fits P)(w:World):∀ n,∃ k w',(Go.method n 1000000 undef "").run P w=.halt k w'∧quiet k=true
 | 0=>⟨_,_,rfl,rfl⟩
 | n+1=>by
  unfold Go.method;rw[run_bind];rcases typeInfo_dull hP w with⟨m,e⟩ | ⟨i,e,h⟩
  ·rw[e];exact⟨_,_,rfl,rfl⟩
  ·rw[e];dsimp only;rw[h];exact⟨_,_,rfl,rfl⟩
theorem invoke_dull (hP:Fits P)(w:World){c a:Array Value}(h:a[0]?=some (.iface 1000000 undef)):∃ k w',(Go.invoke (.fn (.method "") c) a).run P w=.halt k w'∧quiet k=true:=by
 unfold Go.invoke;dsimp only;rw[h];dsimp only;unfold Go.callMethod;dsimp only;rw[run_bind,run_program];dsimp only;rw[run_bind];obtain⟨k,w',e,hk⟩:=method_dull hP w (P.types.size+Made.depth);rw[e];exact⟨_,_,rfl,hk⟩
theorem nilAhead_dull (hP:Fits P)(w:World):∀ n,∃ k w',((Go.nilAhead n 1000000 undef "").run P w=.halt k w'∨(Go.nilAhead n 1000000 undef "").run P w=.ok none w)∧quiet k=true
 | 0=>⟨.stuck "",w,.inr rfl,rfl⟩
 | n+1=>by
  unfold Go.nilAhead;rw[run_bind];rcases typeInfo_dull hP w with⟨m,e⟩ | ⟨i,e,h⟩
  ·rw[e];exact⟨_,_,.inl rfl,rfl⟩
  ·rw[e];dsimp only;rw[h];exact⟨_,_,.inl rfl,rfl⟩
theorem Sim.ofValue {f F:Value}(hf:VRel ρ f F){c C:Array Value}(h:ARel ρ c C):Sim P DRel ρ (Deferred.ofValue f c) (Deferred.ofValue F C):=by
 cases hf with
 | @func fn x X y Y h0 h1 h2 h3 h4 =>
  cases fn<;>first | (simp[okFn] at h0;done) | skip
  exact Sim.pure' ⟨.fn h0 ⟨h3,h4⟩,.inr ⟨(by simp),ARel.append ⟨h1,h2⟩ h⟩⟩
 | flat hf=>cases f<;>first | exact Sim.stuck | exact Sim.pure' ⟨.nil,.inr ⟨(by simp),h⟩⟩ | (simp[Lift.flat] at hf;done)
 | meth=>exact Sim.pure' ⟨.dull,.inl ⟨⟨_,rfl⟩,by simp[Array.getElem?_append]⟩⟩
 | _=>exact Sim.stuck
theorem Sim.invokeFn (hP:Fits P){d D:Deferred}(h:DRel ρ d D):Sim P XRel ρ (Go.invoke d.target d.args) (Go.invoke D.target D.args):=by
 obtain⟨t,c⟩:=d;obtain⟨T,C⟩:=D;obtain⟨h1,h2⟩:=h;simp only at h1 h2 ⊢;cases h1 with
 | fn hf hc=>exact Sim.callFunc hP hf ((h2.resolve_left (by simp)).2.append hc)
 | nil=>exact Sim.nil0
 | dull=>exact Sim.halts fun w=>invoke_dull hP w (h2.resolve_right (by simp)).2
theorem Sim.call (hP:Fits P)(c:Call)(t:TypeId)(h:ARel ρ a.tmps A.tmps)(hc:okCall P c=true):Sim P XRel ρ (do let d ← Go.resolve a.eval c t;Go.invoke d.target d.args) (do let d ← Go.resolve A.eval c t;Go.invoke d.target d.args):=by
 unfold okCall at hc;rw[Bool.and_eq_true] at hc;obtain⟨h1,h2⟩:=hc;have ha:=evals_rel h h1;unfold Go.resolve;cases hcl:c.callee with
 | builtin b =>
  rw[hcl] at h2;cases b<;>first | (simp at h2;done) | skip
  case append =>
   have h2':okApp0 P c.argTypes=true∧(match c.argTypes[1]? with | some t=>(match P.underlying t with | some (.int _)=>false | _=>true) | none=>true)=true:=by
    have:okApp P c.argTypes=true:=h2;unfold okApp at this
    rwa [Bool.and_eq_true] at this
   refine Sim.value (Sim.append c.argTypes (fun t h3=>?_) t ha fun t k h3 h4=>?_)
   ·have h5:=h2'.1
    unfold okApp0 at h5;rw[h3] at h5;exact h5
   ·have h5:=h2'.2
    simp only[h3,h4] at h5;cases h5
  case len =>
   refine Sim.value (Sim.len c.argTypes t ha fun t d h3 h4=>?_);simp only[okLen,h3,h4] at h2;refine⟨fun k e hd=>?_,fun k e hd=>?_⟩
   ·subst hd;cases h2
   ·subst hd;cases h2
  case recover=>exact Sim.pure' .recover
 | value f =>
  rw[hcl] at h2;by_cases hx:∃ g,f=.func g∧okX g=true
  ·obtain⟨g,rfl,hg⟩:=hx
   have:=Sim.callX hP hg ha;have e:∀ (b:Act),(do let d ← Deferred.ofValue (b.eval (.func g)) (c.args.map b.eval);Go.invoke d.target d.args)=Go.callFunc g (c.args.map b.eval):=fun b=>by
    show Go.callFunc g (#[]++c.args.map b.eval++#[])=_;simp
   dsimp only;rw[e,e];exact this
  have h2:okO f=true:=by
   cases f<;>first | exact h2 | skip
   rename_i g;have h3:(okF g||okX g)=true:=h2;rw[Bool.or_eq_true] at h3;exact h3.resolve_right fun k=>hx ⟨g,rfl,k⟩
  refine Sim.bind (Sim.ofValue (eval_rel h h2) ha) ?_;rintro σ d D hl hd;exact Sim.invokeFn hP hd
 | invoke r n=>rw[hcl] at h2;cases h2
theorem Sim.execOp (hP:Fits P)(o:Oper)(h:ARel ρ a.tmps A.tmps)(ho:okOp P o.op=true)(hp:∀ x,o.op=.panic x→a.eval x≠.nilIface):Sim P XRel ρ (Go.execOp a.eval o) (Go.execOp A.eval o):=by
 unfold Go.execOp;cases e:o.op<;>rw[e] at ho<;>simp only[okOp,Bool.and_eq_true,Bool.or_eq_true] at ho<;>first | (cases ho;done) | skip
 case move x=>exact Sim.pure' (.value (eval_rel h ho))
 case assign x=>exact Sim.pure' (.value (eval_rel h ho))
 case pick c x y =>
  refine Sim.bind (Sim.asBool (eval_rel h ho.1.1)) ?_;rintro σ b _ hl rfl;refine Sim.pure' (.value ?_);split
  ·exact(eval_rel h ho.1.2).mono hl
  ·exact(eval_rel h ho.2).mono hl
 case alloc t=>exact Sim.value (Sim.alloc t ho)
 case box t x=>exact Sim.value (Sim.box t (eval_rel h ho))
 case build t ps=>exact Sim.value (Sim.build t ho.1 (parts_rel h ho.2))
 case buildSlice t n ps=>exact Sim.value (Sim.buildSlice t ho.1 n (parts_rel h ho.2))
 case load t x=>exact Sim.value (Sim.loadAt t (eval_rel h ho))
 case store t x y=>exact Sim.unit (Sim.storeAt t (eval_rel h ho.1) (eval_rel h ho.2))
 case nilCheck x =>
  have hv:=eval_rel h ho;dsimp only;generalize a.eval x=v at hv ⊢;generalize A.eval x=V at hv ⊢;cases hv with
  | flat hf =>
   cases v<;>first | (simp[Lift.flat] at hf;done) | exact Sim.pure' (.value (.flat hf)) | exact Sim.nil0 | (rename_i p;cases p<;>first | exact Sim.nil0 | exact Sim.pure' (XRel.value (VRel.flat hf)))
  | @func fn x X y Y h0 h1 h2 h3 h4 =>
   cases fn<;>first | (simp[okFn] at h0;done) | exact Sim.pure' (.value (.func h0 h1 h2 h3 h4))
  | pointer hb=>exact Sim.pure' (.value (.pointer hb))
  | slice hb=>exact Sim.pure' (.value (.slice hb))
  | void=>exact Sim.pure' (.value .void)
  | chan hb=>exact Sim.pure' (.value (.chan hb))
  | iface hb=>exact Sim.pure' (.value (.iface hb))
  | agg h1 h2=>exact Sim.pure' (.value (.agg h1 h2))
  | tuple h1 h2=>exact Sim.pure' (.value (.tuple h1 h2))
  | meth =>
   refine Sim.halts fun w=>?_;dsimp only[dull];rw[show(#[Value.iface 1000000 undef]:Array Value)[0]?=some (.iface 1000000 undef) from rfl];dsimp only;rw[run_bind];simp only[run_bind,run_program];obtain⟨k,w',e,hk⟩:=nilAhead_dull hP w (P.types.size+Made.depth);rcases e with e | e
   ·rw[e];exact⟨_,_,rfl,hk⟩
   ·rw[e];exact⟨_,_,rfl,rfl⟩
  | hole hb =>
   cases V<;>first | (cases hb;done) | exact Sim.pure' (XRel.value (VRel.hole hb)) | (rename_i p;cases p<;>first | (cases hb;done) | exact Sim.pure' (XRel.value (VRel.hole hb))) | (rename_i p _ _;cases p<;>first | (cases hb;done) | exact Sim.pure' (XRel.value (VRel.hole hb)))
 case binOp op t x y yt =>
  obtain⟨⟨h1,h2⟩,h3⟩:=ho;refine Sim.value ?_;have hy:nilOp y=true→nilV (a.eval y)=true:=fun q=>by
   cases y<;>first | (cases q;done) | exact q
  have heq:isEq op=true→op=.eql∨op=.neq:=fun q=>by cases op<;>first | exact .inl rfl | exact .inr rfl | (cases q;done)
  by_cases hA:isEq op=true∧arrTy P t=true
  ·refine Sim.bind (Sim.eqGuardArr op t x y (eval_rel h h1) (eval_rel h h2) hA.2 hP.hD) ?_
   intro σ _ _ hl _;exact Sim.binOpArr hP.hG op (heq hA.1) t ((eval_rel h h1).mono hl) ((eval_rel h h2).mono hl) hA.2
  have h3:plainTy P t=true∨(isEq op=true∧nilOp y=true):=h3.imp id fun q=>⟨q.1,q.2.resolve_right fun k=>hA ⟨q.1,k⟩⟩;refine Sim.bind (Sim.eqGuard op t x y (eval_rel h h1) (eval_rel h h2) (h3.imp id (·.2)) hy) ?_;intro σ _ _ hl _;exact Sim.binOp hP.hG op t ((eval_rel h h1).mono hl) ((eval_rel h h2).mono hl) (h3.imp id fun q=>⟨heq q.1,hy q.2⟩)
 case unOp op t x =>
  obtain⟨h1,h2⟩:=ho;cases op<;>first | (cases h1;done) | skip
  exact Sim.value (Sim.not (eval_rel h h2))
 case convert s d x=>exact Sim.value (Sim.convert s d ho.1.1 ho.1.2 (eval_rel h ho.2))
 case makeInterface t x=>exact Sim.value (Sim.makeInterface t (eval_rel h ho))
 case makeFunc fn x y=>exact Sim.value (Sim.makeFunc fn ho.1.1 (evals_rel h ho.1.2) (evals_rel h ho.2))
 case makeChan t x=>exact Sim.value (Sim.makeChan t (eval_rel h ho))
 case makeSlice t x y=>exact Sim.value (Sim.makeSlice t ho.1 (eval_rel h ho.2.1) (eval_rel h ho.2.2))
 case slice t x lo hi mx=>exact Sim.value (Sim.sliceAt t (eval_rel h ho.1.1.1) (opt_rel h ho.1.1.2) (opt_rel h ho.1.2) (opt_rel h ho.2))
 case fieldAddr t x f=>exact Sim.value (Sim.fieldAt t f (eval_rel h ho))
 case index t x i=>exact Sim.value (Sim.index t (eval_rel h ho.1) (eval_rel h ho.2))
 case indexAddr t x i=>exact Sim.value (Sim.indexAt t (eval_rel h ho.1) (eval_rel h ho.2))
 case extract t i=>exact Sim.value (Sim.extract i (eval_rel h ho))
 case call c=>exact Sim.call hP c o.type h ho
 case defer c =>
  unfold okDefer at ho;rw[Bool.and_eq_true] at ho;obtain⟨h1,h2⟩:=ho;unfold Go.resolve;cases hcl:c.callee with
  | value f =>
   rw[hcl] at h2;dsimp only;rw[hcl];refine Sim.bind (Sim.ofValue (eval_rel h h2) (evals_rel h h1)) ?_;rintro σ d D hl hd;exact Sim.pure' (.defer hd)
  | builtin b=>rw[hcl] at h2;cases h2
  | invoke r n=>rw[hcl] at h2;cases h2
 case go c =>
  unfold okDefer at ho;rw[Bool.and_eq_true] at ho;obtain⟨h1,h2⟩:=ho;unfold Go.resolve;cases hcl:c.callee with
  | value f =>
   rw[hcl] at h2;dsimp only;rw[hcl];refine Sim.bind (Sim.ofValue (eval_rel h h2) (evals_rel h h1)) ?_;rintro σ d D hl hd;exact Sim.pure' (.spawn hd)
  | builtin b=>rw[hcl] at h2;cases h2
  | invoke r n=>rw[hcl] at h2;cases h2
 case panic x =>
  refine Sim.value ?_;have hv:=eval_rel h ho;have hn:=hp x e;generalize a.eval x=v at hv hn ⊢;generalize A.eval x=V at hv ⊢;unfold Instr.panic;cases hv with
  | flat hf=>cases v<;>first | exact Sim.stuck | exact absurd rfl hn | (simp[Lift.flat] at hf;done)
  | iface hb=>exact Sim.goPanic (.iface hb)
  | _=>exact Sim.stuck
 case send ch x=>exact Sim.pure' (.comm ⟨eval_rel h ho.1,eval_rel h ho.2,rfl⟩)
 case recv t ch ok =>
  refine Sim.bind (Sim.underlying t) ?_;rintro σ d _ hl ⟨rfl,_⟩;cases d with
  | chan k e =>
   dsimp only;refine Sim.bind (Sim.zeroValue' e) ?_;rintro σ2 z _ hl2 rfl;exact Sim.pure' (.comm ⟨(eval_rel h ho).mono (Ren.le_trans hl hl2),trivial,rfl⟩)
  | _=>exact Sim.stuck
end
inductive Pair {α β:Type}(R:α→β→Prop):List α→List β→Prop
 | nil:Pair R [] []
 | cons {a:α} {b:β} {l:List α} {L:List β}:R a b→Pair R l L→Pair R (a::l) (b::L)
theorem Pair.mono {α β:Type}{R S:α→β→Prop}(h:∀ a b,R a b→S a b){l:List α}{L:List β}(k:Pair R l L):Pair S l L:=by
 induction k with
 | nil=>exact .nil
 | cons x _ ih=>exact .cons (h _ _ x) ih
theorem Pair.append {α β:Type}{R:α→β→Prop}{l m:List α}{L M:List β}(k:Pair R l L)(j:Pair R m M):Pair R (l++m) (L++M):=by
 induction k with
 | nil=>exact j
 | cons x _ ih=>exact .cons x ih
structure ERel (ρ:Ren)(e E:PanicEntry):Prop where
 v:VRel ρ e.v E.v
 recd:e.recovered=E.recovered
 gone:e.goexit=E.goexit
theorem ERel.mono {ρ σ:Ren}(hl:ρ.le σ){e E:PanicEntry}(h:ERel ρ e E):ERel σ e E:=⟨h.v.mono hl,h.recd,h.gone⟩
inductive MRel (ρ:Ren):FrameMode→FrameMode→Prop
 | run:MRel ρ .run .run
 | returning:MRel ρ .returning .returning
 | panicking {c C:List PanicEntry}:Pair (ERel ρ) c C→MRel ρ (.panicking c) (.panicking C)
theorem MRel.mono {ρ σ:Ren}(hl:ρ.le σ){m M:FrameMode}(h:MRel ρ m M):MRel σ m M:=by
 cases h with
 | run=>exact .run
 | returning=>exact .returning
 | panicking h=>exact .panicking (h.mono fun _ _=>ERel.mono hl)
def okItem:Item→Bool
 | .call .. | .extern .. | .inRangeFunc _ | .endRangeFunc _ | .beginRound=>false
 | _=>true
structure FRel (ρ:Ren)(b B:Frame):Prop where
 fn:b.fn=B.fn
 kind:b.kind=B.kind
 todo:b.todo=B.todo
 tmps:ARel ρ b.tmps B.tmps
 defers:Pair (DRel ρ) b.defers B.defers
 mode:MRel ρ b.mode B.mode
 round:b.roundOf=none∧B.roundOf=none
 clean:∀ i∈b.todo,okItem i=true
theorem FRel.mono {ρ σ:Ren}(hl:ρ.le σ){b B:Frame}(h:FRel ρ b B):FRel σ b B :=
 ⟨h.fn,h.kind,h.todo,h.tmps.mono hl,h.defers.mono fun _ _=>DRel.mono hl,h.mode.mono hl,h.round,h.clean⟩
abbrev FsRel (ρ:Ren):List Frame→List Frame→Prop:=Pair (FRel ρ)
theorem FsRel.mono {ρ σ:Ren}(hl:ρ.le σ){l L:List Frame}(h:FsRel ρ l L):FsRel σ l L:=Pair.mono (fun _ _=>FRel.mono hl) h
structure GRel (ρ:Ren)(g G:Goroutine):Prop where
 frame:FRel ρ g.frame G.frame
 callers:FsRel ρ g.callers G.callers
 status:g.status=G.status
 dying:g.dying=none∧G.dying=none
theorem GRel.mono {ρ σ:Ren}(hl:ρ.le σ){g G:Goroutine}(h:GRel ρ g G):GRel σ g G:=⟨h.frame.mono hl,h.callers.mono hl,h.status,h.dying⟩
structure Plain (g:Goroutine):Prop where
 runs:g.status=.running
 lives:g.dying=none
structure SI (σ:Ren)(w W:World)(s S:GStep):Prop where
 go:∀ g w1 es,s=.go g w1 es→Plain g→w1=w∧∃ G,S=.go G W #[]∧GRel σ g G
 comm:∀ g cs bl sh w1 es,s=.comm g cs bl sh w1 es→w1=w∧∃ G c C,S=.comm G #[C] true sh W #[]∧GRel σ g G∧cs=#[c]∧bl=true∧CRel σ c C
 spawn:∀ g c w1 es,s=.spawn g c w1 es→w1=w∧∃ G C,S=.spawn G C W #[]∧GRel σ g G∧GRel σ c C
structure SR (ρ:Ren)(w W:World)(s S:GStep):Prop where
 go:∀ g w1 es,s=.go g w1 es→Plain g→∃ σ G W1 ES,S=.go G W1 ES∧GRel σ g G∧Went ρ σ w w1 W W1 ES
 comm:∀ g cs bl sh w1 es,s=.comm g cs bl sh w1 es→∃ σ G c C W1 ES,S=.comm G #[C] true sh W1 ES∧GRel σ g G∧cs=#[c]∧bl=true∧CRel σ c C∧Went ρ σ w w1 W W1 ES
 spawn:∀ g c w1 es,s=.spawn g c w1 es→∃ σ G C W1 ES,S=.spawn G C W1 ES∧GRel σ g G∧GRel σ c C∧Went ρ σ w w1 W W1 ES
section
variable {P:Program}{ρ σ:Ren}{w W w1 W1:World}{s S:GStep}
theorem Went.sub {new ES:Array Event}(h:Went ρ σ w w1 W W1 new)(hs:∀ e∈ES,e∈new):Went ρ σ w w1 W W1 ES:=⟨h.rel,h.frm,fun e he=>h.evs e (hs e he),h.fz,h.still,h.vis,h.vsize,h.kind,h.newb,h.full⟩
theorem SI.up {es new ES:Array Event}(h:SI σ w1 W1 s S)(k:Went ρ σ w w1 W W1 new)(hs:∀ e∈ES,e∈new):SR ρ w W (s.after es) (S.after ES):=by
 refine⟨fun g w2 es2 e hp=>?_,fun g cs bl sh w2 es2 e=>?_,fun g c w2 es2 e=>?_⟩
 ·cases s<;>simp[GStep.after] at e
  obtain⟨rfl,rfl,rfl⟩:=e;obtain⟨rfl,G,rfl,hG⟩:=h.go _ _ _ rfl hp;exact⟨σ,G,W1,ES++#[],rfl,hG,k.sub (by simpa using hs)⟩
 ·cases s<;>simp[GStep.after] at e
  obtain⟨rfl,rfl,rfl,rfl,rfl,rfl⟩:=e;obtain⟨rfl,G,c,C,rfl,hG,hc,hb,hC⟩:=h.comm _ _ _ _ _ _ rfl;exact⟨σ,G,c,C,W1,ES++#[],rfl,hG,hc,hb,hC,k.sub (by simpa using hs)⟩
 ·cases s<;>simp[GStep.after] at e
  obtain⟨rfl,rfl,rfl,rfl⟩:=e;obtain⟨rfl,G,C,rfl,hG,hC⟩:=h.spawn _ _ _ _ rfl;exact⟨σ,G,C,W1,ES++#[],rfl,hG,hC,k.sub (by simpa using hs)⟩
theorem SI.flat (h:SI ρ w W s S)(hw:WRel ρ w W):SR ρ w W s S:=by
 refine⟨fun g w2 es2 e hp=>?_,fun g cs bl sh w2 es2 e=>?_,fun g c w2 es2 e=>?_⟩
 ·obtain⟨rfl,G,rfl,hG⟩:=h.go _ _ _ e hp
  exact⟨ρ,G,W,#[],rfl,hG,Went.refl hw⟩
 ·obtain⟨rfl,G,c,C,rfl,hG,hc,hb,hC⟩:=h.comm _ _ _ _ _ _ e
  exact⟨ρ,G,c,C,W,#[],rfl,hG,hc,hb,hC,Went.refl hw⟩
 ·obtain⟨rfl,G,C,rfl,hG,hC⟩:=h.spawn _ _ _ _ e
  exact⟨ρ,G,C,W,#[],rfl,hG,hC,Went.refl hw⟩
theorem SI.of_go {g G:Goroutine}(h:GRel σ g G):SI σ w W (.go g w) (.go G W) :=
 ⟨fun _ _ _ e _=>(by cases e;exact⟨rfl,G,rfl,h⟩),fun _ _ _ _ _ _ e=>(by cases e),fun _ _ _ _ e=>(by cases e)⟩
structure Dead (s:GStep):Prop where
 go:∀ g w es,s=.go g w es→¬ Plain g
 comm:∀ g cs bl sh w es,s≠.comm g cs bl sh w es
 spawn:∀ g c w es,s≠.spawn g c w es
theorem SI.dead (h:Dead s):SI σ w W s S:=⟨fun _ _ _ e hp=>absurd hp (h.go _ _ _ e),fun _ _ _ _ _ _ e=>absurd e (h.comm _ _ _ _ _ _),fun _ _ _ _ e=>absurd e (h.spawn _ _ _ _)⟩
theorem Dead.up {es:Array Event}(h:Dead s):SR ρ w W (s.after es) S:=by
 refine⟨fun g w2 es2 e hp=>?_,fun g cs bl sh w2 es2 e=>?_,fun g c w2 es2 e=>?_⟩
 ·cases s<;>simp[GStep.after] at e
  obtain⟨rfl,rfl,rfl⟩:=e;exact absurd hp (h.go _ _ _ rfl)
 ·cases s<;>simp[GStep.after] at e
  exact absurd rfl (h.comm _ _ _ _ _ _)
 ·cases s<;>simp[GStep.after] at e
  exact absurd rfl (h.spawn _ _ _ _)
theorem Dead.ended {o:Outcome}:Dead (.ended o w):=⟨fun _ _ _ e=>(by cases e),fun _ _ _ _ _ _ e=>(by cases e),fun _ _ _ _ e=>(by cases e)⟩
theorem Dead.dies {fr:Frame}{ahead:List ByteArray}{m:String}{b:Bool}:Dead (dieOf fr ahead m b w) :=
 ⟨fun _ _ _ e hp=>by cases e;simpa using hp.lives,fun _ _ _ _ _ _ e=>(by cases e),fun _ _ _ _ e=>(by cases e)⟩
theorem Dead.of_go {g:Goroutine}(h:¬ Plain g):Dead (.go g w):=⟨fun _ _ _ e hp=>(by cases e;exact h hp),fun _ _ _ _ _ _ e=>(by cases e),fun _ _ _ _ e=>(by cases e)⟩
theorem Dead.fatal {fr:Frame}{cs:List Frame}{d:Option Dying}{m:String}:Dead (endFatal P fr cs d m w):=by
 unfold endFatal;dsimp only;split
 ·exact Dead.dies
 ·exact Dead.ended
 ·exact Dead.ended
theorem FRel.finish {b B:Frame}(h:FRel ρ b B)(hl:ρ.le σ){v V:Value}(hv:VRel σ v V):FRel σ (b.finish v) (B.finish V):=by
 obtain⟨h1,h2,h3,h4,h5,h6,h7,h8⟩:=h.mono hl;unfold Frame.finish;rw[← h3];split
 ·rename_i ops i rest k e
  refine⟨h1,h2,rfl,?_,h5,h6,h7,fun x hx=>?_⟩
  ·dsimp only
   split
   ·exact h4.set _ hv
   ·exact h4
  ·rcases List.mem_cons.1 hx with rfl | hx
   ·rfl
   ·exact h8 x (by rw[e];exact List.mem_cons_of_mem _ hx)
 ·rename_i e
  exact absurd (h8 _ (by rw[e];exact mc' ..)) (by simp[okItem])
 ·rename_i e
  exact absurd (h8 _ (by rw[e];exact mc' ..)) (by simp[okItem])
 ·rename_i e
  exact absurd (h8 _ (by rw[e];exact mc' ..)) (by simp[okItem])
 ·rename_i e
  exact absurd (h8 _ (by rw[e];exact mc' ..)) (by simp[okItem])
 ·exact⟨h1,h2,h3,h4,h5,h6,h7,h8⟩
theorem FRel.raise {b B:Frame}(h:FRel ρ b B)(hl:ρ.le σ){vs VS:List PanicEntry}(hv:Pair (ERel σ) vs VS):FRel σ (b.raise vs) (B.raise VS):=by
 obtain⟨h1,h2,h3,h4,h5,h6,h7,h8⟩:=h.mono hl;unfold Frame.raise;cases hm:b.mode<;>cases hM:B.mode<;>rw[hm,hM] at h6<;>cases h6
 ·exact⟨h1,h2,h3,h4,h5,.panicking hv,h7,h8⟩
 ·exact⟨h1,h2,h3,h4,h5,.panicking hv,h7,h8⟩
 ·exact⟨h1,h2,h3,h4,h5,.panicking (hv.append ‹_›),h7,h8⟩
theorem FRel.enter {f:FuncId}{c C:Array Value}(h:ARel ρ c C)(k:CallKind):FRel ρ (Frame.enter P f c k) (Frame.enter P f C k):=by
 refine⟨rfl,rfl,rfl,?_,.nil,.run,⟨rfl,rfl⟩,fun i hi=>?_⟩
 case refine_2 =>
  simp only[Frame.enter,List.mem_cons,List.not_mem_nil,or_false] at hi;subst hi;rfl
 show ARel ρ (c++_) (C++_);rw[← h.1];refine h.append ⟨by simp,fun i v V h1 h2=>?_⟩;rw[h1] at h2;cases h2;rw[Array.getElem?_replicate] at h1;split at h1
 ·cases h1;exact VRel.tuple' ARel.nil
 ·cases h1
theorem tryRecover_rel {b B:Frame}{cs CS:List Frame}(h:FRel ρ b B)(k:FsRel ρ cs CS):match tryRecover b cs,tryRecover B CS with
  | none,none=>True
  | some (v,l),some (V,L)=>VRel ρ v V∧FsRel ρ l L
  | _,_=>False:=by
 induction k generalizing b B with
 | nil =>
  unfold tryRecover;rw[← h.kind];cases b.kind<;>trivial
 | @cons c C l L hc hl ih =>
  unfold tryRecover;rw[← h.kind];cases b.kind
  case deferred =>
   dsimp only;obtain⟨h1,h2,h3,h4,h5,h6,h7,h8⟩:=hc;generalize hm:c.mode=m at h6;generalize hM:C.mode=M at h6;cases h6 with
   | run=>trivial
   | returning=>trivial
   | panicking hp =>
    cases hp with
    | nil=>trivial
    | @cons e E l' L' he hr =>
     obtain⟨e1,e2,e3⟩:=he;obtain⟨v,r,g⟩:=e;obtain⟨V,R,G⟩:=E;simp only at e1 e2 e3;subst e2 e3;cases r<;>cases g<;>first | trivial | skip
     exact⟨e1,.cons ⟨h1,h2,h3,h4,h5,.panicking (.cons ⟨e1,rfl,rfl⟩ hr),h7,h8⟩ hl⟩
  case wrapped =>
   dsimp only;have:=ih hc;generalize tryRecover c l=x at this;generalize tryRecover C L=y at this;cases x<;>cases y<;>first | trivial | exact this.elim | skip
   exact⟨this.1,.cons hc this.2⟩
  all_goals trivial
theorem goexit_rel:ERel ρ goexitEntry goexitEntry:=⟨VRel.tuple' ARel.nil,rfl,rfl⟩
theorem apply_sim (hw:WRel ρ w W){b B:Frame}(hf:FRel ρ b B){cs CS:List Frame}(hc:FsRel ρ cs CS){s S:Sem Next}(hs:Sim P XRel ρ s S) :
  SR ρ w W (stepG.apply P true b cs none s w) (stepG.apply P true B CS none S W):=by
 have h0:=hs.up w W #[] hw;have e0:=Sem.runT_fst P s w #[];have hk:∀ d re sa k,b.todo=.call d true re sa::k→False:=fun d re sa k e=>absurd (hf.clean _ (by rw[e];exact mc' ..)) (by simp[okItem]);have hK:∀ d re sa k,B.todo=.call d true re sa::k→False:=by rw[← hf.todo];exact hk
 have hx:∀ r a k,b.todo=.extern r a::k→False:=fun r a k e=>absurd (hf.clean _ (by rw[e];exact mc' ..)) (by simp[okItem]);have hX:∀ r a k,B.todo=.extern r a::k→False:=by rw[← hf.todo];exact hx
 unfold stepG.apply;simp only[if_true];generalize hr:s.runT P w #[]=r at e0;obtain⟨r,es⟩:=r;simp only at e0;rw[← e0] at h0;cases r with
 | ok a w' =>
  obtain⟨b',W',σ,new,h1,h2,h3⟩:=h0;rw[h1];have hl:=h2.frm.le;dsimp only;have hes:∀ fn,∀ e∈seen P fn (if (B.kind==.early)=true then #[] else #[]++new),e∈new:=by
   intro fn e he;have:=Conc.mem_seen he;split at this
   ·simp at this
   ·simpa using this
  refine SI.up ?_ h2 (hes _);cases h3 with
  | value hv=>exact SI.of_go ⟨hf.finish hl hv,hc.mono hl,rfl,rfl,rfl⟩
  | skip=>exact SI.of_go ⟨hf.finish hl (VRel.tuple' ARel.nil),hc.mono hl,rfl,rfl,rfl⟩
  | enter hf' ha=>exact SI.of_go ⟨FRel.enter ha _,.cons (hf.mono hl) (hc.mono hl),rfl,rfl,rfl⟩
  | @defer d D hd =>
   have hf2:FRel σ { b with defers:=d::b.defers} { B with defers:=D::B.defers}:=by
    obtain⟨f1,f2,f3,f4,f5,f6,f7,f8⟩:=hf.mono hl;exact⟨f1,f2,f3,f4,.cons hd f5,f6,f7,f8⟩
   exact SI.of_go ⟨hf2.finish σ.le_refl (VRel.tuple' ARel.nil),hc.mono hl,rfl,rfl,rfl⟩
  | recover =>
   have ht:=tryRecover_rel (hf.mono hl) (hc.mono hl);rw[hf.round.1,hf.round.2];dsimp only;generalize tryRecover b cs=x at ht;generalize tryRecover B CS=y at ht;cases x<;>cases y<;>first | exact ht.elim | skip
   ·exact SI.of_go ⟨hf.finish hl (.flat rfl),hc.mono hl,rfl,rfl,rfl⟩
   ·exact SI.of_go ⟨hf.finish hl ht.1,ht.2,rfl,rfl,rfl⟩
  | @spawn d D hd =>
   have hop:B.oper?=b.oper?:=by unfold Frame.oper?;rw[hf.todo]
   have hno:B.noResult P=b.noResult P:=by unfold Frame.noResult;rw[hop]
   have hem:(∀ n c,d.target≠.fn (.method n) c)→D.args.isEmpty=d.args.isEmpty:=fun h=>by
    have:=(hd.args.resolve_left fun⟨⟨c,e⟩,_⟩=>h _ _ e).2.1;simp[Array.isEmpty,← this]
   have hgo:SI σ w' W' (.spawn { frame:=b.finish undef,callers:=cs,status:=.running,dying:=none} { frame:={(default:Frame) with fn:=P.funcs.size,defers:=[d],mode:=.panicking [goexitEntry]},callers:=[],status:=.running,dying:=none} w')
     (.spawn { frame:=B.finish undef,callers:=CS,status:=.running,dying:=none} { frame:={(default:Frame) with fn:=P.funcs.size,defers:=[D],mode:=.panicking [goexitEntry]},callers:=[],status:=.running,dying:=none} W'):=by
    refine⟨fun _ _ _ e _=>(by cases e),fun _ _ _ _ _ _ e=>(by cases e),fun g c w1 es e=>?_⟩;cases e;exact⟨rfl,_,_,rfl,⟨hf.finish hl (VRel.tuple' ARel.nil),hc.mono hl,rfl,rfl,rfl⟩,⟨⟨rfl,rfl,rfl,ARel.nil,.cons hd .nil,.panicking (.cons goexit_rel .nil),⟨rfl,rfl⟩,fun i hi=>(by cases hi)⟩,.nil,rfl,rfl,rfl⟩⟩
   obtain⟨t,ar⟩:=d;obtain⟨T,AR⟩:=D;have htg:=hd.tg;simp only at htg hem;dsimp only;rw[hno];cases htg
   ·rw[hem (by simp)]
    dsimp only;split
    ·exact SI.dead Dead.dies
    ·exact hgo
   ·rw[hem (by simp)]
    dsimp only;split
    ·exact SI.dead Dead.dies
    ·exact hgo
   ·simp only[Bool.and_false,Bool.false_and,Bool.false_eq_true,if_false]
    exact hgo
  | comm hcc =>
   refine⟨fun _ _ _ e _=>(by cases e),fun g cs' bl sh w1 es e=>?_,fun _ _ _ _ e=>(by cases e)⟩;cases e;exact⟨rfl,_,_,_,rfl,⟨hf.mono hl,hc.mono hl,rfl,rfl,rfl⟩,rfl,rfl,hcc⟩
 | halt k w' =>
  cases k
  case panic v =>
   obtain⟨V,W',σ,new,h1,h2,h3⟩:=h0;rw[h1];have hl:=h2.frm.le;dsimp only;have hes:∀ fn,∀ e∈seen P fn (if (B.kind==.early)=true then #[] else #[]++new),e∈new:=by
    intro fn e he;have:=Conc.mem_seen he;split at this
    ·simp at this
    ·simpa using this
   refine SI.up ?_ h2 (hes _);exact SI.of_go ⟨hf.raise hl (.cons ⟨h3,rfl,rfl⟩ .nil),hc.mono hl,rfl,rfl,rfl⟩
  case goexit=>cases h0
  case blocked=>cases h0
  case waiting=>cases h0
  case unsupported u =>
   cases u<;>first | (cases h0;done) | exact Dead.up Dead.ended
  case fatal m=>cases h0
  case throw m=>cases h0
  all_goals exact Dead.up Dead.ended
theorem doReturn_sim {b B:Frame}(hf:FRel ρ b B){cs CS:List Frame}(hc:FsRel ρ cs CS){v V:Value}(hv:VRel ρ v V){m M:Bool}(hm:m=M∨cs≠[]) :
  SI ρ w W (doReturn P m b cs none v w) (doReturn P M B CS none V W):=by
 unfold doReturn;cases hc with
 | nil =>
  obtain rfl:m=M:=hm.resolve_right (by simp);dsimp only;rw[← hf.kind,← hf.fn];cases b.kind<;>first | exact SI.dead Dead.ended | skip
  all_goals
   dsimp only;cases m
   ·exact SI.dead (Dead.of_go fun hp=>by cases hp.runs)
   ·simp only[Bool.not_true,Bool.false_eq_true,if_false]
    cases hi:P.inits.idxOf? b.fn with
    | none=>exact SI.dead Dead.ended
    | some k=>exact SI.of_go ⟨FRel.enter ARel.nil _,.nil,rfl,rfl,rfl⟩
 | @cons c C l L h1 h2 =>
  dsimp only;rw[← hf.kind];have hother:SI ρ w W (GStep.go { frame:=(match c.mode with | .panicking ({recovered:=true,..}::older)=>(match older.dropWhile (!·.goexit) with | []=>{c with mode:=.returning} | rest=>{c with mode:=.panicking rest}) | _=>c),callers:=l,status:=.running,dying:=none} w)
    (GStep.go { frame:=(match C.mode with | .panicking ({recovered:=true,..}::older)=>(match older.dropWhile (!·.goexit) with | []=>{C with mode:=.returning} | rest=>{C with mode:=.panicking rest}) | _=>C),callers:=L,status:=.running,dying:=none} W):=by
   refine SI.of_go ⟨?_,h2,rfl,rfl,rfl⟩;dsimp only;obtain⟨c1,c2,c3,c4,c5,c6,c7,c8⟩:=h1;generalize hcm:c.mode=x at c6;generalize hCM:C.mode=X at c6;have hsame:FRel ρ c C:=⟨c1,c2,c3,c4,c5,by rw[hcm,hCM];exact c6,c7,c8⟩;cases c6 with
   | run=>exact hsame
   | returning=>exact hsame
   | panicking hp =>
    cases hp with
    | nil=>exact hsame
    | @cons e E l' L' he hr =>
     obtain⟨e1,e2,e3⟩:=he;obtain⟨v,r,g⟩:=e;obtain⟨V,R,G⟩:=E;simp only at e1 e2 e3;subst e2 e3;cases r
     ·exact hsame
     ·dsimp only
      have hdw:Pair (ERel ρ) (l'.dropWhile (!·.goexit)) (L'.dropWhile (!·.goexit)):=by
       clear hsame hcm hCM
       induction hr with
       | nil=>exact .nil
       | @cons a b l L hab hr ih =>
        simp only[List.dropWhile_cons,hab.gone];cases b.goexit
        ·simpa using ih
        ·simpa using Pair.cons hab hr
      generalize l'.dropWhile (!·.goexit)=y at hdw;generalize L'.dropWhile (!·.goexit)=Y at hdw;cases hdw with
      | nil=>exact⟨c1,c2,c3,c4,c5,.returning,c7,c8⟩
      | cons k1 k2=>exact⟨c1,c2,c3,c4,c5,.panicking (.cons k1 k2),c7,c8⟩
  cases b.kind
  ·exact SI.of_go ⟨h1.finish ρ.le_refl hv,h2,rfl,rfl,rfl⟩
  ·exact hother
  ·exact SI.of_go ⟨h1.finish ρ.le_refl hv,h2,rfl,rfl,rfl⟩
  ·exact hother
  ·exact SI.of_go ⟨h1,h2,rfl,rfl,rfl⟩
theorem Sim.results (fn:Func){c C:Array Value}(h:ARel ρ c C):Sim P VRel ρ (results fn c) (results fn C):=by
 unfold Go.results;refine Sim.bind (Q:=fun σ a b=>ARel σ a b) ?_ ?_
 ·rw[Array.mapM_eq_mapM_toList,Array.mapM_eq_mapM_toList]
  refine Sim.map (Sim.mapM (Q:=VRel) (fun σ τ a b hl h=>h.mono hl) _ _ ?_) ?_
  ·intro σ x hl hx
   cases x with
   | tmp t=>exact Sim.pure' ((h.mono hl).getD t)
   | cell a t =>
    refine Sim.bind (Sim.asAddr ((h.mono hl).getD a)) ?_;rintro τ ⟨x,o,s⟩ ⟨X,O,S⟩ hl2 ⟨h1,h2,h3⟩;simp only at h1 h2 h3;subst h2 h3;exact Sim.loadVar h1 t
  ·rintro σ l L hl ⟨h1,h2⟩
   exact⟨by simpa using h1,fun i v V a b=>h2 i v V (by simpa using a) (by simpa using b)⟩
 ·intro σ x X hl hx
  refine Sim.pure' ?_;have hn:=hx.1;by_cases h1:x.size=1
  ·have h2:X.size=1:=by omega
   rw[dif_pos h1,dif_pos h2];exact hx.2 0 _ _ (as' _) (as' _)
  ·have h2:¬ X.size=1:=by omega
   rw[dif_neg h1,dif_neg h2];exact VRel.tuple' hx
theorem callDeferred_sim (hP:Fits P)(hw:WRel ρ w W){b B:Frame}(hf:FRel ρ b B){cs CS:List Frame}(hc:FsRel ρ cs CS){d D:Deferred}(hd:DRel ρ d D) :
  SR ρ w W (callDeferred P b cs none d w) (callDeferred P B CS none D W):=by
 have hs:=Sim.invokeFn hP hd;unfold callDeferred;obtain⟨t,ar⟩:=d;obtain⟨T,AR⟩:=D;have htg:=hd.tg;simp only at htg;have hmode:=hf.mode;cases htg
 case' fn=>simp only[Bool.false_and,Bool.false_eq_true,if_false]
 case' dull=>simp only[Bool.false_and,Bool.false_eq_true,if_false]
 case' nil =>
  cases hm:b.mode<;>cases hM:B.mode<;>rw[hm,hM] at hmode<;>cases hmode
  case' panicking.panicking=>exact Dead.up (es:=#[]) Dead.ended
  all_goals simp only[Bool.and_false,Bool.false_eq_true,if_false]
 all_goals
  have h0:=hs.up w W #[] hw;dsimp only at hs h0 ⊢;generalize invoke _ ar=sd at hs h0 ⊢;generalize invoke _ AR=sD at hs h0 ⊢;have e0:=Sem.runT_fst P sd w #[];generalize hr:sd.runT P w #[]=r at e0;obtain⟨r,es⟩:=r;simp only at e0;rw[← e0] at h0;cases r with
  | ok a w' =>
   obtain⟨b',W',σ,new,h1,h2,h3⟩:=h0;rw[h1];have hl:=h2.frm.le;dsimp only;have hes:∀ fn,∀ e∈seen P fn (#[]++new),e∈new:=by
    intro fn e he;have:=Conc.mem_seen he;simpa using this
   refine SI.up ?_ h2 (hes _);cases h3 with
   | enter hf' ha=>exact SI.of_go ⟨FRel.enter ha _,.cons (hf.mono hl) (hc.mono hl),rfl,rfl,rfl⟩
   | recover =>
    have ht:=tryRecover_rel (hf.mono hl) (hc.mono hl);have hm:=(hf.mono hl).mode;generalize b.mode=x at hm ⊢;generalize B.mode=X at hm ⊢;generalize tryRecover b cs=y at ht;generalize tryRecover B CS=Y at ht;cases hm<;>cases y<;>cases Y<;>first | exact ht.elim | exact SI.of_go ⟨hf.mono hl,hc.mono hl,rfl,rfl,rfl⟩ | exact SI.of_go ⟨hf.mono hl,ht.2,rfl,rfl,rfl⟩
   | _=>exact SI.of_go ⟨hf.mono hl,hc.mono hl,rfl,rfl,rfl⟩
  | halt k w' =>
   cases k
   case panic v =>
    obtain⟨V,W',σ,new,h1,h2,h3⟩:=h0;rw[h1];have hl:=h2.frm.le;dsimp only;have hes:∀ fn,∀ e∈seen P fn (#[]++new),e∈new:=by
     intro fn e he;have:=Conc.mem_seen he;simpa using this
    refine SI.up ?_ h2 (hes _);exact SI.of_go ⟨hf.raise hl (.cons ⟨h3,rfl,rfl⟩ .nil),hc.mono hl,rfl,rfl,rfl⟩
   case goexit=>cases h0
   case blocked=>cases h0
   case waiting=>cases h0
   case fatal m=>cases h0
   case throw m=>cases h0
   all_goals exact Dead.up Dead.ended
end
def okHd (P:Program)(ev:Operand→Value):List Item→Prop
 | []=>True
 | .code c::_=>match c with
  | .rangeFunc .. | .refuse _=>False
  | .cond x _ _=>okO x=true
  | _=>True
 | .inRegion ops (i::_)::_=>∀ o,ops[i]?=some o→okOp P o.op=true∧∀ x,o.op=.panic x→ev x≠.nilIface
 | _=>True
section
variable {P:Program}{ρ σ:Ren}{w W w1 W1:World}{s S:GStep}
theorem VRel.boolB {v V:Value}{b:Bool}(h:VRel ρ v V):v=.bool b↔V=.bool b:=by
 cases h with
 | flat hf=>exact Iff.rfl
 | hole hf=>exact⟨(fun e=>by cases e),(fun e=>by rw[e] at hf;cases hf)⟩
 | meth=>exact⟨(fun e=>by cases e),(fun e=>by cases e)⟩
 | _=>simp
theorem yielded_rel {c C:Array Value}(h:ARel ρ c C)(ops:Array Oper):yielded ops c=yielded ops C:=by
 funext j;unfold yielded;cases he:(ops[j]?).bind (·.dst) with
 | none=>rfl
 | some t =>
  simp only[Option.bind_some];cases hc:c[t]? with
  | none =>
   have:C[t]?=none:=by
    rw[Array.getElem?_eq_none_iff] at hc ⊢;have:=h.1;omega
   rw[this]
  | some v =>
   obtain⟨V,hV,hv⟩:=h.get hc;rw[hV];cases hv with
   | flat hf=>rfl
   | hole hf=>cases V<;>first | rfl | cases hf
   | _=>rfl
theorem evalF (b:Frame)(x:Operand):b.eval x=(⟨b.tmps,b.defers⟩:Act).eval x:=by cases x<;>rfl
theorem evalF' (b:Frame):b.eval=(⟨b.tmps,b.defers⟩:Act).eval:=funext fun x=>evalF b x
theorem exitTo_clean {id:Nat}:∀ {k k':List Item},exitTo id k=some k'→∀ i∈k',i∈k
 | [],_,h=>by simp[exitTo] at h
 | x::k,k',h=>by
  intro i hi;cases x<;>simp only[exitTo] at h<;>first | exact List.mem_cons_of_mem _ (exitTo_clean h i hi) | skip
  split at h
  ·cases h;exact List.mem_cons_of_mem _ hi
  ·exact List.mem_cons_of_mem _ (exitTo_clean h i hi)
theorem gotoIn_clean {l:Nat}:∀ {k k':List Item},gotoIn l k=some k'→∀ i∈k',i∈k∨okItem i=true
 | [],_,h=>by simp[gotoIn] at h
 | x::k,k',h=>by
  intro i hi;cases x<;>simp only[gotoIn] at h<;>first | exact(gotoIn_clean h i hi).imp (List.mem_cons_of_mem _) id | skip
  split at h
  ·cases h
   rcases List.mem_cons.1 hi with rfl | hi
   ·exact .inr rfl
   ·exact .inl hi
  ·exact(gotoIn_clean h i hi).imp (List.mem_cons_of_mem _) id
theorem FRel.to {b B:Frame}(hf:FRel ρ b B){t:List Item}(ht:∀ i∈t,okItem i=true):FRel ρ { b with todo:=t} { B with todo:=t} :=
 ⟨hf.fn,hf.kind,rfl,hf.tmps,hf.defers,hf.mode,hf.round,ht⟩
theorem FRel.back {b B:Frame}(hf:FRel ρ b B):FRel ρ { b with mode:=.returning} { B with mode:=.returning} :=
 ⟨hf.fn,hf.kind,hf.todo,hf.tmps,hf.defers,.returning,hf.round,hf.clean⟩
theorem exec_sim (hP:Fits P)(hw:WRel ρ w W){b B:Frame}(hf:FRel ρ b B){cs CS:List Frame}(hc:FsRel ρ cs CS)(hh:okHd P b.eval b.todo){m M:Bool} :
  SR ρ w W (stepG.exec P m true b cs none w) (stepG.exec P M true B CS none W):=by
 obtain⟨fn,tm,t,ds,mo,kd,ro⟩:=b;obtain⟨FN,TM,T,DS,MO,KD,RO⟩:=B;obtain⟨rfl,rfl⟩:=hf.round;obtain rfl:=hf.fn;obtain rfl:=hf.kind;obtain rfl:=hf.todo;have hcl:=hf.clean;dsimp only at hcl hh;have hgo:∀ {t':List Item},(∀ i∈t',okItem i=true)→SR ρ w W (.go { frame:=⟨fn,tm,t',ds,mo,kd,none⟩,callers:=cs,status:=.running,dying:=none} w) (.go { frame:=⟨fn,TM,t',DS,MO,kd,none⟩,callers:=CS,status:=.running,dying:=none} W) :=
  fun ht=>(SI.of_go (⟨hf.to ht,hc,rfl,rfl,rfl⟩:GRel ρ ⟨_,_,_,_,_⟩ ⟨_,_,_,_,_⟩)).flat hw
 have hdead:∀ {o:Outcome} {S:GStep},SR ρ w W (.ended o w) S:=fun {o S}=>(SI.dead Dead.ended).flat hw;have hleave:SR ρ w W (.go { frame:=⟨fn,tm,t,ds,.returning,kd,none⟩,callers:=cs,status:=.running,dying:=none} w) (.go { frame:=⟨fn,TM,t,DS,.returning,kd,none⟩,callers:=CS,status:=.running,dying:=none} W) :=
  (SI.of_go (⟨hf.back,hc,rfl,rfl,rfl⟩:GRel ρ ⟨_,_,_,_,_⟩ ⟨_,_,_,_,_⟩)).flat hw
 unfold stepG.exec;dsimp only;cases t with
 | nil=>exact hleave
 | cons x k =>
  have hk:∀ i∈k,okItem i=true:=fun i hi=>hcl i (List.mem_cons_of_mem _ hi);have hk1:∀ {y:Item},okItem y=true→∀ i∈y::k,okItem i=true:=fun hy i hi=>by
   rcases List.mem_cons.1 hi with rfl | hi
   ·exact hy
   ·exact hk i hi
  have hk2:∀ {y z:Item},okItem y=true→okItem z=true→∀ i∈y::z::k,okItem i=true:=fun hy hz i hi=>by
   rcases List.mem_cons.1 hi with rfl | hi
   ·exact hy
   ·exact hk1 hz i hi
  cases x with
  | code c =>
   cases c with
   | skip=>exact hgo hk
   | label l=>exact hgo hk
   | seq x y=>exact hgo (hk2 rfl rfl)
   | cond c x y =>
    dsimp only;have hv:=eval_rel (a:=⟨tm,ds⟩) (A:=⟨TM,DS⟩) hf.tmps (x:=c) hh;rw[evalF,evalF];dsimp only;generalize Act.eval ⟨tm,ds⟩ c=v at hv ⊢;generalize Act.eval ⟨TM,DS⟩ c=V at hv ⊢;cases hv with
    | flat h=>cases v<;>first | exact hdead | exact hgo (hk1 rfl)
    | _=>exact hdead
   | block id c=>exact hgo (hk2 rfl rfl)
   | loop c=>exact hgo (hk2 rfl rfl)
   | scope c=>exact hgo (hk2 rfl rfl)
   | exit id =>
    dsimp only;cases he:exitTo id k with
    | none=>exact hdead
    | some k'=>exact hgo fun i hi=>hk i (exitTo_clean he i hi)
   | goto l =>
    dsimp only;cases he:gotoIn l k with
    | none=>exact hdead
    | some k'=>exact hgo fun i hi=>(gotoIn_clean he i hi).elim (hk i) id
   | rangeFunc f p a c=>exact hh.elim
   | refuse why=>exact hh.elim
   | ret=>exact hleave
   | region id ops draw =>
    dsimp only;cases draw with
    | false=>exact hgo (hk1 rfl)
    | true =>
     simp only[Bool.not_true,Bool.false_eq_true,if_false];have h0:=(Sim.choose (P:=P) (ρ:=ρ) (q:=.order fn id)).up w W #[] hw;have e0:=Sem.runT_fst P (choose (.order fn id)) W #[];generalize hr:(choose (.order fn id)).run P w=r at h0;cases r with
     | halt h w'=>exact Dead.up (es:=#[]) Dead.ended
     | ok t w' =>
      obtain⟨_,W',σ,new,h1,h2,rfl⟩:=h0;rw[h1] at e0;simp only at e0;rw[← e0];refine SI.up (es:=#[]) (ES:=#[]) (s:=.go _ _) (S:=.go _ _) (new:=new) (SI.of_go (⟨(hf.to (t:=.inRegion ops (Region.schedule (P.follows .mixedOrders) ops t)::k) (hk1 rfl)).mono h2.frm.le,hc.mono h2.frm.le,rfl,rfl,rfl⟩:GRel σ ⟨_,_,_,_,_⟩ ⟨_,_,_,_,_⟩)) h2 (by simp)
  | inBlock id=>exact hgo hk
  | inLoop c=>exact hgo (hk2 rfl rfl)
  | inScope c=>exact hgo hk
  | inRegion ops l =>
   cases l with
   | nil=>exact hgo hk
   | cons i l =>
    dsimp only;rw[yielded_rel hf.tmps];split
    ·unfold stepG.oper
     unfold Frame.oper?;dsimp only;cases he:ops[i]? with
     | none=>exact hdead
     | some o =>
      dsimp only;obtain⟨h1,h2⟩:=hh o he;have hs:=Sim.execOp (a:=⟨tm,ds⟩) (A:=⟨TM,DS⟩) hP o hf.tmps h1 (fun x hx=>by have:=h2 x hx;rw[evalF] at this;exact this);rw[evalF',evalF'];dsimp only;cases o.op<;>exact apply_sim hw hf hc hs
    ·have hfi:=hf.finish ρ.le_refl (v:=undef) (V:=undef) (VRel.tuple' ARel.nil)
     exact(SI.of_go (⟨hfi,hc,rfl,rfl,rfl⟩:GRel ρ ⟨_,_,_,_,_⟩ ⟨_,_,_,_,_⟩)).flat hw
  | inRangeFunc l=>exact absurd (hcl _ (mc' ..)) (by simp[okItem])
  | endRangeFunc l=>exact absurd (hcl _ (mc' ..)) (by simp[okItem])
  | beginRound=>exact absurd (hcl _ (mc' ..)) (by simp[okItem])
  | call d wr re sa=>exact absurd (hcl _ (mc' ..)) (by simp[okItem])
  | extern r a=>exact absurd (hcl _ (mc' ..)) (by simp[okItem])
theorem unwind_sim (hP:Fits P)(hw:WRel ρ w W){b B:Frame}(hf:FRel ρ b B){cs CS:List Frame}(hc:FsRel ρ cs CS){m M:Bool}(hm:m=M∨cs≠[]) :
  SR ρ w W (unwind P m b cs none w) (unwind P M B CS none W):=by
 have hdead:∀ {o:Outcome} {S:GStep},SR ρ w W (.ended o w) S:=fun {o S}=>(SI.dead Dead.ended).flat hw;unfold unwind;have hd:=hf.defers;generalize hbd:b.defers=ds at hd ⊢;generalize hBD:B.defers=DS at hd ⊢;cases hd with
 | @cons d D l L h1 h2 =>
  have hf':FRel ρ { b with defers:=l} { B with defers:=L}:=⟨hf.fn,hf.kind,hf.todo,hf.tmps,h2,hf.mode,hf.round,hf.clean⟩;have hcd:=callDeferred_sim hP hw hf' hc h1;obtain⟨t,ar⟩:=d;obtain⟨T,AR⟩:=D;have htg:=h1.tg;simp only at htg;cases htg<;>exact hcd
 | nil =>
  dsimp only;have hmo:=hf.mode;generalize hbm:b.mode=x at hmo ⊢;generalize hBM:B.mode=X at hmo ⊢;cases hmo with
  | run=>exact hdead
  | @panicking c C hp =>
   dsimp only;have hca:b.catches P=B.catches P:=by
    unfold Frame.catches;rw[hf.fn,hf.todo]
   rw[← hca];split
   ·exact hdead
   ·cases hc with
    | cons k1 k2=>exact(SI.of_go (⟨k1.raise ρ.le_refl hp,k2,rfl,rfl,rfl⟩:GRel ρ ⟨_,_,_,_,_⟩ ⟨_,_,_,_,_⟩)).flat hw
    | nil =>
     dsimp only;split
     ·exact(SI.dead (Dead.of_go fun h=>by cases h.runs)).flat hw
     ·refine SR.mk (fun g w1 es e hp=>?_) (fun g cs bl sh w1 es e=>?_) (fun g c w1 es e=>?_)
      ·split at e
       ·cases e;cases hp.lives
       ·cases e
       ·cases e
      ·split at e<;>cases e
      ·split at e<;>cases e
  | returning =>
   dsimp only;rw[← hf.fn];cases hfn:P.funcs[b.fn]? with
   | none =>
    dsimp only;have hv:VRel ρ (b.tmps.getD 0 undef) (B.tmps.getD 0 undef):=hf.tmps.getD 0;exact(doReturn_sim hf hc hv hm).flat hw
   | some fn =>
    dsimp only;have h0:=(Sim.results (P:=P) fn hf.tmps).up w W #[] hw;have e0:=Sem.runT_fst P (results fn b.tmps) w #[];generalize hr:(results fn b.tmps).runT P w #[]=r at e0 ⊢;obtain⟨r,es⟩:=r;simp only at e0;rw[← e0] at h0;cases r with
    | halt k w' =>
     refine Dead.up ?_;cases k<;>exact Dead.ended
    | ok v w' =>
     obtain⟨V,W',σ,new,h1,h2,h3⟩:=h0;rw[h1];have hes:∀ fn,∀ e∈seen P fn (#[]++new),e∈new:=by
      intro fn e he;have:=Conc.mem_seen he;simpa using this
     exact SI.up (doReturn_sim (hf.mono h2.frm.le) (hc.mono h2.frm.le) h3 hm) h2 (hes _)
theorem step_sim (hP:Fits P)(hw:WRel ρ w W){g G:Goroutine}(hg:GRel ρ g G){m M:Bool}(hm:m=M∨g.callers≠[])(hh:(∃ mo,g.frame.mode=mo∧mo=.run)→okHd P g.frame.eval g.frame.todo) :
  SR ρ w W (stepG P m g w) (stepG P M G W):=by
 obtain⟨hf,hc,hs,hd⟩:=hg;obtain⟨b,cs,st,dy,of⟩:=g;obtain⟨B,CS,ST,DY,OF⟩:=G;simp only at hf hc hs hd hm hh;obtain⟨rfl,rfl⟩:=hd;unfold stepG;dsimp only;have hmo:=hf.mode;have hh':=fun e=>hh ⟨_,e,rfl⟩;generalize hbm:b.mode=x at hmo hh' ⊢;generalize hBM:B.mode=X at hmo ⊢;cases hmo with
 | run=>exact exec_sim hP hw hf hc (hh' rfl)
 | returning=>exact unwind_sim hP hw hf hc hm
 | panicking h=>exact unwind_sim hP hw hf hc hm
end
def GLoc (f:World→GStep)(w:World):Prop :=
 ∀ g1 w1 es,f w=.go g1 w1 es→Plain g1→w.drawn≤w1.drawn∧w1.tape=w.tape ∧
  ∀ τ d,(∀ i q,w.drawn+i<w1.drawn→τ (d+i) q=w.tape (w.drawn+i) q)→∃ es',f (re w τ d)=.go g1 (re w1 τ (d+(w1.drawn-w.drawn))) es'
section
variable {P:Program}{ρ σ:Ren}{w W:World}{f:World→GStep}
theorem GLoc.of_go {g:Goroutine}(h:∀ w,f w=.go g w):GLoc f w:=by
 intro g1 w1 es e hp;rw[h] at e;cases e;exact⟨Nat.le_refl _,rfl,fun τ d _=>⟨#[],by rw[h,Nat.sub_self,Nat.add_zero]⟩⟩
theorem GLoc.of_dead (h:Dead (f w)):GLoc f w:=fun g1 w1 es e hp=>absurd hp (h.go _ _ _ e)
theorem GLoc.of_eq {f':World→GStep}(h:∀ w,f w=f' w)(k:GLoc f' w):GLoc f w:=by
 have:f=f':=funext h;rw[this];exact k
theorem GLoc.run {α:Type}{s:Sem α}{r:Result α}(hr:s.run P w=r)(hl:Lok P s w){g:Goroutine}
  (h:∀ w' τ d,s.run P w'=reW τ d r→∃ es,f w'=.go g (re (wOf r) τ d) es):GLoc f w:=by
 intro g1 w1 es e hp;unfold Lok at hl;rw[hr] at hl;obtain⟨h1,h2,h3⟩:=hl;have hsame:re (wOf r) (wOf r).tape (wOf r).drawn=wOf r:=rfl;have hr':s.run P w=reW (wOf r).tape (wOf r).drawn r:=by rw[hr];cases r<;>rfl
 obtain⟨es0,e0⟩:=h w _ _ hr';rw[e0,hsame] at e;cases e;exact⟨h1,h2,fun τ d hτ=>h _ _ _ (h3 τ d hτ)⟩
theorem runT_of {α:Type}{s:Sem α}{r:Result α}(h:s.run P w=r):∃ es,s.runT P w #[]=(r,es):=by
 have:=Sem.runT_fst P s w #[];rw[h] at this;exact⟨(s.runT P w #[]).2,by rw[← this]⟩
theorem Dead.after {s:GStep}{es:Array Event}(h:Dead s):Dead (s.after es):=by
 refine⟨fun g w2 es2 e hp=>?_,fun g cs bl sh w2 es2 e=>?_,fun g c w2 es2 e=>?_⟩
 ·cases s<;>simp[GStep.after] at e
  obtain⟨rfl,rfl,rfl⟩:=e;exact absurd hp (h.go _ _ _ rfl)
 ·cases s<;>simp[GStep.after] at e
  exact absurd rfl (h.comm _ _ _ _ _ _)
 ·cases s<;>simp[GStep.after] at e
  exact absurd rfl (h.spawn _ _ _ _)
theorem apply_loc (hw:WRel ρ w W){b B:Frame}(hf:FRel ρ b B){cs:List Frame}{s S:Sem Next}(hs:Sim P XRel ρ s S):GLoc (fun w=>stepG.apply P true b cs none s w) w:=by
 have h0:=hs.up w W #[] hw;have hl:=hs.loc w W hw;have hk:∀ d re sa k,b.todo=.call d true re sa::k→False:=fun d re sa k e=>absurd (hf.clean _ (by rw[e];exact mc' ..)) (by simp[okItem]);have hx:∀ r a k,b.todo=.extern r a::k→False:=fun r a k e=>absurd (hf.clean _ (by rw[e];exact mc' ..)) (by simp[okItem]);unfold stepG.apply;simp only[if_true];cases hr:s.run P w with
 | ok a w' =>
  rw[hr] at h0 hl;obtain⟨b',W',σ,new,h1,h2,h3⟩:=h0;cases h3 with
  | value hv=>exact GLoc.run hr (hl rfl) fun w' τ d e=>by obtain⟨es,e⟩:=runT_of e;rw[e];exact⟨_,rfl⟩
  | skip=>exact GLoc.run hr (hl rfl) fun w' τ d e=>by obtain⟨es,e⟩:=runT_of e;rw[e];exact⟨_,rfl⟩
  | enter hf' ha=>exact GLoc.run hr (hl rfl) fun w' τ d e=>by obtain⟨es,e⟩:=runT_of e;rw[e];exact⟨_,rfl⟩
  | defer hd=>exact GLoc.run hr (hl rfl) fun w' τ d e=>by obtain⟨es,e⟩:=runT_of e;rw[e];exact⟨_,rfl⟩
  | recover =>
   rw[hf.round.1];cases ht:tryRecover b cs with
   | none=>exact GLoc.run hr (hl rfl) fun w' τ d e=>by obtain⟨es,e⟩:=runT_of e;rw[e];exact⟨_,rfl⟩
   | some x=>exact GLoc.run hr (hl rfl) fun w' τ d e=>by obtain⟨es,e⟩:=runT_of e;rw[e];exact⟨_,rfl⟩
  | @spawn d D hd =>
   intro g1 w1 es e hp;obtain⟨es',e'⟩:=runT_of hr;dsimp only at e;rw[e'] at e;dsimp only at e;generalize seen P b.fn _=X at e
   repeat' split at e
   all_goals first
    | exact absurd hp ((Dead.after (Dead.dies (fr:=b))).go _ _ _ e)
    | (simp[GStep.after] at e;done)
  | comm hcc =>
   intro g1 w1 es e hp;obtain⟨es',e'⟩:=runT_of hr;dsimp only at e;rw[e'] at e;simp[GStep.after] at e
 | halt k w' =>
  rw[hr] at h0 hl;cases k
  case panic v=>exact GLoc.run hr (hl rfl) fun w' τ d e=>by obtain⟨es,e⟩:=runT_of e;rw[e];exact⟨_,rfl⟩
  all_goals
   obtain⟨es',e'⟩:=runT_of hr;refine GLoc.of_dead ?_;rw[e']
  case goexit=>cases h0
  case blocked=>cases h0
  case waiting=>cases h0
  case unsupported u=>cases u<;>first | (cases h0;done) | exact Dead.after Dead.ended
  case fatal m=>cases h0
  case throw m=>cases h0
  all_goals exact Dead.after Dead.ended
theorem exec_loc (hP:Fits P)(hw:WRel ρ w W){b B:Frame}(hf:FRel ρ b B){cs:List Frame}(hh:okHd P b.eval b.todo){m:Bool}:GLoc (fun w=>stepG.exec P m true b cs none w) w:=by
 have hf0:=hf;obtain⟨fn,tm,t,ds,mo,kd,ro⟩:=b;obtain⟨rfl,-⟩:=hf.round;have hcl:=hf.clean;dsimp only at hcl hh;have hd:∀ {o:Outcome},Dead (.ended o w):=Dead.ended;cases t with
 | nil=>exact GLoc.of_go fun w=>rfl
 | cons x k =>
  cases x with
  | code c =>
   cases c with
   | cond c x y =>
    unfold stepG.exec;dsimp only;cases he:Frame.eval ⟨fn,tm,.code (.cond c x y)::k,ds,mo,kd,none⟩ c<;>first | exact GLoc.of_go fun w=>rfl | exact GLoc.of_dead Dead.ended
   | exit id =>
    unfold stepG.exec;dsimp only;cases he:exitTo id k with
    | none=>exact GLoc.of_dead Dead.ended
    | some k'=>exact GLoc.of_go fun w=>rfl
   | goto l =>
    unfold stepG.exec;dsimp only;cases he:gotoIn l k with
    | none=>exact GLoc.of_dead Dead.ended
    | some k'=>exact GLoc.of_go fun w=>rfl
   | rangeFunc f p a c=>exact hh.elim
   | refuse why=>exact hh.elim
   | region id ops draw =>
    unfold stepG.exec;dsimp only;cases draw with
    | false=>exact GLoc.of_go fun w=>rfl
    | true =>
     simp only[Bool.not_true,Bool.false_eq_true,if_false];have hl:=(Sim.choose (P:=P) (ρ:=ρ) (q:=.order fn id)).loc w W hw;cases hr:(choose (.order fn id)).run P w with
     | halt h w'=>exact GLoc.of_dead (by rw[hr];exact Dead.ended)
     | ok t w'=>rw[hr] at hl;exact GLoc.run hr (hl rfl) fun w' τ d e=>by rw[e];exact⟨_,rfl⟩
   | _=>exact GLoc.of_go fun w=>rfl
  | inBlock id=>exact GLoc.of_go fun w=>rfl
  | inLoop c=>exact GLoc.of_go fun w=>rfl
  | inScope c=>exact GLoc.of_go fun w=>rfl
  | inRegion ops l =>
   cases l with
   | nil=>exact GLoc.of_go fun w=>rfl
   | cons i l =>
    unfold stepG.exec;dsimp only;split
    ·unfold stepG.oper
     unfold Frame.oper?;dsimp only;cases he:ops[i]? with
     | none=>exact GLoc.of_dead Dead.ended
     | some o =>
      dsimp only;obtain⟨h1,h2⟩:=hh o he;have hs:=Sim.execOp (a:=⟨tm,ds⟩) (A:=⟨B.tmps,B.defers⟩) hP o hf.tmps h1 (fun x hx=>by have:=h2 x hx;rw[evalF] at this;exact this);rw[evalF'];dsimp only;cases o.op<;>exact apply_loc hw hf0 hs
    ·exact GLoc.of_go fun w=>rfl
  | inRangeFunc l=>exact absurd (hcl _ (mc' ..)) (by simp[okItem])
  | endRangeFunc l=>exact absurd (hcl _ (mc' ..)) (by simp[okItem])
  | beginRound=>exact absurd (hcl _ (mc' ..)) (by simp[okItem])
  | call d wr re sa=>exact absurd (hcl _ (mc' ..)) (by simp[okItem])
  | extern r a=>exact absurd (hcl _ (mc' ..)) (by simp[okItem])
theorem doReturn_go {b:Frame}{cs:List Frame}{m:Bool}{v:Value}:(∃ g,∀ w,doReturn P m b cs none v w=.go g w)∨∀ w,Dead (doReturn P m b cs none v w):=by
 unfold doReturn;cases cs with
 | nil =>
  dsimp only;cases b.kind<;>first | exact .inr fun w=>Dead.ended | skip
  all_goals
   dsimp only;cases m
   ·exact .inl ⟨_,fun w=>rfl⟩
   ·simp only[Bool.not_true,Bool.false_eq_true,if_false]
    cases hi:P.inits.idxOf? b.fn with
    | none=>exact .inr fun w=>Dead.ended
    | some k=>exact .inl ⟨_,fun w=>rfl⟩
 | cons c l =>
  dsimp only;cases b.kind<;>exact .inl ⟨_,fun w=>rfl⟩
theorem callDeferred_loc (hP:Fits P)(hw:WRel ρ w W){b:Frame}{cs:List Frame}{d D:Deferred}(hd:DRel ρ d D):GLoc (fun w=>callDeferred P b cs none d w) w:=by
 have hs:=Sim.invokeFn hP hd;have h0:=hs.up w W #[] hw;have hl:=hs.loc w W hw;unfold callDeferred;obtain⟨t,ar⟩:=d;obtain⟨T,AR⟩:=D;have htg:=hd.tg;simp only at htg;cases htg
 case' fn=>simp only[Bool.false_and,Bool.false_eq_true,if_false]
 case' nil =>
  cases hm:b.mode
  case' panicking=>exact GLoc.of_dead Dead.ended
  all_goals simp only[Bool.and_false,Bool.false_eq_true,if_false]
 all_goals
  dsimp only at h0 hl ⊢;generalize invoke _ ar=si at h0 hl ⊢;cases hr:si.run P w with
  | ok a w' =>
   rw[hr] at h0 hl;obtain⟨b',W',σ,new,h1,h2,h3⟩:=h0;cases h3 with
   | enter hf' ha=>exact GLoc.run hr (hl rfl) fun w' τ d e=>by obtain⟨es,e⟩:=runT_of e;rw[e];exact⟨_,rfl⟩
   | recover =>
    rcases tryRecover b cs with _ | ⟨v,l⟩
    ·first | exact GLoc.run hr (hl rfl) (g:={frame:=b,callers:=cs,status:=.running,dying:=none}) (fun w' τ d e=>by obtain⟨es,e⟩:=runT_of e;rw[e];exact⟨_,rfl⟩) | (cases b.mode<;>exact GLoc.run hr (hl rfl) (g:={frame:=b,callers:=cs,status:=.running,dying:=none}) (fun w' τ d e=>by obtain⟨es,e⟩:=runT_of e;rw[e];exact⟨_,rfl⟩))
    ·first | exact GLoc.run hr (hl rfl) (g:={frame:=b,callers:=cs,status:=.running,dying:=none}) (fun w' τ d e=>by obtain⟨es,e⟩:=runT_of e;rw[e];exact⟨_,rfl⟩) | exact GLoc.run hr (hl rfl) (g:={frame:=b,callers:=l,status:=.running,dying:=none}) (fun w' τ d e=>by obtain⟨es,e⟩:=runT_of e;rw[e];exact⟨_,rfl⟩) | (cases b.mode<;>first | exact GLoc.run hr (hl rfl) (g:={frame:=b,callers:=cs,status:=.running,dying:=none}) (fun w' τ d e=>by obtain⟨es,e⟩:=runT_of e;rw[e];exact⟨_,rfl⟩) | exact GLoc.run hr (hl rfl) (g:={frame:=b,callers:=l,status:=.running,dying:=none}) (fun w' τ d e=>by obtain⟨es,e⟩:=runT_of e;rw[e];exact⟨_,rfl⟩))
   | _=>exact GLoc.run hr (hl rfl) fun w' τ d e=>by obtain⟨es,e⟩:=runT_of e;rw[e];exact⟨_,rfl⟩
  | halt k w' =>
   rw[hr] at h0 hl;cases k
   case panic v=>exact GLoc.run hr (hl rfl) fun w' τ d e=>by obtain⟨es,e⟩:=runT_of e;rw[e];exact⟨_,rfl⟩
   all_goals
    obtain⟨es',e'⟩:=runT_of hr;refine GLoc.of_dead ?_;rw[e']
   case goexit=>cases h0
   case blocked=>cases h0
   case waiting=>cases h0
   case fatal m=>cases h0
   case throw m=>cases h0
   all_goals exact Dead.after Dead.ended
theorem unwind_loc (hP:Fits P)(hw:WRel ρ w W){b B:Frame}(hf:FRel ρ b B){cs:List Frame}{m:Bool}:GLoc (fun w=>unwind P m b cs none w) w:=by
 unfold unwind;have hd:=hf.defers;generalize hbd:b.defers=ds at hd ⊢;generalize hBD:B.defers=DS at hd;cases hd with
 | @cons d D l L h1 h2 =>
  have hcd:=callDeferred_loc (b:={b with defers:=l}) (cs:=cs) hP hw h1;obtain⟨t,ar⟩:=d;obtain⟨T,AR⟩:=D;have htg:=h1.tg;simp only at htg;cases htg<;>exact hcd
 | nil =>
  dsimp only;cases hbm:b.mode with
  | run=>exact GLoc.of_dead Dead.ended
  | panicking c =>
   dsimp only;split
   ·exact GLoc.of_dead Dead.ended
   ·cases cs with
    | cons k1 k2=>exact GLoc.of_go fun w=>rfl
    | nil =>
     dsimp only;split
     ·exact GLoc.of_go fun w=>rfl
     ·intro g w1 es e hp
      exfalso;dsimp only at e;split at e
      ·cases e;cases hp.lives
      ·cases e
      ·cases e
  | returning =>
   dsimp only;cases hfn:P.funcs[b.fn]? with
   | none =>
    dsimp only;rcases doReturn_go (P:=P) (b:=b) (cs:=cs) (m:=m) (v:=b.tmps.getD 0 undef) with⟨g,hg⟩ | hd
    ·exact GLoc.of_go hg
    ·exact GLoc.of_dead (hd w)
   | some fn =>
    dsimp only;have hs:=Sim.results (P:=P) fn hf.tmps;have hl:=hs.loc w W hw;cases hr:(results fn b.tmps).run P w with
    | halt k w' =>
     obtain⟨es',e'⟩:=runT_of hr;refine GLoc.of_dead ?_;rw[e'];cases k<;>exact Dead.after Dead.ended
    | ok v w' =>
     rw[hr] at hl;rcases doReturn_go (P:=P) (b:=b) (cs:=cs) (m:=m) (v:=v) with⟨g,hg⟩ | hd
     ·exact GLoc.run hr (hl rfl) (g:=g) fun w' τ d e=>by
       obtain⟨es,e⟩:=runT_of e;rw[e];dsimp only[reW];rw[hg];exact⟨_,rfl⟩
     ·obtain⟨es',e'⟩:=runT_of hr
      refine GLoc.of_dead ?_;rw[e'];exact Dead.after (hd _)
theorem step_loc (hP:Fits P)(hw:WRel ρ w W){g G:Goroutine}(hg:GRel ρ g G){m:Bool}(hh:g.frame.mode=.run→okHd P g.frame.eval g.frame.todo):GLoc (fun w=>stepG P m g w) w:=by
 obtain⟨hf,hc,hs,hd⟩:=hg;obtain⟨b,cs,st,dy,of⟩:=g;simp only at hf hc hs hd hh;obtain⟨rfl,-⟩:=hd;unfold stepG;dsimp only;cases hbm:b.mode with
 | run=>exact exec_loc hP hw hf (hh hbm)
 | returning=>exact unwind_loc hP hw hf
 | panicking h=>exact unwind_loc hP hw hf
end
inductive Way (P:Program)(m:Bool)(Stop:Goroutine→World→Prop):Goroutine→World→Prop
 | stop {g:Goroutine} {w:World}:Stop g w→Way P m Stop g w
 | step' {g:Goroutine} {w:World} (g':(Nat→Question→Nat)→Nat→Goroutine) (w':(Nat→Question→Nat)→Nat→World) (es:(Nat→Question→Nat)→Nat→Array Event) :
  (g.frame.mode=.run→okHd P g.frame.eval g.frame.todo)→(∀ τ d,stepG P m g (re w τ d)=.go (g' τ d) (w' τ d) (es τ d)∧Plain (g' τ d))→(∀ τ d,Way P m Stop (g' τ d) (w' τ d))→Way P m Stop g w
theorem Way.step {P:Program}{m:Bool}{Stop:Goroutine→World→Prop}{g:Goroutine}{w:World}(h1:g.frame.mode=.run→okHd P g.frame.eval g.frame.todo)
  (h2:∀ τ d,∃ g' w' es,stepG P m g (re w τ d)=.go g' w' es∧Plain g'∧Way P m Stop g' w'):Way P m Stop g w :=
 .step' (fun τ d=>(h2 τ d).choose) (fun τ d=>(h2 τ d).choose_spec.choose) (fun τ d=>(h2 τ d).choose_spec.choose_spec.choose) h1
  (fun τ d=>⟨(h2 τ d).choose_spec.choose_spec.choose_spec.1,(h2 τ d).choose_spec.choose_spec.choose_spec.2.1⟩) (fun τ d=>(h2 τ d).choose_spec.choose_spec.choose_spec.2.2)
def Gone (P:Program)(m:Bool)(Stop:Goroutine→World→Prop):Nat→Goroutine→World→Prop
 | 0,g,w=>Stop g w
 | n+1,g,w=>Stop g w∨((g.frame.mode=.run→okHd P g.frame.eval g.frame.todo)∧∃ g' w' es,stepG P m g w=.go g' w' es∧Plain g'∧Gone P m Stop n g' w')
theorem re_re (w:World)(τ τ':Nat→Question→Nat)(d d':Nat):re (re w τ d) τ' d'=re w τ' d':=rfl
theorem re_self (w:World):re w w.tape w.drawn=w:=rfl
section
variable {P:Program}{m:Bool}{Stop:Goroutine→World→Prop}
def Blind (Stop:Goroutine→World→Prop):Prop:=∀ g w τ d,Stop g w→Stop g (re w τ d)
theorem Way.re {g:Goroutine}{w:World}(hS:Blind Stop)(h:Way P m Stop g w)(τ:Nat→Question→Nat)(d:Nat):Way P m Stop g (re w τ d):=by
 cases h with
 | stop h=>exact .stop (hS _ _ _ _ h)
 | step' g' w' es h1 h2 h3=>exact .step' g' w' es h1 (fun τ' d'=>h2 τ' d') h3
theorem Way.mono {Stop':Goroutine→World→Prop}(hS:∀ g w,Stop g w→Stop' g w){g:Goroutine}{w:World}(h:Way P m Stop g w):Way P m Stop' g w:=by
 induction h with
 | stop h=>exact .stop (hS _ _ h)
 | step' g' w' es h1 h2 _ ih=>exact .step' g' w' es h1 h2 ih
theorem Way.trans {Stop':Goroutine→World→Prop}{g:Goroutine}{w:World}(h:Way P m Stop g w)(hS:∀ g w,Stop g w→Way P m Stop' g w):Way P m Stop' g w:=by
 induction h with
 | stop h=>exact hS _ _ h
 | step' g' w' es h1 h2 _ ih=>exact .step' g' w' es h1 h2 ih
def Tied (g:Goroutine)(w:World):Prop:=∃ ρ W G,WRel ρ w W∧GRel ρ g G
theorem WRel.re {ρ:Ren}{w W:World}(h:WRel ρ w W)(τ:Nat→Question→Nat)(d:Nat):WRel ρ (Lift.re w τ d) (Lift.re W τ d) :=
 ⟨h.dom,h.inj,h.obj,fun _ _=>rfl,h.os,h.low⟩
theorem Tied.re {g:Goroutine}{w:World}(h:Tied g w)(τ:Nat→Question→Nat)(d:Nat):Tied g (Lift.re w τ d) :=
 let ⟨ρ,W,G,h1,h2⟩:=h;⟨ρ,Lift.re W τ d,G,h1.re τ d,h2⟩
theorem Tied.step (hP:Fits P){g g':Goroutine}{w w':World}{es:Array Event}(h:Tied g w)(hh:g.frame.mode=.run→okHd P g.frame.eval g.frame.todo)(e:stepG P m g w=.go g' w' es)(hp:Plain g'):Tied g' w':=by
 obtain⟨ρ,W,G,h1,h2⟩:=h;obtain⟨σ,G',W',ES,_,h3,h4⟩:=(step_sim (M:=m) hP h1 h2 (.inl rfl) (fun⟨_,e,e'⟩=>hh (e.trans e'))).go _ _ _ e hp;exact⟨σ,W',G',h4.rel,h3⟩
theorem Tied.loc (hP:Fits P){g:Goroutine}{w:World}(h:Tied g w)(hh:g.frame.mode=.run→okHd P g.frame.eval g.frame.todo):GLoc (fun w=>stepG P m g w) w:=by
 obtain⟨ρ,W,G,h1,h2⟩:=h;exact step_loc hP h1 h2 hh
theorem Gone.tail (hP:Fits P)(hS:Blind Stop):∀ {n:Nat} {g:Goroutine} {w:World} (τ:Nat→Question→Nat) (d:Nat),Tied g w→(∀ i q,w.tape (w.drawn+i) q=τ (d+i) q)→Gone P m Stop n g w→Gone P m Stop n g (re w τ d):=by
 intro n
 induction n with
 | zero=>exact fun τ d _ _ h=>hS _ _ _ _ h
 | succ n ih =>
  intro g w τ d ht hτ h;rcases h with h | ⟨hh,g',w',es,e,hp,hg⟩
  ·exact .inl (hS _ _ _ _ h)
  ·obtain⟨l1,l2,l3⟩:=ht.loc hP hh (m:=m) g' w' es e hp
   obtain⟨es',e'⟩:=l3 τ d fun i q _=>(hτ i q).symm;refine .inr ⟨hh,g',_,es',e',hp,?_⟩;refine ih τ _ (ht.step hP hh e hp) (fun i q=>?_) hg;rw[l2,show w'.drawn+i=w.drawn+(w'.drawn-w.drawn+i) by omega,hτ,Nat.add_assoc]
structure Bad (P:Program)(m:Bool)(Stop:Goroutine→World→Prop)(g:Goroutine)(w:World):Prop where
 tied:Tied g w
 not:¬ Way P m Stop g w
 runs:∀ τ d,∃ n,Gone P m Stop n g (re w τ d)
def glue (k:Nat)(τ:Nat→Question→Nat)(d:Nat)(τ':Nat→Question→Nat)(d':Nat):Nat→Question→Nat:=fun i q=>if i<k then τ (d+i) q else τ' (d'+(i-k)) q
theorem Bad.next (hP:Fits P)(hS:Blind Stop){g:Goroutine}{w:World}(h:Bad P m Stop g w) :
  ∃ τ d g' w' es,(g.frame.mode=.run→okHd P g.frame.eval g.frame.todo)∧stepG P m g (re w τ d)=.go g' w' es∧Plain g'∧Bad P m Stop g' w':=by
 have hns:∀ τ d,¬ Stop g (re w τ d):=fun τ d hs=>h.not (.stop (by have:=hS _ _ w.tape w.drawn hs;exact this));have hstep:∀ τ d,(g.frame.mode=.run→okHd P g.frame.eval g.frame.todo)∧∃ g' w' es,stepG P m g (re w τ d)=.go g' w' es∧Plain g':=by
  intro τ d;obtain⟨n,hn⟩:=h.runs τ d;cases n with
  | zero=>exact absurd hn (hns τ d)
  | succ n =>
   rcases hn with hn | ⟨hh,g',w',es,e,hp,_⟩
   ·exact absurd hn (hns τ d)
   ·exact⟨hh,g',w',es,e,hp⟩
 have hh:=(hstep w.tape w.drawn).1;by_cases hall:∀ τ d,∃ g' w' es,stepG P m g (re w τ d)=.go g' w' es∧Plain g'∧Way P m Stop g' w'
 ·exact absurd (.step hh hall) h.not
 ·obtain⟨τ,hall⟩:=Classical.not_forall.1 hall
  obtain⟨d,hall⟩:=Classical.not_forall.1 hall;obtain⟨_,g',w',es,e,hp⟩:=hstep τ d;have ht':Tied g' w':=(h.tied.re τ d).step hP hh e hp;refine⟨τ,d,g',w',es,hh,e,hp,ht',fun hw=>hall ⟨g',w',es,e,hp,hw⟩,fun τ' d'=>?_⟩;obtain⟨l1,l2,l3⟩:=(h.tied.re τ d).loc hP hh (m:=m) g' w' es e hp;have l1':d≤w'.drawn:=l1;obtain⟨n,hn⟩:=h.runs (glue (w'.drawn-d) τ d τ' d') 0;cases n with
  | zero=>exact absurd hn (hns _ _)
  | succ n =>
   rcases hn with hn | ⟨_,g2,w2,es2,e2,hp2,hg2⟩
   ·exact absurd hn (hns _ _)
   ·obtain⟨es',e'⟩:=l3 (glue (w'.drawn-d) τ d τ' d') 0 (fun i q hi=>by
     have hi':d+i<w'.drawn:=hi;show(if 0+i<w'.drawn-d then τ (d+(0+i)) q else _)=τ (d+i) q;rw[if_pos (by omega),Nat.zero_add])
    have e'':stepG P m g (re w (glue (w'.drawn-d) τ d τ' d') 0)=.go g' (re w' (glue (w'.drawn-d) τ d τ' d') (0+(w'.drawn-d))) es':=e';rw[e''] at e2;cases e2;refine⟨n,Gone.tail (w:=re w' (glue (w'.drawn-d) τ d τ' d') (0+(w'.drawn-d))) hP hS τ' d' (ht'.re _ _) (fun i q=>?_) hg2⟩;show(if 0+(w'.drawn-d)+i<w'.drawn-d then _ else τ' (d'+(0+(w'.drawn-d)+i-(w'.drawn-d))) q)=τ' (d'+i) q;rw[if_neg (by omega)];congr 1;omega
theorem way_of_gone (hP:Fits P)(hS:Blind Stop){g:Goroutine}{w:World}(ht:Tied g w)(h:∀ τ d,∃ n,Gone P m Stop n g (re w τ d)):Way P m Stop g w:=by
 apply Classical.byContradiction;intro hn;have hb:Bad P m Stop g w:=⟨ht,hn,h⟩
 let St:={x:Goroutine × World // Bad P m Stop x.1 x.2}
 have hnext:∀ x:St,∃ (τ:Nat→Question→Nat) (d:Nat) (y:St) (es:Array Event),(x.1.1.frame.mode=.run→okHd P x.1.1.frame.eval x.1.1.frame.todo)∧stepG P m x.1.1 (re x.1.2 τ d)=.go y.1.1 y.1.2 es∧Plain y.1.1:=fun x =>
  let ⟨τ,d,g',w',es,h1,h2,h3,h4⟩:=x.2.next hP hS
  ⟨τ,d,⟨(g',w'),h4⟩,es,h1,h2,h3⟩
 let τs:St→Nat→Question→Nat:=fun x=>(hnext x).choose
 let ds:St→Nat:=fun x=>(hnext x).choose_spec.choose
 let nx:St→St:=fun x=>(hnext x).choose_spec.choose_spec.choose
 have hspec:∀ x:St,∃ es,(x.1.1.frame.mode=.run→okHd P x.1.1.frame.eval x.1.1.frame.todo)∧stepG P m x.1.1 (re x.1.2 (τs x) (ds x))=.go (nx x).1.1 (nx x).1.2 es∧Plain (nx x).1.1 :=
  fun x=>(hnext x).choose_spec.choose_spec.choose_spec
 let seq:Nat→St:=fun n=>n.rec ⟨(g,w),hb⟩ fun _ x=>nx x
 have hseq:∀ n,seq (n+1)=nx (seq n):=fun n=>rfl
 let c:Nat→Nat:=fun n=>(seq (n+1)).1.2.drawn-ds (seq n)
 let S:Nat→Nat:=fun n=>n.rec 0 fun k s=>s+c k
 have hS1:∀ n,S (n+1)=S n+c n:=fun n=>rfl;have hmono:∀ a b,a≤b→S a≤S b:=by
  intro a b hab
  induction hab with
  | refl=>exact Nat.le_refl _
  | step _ ih=>rw[hS1];omega
 let T:Nat→Question→Nat:=fun i q=>open Classical in if h:∃ j,S j≤i∧i<S (j+1) then τs (seq h.choose) (ds (seq h.choose)+(i-S h.choose)) q else 0
 have hT:∀ j i q,i<c j→T (S j+i) q=τs (seq j) (ds (seq j)+i) q:=by
  intro j i q hi;have hex:∃ j',S j'≤S j+i∧S j+i<S (j'+1):=⟨j,by omega,by rw[hS1];omega⟩;show(open Classical in if h:∃ j',S j'≤S j+i∧S j+i<S (j'+1) then τs (seq h.choose) (ds (seq h.choose)+(S j+i-S h.choose)) q else 0)=_;rw[dif_pos hex];obtain⟨h1,h2⟩:=hex.choose_spec;have hj:hex.choose=j:=by
   rcases Nat.lt_trichotomy hex.choose j with q | q | q
   ·have:=hmono _ _ (Nat.succ_le_of_lt q)
    simp only[Nat.succ_eq_add_one] at this;omega
   ·exact q
   ·have:=hmono _ _ (Nat.succ_le_of_lt q)
    simp only[Nat.succ_eq_add_one,hS1] at this;omega
  rw[hj];congr 1;omega
 have hns:∀ (x:St) τ d,¬ Stop x.1.1 (re x.1.2 τ d):=fun x τ d hs=>x.2.not (.stop (by have:=hS _ _ x.1.2.tape x.1.2.drawn hs;exact this));have hrun:∀ n j,¬ Gone P m Stop n (seq j).1.1 (re (seq j).1.2 T (S j)):=by
  intro n
  induction n with
  | zero=>exact fun j hg=>hns _ _ _ hg
  | succ n ih =>
   intro j hg;rcases hg with hg | ⟨hh,g2,w2,es2,e2,hp2,hg2⟩
   ·exact hns _ _ _ hg
   ·obtain⟨es,_,e,hp⟩:=hspec (seq j)
    have ht:Tied (seq j).1.1 (re (seq j).1.2 (τs (seq j)) (ds (seq j))):=(seq j).2.tied.re _ _;obtain⟨l1,l2,l3⟩:=ht.loc hP hh (m:=m) _ _ es e hp;have l1':ds (seq j)≤(nx (seq j)).1.2.drawn:=l1;obtain⟨es',e'⟩:=l3 T (S j) (fun i q hi=>by
     have hi':ds (seq j)+i<(nx (seq j)).1.2.drawn:=hi;exact hT j i q (by show i<(seq (j+1)).1.2.drawn-ds (seq j);rw[hseq];omega))
    have e'':stepG P m (seq j).1.1 (re (seq j).1.2 T (S j))=.go (seq (j+1)).1.1 (re (seq (j+1)).1.2 T (S (j+1))) es':=e';rw[e''] at e2;cases e2;exact ih (j+1) hg2
 obtain⟨n,hn⟩:=h T 0;exact hrun n 0 hn
end
section
variable (F:FuncId→Bool)(P:Program)
def okCallD (c:Call):Bool:=c.args.all okO&&match c.callee with
 | .builtin .len=>okLen P c.argTypes
 | .builtin .append=>okApp P c.argTypes
 | .value (.func f)=>F f||okX f
 | _=>false
def okOpD:Op→Bool
 | .call c=>okCallD F P c
 | .panic _ | .go _ | .defer _ | .send .. | .recv ..=>false
 | op=>okOp P op
def okC:Code→Bool
 | .skip | .label _ | .exit _ | .ret=>true
 | .seq a b=>okC a&&okC b
 | .cond c a b=>okO c&&okC a&&okC b
 | .block _ c | .loop c | .scope c=>okC c
 | .region _ ops _=>ops.all fun o=>okOpD F P o.op
 | _=>false
def okIt:Item→Bool
 | .code c=>okC F P c
 | .inBlock _=>true
 | .inLoop c | .inScope c=>okC F P c
 | .inRegion ops l=>l.all fun i=>match ops[i]? with
  | some o=>okOpD F P o.op
  | none=>true
 | _=>false
structure Shut:Prop where
 each:∀ f,F f=true→okF f=true∧∃ fn c,P.funcs[f]?=some fn∧fn.body=some c∧(fn.name == "runtime.NumGoroutine")=false∧okC F P c=true
structure DFr (b:Frame):Prop where
 todo:∀ i∈b.todo,okIt F P i=true
 kind:b.kind=.normal
 defers:b.defers=[]
 round:b.roundOf=none
 fn:∃ fn,P.funcs[b.fn]?=some fn
end
section
variable {F:FuncId→Bool}{P:Program}{w:World}
theorem okIt_range {ops:Array Oper}{l:List Nat}(h:(ops.all fun o=>okOpD F P o.op)=true):okIt F P (.inRegion ops l)=true:=by
 refine List.all_eq_true.2 fun i _=>?_;cases e:ops[i]? with
 | none=>rfl
 | some o =>
  have:=Array.all_eq_true.1 h i (aq' e).1
  rwa [(aq' e).2] at this
theorem okIt_tail {ops:Array Oper}{i:Nat}{l:List Nat}(h:okIt F P (.inRegion ops (i::l))=true):okIt F P (.inRegion ops l)=true :=
 List.all_eq_true.2 fun j hj=>List.all_eq_true.1 h j (List.mem_cons_of_mem _ hj)
theorem okIt_head {ops:Array Oper}{i:Nat}{l:List Nat}{o:Oper}(h:okIt F P (.inRegion ops (i::l))=true)(ho:ops[i]?=some o):okOpD F P o.op=true:=by
 have:=List.all_eq_true.1 h i mc'
 rwa [ho] at this
theorem okOpD_ok (hF:Shut F P){op:Op}(h:okOpD F P op=true):okOp P op=true∧∀ x,op≠.panic x:=by
 cases op<;>first | exact⟨h,fun _ e=>by cases e⟩ | (cases h;done) | skip
 rename_i c;refine⟨?_,fun _ e=>by cases e⟩;simp only[okOpD,okCallD,Bool.and_eq_true] at h;simp only[okOp,okCall,Bool.and_eq_true];refine⟨h.1,?_⟩;have h2:=h.2;cases hc:c.callee with
 | builtin b=>rw[hc] at h2;cases b<;>first | exact h2 | (cases h2;done)
 | value f =>
  rw[hc] at h2;cases f<;>first | (cases h2;done) | skip
  rename_i f;have h3:(F f||okX f)=true:=h2;show(okF f||okX f)=true;rw[Bool.or_eq_true] at h3 ⊢;exact h3.imp (fun h=>(hF.each _ h).1) id
 | invoke r n=>rw[hc] at h2;cases h2
inductive DNext (F:FuncId→Bool):Next→Prop
 | value {v:Value}:DNext F (.value v)
 | skip:DNext F .skip
 | enter {f:FuncId} {args:Array Value}:F f=true→DNext F (.enter f args)
theorem run_v {s:Sem Value}{n:Next}{w':World}(h:(do Pure.pure (Next.value (← s)):Sem Next).run P w=.ok n w'):DNext F n:=by
 rw[run_bind] at h;cases hs:s.run P w with
 | ok a w1=>rw[hs] at h;cases h;exact .value
 | halt k w1=>rw[hs] at h;cases h
theorem run_u {s:Sem Unit}{n:Next}{w':World}(h:(do s;Pure.pure Next.skip:Sem Next).run P w=.ok n w'):DNext F n:=by
 rw[run_bind] at h;cases hs:s.run P w with
 | ok a w1=>rw[hs] at h;cases h;exact .skip
 | halt k w1=>rw[hs] at h;cases h
theorem run_p {n n':Next}{w':World}(h:(Pure.pure n:Sem Next).run P w=.ok n' w')(hn:DNext F n):DNext F n':=by
 cases h;exact hn
theorem callX_next (hP:Fits P){f:FuncId}(hf:okX f=true){c:Array Value}{n:Next}{w':World}(h:(Go.callFunc f c).run P w=.ok n w'):DNext F n:=by
 obtain⟨fn,h1,h2,h3,h4,h5⟩:=hP.hX f hf;unfold Go.callFunc at h;rw[run_bind,run_program] at h;dsimp only at h;rw[h1] at h;dsimp only at h;rw[h2,h3] at h;simp only[Bool.false_eq_true,if_false,Option.isNone_none,if_true] at h;rw[run_bind] at h;have hm:(Go.mark (.extern f)).run P w=.ok () w:=rfl;rw[hm] at h;dsimp only at h;rw[h4] at h;rcases h5 with h5 | h5
 ·rw[h5] at h
  exact run_v h
 ·rw[h5] at h
  exact run_v h
theorem op_next (hP:Fits P)(hF:Shut F P){a:Act}{o:Oper}(ho:okOpD F P o.op=true){n:Next}{w':World}(h:(execOp a.eval o).run P w=.ok n w'):DNext F n:=by
 cases e:o.op with
 | call c =>
  rw[e] at ho;simp only[okOpD,okCallD,Bool.and_eq_true] at ho;have h2:=ho.2;cases hc:c.callee with
  | builtin b =>
   rw[hc] at h2;unfold execOp at h;rw[e] at h;simp only[resolve,hc] at h;cases b<;>first | (cases h2;done) | exact run_v h
  | invoke r n=>rw[hc] at h2;cases h2
  | value f =>
   rw[hc] at h2;cases f<;>first | (cases h2;done) | skip
   rename_i f;by_cases hx:okX f=true
   ·unfold execOp at h
    rw[e] at h;simp only[resolve,hc] at h;exact callX_next hP hx (c:=c.args.map a.eval) (by
     have e2:(do let d ← Deferred.ofValue (a.eval (.func f)) (c.args.map a.eval);Go.invoke d.target d.args)=Go.callFunc f (c.args.map a.eval):=by
      show Go.callFunc f (#[]++c.args.map a.eval++#[])=_;simp
     rw[← e2];exact h)
   have h6:F f=true:=by
    have h3:(F f||okX f)=true:=h2;rw[Bool.or_eq_true] at h3;exact h3.resolve_right hx
   obtain⟨_,fn,b,h3,h4,h5,_⟩:=hF.each f h6;obtain⟨cal,ar,at_⟩:=c;simp only at hc;subst hc;rw[Conc.run_call_body e h3 h5 (by rw[h4];rfl)] at h;cases h;exact .enter h6
 | move x=>unfold execOp at h;rw[e] at h;exact run_p h .value
 | assign x=>unfold execOp at h;rw[e] at h;exact run_p h .value
 | pick c x y =>
  unfold execOp at h;rw[e] at h;dsimp only at h;rw[run_bind] at h;cases hs:(asBool (a.eval c)).run P w with
  | ok a w1=>rw[hs] at h;cases h;exact .value
  | halt k w1=>rw[hs] at h;cases h
 | nilCheck x =>
  unfold execOp at h;rw[e] at h;dsimp only at h;have hno:∀ {n:Next} {w':World},(runtimePanic .nilDeref:Sem Next).run P w≠.ok n w':=by
   intro n w' h;unfold runtimePanic at h;rw[run_bind] at h;cases h
  split at h
  ·exact absurd h hno
  ·exact absurd h hno
  ·exact absurd h hno
  ·split at h
   ·exact absurd h hno
   ·rw[run_bind] at h
    split at h
    ·rw[run_bind] at h
     split at h
     ·split at h
      ·rw[run_bind] at h
       cases h
      ·exact run_p h .value
     ·cases h
    ·cases h
   ·exact run_p h .value
  ·exact run_p h .value
 | send ch x=>rw[e] at ho;cases ho
 | recv t ch ok=>rw[e] at ho;cases ho
 | panic x=>rw[e] at ho;cases ho
 | go c=>rw[e] at ho;cases ho
 | defer c=>rw[e] at ho;cases ho
 | _=>first | (unfold execOp at h;rw[e] at h;exact run_v h) | (unfold execOp at h;rw[e] at h;exact run_u h) | (rw[e] at ho;cases ho;done)
def gs (b:Frame)(cs:List Frame):Goroutine:={frame:=b,callers:=cs,status:=.running,dying:=none}
def dm (P:Program):Frame:={(default:Frame) with fn:=P.funcs.size}
theorem dm_rel {ρ:Ren}:FRel ρ (dm P) (dm P):=⟨rfl,rfl,rfl,ARel.nil,.nil,.run,⟨rfl,rfl⟩,fun i hi=>by cases hi⟩
section
variable {b:Frame}{s:Sem Next}{w':World}
theorem apply_value {v:Value}(h:s.run P w=.ok (.value v) w'):∃ es,∀ cs,stepG.apply P true b cs none s w=.go (gs (b.finish v) cs) w' es:=by
 obtain⟨es,e⟩:=runT_of h;exact⟨_,fun cs=>by unfold stepG.apply;simp only[if_true];rw[e];rfl⟩
theorem apply_skip (h:s.run P w=.ok .skip w'):∃ es,∀ cs,stepG.apply P true b cs none s w=.go (gs (b.finish undef) cs) w' es:=by
 obtain⟨es,e⟩:=runT_of h;exact⟨_,fun cs=>by unfold stepG.apply;simp only[if_true];rw[e];rfl⟩
theorem apply_enter {f:FuncId}{args:Array Value}(hb:∀ d re sa k,b.todo=.call d true re sa::k→False)(h:s.run P w=.ok (.enter f args) w') :
  ∃ es,∀ cs,stepG.apply P true b cs none s w=.go (gs (Frame.enter P f args .normal) (b::cs)) w' es:=by
 obtain⟨es,e⟩:=runT_of h;exact⟨_,fun cs=>by unfold stepG.apply;simp only[if_true];rw[e];rfl⟩
theorem apply_panic {v:Value}(h:s.run P w=.halt (.panic v) w'):∃ es,∀ cs,stepG.apply P true b cs none s w=.go (gs (b.raise [{v,recovered:=false}]) cs) w' es:=by
 obtain⟨es,e⟩:=runT_of h;exact⟨_,fun cs=>by unfold stepG.apply;simp only[if_true];rw[e];rfl⟩
theorem apply_quiet {k:Halt}(hq:quiet k=true)(h:s.run P w=.halt k w'):∃ o es,∀ cs,stepG.apply P true b cs none s w=.ended o w' es:=by
 obtain⟨es,e⟩:=runT_of h;cases k<;>first | (cases hq;done) | skip
 case unsupported u =>
  cases u<;>first | (cases hq;done) | exact⟨_,_,fun cs=>by unfold stepG.apply;simp only[if_true];rw[e];rfl⟩
 case stuck m=>exact⟨_,_,fun cs=>by unfold stepG.apply;simp only[if_true];rw[e];rfl⟩
end
structure DSt (F:FuncId→Bool)(P:Program)(b:Frame)(l:List Frame):Prop where
 top:DFr F P b
 rest:∀ c∈l,DFr F P c∧c.mode=.run
theorem okHd_of (hF:Shut F P){b:Frame}{t:List Item}(h:∀ i∈t,okIt F P i=true):okHd P b.eval t:=by
 cases t with
 | nil=>trivial
 | cons x k =>
  have hx:=h x (mc' ..);cases x with
  | code c =>
   cases c<;>first | trivial | (cases hx;done) | skip
   simp only[okIt,okC,Bool.and_eq_true] at hx;exact hx.1.1
  | inRegion ops l =>
   cases l with
   | nil=>trivial
   | cons i l =>
    intro o ho;obtain⟨h1,h2⟩:=okOpD_ok hF (okIt_head hx ho);exact⟨h1,fun x hx=>absurd hx (h2 x)⟩
  | _=>trivial
theorem DFr.finish {b:Frame}(h:DFr F P b)(v:Value):DFr F P (b.finish v)∧(b.finish v).mode=b.mode:=by
 obtain⟨h1,h2,h3,h4,h5⟩:=h;unfold Frame.finish;split
 ·rename_i ops i rest k e
  refine⟨⟨fun x hx=>?_,h2,h3,h4,h5⟩,rfl⟩;rcases List.mem_cons.1 hx with rfl | hx
  ·exact okIt_tail (h1 (.inRegion ops (i::rest)) (by rw[e];exact mc' ..))
  ·exact h1 x (by rw[e];exact List.mem_cons_of_mem _ hx)
 ·rename_i e
  exact absurd (h1 _ (by rw[e];exact mc' ..)) (by simp[okIt])
 ·rename_i e
  exact absurd (h1 _ (by rw[e];exact mc' ..)) (by simp[okIt])
 ·rename_i e
  exact absurd (h1 _ (by rw[e];exact mc' ..)) (by simp[okIt])
 ·rename_i e
  exact absurd (h1 _ (by rw[e];exact mc' ..)) (by simp[okIt])
 ·exact⟨⟨h1,h2,h3,h4,h5⟩,rfl⟩
theorem DFr.raise {b:Frame}(h:DFr F P b)(vs:List PanicEntry):DFr F P (b.raise vs):=by
 obtain⟨h1,h2,h3,h4,h5⟩:=h;unfold Frame.raise;split<;>exact⟨h1,h2,h3,h4,h5⟩
theorem DFr.enter (hF:Shut F P){f:FuncId}(hf:F f=true)(args:Array Value):DFr F P (Frame.enter P f args .normal)∧(Frame.enter P f args .normal).mode=.run:=by
 obtain⟨_,fn,c,h1,h2,_,h3⟩:=hF.each f hf;refine⟨⟨fun i hi=>?_,rfl,rfl,rfl,fn,h1⟩,rfl⟩;simp only[Frame.enter,h1,Option.bind_some,h2,Option.getD_some,List.mem_cons,List.not_mem_nil,or_false] at hi;subst hi;exact h3
theorem DFr.clean {b:Frame}(h:DFr F P b):∀ d re sa k,b.todo=.call d true re sa::k→False:=fun d re sa k e=>absurd (h.todo _ (by rw[e];exact mc' ..)) (by simp[okIt])
inductive DRes (F:FuncId→Bool)(P:Program)(b:Frame)(l:List Frame)(w:World):Prop
 | go (b':Frame) (l':List Frame) (w':World) (es:Array Event):DSt F P b' l'→(∀ low m,low≠[]→stepG P m (gs b (l++low)) w=.go (gs b' (l'++low)) w' es)→DRes F P b l w
 | ended:(∀ low m,low≠[]→∃ o w' es,stepG P m (gs b (l++low)) w=.ended o w' es)→DRes F P b l w
 | ret (v:Value) (w':World) (es:Array Event):l=[]→(∀ c low m,stepG P m (gs b (c::low)) w=.go (gs (c.finish v) low) w' es)→DRes F P b l w
 | panic (chain:List PanicEntry) (w':World) (es:Array Event):l=[]→(∀ c low m,stepG P m (gs b (c::low)) w=.go (gs (c.raise chain) low) w' es)→DRes F P b l w
theorem exec_deep (hP:Fits P)(hF:Shut F P){l:List Frame}{b:Frame}(ht:Tied (gs b (l++[dm P])) w)(hd:DSt F P b l)(hm:b.mode=.run):DRes F P b l w:=by
 have hh:okHd P b.eval b.todo:=okHd_of hF hd.top.todo;have htop:=hd.top;obtain⟨ρ,W,G,hw,hg⟩:=ht;have hf:=hg.frame;simp only[gs] at hf;obtain⟨fn,tm,t,ds,mo,kd,ro⟩:=b;obtain rfl:mo=.run:=hm;obtain rfl:ro=none:=hd.top.round;obtain rfl:kd=.normal:=hd.top.kind;obtain rfl:ds=[]:=hd.top.defers;have hcl:=hd.top.todo;have hfn:=hd.top.fn;dsimp only at hcl hh hfn;have ex:∀ cs m,stepG P m (gs ⟨fn,tm,t,[],.run,.normal,none⟩ cs) w=stepG.exec P m true ⟨fn,tm,t,[],.run,.normal,none⟩ cs none w:=fun _ _=>rfl;have hto:∀ {t':List Item},(∀ i∈t',okIt F P i=true)→DSt F P ⟨fn,tm,t',[],.run,.normal,none⟩ l:=fun h=>⟨⟨h,rfl,rfl,rfl,hfn⟩,hd.rest⟩;have hback:DSt F P ⟨fn,tm,t,[],.returning,.normal,none⟩ l:=⟨⟨hcl,rfl,rfl,rfl,hfn⟩,hd.rest⟩;cases t with
 | nil=>exact .go _ l w #[] hback fun low m _=>rfl
 | cons x k =>
  have hk:∀ i∈k,okIt F P i=true:=fun i hi=>hcl i (List.mem_cons_of_mem _ hi);have hx:=hcl x (mc' ..);have hk1:∀ {y:Item},okIt F P y=true→∀ i∈y::k,okIt F P i=true:=fun hy i hi=>by
   rcases List.mem_cons.1 hi with rfl | hi
   ·exact hy
   ·exact hk i hi
  have hk2:∀ {y z:Item},okIt F P y=true→okIt F P z=true→∀ i∈y::z::k,okIt F P i=true:=fun hy hz i hi=>by
   rcases List.mem_cons.1 hi with rfl | hi
   ·exact hy
   ·exact hk1 hz i hi
  cases x with
  | code c =>
   cases c with
   | skip=>exact .go _ l w #[] (hto hk) fun low m _=>rfl
   | label l'=>exact .go _ l w #[] (hto hk) fun low m _=>rfl
   | seq x y =>
    simp only[okIt,okC,Bool.and_eq_true] at hx;exact .go _ l w #[] (hto (hk2 (y:=.code x) (z:=.code y) hx.1 hx.2)) fun low m _=>rfl
   | cond c x y =>
    simp only[okIt,okC,Bool.and_eq_true] at hx;cases he:Frame.eval ⟨fn,tm,.code (.cond c x y)::k,[],.run,.normal,none⟩ c with
    | bool t =>
     refine .go _ l w #[] (hto (t':=.code (if t then x else y)::k) (hk1 (by cases t;exact hx.2;exact hx.1.2))) fun low m _=>?_;rw[ex];unfold stepG.exec;dsimp only;rw[he];rfl
    | _ =>
     refine .ended fun low m _=>⟨.stuck "cond: bool expected" (Frame.pos P ⟨fn,tm,.code (.cond c x y)::k,[],.run,.normal,none⟩),w,#[],?_⟩;rw[ex];unfold stepG.exec;dsimp only;rw[he]
   | block id c=>exact .go _ l w #[] (hto (hk2 (y:=.code c) (z:=.inBlock id) hx rfl)) fun low m _=>rfl
   | loop c=>exact .go _ l w #[] (hto (hk2 (y:=.code c) (z:=.inLoop c) hx hx)) fun low m _=>rfl
   | scope c=>exact .go _ l w #[] (hto (hk2 (y:=.code c) (z:=.inScope c) hx hx)) fun low m _=>rfl
   | exit id =>
    cases he:exitTo id k with
    | none =>
     refine .ended fun low m _=>⟨.stuck "exit, goto: no such block or label" (Frame.pos P ⟨fn,tm,.code (.exit id)::k,[],.run,.normal,none⟩),w,#[],?_⟩;rw[ex];unfold stepG.exec;dsimp only;rw[he];rfl
    | some k' =>
     refine .go _ l w #[] (hto (t':=k') fun i hi=>hk i (exitTo_clean he i hi)) fun low m _=>?_;rw[ex];unfold stepG.exec;dsimp only;rw[he];rfl
   | goto l'=>cases hx
   | rangeFunc f p a c=>cases hx
   | refuse why=>cases hx
   | ret=>exact .go _ l w #[] hback fun low m _=>rfl
   | region id ops draw =>
    cases draw with
    | false=>exact .go _ l w #[] (hto (t':=.inRegion ops (List.range ops.size)::k) (hk1 (okIt_range hx))) fun low m _=>rfl
    | true =>
     cases hr:(choose (.order fn id)).run P w with
     | halt h w' =>
      refine .ended fun low m _=>⟨.stuck "order" (Frame.pos P ⟨fn,tm,.code (.region id ops true)::k,[],.run,.normal,none⟩),w',#[],?_⟩;rw[ex];unfold stepG.exec;simp only[Bool.not_true,Bool.false_eq_true,if_false];rw[hr]
     | ok t w' =>
      refine .go _ l w' #[] (hto (t':=.inRegion ops (Region.schedule (P.follows .mixedOrders) ops t)::k) (hk1 (okIt_range hx))) fun low m _=>?_;rw[ex];unfold stepG.exec;simp only[Bool.not_true,Bool.false_eq_true,if_false];rw[hr];rfl
  | inBlock id=>exact .go _ l w #[] (hto hk) fun low m _=>rfl
  | inLoop c=>exact .go _ l w #[] (hto (hk2 (y:=.code c) (z:=.inLoop c) hx hx)) fun low m _=>rfl
  | inScope c=>exact .go _ l w #[] (hto hk) fun low m _=>rfl
  | inRegion ops li =>
   cases li with
   | nil=>exact .go _ l w #[] (hto hk) fun low m _=>rfl
   | cons i li =>
    by_cases hwt:((ops[i]?).map (Region.wanted · (yielded ops tm))).getD false=true
    ·cases he:ops[i]? with
     | none=>rw[he] at hwt;cases hwt
     | some o =>
      have hop:∀ cs m,stepG P m (gs ⟨fn,tm,.inRegion ops (i::li)::k,[],.run,.normal,none⟩ cs) w=stepG.apply P true ⟨fn,tm,.inRegion ops (i::li)::k,[],.run,.normal,none⟩ cs none (execOp (Act.eval ⟨tm,[]⟩) o) w:=by
       intro cs m;rw[ex];unfold stepG.exec;dsimp only;rw[if_pos hwt];unfold stepG.oper;unfold Frame.oper?;dsimp only;rw[he];dsimp only;rw[evalF']
      have hob:=okIt_head hx he;obtain⟨h1,h2⟩:=hh o he;have hs:=Sim.execOp (a:=⟨tm,[]⟩) (A:=⟨G.frame.tmps,G.frame.defers⟩) hP o hf.tmps h1 (fun x hx=>by have:=h2 x hx;rw[evalF] at this;exact this);have h0:=hs.up w W #[] hw;cases hr:(execOp (Act.eval ⟨tm,[]⟩) o).run P w with
      | ok n w' =>
       have hn:=op_next hP hF (a:=⟨tm,[]⟩) hob hr;cases hn with
       | value =>
        obtain⟨es,e⟩:=apply_value (b:=⟨fn,tm,.inRegion ops (i::li)::k,[],.run,.normal,none⟩) hr;exact .go _ l w' es ⟨(htop.finish _).1,hd.rest⟩ fun low m _=>by rw[hop,e]
       | skip =>
        obtain⟨es,e⟩:=apply_skip (b:=⟨fn,tm,.inRegion ops (i::li)::k,[],.run,.normal,none⟩) hr;exact .go _ l w' es ⟨(htop.finish _).1,hd.rest⟩ fun low m _=>by rw[hop,e]
       | enter hf' =>
        obtain⟨es,e⟩:=apply_enter (b:=⟨fn,tm,.inRegion ops (i::li)::k,[],.run,.normal,none⟩) htop.clean hr;exact .go _ (_::l) w' es ⟨(DFr.enter hF hf' _).1,fun c hc=>by
         rcases List.mem_cons.1 hc with rfl | hc
         ·exact⟨htop,rfl⟩
         ·exact hd.rest c hc⟩ fun low m _=>by rw[hop,e];rfl
      | halt kk w' =>
       rw[hr] at h0;by_cases hq:quiet kk=true
       ·obtain⟨o',es,e⟩:=apply_quiet (b:=⟨fn,tm,.inRegion ops (i::li)::k,[],.run,.normal,none⟩) hq hr
        exact .ended fun low m _=>⟨o',w',es,by rw[hop,e]⟩
       ·cases kk<;>first | exact absurd h0 hq | skip
        obtain⟨es,e⟩:=apply_panic (b:=⟨fn,tm,.inRegion ops (i::li)::k,[],.run,.normal,none⟩) hr;exact .go _ l w' es ⟨htop.raise _,hd.rest⟩ fun low m _=>by rw[hop,e]
    ·refine .go _ l w #[] ⟨(htop.finish undef).1,hd.rest⟩ fun low m _=>?_
     rw[ex];unfold stepG.exec;dsimp only;rw[if_neg hwt];rfl
  | inRangeFunc l=>cases hx
  | endRangeFunc l=>cases hx
  | beginRound=>cases hx
  | call d wr re sa=>cases hx
  | extern r a=>cases hx
theorem deep_step (hP:Fits P)(hF:Shut F P){l:List Frame}{b:Frame}(ht:Tied (gs b (l++[dm P])) w)(hd:DSt F P b l):DRes F P b l w:=by
 cases hm:b.mode with
 | run=>exact exec_deep hP hF ht hd hm
 | panicking chain =>
  obtain⟨fn,hfn⟩:=hd.top.fn;have hca:b.catches P=false:=by
   unfold Frame.catches;rw[hfn]
  have e:∀ c low m,stepG P m (gs b (c::low)) w=.go (gs (c.raise chain) low) w #[]:=fun c low m=>by
   unfold gs stepG;dsimp only;rw[hm];dsimp only;unfold unwind;rw[hd.top.defers,hm];simp only[hca];rfl
  cases l with
  | nil=>exact .panic chain w #[] rfl e
  | cons c l=>exact .go (c.raise chain) l w #[] ⟨(hd.rest c (mc' ..)).1.raise _,fun x hx=>hd.rest x (List.mem_cons_of_mem _ hx)⟩ fun low m _=>e c (l++low) m
 | returning =>
  obtain⟨fn,hfn⟩:=hd.top.fn;have hu:∀ cs m,stepG P m (gs b cs) w=unwind P m b cs none w:=fun cs m=>by
   unfold gs stepG;dsimp only;rw[hm]
  cases hr:(results fn b.tmps).run P w with
  | halt k w' =>
   obtain⟨es,e⟩:=runT_of hr;refine .ended fun low m _=>?_;rw[hu];unfold unwind;rw[hd.top.defers,hm];dsimp only;rw[hfn];dsimp only;rw[e];cases k<;>exact⟨_,_,_,rfl⟩
  | ok v w' =>
   obtain⟨es,e⟩:=runT_of hr;have e2:∀ c low m,stepG P m (gs b (c::low)) w=.go (gs (c.finish v) low) w' (seen P b.fn es++#[]):=fun c low m=>by
    rw[hu];unfold unwind;rw[hd.top.defers,hm];dsimp only;rw[hfn];dsimp only;rw[e];unfold doReturn;dsimp only;rw[hd.top.kind];rfl
   cases l with
   | nil=>exact .ret v w' _ rfl e2
   | cons c l=>exact .go (c.finish v) l w' _ ⟨((hd.rest c (mc' ..)).1.finish v).1,fun x hx=>hd.rest x (List.mem_cons_of_mem _ hx)⟩ fun low m _=>e2 c (l++low) m
end
def c0 (P:Program):Frame:={(default:Frame) with fn:=P.funcs.size,todo:=[.call default false "fmt's door" #[]],defers:=[{target:=.nil,args:=#[]}]}
theorem noRow:Extern.next "fmt's door" = none:=by decide
section
variable {F:FuncId→Bool}{P:Program}{w:World}
theorem c0_finish (v:Value):∃ o,stepG P true (gs ((c0 P).finish v) []) w=.ended o w:=by
 refine⟨.stuck ("no extern row " ++ "fmt's door") (Frame.pos P ((c0 P).finish v)),?_⟩;show stepG.exec P true true ((c0 P).finish v) [] none w=_;unfold stepG.exec;simp only[c0,Frame.finish,noRow,Option.elim_none]
theorem c0_raise (ch:List PanicEntry):∃ o,stepG P true (gs ((c0 P).raise ch) []) w=.ended o w:=by
 refine⟨.unsupported (.noEntry "machine/Return: a deferred call of a nil function value, made while the frame is unwinding") (Frame.pos P { (c0 P).raise ch with defers:=[]}),?_⟩;show unwind P true ((c0 P).raise ch) [] none w=_;unfold unwind;rw[show((c0 P).raise ch).defers=[{target:=.nil,args:=#[]}] from rfl];dsimp only;unfold callDeferred;rfl
theorem lone_ended {b:Frame}{cs:List Frame}{o:Outcome}{w':World}{es:Array Event}(h:stepG P true (gs b cs) w=.ended o w' es):step P (lone b cs w)=.ended o w' :=
 step_lone_ended (by show(stepG P true (gs b cs) w).bare=_;rw[h];rfl)
theorem lone_go {b b':Frame}{cs cs':List Frame}{w':World}{es:Array Event}(h:stepG P true (gs b cs) w=.go (gs b' cs') w' es):step P (lone b cs w)=.next (lone b' cs' w') :=
 step_lone_go (by show(stepG P true (gs b cs) w).bare=_;rw[h];rfl)
theorem lone_left {b fr:Frame}{w1:World}(h:∃ o,stepG P true (gs b []) w=.ended o w)(n:Nat):runN P n (lone b [] w)≠.next (lone fr [c0 P] w1):=by
 obtain⟨o,h⟩:=h;cases n with
 | zero =>
  intro e;simp only[runN,Stepped.next.injEq] at e;have:=congrArg (fun m:Machine=>(m.gs[0]?).map (·.callers.length)) e;simp[lone] at this
 | succ n =>
  rw[runN,lone_ended h];intro e;cases e
theorem lone_inj {b b':Frame}{cs cs':List Frame}{w w':World}(h:lone b cs w=lone b' cs' w'):b=b'∧cs=cs'∧w=w':=by
 have h1:=congrArg (fun m:Machine=>m.world) h;have h2:=congrArg (fun m:Machine=>m.gs[0]?) h;simp only[lone] at h1 h2;simp at h2;exact⟨h2.1,h2.2,h1⟩
theorem Tied.low (hP:Fits P){b:Frame}{l low:List Frame}(h:Tied (gs b (l++low)) w):Tied (gs b (l++[dm P])) w:=by
 obtain⟨ρ,W,G,h1,h2⟩:=h;have key:∀ {l:List Frame} {L:List Frame},FsRel ρ (l++low) L→∃ L',FsRel ρ (l++[dm P]) L':=by
  intro l
  induction l with
  | nil=>exact fun _=>⟨[dm P],.cons dm_rel .nil⟩
  | cons x l ih =>
   intro L hL;cases hL with
   | cons a b =>
    obtain⟨L',h'⟩:=ih b;exact⟨_::L',.cons a h'⟩
 obtain⟨L',hL'⟩:=key (l:=l) h2.callers;exact⟨ρ,W,gs G.frame L',h1,⟨h2.frame,hL',rfl,rfl,rfl⟩⟩
theorem gone_of_lone (hP:Fits P)(hF:Shut F P){fr:Frame}{w1:World}{v:Value}(hl:fr.leaving P w1 (.returned v)){R:Value→World→Prop}(hR:R v w1)(c:Frame)(low:List Frame)(m:Bool) :
  ∀ (n:Nat) (b:Frame) (l:List Frame) (w:World),Tied (gs b (l++[dm P])) w→DSt F P b l→runN P n (lone b (l++[c0 P]) w)=.next (lone fr [c0 P] w1) →
   Gone P m (fun g w'=>∃ v,g=gs (c.finish v) low∧R v w') (n+1) (gs b (l++c::low)) w:=by
 intro n
 induction n with
 | zero =>
  intro b l w ht hd hr;simp only[runN,Stepped.next.injEq] at hr;obtain⟨rfl,hcs,rfl⟩:=lone_inj hr;have hl0:l=[]:=by
   cases l with
   | nil=>rfl
   | cons x l=>have:=congrArg List.length hcs;simp at this
  subst hl0;obtain⟨hm,hde,hk,fn,hfn,hres⟩:=hl;obtain⟨es,e⟩:=runT_of hres;refine .inr ⟨(fun hmr=>by rw[show(gs b ([]++c::low)).frame.mode=b.mode from rfl,hm] at hmr;cases hmr),gs (c.finish v) low,w,seen P b.fn es++#[],?_,⟨rfl,rfl⟩,v,rfl,hR⟩;show stepG P m (gs b (c::low)) w=_;unfold gs stepG;dsimp only;rw[hm];dsimp only;unfold unwind;rw[hde,hm];dsimp only;rw[hfn];dsimp only;rw[e];unfold doReturn;dsimp only;rw[hk];rfl
 | succ n ih =>
  intro b l w ht hd hr;rw[runN] at hr;have hh:(gs b (l++c::low)).frame.mode=.run→okHd P (gs b (l++c::low)).frame.eval (gs b (l++c::low)).frame.todo:=fun _=>okHd_of hF hd.top.todo;cases deep_step hP hF ht hd with
  | go b' l' w' es hd' e =>
   rw[lone_go (e [c0 P] true (by simp))] at hr;have ht':Tied (gs b' (l'++[dm P])) w':=ht.step (m:=true) hP (fun _=>okHd_of hF hd.top.todo) (e [dm P] true (by simp)) ⟨rfl,rfl⟩;exact .inr ⟨hh,_,w',es,e (c::low) m (by simp),⟨rfl,rfl⟩,ih b' l' w' ht' hd' hr⟩
  | ended e =>
   obtain⟨o,w',es,e⟩:=e [c0 P] true (by simp);rw[lone_ended e] at hr;cases hr
  | ret v w' es hl0 e =>
   subst hl0;rw[List.nil_append,lone_go (e (c0 P) [] true)] at hr;exact absurd hr (lone_left (c0_finish v) n)
  | panic ch w' es hl0 e =>
   subst hl0;rw[List.nil_append,lone_go (e (c0 P) [] true)] at hr;exact absurd hr (lone_left (c0_raise ch) n)
theorem way_call (hP:Fits P)(hF:Shut F P){f:FuncId}(hf:F f=true){args:Array Value}{R:Value→World→Prop}(hR:∀ v w τ d,R v w→R v (re w τ d))
  (hc:∀ τ d,Calls P f args (re w τ d) fun e w'=>∃ v,e=.returned v∧R v w') {c:Frame} {low:List Frame} {m:Bool} (ht:Tied (gs (Frame.enter P f args .normal) (c::low)) w) :
  Way P m (fun g w'=>∃ v,g=gs (c.finish v) low∧R v w') (gs (Frame.enter P f args .normal) (c::low)) w:=by
 refine way_of_gone hP (fun g w τ d ⟨v,h1,h2⟩=>⟨v,h1,hR _ _ _ _ h2⟩) ht fun τ d=>?_;obtain⟨e,w',fr,⟨v,rfl,hRv⟩,⟨n,hn⟩,-,hl⟩:=hc τ d [c0 P];exact⟨n+1,gone_of_lone hP hF hl hRv c low m n _ [] _ ((ht.low hP (l:=[])).re τ d) ⟨(DFr.enter hF hf args).1,fun x hx=>by cases hx⟩ hn⟩
end
def k0:List Item:=[.code (.refuse "")]
theorem exitTo_append {id:Nat}{k:List Item}:∀ {t t':List Item},exitTo id t=some t'→exitTo id (t++k)=some (t'++k)
 | [],_,h=>by simp[exitTo] at h
 | x::t,t',h=>by
  cases x<;>simp only[exitTo,List.cons_append] at h ⊢<;>first | exact exitTo_append h | skip
  split at h
  ·rename_i e
   rw[if_pos e];cases h;rfl
  ·rename_i e
   rw[if_neg e];exact exitTo_append h
theorem exitTo_k0 {id:Nat}:∀ {t:List Item},exitTo id t=none→exitTo id (t++k0)=none
 | [],_=>rfl
 | x::t,h=>by
  cases x<;>simp only[exitTo,List.cons_append] at h ⊢<;>first | exact exitTo_k0 h | skip
  split at h
  ·cases h
  ·rename_i e
   rw[if_neg e];exact exitTo_k0 h
section
variable {F:FuncId→Bool}{P:Program}{w:World}
inductive BRes (F:FuncId→Bool)(P:Program)(fn:FuncId)(tm:Array Value)(t:List Item)(w:World):Prop
 | go (tm':Array Value) (t':List Item) (w':World):(∀ i∈t',okIt F P i=true) →
   (∀ (b:Frame),b.fn=fn→b.kind≠.early→∀ ds k cs m,∃ es,stepG P m (gs (b.at ⟨tm,ds⟩ (t++k)) cs) w=.go (gs (b.at ⟨tm',ds⟩ (t'++k)) cs) w' es)→BRes F P fn tm t w
 | enter (f:FuncId) (args:Array Value) (w':World) (ops:Array Oper) (i:Nat) (rest:List Nat) (tt:List Item):t=.inRegion ops (i::rest)::tt→F f=true →
   (∀ (b:Frame),b.fn=fn→b.kind≠.early→∀ ds k cs m,∃ es,stepG P m (gs (b.at ⟨tm,ds⟩ (t++k)) cs) w=.go (gs (Frame.enter P f args .normal) (b.at ⟨tm,ds⟩ (t++k)::cs)) w' es)→BRes F P fn tm t w
 | bad:(∀ (b:Frame),b.fn=fn→b.kind≠.early→∀ ds cs m,∃ o w' es,stepG P m (gs (b.at ⟨tm,ds⟩ (t++k0)) cs) w=.ended o w' es)→BRes F P fn tm t w
 | out (mo:FrameMode) (w':World):mo≠.run→(∀ (b:Frame),b.fn=fn→b.kind≠.early→∀ ds k cs m,∃ es,stepG P m (gs (b.at ⟨tm,ds⟩ (t++k)) cs) w=.go (gs { b.at ⟨tm,ds⟩ (t++k) with mode:=mo} cs) w' es)→BRes F P fn tm t w
theorem seg_step (hP:Fits P)(hF:Shut F P){fn:FuncId}{tm TM:Array Value}{t:List Item}{ρ:Ren}{W:World}(hw:WRel ρ w W)(ha:ARel ρ tm TM)(hn:t≠[])(hcl:∀ i∈t,okIt F P i=true):BRes F P fn tm t w:=by
 have ex:∀ (b:Frame) ds k cs m,stepG P m (gs (b.at ⟨tm,ds⟩ (t++k)) cs) w=stepG.exec P m true (b.at ⟨tm,ds⟩ (t++k)) cs none w:=fun _ _ _ _ _=>rfl;have hgo:∀ {t':List Item},(∀ i∈t',okIt F P i=true)→(∀ (b:Frame) ds k cs m,stepG P m (gs (b.at ⟨tm,ds⟩ (t++k)) cs) w=.go (gs (b.at ⟨tm,ds⟩ (t'++k)) cs) w #[])→BRes F P fn tm t w :=
  fun h e=>.go tm _ w h fun b _ _ ds k cs m=>⟨#[],e b ds k cs m⟩
 cases t with
 | nil=>exact absurd rfl hn
 | cons x k =>
  have hk:∀ i∈k,okIt F P i=true:=fun i hi=>hcl i (List.mem_cons_of_mem _ hi);have hx:=hcl x (mc' ..);have hk1:∀ {y:Item},okIt F P y=true→∀ i∈y::k,okIt F P i=true:=fun hy i hi=>by
   rcases List.mem_cons.1 hi with rfl | hi
   ·exact hy
   ·exact hk i hi
  have hk2:∀ {y z:Item},okIt F P y=true→okIt F P z=true→∀ i∈y::z::k,okIt F P i=true:=fun hy hz i hi=>by
   rcases List.mem_cons.1 hi with rfl | hi
   ·exact hy
   ·exact hk1 hz i hi
  cases x with
  | code c =>
   cases c with
   | skip=>exact hgo hk fun _ _ _ _ _=>rfl
   | label l'=>exact hgo hk fun _ _ _ _ _=>rfl
   | seq x y =>
    simp only[okIt,okC,Bool.and_eq_true] at hx;exact hgo (hk2 (y:=.code x) (z:=.code y) hx.1 hx.2) fun _ _ _ _ _=>rfl
   | cond c x y =>
    simp only[okIt,okC,Bool.and_eq_true] at hx;have hev:∀ (b:Frame) ds k',(b.at ⟨tm,ds⟩ (.code (.cond c x y)::k++k')).eval c=Act.eval ⟨tm,[]⟩ c:=fun b ds k'=>by cases c<;>rfl
    cases he:Act.eval ⟨tm,[]⟩ c with
    | bool t =>
     refine hgo (t':=.code (if t then x else y)::k) (hk1 (by cases t;exact hx.2;exact hx.1.2)) fun b ds k' cs m=>?_;rw[ex];unfold stepG.exec;have h':=hev b ds k';rw[he] at h';simp only[Frame.at,List.cons_append] at h' ⊢;rw[h'];rfl
    | _ =>
     refine .bad fun b _ _ ds cs m=>⟨.stuck "cond: bool expected" (Frame.pos P (b.at ⟨tm,ds⟩ (.code (.cond c x y)::k++k0))),w,#[],?_⟩;rw[ex];unfold stepG.exec;have h':=hev b ds k0;rw[he] at h';simp only[Frame.at,List.cons_append] at h' ⊢;rw[h']
   | block id c=>exact hgo (hk2 (y:=.code c) (z:=.inBlock id) hx rfl) fun _ _ _ _ _=>rfl
   | loop c=>exact hgo (hk2 (y:=.code c) (z:=.inLoop c) hx hx) fun _ _ _ _ _=>rfl
   | scope c=>exact hgo (hk2 (y:=.code c) (z:=.inScope c) hx hx) fun _ _ _ _ _=>rfl
   | exit id =>
    cases he:exitTo id k with
    | none =>
     refine .bad fun b _ _ ds cs m=>⟨.stuck "exit, goto: no such block or label" (Frame.pos P (b.at ⟨tm,ds⟩ (.code (.exit id)::k++k0))),w,#[],?_⟩;rw[ex];unfold stepG.exec;simp only[Frame.at,List.cons_append];rw[exitTo_k0 he];rfl
    | some k' =>
     refine hgo (t':=k') (fun i hi=>hk i (exitTo_clean he i hi)) fun b ds kk cs m=>?_;rw[ex];unfold stepG.exec;simp only[Frame.at,List.cons_append];rw[exitTo_append he];rfl
   | goto l'=>cases hx
   | rangeFunc f p a c=>cases hx
   | refuse why=>cases hx
   | ret=>exact .out .returning w (by simp) fun b _ _ ds k cs m=>⟨#[],rfl⟩
   | region id ops draw =>
    cases draw with
    | false=>exact hgo (t':=.inRegion ops (List.range ops.size)::k) (hk1 (okIt_range hx)) fun _ _ _ _ _=>rfl
    | true =>
     cases hr:(choose (.order fn id)).run P w with
     | halt h w' =>
      refine .bad fun b hb _ ds cs m=>⟨.stuck "order" (Frame.pos P (b.at ⟨tm,ds⟩ (.code (.region id ops true)::k++k0))),w',#[],?_⟩;rw[ex];unfold stepG.exec;simp only[Frame.at,List.cons_append,Bool.not_true,Bool.false_eq_true,if_false,hb];rw[hr]
     | ok t w' =>
      refine .go tm (.inRegion ops (Region.schedule (P.follows .mixedOrders) ops t)::k) w' (hk1 (okIt_range hx)) fun b hb _ ds kk cs m=>⟨#[],?_⟩;rw[ex];unfold stepG.exec;simp only[Frame.at,List.cons_append,Bool.not_true,Bool.false_eq_true,if_false,hb];rw[hr];rfl
  | inBlock id=>exact hgo hk fun _ _ _ _ _=>rfl
  | inLoop c=>exact hgo (hk2 (y:=.code c) (z:=.inLoop c) hx hx) fun _ _ _ _ _=>rfl
  | inScope c=>exact hgo hk fun _ _ _ _ _=>rfl
  | inRegion ops li =>
   cases li with
   | nil=>exact hgo hk fun _ _ _ _ _=>rfl
   | cons i li =>
    have hrest:∀ i∈Item.inRegion ops li::k,okIt F P i=true:=hk1 (okIt_tail hx);by_cases hwt:((ops[i]?).map (Region.wanted · (yielded ops tm))).getD false=true
    ·cases he:ops[i]? with
     | none=>rw[he] at hwt;cases hwt
     | some o =>
      have hop:∀ (b:Frame) ds kk cs m,stepG P m (gs (b.at ⟨tm,ds⟩ (.inRegion ops (i::li)::k++kk)) cs) w=stepG.apply P true (b.at ⟨tm,ds⟩ (.inRegion ops (i::li)::k++kk)) cs none (execOp (Act.eval ⟨tm,[]⟩) o) w:=by
       intro b ds kk cs m;have hev:(⟨b.fn,tm,.inRegion ops (i::li)::(k++kk),ds,.run,b.kind,none⟩:Frame).eval=Act.eval ⟨tm,[]⟩:=by funext c;cases c<;>rfl
       show stepG.exec P m true ⟨b.fn,tm,.inRegion ops (i::li)::(k++kk),ds,.run,b.kind,none⟩ cs none w=_;unfold stepG.exec;dsimp only;rw[if_pos hwt];unfold stepG.oper;unfold Frame.oper?;dsimp only;rw[he];dsimp only;rw[hev];rfl
      have hob:=okIt_head hx he;obtain⟨h1,h2⟩:=okOpD_ok hF hob;have hs:=Sim.execOp (a:=⟨tm,[]⟩) (A:=⟨TM,[]⟩) hP o ha h1 (fun x hx=>absurd hx (h2 x));have h0:=hs.up w W #[] hw;have hfin:∀ (b:Frame) ds kk (v:Value),(b.at ⟨tm,ds⟩ (.inRegion ops (i::li)::k++kk)).finish v=b.at ⟨(Act.put ⟨tm,[]⟩ o.dst v).tmps,ds⟩ (.inRegion ops li::k++kk):=fun b ds kk v=>by
       simp only[Frame.finish,Frame.at,List.cons_append,he,Option.bind_some];cases hdst:o.dst<;>rfl
      have hcall:∀ (b:Frame) ds kk,∀ d re sa k',(b.at ⟨tm,ds⟩ (.inRegion ops (i::li)::k++kk)).todo=.call d true re sa::k'→False:=fun b ds kk d re sa k' e=>by simp[Frame.at] at e
      cases hr:(execOp (Act.eval ⟨tm,[]⟩) o).run P w with
      | ok n w' =>
       have hn:=op_next hP hF (a:=⟨tm,[]⟩) hob hr;cases hn with
       | value =>
        rename_i v;refine .go (Act.put ⟨tm,[]⟩ o.dst v).tmps (.inRegion ops li::k) w' hrest fun b _ _ ds kk cs m=>?_;obtain⟨es,e⟩:=apply_value (b:=b.at ⟨tm,ds⟩ (.inRegion ops (i::li)::k++kk)) hr;exact⟨es,by rw[hop,e,hfin]⟩
       | skip =>
        refine .go (Act.put ⟨tm,[]⟩ o.dst undef).tmps (.inRegion ops li::k) w' hrest fun b _ _ ds kk cs m=>?_;obtain⟨es,e⟩:=apply_skip (b:=b.at ⟨tm,ds⟩ (.inRegion ops (i::li)::k++kk)) hr;exact⟨es,by rw[hop,e,hfin]⟩
       | enter hf' =>
        rename_i f args;refine .enter f args w' ops i li k rfl hf' fun b _ _ ds kk cs m=>?_;obtain⟨es,e⟩:=apply_enter (b:=b.at ⟨tm,ds⟩ (.inRegion ops (i::li)::k++kk)) (hcall b ds kk) hr;exact⟨es,by rw[hop,e]⟩
      | halt kk w' =>
       rw[hr] at h0;by_cases hq:quiet kk=true
       ·refine .bad fun b _ _ ds cs m=>?_
        obtain⟨o',es,e⟩:=apply_quiet (b:=b.at ⟨tm,ds⟩ (.inRegion ops (i::li)::k++k0)) hq hr;exact⟨o',w',es,by rw[hop,e]⟩
       ·cases kk<;>first | exact absurd h0 hq | skip
        rename_i v;refine .out (.panicking [{v,recovered:=false}]) w' (by simp) fun b _ _ ds kk cs m=>?_;obtain⟨es,e⟩:=apply_panic (b:=b.at ⟨tm,ds⟩ (.inRegion ops (i::li)::k++kk)) hr;exact⟨es,by rw[hop,e];rfl⟩
    ·refine .go (Act.put ⟨tm,[]⟩ ((ops[i]?).bind (·.dst)) undef).tmps (.inRegion ops li::k) w hrest fun b _ _ ds kk cs m=>⟨#[],?_⟩
     show stepG.exec P m true ⟨b.fn,tm,.inRegion ops (i::li)::(k++kk),ds,.run,b.kind,none⟩ cs none w=_;unfold stepG.exec;dsimp only;rw[if_neg hwt];simp only[Frame.finish];cases (ops[i]?).bind (·.dst)<;>rfl
  | inRangeFunc l=>cases hx
  | endRangeFunc l=>cases hx
  | beginRound=>cases hx
  | call d wr re sa=>cases hx
  | extern r a=>cases hx
def toG (b:Frame)(us:List Frame)(tm:Array Value)(ds:List Deferred)(t k:List Item)(cs:List Frame):Goroutine :=
 match us with
 | []=>gs (b.at ⟨tm,ds⟩ (t++k)) cs
 | u::l=>gs u (l++b.at ⟨tm,ds⟩ (t++k)::cs)
theorem out_dead {x fr:Frame}{w1:World}(hm:x.mode≠.run)(hd:x.defers=[])(hk:x.kind=.normal)(hfn:∃ fn,P.funcs[x.fn]?=some fn)(hfr:fr.mode=.run)(n:Nat):runN P n (lone x [c0 P] w)≠.next (lone fr [c0 P] w1):=by
 intro hr;cases n with
 | zero =>
  simp only[runN,Stepped.next.injEq] at hr;obtain⟨rfl,-,-⟩:=lone_inj hr;exact hm hfr
 | succ n =>
  rw[runN] at hr;obtain⟨fn,hfn⟩:=hfn;cases hmm:x.mode with
  | run=>exact hm hmm
  | panicking ch =>
   have hca:x.catches P=false:=by unfold Frame.catches;rw[hfn]
   have e:stepG P true (gs x [c0 P]) w=.go (gs ((c0 P).raise ch) []) w #[]:=by
    unfold gs stepG;dsimp only;rw[hmm];dsimp only;unfold unwind;rw[hd,hmm];simp only[hca];rfl
   rw[lone_go e] at hr;exact lone_left (c0_raise ch) n hr
  | returning =>
   have hu:stepG P true (gs x [c0 P]) w=unwind P true x [c0 P] none w:=by
    unfold gs stepG;dsimp only;rw[hmm]
   cases hres:(results fn x.tmps).run P w with
   | halt k w' =>
    obtain⟨es,e⟩:=runT_of hres;have e2:∃ o w' es,stepG P true (gs x [c0 P]) w=.ended o w' es:=by
     rw[hu];unfold unwind;rw[hd,hmm];dsimp only;rw[hfn];dsimp only;rw[e];cases k<;>exact⟨_,_,_,rfl⟩
    obtain⟨o,w',es,e2⟩:=e2;rw[lone_ended e2] at hr;cases hr
   | ok v w' =>
    obtain⟨es,e⟩:=runT_of hres;have e2:stepG P true (gs x [c0 P]) w=.go (gs ((c0 P).finish v) []) w' (seen P x.fn es++#[]):=by
     rw[hu];unfold unwind;rw[hd,hmm];dsimp only;rw[hfn];dsimp only;rw[e];unfold doReturn;dsimp only;rw[hk];rfl
    rw[lone_go e2] at hr;exact lone_left (c0_finish v) n hr
structure SegAt (F:FuncId→Bool)(P:Program)(us:List Frame)(t:List Item):Prop where
 items:∀ i∈t,okIt F P i=true
 ups:∀ u∈us,DFr F P u
 runs:∀ u∈us.tail,u.mode=.run
 at_:us≠[]→∃ ops i rest tt,t=.inRegion ops (i::rest)::tt
theorem gone_seg (hP:Fits P)(hF:Shut F P){fn:FuncId}(hfn:∃ f,P.funcs[fn]?=some f){tm1:Array Value}{w1:World}{Q:Array Value→World→Prop}(hQ:Q tm1 w1)
  {b:Frame} (hb:b.fn=fn) (hbk:b.kind≠.early) (ds:List Deferred) (k:List Item) (cs:List Frame) (m:Bool) {b0:Frame} (hb0:b0.fn=fn) (hk0:b0.kind=.normal) :
  ∀ (n:Nat) (us:List Frame) (tm:Array Value) (t:List Item) (w:World),Tied (toG b us tm ds t k cs) w→SegAt F P us t →
   runN P n (lone (toG b0 us tm [] t k0 [c0 P]).frame (toG b0 us tm [] t k0 [c0 P]).callers w)=.next (lone (b0.at ⟨tm1,[]⟩ k0) [c0 P] w1) →
   Gone P m (fun g w'=>∃ tm',g=gs (b.at ⟨tm',ds⟩ k) cs∧Q tm' w') n (toG b us tm ds t k cs) w:=by
 intro n
 induction n with
 | zero =>
  intro us tm t w ht hs hr;simp only[runN,Stepped.next.injEq] at hr;obtain⟨h1,h2,rfl⟩:=lone_inj hr;cases us with
  | cons u l =>
   have:=congrArg List.length h2;simp[toG,gs] at this
  | nil =>
   simp only[toG,gs,Frame.at,Frame.mk.injEq] at h1;obtain⟨-,rfl,h3,-⟩:=h1;have h4:t=[]:=by
    have:=congrArg List.length h3;simp at this;exact this
   subst h4;exact⟨tm,rfl,hQ⟩
 | succ n ih =>
  intro us tm t w ht hs hr;rw[runN] at hr;cases us with
  | nil =>
   simp only[toG,gs] at hr;have hTied:=ht;obtain⟨ρ,W,G,hw,hg⟩:=ht;have ha:ARel ρ tm G.frame.tmps:=hg.frame.tmps;by_cases htn:t=[]
   ·subst htn
    obtain⟨z,e⟩:∃ z,stepG P true (gs (b0.at ⟨tm,[]⟩ ([]++k0)) [c0 P]) w=.ended (.unsupported z (Frame.pos P (b0.at ⟨tm,[]⟩ ([]++k0)))) w:=⟨_,rfl⟩;rw[lone_ended e] at hr;cases hr
   ·have hhd:(toG b [] tm ds t k cs).frame.mode=.run→okHd P (toG b [] tm ds t k cs).frame.eval (toG b [] tm ds t k cs).frame.todo:=by
     intro _;have h0:=okHd_of (b:=b.at ⟨tm,ds⟩ (t++k)) hF hs.items;show okHd P (b.at ⟨tm,ds⟩ (t++k)).eval (t++k);cases t with
     | nil=>exact absurd rfl htn
     | cons x t =>
      cases x with
      | inRegion ops l=>cases l<;>exact h0
      | _=>exact h0
    cases seg_step hP hF (fn:=fn) hw ha htn hs.items with
    | go tm' t' w' hi e =>
     obtain⟨es0,e0⟩:=e b0 hb0 (by rw[hk0];simp) [] k0 [c0 P] true;obtain⟨es1,e1⟩:=e b hb hbk ds k cs m;rw[lone_go e0] at hr;exact .inr ⟨hhd,_,w',es1,e1,⟨rfl,rfl⟩,ih [] tm' t' w' (hTied.step hP hhd e1 ⟨rfl,rfl⟩) ⟨hi,fun u hu=>(by cases hu),fun u hu=>(by cases hu),fun h=>absurd rfl h⟩ hr⟩
    | enter f args w' ops i rest tt ht' hf e =>
     obtain⟨es0,e0⟩:=e b0 hb0 (by rw[hk0];simp) [] k0 [c0 P] true;obtain⟨es1,e1⟩:=e b hb hbk ds k cs m;rw[lone_go e0] at hr;refine .inr ⟨hhd,_,w',es1,e1,⟨rfl,rfl⟩,ih [Frame.enter P f args .normal] tm t w' (hTied.step hP hhd e1 ⟨rfl,rfl⟩) ⟨hs.items,fun u hu=>?_,fun u hu=>(by cases hu),fun _=>⟨ops,i,rest,tt,ht'⟩⟩ hr⟩;simp only[List.mem_cons,List.not_mem_nil,or_false] at hu;subst hu;exact(DFr.enter hF hf args).1
    | bad e =>
     obtain⟨o,w',es,e⟩:=e b0 hb0 (by rw[hk0];simp) [] [c0 P] true;rw[lone_ended e] at hr;cases hr
    | out mo w' hmo e =>
     obtain⟨es0,e0⟩:=e b0 hb0 (by rw[hk0];simp) [] k0 [c0 P] true;rw[lone_go e0] at hr;exact absurd hr (out_dead (x:={b0.at ⟨tm,[]⟩ (t++k0) with mode:=mo}) hmo rfl hk0 (by show ∃ f,P.funcs[b0.fn]?=some f;rw[hb0];exact hfn) rfl n)
  | cons u l =>
   have hd:DSt F P u l:=⟨hs.ups u (mc' ..),fun c hc=>⟨hs.ups c (List.mem_cons_of_mem _ hc),hs.runs c hc⟩⟩;have hhd:(toG b (u::l) tm ds t k cs).frame.mode=.run→okHd P (toG b (u::l) tm ds t k cs).frame.eval (toG b (u::l) tm ds t k cs).frame.todo:=fun _=>okHd_of hF hd.top.todo;have htd:Tied (gs u (l++[dm P])) w:=Tied.low hP (low:=b.at ⟨tm,ds⟩ (t++k)::cs) ht;simp only[toG,gs] at hr;obtain⟨ops,i,rest,tt,htt⟩:=hs.at_ (by simp);cases deep_step hP hF htd hd with
   | go b' l' w' es hd' e =>
    rw[lone_go (e (b0.at ⟨tm,[]⟩ (t++k0)::[c0 P]) true (by simp))] at hr;have e1:=e (b.at ⟨tm,ds⟩ (t++k)::cs) m (by simp);refine .inr ⟨hhd,_,w',es,e1,⟨rfl,rfl⟩,ih (b'::l') tm t w' (ht.step hP hhd e1 ⟨rfl,rfl⟩) ⟨hs.items,fun x hx=>?_,fun x hx=>(hd'.rest x hx).2,fun _=>⟨ops,i,rest,tt,htt⟩⟩ hr⟩;rcases List.mem_cons.1 hx with rfl | hx
    ·exact hd'.top
    ·exact(hd'.rest x hx).1
   | ended e =>
    obtain⟨o,w',es,e⟩:=e (b0.at ⟨tm,[]⟩ (t++k0)::[c0 P]) true (by simp);rw[lone_ended e] at hr;cases hr
   | ret v w' es hl0 e =>
    subst hl0;have hfin:∀ (b:Frame) ds kk,(b.at ⟨tm,ds⟩ (t++kk)).finish v=b.at ⟨(Act.put ⟨tm,[]⟩ ((ops[i]?).bind (·.dst)) v).tmps,ds⟩ (.inRegion ops rest::tt++kk):=fun b ds kk=>by
     subst htt;simp only[Frame.finish,Frame.at,List.cons_append];cases (ops[i]?).bind (·.dst)<;>rfl
    have e0:=e (b0.at ⟨tm,[]⟩ (t++k0)) [c0 P] true;have e1:=e (b.at ⟨tm,ds⟩ (t++k)) cs m;rw[hfin] at e0 e1;rw[List.nil_append,lone_go e0] at hr;refine .inr ⟨hhd,_,w',es,e1,⟨rfl,rfl⟩,ih [] _ (.inRegion ops rest::tt) w' (ht.step hP hhd e1 ⟨rfl,rfl⟩) ⟨fun x hx=>?_,fun x hx=>(by cases hx),fun x hx=>(by cases hx),fun h=>absurd rfl h⟩ hr⟩;rcases List.mem_cons.1 hx with rfl | hx
    ·exact okIt_tail (hs.items (.inRegion ops (i::rest)) (by rw[htt];exact mc' ..))
    ·exact hs.items x (by rw[htt];exact List.mem_cons_of_mem _ hx)
   | panic ch w' es hl0 e =>
    subst hl0;have e0:=e (b0.at ⟨tm,[]⟩ (t++k0)) [c0 P] true;rw[List.nil_append,lone_go e0] at hr;exact absurd hr (out_dead (x:=(b0.at ⟨tm,[]⟩ (t++k0)).raise ch) (by simp[Frame.raise,Frame.at]) rfl hk0 (by show ∃ f,P.funcs[b0.fn]?=some f;rw[hb0];exact hfn) rfl n)
theorem way_seg (hP:Fits P)(hF:Shut F P){b:Frame}(hfn:∃ f,P.funcs[b.fn]?=some f)(hbk:b.kind≠.early){c:Code}(hc:okC F P c=true){tm:Array Value}{ds:List Deferred}{k:List Item}{cs:List Frame}{m:Bool}
  {Q:Array Value→World→Prop} (hQ:∀ t w τ d,Q t w→Q t (re w τ d)) (hwp:∀ τ d,c.wp P (fun e a' w'=>e=.normal∧a'.defers=[]∧Q a'.tmps w') ⟨tm,[]⟩ (re w τ d))
  (ht:Tied (gs (b.at ⟨tm,ds⟩ (.code c::k)) cs) w):Way P m (fun g w'=>∃ tm',g=gs (b.at ⟨tm',ds⟩ k) cs∧Q tm' w') (gs (b.at ⟨tm,ds⟩ (.code c::k)) cs) w:=by
 refine way_of_gone hP (fun g w τ d ⟨v,h1,h2⟩=>⟨v,h1,hQ _ _ _ _ h2⟩) ht fun τ d=>?_;obtain⟨e,a',w',⟨rfl,hde,hq⟩,⟨n,hn⟩⟩:=hwp τ d { b with kind:=.normal} k0 [c0 P];obtain⟨tm',ds'⟩:=a';simp only at hde hq;subst hde;exact⟨n,gone_seg hP hF hfn hq (b:=b) rfl hbk ds k cs m (b0:={b with kind:=.normal}) rfl rfl n [] tm [.code c] _ (ht.re τ d) ⟨fun i hi=>(by simp only[List.mem_cons,List.not_mem_nil,or_false] at hi;subst hi;exact hc),fun u hu=>(by cases hu),fun u hu=>(by cases hu),fun h=>absurd rfl h⟩ hn⟩
theorem way_rest (hP:Fits P)(hF:Shut F P){b:Frame}(hfn:∃ f,P.funcs[b.fn]?=some f)(hbk:b.kind≠.early){ops:Array Oper}{l:List Nat}(hc:okIt F P (.inRegion ops l)=true){tm:Array Value}{ds:List Deferred}{k:List Item}{cs:List Frame}{m:Bool}
  {Q:Array Value→World→Prop} (hQ:∀ t w τ d,Q t w→Q t (re w τ d)) (hwp:∀ τ d,wpOps P ops (fun e a' w'=>e=.normal∧a'.defers=[]∧Q a'.tmps w') l ⟨tm,[]⟩ (re w τ d))
  (ht:Tied (gs (b.at ⟨tm,ds⟩ (.inRegion ops l::k)) cs) w):Way P m (fun g w'=>∃ tm',g=gs (b.at ⟨tm',ds⟩ k) cs∧Q tm' w') (gs (b.at ⟨tm,ds⟩ (.inRegion ops l::k)) cs) w:=by
 refine way_of_gone hP (fun g w τ d ⟨v,h1,h2⟩=>⟨v,h1,hQ _ _ _ _ h2⟩) ht fun τ d=>?_;obtain⟨e,a',w',⟨rfl,hde,hq⟩,⟨n,hn⟩⟩:=wp_ops l ⟨tm,[]⟩ (re w τ d) (hwp τ d) { b with kind:=.normal} k0 [c0 P];obtain⟨tm',ds'⟩:=a';simp only at hde hq;subst hde;exact⟨n,gone_seg hP hF hfn hq (b:=b) rfl hbk ds k cs m (b0:={b with kind:=.normal}) rfl rfl n [] tm [.inRegion ops l] _ (ht.re τ d) ⟨fun i hi=>(by simp only[List.mem_cons,List.not_mem_nil,or_false] at hi;subst hi;exact hc),fun u hu=>(by cases hu),fun u hu=>(by cases hu),fun h=>absurd rfl h⟩ hn⟩
end
open Go.Conc
def blk:Loc→Option Nat
 | .cell a=>some a.block
 | .obj r=>some r
 | _=>none
theorem blk_low {l:Loc}{B b:Nat}(h:l.low B)(hb:blk l=some b):b<B:=by
 cases l<;>simp only[blk,Option.some.injEq] at hb<;>first | (subst hb;exact h) | cases hb
def Priv (Lent Own:Nat→Nat→Prop)(g:Nat)(a:Touch):Prop :=
 (a.write=false∧∃ b,blk a.loc=some b∧Lent g b)∨(∃ b,blk a.loc=some b∧Own g b)∨(a.write=false∧a.kind=.atomic∧∃ b,a.loc=.obj b)
structure TP (Seat Doner Mem:Nat→Prop)(Lent Own:Nat→Nat→Prop)(Shun:Nat→Prop)(B:Nat)(K:Nat→Prop)(t:Trace):Prop where
 clean:∀ said,¬ Race said t
 known:∀ i a,touchAt t i=some a→a.loc.isMemory=true→K i∨(∃ g,t.g? i=some g∧Seat g∧Priv Lent Own g a)∨((∃ b,blk a.loc=some b∧Shun b)∧a.kind=.atomic∧¬ t.heard i)
 wrote:∀ i a g b,touchAt t i=some a→a.write=true→Seat g→blk a.loc=some b→Lent g b→Knows t g i
 owned:∀ i a g b,touchAt t i=some a→Seat g→blk a.loc=some b→Own g b→t.g? i=some g
 plain:∀ i a g b,touchAt t i=some a→a.kind=.plain→Doner g→blk a.loc=some b→Shun b→Knows t g i
 objw:∀ i a b,touchAt t i=some a→a.loc=.obj b→a.write=true→a.kind=.atomic
 hears:∀ g,Mem g→Deaf t g=0
 seen:∀ op∈t,op.act.low B
structure Apart (Seat:Nat→Prop)(Lent Own:Nat→Nat→Prop)(Shun:Nat→Prop)(B:Nat):Prop where
 oo:∀ g g' b,Seat g→Seat g'→Own g b→Own g' b→g=g'
 ol:∀ g g' b,Seat g→Seat g'→Own g b→¬ Lent g' b
 os:∀ g b,Seat g→Own g b→¬ Shun b
 ls:∀ g b,Seat g→Lent g b→¬ Shun b
 ob:∀ g b,Seat g→Own g b→b<B
 lb:∀ g b,Seat g→Lent g b→b<B
 sb:∀ b,Shun b→b<B
section
variable {Seat Doner Mem:Nat→Prop}{Lent Own:Nat→Nat→Prop}{Shun:Nat→Prop}{B B':Nat}{K K':Nat→Prop}{t u:Trace}
theorem isMem_blk {l:Loc}(h:l.isMemory=true):∃ b,blk l=some b:=by
 cases l<;>first | exact⟨_,rfl⟩ | cases h
theorem TP.noRace_of {said:Bool}{g:Nat}(h:¬ Race said t)(hu:∀ op∈u,op.g=g)(hk:∀ i a,touchAt t i=some a→∀ op∈u,∀ b,op.act.touch?=some b→a.conflicts said b→Knows t g i):¬ Race said (t++u):=noRace_append h hu hk
theorem Touch.clash {said:Bool}{a b:Touch}(h:a.conflicts said b):a.loc=b.loc∧(∃ x,blk a.loc=some x)∧(a.write=false→b.write=true)∧(a.kind=.atomic→b.kind=.plain):=by
 obtain⟨h1,h2,h3,h4⟩:=h;refine⟨h1,isMem_blk h2,fun e=>?_,fun e=>?_⟩
 ·rcases h3 with h3 | h3
  ·rw[h3] at e;cases e
  ·exact h3
 ·rcases h4 with h4 | h4 | ⟨_,h4,_⟩
  ·rw[h4] at e;cases e
  ·exact h4
  ·rw[h4] at e;cases e
structure OkH (Seat:Nat→Prop)(Lent Own:Nat→Nat→Prop)(Shun:Nat→Prop)(b:Touch):Prop where
 own:∀ g x,Seat g→blk b.loc=some x→¬ Own g x
 lent:∀ g x,Seat g→blk b.loc=some x→Lent g x→b.write=false
 shun:∀ x,blk b.loc=some x→Shun x→b.kind≠.plain
 objw:∀ x,b.loc=.obj x→b.write=true→b.kind=.atomic
theorem TP.appH {h:Nat}(H:TP Seat Doner Mem Lent Own Shun B (Knows t h) t)(hB:B≤B')(hu:∀ op∈u,op.g=h)(ho:∀ op∈u,∀ b,op.act.touch?=some b→OkH Seat Lent Own Shun b)
  (hd:Mem h→Deaf (t++u) h=Deaf t h) (hl:∀ op∈u,op.act.low B'):TP Seat Doner Mem Lent Own Shun B' (Knows (t++u) h) (t++u):=by
 refine⟨fun said=>noRace_append (H.clean said) hu fun i a ha op hop b hb hc=>?_,fun i a ha hm=>?_,fun i a g x ha hw hs hx hL=>?_,fun i a g x ha hs hx hO=>?_,fun i a g x ha hp hD hx hS=>?_,fun i a x ha hx hw=>?_,fun g hg=>?_,
  seen_app (fun op hop=>MemAct.low_mono hB (H.seen op hop)) hl⟩
 ·obtain⟨c1,⟨x,c2⟩,c3,c4⟩:=Touch.clash hc
  have ok:=ho op hop b hb;rcases H.known i a ha hc.2.1 with hk | ⟨g,hg,hs,hp⟩ | ⟨⟨y,hy,hS⟩,hk,_⟩
  ·exact hk
  ·rcases hp with⟨hw,y,hy,hL⟩ | ⟨y,hy,hO⟩ | ⟨hw,hk,y,hy⟩
   ·have:=ok.lent g y hs (c1▸hy) hL
    rw[c3 hw] at this;cases this
   ·exact absurd hO (ok.own g y hs (c1▸hy))
   ·have h1:=ok.objw y (c1▸hy) (c3 hw)
    rw[c4 hk] at h1;cases h1
  ·exact absurd (c4 hk) (ok.shun y (c1▸hy) hS)
 ·obtain⟨op,hx,hxa⟩:=touch_of ha
  rcases getElem?_append_cases hx with⟨hi,hx'⟩ | ⟨_,hxu⟩
  ·rcases H.known i a (by rw[touchAt_of hx'];exact hxa) hm with hk | ⟨g,hg,hs,hp⟩ | ⟨h1,h2,h3⟩
   ·exact .inl (hk.app u)
   ·exact .inr (.inl ⟨g,by rw[g?_old hi];exact hg,hs,hp⟩)
   ·exact .inr (.inr ⟨h1,h2,fun e=>h3 ((heard_old hi).1 e)⟩)
  ·have:=knows_own hx
   rw[hu op hxu] at this;exact .inl this
 ·obtain⟨op,hy,hxa⟩:=touch_of ha
  rcases getElem?_append_cases hy with⟨hi,hx'⟩ | ⟨_,hxu⟩
  ·exact(H.wrote i a g x (by rw[touchAt_of hx'];exact hxa) hw hs hx hL).app u
  ·have:=(ho op hxu a hxa).lent g x hs hx hL
   rw[this] at hw;cases hw
 ·obtain⟨op,hy,hxa⟩:=touch_of ha
  rcases getElem?_append_cases hy with⟨hi,hx'⟩ | ⟨_,hxu⟩
  ·rw[g?_old hi];exact H.owned i a g x (by rw[touchAt_of hx'];exact hxa) hs hx hO
  ·exact absurd hO ((ho op hxu a hxa).own g x hs hx)
 ·obtain⟨op,hy,hxa⟩:=touch_of ha
  rcases getElem?_append_cases hy with⟨hi,hx'⟩ | ⟨_,hxu⟩
  ·exact(H.plain i a g x (by rw[touchAt_of hx'];exact hxa) hp hD hx hS).app u
  ·exact absurd hp ((ho op hxu a hxa).shun x hx hS)
 ·obtain⟨op,hy,hxa⟩:=touch_of ha
  rcases getElem?_append_cases hy with⟨hi,hx'⟩ | ⟨_,hxu⟩
  ·exact H.objw i a x (by rw[touchAt_of hx'];exact hxa) hx hw
  ·exact(ho op hxu a hxa).objw x hx hw
 ·by_cases e:g=h
  ·subst e;exact(hd hg).trans (H.hears g hg)
  ·exact(Deaf_other t (fun x=>e x.symm) u hu).trans (H.hears g hg)
theorem TP.appMute {g0:Nat}(H:TP Seat Doner Mem Lent Own Shun B K t)(hK:∀ i,K i→K' i)(hu:∀ op∈u,op.g=g0)(hn:∀ op∈u,op.act.touch?=none)
  (hd:Mem g0→Deaf (t++u) g0=Deaf t g0) (hl:∀ op∈u,op.act.low B):TP Seat Doner Mem Lent Own Shun B K' (t++u):=by
 refine⟨fun said=>noRace_appendMute (H.clean said) hn,fun i a ha hm=>?_,fun i a g x ha hw hs hx hL=>?_,fun i a g x ha hs hx hO=>?_,fun i a g x ha hp hD hx hS=>?_,fun i a x ha hx hw=>?_,fun g hg=>?_,seen_app H.seen hl⟩
 ·obtain⟨op,hx,hxa⟩:=touch_of ha
  rcases getElem?_append_cases hx with⟨hi,hx'⟩ | ⟨_,hxu⟩
  ·rcases H.known i a (by rw[touchAt_of hx'];exact hxa) hm with hk | ⟨g,hg,hs,hp⟩ | ⟨h1,h2,h3⟩
   ·exact .inl (hK i hk)
   ·exact .inr (.inl ⟨g,by rw[g?_old hi];exact hg,hs,hp⟩)
   ·exact .inr (.inr ⟨h1,h2,fun e=>h3 ((heard_old hi).1 e)⟩)
  ·rw[hn op hxu] at hxa;cases hxa
 ·obtain⟨op,hy,hxa⟩:=touch_of ha
  rcases getElem?_append_cases hy with⟨hi,hx'⟩ | ⟨_,hxu⟩
  ·exact(H.wrote i a g x (by rw[touchAt_of hx'];exact hxa) hw hs hx hL).app u
  ·rw[hn op hxu] at hxa;cases hxa
 ·obtain⟨op,hy,hxa⟩:=touch_of ha
  rcases getElem?_append_cases hy with⟨hi,hx'⟩ | ⟨_,hxu⟩
  ·rw[g?_old hi];exact H.owned i a g x (by rw[touchAt_of hx'];exact hxa) hs hx hO
  ·rw[hn op hxu] at hxa;cases hxa
 ·obtain⟨op,hy,hxa⟩:=touch_of ha
  rcases getElem?_append_cases hy with⟨hi,hx'⟩ | ⟨_,hxu⟩
  ·exact(H.plain i a g x (by rw[touchAt_of hx'];exact hxa) hp hD hx hS).app u
  ·rw[hn op hxu] at hxa;cases hxa
 ·obtain⟨op,hy,hxa⟩:=touch_of ha
  rcases getElem?_append_cases hy with⟨hi,hx'⟩ | ⟨_,hxu⟩
  ·exact H.objw i a x (by rw[touchAt_of hx'];exact hxa) hx hw
  ·rw[hn op hxu] at hxa;cases hxa
 ·by_cases e:g=g0
  ·subst e;exact(hd hg).trans (H.hears g hg)
  ·exact(Deaf_other t (fun x=>e x.symm) u hu).trans (H.hears g hg)
def OkS (Lent Own:Nat→Nat→Prop)(B j:Nat)(b:Touch):Prop:=Priv Lent Own j b∨∃ x,blk b.loc=some x∧B≤x
theorem TP.appS {j:Nat}{Own':Nat→Nat→Prop}(H:TP Seat Doner Mem Lent Own Shun B K t)(hK:∀ i,K i→K' i)(A:Apart Seat Lent Own Shun B)(hj:Seat j)(hB:B≤B')(hu:∀ op∈u,op.g=j)
  (hO:∀ g x,Own g x→Own' g x) (hO1:∀ g x,g≠j→Own' g x→Own g x) (hO2:∀ x,Own' j x→Own j x∨B≤x)
  (ho:∀ op∈u,∀ b,op.act.touch?=some b→Priv Lent Own' j b∧(∀ x g,g≠j→Seat g→blk b.loc=some x→¬ Own g x)∧(∀ x,b.loc=.obj x→b.write=false)∧(b.kind=.plain→∀ x,blk b.loc=some x→¬ Shun x))
  (hd:Deaf (t++u) j=Deaf t j) (hl:∀ op∈u,op.act.low B'):TP Seat Doner Mem Lent Own' Shun B' K' (t++u):=by
 have priv:∀ g a,Priv Lent Own g a→Priv Lent Own' g a:=fun g a h=>by
  rcases h with h | ⟨x,h1,h2⟩ | h
  ·exact .inl h
  ·exact .inr (.inl ⟨x,h1,hO g x h2⟩)
  ·exact .inr (.inr h)
 have fresh:∀ i a x,touchAt t i=some a→blk a.loc=some x→x<B:=fun i a x ha hx=>by
  obtain⟨op,hop,hoa⟩:=touch_of ha;have:=H.seen op (Array.mem_of_getElem? hop);cases hact:op.act with
  | access e =>
   rw[hact] at this hoa;simp only[MemAct.touch?,Option.some.injEq] at hoa;subst hoa;exact blk_low this hx
  | mark m =>
   rw[hact] at this hoa;cases m<;>simp only[MemAct.touch?,Option.some.injEq] at hoa<;>first | (cases hoa;done) | (subst hoa;simp only[blk,Option.some.injEq] at hx;subst hx;exact this)
  | _=>rw[hact] at hoa;cases hoa
 refine⟨fun said=>noRace_append (H.clean said) hu fun i a ha op hop b hb hc=>?_,fun i a ha hm=>?_,fun i a g x ha hw hs hx hL=>?_,fun i a g x ha hs hx hO'=>?_,fun i a g x ha hp hD hx hS=>?_,fun i a x ha hx hw=>?_,fun g hg=>?_,
  seen_app (fun op hop=>MemAct.low_mono hB (H.seen op hop)) hl⟩
 ·obtain⟨c1,⟨x,c2⟩,c3,c4⟩:=Touch.clash hc
  obtain⟨hp,hno,how,_⟩:=ho op hop b hb;rcases hp with⟨hw,y,hy,hL⟩ | ⟨y,hy,hOw⟩ | ⟨hw,hk,y,hy⟩
  ·have haw:a.write=true:=by
    cases e:a.write with
    | true=>rfl
    | false=>have:=c3 e;rw[hw] at this;cases this
   exact H.wrote i a j y ha haw hj (c1▸hy) hL
  ·rcases hO2 y hOw with h | h
   ·obtain⟨q,hq,_⟩:=touch_of ha
    have:=knows_own hq;have e:=H.owned i a j y ha hj (c1▸hy) h;rw[g?_of hq] at e;rw[oj' e] at this;exact this
   ·have:=fresh i a y ha (c1▸hy)
    omega
  ·have haw:a.write=true:=by
    cases e:a.write with
    | true=>rfl
    | false=>have:=c3 e;rw[hw] at this;cases this
   have:=H.objw i a y ha (c1▸hy) haw;rw[c4 this] at hk;cases hk
 ·obtain⟨op,hx,hxa⟩:=touch_of ha
  rcases getElem?_append_cases hx with⟨hi,hx'⟩ | ⟨_,hxu⟩
  ·rcases H.known i a (by rw[touchAt_of hx'];exact hxa) hm with hk | ⟨g,hg,hs,hp⟩ | ⟨h1,h2,h3⟩
   ·exact .inl (hK i hk)
   ·exact .inr (.inl ⟨g,by rw[g?_old hi];exact hg,hs,priv g a hp⟩)
   ·exact .inr (.inr ⟨h1,h2,fun e=>h3 ((heard_old hi).1 e)⟩)
  ·exact .inr (.inl ⟨j,by rw[g?_of hx,hu op hxu],hj,(ho op hxu a hxa).1⟩)
 ·obtain⟨op,hy,hxa⟩:=touch_of ha
  rcases getElem?_append_cases hy with⟨hi,hx'⟩ | ⟨_,hxu⟩
  ·exact(H.wrote i a g x (by rw[touchAt_of hx'];exact hxa) hw hs hx hL).app u
  ·rcases (ho op hxu a hxa).1 with⟨hw',_⟩ | ⟨y,hy',hOw⟩ | ⟨hw',_⟩
   ·rw[hw'] at hw;cases hw
   ·rw[hx] at hy'
    cases hy';rcases hO2 x hOw with h | h
    ·exact absurd hL (A.ol j g x hj hs h)
    ·have:=A.lb g x hs hL;omega
   ·rw[hw'] at hw;cases hw
 ·obtain⟨op,hy,hxa⟩:=touch_of ha
  rcases getElem?_append_cases hy with⟨hi,hx'⟩ | ⟨_,hxu⟩
  ·rw[g?_old hi]
   by_cases e:g=j
   ·subst e
    rcases hO2 x hO' with h | h
    ·exact H.owned i a g x (by rw[touchAt_of hx'];exact hxa) hs hx h
    ·have:=fresh i a x (by rw[touchAt_of hx'];exact hxa) hx
     omega
   ·exact H.owned i a g x (by rw[touchAt_of hx'];exact hxa) hs hx (hO1 g x e hO')
  ·rw[g?_of hy,hu op hxu]
   by_cases e:g=j
   ·rw[e]
   ·exact absurd (hO1 g x e hO') ((ho op hxu a hxa).2.1 x g e hs hx)
 ·obtain⟨op,hy,hxa⟩:=touch_of ha
  rcases getElem?_append_cases hy with⟨hi,hx'⟩ | ⟨_,hxu⟩
  ·exact(H.plain i a g x (by rw[touchAt_of hx'];exact hxa) hp hD hx hS).app u
  ·exact absurd hS ((ho op hxu a hxa).2.2.2 hp x hx)
 ·obtain⟨op,hy,hxa⟩:=touch_of ha
  rcases getElem?_append_cases hy with⟨hi,hx'⟩ | ⟨_,hxu⟩
  ·exact H.objw i a x (by rw[touchAt_of hx'];exact hxa) hx hw
  ·have:=(ho op hxu a hxa).2.2.1 x hx
   rw[this] at hw;cases hw
 ·by_cases e:g=j
  ·subst e;exact hd.trans (H.hears g hg)
  ·exact(Deaf_other t (fun x=>e x.symm) u hu).trans (H.hears g hg)
theorem TP.appD {j:Nat}(H:TP Seat Doner Mem Lent Own Shun B K t)(hK:∀ i,K i→K' i)(A:Apart Seat Lent Own Shun B)(hj:Doner j)(hjm:¬ Mem j)(hu:∀ op∈u,op.g=j)
  (ho:∀ op∈u,∀ b,op.act.touch?=some b→b.kind=.atomic∧∃ x,(∃ a,b.loc=.cell a)∧blk b.loc=some x∧Shun x)
  (hh:∀ i op b,(t++u)[i]?=some op→t.size≤i→op.act.touch?=some b→¬ (t++u).heard i) (hl:∀ op∈u,op.act.low B):TP Seat Doner Mem Lent Own Shun B K' (t++u):=by
 refine⟨fun said=>noRace_append (H.clean said) hu fun i a ha op hop b hb hc=>?_,fun i a ha hm=>?_,fun i a g x ha hw hs hx hL=>?_,fun i a g x ha hs hx hO=>?_,fun i a g x ha hp hD hx hS=>?_,fun i a x ha hx hw=>?_,fun g hg=>?_,seen_app H.seen hl⟩
 ·obtain⟨c1,⟨x,c2⟩,c3,c4⟩:=Touch.clash hc
  obtain⟨h1,y,_,h2,h3⟩:=ho op hop b hb;have hap:a.kind=.plain:=by
   rcases hc.2.2.2 with h | h | ⟨_,_,h⟩
   ·exact h
   ·rw[h] at h1;cases h1
   ·rw[h] at h1;cases h1
  exact H.plain i a j y ha hap hj (c1▸h2) h3
 ·obtain⟨op,hx,hxa⟩:=touch_of ha
  rcases getElem?_append_cases hx with⟨hi,hx'⟩ | ⟨hi,hxu⟩
  ·rcases H.known i a (by rw[touchAt_of hx'];exact hxa) hm with hk | ⟨g,hg,hs,hp⟩ | ⟨h1,h2,h3⟩
   ·exact .inl (hK i hk)
   ·exact .inr (.inl ⟨g,by rw[g?_old hi];exact hg,hs,hp⟩)
   ·exact .inr (.inr ⟨h1,h2,fun e=>h3 ((heard_old hi).1 e)⟩)
  ·obtain⟨h1,y,_,h2,h3⟩:=ho op hxu a hxa
   exact .inr (.inr ⟨⟨y,h2,h3⟩,h1,hh i op a hx hi hxa⟩)
 ·obtain⟨op,hy,hxa⟩:=touch_of ha
  rcases getElem?_append_cases hy with⟨hi,hx'⟩ | ⟨_,hxu⟩
  ·exact(H.wrote i a g x (by rw[touchAt_of hx'];exact hxa) hw hs hx hL).app u
  ·obtain⟨h1,y,_,h2,h3⟩:=ho op hxu a hxa
   rw[hx] at h2;cases h2;exact absurd h3 (A.ls g x hs hL)
 ·obtain⟨op,hy,hxa⟩:=touch_of ha
  rcases getElem?_append_cases hy with⟨hi,hx'⟩ | ⟨_,hxu⟩
  ·rw[g?_old hi];exact H.owned i a g x (by rw[touchAt_of hx'];exact hxa) hs hx hO
  ·obtain⟨h1,y,_,h2,h3⟩:=ho op hxu a hxa
   rw[hx] at h2;cases h2;exact absurd h3 (A.os g x hs hO)
 ·obtain⟨op,hy,hxa⟩:=touch_of ha
  rcases getElem?_append_cases hy with⟨hi,hx'⟩ | ⟨_,hxu⟩
  ·exact(H.plain i a g x (by rw[touchAt_of hx'];exact hxa) hp hD hx hS).app u
  ·rw[(ho op hxu a hxa).1] at hp;cases hp
 ·obtain⟨op,hy,hxa⟩:=touch_of ha
  rcases getElem?_append_cases hy with⟨hi,hx'⟩ | ⟨_,hxu⟩
  ·exact H.objw i a x (by rw[touchAt_of hx'];exact hxa) hx hw
  ·exact(ho op hxu a hxa).1
 ·have e:g≠j:=fun e=>hjm (e▸hg)
  exact(Deaf_other t (fun x=>e x.symm) u hu).trans (H.hears g hg)
end
section
variable {Seat Doner Mem:Nat→Prop}{Lent Own:Nat→Nat→Prop}{Shun:Nat→Prop}{B:Nat}{K:Nat→Prop}{t u:Trace}{h j:Nat}
theorem touch_mem {i:Nat}{a:Touch}{x:Nat}(hx:blk a.loc=some x):a.loc.isMemory=true:=by
 cases e:a.loc<;>rw[e] at hx<;>first | rfl | cases hx
theorem TP.knowsW (H:TP Seat Doner Mem Lent Own Shun B (Knows t h) t){L:Nat→Prop}(hO:∀ g x,Seat g→Own g x→¬ L x)(hS:∀ x,L x→¬ Shun x) :
  ∀ i a x,touchAt t i=some a→a.write=true→blk a.loc=some x→L x→Knows t h i:=by
 intro i a x ha hw hx hL;rcases H.known i a ha (touch_mem (i:=i) hx) with hk | ⟨g,_,hs,hp⟩ | ⟨⟨y,hy,hSh⟩,_,_⟩
 ·exact hk
 ·rcases hp with⟨hw',_⟩ | ⟨y,hy,hO'⟩ | ⟨hw',_⟩
  ·rw[hw'] at hw;cases hw
  ·rw[hx] at hy;cases hy
   exact absurd hL (hO g x hs hO')
  ·rw[hw'] at hw;cases hw
 ·rw[hx] at hy;cases hy
  exact absurd hSh (hS x hL)
theorem TP.knowsP (H:TP Seat Doner Mem Lent Own Shun B (Knows t h) t)(A:Apart Seat Lent Own Shun B) :
  ∀ i a x,touchAt t i=some a→a.kind=.plain→blk a.loc=some x→Shun x→Knows t h i:=by
 intro i a x ha hp hx hS;rcases H.known i a ha (touch_mem (i:=i) hx) with hk | ⟨g,_,hs,hq⟩ | ⟨_,hk,_⟩
 ·exact hk
 ·rcases hq with⟨_,y,hy,hL⟩ | ⟨y,hy,hO⟩ | ⟨_,hk,_⟩
  ·rw[hx] at hy;cases hy
   exact absurd hS (A.ls g x hs hL)
  ·rw[hx] at hy;cases hy
   exact absurd hS (A.os g x hs hO)
  ·rw[hk] at hp;cases hp
 ·rw[hk] at hp;cases hp
theorem TP.fewer {Mem':Nat→Prop}(H:TP Seat Doner Mem Lent Own Shun B K t)(hM:∀ g,Mem' g→Mem g):TP Seat Doner Mem' Lent Own Shun B K t :=
 ⟨H.clean,H.known,H.wrote,H.owned,H.plain,H.objw,fun g hg=>H.hears g (hM g hg),H.seen⟩
theorem TP.more {Mem':Nat→Prop}(H:TP Seat Doner Mem Lent Own Shun B K t)(hM:∀ g,Mem' g→Deaf t g=0):TP Seat Doner Mem' Lent Own Shun B K t :=
 ⟨H.clean,H.known,H.wrote,H.owned,H.plain,H.objw,hM,H.seen⟩
theorem TP.wide {B':Nat}(H:TP Seat Doner Mem Lent Own Shun B K t)(hB:B≤B'):TP Seat Doner Mem Lent Own Shun B' K t :=
 ⟨H.clean,H.known,H.wrote,H.owned,H.plain,H.objw,H.hears,fun op hop=>MemAct.low_mono hB (H.seen op hop)⟩
theorem TP.sit {L:Nat→Prop}(H:TP Seat Doner Mem Lent Own Shun B K t)(hk:∀ i a x,touchAt t i=some a→a.write=true→blk a.loc=some x→L x→Knows t h i)(hn:¬ Seat h) :
  TP (fun g=>Seat g∨g=h) Doner Mem (fun g x=>if g=h then L x else Lent g x) (fun g x=>if g=h then False else Own g x) Shun B K t:=by
 have hne:∀ g,Seat g→g≠h:=fun g hg e=>hn (e▸hg);refine⟨H.clean,fun i a ha hm=>?_,fun i a g x ha hw hs hx hL=>?_,fun i a g x ha hs hx hO=>?_,H.plain,H.objw,H.hears,H.seen⟩
 ·rcases H.known i a ha hm with hk | ⟨g,hg,hs,hp⟩ | hk
  ·exact .inl hk
  ·refine .inr (.inl ⟨g,hg,.inl hs,?_⟩)
   unfold Priv;simp only[if_neg (hne g hs)];exact hp
  ·exact .inr (.inr hk)
 ·by_cases e:g=h
  ·subst e
   rw[if_pos rfl] at hL;exact hk i a x ha hw hx hL
  ·rw[if_neg e] at hL
   exact H.wrote i a g x ha hw (hs.resolve_right e) hx hL
 ·by_cases e:g=h
  ·subst e
   rw[if_pos rfl] at hO;exact hO.elim
  ·rw[if_neg e] at hO
   exact H.owned i a g x ha (hs.resolve_right e) hx hO
theorem TP.goD (H:TP Seat Doner Mem Lent Own Shun B K t)(hk:∀ i a x,touchAt t i=some a→a.kind=.plain→blk a.loc=some x→Shun x→Knows t h i) :
  TP Seat (fun g=>Doner g∨g=h) Mem Lent Own Shun B K t :=
 ⟨H.clean,H.known,H.wrote,H.owned,fun i a g x ha hp hD hx hS=>hD.elim (fun z=>H.plain i a g x ha hp z hx hS) (fun z=>z▸hk i a x ha hp hx hS),H.objw,H.hears,H.seen⟩
theorem TP.lessD {Doner':Nat→Prop}(H:TP Seat Doner Mem Lent Own Shun B K t)(hD:∀ g,Doner' g→Doner g):TP Seat Doner' Mem Lent Own Shun B K t :=
 ⟨H.clean,H.known,H.wrote,H.owned,fun i a g x ha hp h hx hS=>H.plain i a g x ha hp (hD g h) hx hS,H.objw,H.hears,H.seen⟩
theorem TP.stand {K':Nat→Prop}(H:TP Seat Doner Mem Lent Own Shun B K t)(hK:∀ i,K i→K' i)(hj:∀ i,t.g? i=some j→K' i):TP (fun g=>Seat g∧g≠j) Doner Mem Lent Own Shun B K' t:=by
 refine⟨H.clean,fun i a ha hm=>?_,fun i a g x ha hw hs=>H.wrote i a g x ha hw hs.1,fun i a g x ha hs=>H.owned i a g x ha hs.1,H.plain,H.objw,H.hears,H.seen⟩;rcases H.known i a ha hm with hk | ⟨g,hg,hs,hp⟩ | hk
 ·exact .inl (hK i hk)
 ·by_cases e:g=j
  ·subst e;exact .inl (hj i hg)
  ·exact .inr (.inl ⟨g,hg,⟨hs,e⟩,hp⟩)
 ·exact .inr (.inr hk)
theorem knows_g {i:Nat}(hg:t.g? i=some j):Knows t j i:=by
 unfold Trace.g? at hg;obtain⟨z,hz,e⟩:=Option.map_eq_some_iff.1 hg;exact⟨i,z,hz,e,.inl rfl⟩
theorem TP.appMutes {K':Nat→Prop}(H:TP Seat Doner Mem Lent Own Shun B K t)(hK:∀ i,K i→K' i)(hn:∀ op∈u,op.act.touch?=none)
  (hd:∀ g,Mem g→Deaf (t++u) g=Deaf t g) (hl:∀ op∈u,op.act.low B):TP Seat Doner Mem Lent Own Shun B K' (t++u):=by
 refine⟨fun said=>noRace_appendMute (H.clean said) hn,fun i a ha hm=>?_,fun i a g x ha hw hs hx hL=>?_,fun i a g x ha hs hx hO=>?_,fun i a g x ha hp hD hx hS=>?_,fun i a x ha hx hw=>?_,fun g hg=>(hd g hg).trans (H.hears g hg),seen_app H.seen hl⟩
 ·obtain⟨op,hx,hxa⟩:=touch_of ha
  rcases getElem?_append_cases hx with⟨hi,hx'⟩ | ⟨_,hxu⟩
  ·rcases H.known i a (by rw[touchAt_of hx'];exact hxa) hm with hk | ⟨g,hg,hs,hp⟩ | ⟨h1,h2,h3⟩
   ·exact .inl (hK i hk)
   ·exact .inr (.inl ⟨g,by rw[g?_old hi];exact hg,hs,hp⟩)
   ·exact .inr (.inr ⟨h1,h2,fun e=>h3 ((heard_old hi).1 e)⟩)
  ·rw[hn op hxu] at hxa;cases hxa
 ·obtain⟨op,hy,hxa⟩:=touch_of ha
  rcases getElem?_append_cases hy with⟨hi,hx'⟩ | ⟨_,hxu⟩
  ·exact(H.wrote i a g x (by rw[touchAt_of hx'];exact hxa) hw hs hx hL).app u
  ·rw[hn op hxu] at hxa;cases hxa
 ·obtain⟨op,hy,hxa⟩:=touch_of ha
  rcases getElem?_append_cases hy with⟨hi,hx'⟩ | ⟨_,hxu⟩
  ·rw[g?_old hi];exact H.owned i a g x (by rw[touchAt_of hx'];exact hxa) hs hx hO
  ·rw[hn op hxu] at hxa;cases hxa
 ·obtain⟨op,hy,hxa⟩:=touch_of ha
  rcases getElem?_append_cases hy with⟨hi,hx'⟩ | ⟨_,hxu⟩
  ·exact(H.plain i a g x (by rw[touchAt_of hx'];exact hxa) hp hD hx hS).app u
  ·rw[hn op hxu] at hxa;cases hxa
 ·obtain⟨op,hy,hxa⟩:=touch_of ha
  rcases getElem?_append_cases hy with⟨hi,hx'⟩ | ⟨_,hxu⟩
  ·exact H.objw i a x (by rw[touchAt_of hx'];exact hxa) hx hw
  ·rw[hn op hxu] at hxa;cases hxa
theorem TP.give (H:TP Seat Doner Mem Lent Own Shun B (Knows t h) t)(hh:Mem h)(hj:Mem j)(fh:FuncId)(ph:String)(fj:FuncId)(pj:String){c:Nat}(k cap:Nat)(hc:c<B) :
  TP (fun g=>Seat g∧g≠j) Doner Mem Lent Own Shun B (Knows (t++met h j fh ph fj pj c k cap) j) (t++met h j fh ph fj pj c k cap):=by
 have e0:(t++met h j fh ph fj pj c k cap)[t.size]?=some { g:=h,fn:=fh,pos:=ph,act:=.send c k}:=by simp[met]
 have e3:(t++met h j fh ph fj pj c k cap)[t.size+3]?=some { g:=j,fn:=fj,pos:=pj,act:=.recvDone c k}:=by simp[met]
 have edge:HappensBefore (t++met h j fh ph fj pj c k cap) t.size (t.size+3) :=
  Relation.TransGen.single (.inr ⟨.handOver (act?_of e0) (act?_of e3),⟨h,g?_of e0,by rw[deaf_old (Nat.le_refl _)];exact H.hears h hh⟩,⟨j,g?_of e3,by rw[deaf_quiet (met_quiet _ _ _ _ _ _ _ _ _ j) 3 (by simp[met])];exact H.hears j hj⟩⟩)
 refine TP.stand (K:=Knows (t++met h j fh ph fj pj c k cap) j) (H.appMutes (fun i hk=>⟨t.size+3,_,e3,rfl,.inr ((hk.hb_new (Nat.le_refl _) e0 rfl).trans edge)⟩) (met_mute _ _ _ _ _ _ _ _ _) (fun g _=>Deaf_quiet (met_quiet _ _ _ _ _ _ _ _ _ g)) fun op hop=>?_) (fun _ h=>h) fun i hg=>knows_g hg;simp only[met,List.mem_toArray,List.mem_cons,List.not_mem_nil,or_false] at hop;rcases hop with rfl | rfl | rfl | rfl<;>exact hc
def born2 (h c:Nat)(fh:FuncId)(ph:String)(fc:FuncId):Trace:=#[{g:=h,fn:=fh,pos:=ph,act:=.go c},{g:=c,fn:=fc,pos:=ph,act:=.start}]
theorem born2_mute (h c:Nat)(fh:FuncId)(ph:String)(fc:FuncId):∀ op∈born2 h c fh ph fc,op.act.touch?=none:=by
 intro op hop;simp only[born2,List.mem_toArray,List.mem_cons,List.not_mem_nil,or_false] at hop;rcases hop with rfl | rfl<;>rfl
theorem born2_quiet (h c:Nat)(fh:FuncId)(ph:String)(fc:FuncId)(g:Nat):∀ op∈born2 h c fh ph fc,∀ d,deafStep g d op=d:=by
 intro op hop d;simp only[born2,List.mem_toArray,List.mem_cons,List.not_mem_nil,or_false] at hop;rcases hop with rfl | rfl<;>rfl
theorem TP.hire {c:Nat}{L:Nat→Prop}(H:TP Seat Doner Mem Lent Own Shun B (Knows t h) t)(hh:Mem h)(hc0:Deaf t c=0)(hcn:¬ Seat c)(fh:FuncId)(ph:String)(fc:FuncId)
  (hk:∀ i a x,touchAt t i=some a→a.write=true→blk a.loc=some x→L x→Knows t h i) :
  TP (fun g=>Seat g∨g=c) Doner (fun g=>Mem g∨g=c) (fun g x=>if g=c then L x else Lent g x) (fun g x=>if g=c then False else Own g x) Shun B (Knows (t++born2 h c fh ph fc) h) (t++born2 h c fh ph fc):=by
 have e0:(t++born2 h c fh ph fc)[t.size]?=some { g:=h,fn:=fh,pos:=ph,act:=.go c}:=by simp[born2]
 have e1:(t++born2 h c fh ph fc)[t.size+1]?=some { g:=c,fn:=fc,pos:=ph,act:=.start}:=by simp[born2]
 have edge:HappensBefore (t++born2 h c fh ph fc) t.size (t.size+1) :=
  Relation.TransGen.single (.inr ⟨.spawn (act?_of e0) (act?_of e1) (g?_of e1),⟨h,g?_of e0,by rw[deaf_old (Nat.le_refl _)];exact H.hears h hh⟩,⟨c,g?_of e1,by rw[deaf_quiet (born2_quiet _ _ _ _ _ c) 1 (by simp[born2])];exact hc0⟩⟩)
 have H':=H.appMutes (u:=born2 h c fh ph fc) (K':=Knows (t++born2 h c fh ph fc) h) (fun i=>Knows.app _) (born2_mute _ _ _ _ _) (fun g _=>Deaf_quiet (born2_quiet _ _ _ _ _ g)) fun op hop=>by
  simp only[born2,List.mem_toArray,List.mem_cons,List.not_mem_nil,or_false] at hop;rcases hop with rfl | rfl<;>trivial
 refine TP.sit (H'.more fun g hg=>hg.elim (H'.hears g) fun e=>?_) (fun i a x ha hw hx hL=>?_) hcn
 ·rw[Deaf_quiet (born2_quiet _ _ _ _ _ g),e];exact hc0
 ·obtain⟨op,hy,hxa⟩:=touch_of ha
  rcases getElem?_append_cases hy with⟨hi,hx'⟩ | ⟨_,hxu⟩
  ·exact⟨t.size+1,_,e1,rfl,.inr (((hk i a x (by rw[touchAt_of hx'];exact hxa) hw hx hL).hb_new (Nat.le_refl _) e0 rfl).trans edge)⟩
  ·rw[born2_mute _ _ _ _ _ op hxu] at hxa;cases hxa
theorem TP.toC {m:Nat}{op:MemOp}(H:TP Seat Doner Mem Lent Own Shun B (Knows t h) t)(hm:t[m]?=some op)(hg:op.g=h)(hlast:m+1=t.size) :
  TP Seat Doner Mem Lent Own Shun B (fun i=>Before t i m) t:=by
 refine⟨H.clean,fun i a ha hmem=>?_,H.wrote,H.owned,H.plain,H.objw,H.hears,H.seen⟩;rcases H.known i a ha hmem with⟨q,z,hq,hz,hb⟩ | hk
 ·refine .inl (hb.trans ?_)
  have hqm:q≤m:=by have:=lt_size_of_getElem? hq;omega
  rcases Nat.lt_or_ge q m with hlt | hge
  ·exact .inr (hb_po hlt hq hm (hz.trans hg.symm))
  ·exact .inl (by omega)
 ·exact .inr hk
theorem TP.take {m c:Nat}(H:TP Seat Doner Mem Lent Own Shun B (fun i=>Before t i m) t)(ha:t.act? m=some (.close c))(hhm:t.heard m)(hj:Mem j)(fj:FuncId)(pj:String)(hc:c<B) :
  TP (fun g=>Seat g∧g≠j) Doner Mem Lent Own Shun B (Knows (t++#[{g:=j,fn:=fj,pos:=pj,act:=.recvClosed c}]) j) (t++#[{g:=j,fn:=fj,pos:=pj,act:=.recvClosed c}]):=by
 generalize hu:(#[{g:=j,fn:=fj,pos:=pj,act:=.recvClosed c}]:Trace)=u;obtain⟨z,hz,_⟩:=Option.map_eq_some_iff.1 (show(t[m]?).map (·.act)=some (.close c) from ha);have hlt:=lt_size_of_getElem? hz;have hn:∀ op∈u,op.act.touch?=none:=by
  intro op hop;subst hu;simp only[List.mem_toArray,List.mem_cons,List.not_mem_nil,or_false] at hop;subst hop;rfl
 have hq:∀ g,∀ op∈u,∀ d,deafStep g d op=d:=by
  intro g op hop d;subst hu;simp only[List.mem_toArray,List.mem_cons,List.not_mem_nil,or_false] at hop;subst hop;rfl
 have e0:(t++u)[t.size]?=some { g:=j,fn:=fj,pos:=pj,act:=.recvClosed c}:=by subst hu;simp
 have hhm':(t++u).heard m:=(heard_old hlt).2 hhm;have edge:HappensBefore (t++u) m t.size :=
  Relation.TransGen.single (.inr ⟨.closed (by rw[act?_old hlt];exact ha) (act?_of e0),hhm',⟨j,g?_of e0,by rw[deaf_old (Nat.le_refl _)];exact H.hears j hj⟩⟩)
 refine TP.stand (K:=Knows (t++u) j) (H.appMutes (fun i hk=>⟨t.size,_,e0,rfl,.inr ((hk.app u).hb edge)⟩) hn (fun g _=>Deaf_quiet (hq g)) fun op hop=>?_) (fun _ h=>h) fun i hg=>knows_g hg;subst hu;simp only[List.mem_toArray,List.mem_cons,List.not_mem_nil,or_false] at hop;subst hop;exact hc
theorem TP.toPast (H:TP Seat Doner Mem Lent Own Shun B (Knows t 0) t)(h0:Deaf t 0=0)(hS:∀ g,¬ Seat g):Past (fun l=>∃ b,blk l=some b∧Shun b) B t:=by
 have hk:∀ i a,touchAt t i=some a→a.loc.isMemory=true→Knows t 0 i∨((∃ b,blk a.loc=some b∧Shun b)∧a.kind=.atomic∧¬ t.heard i):=fun i a ha hm =>
  (H.known i a ha hm).imp id fun h=>h.elim (fun⟨g,_,hs,_⟩=>absurd hs (hS g)) id
 refine⟨H.clean,fun i a ha hm=>(hk i a ha hm).imp id fun h=>⟨h.1,h.2.1⟩,fun i g hg hne ⟨x,hx,hm,hc⟩=>?_,h0,H.seen⟩;rcases hk i x hx hm with⟨q,z,hq,hz,hb⟩ | ⟨_,h1,h2⟩
 ·rcases hb with rfl | hb
  ·rw[g?_of hq,hz] at hg
   exact absurd (oj' hg).symm hne
  ·exact⟨q,by rw[g?_of hq,hz],hb⟩
 ·rcases hc with hc | hc
  ·exact absurd h1 hc
  ·exact absurd hc h2
theorem TP.ofPast {Shunned:Nat→Prop}(H:Past (fun _=>False) B t)(hh:∀ g,Mem g→g=0)(ho:∀ i a b,touchAt t i=some a→a.loc=.obj b→a.write=true→a.kind=.atomic) :
  TP (fun _=>False) (fun _=>False) Mem Lent Own Shunned B (Knows t 0) t :=
 ⟨H.clean,fun i a ha hm=>(H.known i a ha hm).imp id fun h=>h.1.elim,fun _ _ _ _ _ _ h=>h.elim,fun _ _ _ _ _ h=>h.elim,fun _ _ _ _ _ _ h=>h.elim,ho,fun g hg=>hh g hg▸H.hears,H.seen⟩
end
end Go.Proofs.Ytfbjopkiicmiiaa.Lift
namespace Go.Proofs.Ytfbjopkiicmiiaa.Lift
open Go Go.Conc
open Go.ConcN (sumTo upd sumTo_upd upd_ne upd_same)
def View (ρ:Ren)(p W:World):Prop:=WRel ρ (re p W.tape W.drawn) W
theorem View.of {ρ:Ren}{p W:World}(h:WRel ρ p W):View ρ p W:=⟨h.dom,h.inj,h.obj,fun _ _=>rfl,h.os,h.low⟩
theorem View.re {ρ:Ren}{p W:World}(h:View ρ p W)(τ:Nat→Question→Nat)(d:Nat):View ρ (Lift.re p τ d) W:=h
theorem View.dom {ρ:Ren}{p W:World}(h:View ρ p W):∀ b B,ρ b=some B→b<p.heap.size∧B<W.heap.size:=WRel.dom (w:=Lift.re p W.tape W.drawn) h
theorem View.inj {ρ:Ren}{p W:World}(h:View ρ p W):∀ b c B,ρ b=some B→ρ c=some B→b=c:=WRel.inj (w:=Lift.re p W.tape W.drawn) h
theorem View.obj {ρ:Ren}{p W:World}(h:View ρ p W):∀ b B,ρ b=some B→∃ o O,p.heap[b]?=some o∧W.heap[B]?=some O∧ORel ρ o O:=WRel.obj (w:=Lift.re p W.tape W.drawn) h
theorem View.low {ρ:Ren}{p W:World}(h:View ρ p W):Low ρ p.heap.size W.heap.size:=WRel.low (w:=Lift.re p W.tape W.drawn) h
theorem View.keep {ρ:Ren}{p W W':World}(h:View ρ p W)(hsz:W.heap.size≤W'.heap.size)(hos:W'.os=W.os)
  (hb:∀ b B,ρ b=some B→W'.heap[B]?=W.heap[B]?∨(p.heap[b]?=some poison∧CC W' B)):View ρ p W':=by
 refine⟨fun b B hB=>⟨(h.dom b B hB).1,nl' (h.dom b B hB).2 hsz⟩,h.inj,fun b B hB=>?_,fun _ _=>rfl,(WRel.os (w:=Lift.re p W.tape W.drawn) h).trans hos.symm,h.low.le (Nat.le_refl _) hsz⟩;obtain⟨o,O,h1,h2,h3⟩:=h.obj b B hB;rcases hb b B hB with e | ⟨e,hc⟩
 ·exact⟨o,O,h1,e.trans h2,h3⟩
 ·rcases hc with⟨C,t,fz,hc⟩ | ⟨cap,buf,cl,s,r,tm,hc⟩
  ·exact⟨poison,_,e,hc,.hidC⟩
  ·exact⟨poison,_,e,hc,.hidH⟩
theorem View.cc {ρ:Ren}{p W:World}(h:View ρ p W){b B:Nat}(hb:ρ b=some B)(hp:p.heap[b]?=some poison):CC W B:=by
 obtain⟨o,O,h1,h2,h3⟩:=h.obj b B hb;rw[hp] at h1;cases h1;cases h3 with
 | hidC=>exact .inl ⟨_,_,_,h2⟩
 | hidH=>exact .inr ⟨_,_,_,_,_,_,h2⟩
structure Acts (ρ σ:Ren)(p p' W W':World)(ES:Array Event):Prop where
 view:View σ p' W'
 le:ρ.le σ
 size:W.heap.size≤W'.heap.size
 vsize:p.heap.size≤p'.heap.size
 os:W'.os=W.os
 free:∀ B,B<W.heap.size→(∀ b,ρ b=some B→Stl p b)→W'.heap[B]?=W.heap[B]?
 still:∀ b,Stl p b→p'.heap[b]?=p.heap[b]?
 vis:∀ b,b<p.heap.size→p.heap[b]?≠some poison→p'.heap[b]?≠some poison
 kind:∀ B,CC W B→CC W' B
 newb:∀ b B,σ b=some B→ρ b=some B∨(p.heap.size≤b∧W.heap.size≤B)
 full:∀ b,p.heap.size≤b→b<p'.heap.size→∃ B,σ b=some B
 tape:W'.tape=W.tape
 output:W'.output=W.output
 evs:∀ e∈ES,EvR σ p p' e
theorem Acts.of {ρ σ:Ren}{p p' W W':World}{ES:Array Event}(hv:View ρ p W)(h:Went ρ σ (re p W.tape W.drawn) p' W W' ES):Acts ρ σ p p' W W' ES:=by
 refine⟨View.of h.rel,h.frm.le,h.frm.size,h.vsize,h.frm.os,fun B hB hs=>?_,fun b hb=>(h.still b hb).1,h.vis,h.kind,fun b B hb=>?_,h.full,h.frm.tape,h.frm.output,h.evs⟩
 ·by_cases e:∃ b,ρ b=some B
  ·obtain⟨b,hb⟩:=e
   exact(h.still b (hs b hb)).2 B hb
  ·exact h.frm.block B hB fun b hb=>e ⟨b,hb⟩
 ·rcases h.newb b B hb with k | k
  ·exact .inl k
  ·rcases h.frm.fresh b B hb with j | j
   ·exact .inl j
   ·exact .inr ⟨k,j⟩
theorem sim_go {P:Program}(hP:Fits P){ρ:Ren}{p W:World}(hv:View ρ p W){g G g':Goroutine}(hg:GRel ρ g G){m:Bool}(hh:g.frame.mode=.run→okHd P g.frame.eval g.frame.todo){p':World}{es:Array Event}
  (e:stepG P m g (re p W.tape W.drawn)=.go g' p' es) (hp:Plain g'):∃ σ G' W' ES,stepG P m G W=.go G' W' ES∧GRel σ g' G'∧Acts ρ σ p p' W W' ES:=by
 obtain⟨σ,G',W',ES,h1,h2,h3⟩:=(step_sim (M:=m) hP hv hg (.inl rfl) (fun⟨_,e,e'⟩=>hh (e.trans e'))).go _ _ _ e hp;exact⟨σ,G',W',ES,h1,h2,Acts.of hv h3⟩
structure SeatS where
 c:Nat
 z:Value
 ok:Bool
 lent:Nat→Prop
 lo:Nat
 hi:Nat
 At:Goroutine→World→Prop
def SeatS.own (s:SeatS)(b:Nat):Prop:=s.lo≤b∧b<s.hi
structure AtRecv (P:Program)(m:Bool)(s:SeatS)(g:Goroutine)(p:World):Prop where
 runs:g.status=.running
 ok:g.frame.mode=.run→okHd P g.frame.eval g.frame.todo
 step:∀ τ d,∃ es,stepG P m g (re p τ d)=.comm g #[rcase s.c s.z] true (.recv s.ok) (re p τ d) es
 home:s.At g p
def WalkS (P:Program)(m:Bool)(s:SeatS):Nat→Goroutine→World→Prop
 | 0,g,p=>AtRecv P m s g p
 | n+1,g,p=>AtRecv P m s g p∨(g.status=.running∧(g.frame.mode=.run→okHd P g.frame.eval g.frame.todo) ∧
   ∀ τ d,∃ g' p' es,stepG P m g (re p τ d)=.go g' p' es∧Plain g'∧p'.heap.size≤s.hi∧WalkS P m s n g' p')
theorem WalkS.runs {P:Program}{m:Bool}{s:SeatS}{n:Nat}{g:Goroutine}{p:World}(h:WalkS P m s n g p):g.status=.running:=by
 cases n with
 | zero=>exact AtRecv.runs h
 | succ n=>exact h.elim AtRecv.runs (·.1)
structure Seated (P:Program)(j:Nat)(s:SeatS)(ω ρ:Ren)(w W:World)(n:Nat)(G:Goroutine)(p:World)(ρp:Ren)(g:Goroutine):Prop where
 view:View ρp p W
 le:ρp.le ω
 sub:∀ b B,ρp b=some B→ρ b=some B∨s.own b
 all:∀ b B,ω b=some B→s.own b→ρp b=some B
 keep:∀ b B,ρp b=some B→p.heap[b]?=some poison∨s.own b∨(s.lent b∧p.heap[b]?=w.heap[b]?)
 chan:∃ C,ρp s.c=some C
 full:∀ b o,s.own b→p.heap[b]?=some o→o≠poison→∃ B,ρp b=some B
 bot:s.lo≤p.heap.size
 top:p.heap.size≤s.hi
 way:(∃ k,n=k+1∧GRel ρp g G∧WalkS P (j==0) s k g p) ∨
  (n=0∧∃ G0 C,ρp s.c=some C∧G=parked G0 #[rcase C s.z] (.recv s.ok)∧GRel ρp g G0∧AtRecv P (j==0) s g p)
theorem Seated.status {P:Program}{j:Nat}{s:SeatS}{ω ρ:Ren}{w W:World}{n:Nat}{G:Goroutine}{p:World}{ρp:Ren}{g:Goroutine}(h:Seated P j s ω ρ w W n G p ρp g) :
  (G.status=.running∧0<n)∨(G.status=.blocked∧n=0):=by
 rcases h.way with⟨k,rfl,h1,h2⟩ | ⟨rfl,G0,C,_,rfl,_⟩
 ·exact .inl ⟨h1.status.symm.trans h2.runs,by omega⟩
 ·exact .inr ⟨rfl,rfl⟩
inductive Role
 | none
 | seat (s:SeatS)
 | doner (b:Nat)
structure SC where
 w:World
 n:Nat
 role:Nat→Role
 chs:Nat→Prop
 wgs:Nat→Prop
 pend:Nat→Nat
 grp:Nat→Option Nat
 fz:Nat→Prop
 n0:Nat
 W0:World
open Go.ConcR (KK WgAt stA smA DC0)
def cnt (S:SC)(und:Nat→Bool)(b j:Nat):Nat:=if S.grp j=some b∧und j=true then 1 else 0
def RL (ty:TypeId)(Wg:Nat)(W W1:World):Prop:=Go.ConcN.WgLive ty Wg W→Go.ConcN.WgLive ty Wg W1
section
variable (P:Program)(ty:TypeId)(Wg:Nat)
open Go.ConcR (rd wr mk)
def DQ1 (G:Goroutine)(W:World):Prop :=
 G.status=.running∧mayWake P G=true∧(WgAt ty Wg W 0 0→∃ G',stepG P false G W=.go G' (W.setCell (smA Wg) (.int .u32 1)) (semEvents (smA Wg))∧∃ q,QuitsD P q 1 G')
def DQ2 (G:Goroutine)(W:World):Prop :=
 G.status=.running∧(WgAt ty Wg W 1 0→∃ G',stepG P false G W=.go G' (W.setCell (stA Wg) (.int .u64 0)) #[wr (stA Wg)]∧∃ m,Goes P false (RL ty Wg) DC0 (DQ1 P ty Wg) m G' (W.setCell (stA Wg) (.int .u64 0)))
def DQ3 (G:Goroutine)(W:World):Prop :=
 G.status=.running∧(WgAt ty Wg W 1 0→∃ G',stepG P false G W=.go G' W #[rd (stA Wg)]∧∃ m,Goes P false (RL ty Wg) DC0 (DQ2 P ty Wg) m G' W)
def DQ4 (G:Goroutine)(W:World):Prop :=
 G.status=.running∧∀ v wt:Nat,wt≤1→v<2147483647→WgAt ty Wg W ((v+1)*KK+wt) 0 →
  ∃ G',stepG P false G W=.go G' (W.setCell (stA Wg) (.int .u64 (v*KK+wt))) #[rd (stA Wg),wr (stA Wg)] ∧
   ((v=0∧wt=1)→∃ m,Goes P false (RL ty Wg) DC0 (DQ3 P ty Wg) m G' (W.setCell (stA Wg) (.int .u64 (v*KK+wt))))∧(¬ (v=0∧wt=1)→∃ q,QuitsD P q 1 G')
def DQ5 (G:Goroutine)(W:World):Prop :=
 G.status=.running∧∃ G',stepG P false G W=.go G' W #[mk .disable]∧∃ m,Goes P false (RL ty Wg) DC0 (DQ4 P ty Wg) m G' W
def DQ6 (G:Goroutine)(W:World):Prop :=
 G.status=.running∧∃ G',stepG P false G W=.go G' W #[mk (.releaseMerge (stA Wg))]∧∃ m,Goes P false (RL ty Wg) DC0 (DQ5 P ty Wg) m G' W
def DonerAt:Nat→Nat→Goroutine→World→Prop
 | 6,n,G,W=>Goes P false (RL ty Wg) DC0 (DQ6 P ty Wg) n G W
 | 5,n,G,W=>Goes P false (RL ty Wg) DC0 (DQ5 P ty Wg) n G W
 | 4,n,G,W=>Goes P false (RL ty Wg) DC0 (DQ4 P ty Wg) n G W
 | 3,n,G,W=>Goes P false (RL ty Wg) DC0 (DQ3 P ty Wg) n G W
 | 2,n,G,W=>Goes P false (RL ty Wg) DC0 (DQ2 P ty Wg) n G W
 | 1,n,G,W=>Goes P false (RL ty Wg) DC0 (DQ1 P ty Wg) n G W
 | _,_,_,_=>False
end
#print axioms Seated.status
end Go.Proofs.Ytfbjopkiicmiiaa.Lift
