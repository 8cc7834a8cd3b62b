/-
 Part 4 of the proof of a law. Conditions: none.
-/
import Derived.Test.YtmdkmlgafnjhmaaQ3
import Derived.Conc.SmallLaws
import Derived.Laws.LoneSync
import Derived.Test.YtmdkmlgafnjhmaaProg
set_option linter.unusedVariables false
set_option linter.unusedSimpArgs false
namespace Go.Proofs.Ytmdkmlgafnjhmaa
open Go.Conc
open Go.ConcN (sumTo upd sumTo_upd upd_ne upd_same sumTo_congr RelBy)
open Go.ConcM (OsLater)
namespace Wp
section world
variable {w : World} {a : Addr} {v : Value} {cs : Array Value} {t : TypeId} {b : Nat}
theorem heap_set (hs : a.spot = none) (h : w.heap[a.block]? = some (.cells cs t)) : (w.setCell a v).heap[a.block]? = some (.cells (cs.setIfInBounds a.off v) t) := by
 unfold World.setCell
 rw [Array.getElem?_modify]
 simp [h, hs]
theorem heap_set_ne (h : b ≠ a.block) : (w.setCell a v).heap[b]? = w.heap[b]? := by
 unfold World.setCell
 rw [Array.getElem?_modify]
 simp [Ne.symm h]
theorem size_set : (w.setCell a v).heap.size = w.heap.size := by simp [World.setCell]
theorem cell_of (hs : a.spot = none) (h : w.heap[a.block]? = some (.cells cs t)) : w.cell? a = cs[a.off]? := by
 simp [World.cell?, h, hs]
theorem thaw_of (h : w.heap[a.block]? = some (.cells cs t)) : w.frozen? a = false := by simp [World.frozen?, h]
end world
section
variable {E : Env} {P : Program} {k : Nat} {σ σ' : Gh} {w w' : World}
theorem J.cellMu (h : J E σ w) : w.cell? (muA E) = some (.int .i32 (σ.mx.word : Int)) := by rw [cell_of rfl (show w.heap[(muA E).block]? = _ from h.mu)]; rfl
theorem J.cellMs (h : J E σ w) : w.cell? (msA E) = some (.int .u32 (σ.mx.sm : Int)) := by rw [cell_of rfl (show w.heap[(msA E).block]? = _ from h.mu)]; rfl
theorem J.cellNx (h : J E σ w) : w.cell? (nxA E) = some (.int .i64 (σ.nx : Int)) := by rw [cell_of rfl (show w.heap[(nxA E).block]? = _ from h.nx)]; rfl
theorem J.cellSt (h : J E σ w) : w.cell? (stA E) = some (.int .u64 (σ.wg : Int)) := by rw [cell_of rfl (show w.heap[(stA E).block]? = _ from h.wg)]; rfl
theorem J.cellSm (h : J E σ w) : w.cell? (smA E) = some (.int .u32 (σ.ws : Int)) := by rw [cell_of rfl (show w.heap[(smA E).block]? = _ from h.wg)]; rfl
theorem J.thawMu (h : J E σ w) : w.frozen? (muA E) = false := thaw_of (a := muA E) h.mu
theorem J.thawMs (h : J E σ w) : w.frozen? (msA E) = false := thaw_of (a := msA E) h.mu
theorem J.thawNx (h : J E σ w) : w.frozen? (nxA E) = false := thaw_of (a := nxA E) h.nx
theorem J.thawSt (h : J E σ w) : w.frozen? (stA E) = false := thaw_of (a := stA E) h.wg
theorem J.thawSm (h : J E σ w) : w.frozen? (smA E) = false := thaw_of (a := smA E) h.wg
structure Four (E : Env) (σ : Gh) (w : World) : Prop where
 mu : w.heap[E.Mu]? = some (.cells #[.int .i32 (σ.mx.word : Int), .int .u32 (σ.mx.sm : Int)] E.tM)
 nx : w.heap[E.Nx]? = some (.cells #[.int .i64 (σ.nx : Int)] E.tN)
 wg : w.heap[E.Wg]? = some (.cells #[.int .u64 (σ.wg : Int), .int .u32 (σ.ws : Int)] E.tW)
 o : ∃ cs : Array Value, w.heap[E.O]? = some (.cells cs E.tO) /\ cs.size = E.n /\ ∀ i, i < E.n -> σ.writ i = true -> cs[i]? = some (.int .i64 (E.val i))
structure Same (E : Env) (w w' : World) : Prop where
 size : w'.heap.size = w.heap.size
 tape : w'.tape = w.tape
 output : w'.output = w.output
 os : OsLater w.os w'.os
 mem : ∀ b, ¬ E.Hot b -> w'.heap[b]? = w.heap[b]?
theorem Same.refl : Same E w w := ⟨rfl, rfl, rfl, .refl _, fun _ _ => rfl⟩
theorem Same.set {a : Addr} {v : Value} (h : E.Hot a.block) : Same E w (w.setCell a v) := ⟨size_set, rfl, rfl, .refl _, fun b hb => heap_set_ne fun e => hb (e ▸ h)⟩
theorem Same.later : Same E w w.later := ⟨rfl, rfl, rfl, ⟨w.tick, rfl⟩, fun _ _ => rfl⟩
theorem Same.asked : Same E w w.asked := ⟨rfl, rfl, rfl, .refl _, fun _ _ => rfl⟩
theorem J.four (h : J E σ w) : Four E σ w := ⟨h.mu, h.nx, h.wg, h.o⟩
theorem Four.later (h : Four E σ w) : Four E σ w.later := ⟨h.mu, h.nx, h.wg, h.o⟩
theorem Four.asked (h : Four E σ w) : Four E σ w.asked := ⟨h.mu, h.nx, h.wg, h.o⟩
section
variable (hE : E.Ok)
include hE
theorem Env.Ok.low {b : Nat} (h : E.Hot b) : E.base <= b := by
 rcases h with rfl | rfl | rfl | rfl
 · exact hE.lm
 · exact hE.ln
 · exact hE.lw
 · exact hE.lo
theorem Four.setMu (h : Four E σ w) {x : Nat} {mx : Mx} {wk : Nat -> Wk} (hx : mx.word = x) (hs : mx.sm = σ.mx.sm) : Four E { σ with mx := mx, wk := wk } (w.setCell (muA E) (.int .i32 (x : Int))) := by
 subst hx
 exact ⟨by rw [show E.Mu = (muA E).block from rfl, heap_set rfl (show w.heap[(muA E).block]? = _ from h.mu)]; simp [muA, hs],
  by rw [heap_set_ne (show E.Nx ≠ (muA E).block from hE.mn.symm)]; exact h.nx, by rw [heap_set_ne (show E.Wg ≠ (muA E).block from hE.mw.symm)]; exact h.wg,
  by rw [heap_set_ne (show E.O ≠ (muA E).block from hE.mo.symm)]; exact h.o⟩
theorem Four.setMs (h : Four E σ w) {x : Nat} {mx : Mx} {wk : Nat -> Wk} (hx : mx.sm = x) (hs : mx.word = σ.mx.word) : Four E { σ with mx := mx, wk := wk } (w.setCell (msA E) (.int .u32 (x : Int))) := by
 subst hx
 exact ⟨by rw [show E.Mu = (msA E).block from rfl, heap_set rfl (show w.heap[(msA E).block]? = _ from h.mu)]; simp [msA, hs],
  by rw [heap_set_ne (show E.Nx ≠ (msA E).block from hE.mn.symm)]; exact h.nx, by rw [heap_set_ne (show E.Wg ≠ (msA E).block from hE.mw.symm)]; exact h.wg,
  by rw [heap_set_ne (show E.O ≠ (msA E).block from hE.mo.symm)]; exact h.o⟩
theorem Four.setNx (h : Four E σ w) {x : Nat} {wk : Nat -> Wk} : Four E { σ with nx := x, wk := wk } (w.setCell (nxA E) (.int .i64 (x : Int))) :=
 ⟨by rw [heap_set_ne (show E.Mu ≠ (nxA E).block from hE.mn)]; exact h.mu,
  by rw [show E.Nx = (nxA E).block from rfl, heap_set rfl (show w.heap[(nxA E).block]? = _ from h.nx)]; simp [nxA], by rw [heap_set_ne (show E.Wg ≠ (nxA E).block from hE.nw.symm)]; exact h.wg,
  by rw [heap_set_ne (show E.O ≠ (nxA E).block from hE.no.symm)]; exact h.o⟩
theorem Four.setSt (h : Four E σ w) {x ms : Nat} {wk : Nat -> Wk} : Four E { σ with wg := x, wk := wk, ms := ms } (w.setCell (stA E) (.int .u64 (x : Int))) :=
 ⟨by rw [heap_set_ne (show E.Mu ≠ (stA E).block from hE.mw)]; exact h.mu, by rw [heap_set_ne (show E.Nx ≠ (stA E).block from hE.nw)]; exact h.nx,
  by rw [show E.Wg = (stA E).block from rfl, heap_set rfl (show w.heap[(stA E).block]? = _ from h.wg)]; simp [stA],
  by rw [heap_set_ne (show E.O ≠ (stA E).block from hE.wo.symm)]; exact h.o⟩
theorem Four.setSm (h : Four E σ w) {x ms : Nat} {wk : Nat -> Wk} : Four E { σ with ws := x, wk := wk, ms := ms } (w.setCell (smA E) (.int .u32 (x : Int))) :=
 ⟨by rw [heap_set_ne (show E.Mu ≠ (smA E).block from hE.mw)]; exact h.mu, by rw [heap_set_ne (show E.Nx ≠ (smA E).block from hE.nw)]; exact h.nx,
  by rw [show E.Wg = (smA E).block from rfl, heap_set rfl (show w.heap[(smA E).block]? = _ from h.wg)]; simp [smA],
  by rw [heap_set_ne (show E.O ≠ (smA E).block from hE.wo.symm)]; exact h.o⟩
theorem Four.setO (h : Four E σ w) {i : Nat} (hi : i < E.n) {wk : Nat -> Wk} : Four E { σ with writ := upd σ.writ i true, wk := wk } (w.setCell ⟨E.O, i, none⟩ (.int .i64 (E.val i))) := by
 obtain ⟨cs, h1, h2, h3⟩ := h.o
 refine ⟨by rw [heap_set_ne (show E.Mu ≠ E.O from hE.mo)]; exact h.mu, by rw [heap_set_ne (show E.Nx ≠ E.O from hE.no)]; exact h.nx,
  by rw [heap_set_ne (show E.Wg ≠ E.O from hE.wo)]; exact h.wg, _, heap_set (a := ⟨E.O, i, none⟩) rfl h1, by simp [h2], fun j hj hw => ?_⟩
 by_cases e : j = i
 · subst e
   simp [h2, hj]
 · rw [Array.getElem?_setIfInBounds_ne (Ne.symm e)]
   exact h3 j hj (by rw [<- hw]; exact (upd_ne _ _ e).symm)
theorem J.turn (hJ : J E σ w) (hw : Same E w w') (h4 : Four E σ' w') (inv : Inv E.n σ') (acc : σ'.hs + dues σ'.num σ'.wk + E.rest σ'.nx + σ'.dm = E.tot) (hs : σ'.hs = σ.hs) (pv : σ'.pv = σ.pv) (num : σ'.num = σ.num) : J E σ' w' where
 inv := inv
 mu := h4.mu
 nx := h4.nx
 wg := h4.wg
 o := h4.o
 old b hb := (hw.mem b fun h => by have := hE.low h; omega).trans (hJ.old b hb)
 size := by rw [hw.size, hs]; exact hJ.size
 tape := hw.tape.trans hJ.tape
 output := hw.output.trans hJ.output
 os := hJ.os.trans hw.os
 acc := acc
 pv b hb := by rw [pv, hs, num] at *; exact hJ.pv b hb
 rows b h1 h2 := by
  by_cases hh : E.Hot b
  · rcases hh with rfl | rfl | rfl | rfl
    · exact ⟨_, _, h4.mu⟩
    · exact ⟨_, _, h4.nx⟩
    · exact ⟨_, _, h4.wg⟩
    · obtain ⟨cs, hc, _⟩ := h4.o
      exact ⟨_, _, hc⟩
  · rw [hw.mem b hh]
    exact hJ.rows b h1 (by rw [<- hw.size]; exact h2)
end
theorem dues_upd {n : Nat} {wk : Nat -> Wk} (hk : k < n) (x : Wk) : dues n (upd wk k x) + (wk k).due = dues n wk + x.due := sumTo_upd wk x (fun z => z.due) hk
theorem dues_same {n : Nat} {wk : Nat -> Wk} {x : Wk} (hx : x.due = (wk k).due) : dues n (upd wk k x) = dues n wk := sumTo_congr fun i _ => by
 by_cases e : i = k
 · subst e; rw [upd_same, hx]
 · rw [upd_ne _ _ e]
theorem sum_same {n : Nat} {wk : Nat -> Wk} {x : Wk} {φ : Wk -> Nat} (hx : φ x = φ (wk k)) : sumTo n (fun i => φ (upd wk k x i)) = sumTo n fun i => φ (wk i) := sumTo_congr fun i _ => by
 by_cases e : i = k
 · subst e; rw [upd_same, hx]
 · rw [upd_ne _ _ e]
theorem Inv.lock {n : Nat} (I : Inv n σ) (hk : k < σ.num) {x : Wk} {m : Mx} (hM : MInv σ.num (upd σ.wk k x) m) (h1 : x.fin = (σ.wk k).fin) (h2 : x.idx = (σ.wk k).idx) (h3 : x.low = (σ.wk k).low) (h4 : x.gone = (σ.wk k).gone) (hP : Pend x ↔ Pend (σ.wk k)) (ho : (σ.wk k).lk ≠ .out \/ x.lk = .out) :
  Inv n { σ with wk := upd σ.wk k x, mx := m } := by
 have all : ∀ {Q : Wk -> Prop}, (Q x ↔ Q (σ.wk k)) -> ∀ j, (Q (upd σ.wk k x j) ↔ Q (σ.wk j)) := fun {Q} h j => by
  by_cases e : j = k
  · subst e; rw [upd_same]; exact h
  · rw [upd_ne _ _ e]
 have eqs : ∀ {β : Type} (φ : Wk -> β), φ x = φ (σ.wk k) -> ∀ j, φ (upd σ.wk k x j) = φ (σ.wk j) := fun φ h j => by
  by_cases e : j = k
  · subst e; rw [upd_same]; exact h
  · rw [upd_ne _ _ e]
 have ei := eqs Wk.idx h2
 have ef := eqs Wk.fin h1
 have el := eqs Wk.low h3
 have ep := all (Q := Pend) hP
 refine ⟨hM, ?_, fun j hj hl => ?_, fun i hi hx => ?_, fun i j hi hj p q e => ?_, fun j hj p => ?_, I.wfut, fun j hj => ?_, fun j hj hf => I.all j hj ((all (Q := Away) (by unfold Away; rw [h1, h4]) j).1 hf), fun j hj => by rw [el j]; exact I.low j hj, I.num, ?_⟩
 · have a1 : c5 σ.num (upd σ.wk k x) = c5 σ.num σ.wk := sum_same (φ := fun z => if 5 <= z.fin then 1 else 0) (by rw [h1])
   have a2 : c43 σ.num (upd σ.wk k x) = c43 σ.num σ.wk := sum_same (φ := fun z => if z.fin = 4 \/ z.fin = 3 then 1 else 0) (by rw [h1])
   have a3 : c2 σ.num (upd σ.wk k x) = c2 σ.num σ.wk := sum_same (φ := fun z => if z.fin = 2 then 1 else 0) (by rw [h1])
   show WInv _ _ _ (c5 σ.num (upd σ.wk k x)) (c43 σ.num (upd σ.wk k x)) (c2 σ.num (upd σ.wk k x))
   rw [a1, a2, a3]; exact I.wgi
 · show (upd σ.wk k x j).fin = 7 /\ (upd σ.wk k x j).idx < n /\ (upd σ.wk k x j).idx < σ.nx
   rw [ef j, ei j]
   refine I.lkf j hj ?_
   by_cases e : j = k
   · subst e
     have hl : (upd σ.wk j x j).lk ≠ .out := hl
     rw [upd_same] at hl
     exact ho.resolve_right hl
   · have hl : (upd σ.wk k x j).lk ≠ .out := hl
     rw [upd_ne _ _ e] at hl; exact hl
 · rcases I.done i hi hx with h | ⟨j, a, b, c⟩
   · exact .inl h
   · exact .inr ⟨j, a, (ep j).2 b, (ei j).trans c⟩
 · exact I.uniq i j hi hj ((ep i).1 p) ((ep j).1 q) (by rw [<- ei i, <- ei j]; exact e)
 · show σ.writ (upd σ.wk k x j).idx = false
   rw [ei j]; exact I.pw j hj ((ep j).1 p)
 · show 1 <= (upd σ.wk k x j).fin /\ (upd σ.wk k x j).fin <= 7
   rw [ef j]; exact I.fin j hj
 · have : cgone σ.num (upd σ.wk k x) = cgone σ.num σ.wk := sum_same (φ := fun z => if z.gone = true then 1 else 0) (by rw [h4])
   show σ.nx <= n + cgone σ.num (upd σ.wk k x)
   rw [this]; exact I.nb
inductive Book (E : Env) : Event -> Prop where
 | at_ (a : Addr) (x : Bool) (h : a.block = E.Mu \/ a.block = E.Nx \/ a.block = E.Wg) : Book E ⟨.cell a, x, true⟩
 | dis : Book E ⟨.mark .disable, false, true⟩
 | en : Book E ⟨.mark .enable, false, true⟩
 | acq (a : Addr) (h : a.block = E.Mu \/ a.block = E.Nx \/ a.block = E.Wg) : Book E ⟨.mark (.acquire a), false, true⟩
 | rm (a : Addr) (h : a.block = E.Mu \/ a.block = E.Nx \/ a.block = E.Wg) : Book E ⟨.mark (.releaseMerge a), false, true⟩
theorem J.hotLt (h : J E σ w) {b : Nat} (hb : b = E.Mu \/ b = E.Nx \/ b = E.Wg) : b < σ.hs := by
 rw [<- h.size]
 rcases hb with rfl | rfl | rfl
 · exact (Array.getElem?_eq_some_iff.1 h.mu).1
 · exact (Array.getElem?_eq_some_iff.1 h.nx).1
 · exact (Array.getElem?_eq_some_iff.1 h.wg).1
theorem J.oLt (h : J E σ w) : E.O < σ.hs := by
 obtain ⟨cs, hc, _⟩ := h.o
 rw [<- h.size]
 exact (Array.getElem?_eq_some_iff.1 hc).1
theorem Book.evW (hJ' : J E σ' w') {e : Event} (h : Book E e) : EvW E k σ σ' e := by
 cases h with
 | at_ a x h => exact ⟨by simp, hJ'.hotLt h, fun y hy => by simp only [MemAct.ofEvent, MemAct.touch?, Option.some.injEq] at hy; subst hy; exact .inl ⟨⟨a, rfl, h⟩, rfl⟩⟩
 | dis => exact ⟨by simp, True.intro, fun y hy => by cases hy⟩
 | en => exact ⟨by simp, True.intro, fun y hy => by cases hy⟩
 | acq a h => exact ⟨by simp, hJ'.hotLt h, fun y hy => by cases hy⟩
 | rm a h => exact ⟨by simp, hJ'.hotLt h, fun y hy => by cases hy⟩
theorem c5_le {n : Nat} {wk : Nat -> Wk} (hk : k < n) {x : Wk} (h : 5 <= x.fin -> 5 <= (wk k).fin) : c5 n (upd wk k x) <= c5 n wk := by
 have := sumTo_upd wk x (fun z => if 5 <= z.fin then 1 else 0) hk
 unfold c5
 have e : (if 5 <= x.fin then 1 else 0) <= (if 5 <= (wk k).fin then 1 else 0 : Nat) := by
  by_cases h1 : 5 <= x.fin
  · rw [if_pos h1, if_pos (h h1)]; exact Nat.le_refl _
  · rw [if_neg h1]; omega
 omega
structure Keep (E : Env) (k : Nat) (σ : Gh) (w : World) (σ' : Gh) (w' : World) : Prop where
 j : J E σ' w'
 num : σ.num <= σ'.num
 low : (σ'.wk k).low = (σ.wk k).low
 hs : σ.hs <= σ'.hs
 pv : ∀ b, b < σ.hs -> σ'.pv b = σ.pv b
 mem : ∀ b, b < σ.hs -> (b < (σ.wk k).low /\ σ.pv b = 0 /\ ¬ E.Hot b) \/ σ.pv b = k + 1 -> w'.heap[b]? = w.heap[b]?
 pot : pot E.n σ' <= pot E.n σ
theorem RW.keep (h : RW E k σ w σ' w') : Keep E k σ w σ' w' := ⟨h.j, h.num, by rw [h.wk], h.hs, h.pv, h.mem, h.pot.1⟩
theorem Keep.trans {a b c : Gh} {u v x : World} (h1 : Keep E k a u b v) (h2 : Keep E k b v c x) : Keep E k a u c x :=
 have hs1 := h1.hs
 ⟨h2.j, Nat.le_trans h1.num h2.num, h2.low.trans h1.low, Nat.le_trans hs1 h2.hs, fun b hb => (h2.pv b (by omega)).trans (h1.pv b hb), fun b hb hc => (h2.mem b (by omega) (by rw [h1.low, h1.pv b hb]; exact hc)).trans (h1.mem b hb hc), Nat.le_trans h2.pot h1.pot⟩
theorem Keep.refl (hJ : J E σ w) : Keep E k σ w σ w := (RW.refl hJ).keep
structure Turn (E : Env) (k : Nat) (σ : Gh) (w : World) (es : Array Event) (σ' : Gh) (w' : World) : Prop where
 j : J E σ' w'
 own : ∀ j, j ≠ k -> σ'.wk j = σ.wk j
 num : σ'.num = σ.num
 ms : σ'.ms = σ.ms
 mdf : σ'.mdf = σ.mdf
 dm : σ'.dm = σ.dm
 hs : σ'.hs = σ.hs
 pv : σ'.pv = σ.pv
 low : (σ'.wk k).low = (σ.wk k).low
 same : Same E w w'
 pot : pot E.n σ' <= pot E.n σ /\ (σ'.mx.word = σ.mx.word \/ Wp.pot E.n σ' < Wp.pot E.n σ)
 dd : ∀ j, j ≠ k -> j < σ.num -> (σ.wk j).lk = .dd -> σ.mx.S = 1 -> σ'.mx.S = 1 /\ σ.mx.N <= σ'.mx.N
 c5 : 5 <= (σ'.wk k).fin -> 5 <= (σ.wk k).fin
 alive : (σ.wk k).fin ≠ 1
 df : deafBehind (σ.wk k).df es = (σ'.wk k).df
 writ : ∀ i, σ.writ i = true -> σ'.writ i = true
 ev : ∀ e ∈ es, EvW E k σ σ' e
 rel : (σ'.wk k).fin <= 6 -> ((σ.wk k).fin <= 6 /\ ∀ j e, es[j]? = some e -> (MemAct.ofEvent e).touch? = none \/ ((∃ ad wr, e = ⟨.cell ad, wr, true⟩) /\ 0 < deafBehind (σ.wk k).df (es.extract 0 j))) \/ (es = #[Go.ConcR.mk (.releaseMerge (stA E))] /\ (σ.wk k).df = 0)
theorem upd_fun {β : Type} {f f' : Nat -> β} {k : Nat} (h : ∀ j, j ≠ k -> f' j = f j) : f' = upd f k (f' k) := by
 funext j
 by_cases e : j = k
 · subst e; rw [upd_same]
 · rw [upd_ne _ _ e]; exact h j e
theorem Turn.keep (hJ : J E σ w) {es : Array Event} (h : Turn E k σ w es σ' w') : Keep E k σ w σ' w' :=
 ⟨h.j, Nat.le_of_eq h.num.symm, h.low, Nat.le_of_eq h.hs.symm, fun b _ => by rw [h.pv], fun b hb hc => h.same.mem b (hc.elim (fun x => x.2.2) fun x => (hJ.pv b (by omega)).2.2.1), h.pot.1⟩
theorem Turn.dw (hJ : J E σ w) (hk : k < σ.num) {es : Array Event} (h : Turn E k σ w es σ' w') {g g' : Goroutine} (hr : g'.status = .running) (hw : (σ.mx.sm = 0 -> 0 < σ'.mx.sm -> mayWake P g = true) /\ (σ.ws = 0 -> 0 < σ'.ws -> mayWake P g = true)) : DW E P k σ w g es σ' w' g' where
 j := h.j
 own := h.own
 num := h.num
 ms := h.ms
 mdf := h.mdf
 dm := h.dm
 hs := Nat.le_of_eq h.hs.symm
 pv b _ := by rw [h.pv]
 pvn b hb hp := by
  rw [h.pv] at hp
  have := (hJ.pv b hp).1
  omega
 low := h.low
 mem b _ hb _ := h.same.mem b hb
 pot := h.pot
 dd := h.dd
 cnt := by
  rw [h.num, upd_fun (f := σ.wk) (f' := σ'.wk) h.own]
  exact c5_le hk h.c5
 alive := h.alive
 run := hr
 df := h.df
 wake := hw
 writ := h.writ
 ev := h.ev
 rel := h.rel
variable {Stop : Gh -> Goroutine -> World -> Prop}
theorem goW {m : Nat} {g : Goroutine} (hr : isRun g = true) (hk : k < σ.num)
  (h : ∀ σ₁ w₁, RW E k σ w σ₁ w₁ -> k < σ₁.num -> ∃ g' w' es σ', stepG P false g w₁ = .go g' w' es /\ Turn E k σ₁ w₁ es σ' w' /\ isRun g' = true /\ ((σ₁.mx.sm = 0 -> 0 < σ'.mx.sm -> mayWake P g = true) /\ (σ₁.ws = 0 -> 0 < σ'.ws -> mayWake P g = true)) /\ GoesW P (proto E P) (k + 1) Stop m σ' g' w') :
  GoesW P (proto E P) (k + 1) Stop (m + 1) σ g w :=
 stepW hr fun σ₁ w₁ hw => by
  have hk1 : k < σ₁.num := Nat.lt_of_lt_of_le hk hw.num
  obtain ⟨g', w', es, σ', h1, h2, h3, h4, h5⟩ := h σ₁ w₁ hw hk1
  exact ⟨g', w', es, σ', h1, h2.dw hw.j hk1 (isRun_out h3).1 h4, h5⟩
end
def bodied (P : Program) (f : FuncId) : Bool := (P.funcs[f]?).any (·.body.isSome)
def loudOpR (P : Program) (ev : Operand -> Value) : Op -> Bool
 | .load .. | .store .. | .alloc .. | .box .. | .makeSlice .. | .go _ | .panic _ => true
 | .convert _ _ x => match ev x with
  | .pointer _ => true
  | _ => false
 | .call { callee := .value x, .. } => match ev x with
  | .func (.func f) _ _ => !(bodied P f)
  | _ => true
 | _ => false
def isConv (P : Program) (g : Goroutine) : Option Addr := match headO g with
 | some o => match o.op with
  | .convert src dst x => match P.underlying src, P.underlying dst, g.frame.eval x with
   | some (.pointer t), some .unsafePointer, .pointer (some a) => bif (P.info? t).any (fun i => !decide (i.size = 0)) then some a else none
   | _, _, _ => none
  | _ => none
 | none => none
theorem step_conv {P : Program} {main : Bool} {g : Goroutine} {w : World} {a : Addr} {v : Value} (h : isConv P g = some a) (hc : w.cell? a = some v) : stepG P main g w = .go (fin g (.pointer (some a))) w #[] := by
 unfold isConv at h
 split at h
 · next o ho =>
   split at h
   · next src dst x hop =>
     split at h
     · next t a' hs hd hx =>
       cases hq : ((P.info? t).any fun i => !decide (i.size = 0)) with
       | false => rw [hq] at h; cases h
       | true =>
        rw [hq] at h
        cases h
        have hsz : (P.info? t).map (fun i => decide (i.size = 0)) = some false := by
         cases hi : P.info? t with
         | none => rw [hi] at hq; cases hq
         | some i => rw [hi] at hq; simp at hq; simp [hq]
        have hr : (execOp g.frame.eval o).run P w = .ok (.value (.pointer (some a))) w := by
         unfold execOp
         simp only [hop, hx, Sem.run_bind, run_convert_to_unsafe hs hd hsz hc, Result.andThen_ok]
         rfl
        have he : (execOp g.frame.eval o).events P w #[] = #[] := by
         unfold execOp
         simp only [hop, hx, Sem.events_bind, run_convert_to_unsafe hs hd hsz hc, events_convert_to_unsafe hs hd hsz hc, Result.evThen_ok]
         rfl
        rw [step_val ho hr, he, seen_none]
     · cases h
   · cases h
 · cases h
def loudRet (P : Program) (g : Goroutine) : Bool := match g.frame.defers with
 | d :: _ => match d.target with
  | .fn (.func f) _ => !(bodied P f)
  | _ => true
 | [] => (P.funcs[g.frame.fn]?).any fun fn => fn.results.any fun | .cell .. => true | _ => false
def loudR (P : Program) (g : Goroutine) : Bool :=
 match g.frame.mode, g.frame.todo with
 | .run, .inRegion ops (i :: _) :: _ => match ops[i]? with
  | some o => Region.wanted o (yielded ops g.frame.tmps) && loudOpR P g.frame.eval o.op
  | none => true
 | .run, .code (.region _ _ true) :: _ => true
 | .run, _ => false
 | _, _ => loudRet P g
abbrev Orc := FuncId -> Nat -> Option Value
def noOrc : Orc := fun _ _ => none
structure Par where
 main : Bool := false
 O : Orc := noOrc
 V : FuncId -> Nat -> Option (Value × Value) := fun _ _ => none
 X : Goroutine -> Bool := fun _ => false
def dstR (g : Goroutine) : Option Nat := match headO g with
 | some o => o.dst
 | none => none
section
variable (P : Program) (c : Par)
def ldR (g : Goroutine) : Option (Addr × Value) := match isLoad P g, dstR g with
 | some (false, ad), some d => match c.O g.frame.fn d with
  | some v => some (ad, v)
  | none => none
 | _, _ => none
def vlR (g : Goroutine) : Option (Value × Value) := match dstR g with
 | some d => c.V g.frame.fn d
 | none => none
def nxR (g : Goroutine) : Goroutine := match vlR c g with
 | some x => fin g x.1
 | none => match ldR P c g with
  | some x => fin g x.2
  | none => nextQ P c.main g
def stopR (g : Goroutine) : Bool := match vlR c g with
 | some _ => false
 | none => match ldR P c g with
  | some _ => false
  | none => loudR P g || c.X g
def endR : Nat -> Goroutine -> Goroutine
 | 0, g => g
 | n + 1, g => bif stopR P c g then g else endR n (nxR P c g)
def stpR (g : Goroutine) (w : World) : GStep := match vlR c g with
 | some _ => stepG P c.main g w
 | none => match ldR P c g with
  | some _ => .go g w #[]
  | none => stepG P c.main g w
def wntR (g : Goroutine) (w : World) : GStep := match vlR c g with
 | some x => .go (fin g x.2) w #[]
 | none => match ldR P c g with
  | some _ => .go g w #[]
  | none => .go (nextQ P c.main g) w #[]
def seqR : Nat -> Goroutine -> World -> List GStep
 | 0, _, _ => []
 | n + 1, g, w => bif stopR P c g then [] else stpR P c g w :: seqR n (nxR P c g) w
def expR : Nat -> Goroutine -> World -> List GStep
 | 0, _, _ => []
 | n + 1, g, w => bif stopR P c g then [] else wntR P c g w :: expR n (nxR P c g) w
def okR : Nat -> Goroutine -> Bool
 | 0, g => isRun g
 | n + 1, g => isRun g && bif stopR P c g then true else okR n (nxR P c g)
def ldsR : Nat -> Goroutine -> List (FuncId × Addr × Value)
 | 0, _ => []
 | n + 1, g => bif stopR P c g then [] else (match vlR c g with
  | some _ => ldsR n (nxR P c g)
  | none => match ldR P c g with
   | some x => (g.frame.fn, x.1, x.2) :: ldsR n (nxR P c g)
   | none => ldsR n (nxR P c g))
structure Run (F : Nat) (g : Goroutine) : Prop where
 seq : ∀ w, seqR P c F g w = expR P c F g w
 ok : okR P c F g = true
end
section
variable {P : Program} {c : Par} {F : Nat} {g : Goroutine}
theorem Run.run (h : Run P c F g) : g.status = .running /\ g.offers = none := by
 cases F with
 | zero => exact isRun_out h.ok
 | succ n =>
  have := h.ok
  simp only [okR, Bool.and_eq_true] at this
  exact isRun_out this.1
theorem Run.last : ∀ {F : Nat} {g : Goroutine}, Run P c F g -> isRun (endR P c F g) = true
 | 0, g, h => h.ok
 | F + 1, g, h => by
  cases hl : stopR P c g with
  | true =>
   simp only [endR, hl, cond_true]
   have := h.ok
   simp only [okR, Bool.and_eq_true] at this
   exact this.1
  | false =>
   simp only [endR, hl, cond_false]
   refine Run.last ⟨fun w => ?_, ?_⟩
   · have := h.seq w
     simp only [seqR, expR, hl, cond_false, List.cons.injEq] at this
     exact this.2
   · have := h.ok
     simp only [okR, hl, cond_false, Bool.and_eq_true] at this
     exact this.2
theorem Run.step (h : Run P c (F + 1) g) (hl : stopR P c g = false) : (∀ w, stpR P c g w = wntR P c g w) /\ Run P c F (nxR P c g) := by
 refine ⟨fun w => ?_, ⟨fun w => ?_, ?_⟩⟩
 · have := h.seq w
   simp only [seqR, expR, hl, cond_false, List.cons.injEq] at this
   exact this.1
 · have := h.seq w
   simp only [seqR, expR, hl, cond_false, List.cons.injEq] at this
   exact this.2
 · have := h.ok
   simp only [okR, hl, cond_false, Bool.and_eq_true] at this
   exact this.2
def Par.Ok (c : Par) : Prop := ∀ f d x, c.V f d = some x -> x.1 = x.2
theorem vlR_ok (h : c.Ok) {x : Value × Value} (hx : vlR c g = some x) : x.1 = x.2 := by
 unfold vlR at hx
 split at hx
 · exact h _ _ _ hx
 · cases hx
theorem Run.append : ∀ {F : Nat} {G : Nat} {g : Goroutine}, Run P c F g -> Run P c G (endR P c F g) -> Run P c (F + G) g
 | 0, G, g, _, h2 => by rw [Nat.zero_add]; exact h2
 | F + 1, G, g, h1, h2 => by
  rw [Nat.succ_add]
  cases hl : stopR P c g with
  | true =>
   refine ⟨fun w => by simp only [seqR, expR, hl, cond_true], ?_⟩
   have := h1.ok
   simp only [okR, hl, cond_true] at this ⊢
   exact this
  | false =>
   obtain ⟨ha, hb⟩ := h1.step hl
   simp only [endR, hl, cond_false] at h2
   have h3 := hb.append h2
   refine ⟨fun w => ?_, ?_⟩
   · simp only [seqR, expR, hl, cond_false, ha w, h3.seq w]
   · have := h1.ok
     simp only [okR, hl, cond_false, Bool.and_eq_true] at this ⊢
     exact ⟨this.1, h3.ok⟩
theorem ldR_load {x : Addr × Value} (h : ldR P c g = some x) : isLoad P g = some (false, x.1) := by
 unfold ldR at h
 split at h
 · next ad d ha hd =>
   split at h
   · next v hv => cases h; exact ha
   · cases h
 · cases h
end
section
variable {E : Env} {P : Program} {k : Nat} {σ σ' : Gh} {w w' : World} {Stop : Gh -> Goroutine -> World -> Prop}
def Mine (E : Env) (k : Nat) (σ : Gh) (ad : Addr) : Prop := ad.block < σ.hs /\ ((ad.block < (σ.wk k).low /\ σ.pv ad.block = 0 /\ ¬ E.Hot ad.block /\ ¬ E.Shun (.cell ad)) \/ σ.pv ad.block = k + 1)
structure Known (E : Env) (P : Program) (k : Nat) (σ : Gh) (w : World) (x : FuncId × Addr × Value) : Prop where
 cell : w.cell? x.2.1 = some x.2.2
 mine : Mine E k σ x.2.1
 way : norace P x.1 = true \/ (σ.wk k).fin = 7
theorem cell_congr {w w' : World} {ad : Addr} (h : w'.heap[ad.block]? = w.heap[ad.block]?) : w'.cell? ad = w.cell? ad := by unfold World.cell?; rw [h]
theorem Mine.keep {ad : Addr} (h : Mine E k σ ad) (hK : Keep E k σ w σ' w') : Mine E k σ' ad := ⟨Nat.lt_of_lt_of_le h.1 hK.hs, by rw [hK.low, hK.pv _ h.1]; exact h.2⟩
theorem Mine.cell {ad : Addr} (h : Mine E k σ ad) (hK : Keep E k σ w σ' w') : w'.cell? ad = w.cell? ad := cell_congr (hK.mem _ h.1 (h.2.imp (fun x => ⟨x.1, x.2.1, x.2.2.1⟩) id))
theorem Known.keep {x : FuncId × Addr × Value} (h : Known E P k σ w x) (hK : Keep E k σ w σ' w') (hf : (σ'.wk k).fin = (σ.wk k).fin) : Known E P k σ' w' x := ⟨(h.mine.cell hK).trans h.cell, h.mine.keep hK, by rw [hf]; exact h.way⟩
theorem DW.load {g g' : Goroutine} {es : Array Event} {fn : FuncId} {ad : Addr} {v : Value} (hJ : J E σ w) (ha : (σ.wk k).fin ≠ 1) (hr : g'.status = .running) (hx : Known E P k σ w (fn, ad, v)) (he : es = if norace P fn then #[] else #[⟨.cell ad, false, false⟩]) : DW E P k σ w g es σ w g' := by
 cases hq : norace P fn with
 | true =>
  rw [hq] at he
  subst he
  exact DW.quiet hJ ha hr
 | false =>
  rw [hq] at he
  subst he
  have h7 : (σ.wk k).fin = 7 := hx.way.resolve_left (by show ¬ norace P fn = true; rw [hq]; simp)
  have hd : DW E P k σ w g #[] σ w g' := DW.quiet hJ ha hr
  refine ⟨hJ, fun _ _ => rfl, rfl, rfl, rfl, rfl, Nat.le_refl _, fun _ _ => rfl, hd.pvn, rfl, fun _ _ _ _ => rfl, hd.pot, hd.dd, hd.cnt, ha, hr, rfl, hd.wake, fun _ h => h, fun e he => ?_, fun h => absurd h (by omega)⟩
  simp only [Bool.false_eq_true, if_false, List.mem_toArray, List.mem_cons, List.not_mem_nil, or_false] at he
  subst he
  refine ⟨by simp, hx.mine.1, fun y hy => ?_⟩
  simp only [MemAct.ofEvent, MemAct.touch?, Option.some.injEq] at hy
  subst hy
  rcases hx.mine.2 with ⟨h1, h2, h3, h4⟩ | h1
  · refine .inr (.inr (.inl ⟨rfl, rfl, ?_, ?_, h4, h1, rfl, ?_⟩))
    · rintro ⟨a, e, hb⟩
      cases e
      exact h3 (by rcases hb with hb | hb | hb
                   · exact .inl hb
                   · exact .inr (.inl hb)
                   · exact .inr (.inr (.inl hb)))
    · rintro ⟨a, e, hb⟩
      cases e
      exact h3 (.inr (.inr (.inr hb)))
    · rintro j ⟨a, e, hp⟩
      cases e
      have h2 : σ.pv ad.block = 0 := h2
      have hp : σ.pv ad.block = j + 1 := hp
      omega
  · exact .inr (.inr (.inr ⟨rfl, ad, rfl, h1⟩))
theorem runW {c : Par} (hc : c.main = false) (hv : c.Ok) : ∀ (F : Nat) {m : Nat} {σ : Gh} {g : Goroutine} {w : World}, Run P c F g -> J E σ w -> (σ.wk k).fin ≠ 1 -> (∀ x ∈ ldsR P c F g, Known E P k σ w x) ->
  (∀ σ₁ w₁, RW E k σ w σ₁ w₁ -> GoesW P (proto E P) (k + 1) Stop m σ₁ (endR P c F g) w₁) -> GoesW P (proto E P) (k + 1) Stop (m + F) σ g w
 | 0, m, σ, g, w, hq, hJ, ha, hx, h => h σ w (RW.refl hJ)
 | F + 1, m, σ, g, w, hq, hJ, ha, hx, h => by
  cases hl : stopR P c g with
  | true =>
   have h := h σ w (RW.refl hJ)
   simp only [endR, hl, cond_true] at h
   exact h.mono (by omega)
  | false =>
   obtain ⟨hs, hq'⟩ := hq.step hl
   refine .inr ⟨hq.run.1, hq.run.2, fun σ₁ w₁ hr => .inl ?_⟩
   have hwk := hr.wk
   have rest : ∀ x ∈ ldsR P c F (nxR P c g), Known E P k σ₁ w₁ x := fun x hm => (hx x (by
    simp only [ldsR, hl, cond_false]
    split
    · exact hm
    · split
      · exact List.mem_cons_of_mem _ hm
      · exact hm)).keep hr.keep (by rw [hwk])
   have cont : GoesW P (proto E P) (k + 1) Stop (m + F) σ₁ (nxR P c g) w₁ := by
    refine runW hc hv F hq' hr.j (by rw [hwk]; exact ha) rest fun σ₂ w₂ hr₂ => ?_
    have := h σ₂ w₂ (hr.trans hr₂)
    simpa only [endR, hl, cond_false] using this
   have hs1 := hs w₁
   cases hd0 : vlR c g with
   | some x =>
    rw [show nxR P c g = fin g x.1 by unfold nxR; rw [hd0]] at cont hq'
    simp only [stpR, wntR, hd0] at hs1
    rw [hc, <- vlR_ok hv hd0] at hs1
    exact ⟨_, w₁, #[], σ₁, hs1, (DW.quiet hr.j (by rw [hwk]; exact ha) hq'.run.1 : DW E P k σ₁ w₁ g #[] σ₁ w₁ _), cont⟩
   | none =>
   cases hd : ldR P c g with
   | none =>
    rw [show nxR P c g = nextQ P false g by unfold nxR; rw [hd0, hd, hc]] at cont hq'
    simp only [stpR, wntR, hd0, hd] at hs1
    rw [hc] at hs1
    exact ⟨_, w₁, #[], σ₁, hs1, (DW.quiet hr.j (by rw [hwk]; exact ha) hq'.run.1 : DW E P k σ₁ w₁ g #[] σ₁ w₁ _), cont⟩
   | some x =>
    rw [show nxR P c g = fin g x.2 by unfold nxR; rw [hd0, hd]] at cont hq'
    have hl1 := ldR_load hd
    have hx1 : Known E P k σ₁ w₁ (g.frame.fn, x.1, x.2) := (hx (g.frame.fn, x.1, x.2) (by
     simp only [ldsR, hl, cond_false, hd0, hd]
     exact List.mem_cons_self ..)).keep hr.keep (by rw [hwk])
    exact ⟨_, w₁, _, σ₁, step_load hl1 hx1.cell, (DW.load hr.j (by rw [hwk]; exact ha) hq'.run.1 hx1 rfl : DW E P k σ₁ w₁ g _ σ₁ w₁ _), cont⟩
end
set_option maxRecDepth 100000
noncomputable def cW : Par := {}
theorem cW_ok : cW.Ok := fun f d x h => by cases h
noncomputable def xHead (g : Goroutine) : Bool := match g.frame.todo with
 | .code (.block 1 _) :: .inLoop _ :: _ => g.frame.fn == 62
 | _ => false
noncomputable def xLeave (f : FuncId) (g : Goroutine) : Bool := g.frame.fn == f && (match g.frame.mode with | .returning => true | _ => false) && g.frame.defers.isEmpty
noncomputable def l5 : Bool -> Bool -> Int
 | false, false => 0
 | true, false => 1
 | false, true => 4
 | true, true => 5
noncomputable def l2 : Bool -> Int
 | false => 0
 | true => 2
noncomputable def vLk (old y : Int) (l w s nz : Bool) (f : FuncId) (d : Nat) : Option (Value × Value) := bif f == 62 then
  (match d with
  | 15 => some (.int .i32 (l5 l s), .int .i32 (bits .and .i32 old 5))
  | 51 => some (.int .i32 (l5 false s), .int .i32 (bits .and .i32 old 4))
  | 56 => some (.int .i32 (l5 l s), .int .i32 (bits .and .i32 old 5))
  | 63 => some (.int .i32 (l5 l false), .int .i32 (bits .and .i32 old 1))
  | 70 => some (.int .i32 (l2 w), .int .i32 (bits .and .i32 y 2))
  | 25 => some (.int .i32 (l2 w), .int .i32 (bits .and .i32 old 2))
  | 31 => some (.bool nz, .bool (old.fdiv 8 != 0))
  | _ => none) else none
noncomputable def cA (old y : Int) (l w s nz : Bool) : Par := { V := vLk old y l w s nz }
structure Bits (old y : Int) (l w s nz : Bool) : Prop where
 b5 : bits .and .i32 old 5 = l5 l s
 b4 : bits .and .i32 old 4 = l5 false s
 b1 : bits .and .i32 old 1 = l5 l false
 b2 : bits .and .i32 old 2 = l2 w
 by2 : bits .and .i32 y 2 = l2 w
 n : (old.fdiv 8 != 0) = nz
theorem cA_ok {old y : Int} {l w s nz : Bool} (h : Bits old y l w s nz) : (cA old y l w s nz).Ok := fun f d x hx => by
 have hx : vLk old y l w s nz f d = some x := hx
 unfold vLk at hx
 cases hf : (f == 62) with
 | false => rw [hf] at hx; cases hx
 | true =>
  rw [hf, cond_true] at hx
  split at hx <;> first | (cases hx; simp only [h.b5, h.b4, h.b1, h.b2, h.by2, h.n]; done) | cases hx
noncomputable def vCs (old ws : Int) (b c : Bool) (f : FuncId) (d : Nat) : Option (Value × Value) := bif f == 62 then
  (match d with
  | 83 => some (.bool b, .bool (bits .and .i32 old 5 == 0))
  | 87 => some (.bool c, .bool (ws == 0))
  | _ => none) else none
noncomputable def cC (old ws : Int) (b c : Bool) : Par := { V := vCs old ws b c }
theorem cC_ok {old ws : Int} {b c : Bool} (h : (bits .and .i32 old 5 == 0) = b) (h' : (ws == 0) = c) : (cC old ws b c).Ok := fun f d x hx => by
 have hx : vCs old ws b c f d = some x := hx
 unfold vCs at hx
 cases hf : (f == 62) with
 | false => rw [hf] at hx; cases hx
 | true =>
  rw [hf, cond_true] at hx
  split at hx <;> first | (cases hx; simp only [h, h']; done) | cases hx
noncomputable def vWk (v t ws : Int) (late s one : Bool) (f : FuncId) (d : Nat) : Option (Value × Value) := bif f == 62 then
  (match d with
  | 99 => some (.bool late, .bool (decide (IntKind.i64.wrap (t - ws) > 1000000)))
  | 107 => some (.bool s, .bool (bits .and .i32 v 4 != 0))
  | 110 => some (.bool false, .bool (bits .and .i32 v 3 != 0))
  | 114 => some (.bool false, .bool (v.fdiv 8 == 0))
  | 122 => some (.bool one, .bool (v.fdiv 8 == 1))
  | _ => none) else none
noncomputable def cT (t ws : Int) (late : Bool) : Par := { V := fun f d => bif f == 62 && d == 99 then vWk 0 t ws late false false f d else none }
theorem cT_ok {t ws : Int} {late : Bool} (h : decide (IntKind.i64.wrap (t - ws) > 1000000) = late) : (cT t ws late).Ok := fun f d x hx => by
 have hx : (bif f == 62 && d == 99 then vWk 0 t ws late false false f d else none) = some x := hx
 cases hf : (f == 62 && d == 99) with
 | false => rw [hf] at hx; cases hx
 | true =>
  rw [hf, cond_true] at hx
  simp only [Bool.and_eq_true, beq_iff_eq] at hf
  obtain ⟨rfl, rfl⟩ := hf
  simp only [vWk, beq_self_eq_true, cond_true] at hx
  cases hx
  simp only [h]
noncomputable def cV (v : Int) (s one : Bool) : Par := { V := fun f d => bif d == 99 then none else vWk v 0 0 false s one f d, X := xHead }
theorem cV_ok {v : Int} {s one : Bool} (h4 : (bits .and .i32 v 4 != 0) = s) (h3 : (bits .and .i32 v 3 != 0) = false) (h0 : (v.fdiv 8 == 0) = false) (h1 : (v.fdiv 8 == 1) = one) : (cV v s one).Ok := fun f d x hx => by
 have hx : (bif d == 99 then none else vWk v 0 0 false s one f d) = some x := hx
 cases hd : (d == 99) with
 | true => rw [hd] at hx; cases hx
 | false =>
  rw [hd, cond_false] at hx
  unfold vWk at hx
  cases hf : (f == 62) with
  | false => rw [hf] at hx; cases hx
  | true =>
   rw [hf, cond_true] at hx
   split at hx <;> first | (exact absurd hd (by decide)) | (cases hx; simp only [h4, h3, h0, h1]; done) | cases hx
variable (Mu : Nat) (fr : Frame) (cs : List Frame)
abbrev pMu : Value := .pointer (some ⟨Mu, 0, none⟩)
noncomputable def gL0 : Goroutine := endR Try.prog cW 60 (enter Try.prog 32 #[pMu Mu] (fr :: cs))
noncomputable def gL1 : Goroutine := endR Try.prog cW 60 (fin (gL0 Mu fr cs) (.tuple #[]))
noncomputable def gL2 : Goroutine := endR Try.prog cW 60 (fin (gL1 Mu fr cs) (.bool false))
noncomputable def cH : Par := { X := xHead }
theorem cH_ok : cH.Ok := fun f d x h => by cases h
noncomputable def gL3 (old : Int) : Goroutine := endR Try.prog cH 60 (fin (gL2 Mu fr cs) (.int .i32 old))
theorem a0 : Run Try.prog cW 60 (enter Try.prog 32 #[pMu Mu] (fr :: cs)) := ⟨fun w => by kernel_rfl, by kernel_rfl⟩
theorem b0 : isCall 49 (gL0 Mu fr cs) = some [] := by kernel_rfl
theorem a1 : Run Try.prog cW 60 (fin (gL0 Mu fr cs) (.tuple #[])) := ⟨fun w => by kernel_rfl, by kernel_rfl⟩
theorem b1 : isCall 61 (gL1 Mu fr cs) = some [pMu Mu, .int .i32 0, .int .i32 1] := by kernel_rfl
theorem a2 : Run Try.prog cW 60 (fin (gL1 Mu fr cs) (.bool false)) := ⟨fun w => by kernel_rfl, by kernel_rfl⟩
theorem b2 : isLoad Try.prog (gL2 Mu fr cs) = some (false, ⟨Mu, 0, none⟩) := by kernel_rfl
theorem n2 : norace Try.prog (gL2 Mu fr cs).frame.fn = true := by kernel_rfl
theorem a3 (old : Int) : Run Try.prog cH 60 (fin (gL2 Mu fr cs) (.int .i32 old)) := ⟨fun w => by kernel_rfl, by kernel_rfl⟩
noncomputable def gF0 : Goroutine := endR Try.prog cW 60 (fin (gL1 Mu fr cs) (.bool true))
theorem aF0 : Run Try.prog cW 60 (fin (gL1 Mu fr cs) (.bool true)) := ⟨fun w => by kernel_rfl, by kernel_rfl⟩
theorem bF0 : isCall 51 (gF0 Mu fr cs) = some [] := by kernel_rfl
noncomputable def gF1 : Goroutine := endR Try.prog cW 60 (fin (gF0 Mu fr cs) (.tuple #[]))
theorem aF1 : Run Try.prog cW 60 (fin (gF0 Mu fr cs) (.tuple #[])) := ⟨fun w => by kernel_rfl, by kernel_rfl⟩
theorem vF1 : isConv Try.prog (gF1 Mu fr cs) = some ⟨Mu, 0, none⟩ := by kernel_rfl
noncomputable def gF1c : Goroutine := endR Try.prog cW 60 (fin (gF1 Mu fr cs) (pMu Mu))
theorem aF1c : Run Try.prog cW 60 (fin (gF1 Mu fr cs) (pMu Mu)) := ⟨fun w => by kernel_rfl, by kernel_rfl⟩
theorem bF1 : isCall 52 (gF1c Mu fr cs) = some [pMu Mu] := by kernel_rfl
noncomputable def cL (f : FuncId) : Par := { X := xLeave f }
theorem cL_ok (f : FuncId) : (cL f).Ok := fun f d x h => by cases h
noncomputable def gF2 : Goroutine := endR Try.prog (cL 32) 60 (fin (gF1c Mu fr cs) (.tuple #[]))
theorem aF2 : Run Try.prog (cL 32) 60 (fin (gF1c Mu fr cs) (.tuple #[])) := ⟨fun w => by kernel_rfl, by kernel_rfl⟩
def back (v : Value) : Goroutine := { frame := fr.finish v, callers := cs, status := .running, dying := none }
theorem aF3 (w : World) : stepG Try.prog false (gF2 Mu fr cs) w = .go (back fr cs (.tuple #[])) w #[] := by kernel_rfl
theorem rF2 : isRun (gF2 Mu fr cs) = true := by kernel_rfl
def tmLS (J : Nat -> Value) (ws it old : Int) (sv aw : Bool) : Array Value := ((List.range 139).map fun i => if i = 0 then pMu Mu else if i = 2 then .int .i64 ws else if i = 3 then .bool sv else if i = 4 then .bool aw else if i = 5 then .int .i64 it else if i = 6 then .int .i32 old else J i).toArray
noncomputable def HLS (J : Nat -> Value) (ws it old : Int) (sv aw : Bool) : Goroutine := { gL3 Mu fr cs 0 with frame := { (gL3 Mu fr cs 0).frame with tmps := tmLS Mu J ws it old sv aw } }
noncomputable def junk (g : Goroutine) (i : Nat) : Value := g.frame.tmps.getD i undef
theorem h3 (old : Int) : gL3 Mu fr cs old = HLS Mu fr cs (junk (gL3 Mu fr cs old)) 0 0 old false false := by kernel_rfl
section
variable (J : Nat -> Value) (ws it old y : Int)
noncomputable def gA (sv aw l w s nz : Bool) : Goroutine := endR Try.prog (cA old y l w s nz) 200 (HLS Mu fr cs J ws it old sv aw)
noncomputable def gN (sv aw l w s nz : Bool) : Goroutine := endR Try.prog (cA old y l w s nz) 200 (fin (gA Mu fr cs J ws it old y sv aw l w s nz) (.bool false))
noncomputable def gC0 : Goroutine := gA Mu fr cs (fun _ => undef) 0 0 0 0 false false false false false false
def tmCS (new : Int) (sv aw : Bool) : Array Value := ((List.range 139).map fun i => if i = 0 then pMu Mu else if i = 2 then .int .i64 ws else if i = 3 then .bool sv else if i = 4 then .bool aw else if i = 5 then .int .i64 it else if i = 6 then .int .i32 old else if i = 7 then .int .i32 new else if i = 77 then pMu Mu else if i = 78 then .int .i32 old else if i = 79 then .int .i32 new else J i).toArray
noncomputable def CLS (new : Int) (sv aw : Bool) : Goroutine := { gC0 Mu fr cs with frame := { (gC0 Mu fr cs).frame with tmps := tmCS Mu J ws it old new sv aw } }
theorem bC (new : Int) (sv aw : Bool) : isCall 61 (CLS Mu fr cs J ws it old new sv aw) = some [pMu Mu, .int .i32 old, .int .i32 new] := by kernel_rfl
theorem rC (new : Int) (sv aw : Bool) : isRun (CLS Mu fr cs J ws it old new sv aw) = true := by kernel_rfl
theorem aA1 (w nz : Bool) : Run Try.prog (cA old y false w false nz) 200 (HLS Mu fr cs J ws it old false false) := ⟨fun w => by kernel_rfl, by kernel_rfl⟩
theorem hA1 (w nz : Bool) : gA Mu fr cs J ws it old y false false false w false nz = CLS Mu fr cs (junk (gA Mu fr cs J ws it old y false false false w false nz)) ws it old (bits .or .i32 old 1) false false := by kernel_rfl
theorem aA2 (w nz : Bool) : Run Try.prog (cA old y false w true nz) 200 (HLS Mu fr cs J ws it old false false) := ⟨fun w => by kernel_rfl, by kernel_rfl⟩
theorem hA2 (w nz : Bool) : gA Mu fr cs J ws it old y false false false w true nz = CLS Mu fr cs (junk (gA Mu fr cs J ws it old y false false false w true nz)) ws it old (IntKind.i32.wrap (old + 8)) false false := by kernel_rfl
theorem aA3 (w nz : Bool) : Run Try.prog (cA old y true w true nz) 200 (HLS Mu fr cs J ws it old false false) := ⟨fun w => by kernel_rfl, by kernel_rfl⟩
theorem hA3 (w nz : Bool) : gA Mu fr cs J ws it old y false false true w true nz = CLS Mu fr cs (junk (gA Mu fr cs J ws it old y false false true w true nz)) ws it old (IntKind.i32.wrap (old + 8)) false false := by kernel_rfl
theorem aA5 (sv nz : Bool) : Run Try.prog (cA old (bits .or .i32 old 1) false true false nz) 200 (HLS Mu fr cs J ws it old sv true) := by
 cases sv <;> exact Run.append (F := 40) (G := 160) ⟨fun w => by kernel_rfl, by kernel_rfl⟩ ⟨fun w => by kernel_rfl, by kernel_rfl⟩
theorem hA5 (nz : Bool) : gA Mu fr cs J ws it old (bits .or .i32 old 1) false true false true false nz = CLS Mu fr cs (junk (gA Mu fr cs J ws it old (bits .or .i32 old 1) false true false true false nz)) ws it old (bits .andNot .i32 (bits .or .i32 old 1) 2) false true := by kernel_rfl
theorem hA6 (nz : Bool) : gA Mu fr cs J ws it old (bits .or .i32 old 1) true true false true false nz = CLS Mu fr cs (junk (gA Mu fr cs J ws it old (bits .or .i32 old 1) true true false true false nz)) ws it old (bits .andNot .i32 (bits .or .i32 old 1) 2) true true := by kernel_rfl
theorem aB (sv aw w nz : Bool) : Run Try.prog (cA old y true w false nz) 200 (HLS Mu fr cs J ws it old sv aw) := ⟨fun w => by kernel_rfl, by kernel_rfl⟩
theorem bB (sv aw w nz : Bool) : isCall 76 (gA Mu fr cs J ws it old y sv aw true w false nz) = some [.int .i64 it] := by kernel_rfl
theorem aN4 (w nz : Bool) : Run Try.prog (cA old y true w false nz) 200 (fin (gA Mu fr cs J ws it old y false false true w false nz) (.bool false)) := ⟨fun w => by kernel_rfl, by kernel_rfl⟩
theorem hN4 (w nz : Bool) : gN Mu fr cs J ws it old y false false true w false nz = CLS Mu fr cs (junk (gN Mu fr cs J ws it old y false false true w false nz)) ws it old (IntKind.i32.wrap (bits .or .i32 old 1 + 8)) false false := by kernel_rfl
theorem aN7 (nz : Bool) : Run Try.prog (cA old (IntKind.i32.wrap (bits .or .i32 old 1 + 8)) true true false nz) 200 (fin (gA Mu fr cs J ws it old (IntKind.i32.wrap (bits .or .i32 old 1 + 8)) false true true true false nz) (.bool false)) := Run.append (F := 40) (G := 160) ⟨fun w => by kernel_rfl, by kernel_rfl⟩ ⟨fun w => by kernel_rfl, by kernel_rfl⟩
theorem aN8 (nz : Bool) : Run Try.prog (cA old (bits .or .i32 (IntKind.i32.wrap (bits .or .i32 old 1 + 8)) 4) true true false nz) 200 (fin (gA Mu fr cs J ws it old (bits .or .i32 (IntKind.i32.wrap (bits .or .i32 old 1 + 8)) 4) true true true true false nz) (.bool false)) := Run.append (F := 40) (G := 160) ⟨fun w => by kernel_rfl, by kernel_rfl⟩ ⟨fun w => by kernel_rfl, by kernel_rfl⟩
theorem hN7 (nz : Bool) : gN Mu fr cs J ws it old (IntKind.i32.wrap (bits .or .i32 old 1 + 8)) false true true true false nz = CLS Mu fr cs (junk (gN Mu fr cs J ws it old (IntKind.i32.wrap (bits .or .i32 old 1 + 8)) false true true true false nz)) ws it old (bits .andNot .i32 (IntKind.i32.wrap (bits .or .i32 old 1 + 8)) 2) false true := by kernel_rfl
theorem hN8 (nz : Bool) : gN Mu fr cs J ws it old (bits .or .i32 (IntKind.i32.wrap (bits .or .i32 old 1 + 8)) 4) true true true true false nz = CLS Mu fr cs (junk (gN Mu fr cs J ws it old (bits .or .i32 (IntKind.i32.wrap (bits .or .i32 old 1 + 8)) 4) true true true true false nz)) ws it old (bits .andNot .i32 (bits .or .i32 (IntKind.i32.wrap (bits .or .i32 old 1 + 8)) 4) 2) true true := by kernel_rfl
end
end Wp
end Go.Proofs.Ytmdkmlgafnjhmaa
namespace Go.Proofs.Ytmdkmlgafnjhmaa
open Go.Conc
namespace Wp
set_option maxRecDepth 100000
variable (Mu : Nat) (fr : Frame) (cs : List Frame)
section
variable (J : Nat -> Value) (ws it old y : Int)
noncomputable def gB (sv aw w nz : Bool) : Goroutine := endR Try.prog (cA old y true w false nz) 200 (fin (gA Mu fr cs J ws it old y sv aw true w false nz) (.bool true))
noncomputable def gBr (r : Bool) : Goroutine := endR Try.prog cW 200 (fin (gB Mu fr cs J ws it old y false false false true) (.bool r))
theorem aB1 : Run Try.prog (cA old y true false false true) 200 (fin (gA Mu fr cs J ws it old y false false true false false true) (.bool true)) := ⟨fun w => by kernel_rfl, by kernel_rfl⟩
theorem bB1 : isCall 61 (gB Mu fr cs J ws it old y false false false true) = some [pMu Mu, .int .i32 old, .int .i32 (bits .or .i32 old 2)] := by kernel_rfl
theorem aBr (r : Bool) : Run Try.prog cW 200 (fin (gB Mu fr cs J ws it old y false false false true) (.bool r)) := by cases r <;> exact ⟨fun w => by kernel_rfl, by kernel_rfl⟩
theorem bBr (r : Bool) : isCall 77 (gBr Mu fr cs J ws it old y r) = some [] := by cases r <;> kernel_rfl
theorem aB2 : Run Try.prog (cA old y true false false false) 200 (fin (gA Mu fr cs J ws it old y false false true false false false) (.bool true)) := ⟨fun w => by kernel_rfl, by kernel_rfl⟩
theorem bB2 : isCall 77 (gB Mu fr cs J ws it old y false false false false) = some [] := by kernel_rfl
theorem aB3 (nz : Bool) : Run Try.prog (cA old y true true false nz) 200 (fin (gA Mu fr cs J ws it old y false false true true false nz) (.bool true)) := ⟨fun w => by kernel_rfl, by kernel_rfl⟩
theorem bB3 (nz : Bool) : isCall 77 (gB Mu fr cs J ws it old y false false true nz) = some [] := by kernel_rfl
theorem aB5 (sv nz : Bool) : Run Try.prog (cA old y true true false nz) 200 (fin (gA Mu fr cs J ws it old y sv true true true false nz) (.bool true)) := ⟨fun w => by kernel_rfl, by kernel_rfl⟩
theorem bB5 (sv nz : Bool) : isCall 77 (gB Mu fr cs J ws it old y sv true true nz) = some [] := by kernel_rfl
noncomputable def gD (g : Goroutine) : Goroutine := endR Try.prog cW 60 (fin g (.tuple #[]))
noncomputable def gDh (g : Goroutine) (v : Int) : Goroutine := endR Try.prog cH 60 (fin (gD g) (.int .i32 v))
structure Spun (g : Goroutine) (J' : Int -> Nat -> Value) (ws it : Int) (sv aw : Bool) : Prop where
 a : Run Try.prog cW 60 (fin g (.tuple #[]))
 b : isLoad Try.prog (gD g) = some (false, ⟨Mu, 0, none⟩)
 n : norace Try.prog (gD g).frame.fn = true
 c : ∀ v, Run Try.prog cH 60 (fin (gD g) (.int .i32 v))
 d : ∀ v, gDh g v = HLS Mu fr cs (J' v) ws (IntKind.i64.wrap (it + 1)) v sv aw
theorem s1 : Spun Mu fr cs (gBr Mu fr cs J ws it old y true) (fun v => junk (gDh (gBr Mu fr cs J ws it old y true) v)) ws it false true := ⟨⟨fun w => by kernel_rfl, by kernel_rfl⟩, by kernel_rfl, by kernel_rfl, fun v => ⟨fun w => by kernel_rfl, by kernel_rfl⟩, fun v => by kernel_rfl⟩
theorem s1' : Spun Mu fr cs (gBr Mu fr cs J ws it old y false) (fun v => junk (gDh (gBr Mu fr cs J ws it old y false) v)) ws it false false := ⟨⟨fun w => by kernel_rfl, by kernel_rfl⟩, by kernel_rfl, by kernel_rfl, fun v => ⟨fun w => by kernel_rfl, by kernel_rfl⟩, fun v => by kernel_rfl⟩
theorem s2 : Spun Mu fr cs (gB Mu fr cs J ws it old y false false false false) (fun v => junk (gDh (gB Mu fr cs J ws it old y false false false false) v)) ws it false false := ⟨⟨fun w => by kernel_rfl, by kernel_rfl⟩, by kernel_rfl, by kernel_rfl, fun v => ⟨fun w => by kernel_rfl, by kernel_rfl⟩, fun v => by kernel_rfl⟩
theorem s3 (nz : Bool) : Spun Mu fr cs (gB Mu fr cs J ws it old y false false true nz) (fun v => junk (gDh (gB Mu fr cs J ws it old y false false true nz) v)) ws it false false := ⟨⟨fun w => by kernel_rfl, by kernel_rfl⟩, by kernel_rfl, by kernel_rfl, fun v => ⟨fun w => by kernel_rfl, by kernel_rfl⟩, fun v => by kernel_rfl⟩
theorem s5 (sv nz : Bool) : Spun Mu fr cs (gB Mu fr cs J ws it old y sv true true nz) (fun v => junk (gDh (gB Mu fr cs J ws it old y sv true true nz) v)) ws it sv true := ⟨⟨fun w => by kernel_rfl, by kernel_rfl⟩, by kernel_rfl, by kernel_rfl, fun v => ⟨fun w => by kernel_rfl, by kernel_rfl⟩, fun v => by kernel_rfl⟩
end
end Wp
end Go.Proofs.Ytmdkmlgafnjhmaa
namespace Go.Proofs.Ytmdkmlgafnjhmaa
open Go.Conc
namespace Wp
set_option maxRecDepth 100000
variable (Mu : Nat) (fr : Frame) (cs : List Frame)
noncomputable def cV0 (v : Int) : Par := { V := fun f d => bif f == 62 && d == 107 then some (.bool false, .bool (bits .and .i32 v 4 != 0)) else none, X := xHead }
theorem cV0_ok {v : Int} (h : (bits .and .i32 v 4 != 0) = false) : (cV0 v).Ok := fun f d x hx => by
 have hx : (bif f == 62 && d == 107 then some (Value.bool false, Value.bool (bits .and .i32 v 4 != 0)) else none) = some x := hx
 cases hf : (f == 62 && d == 107) with
 | false => rw [hf] at hx; cases hx
 | true => rw [hf, cond_true] at hx; cases hx; simp only [h]
abbrev pMs : Value := .pointer (some ⟨Mu, 1, none⟩)
section
variable (J : Nat -> Value) (ws it old new : Int) (sv aw : Bool)
noncomputable def gM : Goroutine := endR Try.prog cW 60 (fin (CLS Mu fr cs J ws it old new sv aw) (.bool false))
noncomputable def gMh (v : Int) : Goroutine := endR Try.prog cH 60 (fin (gM Mu fr cs J ws it old new sv aw) (.int .i32 v))
theorem aM : Run Try.prog cW 60 (fin (CLS Mu fr cs J ws it old new sv aw) (.bool false)) := ⟨fun w => by kernel_rfl, by kernel_rfl⟩
theorem bM : isLoad Try.prog (gM Mu fr cs J ws it old new sv aw) = some (false, ⟨Mu, 0, none⟩) := by kernel_rfl
theorem nM : norace Try.prog (gM Mu fr cs J ws it old new sv aw).frame.fn = true := by kernel_rfl
theorem aMh (v : Int) : Run Try.prog cH 60 (fin (gM Mu fr cs J ws it old new sv aw) (.int .i32 v)) := ⟨fun w => by kernel_rfl, by kernel_rfl⟩
theorem hMh (v : Int) : gMh Mu fr cs J ws it old new sv aw v = HLS Mu fr cs (junk (gMh Mu fr cs J ws it old new sv aw v)) ws it v sv aw := by kernel_rfl
noncomputable def gE (c : Bool) : Goroutine := endR Try.prog (cC old ws true c) 60 (fin (CLS Mu fr cs J ws it old new sv aw) (.bool true))
theorem aE (c : Bool) : Run Try.prog (cC old ws true c) 60 (fin (CLS Mu fr cs J ws it old new sv aw) (.bool true)) := ⟨fun w => by kernel_rfl, by kernel_rfl⟩
noncomputable def gE0 : Goroutine := gE Mu fr cs (fun _ => undef) 0 0 0 0 false false false
def tmES (J : Nat -> Value) : Array Value := ((List.range 139).map fun i => if i = 0 then pMu Mu else J i).toArray
noncomputable def ELS : Goroutine := { gE0 Mu fr cs with frame := { (gE0 Mu fr cs).frame with tmps := tmES Mu J } }
theorem hE1 (c : Bool) : gE Mu fr cs J ws it old new sv aw c = ELS Mu fr cs (junk (gE Mu fr cs J ws it old new sv aw c)) := by kernel_rfl
theorem bE : isCall 51 (ELS Mu fr cs J) = some [] := by kernel_rfl
noncomputable def gE1 : Goroutine := endR Try.prog cW 60 (fin (ELS Mu fr cs J) (.tuple #[]))
theorem aE1 : Run Try.prog cW 60 (fin (ELS Mu fr cs J) (.tuple #[])) := ⟨fun w => by kernel_rfl, by kernel_rfl⟩
theorem vE1 : isConv Try.prog (gE1 Mu fr cs J) = some ⟨Mu, 0, none⟩ := by kernel_rfl
noncomputable def gE2 : Goroutine := endR Try.prog cW 60 (fin (gE1 Mu fr cs J) (pMu Mu))
theorem aE2 : Run Try.prog cW 60 (fin (gE1 Mu fr cs J) (pMu Mu)) := ⟨fun w => by kernel_rfl, by kernel_rfl⟩
theorem bE2 : isCall 52 (gE2 Mu fr cs J) = some [pMu Mu] := by kernel_rfl
noncomputable def gE3 : Goroutine := endR Try.prog (cL 32) 60 (fin (gE2 Mu fr cs J) (.tuple #[]))
theorem aE3 : Run Try.prog (cL 32) 60 (fin (gE2 Mu fr cs J) (.tuple #[])) := ⟨fun w => by kernel_rfl, by kernel_rfl⟩
theorem aE4 (w : World) : stepG Try.prog false (gE3 Mu fr cs J) w = .go (back fr cs (.tuple #[])) w #[] := by kernel_rfl
noncomputable def gQ (c : Bool) : Goroutine := endR Try.prog (cC old ws false c) 60 (fin (CLS Mu fr cs J ws it old new sv aw) (.bool true))
theorem aQ (c : Bool) : Run Try.prog (cC old ws false c) 60 (fin (CLS Mu fr cs J ws it old new sv aw) (.bool true)) := by cases c <;> exact ⟨fun w => by kernel_rfl, by kernel_rfl⟩
theorem bQ : isCall 79 (gQ Mu fr cs J ws it old new sv aw true) = some [] := by kernel_rfl
noncomputable def gQt (t : Int) : Goroutine := endR Try.prog cW 60 (fin (gQ Mu fr cs J ws it old new sv aw true) (.int .i64 t))
theorem aQt (t : Int) : Run Try.prog cW 60 (fin (gQ Mu fr cs J ws it old new sv aw true) (.int .i64 t)) := ⟨fun w => by kernel_rfl, by kernel_rfl⟩
noncomputable def gQ0 : Goroutine := gQ Mu fr cs (fun _ => undef) 0 0 0 0 false false false
def tmQS (J : Nat -> Value) : Array Value := ((List.range 139).map fun i => if i = 0 then pMu Mu else if i = 2 then .int .i64 ws else if i = 3 then .bool sv else if i = 91 then pMs Mu else J i).toArray
noncomputable def QLS : Goroutine := { gQ0 Mu fr cs with frame := { (gQ0 Mu fr cs).frame with tmps := tmQS Mu ws sv J } }
theorem hQ0 : gQ Mu fr cs J ws it old new sv aw false = QLS Mu fr cs (junk (gQ Mu fr cs J ws it old new sv aw false)) ws sv := by kernel_rfl
theorem hQt (t : Int) : gQt Mu fr cs J ws it old new sv aw t = QLS Mu fr cs (junk (gQt Mu fr cs J ws it old new sv aw t)) t sv := by kernel_rfl
theorem bQS : isCall 80 (QLS Mu fr cs J ws sv) = some [pMs Mu, J 92, .int .i64 2] := by kernel_rfl
theorem rQS : isRun (QLS Mu fr cs J ws sv) = true := by kernel_rfl
noncomputable def gP (sv : Bool) : Goroutine := endR Try.prog cW 60 (fin (QLS Mu fr cs J ws sv) (.tuple #[]))
theorem aP (sv : Bool) : Run Try.prog cW 60 (fin (QLS Mu fr cs J ws sv) (.tuple #[])) := by cases sv <;> exact ⟨fun w => by kernel_rfl, by kernel_rfl⟩
theorem bP : isCall 79 (gP Mu fr cs J ws false) = some [] := by kernel_rfl
noncomputable def gPt (t : Int) (late : Bool) : Goroutine := endR Try.prog (cT t ws late) 60 (fin (gP Mu fr cs J ws false) (.int .i64 t))
theorem aPt (t : Int) (late : Bool) : Run Try.prog (cT t ws late) 60 (fin (gP Mu fr cs J ws false) (.int .i64 t)) := by cases late <;> exact ⟨fun w => by kernel_rfl, by kernel_rfl⟩
noncomputable def gP0 : Goroutine := gP Mu fr cs (fun _ => undef) 0 true
def tmWS (J : Nat -> Value) : Array Value := ((List.range 139).map fun i => if i = 0 then pMu Mu else if i = 2 then .int .i64 ws else if i = 3 then .bool sv else if i = 103 then pMu Mu else J i).toArray
noncomputable def WLS : Goroutine := { gP0 Mu fr cs with frame := { (gP0 Mu fr cs).frame with tmps := tmWS Mu ws sv J } }
theorem hP1 : gP Mu fr cs J ws true = WLS Mu fr cs (junk (gP Mu fr cs J ws true)) ws true := by kernel_rfl
theorem hPt (t : Int) (late : Bool) : gPt Mu fr cs J ws t late = WLS Mu fr cs (junk (gPt Mu fr cs J ws t late)) ws late := by cases late <;> kernel_rfl
theorem bWS : isLoad Try.prog (WLS Mu fr cs J ws sv) = some (false, ⟨Mu, 0, none⟩) := by kernel_rfl
theorem nWS : norace Try.prog (WLS Mu fr cs J ws sv).frame.fn = true := by kernel_rfl
theorem rWS : isRun (WLS Mu fr cs J ws sv) = true := by kernel_rfl
noncomputable def gW0 (v : Int) : Goroutine := endR Try.prog (cV0 v) 100 (fin (WLS Mu fr cs J ws sv) (.int .i32 v))
theorem aW (v : Int) : Run Try.prog (cV0 v) 100 (fin (WLS Mu fr cs J ws sv) (.int .i32 v)) := ⟨fun w => by kernel_rfl, by kernel_rfl⟩
theorem hW (v : Int) : gW0 Mu fr cs J ws sv v = HLS Mu fr cs (junk (gW0 Mu fr cs J ws sv v)) ws 0 v sv true := by kernel_rfl
noncomputable def gW (v : Int) (s one : Bool) : Goroutine := endR Try.prog (cV v s one) 100 (fin (WLS Mu fr cs J ws sv) (.int .i32 v))
theorem aWs (v : Int) (one : Bool) : Run Try.prog (cV v true one) 100 (fin (WLS Mu fr cs J ws sv) (.int .i32 v)) := by
 cases sv
 · exact Run.append (F := 15) (G := 85) ⟨fun w => by kernel_rfl, by kernel_rfl⟩ (Run.append (F := 1) (G := 84) ⟨fun w => by kernel_rfl, by kernel_rfl⟩ (Run.append (F := 3) (G := 81) ⟨fun w => by kernel_rfl, by kernel_rfl⟩ (Run.append (F := 1) (G := 80) ⟨fun w => by kernel_rfl, by kernel_rfl⟩ ⟨fun w => by kernel_rfl, by kernel_rfl⟩)))
 · cases one <;> exact Run.append (F := 15) (G := 85) ⟨fun w => by kernel_rfl, by kernel_rfl⟩ (Run.append (F := 1) (G := 84) ⟨fun w => by kernel_rfl, by kernel_rfl⟩ (Run.append (F := 3) (G := 81) ⟨fun w => by kernel_rfl, by kernel_rfl⟩ (Run.append (F := 1) (G := 80) ⟨fun w => by kernel_rfl, by kernel_rfl⟩ (Run.append (F := 16) (G := 64) ⟨fun w => by kernel_rfl, by kernel_rfl⟩ (Run.append (F := 1) (G := 63) ⟨fun w => by kernel_rfl, by kernel_rfl⟩ ⟨fun w => by kernel_rfl, by kernel_rfl⟩)))))
theorem bWs (v : Int) (one : Bool) : isCall 64 (gW Mu fr cs J ws sv v true one) = some [pMu Mu, .int .i32 (bif !sv || one then -11 else -7)] := by cases sv <;> cases one <;> kernel_rfl
noncomputable def gX (v : Int) (one : Bool) (x : Int) : Goroutine := endR Try.prog cW 60 (fin (gW Mu fr cs J ws sv v true one) (.int .i32 x))
theorem aX (v : Int) (one : Bool) (x : Int) : Run Try.prog cW 60 (fin (gW Mu fr cs J ws sv v true one) (.int .i32 x)) := by cases sv <;> cases one <;> exact ⟨fun w => by kernel_rfl, by kernel_rfl⟩
theorem hX (v : Int) (one : Bool) (x : Int) : gX Mu fr cs J ws sv v one x = ELS Mu fr cs (junk (gX Mu fr cs J ws sv v one x)) := by cases sv <;> cases one <;> kernel_rfl
end
end Wp
end Go.Proofs.Ytmdkmlgafnjhmaa
namespace Go.Proofs.Ytmdkmlgafnjhmaa
open Go.Conc
open Go.ConcN (sumTo upd sumTo_upd upd_ne upd_same sumTo_congr RelBy)
open Go.ConcM (OsLater)
namespace Wp
theorem x48 : ExtF Try.prog 48 (Extern.Atomic.update (Op.intArith .add) .i64 true) := ⟨Try.f48, by kernel_rfl, by kernel_rfl, by kernel_rfl, by kernel_rfl, by kernel_rfl⟩
theorem x61 : ExtF Try.prog 61 (Extern.Atomic.casT (.int .i32)) := ⟨Try.f61, by kernel_rfl, by kernel_rfl, by kernel_rfl, by kernel_rfl, by kernel_rfl⟩
theorem x64 : ExtF Try.prog 64 (Extern.Atomic.update (Op.intArith .add) .i32 true) := ⟨Try.f64, by kernel_rfl, by kernel_rfl, by kernel_rfl, by kernel_rfl, by kernel_rfl⟩
theorem x49 : ExtF Try.prog 49 (fun _ => do mark .disable; pure Extern.Race.none_) := ⟨Try.f49, by kernel_rfl, by kernel_rfl, by kernel_rfl, by kernel_rfl, by kernel_rfl⟩
theorem x51 : ExtF Try.prog 51 (fun _ => do mark .enable; pure Extern.Race.none_) := ⟨Try.f51, by kernel_rfl, by kernel_rfl, by kernel_rfl, by kernel_rfl, by kernel_rfl⟩
theorem x52 : ExtF Try.prog 52 (Extern.Race.marked .acquire) := ⟨Try.f52, by kernel_rfl, by kernel_rfl, by kernel_rfl, by kernel_rfl, by kernel_rfl⟩
theorem x63 : ExtF Try.prog 63 (Extern.Race.marked .releaseMerge) := ⟨Try.f63, by kernel_rfl, by kernel_rfl, by kernel_rfl, by kernel_rfl, by kernel_rfl⟩
theorem x80 : ExtF Try.prog 80 Extern.Sync.semacquire := ⟨Try.f80, by kernel_rfl, by kernel_rfl, by kernel_rfl, by kernel_rfl, by kernel_rfl⟩
theorem x82 : ExtF Try.prog 82 Extern.Sync.semrelease := ⟨Try.f82, by kernel_rfl, by kernel_rfl, by kernel_rfl, by kernel_rfl, by kernel_rfl⟩
theorem x79 : ExtF Try.prog 79 Extern.OsHooks.nano := ⟨Try.f79, by kernel_rfl, by kernel_rfl, by kernel_rfl, by kernel_rfl, by kernel_rfl⟩
theorem x76 : ExtF Try.prog 76 Extern.Sync.canSpin := ⟨Try.f76, by kernel_rfl, by kernel_rfl, by kernel_rfl, by kernel_rfl, by kernel_rfl⟩
theorem x77 : ExtF Try.prog 77 (fun _ => pure (.tuple #[])) := ⟨Try.f77, by kernel_rfl, by kernel_rfl, by kernel_rfl, by kernel_rfl, by kernel_rfl⟩
theorem q79 : norace Try.prog 79 = true := by kernel_rfl
theorem Run.head {P : Program} {c : Par} {F : Nat} {g : Goroutine} (h : Run P c F g) : isRun g = true := by
 cases F with
 | zero => exact h.ok
 | succ n =>
  have := h.ok
  simp only [okR, Bool.and_eq_true] at this
  exact this.1
theorem word_tab : ∀ l w s : Bool, ∀ n : Fin 9, let o : Int := ((l.toNat + 2 * w.toNat + 4 * s.toNat + 8 * n.val : Nat) : Int)
  bits .and .i32 o 5 = l5 l s /\ bits .and .i32 o 4 = l5 false s /\ bits .and .i32 o 1 = l5 l false /\ bits .and .i32 o 2 = l2 w /\ (o.fdiv 8 != 0) = (n.val != 0) /\
  (bits .and .i32 o 5 == 0) = (!l && !s) /\ (bits .and .i32 o 4 != 0) = s /\ (bits .and .i32 o 3 != 0) = (l || w) /\ (o.fdiv 8 == 0) = (n.val == 0) /\ (o.fdiv 8 == 1) = (n.val == 1) /\
  (l = false -> bits .or .i32 o 1 = o + 1 /\ bits .and .i32 (bits .or .i32 o 1) 2 = l2 w) /\
  IntKind.i32.wrap (o + 8) = o + 8 /\
  (l = true -> IntKind.i32.wrap (bits .or .i32 o 1 + 8) = o + 8 /\ bits .and .i32 (IntKind.i32.wrap (bits .or .i32 o 1 + 8)) 2 = l2 w) /\
  (l = false -> w = true -> bits .andNot .i32 (bits .or .i32 o 1) 2 = o - 1) /\
  (l = true -> w = true -> bits .andNot .i32 (IntKind.i32.wrap (bits .or .i32 o 1 + 8)) 2 = o + 6) /\
  (l = true -> s = false -> bits .and .i32 (bits .or .i32 (IntKind.i32.wrap (bits .or .i32 o 1 + 8)) 4) 2 = l2 w) /\
  (l = true -> w = true -> s = false -> bits .andNot .i32 (bits .or .i32 (IntKind.i32.wrap (bits .or .i32 o 1 + 8)) 4) 2 = o + 10) /\
  (w = false -> bits .or .i32 o 2 = o + 2) /\ IntKind.i32.wrap (o + -7) = o - 7 /\ IntKind.i32.wrap (o + -11) = o - 11 /\ IntKind.i32.wrap (o + -1) = o - 1 := by
 decide +kernel
structure Parts (m : Mx) (l w s : Bool) (n : Fin 9) : Prop where
 L : m.L = l.toNat
 W : m.W = w.toNat
 S : m.S = s.toNat
 N : m.N = n.val
theorem parts_of {num : Nat} {wk : Nat -> Wk} {m : Mx} (h : MInv num wk m) (h8 : num <= 8) : ∃ l w s n, Parts m l w s n := by
 have b := h.bound
 refine ⟨m.L == 1, m.W == 1, m.S == 1, ⟨m.N, by omega⟩, ?_, ?_, ?_, rfl⟩
 · have := h.l
   rcases Nat.lt_or_ge m.L 1 with e | e
   · have : m.L = 0 := by omega
     rw [this]; rfl
   · have : m.L = 1 := by omega
     rw [this]; rfl
 · have := h.w
   rcases Nat.lt_or_ge m.W 1 with e | e
   · have : m.W = 0 := by omega
     rw [this]; rfl
   · have : m.W = 1 := by omega
     rw [this]; rfl
 · have := h.s
   rcases Nat.lt_or_ge m.S 1 with e | e
   · have : m.S = 0 := by omega
     rw [this]; rfl
   · have : m.S = 1 := by omega
     rw [this]; rfl
theorem Parts.word {m : Mx} {l w s : Bool} {n : Fin 9} (h : Parts m l w s n) : m.word = l.toNat + 2 * w.toNat + 4 * s.toNat + 8 * n.val := by
 unfold Mx.word; rw [h.L, h.W, h.S, h.N]
theorem word_inj {m m' : Mx} (h : m.word = m'.word) (a : m.L <= 1 /\ m.W <= 1 /\ m.S <= 1) (b : m'.L <= 1 /\ m'.W <= 1 /\ m'.S <= 1) : m.L = m'.L /\ m.W = m'.W /\ m.S = m'.S /\ m.N = m'.N := by
 unfold Mx.word at h
 omega
section
variable {E : Env} {P : Program} {k : Nat} {σ σ' : Gh} {w w' : World} {Stop : Gh -> Goroutine -> World -> Prop}
theorem MInv.same {n : Nat} {wk : Nat -> Wk} {m : Mx} (h : MInv n wk m) {x : Wk} (hx : x.lk = (wk k).lk) : MInv n (upd wk k x) m := by
 have c : ∀ y, cnt n (upd wk k x) y = cnt n wk y := fun y => sum_same (φ := fun z => if z.lk = y then 1 else 0) (by rw [hx])
 obtain ⟨a, b, d, e, f, g, i, j, l⟩ := h
 exact ⟨a, b, d, by rw [c]; exact e, by rw [c, c, c]; exact f, by rw [c, c, c]; exact g, by rw [c, c]; exact i, by rw [c, c]; exact j, by rw [c]; exact l⟩
theorem pots_same {n : Nat} {wk : Nat -> Wk} {x : Wk} (hx : x.lk = (wk k).lk) : pots n (upd wk k x) = pots n wk := sum_same (φ := fun z => wt z.lk) (by rw [hx])
def Wk.on (x : Wk) (l : Lk) (d : Nat) : Wk := { x with lk := l, df := d }
def Gh.lk (σ : Gh) (k : Nat) (l : Lk) (d : Nat) (m : Mx) : Gh := { σ with wk := upd σ.wk k ((σ.wk k).on l d), mx := m }
theorem Gh.lk_wk (σ : Gh) (k : Nat) (l : Lk) (d : Nat) (m : Mx) : (σ.lk k l d m).wk k = ((σ.wk k).on l d) := upd_same _ _ _
theorem Turn.lock (hE : E.Ok) (hJ : J E σ w) (hk : k < σ.num) (h7 : (σ.wk k).fin = 7) {l : Lk} {d : Nat} {m : Mx} {es : Array Event} (hM : MInv σ.num (upd σ.wk k ((σ.wk k).on l d)) m)
  (hP : Pend ((σ.wk k).on l d) ↔ Pend (σ.wk k)) (ho : (σ.wk k).lk ≠ .out \/ l = .out)
  (hp : pots σ.num (upd σ.wk k ((σ.wk k).on l d)) + m.sm <= pots σ.num σ.wk + σ.mx.sm /\ (m.word = σ.mx.word \/ pots σ.num (upd σ.wk k ((σ.wk k).on l d)) + m.sm < pots σ.num σ.wk + σ.mx.sm))
  (hdd : ∀ j, j ≠ k -> j < σ.num -> (σ.wk j).lk = .dd -> σ.mx.S = 1 -> m.S = 1 /\ σ.mx.N <= m.N) (hw : Same E w w') (h4 : Four E (σ.lk k l d m) w') (hev : ∀ e ∈ es, Book E e) (hdf : deafBehind (σ.wk k).df es = d) : Turn E k σ w es (σ.lk k l d m) w' := by
 have inv : Inv E.n (σ.lk k l d m) := hJ.inv.lock hk hM rfl rfl rfl rfl hP ho
 have hd : dues σ.num (upd σ.wk k ((σ.wk k).on l d)) = dues σ.num σ.wk := dues_same rfl
 have j' : J E (σ.lk k l d m) w' := J.turn hE hJ hw h4 inv (by show σ.hs + dues σ.num (upd σ.wk k _) + E.rest σ.nx + σ.dm = E.tot; rw [hd]; exact hJ.acc) rfl rfl rfl
 refine ⟨j', fun j hj => upd_ne _ _ hj, rfl, rfl, rfl, rfl, rfl, rfl, by rw [Gh.lk_wk]; rfl, hw, ?_, hdd, fun h => by rw [Gh.lk_wk] at h; exact h, by rw [h7]; decide, by rw [Gh.lk_wk]; exact hdf, fun _ h => h, fun e he => (hev e he).evW j', fun h => ?_⟩
 · unfold Wp.pot
   show pots σ.num (upd σ.wk k _) + m.sm + 5 * (E.n - σ.nx) <= _ /\ (m.word = _ \/ pots σ.num (upd σ.wk k _) + m.sm + 5 * (E.n - σ.nx) < _)
   exact ⟨by omega, hp.2.imp id fun h => by omega⟩
 · rw [Gh.lk_wk] at h
   have h : (σ.wk k).fin <= 6 := h
   omega
theorem Turn.idle (hE : E.Ok) (hJ : J E σ w) (ha : (σ.wk k).fin ≠ 1) (hw : Same E w w') (h4 : Four E σ w') : Turn E k σ w #[] σ w' :=
 ⟨J.turn hE hJ hw h4 hJ.inv hJ.acc rfl rfl rfl, fun _ _ => rfl, rfl, rfl, rfl, rfl, rfl, rfl, rfl, hw, ⟨Nat.le_refl _, .inl rfl⟩, fun _ _ _ _ h => ⟨h, Nat.le_refl _⟩, id, ha, rfl, fun _ h => h, fun e he => by simp at he, fun h => .inl ⟨h, fun j e he => by simp at he⟩⟩
theorem RW.idle (hE : E.Ok) (hJ : J E σ w) (hw : Same E w w') (h4 : Four E σ w') : RW E k σ w σ w' :=
 ⟨J.turn hE hJ hw h4 hJ.inv hJ.acc rfl rfl rfl, Nat.le_refl _, rfl, Nat.le_refl _, fun _ _ => rfl, fun b hb hc => hw.mem b (hc.elim (fun x => x.2.2) fun x => (hJ.pv b (by omega)).2.2.1), ⟨Nat.le_refl _, .inl rfl⟩, fun _ h => ⟨h, Nat.le_refl _⟩⟩
theorem no_wake {σ σ' : Gh} {b : Bool} (h1 : σ'.mx.sm <= σ.mx.sm) (h2 : σ'.ws = σ.ws) : (σ.mx.sm = 0 -> 0 < σ'.mx.sm -> b = true) /\ (σ.ws = 0 -> 0 < σ'.ws -> b = true) := ⟨fun a c => by omega, fun a c => by omega⟩
section
variable {m : Nat} {g : Goroutine}
theorem stop_load (hE : E.Ok) {fnr : norace P g.frame.fn = true} (hg : isLoad P g = some (false, ⟨E.Mu, 0, none⟩)) (hr : isRun g = true) (hr' : ∀ v, isRun (fin g (.int .i32 v)) = true) (hJ : J E σ w) (hk : k < σ.num) (ha : (σ.wk k).fin ≠ 1)
  (h : ∀ σ₁ w₁, RW E k σ w σ₁ w₁ -> GoesW P (proto E P) (k + 1) Stop m σ₁ (fin g (.int .i32 (σ₁.mx.word : Int))) w₁) : GoesW P (proto E P) (k + 1) Stop (m + 1) σ g w :=
 goW hr hk fun σ₁ w₁ hw hk1 => ⟨_, w₁, #[], σ₁, by rw [step_load hg hw.j.cellMu, fnr]; rfl, Turn.idle hE hw.j (by rw [hw.wk]; exact ha) .refl hw.j.four, hr' _, no_wake (Nat.le_refl _) rfl, h σ₁ w₁ hw⟩
theorem stop_conv (hE : E.Ok) {a : Addr} {v : Gh -> Value} (hg : isConv P g = some a) (hc : ∀ {σ : Gh} {w : World}, J E σ w -> w.cell? a = some (v σ)) (hr : isRun g = true) (hr' : isRun (fin g (.pointer (some a))) = true) (hJ : J E σ w) (hk : k < σ.num) (ha : (σ.wk k).fin ≠ 1)
  (h : ∀ σ₁ w₁, RW E k σ w σ₁ w₁ -> GoesW P (proto E P) (k + 1) Stop m σ₁ (fin g (.pointer (some a))) w₁) : GoesW P (proto E P) (k + 1) Stop (m + 1) σ g w :=
 goW hr hk fun σ₁ w₁ hw hk1 => ⟨_, w₁, #[], σ₁, step_conv hg (hc hw.j), Turn.idle hE hw.j (by rw [hw.wk]; exact ha) .refl hw.j.four, hr', no_wake (Nat.le_refl _) rfl, h σ₁ w₁ hw⟩
theorem stop_pure (hE : E.Ok) {f : FuncId} {vs : List Value} {v : Value} (hg : isCall f g = some vs) (hf : ExtF P f (fun _ => pure v)) (hr : isRun g = true) (hr' : isRun (fin g v) = true) (hJ : J E σ w) (hk : k < σ.num) (ha : (σ.wk k).fin ≠ 1)
  (h : ∀ σ₁ w₁, RW E k σ w σ₁ w₁ -> GoesW P (proto E P) (k + 1) Stop m σ₁ (fin g v) w₁) : GoesW P (proto E P) (k + 1) Stop (m + 1) σ g w :=
 goW hr hk fun σ₁ w₁ hw hk1 => ⟨_, w₁, #[], σ₁, step_ext hg hf (by rfl) (by rfl) (by simp), Turn.idle hE hw.j (by rw [hw.wk]; exact ha) .refl hw.j.four, hr', no_wake (Nat.le_refl _) rfl, h σ₁ w₁ hw⟩
theorem stop_spin (hE : E.Ok) {n : Int} (hg : isCall 76 g = some [.int .i64 n]) (hf : ExtF P 76 Extern.Sync.canSpin) (hr : isRun g = true) (hr' : ∀ b, isRun (fin g (.bool b)) = true) (hJ : J E σ w) (hk : k < σ.num) (ha : (σ.wk k).fin ≠ 1)
  (h : ∀ σ₁ w₁ b, RW E k σ w σ₁ w₁ -> (b = true -> n < 4) -> GoesW P (proto E P) (k + 1) Stop m σ₁ (fin g (.bool b)) w₁) : GoesW P (proto E P) (k + 1) Stop (m + 1) σ g w :=
 goW hr hk fun σ₁ w₁ hw hk1 => by
  by_cases h4 : 4 <= n
  · exact ⟨_, w₁, #[], σ₁, step_noSpin hg hf h4, Turn.idle hE hw.j (by rw [hw.wk]; exact ha) .refl hw.j.four, hr' _, no_wake (Nat.le_refl _) rfl, h σ₁ w₁ false hw (fun e => by cases e)⟩
  · have hi : RW E k σ₁ w₁ σ₁ w₁.asked := RW.idle hE hw.j .asked hw.j.four.asked
    exact ⟨_, w₁.asked, #[], σ₁, step_spin hg hf (by omega), Turn.idle hE hw.j (by rw [hw.wk]; exact ha) .asked hw.j.four.asked, hr' _, no_wake (Nat.le_refl _) rfl, h σ₁ _ _ (hw.trans hi) (fun _ => by omega)⟩
theorem stop_nano (hE : E.Ok) (hg : isCall 79 g = some []) (hf : ExtF P 79 Extern.OsHooks.nano) (hq : norace P 79 = true) (hr : isRun g = true) (hr' : ∀ t, isRun (fin g (.int .i64 t)) = true) (hJ : J E σ w) (hk : k < σ.num) (ha : (σ.wk k).fin ≠ 1)
  (h : ∀ σ₁ w₁ t, RW E k σ w σ₁ w₁ -> GoesW P (proto E P) (k + 1) Stop m σ₁ (fin g (.int .i64 t)) w₁) : GoesW P (proto E P) (k + 1) Stop (m + 1) σ g w :=
 goW hr hk fun σ₁ w₁ hw hk1 => by
  have hi : RW E k σ₁ w₁ σ₁ w₁.later := RW.idle hE hw.j .later hw.j.four.later
  exact ⟨_, w₁.later, #[], σ₁, step_nano hg hf hq, Turn.idle hE hw.j (by rw [hw.wk]; exact ha) .later hw.j.four.later, hr' _, no_wake (Nat.le_refl _) rfl, h σ₁ _ _ (hw.trans hi)⟩
theorem stop_mark (hE : E.Ok) {mk : Mark} {g' : Goroutine} {d : Nat} (hs : ∀ w, stepG P false g w = .go g' w #[⟨.mark mk, false, true⟩]) (hb : Book E ⟨.mark mk, false, true⟩) (hr : isRun g = true) (hr' : isRun g' = true) (hJ : J E σ w) (hk : k < σ.num) (h7 : (σ.wk k).fin = 7)
  (hd : deafBehind (σ.wk k).df #[⟨.mark mk, false, true⟩] = d)
  (h : ∀ σ₁ w₁, RW E k σ w σ₁ w₁ -> Keep E k σ w (σ₁.lk k (σ₁.wk k).lk d σ₁.mx) w₁ -> GoesW P (proto E P) (k + 1) Stop m (σ₁.lk k (σ₁.wk k).lk d σ₁.mx) g' w₁) : GoesW P (proto E P) (k + 1) Stop (m + 1) σ g w :=
 goW hr hk fun σ₁ w₁ hw hk1 => by
  have h71 : (σ₁.wk k).fin = 7 := by rw [hw.wk]; exact h7
  have T : Turn E k σ₁ w₁ #[⟨.mark mk, false, true⟩] (σ₁.lk k (σ₁.wk k).lk d σ₁.mx) w₁ := Turn.lock hE hw.j hk1 h71 (hw.j.inv.mx.same rfl) Iff.rfl ((Classical.em ((σ₁.wk k).lk = .out)).symm) ⟨Nat.le_of_eq (congrArg (· + σ₁.mx.sm) (pots_same rfl)), .inl rfl⟩ (fun _ _ _ _ h => ⟨h, Nat.le_refl _⟩) .refl ⟨hw.j.mu, hw.j.nx, hw.j.wg, hw.j.o⟩
   (fun e he => by simp only [List.mem_toArray, List.mem_cons, List.not_mem_nil, or_false] at he; subst he; exact hb) (by rw [hw.wk]; exact hd)
  exact ⟨g', w₁, _, _, hs w₁, T, hr', no_wake (Nat.le_refl _) rfl, h σ₁ w₁ hw (hw.keep.trans (T.keep hw.j))⟩
end
end
set_option maxRecDepth 100000
theorem ldsR_none {P : Program} {c : Par} (h : c.O = noOrc) : ∀ {F : Nat} {g : Goroutine}, ldsR P c F g = []
 | 0, _ => rfl
 | F + 1, g => by
  have hl : ldR P c g = none := by
   unfold ldR
   split
   · rw [h]; rfl
   · rfl
  simp only [ldsR, hl]
  cases stopR P c g with
  | true => rfl
  | false =>
   simp only [cond_false]
   split <;> exact ldsR_none h
section
variable {E : Env} {P : Program} {k : Nat} {σ σ' : Gh} {w w' : World} {Stop : Gh -> Goroutine -> World -> Prop}
theorem run0 {c : Par} (hv : c.Ok) {F m : Nat} {g : Goroutine} (hR : Run P c F g) (hJ : J E σ w) (ha : (σ.wk k).fin ≠ 1) (h : ∀ σ₁ w₁, RW E k σ w σ₁ w₁ -> GoesW P (proto E P) (k + 1) Stop m σ₁ (endR P c F g) w₁) (hc : c.main = false := by rfl) (ho : c.O = noOrc := by rfl) : GoesW P (proto E P) (k + 1) Stop (m + F) σ g w :=
 runW hc hv F hR hJ ha (by rw [ldsR_none ho]; intro x hx; cases hx) h
theorem stop_cas (hE : E.Ok) {m : Nat} {g : Goroutine} {old new : Int} (hg : isCall 61 g = some [pMu E.Mu, .int .i32 old, .int .i32 new]) (hf : ExtF P 61 (Extern.Atomic.casT (.int .i32))) (hr : isRun g = true) (hr' : ∀ b, isRun (fin g (.bool b)) = true) (hJ : J E σ w) (hk : k < σ.num) (h7 : (σ.wk k).fin = 7) (hdf : (σ.wk k).df = 1)
  (hit : ∀ σ₁ w₁, RW E k σ w σ₁ w₁ -> k < σ₁.num -> (σ₁.mx.word : Int) = old -> ∃ l m', (m'.word : Int) = new /\ m'.sm = σ₁.mx.sm /\ MInv σ₁.num (upd σ₁.wk k ((σ₁.wk k).on l 1)) m' /\ (Pend ((σ₁.wk k).on l 1) ↔ Pend (σ₁.wk k)) /\ (σ₁.wk k).lk ≠ .out /\ pots σ₁.num (upd σ₁.wk k ((σ₁.wk k).on l 1)) < pots σ₁.num σ₁.wk /\ (σ₁.mx.S = 1 -> σ₁.mx.L = 0 -> m'.S = 1 /\ σ₁.mx.N <= m'.N) /\
   ∀ w', Keep E k σ w (σ₁.lk k l 1 m') w' -> pot E.n (σ₁.lk k l 1 m') + 1 <= pot E.n σ₁ -> GoesW P (proto E P) (k + 1) Stop m (σ₁.lk k l 1 m') (fin g (.bool true)) w')
  (miss : ∀ σ₁ w₁, RW E k σ w σ₁ w₁ -> (σ₁.mx.word : Int) ≠ old -> GoesW P (proto E P) (k + 1) Stop m σ₁ (fin g (.bool false)) w₁) : GoesW P (proto E P) (k + 1) Stop (m + 1) σ g w :=
 goW hr hk fun σ₁ w₁ hw hk1 => by
  by_cases he : (σ₁.mx.word : Int) = old
  · obtain ⟨l, m', a1, a2, a3, a4, a5, a6, a7, a8⟩ := hit σ₁ w₁ hw hk1 he
    subst he a1
    have h71 : (σ₁.wk k).fin = 7 := by rw [hw.wk]; exact h7
    have T : Turn E k σ₁ w₁ #[⟨.cell (muA E), false, true⟩, ⟨.cell (muA E), true, true⟩] (σ₁.lk k l 1 m') (w₁.setCell (muA E) (.int .i32 (m'.word : Int))) :=
     Turn.lock hE hw.j hk1 h71 a3 a4 (.inl a5) ⟨by omega, .inr (by omega)⟩ (fun j hj hjn hd hs => a7 hs ((hw.j.inv.mx.dd0 hjn hd).elim (fun h => by omega) fun h => h.2.1)) (.set (.inl rfl)) (hw.j.four.setMu hE rfl a2)
      (fun e he => by
       simp only [List.mem_toArray, List.mem_cons, List.not_mem_nil, or_false] at he
       rcases he with rfl | rfl <;> exact .at_ _ _ (.inl rfl)) (by rw [hw.wk, hdf]; rfl)
    have hpot : pot E.n (σ₁.lk k l 1 m') + 1 <= pot E.n σ₁ := by
     unfold pot
     show pots σ₁.num (upd σ₁.wk k ((σ₁.wk k).on l 1)) + m'.sm + 5 * (E.n - σ₁.nx) + 1 <= _
     omega
    exact ⟨_, _, _, _, step_hit hg hf hw.j.cellMu hw.j.thawMu, T, hr' true, no_wake (Nat.le_of_eq a2) rfl, a8 _ (hw.keep.trans (T.keep hw.j)) hpot⟩
  · refine ⟨_, w₁, _, σ₁, step_miss hg hf hw.j.cellMu hw.j.thawMu he, ?_, hr' false, no_wake (Nat.le_refl _) rfl, miss σ₁ w₁ hw he⟩
    have h71 : (σ₁.wk k).fin = 7 := by rw [hw.wk]; exact h7
    have I := Turn.idle (k := k) hE hw.j (by rw [h71]; decide) .refl hw.j.four
    exact ⟨I.j, I.own, I.num, I.ms, I.mdf, I.dm, I.hs, I.pv, I.low, I.same, I.pot, I.dd, I.c5, I.alive, by rw [hw.wk, hdf]; rfl, I.writ, fun e he => by
     simp only [List.mem_toArray, List.mem_cons, List.not_mem_nil, or_false] at he
     subst he
     exact Book.evW hw.j (.at_ _ _ (.inl rfl)), fun h => by omega⟩
theorem GoesW.sub {Pr : Proto Gh} {i n F : Nat} {g : Goroutine} (h : F <= n) (H : GoesW P Pr i Stop (n - F + F) σ g w) : GoesW P Pr i Stop n σ g w := by rwa [Nat.sub_add_cancel h] at H
variable {fr : Frame} {cs : List Frame} {x0 : Wk}
theorem pend_on (hw : x0.wrote = false) {l : Lk} {d : Nat} (hl : l ≠ .out /\ l ≠ .uc /\ l ≠ .us) : Pend (x0.on l d) := by
 unfold Pend
 cases l <;> simp_all [Wk.on]
theorem tail_w (hE : E.Ok) (h7 : x0.fin = 7) {m n : Nat} (hn : m + 300 <= n) {J' : Nat -> Value} (hJ : J E σ w) (hk : k < σ.num) (hx : σ.wk k = x0.on .hd 1) (hcont : ∀ σ' w', Keep E k σ w σ' w' -> σ'.wk k = x0.on .hd 0 -> GoesW Try.prog (proto E Try.prog) (k + 1) Stop m σ' (back fr cs (.tuple #[])) w') :
  GoesW Try.prog (proto E Try.prog) (k + 1) Stop n σ (ELS E.Mu fr cs J') w := by
 refine GoesW.sub (F := 1) (by omega) (stop_mark hE (fun w => step_mark .enable (by simp) (bE E.Mu fr cs J') x51) .en (by kernel_rfl) (aE1 E.Mu fr cs J').head hJ hk (by rw [hx]; exact h7) (d := 0) (by rw [hx]; rfl) fun σ₁ w₁ hw1 hK1 => ?_)
 have hx1 : (σ₁.lk k (σ₁.wk k).lk 0 σ₁.mx).wk k = x0.on .hd 0 := by rw [Gh.lk_wk, hw1.wk, hx]; rfl
 generalize σ₁.lk k (σ₁.wk k).lk 0 σ₁.mx = τ1 at *
 refine GoesW.sub (F := 60) (by omega) (run0 cW_ok (aE1 E.Mu fr cs J') hK1.j (by rw [hx1]; show x0.fin ≠ 1; omega) fun σ₂ w₂ hw2 => ?_)
 have hx2 : σ₂.wk k = x0.on .hd 0 := by rw [hw2.wk, hx1]
 have hK2 := hK1.trans hw2.keep
 refine GoesW.sub (F := 1) (by omega) (stop_conv (v := fun σ => .int .i32 (σ.mx.word : Int)) hE (vE1 E.Mu fr cs J') (fun hJ => hJ.cellMu) (Run.last (aE1 E.Mu fr cs J')) (aE2 E.Mu fr cs J').head hw2.j (Nat.lt_of_lt_of_le hk hK2.num) (by rw [hx2]; show x0.fin ≠ 1; omega) fun σ₃ w₃ hw3 => ?_)
 have hx3 : σ₃.wk k = x0.on .hd 0 := by rw [hw3.wk, hx2]
 have hK3 := hK2.trans hw3.keep
 refine GoesW.sub (F := 60) (by omega) (run0 cW_ok (aE2 E.Mu fr cs J') hw3.j (by rw [hx3]; show x0.fin ≠ 1; omega) fun σ₄ w₄ hw4 => ?_)
 have hx4 : σ₄.wk k = x0.on .hd 0 := by rw [hw4.wk, hx3]
 have hK4 := hK3.trans hw4.keep
 refine GoesW.sub (F := 1) (by omega) (stop_mark hE (fun w => step_markAt .acquire (by simp) (bE2 E.Mu fr cs J') x52) (.acq _ (.inl rfl)) (Run.last (aE2 E.Mu fr cs J')) (aE3 E.Mu fr cs J').head hw4.j (Nat.lt_of_lt_of_le hk hK4.num) (by rw [hx4]; exact h7) (d := 0) (by rw [hx4]; rfl) fun σ₅ w₅ hw5 hK5 => ?_)
 have hx5 : (σ₅.lk k (σ₅.wk k).lk 0 σ₅.mx).wk k = x0.on .hd 0 := by rw [Gh.lk_wk, hw5.wk, hx4]; rfl
 have hK5 := hK4.trans hK5
 generalize σ₅.lk k (σ₅.wk k).lk 0 σ₅.mx = τ5 at *
 refine GoesW.sub (F := 60) (by omega) (run0 (cL_ok 32) (aE3 E.Mu fr cs J') hK5.j (by rw [hx5]; show x0.fin ≠ 1; omega) fun σ₆ w₆ hw6 => ?_)
 have hx6 : σ₆.wk k = x0.on .hd 0 := by rw [hw6.wk, hx5]
 have hK6 := hK5.trans hw6.keep
 refine GoesW.sub (F := 1) (by omega) (goW (Run.last (aE3 E.Mu fr cs J')) (Nat.lt_of_lt_of_le hk hK6.num) fun σ₇ w₇ hw7 hk7 => ⟨_, w₇, #[], σ₇, aE4 E.Mu fr cs J' w₇, Turn.idle hE hw7.j (by rw [hw7.wk, hx6]; show x0.fin ≠ 1; omega) .refl hw7.j.four, by rfl, no_wake (Nat.le_refl _) rfl, ?_⟩)
 exact (hcont σ₇ w₇ (hK6.trans hw7.keep) (by rw [hw7.wk, hx6])).mono (by omega)
end
section
variable {E : Env} {k : Nat} {Stop : Gh -> Goroutine -> World -> Prop} {fr : Frame} {cs : List Frame} {x0 : Wk} {m : Nat} {σ : Gh} {w : World}
abbrev GW (E : Env) (k : Nat) (Stop : Gh -> Goroutine -> World -> Prop) (n : Nat) (σ : Gh) (g : Goroutine) (w : World) : Prop := GoesW Try.prog (proto E Try.prog) (k + 1) Stop n σ g w
def HeadOK (E : Env) (k : Nat) (Stop : Gh -> Goroutine -> World -> Prop) (fr : Frame) (cs : List Frame) (x0 : Wk) (m : Nat) (σ : Gh) (w : World) (p q : Nat) : Prop :=
 ∀ (n : Nat) (J' : Nat -> Value) (ws it : Int) (sv aw : Bool) (σl : Gh) (wl : World) (σ₁ : Gh) (w₁ : World), m + (5 * p + q + 1) * 2000 <= n -> Keep E k σ w σl wl -> k < σl.num -> σl.wk k = x0.on (bif aw then .aw else .fr) 1 -> (sv = true -> aw = true) ->
  pot E.n σl <= p -> 0 <= it -> it <= 4 -> 4 <= it + q -> RW E k σl wl σ₁ w₁ -> GW E k Stop n σ₁ (HLS E.Mu fr cs J' ws it (σl.mx.word : Int) sv aw) w₁
theorem load_head (hE : E.Ok) (h7 : x0.fin = 7) {p q n : Nat} (H : HeadOK E k Stop fr cs x0 m σ w p q) {g : Goroutine} {J' : Int -> Nat -> Value} {ws it : Int} {sv aw : Bool} (hb : isLoad Try.prog g = some (false, ⟨E.Mu, 0, none⟩)) (hnr : norace Try.prog g.frame.fn = true) (hr : isRun g = true)
  (hc : ∀ v, Run Try.prog cH 60 (fin g (.int .i32 v))) (hd : ∀ v, endR Try.prog cH 60 (fin g (.int .i32 v)) = HLS E.Mu fr cs (J' v) ws it v sv aw) {σ₂ : Gh} {w₂ : World} (hK : Keep E k σ w σ₂ w₂) (hk : k < σ₂.num) (hx : σ₂.wk k = x0.on (bif aw then .aw else .fr) 1) (hs : sv = true -> aw = true)
  (hp : pot E.n σ₂ <= p) (h0 : 0 <= it) (h4 : it <= 4) (hq : 4 <= it + q) (hn : m + (5 * p + q + 1) * 2000 + 61 <= n) : GW E k Stop n σ₂ g w₂ := by
 have ha : x0.fin ≠ 1 := by omega
 refine GoesW.sub (F := 1) (by omega) (stop_load (fnr := hnr) hE hb hr (fun v => (hc v).head) hK.j hk (by rw [hx]; exact ha) fun σ₃ w₃ hw3 => ?_)
 have hx3 : σ₃.wk k = x0.on (bif aw then .aw else .fr) 1 := by rw [hw3.wk, hx]
 refine GoesW.sub (F := 60) (by omega) (run0 cH_ok (hc _) hw3.j (by rw [hx3]; exact ha) fun σ₄ w₄ hw4 => ?_)
 rw [hd]
 exact H _ _ ws it sv aw σ₃ w₃ σ₄ w₄ (by omega) (hK.trans hw3.keep) (Nat.lt_of_lt_of_le hk hw3.num) hx3 hs (Nat.le_trans hw3.pot.1 hp) h0 h4 hq hw4
theorem wrap_small {it : Int} (h0 : 0 <= it) (h4 : it < 4) : IntKind.i64.wrap (it + 1) = it + 1 := by
 simp [IntKind.wrap, IntKind.bits, IntKind.signed]
 omega
theorem spun_head (hE : E.Ok) (h7 : x0.fin = 7) {p q n : Nat} (H : HeadOK E k Stop fr cs x0 m σ w p q) {g : Goroutine} {J' : Int -> Nat -> Value} {ws it : Int} {sv aw : Bool} (hg : isCall 77 g = some []) (hr : isRun g = true) (S : Spun E.Mu fr cs g J' ws it sv aw) {σ₂ : Gh} {w₂ : World} (hK : Keep E k σ w σ₂ w₂) (hk : k < σ₂.num)
  (hx : σ₂.wk k = x0.on (bif aw then .aw else .fr) 1) (hs : sv = true -> aw = true) (hp : pot E.n σ₂ <= p) (h0 : 0 <= it) (h4 : it < 4) (hq : 4 <= it + q + 1) (hn : m + (5 * p + q + 1) * 2000 + 200 <= n) : GW E k Stop n σ₂ g w₂ := by
 have ha : x0.fin ≠ 1 := by omega
 refine GoesW.sub (F := 1) (by omega) (stop_pure hE hg x77 hr S.a.head hK.j hk (by rw [hx]; exact ha) fun σ₃ w₃ hw3 => ?_)
 have hx3 : σ₃.wk k = x0.on (bif aw then .aw else .fr) 1 := by rw [hw3.wk, hx]
 refine GoesW.sub (F := 60) (by omega) (run0 cW_ok S.a hw3.j (by rw [hx3]; exact ha) fun σ₄ w₄ hw4 => ?_)
 have hx4 : σ₄.wk k = x0.on (bif aw then .aw else .fr) 1 := by rw [hw4.wk, hx3]
 have hww := hw3.trans hw4
 refine load_head (J' := J') (ws := ws) (it := it + 1) hE h7 H S.b S.n S.a.last S.c (fun v => ?_) (hK.trans hww.keep) (Nat.lt_of_lt_of_le hk hww.num) hx4 hs (Nat.le_trans hww.pot.1 hp) (by omega) (by omega) (by omega) (by omega)
 rw [<- wrap_small h0 h4]
 exact S.d v
theorem wake_w (hE : E.Ok) (h7 : x0.fin = 7) (hwr : x0.wrote = false) {p n : Nat} (H : HeadOK E k Stop fr cs x0 m σ w p 4) (hcont : ∀ σ' w', Keep E k σ w σ' w' -> σ'.wk k = x0.on .hd 0 -> GW E k Stop m σ' (back fr cs (.tuple #[])) w') {J' : Nat -> Value} {ws : Int} {sv : Bool} {σ₂ : Gh} {w₂ : World} (hK : Keep E k σ w σ₂ w₂) (hk : k < σ₂.num)
  (hx : σ₂.wk k = x0.on .dd 1) (hp : pot E.n σ₂ <= p) (hn : m + (5 * p + 4 + 1) * 2000 + 700 <= n) : GW E k Stop n σ₂ (WLS E.Mu fr cs J' ws sv) w₂ := by
 have ha : x0.fin ≠ 1 := by omega
 have hru : ∀ v, isRun (fin (WLS E.Mu fr cs J' ws sv) (.int .i32 v)) = true := fun v => (aW E.Mu fr cs J' ws sv v).head
 refine GoesW.sub (F := 1) (by omega) (goW (rWS E.Mu fr cs J' ws sv) hk fun σ₃ w₃ hw3 hk3 => ?_)
 have hx3 : σ₃.wk k = x0.on .dd 1 := by rw [hw3.wk, hx]
 have h73 : (σ₃.wk k).fin = 7 := by rw [hx3]; exact h7
 have M := hw3.j.inv.mx
 have hlk : (σ₃.wk k).lk = .dd := by rw [hx3]; rfl
 have hstep : stepG Try.prog false (WLS E.Mu fr cs J' ws sv) w₃ = .go (fin (WLS E.Mu fr cs J' ws sv) (.int .i32 (σ₃.mx.word : Int))) w₃ #[] := by
  rw [step_load (bWS E.Mu fr cs J' ws sv) hw3.j.cellMu, nWS]; rfl
 obtain ⟨l, wk', s, nn, PT⟩ := parts_of M hw3.j.inv.num
 have T := word_tab l wk' s nn
 rw [<- PT.word] at T
 obtain ⟨t1, t2, t3, t4, t5, t6, t7, t8, t9, t10, t11, t12, t13, t14, t15, t16, t17, t18, t19, t20, t21⟩ := T
 rcases M.dd0 hk3 hlk with hS | ⟨hS, hL, hW, hN⟩
 ·
  have hs0 : s = false := by have := PT.S; cases s <;> simp_all
  subst hs0
  obtain ⟨M', hpt⟩ := M.wake (x := (σ₃.wk k).on .aw 1) hk3 hlk rfl hS
  have TT : Turn E k σ₃ w₃ #[] (σ₃.lk k .aw 1 σ₃.mx) w₃ := Turn.lock hE hw3.j hk3 h73 M' (by rw [hx3]; exact ⟨fun _ => pend_on hwr (by decide), fun _ => pend_on hwr (by decide)⟩) (.inl (by rw [hlk]; decide)) ⟨by omega, .inl rfl⟩ (fun _ _ _ _ h => ⟨h, Nat.le_refl _⟩) .refl ⟨hw3.j.mu, hw3.j.nx, hw3.j.wg, hw3.j.o⟩ (fun e he => by simp at he) (by rw [hx3]; rfl)
  refine ⟨_, w₃, _, _, hstep, TT, hru _, no_wake (Nat.le_refl _) rfl, ?_⟩
  have hK4 := (hK.trans hw3.keep).trans (TT.keep hw3.j)
  have hx4 : (σ₃.lk k .aw 1 σ₃.mx).wk k = x0.on .aw 1 := by rw [Gh.lk_wk, hx3]; rfl
  refine GoesW.sub (F := 100) (by omega) (run0 (cV0_ok t7) (aW E.Mu fr cs J' ws sv _) TT.j (by rw [hx4]; exact ha) fun σ₅ w₅ hw5 => ?_)
  have e : endR Try.prog (cV0 (σ₃.mx.word : Int)) 100 (fin (WLS E.Mu fr cs J' ws sv) (.int .i32 (σ₃.mx.word : Int))) = _ := hW E.Mu fr cs J' ws sv (σ₃.mx.word : Int)
  rw [e]
  have hpp : pot E.n (σ₃.lk k .aw 1 σ₃.mx) <= p := Nat.le_trans TT.pot.1 (Nat.le_trans hw3.pot.1 hp)
  exact H _ _ ws 0 sv true (σ₃.lk k .aw 1 σ₃.mx) w₃ σ₅ w₅ (by omega) hK4 hk3 hx4 (fun _ => rfl) hpp (by omega) (by omega) (by omega) hw5
 ·
  have hs1 : s = true := by have := PT.S; cases s <;> simp_all
  have hl0 : l = false := by have := PT.L; cases l <;> simp_all
  have hw0 : wk' = false := by have := PT.W; cases wk' <;> simp_all
  have hnn : nn.val ≠ 0 := by have := PT.N; omega
  subst hs1 hl0 hw0
  refine ⟨_, w₃, _, σ₃, hstep, Turn.idle hE hw3.j (by rw [h73]; decide) .refl hw3.j.four, hru _, no_wake (Nat.le_refl _) rfl, ?_⟩
  have hvok : (cV (σ₃.mx.word : Int) true (nn.val == 1)).Ok := cV_ok t7 (by rw [t8]; rfl) (by rw [t9]; simpa using hnn) t10
  refine GoesW.sub (F := 100) (by omega) (run0 hvok (aWs E.Mu fr cs J' ws sv _ _) hw3.j (by rw [hx3]; exact ha) fun σ₅ w₅ hw5 => ?_)
  have hK5 := (hK.trans hw3.keep).trans hw5.keep
  have hk5 : k < σ₅.num := Nat.lt_of_lt_of_le hk3 hw5.num
  have hx5 : σ₅.wk k = x0.on .dd 1 := by rw [hw5.wk, hx3]
  show GW E k Stop _ σ₅ (gW E.Mu fr cs J' ws sv (σ₃.mx.word : Int) true (nn.val == 1)) w₅
  refine GoesW.sub (F := 1) (by omega) (goW (Run.last (aWs E.Mu fr cs J' ws sv _ _)) hk5 fun σ₆ w₆ hw6 hk6 => ?_)
  have hw36 := hw5.trans hw6
  obtain ⟨hS6, hN6⟩ := hw36.dd (by rw [hx3]; rfl) hS
  have hx6 : σ₆.wk k = x0.on .dd 1 := by rw [hw6.wk, hx5]
  have hlk6 : (σ₆.wk k).lk = .dd := by rw [hx6]; rfl
  have h76 : (σ₆.wk k).fin = 7 := by rw [hx6]; exact h7
  have M6 := hw6.j.inv.mx
  obtain ⟨_, hL6, hW6, hN6'⟩ := (M6.dd0 hk6 hlk6).resolve_left (by omega)
  obtain ⟨dl, s', hdl, hs', hwd⟩ : ∃ dl : Int, ∃ s' : Nat, (bif !sv || nn.val == 1 then (-11 : Int) else -7) = dl /\ (s' = 0 \/ (s' = 1 /\ 2 <= σ₆.mx.N)) /\ ((({ σ₆.mx with L := 1, S := s', N := σ₆.mx.N - 1 } : Mx).word : Int) = (σ₆.mx.word : Int) + dl) := by
   have hN3 := PT.N
   cases hq : (!sv || nn.val == 1) with
   | true =>
    refine ⟨-11, 0, rfl, .inl rfl, ?_⟩
    unfold Mx.word
    rw [hL6, hW6, hS6]
    show ((1 + 2 * 0 + 4 * 0 + 8 * (σ₆.mx.N - 1) : Nat) : Int) = _
    omega
   | false =>
    have h1 : nn.val ≠ 1 := by intro h; rw [h] at hq; simp at hq
    refine ⟨-7, 1, rfl, .inr ⟨rfl, by omega⟩, ?_⟩
    unfold Mx.word
    rw [hL6, hW6, hS6]
    show ((1 + 2 * 0 + 4 * 1 + 8 * (σ₆.mx.N - 1) : Nat) : Int) = _
    omega
  have hcall := bWs E.Mu fr cs J' ws sv (σ₃.mx.word : Int) (nn.val == 1)
  rw [hdl] at hcall
  obtain ⟨l6, w6, s6, n6, PT6⟩ := parts_of M6 hw6.j.inv.num
  have T6 := word_tab l6 w6 s6 n6
  rw [<- PT6.word] at T6
  obtain ⟨_, _, _, _, _, _, _, _, _, _, _, _, _, _, _, _, _, _, u7, u11, _⟩ := T6
  have hwrap : IntKind.i32.wrap ((σ₆.mx.word : Int) + dl) = (({ σ₆.mx with L := 1, S := s', N := σ₆.mx.N - 1 } : Mx).word : Int) := by
   rw [hwd]
   rw [<- hdl]
   cases (!sv || nn.val == 1)
   · exact u7
   · exact u11
  have hst := step_add (P := Try.prog) (main := false) hcall x64 hw6.j.cellMu hw6.j.thawMu
  rw [hwrap] at hst
  obtain ⟨M', hpt⟩ := M6.hand (x := (σ₆.wk k).on .hd 1) hk6 hlk6 rfl hS6 hs'
  have hnw : ({ σ₆.mx with L := 1, S := s', N := σ₆.mx.N - 1 } : Mx).sm = σ₆.mx.sm := rfl
  generalize hmm : ({ σ₆.mx with L := 1, S := s', N := σ₆.mx.N - 1 } : Mx) = m' at *
  have TT : Turn E k σ₆ w₆ #[⟨.cell (muA E), false, true⟩, ⟨.cell (muA E), true, true⟩] (σ₆.lk k .hd 1 m') (w₆.setCell (muA E) (.int .i32 (m'.word : Int))) :=
   Turn.lock hE hw6.j hk6 h76 M' (by rw [hx6]; exact ⟨fun _ => pend_on hwr (by decide), fun _ => pend_on hwr (by decide)⟩) (.inl (by rw [hlk6]; decide)) ⟨by omega, .inr (by omega)⟩
    (fun j hj hjn hd hs => by
     have c2 := cnt_two (wk := σ₆.wk) hk6 hjn hj hlk6 hd
     obtain ⟨_, _, e3, _⟩ := M6.n1 hS6
     omega) (.set (.inl rfl)) (hw6.j.four.setMu hE rfl hnw)
    (fun e he => by
     simp only [List.mem_toArray, List.mem_cons, List.not_mem_nil, or_false] at he
     rcases he with rfl | rfl <;> exact .at_ _ _ (.inl rfl)) (by rw [hx6]; rfl)
  refine ⟨_, _, _, _, hst, TT, (aX E.Mu fr cs J' ws sv _ _ _).head, no_wake (Nat.le_of_eq hnw) rfl, ?_⟩
  have hK6 := (hK5.trans hw6.keep).trans (TT.keep hw6.j)
  have hx7 : (σ₆.lk k .hd 1 m').wk k = x0.on .hd 1 := by rw [Gh.lk_wk, hx6]; rfl
  refine GoesW.sub (F := 60) (by omega) (run0 cW_ok (aX E.Mu fr cs J' ws sv _ _ _) TT.j (by rw [hx7]; exact ha) fun σ₇ w₇ hw7 => ?_)
  show GW E k Stop _ σ₇ (gX E.Mu fr cs J' ws sv (σ₃.mx.word : Int) (nn.val == 1) (m'.word : Int)) w₇
  rw [hX]
  have hK7 := hK6.trans hw7.keep
  exact tail_w hE h7 (m := m) (by omega) hw7.j (Nat.lt_of_lt_of_le hk6 hw7.num) (by rw [hw7.wk, hx7]) fun σ' w' hK' hx' => hcont σ' w' (hK7.trans hK') hx'
end
section
variable {E : Env} {k : Nat} {Stop : Gh -> Goroutine -> World -> Prop} {fr : Frame} {cs : List Frame} {x0 : Wk} {m : Nat} {σ : Gh} {w : World}
theorem sem_book (hM : E.Mu = E.Mu) : ∀ e ∈ semEvents (msA E), Book E e := fun e he => by
 simp only [semEvents, List.mem_toArray, List.mem_cons, List.not_mem_nil, or_false] at he
 rcases he with rfl | rfl | rfl | rfl
 · exact .dis
 · exact .at_ _ _ (.inl rfl)
 · exact .at_ _ _ (.inl rfl)
 · exact .en
theorem sem_w (hE : E.Ok) (h7 : x0.fin = 7) (hwr : x0.wrote = false) {p n : Nat} (H : HeadOK E k Stop fr cs x0 m σ w p 4) (hcont : ∀ σ' w', Keep E k σ w σ' w' -> σ'.wk k = x0.on .hd 0 -> GW E k Stop m σ' (back fr cs (.tuple #[])) w') {J' : Nat -> Value} {ws : Int} {sv : Bool} {σ₂ : Gh} {w₂ : World} (hK : Keep E k σ w σ₂ w₂) (hk : k < σ₂.num)
  (hx : σ₂.wk k = x0.on .qd 1) (hp : pot E.n σ₂ <= p) (hn : m + (5 * p + 4 + 1) * 2000 + 1000 <= n) : GW E k Stop n σ₂ (QLS E.Mu fr cs J' ws sv) w₂ := by
 have ha : x0.fin ≠ 1 := by omega
 obtain ⟨hru1, hru2⟩ := isRun_out (rQS E.Mu fr cs J' ws sv)
 refine GoesW.sub (F := 1) (by omega) (.inr ⟨hru1, hru2, fun σ₃ w₃ hw3 => ?_⟩)
 have hw3 : RW E k σ₂ w₂ σ₃ w₃ := hw3
 have hk3 : k < σ₃.num := Nat.lt_of_lt_of_le hk hw3.num
 have hx3 : σ₃.wk k = x0.on .qd 1 := by rw [hw3.wk, hx]
 have h73 : (σ₃.wk k).fin = 7 := by rw [hx3]; exact h7
 have hlk : (σ₃.wk k).lk = .qd := by rw [hx3]; rfl
 by_cases hz : σ₃.mx.sm = 0
 · refine .inr ⟨⟨hlk, hz, by rw [h73]; decide⟩, ?_⟩
   exact step_wait (bQS E.Mu fr cs J' ws sv) x80 (by rw [show (⟨E.Mu, 1, none⟩ : Addr) = msA E from rfl, hw3.j.cellMs, hz]; rfl)
 · refine .inl ?_
   have hst := step_down (P := Try.prog) (main := false) (bQS E.Mu fr cs J' ws sv) x80 (show w₃.cell? (msA E) = _ from hw3.j.cellMs) (by omega) hw3.j.thawMs
   have e1 : ((σ₃.mx.sm : Int) - 1) = ((σ₃.mx.sm - 1 : Nat) : Int) := by omega
   rw [e1] at hst
   obtain ⟨M', hpt⟩ := hw3.j.inv.mx.down (x := (σ₃.wk k).on .dd 1) hk3 hlk rfl (by omega)
   have hmw : ({ σ₃.mx with sm := σ₃.mx.sm - 1 } : Mx).word = σ₃.mx.word := rfl
   have hsm : ({ σ₃.mx with sm := σ₃.mx.sm - 1 } : Mx).sm = σ₃.mx.sm - 1 := rfl
   have hSN : ({ σ₃.mx with sm := σ₃.mx.sm - 1 } : Mx).S = σ₃.mx.S /\ ({ σ₃.mx with sm := σ₃.mx.sm - 1 } : Mx).N = σ₃.mx.N := ⟨rfl, rfl⟩
   generalize hmm : ({ σ₃.mx with sm := σ₃.mx.sm - 1 } : Mx) = m' at *
   have TT : Turn E k σ₃ w₃ (semEvents (msA E)) (σ₃.lk k .dd 1 m') (w₃.setCell (msA E) (.int .u32 ((σ₃.mx.sm - 1 : Nat) : Int))) :=
    Turn.lock hE hw3.j hk3 h73 M' (by rw [hx3]; exact ⟨fun _ => pend_on hwr (by decide), fun _ => pend_on hwr (by decide)⟩) (.inl (by rw [hlk]; decide)) ⟨by omega, .inl hmw⟩
     (fun j hj hjn hd hs => ⟨by rw [hSN.1]; exact hs, by rw [hSN.2]; exact Nat.le_refl _⟩) (.set (.inl rfl)) (hw3.j.four.setMs hE hsm hmw) (sem_book rfl) (by rw [hx3]; rfl)
   have hr' : isRun (fin (QLS E.Mu fr cs J' ws sv) (.tuple #[])) = true := (aP E.Mu fr cs J' ws sv).head
   refine ⟨_, _, _, _, hst, TT.dw hw3.j hk3 (isRun_out hr').1 (no_wake (by show m'.sm <= _; omega) rfl), ?_⟩
   have hK4 := (hK.trans hw3.keep).trans (TT.keep hw3.j)
   have hx4 : (σ₃.lk k .dd 1 m').wk k = x0.on .dd 1 := by rw [Gh.lk_wk, hx3]; rfl
   have hp4 : pot E.n (σ₃.lk k .dd 1 m') <= p := Nat.le_trans TT.pot.1 (Nat.le_trans hw3.pot.1 hp)
   refine GoesW.sub (F := 60) (by omega) (run0 cW_ok (aP E.Mu fr cs J' ws sv) TT.j (by rw [hx4]; exact ha) fun σ₅ w₅ hw5 => ?_)
   have hx5 : σ₅.wk k = x0.on .dd 1 := by rw [hw5.wk, hx4]
   have hk5 : k < σ₅.num := Nat.lt_of_lt_of_le hk3 hw5.num
   have hp5 : pot E.n σ₅ <= p := Nat.le_trans hw5.pot.1 hp4
   have hK5 := hK4.trans hw5.keep
   cases sv with
   | true =>
    have e : endR Try.prog cW 60 (fin (QLS E.Mu fr cs J' ws true) (.tuple #[])) = _ := hP1 E.Mu fr cs J' ws
    rw [e]
    exact wake_w hE h7 hwr H hcont hK5 hk5 hx5 hp5 (by omega)
   | false =>
    refine GoesW.sub (F := 1) (by omega) (stop_nano hE (bP E.Mu fr cs J' ws) x79 q79 (Run.last (aP E.Mu fr cs J' ws false)) (fun t => (aPt E.Mu fr cs J' ws t false).head) hK5.j hk5 (by rw [hx5]; exact ha) fun σ₆ w₆ t hw6 => ?_)
    have hx6 : σ₆.wk k = x0.on .dd 1 := by rw [hw6.wk, hx5]
    refine GoesW.sub (F := 60) (by omega) (run0 (cT_ok rfl) (aPt E.Mu fr cs J' ws t (decide (IntKind.i64.wrap (t - ws) > 1000000))) hw6.j (by rw [hx6]; exact ha) fun σ₇ w₇ hw7 => ?_)
    show GW E k Stop _ σ₇ (gPt E.Mu fr cs J' ws t _) w₇
    rw [hPt]
    have h57 := hw6.trans hw7
    exact wake_w hE h7 hwr H hcont (hK5.trans h57.keep) (Nat.lt_of_lt_of_le hk5 h57.num) (by rw [h57.wk, hx5]) (Nat.le_trans h57.pot.1 hp5) (by omega)
theorem miss_w (hE : E.Ok) (h7 : x0.fin = 7) {p n : Nat} (H : HeadOK E k Stop fr cs x0 m σ w p 4) {J' : Nat -> Value} {ws it old new : Int} {sv aw : Bool} {σ₂ : Gh} {w₂ : World} (hK : Keep E k σ w σ₂ w₂) (hk : k < σ₂.num) (hx : σ₂.wk k = x0.on (bif aw then .aw else .fr) 1) (hs : sv = true -> aw = true) (hp : pot E.n σ₂ <= p) (h0 : 0 <= it) (h4 : it <= 4)
  (hn : m + (5 * p + 4 + 1) * 2000 + 200 <= n) : GW E k Stop n σ₂ (fin (CLS E.Mu fr cs J' ws it old new sv aw) (.bool false)) w₂ := by
 have ha : x0.fin ≠ 1 := by omega
 refine GoesW.sub (F := 60) (by omega) (run0 cW_ok (aM E.Mu fr cs J' ws it old new sv aw) hK.j (by rw [hx]; exact ha) fun σ₃ w₃ hw3 => ?_)
 exact load_head (J' := fun v => junk (gMh E.Mu fr cs J' ws it old new sv aw v)) hE h7 H (bM E.Mu fr cs J' ws it old new sv aw) (nM E.Mu fr cs J' ws it old new sv aw) (Run.last (aM E.Mu fr cs J' ws it old new sv aw)) (aMh E.Mu fr cs J' ws it old new sv aw) (hMh E.Mu fr cs J' ws it old new sv aw)
  (hK.trans hw3.keep) (Nat.lt_of_lt_of_le hk hw3.num) (by rw [hw3.wk, hx]) hs (Nat.le_trans hw3.pot.1 hp) h0 h4 (by omega) (by omega)
theorem aw_lk (aw : Bool) : (bif aw then Lk.aw else .fr) ≠ .out := by cases aw <;> decide
theorem aw_pend (aw : Bool) : (bif aw then Lk.aw else .fr) ≠ .out /\ (bif aw then Lk.aw else .fr) ≠ .uc /\ (bif aw then Lk.aw else .fr) ≠ .us := by cases aw <;> decide
theorem cas_w (hE : E.Ok) (h7 : x0.fin = 7) (hwr : x0.wrote = false) {p n : Nat} (H : ∀ p', p' < p -> HeadOK E k Stop fr cs x0 m σ w p' 4) (hcont : ∀ σ' w', Keep E k σ w σ' w' -> σ'.wk k = x0.on .hd 0 -> GW E k Stop m σ' (back fr cs (.tuple #[])) w')
  {J' : Nat -> Value} {ws it new : Int} {sv aw : Bool} {σl σ₂ : Gh} {wl w₂ : World} (hK : Keep E k σ w σl wl) (hkl : k < σl.num) (hxl : σl.wk k = x0.on (bif aw then .aw else .fr) 1) (hs : sv = true -> aw = true) (hp : pot E.n σl <= p) (h0 : 0 <= it) (h4 : it <= 4) (hw2 : RW E k σl wl σ₂ w₂) (b : Bool) (hb : (bits .and .i32 (σl.mx.word : Int) 5 == 0) = b)
  (hmove : ∀ τ : Gh, MInv τ.num τ.wk τ.mx -> k < τ.num -> (τ.wk k).lk = (bif aw then .aw else .fr) -> τ.mx.L = σl.mx.L -> τ.mx.W = σl.mx.W -> τ.mx.S = σl.mx.S -> τ.mx.N = σl.mx.N -> ∃ m' : Mx, (m'.word : Int) = new /\ m'.sm = τ.mx.sm /\ MInv τ.num (upd τ.wk k ((τ.wk k).on (bif b then .hd else .qd) 1)) m' /\
   pots τ.num (upd τ.wk k ((τ.wk k).on (bif b then .hd else .qd) 1)) < pots τ.num τ.wk /\ (τ.mx.S = 1 -> τ.mx.L = 0 -> m'.S = 1 /\ τ.mx.N <= m'.N)) (hn : m + 5 * p * 2000 + 1500 <= n) :
  GW E k Stop n σ₂ (CLS E.Mu fr cs J' ws it (σl.mx.word : Int) new sv aw) w₂ := by
 have ha : x0.fin ≠ 1 := by omega
 have hx2 : σ₂.wk k = x0.on (bif aw then .aw else .fr) 1 := by rw [hw2.wk, hxl]
 have hk2 : k < σ₂.num := Nat.lt_of_lt_of_le hkl hw2.num
 refine GoesW.sub (F := 1) (by omega) (stop_cas hE (bC E.Mu fr cs J' ws it (σl.mx.word : Int) new sv aw) x61 (rC E.Mu fr cs J' ws it _ new sv aw) (fun r => ?_) hw2.j hk2 (by rw [hx2]; exact h7) (by rw [hx2]; rfl) (fun σ₃ w₃ hw3 hk3 he => ?_) (fun σ₃ w₃ hw3 hne => ?_))
 · cases r
   · exact (aM E.Mu fr cs J' ws it _ new sv aw).head
   · exact (aE E.Mu fr cs J' ws it (σl.mx.word : Int) new sv aw (ws == 0)).head
 · have hx3 : σ₃.wk k = x0.on (bif aw then .aw else .fr) 1 := by rw [hw3.wk, hx2]
   have M3 := hw3.j.inv.mx
   have Ml := hK.j.inv.mx
   obtain ⟨i1, i2, i3, i4⟩ := word_inj (show σ₃.mx.word = σl.mx.word by omega) ⟨M3.l, M3.w, M3.s⟩ ⟨Ml.l, Ml.w, Ml.s⟩
   obtain ⟨m', c1, c2, c3, c4, c5⟩ := hmove σ₃ M3 hk3 (by rw [hx3]; rfl) i1 i2 i3 i4
   have hw23 := hw2.trans hw3
   refine ⟨bif b then .hd else .qd, m', c1, c2, c3, ?_, by rw [hx3]; exact aw_lk aw, c4, c5, fun w' hK' hpot => ?_⟩
   · rw [hx3]
     exact ⟨fun _ => pend_on hwr (aw_pend aw), fun _ => by show Pend (x0.on _ 1); exact pend_on hwr (by cases b <;> decide)⟩
   have hK4 := (hK.trans hw2.keep).trans hK'
   have hx4 : (σ₃.lk k (bif b then .hd else .qd) 1 m').wk k = x0.on (bif b then .hd else .qd) 1 := by rw [Gh.lk_wk, hx3]; rfl
   have hp4 : pot E.n (σ₃.lk k (bif b then .hd else .qd) 1 m') + 1 <= p := Nat.le_trans hpot (Nat.le_trans hw23.pot.1 hp)
   have hk4 : k < (σ₃.lk k (bif b then .hd else .qd) 1 m').num := hk3
   generalize σ₃.lk k (bif b then .hd else .qd) 1 m' = τ at *
   cases b with
   | true =>
    have hx4 : τ.wk k = x0.on .hd 1 := hx4
    refine GoesW.sub (F := 60) (by omega) (run0 (cC_ok hb rfl) (aE E.Mu fr cs J' ws it (σl.mx.word : Int) new sv aw (ws == 0)) hK4.j (by rw [hx4]; exact ha) fun σ₅ w₅ hw5 => ?_)
    have e : endR Try.prog (cC (σl.mx.word : Int) ws true (ws == 0)) 60 (fin (CLS E.Mu fr cs J' ws it (σl.mx.word : Int) new sv aw) (.bool true)) = _ := hE1 E.Mu fr cs J' ws it (σl.mx.word : Int) new sv aw (ws == 0)
    rw [e]
    have hK5 := hK4.trans hw5.keep
    exact tail_w hE h7 (m := m) (by omega) hw5.j (Nat.lt_of_lt_of_le hk4 hw5.num) (by rw [hw5.wk, hx4]) fun σ' w' hK' hx' => hcont σ' w' (hK5.trans hK') hx'
   | false =>
    have hx4 : τ.wk k = x0.on .qd 1 := hx4
    refine GoesW.sub (F := 60) (by omega) (run0 (cC_ok hb rfl) (aQ E.Mu fr cs J' ws it (σl.mx.word : Int) new sv aw (ws == 0)) hK4.j (by rw [hx4]; exact ha) fun σ₅ w₅ hw5 => ?_)
    have hK5 := hK4.trans hw5.keep
    have hx5 : σ₅.wk k = x0.on .qd 1 := by rw [hw5.wk, hx4]
    have hk5 : k < σ₅.num := Nat.lt_of_lt_of_le hk4 hw5.num
    have hp5 : pot E.n σ₅ <= p - 1 := by have := hw5.pot.1; omega
    have Hp := H (p - 1) (by omega)
    have hbud : m + (5 * (p - 1) + 4 + 1) * 2000 + 1000 + 200 <= n - 1 - 60 := by
     have : 5 * (p - 1) + 4 + 1 = 5 * p := by omega
     rw [this]; omega
    cases hws : (ws == 0) with
    | false =>
     have e : endR Try.prog (cC (σl.mx.word : Int) ws false false) 60 (fin (CLS E.Mu fr cs J' ws it (σl.mx.word : Int) new sv aw) (.bool true)) = _ := hQ0 E.Mu fr cs J' ws it (σl.mx.word : Int) new sv aw
     rw [e]
     exact sem_w hE h7 hwr Hp hcont hK5 hk5 hx5 hp5 (by omega)
    | true =>
     have hrun := aQ E.Mu fr cs J' ws it (σl.mx.word : Int) new sv aw true
     refine GoesW.sub (F := 1) (by omega) (stop_nano hE (bQ E.Mu fr cs J' ws it (σl.mx.word : Int) new sv aw) x79 q79 (Run.last hrun) (fun t => (aQt E.Mu fr cs J' ws it (σl.mx.word : Int) new sv aw t).head) hK5.j hk5 (by rw [hx5]; exact ha) fun σ₆ w₆ t hw6 => ?_)
     have hx6 : σ₆.wk k = x0.on .qd 1 := by rw [hw6.wk, hx5]
     refine GoesW.sub (F := 60) (by omega) (run0 cW_ok (aQt E.Mu fr cs J' ws it (σl.mx.word : Int) new sv aw t) hw6.j (by rw [hx6]; exact ha) fun σ₇ w₇ hw7 => ?_)
     show GW E k Stop _ σ₇ (gQt E.Mu fr cs J' ws it (σl.mx.word : Int) new sv aw t) w₇
     rw [hQt]
     have h57 := hw6.trans hw7
     exact sem_w hE h7 hwr Hp hcont (hK5.trans h57.keep) (Nat.lt_of_lt_of_le hk5 h57.num) (by rw [h57.wk, hx5]) (Nat.le_trans h57.pot.1 hp5) (by omega)
 · have hw23 := hw2.trans hw3
   have hlt : pot E.n σ₃ < pot E.n σl := hw23.pot.2.resolve_left (by omega)
   have hbud : m + (5 * (p - 1) + 4 + 1) * 2000 + 200 <= n - 1 := by
    have : 5 * (p - 1) + 4 + 1 = 5 * p := by omega
    rw [this]; omega
   exact miss_w hE h7 (H (p - 1) (by omega)) (hK.trans hw23.keep) (Nat.lt_of_lt_of_le hkl hw23.num) (by rw [hw23.wk, hxl]) hs (by omega) h0 h4 hbud
end
section
variable {E : Env} {k : Nat} {Stop : Gh -> Goroutine -> World -> Prop} {fr : Frame} {cs : List Frame} {x0 : Wk} {m : Nat} {σ : Gh} {w : World}
theorem Parts.wordI {m : Mx} {l w s : Bool} {n : Fin 9} (h : Parts m l w s n) : (m.word : Int) = ((l.toNat + 2 * w.toNat + 4 * s.toNat + 8 * n.val : Nat) : Int) := by rw [h.word]
theorem head_ok (hE : E.Ok) (h7 : x0.fin = 7) (hwr : x0.wrote = false) (hcont : ∀ σ' w', Keep E k σ w σ' w' -> σ'.wk k = x0.on .hd 0 -> GW E k Stop m σ' (back fr cs (.tuple #[])) w') : ∀ p q, HeadOK E k Stop fr cs x0 m σ w p q := by
 intro p
 induction p using Nat.strongRecOn with
 | _ p ihp =>
 intro q
 induction q using Nat.strongRecOn with
 | _ q ihq =>
 intro n J' ws it sv aw σl wl σ₁ w₁ hn hK hk hx hs hp h0 h4 hq hw1
 have ha : x0.fin ≠ 1 := by omega
 have Hlow : ∀ p', p' < p -> HeadOK E k Stop fr cs x0 m σ w p' 4 := fun p' h => ihp p' h 4
 have Ml := hK.j.inv.mx
 have hx1 : σ₁.wk k = x0.on (bif aw then .aw else .fr) 1 := by rw [hw1.wk, hx]
 have hk1 : k < σ₁.num := Nat.lt_of_lt_of_le hk hw1.num
 obtain ⟨l, w', s, nn, PT⟩ := parts_of Ml hK.j.inv.num
 have T := word_tab l w' s nn
 rw [<- PT.word] at T
 obtain ⟨t1, t2, t3, t4, t5, t6, t7, t8, t9, t10, t11, t12, t13, t14, t15, t16, t17, t18, t19, t20, t21⟩ := T
 have hbud : m + 5 * p * 2000 + 2000 <= n := by
  have : 5 * p * 2000 + 2000 <= (5 * p + q + 1) * 2000 := by omega
  omega
 have mv := PT.wordI
 have move_reg : aw = false -> (l = true \/ s = true) -> ∀ τ : Gh, MInv τ.num τ.wk τ.mx -> k < τ.num -> (τ.wk k).lk = (bif aw then .aw else .fr) -> τ.mx.L = σl.mx.L -> τ.mx.W = σl.mx.W -> τ.mx.S = σl.mx.S -> τ.mx.N = σl.mx.N -> ∃ m' : Mx, (m'.word : Int) = (σl.mx.word : Int) + 8 /\ m'.sm = τ.mx.sm /\ MInv τ.num (upd τ.wk k ((τ.wk k).on .qd 1)) m' /\
   pots τ.num (upd τ.wk k ((τ.wk k).on .qd 1)) < pots τ.num τ.wk /\ (τ.mx.S = 1 -> τ.mx.L = 0 -> m'.S = 1 /\ τ.mx.N <= m'.N) := fun haw hls τ M hkt hlk e1 e2 e3 e4 => by
  subst haw
  obtain ⟨M', hpt⟩ := M.reg (x := (τ.wk k).on .qd 1) hkt hlk rfl (by rw [e1, e3, PT.L, PT.S]; rcases hls with rfl | rfl; exact .inl rfl; exact .inr rfl)
  refine ⟨{ τ.mx with N := τ.mx.N + 1 }, ?_, rfl, M', by omega, fun h _ => ⟨h, Nat.le_succ _⟩⟩
  unfold Mx.word
  show ((τ.mx.L + 2 * τ.mx.W + 4 * τ.mx.S + 8 * (τ.mx.N + 1) : Nat) : Int) = ((σl.mx.L + 2 * σl.mx.W + 4 * σl.mx.S + 8 * σl.mx.N : Nat) : Int) + 8
  omega
 have move_fast : aw = false -> l = false -> s = false -> ∀ τ : Gh, MInv τ.num τ.wk τ.mx -> k < τ.num -> (τ.wk k).lk = (bif aw then .aw else .fr) -> τ.mx.L = σl.mx.L -> τ.mx.W = σl.mx.W -> τ.mx.S = σl.mx.S -> τ.mx.N = σl.mx.N -> ∃ m' : Mx, (m'.word : Int) = (σl.mx.word : Int) + 1 /\ m'.sm = τ.mx.sm /\ MInv τ.num (upd τ.wk k ((τ.wk k).on .hd 1)) m' /\
   pots τ.num (upd τ.wk k ((τ.wk k).on .hd 1)) < pots τ.num τ.wk /\ (τ.mx.S = 1 -> τ.mx.L = 0 -> m'.S = 1 /\ τ.mx.N <= m'.N) := fun haw hl hs' τ M hkt hlk e1 e2 e3 e4 => by
  subst haw hl hs'
  have hL : τ.mx.L = 0 := by rw [e1, PT.L]; rfl
  have hS : τ.mx.S = 0 := by rw [e3, PT.S]; rfl
  obtain ⟨M', hpt⟩ := M.fast (x := (τ.wk k).on .hd 1) hkt hlk rfl hL hS
  refine ⟨{ τ.mx with L := 1 }, ?_, rfl, M', by omega, fun h _ => by omega⟩
  unfold Mx.word
  show ((1 + 2 * τ.mx.W + 4 * τ.mx.S + 8 * τ.mx.N : Nat) : Int) = ((σl.mx.L + 2 * σl.mx.W + 4 * σl.mx.S + 8 * σl.mx.N : Nat) : Int) + 1
  omega
 have move_aw : aw = true -> l = false -> ∀ τ : Gh, MInv τ.num τ.wk τ.mx -> k < τ.num -> (τ.wk k).lk = (bif aw then .aw else .fr) -> τ.mx.L = σl.mx.L -> τ.mx.W = σl.mx.W -> τ.mx.S = σl.mx.S -> τ.mx.N = σl.mx.N -> ∃ m' : Mx, (m'.word : Int) = (σl.mx.word : Int) - 1 /\ m'.sm = τ.mx.sm /\ MInv τ.num (upd τ.wk k ((τ.wk k).on .hd 1)) m' /\
   pots τ.num (upd τ.wk k ((τ.wk k).on .hd 1)) < pots τ.num τ.wk /\ (τ.mx.S = 1 -> τ.mx.L = 0 -> m'.S = 1 /\ τ.mx.N <= m'.N) := fun haw hl τ M hkt hlk e1 e2 e3 e4 => by
  subst haw hl
  have hL : τ.mx.L = 0 := by rw [e1, PT.L]; rfl
  obtain ⟨hW, hS⟩ := M.aw1 hkt hlk
  obtain ⟨M', hpt⟩ := M.awLock (x := (τ.wk k).on .hd 1) hkt hlk rfl hL
  refine ⟨{ τ.mx with L := 1, W := 0 }, ?_, rfl, M', by omega, fun h _ => by omega⟩
  unfold Mx.word
  show ((1 + 2 * 0 + 4 * τ.mx.S + 8 * τ.mx.N : Nat) : Int) = ((σl.mx.L + 2 * σl.mx.W + 4 * σl.mx.S + 8 * σl.mx.N : Nat) : Int) - 1
  omega
 have move_awr : aw = true -> l = true -> ∀ sn : Nat, sn <= 1 -> ∀ τ : Gh, MInv τ.num τ.wk τ.mx -> k < τ.num -> (τ.wk k).lk = (bif aw then .aw else .fr) -> τ.mx.L = σl.mx.L -> τ.mx.W = σl.mx.W -> τ.mx.S = σl.mx.S -> τ.mx.N = σl.mx.N -> ∃ m' : Mx, (m'.word : Int) = (σl.mx.word : Int) + 6 + 4 * (sn : Int) /\ m'.sm = τ.mx.sm /\ MInv τ.num (upd τ.wk k ((τ.wk k).on .qd 1)) m' /\
   pots τ.num (upd τ.wk k ((τ.wk k).on .qd 1)) < pots τ.num τ.wk /\ (τ.mx.S = 1 -> τ.mx.L = 0 -> m'.S = 1 /\ τ.mx.N <= m'.N) := fun haw hl sn hsn τ M hkt hlk e1 e2 e3 e4 => by
  subst haw hl
  have hL : τ.mx.L = 1 := by rw [e1, PT.L]; rfl
  obtain ⟨hW, hS⟩ := M.aw1 hkt hlk
  obtain ⟨M', hpt⟩ := M.awReg (x := (τ.wk k).on .qd 1) hkt hlk rfl hL hsn
  refine ⟨{ τ.mx with W := 0, S := sn, N := τ.mx.N + 1 }, ?_, rfl, M', by omega, fun h _ => by omega⟩
  unfold Mx.word
  show ((τ.mx.L + 2 * 0 + 4 * sn + 8 * (τ.mx.N + 1) : Nat) : Int) = ((σl.mx.L + 2 * σl.mx.W + 4 * σl.mx.S + 8 * σl.mx.N : Nat) : Int) + 6 + 4 * (sn : Int)
  omega
 cases aw with
 | false =>
  have hsv : sv = false := by cases sv with | false => rfl | true => exact absurd (hs rfl) (by decide)
  subst hsv
  cases l with
  | false =>
   have B : Bits (σl.mx.word : Int) (bits .or .i32 (σl.mx.word : Int) 1) false w' s (nn.val != 0) := ⟨t1, t2, t3, t4, (t11 rfl).2, t5⟩
   cases s with
   | false =>
    refine GoesW.sub (F := 200) (by omega) (run0 (cA_ok B) (aA1 E.Mu fr cs J' ws it (σl.mx.word : Int) (bits .or .i32 (σl.mx.word : Int) 1) w' (nn.val != 0)) hw1.j (by rw [hx1]; exact ha) fun σ₂ w₂ hw2 => ?_)
    show GW E k Stop _ σ₂ (gA E.Mu fr cs J' ws it (σl.mx.word : Int) (bits .or .i32 (σl.mx.word : Int) 1) false false false w' false (nn.val != 0)) w₂
    rw [hA1, (t11 rfl).1]
    exact cas_w hE h7 hwr Hlow hcont hK hk hx hs hp h0 h4 (hw1.trans hw2) true (by rw [t6]; rfl) (move_fast rfl rfl rfl) (by omega)
   | true =>
    refine GoesW.sub (F := 200) (by omega) (run0 (cA_ok B) (aA2 E.Mu fr cs J' ws it (σl.mx.word : Int) (bits .or .i32 (σl.mx.word : Int) 1) w' (nn.val != 0)) hw1.j (by rw [hx1]; exact ha) fun σ₂ w₂ hw2 => ?_)
    show GW E k Stop _ σ₂ (gA E.Mu fr cs J' ws it (σl.mx.word : Int) (bits .or .i32 (σl.mx.word : Int) 1) false false false w' true (nn.val != 0)) w₂
    rw [hA2, t12]
    exact cas_w hE h7 hwr Hlow hcont hK hk hx hs hp h0 h4 (hw1.trans hw2) false (by rw [t6]; rfl) (move_reg rfl (.inr rfl)) (by omega)
  | true =>
   have B : Bits (σl.mx.word : Int) (IntKind.i32.wrap (bits .or .i32 (σl.mx.word : Int) 1 + 8)) true w' s (nn.val != 0) := ⟨t1, t2, t3, t4, (t13 rfl).2, t5⟩
   cases s with
   | true =>
    refine GoesW.sub (F := 200) (by omega) (run0 (cA_ok B) (aA3 E.Mu fr cs J' ws it (σl.mx.word : Int) _ w' (nn.val != 0)) hw1.j (by rw [hx1]; exact ha) fun σ₂ w₂ hw2 => ?_)
    show GW E k Stop _ σ₂ (gA E.Mu fr cs J' ws it (σl.mx.word : Int) _ false false true w' true (nn.val != 0)) w₂
    rw [hA3, t12]
    exact cas_w hE h7 hwr Hlow hcont hK hk hx hs hp h0 h4 (hw1.trans hw2) false (by rw [t6]; rfl) (move_reg rfl (.inl rfl)) (by omega)
   | false =>
    refine GoesW.sub (F := 200) (by omega) (run0 (cA_ok B) (aB E.Mu fr cs J' ws it (σl.mx.word : Int) _ false false w' (nn.val != 0)) hw1.j (by rw [hx1]; exact ha) fun σ₂ w₂ hw2 => ?_)
    show GW E k Stop _ σ₂ (gA E.Mu fr cs J' ws it (σl.mx.word : Int) _ false false true w' false (nn.val != 0)) w₂
    have hx2 : σ₂.wk k = x0.on .fr 1 := by rw [hw2.wk, hx1]; rfl
    have hk2 : k < σ₂.num := Nat.lt_of_lt_of_le hk1 hw2.num
    have hrN := aN4 E.Mu fr cs J' ws it (σl.mx.word : Int) (IntKind.i32.wrap (bits .or .i32 (σl.mx.word : Int) 1 + 8)) w' (nn.val != 0)
    refine GoesW.sub (F := 1) (by omega) (stop_spin hE (bB E.Mu fr cs J' ws it (σl.mx.word : Int) _ false false w' (nn.val != 0)) x76 (Run.last (aB E.Mu fr cs J' ws it (σl.mx.word : Int) _ false false w' (nn.val != 0))) (fun b => by
     cases b
     · exact hrN.head
     · cases w'
       · cases (nn.val != 0)
         · exact (aB2 E.Mu fr cs J' ws it (σl.mx.word : Int) _).head
         · exact (aB1 E.Mu fr cs J' ws it (σl.mx.word : Int) _).head
       · exact (aB3 E.Mu fr cs J' ws it (σl.mx.word : Int) _ (nn.val != 0)).head) hw2.j hk2 (by rw [hx2]; exact ha) fun σ₃ w₃ b hw3 hb4 => ?_)
    have hx3 : σ₃.wk k = x0.on .fr 1 := by rw [hw3.wk, hx2]
    have hk3 : k < σ₃.num := Nat.lt_of_lt_of_le hk2 hw3.num
    have hw13 := (hw1.trans hw2).trans hw3
    cases b with
    | false =>
     refine GoesW.sub (F := 200) (by omega) (run0 (cA_ok B) hrN hw3.j (by rw [hx3]; exact ha) fun σ₄ w₄ hw4 => ?_)
     show GW E k Stop _ σ₄ (gN E.Mu fr cs J' ws it (σl.mx.word : Int) _ false false true w' false (nn.val != 0)) w₄
     rw [hN4, (t13 rfl).1]
     exact cas_w hE h7 hwr Hlow hcont hK hk hx hs hp h0 h4 (hw13.trans hw4) false (by rw [t6]; rfl) (move_reg rfl (.inl rfl)) (by omega)
    | true =>
     have hit4 : it < 4 := hb4 rfl
     obtain ⟨q', rfl⟩ : ∃ q', q = q' + 1 := ⟨q - 1, by omega⟩
     have Hq := ihq q' (by omega)
     have spin : ∀ {g : Goroutine} {J2 : Int -> Nat -> Value} {aw' : Bool}, isCall 77 g = some [] -> isRun g = true -> Spun E.Mu fr cs g J2 ws it false aw' -> ∀ {σ₅ : Gh} {w₅ : World} {n' : Nat}, Keep E k σ w σ₅ w₅ -> k < σ₅.num -> σ₅.wk k = x0.on (bif aw' then .aw else .fr) 1 -> pot E.n σ₅ <= p -> m + (5 * p + q' + 1) * 2000 + 200 <= n' -> GW E k Stop n' σ₅ g w₅ :=
      fun hg hr S _ _ _ hK5 hk5 hx5 hp5 hn' => spun_head hE h7 Hq hg hr S hK5 hk5 hx5 (by simp) hp5 h0 hit4 (by omega) hn'
     cases w' with
     | true =>
      have hrB := aB3 E.Mu fr cs J' ws it (σl.mx.word : Int) (IntKind.i32.wrap (bits .or .i32 (σl.mx.word : Int) 1 + 8)) (nn.val != 0)
      refine GoesW.sub (F := 200) (by omega) (run0 (cA_ok B) hrB hw3.j (by rw [hx3]; exact ha) fun σ₄ w₄ hw4 => ?_)
      have hw14 := hw13.trans hw4
      exact spin (bB3 E.Mu fr cs J' ws it (σl.mx.word : Int) _ (nn.val != 0)) (Run.last hrB) (s3 E.Mu fr cs J' ws it (σl.mx.word : Int) _ (nn.val != 0)) (hK.trans hw14.keep) (Nat.lt_of_lt_of_le hk hw14.num) (by rw [hw14.wk, hx]) (Nat.le_trans hw14.pot.1 hp) (by omega)
     | false =>
      cases hnz : (nn.val != 0) with
      | false =>
       rw [hnz] at B
       have hrB := aB2 E.Mu fr cs J' ws it (σl.mx.word : Int) (IntKind.i32.wrap (bits .or .i32 (σl.mx.word : Int) 1 + 8))
       refine GoesW.sub (F := 200) (by omega) (run0 (cA_ok B) hrB hw3.j (by rw [hx3]; exact ha) fun σ₄ w₄ hw4 => ?_)
       have hw14 := hw13.trans hw4
       exact spin (bB2 E.Mu fr cs J' ws it (σl.mx.word : Int) _) (Run.last hrB) (s2 E.Mu fr cs J' ws it (σl.mx.word : Int) _) (hK.trans hw14.keep) (Nat.lt_of_lt_of_le hk hw14.num) (by rw [hw14.wk, hx]) (Nat.le_trans hw14.pot.1 hp) (by omega)
      | true =>
       rw [hnz] at B
       have hrB := aB1 E.Mu fr cs J' ws it (σl.mx.word : Int) (IntKind.i32.wrap (bits .or .i32 (σl.mx.word : Int) 1 + 8))
       refine GoesW.sub (F := 200) (by omega) (run0 (cA_ok B) hrB hw3.j (by rw [hx3]; exact ha) fun σ₄ w₄ hw4 => ?_)
       have hw14 := hw13.trans hw4
       have hx4 : σ₄.wk k = x0.on .fr 1 := by rw [hw14.wk, hx]; rfl
       have hK4 := hK.trans hw14.keep
       have hk4 : k < σ₄.num := Nat.lt_of_lt_of_le hk hw14.num
       refine GoesW.sub (F := 1) (by omega) (stop_cas hE (bB1 E.Mu fr cs J' ws it (σl.mx.word : Int) _) x61 (Run.last hrB) (fun r => (aBr E.Mu fr cs J' ws it (σl.mx.word : Int) _ r).head) hw4.j hk4 (by rw [hx4]; exact h7) (by rw [hx4]; rfl) (fun σ₅ w₅ hw5 hk5 he => ?_) (fun σ₅ w₅ hw5 hne => ?_))
       · have hx5 : σ₅.wk k = x0.on .fr 1 := by rw [hw5.wk, hx4]
         have M5 := hw5.j.inv.mx
         obtain ⟨i1, i2, i3, i4⟩ := word_inj (show σ₅.mx.word = σl.mx.word by omega) ⟨M5.l, M5.w, M5.s⟩ ⟨Ml.l, Ml.w, Ml.s⟩
         have hL : σ₅.mx.L = 1 := by rw [i1, PT.L]; rfl
         have hW : σ₅.mx.W = 0 := by rw [i2, PT.W]; rfl
         have hS : σ₅.mx.S = 0 := by rw [i3, PT.S]; rfl
         obtain ⟨M', hpt⟩ := M5.spin (x := (σ₅.wk k).on .aw 1) hk5 (by rw [hx5]; rfl) rfl hW hS hL
         refine ⟨.aw, { σ₅.mx with W := 1 }, ?_, rfl, M', ?_, (by rw [hx5]; show Lk.fr ≠ Lk.out; decide), by omega, fun h _ => by omega, fun w6 hK6 hpot => ?_⟩
         · rw [t18 rfl]
           unfold Mx.word
           show ((σ₅.mx.L + 2 * 1 + 4 * σ₅.mx.S + 8 * σ₅.mx.N : Nat) : Int) = ((σl.mx.L + 2 * σl.mx.W + 4 * σl.mx.S + 8 * σl.mx.N : Nat) : Int) + 2
           omega
         · rw [hx5]
           exact ⟨fun _ => pend_on hwr (by decide), fun _ => by show Pend (x0.on _ 1); exact pend_on hwr (by decide)⟩
         have hK6' := hK4.trans hK6
         have hx6 : (σ₅.lk k .aw 1 { σ₅.mx with W := 1 }).wk k = x0.on .aw 1 := by rw [Gh.lk_wk, hx5]; rfl
         have hw15 := hw14.trans hw5
         refine GoesW.sub (F := 200) (by omega) (run0 cW_ok (aBr E.Mu fr cs J' ws it (σl.mx.word : Int) _ true) hK6.j (by rw [hx6]; exact ha) fun σ₇ w₇ hw7 => ?_)
         have hk6 : k < (σ₅.lk k .aw 1 { σ₅.mx with W := 1 }).num := hk5
         have hp15 := hw15.pot.1
         have hp7 := hw7.pot.1
         exact spin (bBr E.Mu fr cs J' ws it (σl.mx.word : Int) _ true) (Run.last (aBr E.Mu fr cs J' ws it (σl.mx.word : Int) _ true)) (s1 E.Mu fr cs J' ws it (σl.mx.word : Int) _) (hK6'.trans hw7.keep) (Nat.lt_of_lt_of_le hk6 hw7.num) (by rw [hw7.wk, hx6]; rfl) (by omega) (by omega)
       · refine GoesW.sub (F := 200) (by omega) (run0 cW_ok (aBr E.Mu fr cs J' ws it (σl.mx.word : Int) _ false) hw5.j (by rw [hw5.wk, hx4]; exact ha) fun σ₇ w₇ hw7 => ?_)
         have hw17 := (hw14.trans hw5).trans hw7
         exact spin (bBr E.Mu fr cs J' ws it (σl.mx.word : Int) _ false) (Run.last (aBr E.Mu fr cs J' ws it (σl.mx.word : Int) _ false)) (s1' E.Mu fr cs J' ws it (σl.mx.word : Int) _) (hK.trans hw17.keep) (Nat.lt_of_lt_of_le hk hw17.num) (by rw [hw17.wk, hx]) (Nat.le_trans hw17.pot.1 hp) (by omega)
 | true =>
  obtain ⟨hW, hS⟩ := Ml.aw1 hk (by rw [hx]; rfl)
  have hw0 : w' = true := by have := PT.W; cases w' <;> simp_all
  have hs0 : s = false := by have := PT.S; cases s <;> simp_all
  subst hw0 hs0
  cases l with
  | false =>
   have B : Bits (σl.mx.word : Int) (bits .or .i32 (σl.mx.word : Int) 1) false true false (nn.val != 0) := ⟨t1, t2, t3, t4, (t11 rfl).2, t5⟩
   refine GoesW.sub (F := 200) (by omega) (run0 (cA_ok B) (aA5 E.Mu fr cs J' ws it (σl.mx.word : Int) sv (nn.val != 0)) hw1.j (by rw [hx1]; exact ha) fun σ₂ w₂ hw2 => ?_)
   show GW E k Stop _ σ₂ (gA E.Mu fr cs J' ws it (σl.mx.word : Int) (bits .or .i32 (σl.mx.word : Int) 1) sv true false true false (nn.val != 0)) w₂
   cases sv with
   | false =>
    rw [hA5, t14 rfl rfl]
    exact cas_w hE h7 hwr Hlow hcont hK hk hx hs hp h0 h4 (hw1.trans hw2) true (by rw [t6]; rfl) (move_aw rfl rfl) (by omega)
   | true =>
    rw [hA6, t14 rfl rfl]
    exact cas_w hE h7 hwr Hlow hcont hK hk hx hs hp h0 h4 (hw1.trans hw2) true (by rw [t6]; rfl) (move_aw rfl rfl) (by omega)
  | true =>
   have aw_end : ∀ (y : Int) (new : Int) (sn : Nat) (J3 : Nat -> Value), Bits (σl.mx.word : Int) y true true false (nn.val != 0) -> Run Try.prog (cA (σl.mx.word : Int) y true true false (nn.val != 0)) 200 (fin (gA E.Mu fr cs J' ws it (σl.mx.word : Int) y sv true true true false (nn.val != 0)) (.bool false)) ->
     gN E.Mu fr cs J' ws it (σl.mx.word : Int) y sv true true true false (nn.val != 0) = CLS E.Mu fr cs J3 ws it (σl.mx.word : Int) new sv true -> sn <= 1 -> new = (σl.mx.word : Int) + 6 + 4 * (sn : Int) -> GW E k Stop n σ₁ (HLS E.Mu fr cs J' ws it (σl.mx.word : Int) sv true) w₁ := fun y new sn J3 B hrN hNN hsn hnew => by
    refine GoesW.sub (F := 200) (by omega) (run0 (cA_ok B) (aB E.Mu fr cs J' ws it (σl.mx.word : Int) y sv true true (nn.val != 0)) hw1.j (by rw [hx1]; exact ha) fun σ₂ w₂ hw2 => ?_)
    have hx2 : σ₂.wk k = x0.on .aw 1 := by rw [hw2.wk, hx1]; rfl
    have hk2 : k < σ₂.num := Nat.lt_of_lt_of_le hk1 hw2.num
    have hrB := aB5 E.Mu fr cs J' ws it (σl.mx.word : Int) y sv (nn.val != 0)
    refine GoesW.sub (F := 1) (by omega) (stop_spin hE (bB E.Mu fr cs J' ws it (σl.mx.word : Int) y sv true true (nn.val != 0)) x76 (Run.last (aB E.Mu fr cs J' ws it (σl.mx.word : Int) y sv true true (nn.val != 0))) (fun b => by
     cases b
     · exact hrN.head
     · exact hrB.head) hw2.j hk2 (by rw [hx2]; exact ha) fun σ₃ w₃ b hw3 hb4 => ?_)
    have hx3 : σ₃.wk k = x0.on .aw 1 := by rw [hw3.wk, hx2]
    have hw13 := (hw1.trans hw2).trans hw3
    cases b with
    | false =>
     refine GoesW.sub (F := 200) (by omega) (run0 (cA_ok B) hrN hw3.j (by rw [hx3]; exact ha) fun σ₄ w₄ hw4 => ?_)
     show GW E k Stop _ σ₄ (gN E.Mu fr cs J' ws it (σl.mx.word : Int) y sv true true true false (nn.val != 0)) w₄
     rw [hNN, hnew]
     exact cas_w hE h7 hwr Hlow hcont hK hk hx hs hp h0 h4 (hw13.trans hw4) false (by rw [t6]; rfl) (move_awr rfl rfl sn hsn) (by omega)
    | true =>
     have hit4 : it < 4 := hb4 rfl
     obtain ⟨q', rfl⟩ : ∃ q', q = q' + 1 := ⟨q - 1, by omega⟩
     refine GoesW.sub (F := 200) (by omega) (run0 (cA_ok B) hrB hw3.j (by rw [hx3]; exact ha) fun σ₄ w₄ hw4 => ?_)
     have hw14 := hw13.trans hw4
     exact spun_head hE h7 (ihq q' (by omega)) (bB5 E.Mu fr cs J' ws it (σl.mx.word : Int) y sv (nn.val != 0)) (Run.last hrB) (s5 E.Mu fr cs J' ws it (σl.mx.word : Int) y sv (nn.val != 0)) (hK.trans hw14.keep) (Nat.lt_of_lt_of_le hk hw14.num) (by rw [hw14.wk, hx]) hs (Nat.le_trans hw14.pot.1 hp) h0 hit4 (by omega) (by omega)
   cases sv with
   | false => exact aw_end _ _ 0 _ ⟨t1, t2, t3, t4, (t13 rfl).2, t5⟩ (aN7 E.Mu fr cs J' ws it (σl.mx.word : Int) (nn.val != 0)) (hN7 E.Mu fr cs J' ws it (σl.mx.word : Int) (nn.val != 0)) (by omega) (by rw [t15 rfl rfl]; omega)
   | true => exact aw_end _ _ 1 _ ⟨t1, t2, t3, t4, t16 rfl rfl, t5⟩ (aN8 E.Mu fr cs J' ws it (σl.mx.word : Int) (nn.val != 0)) (hN8 E.Mu fr cs J' ws it (σl.mx.word : Int) (nn.val != 0)) (by omega) (by rw [t17 rfl rfl rfl]; omega)
theorem quick_w (hE : E.Ok) (h7 : x0.fin = 7) {n : Nat} (hn : m + 400 <= n) (hJ : J E σ w) (hk : k < σ.num) (hx : σ.wk k = x0.on .hd 1) (hcont : ∀ σ' w', Keep E k σ w σ' w' -> σ'.wk k = x0.on .hd 0 -> GW E k Stop m σ' (back fr cs (.tuple #[])) w') :
  GW E k Stop n σ (gF0 E.Mu fr cs) w := by
 have ha : x0.fin ≠ 1 := by omega
 refine GoesW.sub (F := 1) (by omega) (stop_mark hE (fun w => step_mark .enable (by simp) (bF0 E.Mu fr cs) x51) .en (Run.last (aF0 E.Mu fr cs)) (aF1 E.Mu fr cs).head hJ hk (by rw [hx]; exact h7) (d := 0) (by rw [hx]; rfl) fun σ₁ w₁ hw1 hK1 => ?_)
 have hx1 : (σ₁.lk k (σ₁.wk k).lk 0 σ₁.mx).wk k = x0.on .hd 0 := by rw [Gh.lk_wk, hw1.wk, hx]; rfl
 generalize σ₁.lk k (σ₁.wk k).lk 0 σ₁.mx = τ1 at *
 refine GoesW.sub (F := 60) (by omega) (run0 cW_ok (aF1 E.Mu fr cs) hK1.j (by rw [hx1]; exact ha) fun σ₂ w₂ hw2 => ?_)
 have hx2 : σ₂.wk k = x0.on .hd 0 := by rw [hw2.wk, hx1]
 have hK2 := hK1.trans hw2.keep
 refine GoesW.sub (F := 1) (by omega) (stop_conv (v := fun σ => .int .i32 (σ.mx.word : Int)) hE (vF1 E.Mu fr cs) (fun hJ => hJ.cellMu) (Run.last (aF1 E.Mu fr cs)) (aF1c E.Mu fr cs).head hw2.j (Nat.lt_of_lt_of_le hk hK2.num) (by rw [hx2]; exact ha) fun σ₃ w₃ hw3 => ?_)
 have hx3 : σ₃.wk k = x0.on .hd 0 := by rw [hw3.wk, hx2]
 have hK3 := hK2.trans hw3.keep
 refine GoesW.sub (F := 60) (by omega) (run0 cW_ok (aF1c E.Mu fr cs) hw3.j (by rw [hx3]; exact ha) fun σ₄ w₄ hw4 => ?_)
 have hx4 : σ₄.wk k = x0.on .hd 0 := by rw [hw4.wk, hx3]
 have hK4 := hK3.trans hw4.keep
 refine GoesW.sub (F := 1) (by omega) (stop_mark hE (fun w => step_markAt .acquire (by simp) (bF1 E.Mu fr cs) x52) (.acq _ (.inl rfl)) (Run.last (aF1c E.Mu fr cs)) (aF2 E.Mu fr cs).head hw4.j (Nat.lt_of_lt_of_le hk hK4.num) (by rw [hx4]; exact h7) (d := 0) (by rw [hx4]; rfl) fun σ₅ w₅ hw5 hK5 => ?_)
 have hx5 : (σ₅.lk k (σ₅.wk k).lk 0 σ₅.mx).wk k = x0.on .hd 0 := by rw [Gh.lk_wk, hw5.wk, hx4]; rfl
 have hK5 := hK4.trans hK5
 generalize σ₅.lk k (σ₅.wk k).lk 0 σ₅.mx = τ5 at *
 refine GoesW.sub (F := 60) (by omega) (run0 (cL_ok 32) (aF2 E.Mu fr cs) hK5.j (by rw [hx5]; exact ha) fun σ₆ w₆ hw6 => ?_)
 have hx6 : σ₆.wk k = x0.on .hd 0 := by rw [hw6.wk, hx5]
 have hK6 := hK5.trans hw6.keep
 refine GoesW.sub (F := 1) (by omega) (goW (rF2 E.Mu fr cs) (Nat.lt_of_lt_of_le hk hK6.num) fun σ₇ w₇ hw7 hk7 => ⟨_, w₇, #[], σ₇, aF3 E.Mu fr cs w₇, Turn.idle hE hw7.j (by rw [hw7.wk, hx6]; exact ha) .refl hw7.j.four, by rfl, no_wake (Nat.le_refl _) rfl, ?_⟩)
 exact (hcont σ₇ w₇ (hK6.trans hw7.keep) (by rw [hw7.wk, hx6])).mono (by omega)
theorem lock_w (hE : E.Ok) (h7 : x0.fin = 7) (hwr : x0.wrote = false) {p n : Nat} (hn : m + (5 * p + 5) * 2000 + 1000 <= n) (hJ : J E σ w) (hk : k < σ.num) (hx : σ.wk k = x0.on .fr 0) (hp : pot E.n σ <= p) (hcont : ∀ σ' w', Keep E k σ w σ' w' -> σ'.wk k = x0.on .hd 0 -> GW E k Stop m σ' (back fr cs (.tuple #[])) w') :
  GW E k Stop n σ (enter Try.prog 32 #[pMu E.Mu] (fr :: cs)) w := by
 have ha : x0.fin ≠ 1 := by omega
 refine GoesW.sub (F := 60) (by omega) (run0 cW_ok (a0 E.Mu fr cs) hJ (by rw [hx]; exact ha) fun σ₁ w₁ hw1 => ?_)
 have hx1 : σ₁.wk k = x0.on .fr 0 := by rw [hw1.wk, hx]
 have hk1 : k < σ₁.num := Nat.lt_of_lt_of_le hk hw1.num
 refine GoesW.sub (F := 1) (by omega) (stop_mark hE (fun w => step_mark .disable (by simp) (b0 E.Mu fr cs) x49) .dis (Run.last (a0 E.Mu fr cs)) (a1 E.Mu fr cs).head hw1.j hk1 (by rw [hx1]; exact h7) (d := 1) (by rw [hx1]; rfl) fun σ₂ w₂ hw2 hK2 => ?_)
 have hx2 : (σ₂.lk k (σ₂.wk k).lk 1 σ₂.mx).wk k = x0.on .fr 1 := by rw [Gh.lk_wk, hw2.wk, hx1]; rfl
 have hK2 := hw1.keep.trans hK2
 generalize σ₂.lk k (σ₂.wk k).lk 1 σ₂.mx = τ2 at *
 refine GoesW.sub (F := 60) (by omega) (run0 cW_ok (a1 E.Mu fr cs) hK2.j (by rw [hx2]; exact ha) fun σ₃ w₃ hw3 => ?_)
 have hx3 : σ₃.wk k = x0.on .fr 1 := by rw [hw3.wk, hx2]
 have hK3 := hK2.trans hw3.keep
 have hk3 : k < σ₃.num := Nat.lt_of_lt_of_le hk hK3.num
 refine GoesW.sub (F := 1) (by omega) (stop_cas hE (b1 E.Mu fr cs) x61 (Run.last (a1 E.Mu fr cs)) (fun r => by cases r; exact (a2 E.Mu fr cs).head; exact (aF0 E.Mu fr cs).head) hw3.j hk3 (by rw [hx3]; exact h7) (by rw [hx3]; rfl) (fun σ₄ w₄ hw4 hk4 he => ?_) (fun σ₄ w₄ hw4 hne => ?_))
 · have hx4 : σ₄.wk k = x0.on .fr 1 := by rw [hw4.wk, hx3]
   have M4 := hw4.j.inv.mx
   have hz : σ₄.mx.L = 0 /\ σ₄.mx.W = 0 /\ σ₄.mx.S = 0 /\ σ₄.mx.N = 0 := by
    unfold Mx.word at he
    omega
   obtain ⟨z1, z2, z3, z4⟩ := hz
   obtain ⟨M', hpt⟩ := M4.fast (x := (σ₄.wk k).on .hd 1) hk4 (by rw [hx4]; rfl) rfl z1 z3
   refine ⟨.hd, { σ₄.mx with L := 1 }, ?_, rfl, M', ?_, (by rw [hx4]; show Lk.fr ≠ Lk.out; decide), by omega, fun h _ => by omega, fun w5 hK5 hpot => ?_⟩
   · unfold Mx.word
     show ((1 + 2 * σ₄.mx.W + 4 * σ₄.mx.S + 8 * σ₄.mx.N : Nat) : Int) = 1
     omega
   · rw [hx4]
     exact ⟨fun _ => pend_on hwr (by decide), fun _ => by show Pend (x0.on _ 1); exact pend_on hwr (by decide)⟩
   have hx5 : (σ₄.lk k .hd 1 { σ₄.mx with L := 1 }).wk k = x0.on .hd 1 := by rw [Gh.lk_wk, hx4]; rfl
   have hK5 := hK3.trans hK5
   have hk5 : k < (σ₄.lk k .hd 1 { σ₄.mx with L := 1 }).num := hk4
   generalize σ₄.lk k .hd 1 { σ₄.mx with L := 1 } = τ5 at *
   refine GoesW.sub (F := 60) (by omega) (run0 cW_ok (aF0 E.Mu fr cs) hK5.j (by rw [hx5]; exact ha) fun σ₆ w₆ hw6 => ?_)
   have hK6 := hK5.trans hw6.keep
   exact quick_w hE h7 (m := m) (by omega) hw6.j (Nat.lt_of_lt_of_le hk5 hw6.num) (by rw [hw6.wk, hx5]) fun σ' w' hK' hx' => hcont σ' w' (hK6.trans hK') hx'
 · have hx4 : σ₄.wk k = x0.on .fr 1 := by rw [hw4.wk, hx3]
   have hK4 := hK3.trans hw4.keep
   refine GoesW.sub (F := 60) (by omega) (run0 cW_ok (a2 E.Mu fr cs) hw4.j (by rw [hx4]; exact ha) fun σ₅ w₅ hw5 => ?_)
   have hK5 := hK4.trans hw5.keep
   exact load_head (J' := fun v => junk (gL3 E.Mu fr cs v)) (aw := false) (sv := false) (ws := 0) (it := 0) hE h7 (head_ok hE h7 hwr hcont p 4) (b2 E.Mu fr cs) (n2 E.Mu fr cs) (Run.last (a2 E.Mu fr cs)) (a3 E.Mu fr cs) (h3 E.Mu fr cs) hK5 (Nat.lt_of_lt_of_le hk hK5.num) (by rw [hw5.wk, hx4]; rfl) (by simp) (Nat.le_trans hK5.pot hp) (by omega) (by omega) (by omega) (by omega)
end
noncomputable def xHeadU (g : Goroutine) : Bool := match g.frame.todo with
 | .code (.block 1 _) :: .inLoop _ :: _ => g.frame.fn == 65
 | _ => false
noncomputable def vUn (x : Int) (nz s : Bool) (f : FuncId) (d : Nat) : Option (Value × Value) :=
 bif f == 43 && d == 16 then some (.bool nz, .bool (x != 0)) else
 bif f == 65 && d == 8 then some (.bool false, .bool (bits .and .i32 (IntKind.i32.wrap (x + 1)) 1 == 0)) else
 bif f == 65 && d == 12 then some (.bool (!s), .bool (bits .and .i32 x 4 == 0)) else none
noncomputable def cU (x : Int) (nz s : Bool) : Par := { V := vUn x nz s, X := xHeadU }
theorem cU_ok {x : Int} {nz s : Bool} (h1 : (x != 0) = nz) (h2 : (bits .and .i32 (IntKind.i32.wrap (x + 1)) 1 == 0) = false) (h3 : (bits .and .i32 x 4 == 0) = !s) : (cU x nz s).Ok := fun f d y hy => by
 have hy : vUn x nz s f d = some y := hy
 unfold vUn at hy
 cases e1 : (f == 43 && d == 16) with
 | true => rw [e1, cond_true] at hy; cases hy; simp only [h1]
 | false =>
  rw [e1, cond_false] at hy
  cases e2 : (f == 65 && d == 8) with
  | true => rw [e2, cond_true] at hy; cases hy; simp only [h2]
  | false =>
   rw [e2, cond_false] at hy
   cases e3 : (f == 65 && d == 12) with
   | true => rw [e3, cond_true] at hy; cases hy; simp only [h3]
   | false => rw [e3, cond_false] at hy; cases hy
noncomputable def vUl (old : Int) (b1 b2 : Bool) (f : FuncId) (d : Nat) : Option (Value × Value) :=
 bif f == 65 && d == 16 then some (.bool b1, .bool (old.fdiv 8 == 0)) else
 bif f == 65 && d == 20 then some (.bool b2, .bool (bits .and .i32 old 7 != 0)) else none
noncomputable def cUl (old : Int) (b1 b2 : Bool) : Par := { V := vUl old b1 b2 }
theorem cUl_ok {old : Int} {b1 b2 : Bool} (h1 : (old.fdiv 8 == 0) = b1) (h2 : (bits .and .i32 old 7 != 0) = b2) : (cUl old b1 b2).Ok := fun f d y hy => by
 have hy : vUl old b1 b2 f d = some y := hy
 unfold vUl at hy
 cases e1 : (f == 65 && d == 16) with
 | true => rw [e1, cond_true] at hy; cases hy; simp only [h1]
 | false =>
  rw [e1, cond_false] at hy
  cases e2 : (f == 65 && d == 20) with
  | true => rw [e2, cond_true] at hy; cases hy; simp only [h2]
  | false => rw [e2, cond_false] at hy; cases hy
noncomputable def cHU : Par := { X := xHeadU }
theorem cHU_ok : cHU.Ok := fun f d x h => by cases h
variable (Mu : Nat) (fr : Frame) (cs : List Frame)
abbrev pSem : Value := .pointer (some ⟨Mu, 1, none⟩)
def retF (fr : Frame) : Frame := { fr with mode := .returning }
noncomputable def enterD (f : FuncId) (args : Array Value) : Goroutine := { frame := Frame.enter Try.prog f args .deferred, callers := retF fr :: cs, status := .running, dying := none }
def backD : Goroutine := { frame := retF fr, callers := cs, status := .running, dying := none }
noncomputable def gU0 : Goroutine := endR Try.prog cW 60 (enterD fr cs 33 #[pMu Mu])
theorem aU0 : Run Try.prog cW 60 (enterD fr cs 33 #[pMu Mu]) := ⟨fun w => by kernel_rfl, by kernel_rfl⟩
theorem bU0 : isLoad Try.prog (gU0 Mu fr cs) = some (false, ⟨Mu, 0, none⟩) := by kernel_rfl
theorem nU0 : norace Try.prog (gU0 Mu fr cs).frame.fn = true := by kernel_rfl
section
variable (v : Int)
noncomputable def gU1 : Goroutine := endR Try.prog cW 60 (fin (gU0 Mu fr cs) (.int .i32 v))
theorem aU1 : Run Try.prog cW 60 (fin (gU0 Mu fr cs) (.int .i32 v)) := ⟨fun w => by kernel_rfl, by kernel_rfl⟩
theorem vU1 : isConv Try.prog (gU1 Mu fr cs v) = some ⟨Mu, 0, none⟩ := by kernel_rfl
noncomputable def gU2 : Goroutine := endR Try.prog cW 60 (fin (gU1 Mu fr cs v) (pMu Mu))
theorem aU2 : Run Try.prog cW 60 (fin (gU1 Mu fr cs v) (pMu Mu)) := ⟨fun w => by kernel_rfl, by kernel_rfl⟩
theorem bU2 : isCall 63 (gU2 Mu fr cs v) = some [pMu Mu] := by kernel_rfl
noncomputable def gU3 : Goroutine := endR Try.prog cW 60 (fin (gU2 Mu fr cs v) (.tuple #[]))
theorem aU3 : Run Try.prog cW 60 (fin (gU2 Mu fr cs v) (.tuple #[])) := ⟨fun w => by kernel_rfl, by kernel_rfl⟩
theorem bU3 : isCall 49 (gU3 Mu fr cs v) = some [] := by kernel_rfl
noncomputable def gU4 : Goroutine := endR Try.prog cW 60 (fin (gU3 Mu fr cs v) (.tuple #[]))
theorem aU4 : Run Try.prog cW 60 (fin (gU3 Mu fr cs v) (.tuple #[])) := ⟨fun w => by kernel_rfl, by kernel_rfl⟩
theorem bU4 : isCall 64 (gU4 Mu fr cs v) = some [pMu Mu, .int .i32 (-1)] := by kernel_rfl
noncomputable def gU5 (x : Int) (nz s : Bool) : Goroutine := endR Try.prog (cU x nz s) 100 (fin (gU4 Mu fr cs v) (.int .i32 x))
theorem aU5 (x : Int) (s : Bool) : Run Try.prog (cU x false s) 100 (fin (gU4 Mu fr cs v) (.int .i32 x)) := ⟨fun w => by kernel_rfl, by kernel_rfl⟩
end
noncomputable def gUE : Goroutine := gU5 Mu fr cs 0 0 false false
def tmUE (J : Nat -> Value) : Array Value := ((List.range 21).map fun i => J i).toArray
noncomputable def UES (J : Nat -> Value) : Goroutine := { gUE Mu fr cs with frame := { (gUE Mu fr cs).frame with tmps := tmUE J } }
noncomputable def gUL : Goroutine := gU5 Mu fr cs 0 0 true false
def tmUL (J : Nat -> Value) (old : Int) : Array Value := ((List.range 43).map fun i => if i = 0 then pMu Mu else if i = 4 then .int .i32 old else J i).toArray
def tmU43 (J : Nat -> Value) : Array Value := ((List.range 21).map fun i => J i).toArray
noncomputable def ULS (J K : Nat -> Value) (old : Int) : Goroutine := { gUL Mu fr cs with frame := { (gUL Mu fr cs).frame with tmps := tmUL Mu J old }, callers := (match (gUL Mu fr cs).callers with | c :: r => { c with tmps := tmU43 K } :: r | [] => []) }
noncomputable def junkC (g : Goroutine) (i : Nat) : Value := match g.callers with
 | c :: _ => c.tmps.getD i undef
 | [] => undef
section
variable (v x : Int)
theorem hU5 (s : Bool) : gU5 Mu fr cs v x false s = UES Mu fr cs (junk (gU5 Mu fr cs v x false s)) := by kernel_rfl
theorem aU6 : Run Try.prog (cU x true false) 100 (fin (gU4 Mu fr cs v) (.int .i32 x)) := ⟨fun w => by kernel_rfl, by kernel_rfl⟩
theorem hU6 : gU5 Mu fr cs v x true false = ULS Mu fr cs (junk (gU5 Mu fr cs v x true false)) (junkC (gU5 Mu fr cs v x true false)) x := by kernel_rfl
theorem aU7 : Run Try.prog (cU x true true) 100 (fin (gU4 Mu fr cs v) (.int .i32 x)) := ⟨fun w => by kernel_rfl, by kernel_rfl⟩
theorem bU7 : isCall 82 (gU5 Mu fr cs v x true true) = some [pSem Mu, .bool true, .int .i64 2] := by kernel_rfl
noncomputable def gU8 : Goroutine := endR Try.prog cW 60 (fin (gU5 Mu fr cs v x true true) (.tuple #[]))
theorem aU8 : Run Try.prog cW 60 (fin (gU5 Mu fr cs v x true true) (.tuple #[])) := ⟨fun w => by kernel_rfl, by kernel_rfl⟩
theorem hU8 : gU8 Mu fr cs v x = UES Mu fr cs (junk (gU8 Mu fr cs v x)) := by kernel_rfl
end
section
variable (J K : Nat -> Value) (old : Int)
theorem bUE : isCall 51 (UES Mu fr cs J) = some [] := by kernel_rfl
theorem rUE : isRun (UES Mu fr cs J) = true := by kernel_rfl
noncomputable def gUX : Goroutine := endR Try.prog (cL 33) 60 (fin (UES Mu fr cs J) (.tuple #[]))
theorem aUX : Run Try.prog (cL 33) 60 (fin (UES Mu fr cs J) (.tuple #[])) := ⟨fun w => by kernel_rfl, by kernel_rfl⟩
theorem eUX (w : World) : stepG Try.prog false (gUX Mu fr cs J) w = .go (backD fr cs) w #[] := by kernel_rfl
theorem rUX : isRun (gUX Mu fr cs J) = true := by kernel_rfl
noncomputable def gV (b1 b2 : Bool) : Goroutine := endR Try.prog (cUl old b1 b2) 60 (ULS Mu fr cs J K old)
theorem aV (b1 b2 : Bool) : Run Try.prog (cUl old b1 b2) 60 (ULS Mu fr cs J K old) := by cases b1 <;> cases b2 <;> exact ⟨fun w => by kernel_rfl, by kernel_rfl⟩
theorem hV1 (b2 : Bool) : gV Mu fr cs J K old true b2 = UES Mu fr cs (junk (gV Mu fr cs J K old true b2)) := by kernel_rfl
theorem hV2 : gV Mu fr cs J K old false true = UES Mu fr cs (junk (gV Mu fr cs J K old false true)) := by kernel_rfl
theorem bV3 : isCall 61 (gV Mu fr cs J K old false false) = some [pMu Mu, .int .i32 old, .int .i32 (bits .or .i32 (IntKind.i32.wrap (old - 8)) 2)] := by kernel_rfl
noncomputable def gV4 : Goroutine := endR Try.prog cW 60 (fin (gV Mu fr cs J K old false false) (.bool true))
theorem aV4 : Run Try.prog cW 60 (fin (gV Mu fr cs J K old false false) (.bool true)) := ⟨fun w => by kernel_rfl, by kernel_rfl⟩
theorem bV4 : isCall 82 (gV4 Mu fr cs J K old) = some [pSem Mu, .bool false, .int .i64 2] := by kernel_rfl
noncomputable def gV5 : Goroutine := endR Try.prog cW 60 (fin (gV4 Mu fr cs J K old) (.tuple #[]))
theorem aV5 : Run Try.prog cW 60 (fin (gV4 Mu fr cs J K old) (.tuple #[])) := ⟨fun w => by kernel_rfl, by kernel_rfl⟩
theorem hV5 : gV5 Mu fr cs J K old = UES Mu fr cs (junk (gV5 Mu fr cs J K old)) := by kernel_rfl
noncomputable def gV6 : Goroutine := endR Try.prog cW 60 (fin (gV Mu fr cs J K old false false) (.bool false))
theorem aV6 : Run Try.prog cW 60 (fin (gV Mu fr cs J K old false false) (.bool false)) := ⟨fun w => by kernel_rfl, by kernel_rfl⟩
theorem bV6 : isLoad Try.prog (gV6 Mu fr cs J K old) = some (false, ⟨Mu, 0, none⟩) := by kernel_rfl
theorem nV6 : norace Try.prog (gV6 Mu fr cs J K old).frame.fn = true := by kernel_rfl
noncomputable def gV7 (v : Int) : Goroutine := endR Try.prog cHU 60 (fin (gV6 Mu fr cs J K old) (.int .i32 v))
theorem aV7 (v : Int) : Run Try.prog cHU 60 (fin (gV6 Mu fr cs J K old) (.int .i32 v)) := ⟨fun w => by kernel_rfl, by kernel_rfl⟩
theorem hV7 (v : Int) : gV7 Mu fr cs J K old v = ULS Mu fr cs (junk (gV7 Mu fr cs J K old v)) (junkC (gV7 Mu fr cs J K old v)) v := by kernel_rfl
end
end Wp
end Go.Proofs.Ytmdkmlgafnjhmaa
namespace Go.Proofs.Ytmdkmlgafnjhmaa
open Go.Conc
open Go.ConcN (sumTo upd sumTo_upd upd_ne upd_same sumTo_congr RelBy)
namespace Wp
set_option maxRecDepth 100000
theorem word_tabU : ∀ l w s : Bool, ∀ n : Fin 9, let o : Int := ((l.toNat + 2 * w.toNat + 4 * s.toNat + 8 * n.val : Nat) : Int)
  (bits .and .i32 o 7 != 0) = (l || w || s) /\ (o.fdiv 8 == 0) = (n.val == 0) /\ (bits .and .i32 o 4 == 0) = !s /\
  (l = true -> (bits .and .i32 (IntKind.i32.wrap (o - 1 + 1)) 1 == 0) = false /\ (bits .and .i32 (o - 1) 4 == 0) = !s /\ (o - 1 != 0) = (w || s || n.val != 0)) /\
  (l = false -> w = false -> s = false -> n.val ≠ 0 -> bits .or .i32 (IntKind.i32.wrap (o - 8)) 2 = o - 6) /\ IntKind.i32.wrap (o + -1) = o - 1 := by
 decide +kernel
section
variable {E : Env} {k : Nat} {Stop : Gh -> Goroutine -> World -> Prop} {fr : Frame} {cs : List Frame} {x0 : Wk} {m : Nat} {σ : Gh} {w : World}
theorem npend_on (hw : x0.wrote = true) {l : Lk} {d : Nat} (hl : l = .out \/ l = .uc \/ l = .us \/ l = .hd) : ¬ Pend (x0.on l d) := by
 unfold Pend
 rcases hl with rfl | rfl | rfl | rfl <;> simp_all [Wk.on]
theorem npend_iff (hw : x0.wrote = true) {l l' : Lk} {d d' : Nat} (hl : l = .out \/ l = .uc \/ l = .us \/ l = .hd) (hl' : l' = .out \/ l' = .uc \/ l' = .us \/ l' = .hd) : Pend ((x0.on l d).on l' d') ↔ Pend (x0.on l d) :=
 ⟨fun h => absurd h (npend_on hw hl'), fun h => absurd h (npend_on hw hl)⟩
theorem mayWake_ext {P : Program} {f : FuncId} {g : Goroutine} {vs : List Value} {e : Array Value -> Sem Value} (h : isCall f g = some vs) (hf : ExtF P f e) : mayWake P g = true := by
 obtain ⟨b, a, ops, i, rest, kk, cs, o, xs, ats, h1, h2, h3, h4, h5, h6, h7, _⟩ := of_isCall h
 obtain ⟨fn, f1, f2, f3, f4, f5⟩ := hf.out
 rw [h1]
 have hev : ∀ (b : Frame) (a : Act) t, (b.at a t).eval (.func f) = .func (.func f) #[] #[] := fun _ _ _ => rfl
 unfold mayWake
 show (match ((ops[i]?).map (·.op) : Option Op) with
  | some (.call { callee := .value f, .. }) => match (b.at a (.inRegion ops (i :: rest) :: kk)).eval f with
   | .func (.func f) .. => !(P.funcs[f]?).any (·.body.isSome)
   | _ => true
  | some (.call _) => true
  | _ => false) = true
 rw [h2]
 simp only [Option.map_some, h5, hev, f1, Option.any_some]
 cases hb : fn.body <;> simp_all
theorem uend_w (hE : E.Ok) (h7 : x0.fin = 7) {n : Nat} (hn : m + 100 <= n) {J' : Nat -> Value} (hJ : J E σ w) (hk : k < σ.num) (hx : σ.wk k = x0.on .out 1) (hcont : ∀ σ' w', Keep E k σ w σ' w' -> σ'.wk k = x0.on .out 0 -> GW E k Stop m σ' (backD fr cs) w') :
  GW E k Stop n σ (UES E.Mu fr cs J') w := by
 have ha : x0.fin ≠ 1 := by omega
 refine GoesW.sub (F := 1) (by omega) (stop_mark hE (fun w => step_mark .enable (by simp) (bUE E.Mu fr cs J') x51) .en (rUE E.Mu fr cs J') (aUX E.Mu fr cs J').head hJ hk (by rw [hx]; exact h7) (d := 0) (by rw [hx]; rfl) fun σ₁ w₁ hw1 hK1 => ?_)
 have hx1 : (σ₁.lk k (σ₁.wk k).lk 0 σ₁.mx).wk k = x0.on .out 0 := by rw [Gh.lk_wk, hw1.wk, hx]; rfl
 generalize σ₁.lk k (σ₁.wk k).lk 0 σ₁.mx = τ1 at *
 refine GoesW.sub (F := 60) (by omega) (run0 (cL_ok 33) (aUX E.Mu fr cs J') hK1.j (by rw [hx1]; exact ha) fun σ₂ w₂ hw2 => ?_)
 have hx2 : σ₂.wk k = x0.on .out 0 := by rw [hw2.wk, hx1]
 have hK2 := hK1.trans hw2.keep
 refine GoesW.sub (F := 1) (by omega) (goW (rUX E.Mu fr cs J') (Nat.lt_of_lt_of_le hk hK2.num) fun σ₇ w₇ hw7 hk7 => ⟨_, w₇, #[], σ₇, eUX E.Mu fr cs J' w₇, Turn.idle hE hw7.j (by rw [hw7.wk, hx2]; exact ha) .refl hw7.j.four, by rfl, no_wake (Nat.le_refl _) rfl, ?_⟩)
 exact (hcont σ₇ w₇ (hK2.trans hw7.keep) (by rw [hw7.wk, hx2])).mono (by omega)
theorem up_w (hE : E.Ok) (h7 : x0.fin = 7) (hwr : x0.wrote = true) {n : Nat} (hn : 1 <= n) {g : Goroutine} {vs : List Value} (hg : isCall 82 g = some (pMs E.Mu :: vs)) (hr : isRun g = true) (hr' : isRun (fin g (.tuple #[])) = true) (hJ : J E σ w) (hk : k < σ.num) (hx : σ.wk k = x0.on .us 1)
  (hcont : ∀ σ' w', Keep E k σ w σ' w' -> k < σ'.num -> σ'.wk k = x0.on .out 1 -> GW E k Stop (n - 1) σ' (fin g (.tuple #[])) w') : GW E k Stop n σ g w := by
 refine GoesW.sub (F := 1) hn (goW hr hk fun σ₁ w₁ hw1 hk1 => ?_)
 have hx1 : σ₁.wk k = x0.on .us 1 := by rw [hw1.wk, hx]
 have h71 : (σ₁.wk k).fin = 7 := by rw [hx1]; exact h7
 obtain ⟨M', hpt⟩ := hw1.j.inv.mx.up (x := (σ₁.wk k).on .out 1) hk1 (by rw [hx1]; rfl) rfl
 have hsm : σ₁.mx.sm <= 1 := by
  have M := hw1.j.inv.mx
  have := M.l; have := M.w; have := M.s
  by_cases hs : σ₁.mx.S = 0
  · have := M.n0 hs; omega
  · have := M.n1 (by omega); omega
 have hst := step_up (P := Try.prog) (main := false) hg x82 (show w₁.cell? (msA E) = _ from hw1.j.cellMs) hw1.j.thawMs
 have ew : IntKind.u32.wrap ((σ₁.mx.sm : Int) + 1) = ((σ₁.mx.sm + 1 : Nat) : Int) := by
  simp [IntKind.wrap, IntKind.bits, IntKind.signed]
  omega
 rw [ew] at hst
 have hmw : ({ σ₁.mx with sm := σ₁.mx.sm + 1 } : Mx).word = σ₁.mx.word := rfl
 have hms : ({ σ₁.mx with sm := σ₁.mx.sm + 1 } : Mx).sm = σ₁.mx.sm + 1 := rfl
 have hSN : ({ σ₁.mx with sm := σ₁.mx.sm + 1 } : Mx).S = σ₁.mx.S /\ ({ σ₁.mx with sm := σ₁.mx.sm + 1 } : Mx).N = σ₁.mx.N := ⟨rfl, rfl⟩
 generalize hmm : ({ σ₁.mx with sm := σ₁.mx.sm + 1 } : Mx) = m' at *
 have TT : Turn E k σ₁ w₁ (semEvents (msA E)) (σ₁.lk k .out 1 m') (w₁.setCell (msA E) (.int .u32 ((σ₁.mx.sm + 1 : Nat) : Int))) :=
  Turn.lock hE hw1.j hk1 h71 M' (by rw [hx1]; exact npend_iff hwr (by simp) (by simp)) (.inr rfl) ⟨by omega, .inl hmw⟩
   (fun j hj hjn hd hs => ⟨by rw [hSN.1]; exact hs, by rw [hSN.2]; exact Nat.le_refl _⟩) (.set (.inl rfl)) (hw1.j.four.setMs hE hms hmw) (sem_book rfl) (by rw [hx1]; rfl)
 refine ⟨_, _, _, _, hst, TT, hr', ⟨fun _ _ => mayWake_ext hg x82, fun a b => ?_⟩, ?_⟩
 · have : (σ₁.lk k .out 1 m').ws = σ₁.ws := rfl
   omega
 · exact hcont _ _ (hw1.keep.trans (TT.keep hw1.j)) hk1 (by rw [Gh.lk_wk, hx1]; rfl)
def ulk (m : Mx) : Lk := if m.L = 0 /\ m.W = 0 /\ m.S = 0 /\ 0 < m.N then .uc else .out
theorem budU {m p n : Nat} (hn : m + (p + 1 + 1) * 1000 <= n) : m + (p + 1) * 1000 <= n - 60 - 1 - 60 - 1 - 60 /\ 60 <= n - 60 - 1 - 60 - 1 := by
 simp only [Nat.sub_sub]
 omega
theorem uloop_w (hE : E.Ok) (h7 : x0.fin = 7) (hwr : x0.wrote = true) (hcont : ∀ σ' w', Keep E k σ w σ' w' -> σ'.wk k = x0.on .out 0 -> GW E k Stop m σ' (backD fr cs) w') : ∀ (p n : Nat) (J' K' : Nat -> Value) (σl : Gh) (wl : World) (σ₁ : Gh) (w₁ : World), m + (p + 1) * 1000 <= n -> Keep E k σ w σl wl -> k < σl.num -> σl.wk k = x0.on (ulk σl.mx) 1 -> pot E.n σl <= p -> RW E k σl wl σ₁ w₁ ->
  GW E k Stop n σ₁ (ULS E.Mu fr cs J' K' (σl.mx.word : Int)) w₁ := by
 intro p
 induction p with
 | zero =>
  intro n J' K' σl wl σ₁ w₁ hn hK hk hx hp hw1
  have ha : x0.fin ≠ 1 := by omega
  have Ml := hK.j.inv.mx
  obtain ⟨l, w', s, nn, PT⟩ := parts_of Ml hK.j.inv.num
  have T := word_tabU l w' s nn
  rw [<- PT.word] at T
  obtain ⟨t1, t2, _⟩ := T
  have hx1 : σ₁.wk k = x0.on (ulk σl.mx) 1 := by rw [hw1.wk, hx]
  have hk1 : k < σ₁.num := Nat.lt_of_lt_of_le hk hw1.num
  have hout : ulk σl.mx = .out := by
   unfold ulk
   split
   · next h =>
     exfalso
     have hlk : (σl.wk k).lk = .uc := by rw [hx]; unfold ulk; rw [if_pos h]; rfl
     have h2 : wt (σl.wk k).lk <= pots σl.num σl.wk := Go.ConcN.le_sumTo (f := fun k => wt (σl.wk k).lk) hk
     rw [hlk] at h2
     have h3 : wt .uc = 2 := rfl
     unfold pot at hp
     omega
   · rfl
  rw [hout] at hx1
  have hcond : (nn.val == 0) = true \/ (l || w' || s) = true := by
   have := PT.L; have := PT.W; have := PT.S; have := PT.N
   unfold ulk at hout
   split at hout
   · cases hout
   · next h =>
     cases l <;> cases w' <;> cases s <;> simp_all
  refine GoesW.sub (F := 60) (by omega) (run0 (cUl_ok t2 t1) (aV E.Mu fr cs J' K' (σl.mx.word : Int) _ _) hw1.j (by rw [hx1]; exact ha) fun σ₂ w₂ hw2 => ?_)
  show GW E k Stop _ σ₂ (gV E.Mu fr cs J' K' (σl.mx.word : Int) (nn.val == 0) (l || w' || s)) w₂
  have hw12 := hw1.trans hw2
  have fin_ : ∀ J2, GW E k Stop (n - 60) σ₂ (UES E.Mu fr cs J2) w₂ := fun J2 => uend_w hE h7 (m := m) (by omega) hw2.j (Nat.lt_of_lt_of_le hk hw12.num) (by rw [hw2.wk, hx1]) fun σ' w' hK' hx' => hcont σ' w' ((hK.trans hw12.keep).trans hK') hx'
  cases h0 : (nn.val == 0) with
  | true => rw [hV1]; exact fin_ _
  | false =>
   rw [hcond.resolve_left (by rw [h0]; decide), hV2]; exact fin_ _
 | succ p ih =>
  intro n J' K' σl wl σ₁ w₁ hn hK hk hx hp hw1
  obtain ⟨hbud, hbud2⟩ := budU hn
  have ha : x0.fin ≠ 1 := by omega
  have Ml := hK.j.inv.mx
  obtain ⟨l, w', s, nn, PT⟩ := parts_of Ml hK.j.inv.num
  have T := word_tabU l w' s nn
  rw [<- PT.word] at T
  obtain ⟨t1, t2, _, _, t5, _⟩ := T
  have hx1 : σ₁.wk k = x0.on (ulk σl.mx) 1 := by rw [hw1.wk, hx]
  have hk1 : k < σ₁.num := Nat.lt_of_lt_of_le hk hw1.num
  refine GoesW.sub (F := 60) (by omega) (run0 (cUl_ok t2 t1) (aV E.Mu fr cs J' K' (σl.mx.word : Int) _ _) hw1.j (by rw [hx1]; exact ha) fun σ₂ w₂ hw2 => ?_)
  show GW E k Stop _ σ₂ (gV E.Mu fr cs J' K' (σl.mx.word : Int) (nn.val == 0) (l || w' || s)) w₂
  have hw12 := hw1.trans hw2
  have hx2 : σ₂.wk k = x0.on (ulk σl.mx) 1 := by rw [hw2.wk, hx1]
  have hk2 : k < σ₂.num := Nat.lt_of_lt_of_le hk hw12.num
  have fin_ : ulk σl.mx = .out -> ∀ J2, GW E k Stop (n - 60) σ₂ (UES E.Mu fr cs J2) w₂ := fun ho J2 => uend_w hE h7 (m := m) (by omega) hw2.j hk2 (by rw [hx2, ho]) fun σ' w' hK' hx' => hcont σ' w' ((hK.trans hw12.keep).trans hK') hx'
  have hL := PT.L; have hW := PT.W; have hS := PT.S; have hN := PT.N
  cases h0 : (nn.val == 0) with
  | true =>
   rw [hV1]
   exact fin_ (by unfold ulk; rw [if_neg]; simp at h0; omega) _
  | false =>
   cases hb : (l || w' || s) with
   | true =>
    rw [hV2]
    refine fin_ ?_ _
    unfold ulk
    rw [if_neg]
    rintro ⟨a1, a2, a3, a4⟩
    cases l <;> cases w' <;> cases s <;> simp_all
   | false =>
    have hl0 : l = false := by cases l <;> simp_all
    have hw0 : w' = false := by cases w' <;> simp_all
    have hs0 : s = false := by cases s <;> simp_all
    subst hl0 hw0 hs0
    have hnn : nn.val ≠ 0 := by simpa using h0
    have huc : ulk σl.mx = .uc := by unfold ulk; rw [if_pos ⟨hL, hW, hS, by omega⟩]
    rw [huc] at hx2 hx1 hx
    have hrV := aV E.Mu fr cs J' K' (σl.mx.word : Int) false false
    refine GoesW.sub (F := 1) (by omega) (stop_cas hE (bV3 E.Mu fr cs J' K' (σl.mx.word : Int)) x61 (Run.last hrV) (fun r => by cases r; exact (aV6 E.Mu fr cs J' K' _).head; exact (aV4 E.Mu fr cs J' K' _).head) hw2.j hk2 (by rw [hx2]; exact h7) (by rw [hx2]; rfl) (fun σ₃ w₃ hw3 hk3 he => ?_) (fun σ₃ w₃ hw3 hne => ?_))
    · have hx3 : σ₃.wk k = x0.on .uc 1 := by rw [hw3.wk, hx2]
      have M3 := hw3.j.inv.mx
      obtain ⟨i1, i2, i3, i4⟩ := word_inj (show σ₃.mx.word = σl.mx.word by omega) ⟨M3.l, M3.w, M3.s⟩ ⟨Ml.l, Ml.w, Ml.s⟩
      have z1 : σ₃.mx.L = 0 := by rw [i1, hL]; rfl
      have z2 : σ₃.mx.W = 0 := by rw [i2, hW]; rfl
      have z3 : σ₃.mx.S = 0 := by rw [i3, hS]; rfl
      obtain ⟨M', hpt⟩ := M3.token (x := (σ₃.wk k).on .us 1) hk3 (by rw [hx3]; rfl) rfl z3 z1 z2 (by omega)
      refine ⟨.us, { σ₃.mx with W := 1, N := σ₃.mx.N - 1 }, ?_, rfl, M', (by rw [hx3]; exact npend_iff hwr (by simp) (by simp)), (by rw [hx3]; show Lk.uc ≠ Lk.out; decide), by omega, fun h _ => by omega, fun w5 hK5 hpot => ?_⟩
      · rw [t5 rfl rfl rfl hnn]
        unfold Mx.word
        show ((σ₃.mx.L + 2 * 1 + 4 * σ₃.mx.S + 8 * (σ₃.mx.N - 1) : Nat) : Int) = ((σl.mx.L + 2 * σl.mx.W + 4 * σl.mx.S + 8 * σl.mx.N : Nat) : Int) - 6
        omega
      have hx5 : (σ₃.lk k .us 1 { σ₃.mx with W := 1, N := σ₃.mx.N - 1 }).wk k = x0.on .us 1 := by rw [Gh.lk_wk, hx3]; rfl
      have hK5 := (hK.trans hw12.keep).trans hK5
      have hk5 : k < (σ₃.lk k .us 1 { σ₃.mx with W := 1, N := σ₃.mx.N - 1 }).num := hk3
      generalize σ₃.lk k .us 1 { σ₃.mx with W := 1, N := σ₃.mx.N - 1 } = τ5 at *
      refine GoesW.sub (F := 60) (by omega) (run0 cW_ok (aV4 E.Mu fr cs J' K' _) hK5.j (by rw [hx5]; exact ha) fun σ₆ w₆ hw6 => ?_)
      have hK6 := hK5.trans hw6.keep
      refine up_w hE h7 hwr (by omega) (bV4 E.Mu fr cs J' K' _) (Run.last (aV4 E.Mu fr cs J' K' _)) (aV5 E.Mu fr cs J' K' _).head hw6.j (Nat.lt_of_lt_of_le hk5 hw6.num) (by rw [hw6.wk, hx5]) fun σ₇ w₇ hK7 hk7 hx7 => ?_
      refine GoesW.sub (F := 60) (by omega) (run0 cW_ok (aV5 E.Mu fr cs J' K' _) hK7.j (by rw [hx7]; exact ha) fun σ₈ w₈ hw8 => ?_)
      show GW E k Stop _ σ₈ (gV5 E.Mu fr cs J' K' (σl.mx.word : Int)) w₈
      rw [hV5]
      exact uend_w hE h7 (m := m) (by omega) hw8.j (Nat.lt_of_lt_of_le hk7 hw8.num) (by rw [hw8.wk, hx7]) fun σ' w' hK' hx' => hcont σ' w' (((hK6.trans hK7).trans hw8.keep).trans hK') hx'
    · have hw13 := hw12.trans hw3
      have hlt : pot E.n σ₃ < pot E.n σl := hw13.pot.2.resolve_left (by omega)
      refine GoesW.sub (F := 60) (by omega) (run0 cW_ok (aV6 E.Mu fr cs J' K' _) hw3.j (by rw [hw3.wk, hx2]; exact ha) fun σ₄ w₄ hw4 => ?_)
      have hx4 : σ₄.wk k = x0.on .uc 1 := by rw [hw4.wk, hw3.wk, hx2]
      have hw14 := hw13.trans hw4
      have hK4 := hK.trans hw14.keep
      have hk4 : k < σ₄.num := Nat.lt_of_lt_of_le hk hw14.num
      refine GoesW.sub (F := 1) (by omega) (goW (Run.last (aV6 E.Mu fr cs J' K' _)) hk4 fun σ₅ w₅ hw5 hk5 => ?_)
      have hx5 : σ₅.wk k = x0.on .uc 1 := by rw [hw5.wk, hx4]
      have h75 : (σ₅.wk k).fin = 7 := by rw [hx5]; exact h7
      have hlt5 : pot E.n σ₅ <= p := by have := hw4.pot.1; have := hw5.pot.1; omega
      have hK5 := hK4.trans hw5.keep
      have M5 := hw5.j.inv.mx
      have hstep : stepG Try.prog false (gV6 E.Mu fr cs J' K' (σl.mx.word : Int)) w₅ = .go (fin (gV6 E.Mu fr cs J' K' (σl.mx.word : Int)) (.int .i32 (σ₅.mx.word : Int))) w₅ #[] := by
       rw [step_load (bV6 E.Mu fr cs J' K' (σl.mx.word : Int)) hw5.j.cellMu, nV6]; rfl
      have ends : ∀ τ : Gh, Keep E k σ₅ w₅ τ w₅ -> k < τ.num -> τ.wk k = x0.on (ulk τ.mx) 1 -> τ.mx = σ₅.mx -> pot E.n τ <= p -> GW E k Stop (n - 60 - 1 - 60 - 1) τ (fin (gV6 E.Mu fr cs J' K' (σl.mx.word : Int)) (.int .i32 (σ₅.mx.word : Int))) w₅ := fun τ hKτ hkτ hxτ hmx hpτ => by
       refine GoesW.sub (F := 60) hbud2 (run0 cHU_ok (aV7 E.Mu fr cs J' K' _ _) hKτ.j (by rw [hxτ]; exact ha) fun σ₆ w₆ hw6 => ?_)
       show GW E k Stop _ σ₆ (gV7 E.Mu fr cs J' K' (σl.mx.word : Int) (σ₅.mx.word : Int)) w₆
       rw [hV7]
       generalize junk (gV7 E.Mu fr cs J' K' (σl.mx.word : Int) (σ₅.mx.word : Int)) = A
       generalize junkC (gV7 E.Mu fr cs J' K' (σl.mx.word : Int) (σ₅.mx.word : Int)) = B
       rw [<- hmx]
       exact ih (n - 60 - 1 - 60 - 1 - 60) A B τ w₅ σ₆ w₆ hbud (hK5.trans hKτ) hkτ hxτ hpτ hw6
      clear hbud hbud2
      by_cases hu : σ₅.mx.L = 0 /\ σ₅.mx.W = 0 /\ σ₅.mx.S = 0 /\ 0 < σ₅.mx.N
      · exact ⟨_, w₅, #[], σ₅, hstep, Turn.idle hE hw5.j (by rw [h75]; decide) .refl hw5.j.four, (aV7 E.Mu fr cs J' K' _ _).head, no_wake (Nat.le_refl _) rfl, ends σ₅ (Keep.refl hw5.j) hk5 (by rw [hx5]; unfold ulk; rw [if_pos hu]) rfl hlt5⟩
      · obtain ⟨M', hpt⟩ := M5.drop (x := (σ₅.wk k).on .out 1) hk5 (by rw [hx5]; rfl) rfl (by have := M5.l; have := M5.w; have := M5.s; omega)
        have TT : Turn E k σ₅ w₅ #[] (σ₅.lk k .out 1 σ₅.mx) w₅ := Turn.lock hE hw5.j hk5 h75 M' (by rw [hx5]; exact npend_iff hwr (by simp) (by simp)) (.inr rfl) ⟨by omega, .inl rfl⟩ (fun _ _ _ _ h => ⟨h, Nat.le_refl _⟩) .refl ⟨hw5.j.mu, hw5.j.nx, hw5.j.wg, hw5.j.o⟩ (fun e he => by simp at he) (by rw [hx5]; rfl)
        exact ⟨_, w₅, #[], _, hstep, TT, (aV7 E.Mu fr cs J' K' _ _).head, no_wake (Nat.le_refl _) rfl, ends _ (TT.keep hw5.j) hk5 (by rw [Gh.lk_wk, hx5, show ulk (σ₅.lk k .out 1 σ₅.mx).mx = .out from if_neg hu]; rfl) rfl (Nat.le_trans TT.pot.1 hlt5)⟩
theorem unlock_w (hE : E.Ok) (h7 : x0.fin = 7) (hwr : x0.wrote = true) {p n : Nat} (hn : m + (p + 1) * 1000 + 2000 <= n) (hJ : J E σ w) (hk : k < σ.num) (hx : σ.wk k = x0.on .hd 0) (hp : pot E.n σ <= p) (hcont : ∀ σ' w', Keep E k σ w σ' w' -> σ'.wk k = x0.on .out 0 -> pot E.n σ' + 1 <= pot E.n σ -> GW E k Stop m σ' (backD fr cs) w') :
  GW E k Stop n σ (enterD fr cs 33 #[pMu E.Mu]) w := by
 have ha : x0.fin ≠ 1 := by omega
 refine GoesW.sub (F := 60) (by omega) (run0 cW_ok (aU0 E.Mu fr cs) hJ (by rw [hx]; exact ha) fun σ₁ w₁ hw1 => ?_)
 have hk1 : k < σ₁.num := Nat.lt_of_lt_of_le hk hw1.num
 refine GoesW.sub (F := 1) (by omega) (stop_load (g := gU0 E.Mu fr cs) (fnr := nU0 E.Mu fr cs) hE (bU0 E.Mu fr cs) (Run.last (aU0 E.Mu fr cs)) (fun v => (aU1 E.Mu fr cs v).head) hw1.j hk1 (by rw [hw1.wk, hx]; exact ha) fun σ₂ w₂ hw2 => ?_)
 generalize (σ₂.mx.word : Int) = v
 have hw12 := hw1.trans hw2
 refine GoesW.sub (F := 60) (by omega) (run0 cW_ok (aU1 E.Mu fr cs v) hw2.j (by rw [hw12.wk, hx]; exact ha) fun σ₃ w₃ hw3 => ?_)
 have hw13 := hw12.trans hw3
 refine GoesW.sub (F := 1) (by simp only [Nat.sub_sub]; omega) (stop_conv (v := fun σ => .int .i32 (σ.mx.word : Int)) hE (vU1 E.Mu fr cs v) (fun hJ => hJ.cellMu) (Run.last (aU1 E.Mu fr cs v)) (aU2 E.Mu fr cs v).head hw3.j (Nat.lt_of_lt_of_le hk hw13.num) (by rw [hw13.wk, hx]; exact ha) fun σ₄ w₄ hw4 => ?_)
 have hw14 := hw13.trans hw4
 refine GoesW.sub (F := 60) (by simp only [Nat.sub_sub]; omega) (run0 cW_ok (aU2 E.Mu fr cs v) hw4.j (by rw [hw14.wk, hx]; exact ha) fun σ₅ w₅ hw5 => ?_)
 have hw15 := hw14.trans hw5
 have hx5 : σ₅.wk k = x0.on .hd 0 := by rw [hw15.wk, hx]
 have hk5 : k < σ₅.num := Nat.lt_of_lt_of_le hk hw15.num
 refine GoesW.sub (F := 1) (by simp only [Nat.sub_sub]; omega) (stop_mark hE (fun w => step_markAt .releaseMerge (by simp) (bU2 E.Mu fr cs v) x63) (.rm _ (.inl rfl)) (Run.last (aU2 E.Mu fr cs v)) (aU3 E.Mu fr cs v).head hw5.j hk5 (by rw [hx5]; exact h7) (d := 0) (by rw [hx5]; rfl) fun σ₆ w₆ hw6 hK6 => ?_)
 have hx6 : (σ₆.lk k (σ₆.wk k).lk 0 σ₆.mx).wk k = x0.on .hd 0 := by rw [Gh.lk_wk, hw6.wk, hx5]; rfl
 have hK6 := hw15.keep.trans hK6
 have hk6 : k < (σ₆.lk k (σ₆.wk k).lk 0 σ₆.mx).num := Nat.lt_of_lt_of_le hk hK6.num
 generalize σ₆.lk k (σ₆.wk k).lk 0 σ₆.mx = τ6 at *
 refine GoesW.sub (F := 60) (by simp only [Nat.sub_sub]; omega) (run0 cW_ok (aU3 E.Mu fr cs v) hK6.j (by rw [hx6]; exact ha) fun σ₇ w₇ hw7 => ?_)
 have hx7 : σ₇.wk k = x0.on .hd 0 := by rw [hw7.wk, hx6]
 have hK7 := hK6.trans hw7.keep
 have hk7 : k < σ₇.num := Nat.lt_of_lt_of_le hk6 hw7.num
 refine GoesW.sub (F := 1) (by simp only [Nat.sub_sub]; omega) (stop_mark hE (fun w => step_mark .disable (by simp) (bU3 E.Mu fr cs v) x49) .dis (Run.last (aU3 E.Mu fr cs v)) (aU4 E.Mu fr cs v).head hw7.j hk7 (by rw [hx7]; exact h7) (d := 1) (by rw [hx7]; rfl) fun σ₈ w₈ hw8 hK8 => ?_)
 have hx8 : (σ₈.lk k (σ₈.wk k).lk 1 σ₈.mx).wk k = x0.on .hd 1 := by rw [Gh.lk_wk, hw8.wk, hx7]; rfl
 have hK8 := hK7.trans hK8
 have hk8 : k < (σ₈.lk k (σ₈.wk k).lk 1 σ₈.mx).num := Nat.lt_of_lt_of_le hk hK8.num
 generalize σ₈.lk k (σ₈.wk k).lk 1 σ₈.mx = τ8 at *
 refine GoesW.sub (F := 60) (by simp only [Nat.sub_sub]; omega) (run0 cW_ok (aU4 E.Mu fr cs v) hK8.j (by rw [hx8]; exact ha) fun σ₉ w₉ hw9 => ?_)
 have hx9 : σ₉.wk k = x0.on .hd 1 := by rw [hw9.wk, hx8]
 have hK9 := hK8.trans hw9.keep
 have hk9 : k < σ₉.num := Nat.lt_of_lt_of_le hk8 hw9.num
 obtain ⟨n', hn', hnn⟩ : ∃ n', n' + 1 = n - 60 - 1 - 60 - 1 - 60 - 1 - 60 - 1 - 60 /\ m + (p + 1) * 1000 + 500 <= n' := ⟨n - 60 - 1 - 60 - 1 - 60 - 1 - 60 - 1 - 60 - 1, by simp only [Nat.sub_sub]; omega, by simp only [Nat.sub_sub]; omega⟩
 rw [<- hn']
 clear hn' hn
 refine goW (Run.last (aU4 E.Mu fr cs v)) hk9 fun σ w hw hk10 => ?_
 have hx10 : σ.wk k = x0.on .hd 1 := by rw [hw.wk, hx9]
 have h710 : (σ.wk k).fin = 7 := by rw [hx10]; exact h7
 have hlk : (σ.wk k).lk = .hd := by rw [hx10]; rfl
 have hK10 := hK9.trans hw.keep
 have M := hw.j.inv.mx
 have hL := M.hold1 hk10 hlk
 obtain ⟨l, w', s, nn, PT⟩ := parts_of M hw.j.inv.num
 have hl1 : l = true := by have := PT.L; cases l <;> simp_all
 subst hl1
 have T := word_tabU true w' s nn
 rw [<- PT.word] at T
 obtain ⟨_, _, _, t4, _, t6⟩ := T
 obtain ⟨u1, u2, u3⟩ := t4 rfl
 have hst := step_add (P := Try.prog) (main := false) (bU4 E.Mu fr cs v) x64 hw.j.cellMu hw.j.thawMu
 rw [t6] at hst
 have hW := PT.W; have hS := PT.S; have hN := PT.N
 have hm' : ({ σ.mx with L := 0 } : Mx).sm = σ.mx.sm := rfl
 have hmS : ({ σ.mx with L := 0 } : Mx).S = σ.mx.S /\ ({ σ.mx with L := 0 } : Mx).N = σ.mx.N /\ ({ σ.mx with L := 0 } : Mx).W = σ.mx.W /\ ({ σ.mx with L := 0 } : Mx).L = 0 := ⟨rfl, rfl, rfl, rfl⟩
 have hwd : (σ.mx.word : Int) - 1 = (({ σ.mx with L := 0 } : Mx).word : Int) := by
  unfold Mx.word
  show ((σ.mx.L + 2 * σ.mx.W + 4 * σ.mx.S + 8 * σ.mx.N : Nat) : Int) - 1 = ((0 + 2 * σ.mx.W + 4 * σ.mx.S + 8 * σ.mx.N : Nat) : Int)
  omega
 obtain ⟨l', hl', hMV, hpt⟩ : ∃ l', l' = (if σ.mx.S = 1 then Lk.us else if 0 < σ.mx.N /\ σ.mx.W = 0 then .uc else .out) /\ MInv σ.num (upd σ.wk k ((σ.wk k).on l' 1)) { σ.mx with L := 0 } /\ pots σ.num (upd σ.wk k ((σ.wk k).on l' 1)) + 1 <= pots σ.num σ.wk := by
  by_cases h1 : σ.mx.S = 1
  · obtain ⟨M', hpt⟩ := M.freeS (x := (σ.wk k).on .us 1) hk10 hlk rfl h1
    exact ⟨.us, by rw [if_pos h1], M', by omega⟩
  · have h0 : σ.mx.S = 0 := by have := M.s; omega
    by_cases h2 : 0 < σ.mx.N /\ σ.mx.W = 0
    · obtain ⟨M', hpt⟩ := M.freeU (x := (σ.wk k).on .uc 1) hk10 hlk rfl h0
      exact ⟨.uc, by rw [if_neg h1, if_pos h2], M', by omega⟩
    · obtain ⟨M', hpt⟩ := M.free (x := (σ.wk k).on .out 1) hk10 hlk rfl h0 (by have := M.w; omega)
      exact ⟨.out, by rw [if_neg h1, if_neg h2], M', by omega⟩
 rw [hwd] at hst u1 u2 u3
 generalize hmm : ({ σ.mx with L := 0 } : Mx) = m' at *
 have TT : Turn E k σ w #[⟨.cell (muA E), false, true⟩, ⟨.cell (muA E), true, true⟩] (σ.lk k l' 1 m') (w.setCell (muA E) (.int .i32 (m'.word : Int))) :=
  Turn.lock hE hw.j hk10 h710 hMV (by rw [hx10]; exact npend_iff hwr (by simp) (by rw [hl']; split; simp; split <;> simp)) (.inl (by rw [hlk]; decide)) ⟨by omega, .inr (by omega)⟩
   (fun j hj hjn hd hs => by
    have := (M.dd0 hjn hd).resolve_left (by omega)
    omega) (.set (.inl rfl)) (hw.j.four.setMu hE rfl hm')
   (fun e he => by
    simp only [List.mem_toArray, List.mem_cons, List.not_mem_nil, or_false] at he
    rcases he with rfl | rfl <;> exact .at_ _ _ (.inl rfl)) (by rw [hx10]; rfl)
 have hKT := hK10.trans (TT.keep hw.j)
 have hxT : (σ.lk k l' 1 m').wk k = x0.on l' 1 := by rw [Gh.lk_wk, hx10]; rfl
 have hkT : k < (σ.lk k l' 1 m').num := hk10
 have hmT : (σ.lk k l' 1 m').mx = m' := rfl
 have hpT : pot E.n (σ.lk k l' 1 m') + 1 <= p /\ ∀ q, pot E.n σ <= q -> pot E.n (σ.lk k l' 1 m') + 1 <= q := by
  have h1 : pot E.n (σ.lk k l' 1 m') + 1 <= pot E.n σ := by
   unfold pot
   show pots σ.num (upd σ.wk k ((σ.wk k).on l' 1)) + m'.sm + 5 * (E.n - σ.nx) + 1 <= _
   omega
  have := hK10.pot
  exact ⟨by omega, fun q hq => by omega⟩
 have hfin := hpT.2 _ hK10.pot
 have hpT := hpT.1
 refine ⟨_, _, _, _, hst, TT, ?_, no_wake (Nat.le_of_eq hm') rfl, ?_⟩
 · exact (aU5 E.Mu fr cs v (m'.word : Int) false).head
 clear TT hst
 show GW E k Stop n' (σ.lk k l' 1 m') _ (w.setCell (muA E) (.int .i32 (m'.word : Int)))
 generalize σ.lk k l' 1 m' = τ at *
 generalize w.setCell (muA E) (.int .i32 (m'.word : Int)) = wτ at *
 have cont' : ∀ σ' w', Keep E k τ wτ σ' w' -> σ'.wk k = x0.on .out 0 -> GW E k Stop m σ' (backD fr cs) w' := fun σ' w' hK' hx' => hcont σ' w' (hKT.trans hK') hx' (by have := hK'.pot; omega)
 have hok := cU_ok u3 u1 u2
 cases hz : (w' || s || nn.val != 0) with
 | false =>
  have hs0 : s = false := by cases s <;> simp_all
  have hw0 : w' = false := by cases w' <;> simp_all
  have hn0 : nn.val = 0 := by simpa [hs0, hw0] using hz
  have ho : l' = .out := by rw [hl', if_neg (by rw [hS, hs0]; decide), if_neg (by omega)]
  subst ho
  rw [hz] at hok
  refine GoesW.sub (F := 100) (by omega) (run0 hok (aU5 E.Mu fr cs v (m'.word : Int) s) hKT.j (by rw [hxT]; exact ha) fun σ₁ w₁ hw1 => ?_)
  show GW E k Stop _ σ₁ (gU5 E.Mu fr cs v (m'.word : Int) false s) w₁
  rw [hU5]
  exact uend_w hE h7 (m := m) (by omega) hw1.j (Nat.lt_of_lt_of_le hkT hw1.num) (by rw [hw1.wk, hxT]) fun σ' w' hK' hx' => cont' σ' w' (hw1.keep.trans hK') hx'
 | true =>
  rw [hz] at hok
  cases s with
  | true =>
   have ho : l' = .us := by rw [hl', if_pos (by rw [hS]; rfl)]
   subst ho
   refine GoesW.sub (F := 100) (by omega) (run0 hok (aU7 E.Mu fr cs v (m'.word : Int)) hKT.j (by rw [hxT]; exact ha) fun σ₁ w₁ hw1 => ?_)
   refine up_w hE h7 hwr (by omega) (bU7 E.Mu fr cs v (m'.word : Int)) (Run.last (aU7 E.Mu fr cs v (m'.word : Int))) (aU8 E.Mu fr cs v (m'.word : Int)).head hw1.j (Nat.lt_of_lt_of_le hkT hw1.num) (by rw [hw1.wk, hxT]) fun σ₂ w₂ hK2 hk2 hx2 => ?_
   refine GoesW.sub (F := 60) (by omega) (run0 cW_ok (aU8 E.Mu fr cs v (m'.word : Int)) hK2.j (by rw [hx2]; exact ha) fun σ₃ w₃ hw3 => ?_)
   show GW E k Stop _ σ₃ (gU8 E.Mu fr cs v (m'.word : Int)) w₃
   rw [hU8]
   exact uend_w hE h7 (m := m) (by omega) hw3.j (Nat.lt_of_lt_of_le hk2 hw3.num) (by rw [hw3.wk, hx2]) fun σ' w' hK' hx' => cont' σ' w' (((hw1.keep.trans hK2).trans hw3.keep).trans hK') hx'
  | false =>
   have ho : l' = ulk m' := by
    rw [hl', if_neg (by rw [hS]; decide)]
    unfold ulk
    obtain ⟨e1, e2, e3, e4⟩ := hmS
    by_cases h2 : 0 < σ.mx.N /\ σ.mx.W = 0
    · rw [if_pos h2, if_pos ⟨e4, by omega, by rw [e1, hS]; rfl, by omega⟩]
    · rw [if_neg h2, if_neg (by omega)]
   refine GoesW.sub (F := 100) (by omega) (run0 hok (aU6 E.Mu fr cs v (m'.word : Int)) hKT.j (by rw [hxT]; rw [ho]; exact ha) fun σ₁ w₁ hw1 => ?_)
   show GW E k Stop _ σ₁ (gU5 E.Mu fr cs v (m'.word : Int) true false) w₁
   rw [hU6]
   generalize junk (gU5 E.Mu fr cs v (m'.word : Int) true false) = A
   generalize junkC (gU5 E.Mu fr cs v (m'.word : Int) true false) = B
   rw [<- hmT]
   exact uloop_w hE h7 hwr cont' p _ A B τ wτ σ₁ w₁ (by omega) (Keep.refl hKT.j) hkT (by rw [hxT, ho, hmT]) (by omega) hw1
end
section
variable {E : Env} {P : Program} {k : Nat} {σ σ' : Gh} {w w' : World} {Stop : Gh -> Goroutine -> World -> Prop}
def Wk.paid (x : Wk) : Wk := { x with due := x.due - 1 }
def Gh.new (σ : Gh) (k : Nat) : Gh := { σ with wk := upd σ.wk k (σ.wk k).paid, hs := σ.hs + 1, pv := upd σ.pv σ.hs (k + 1) }
def World.more (w : World) (o : Obj) : World := { w with heap := w.heap.push o }
theorem more_old {w : World} {o : Obj} {b : Nat} (h : b < w.heap.size) : (World.more w o).heap[b]? = w.heap[b]? := by
 show (w.heap.push o)[b]? = _
 rw [Array.getElem?_push_lt h, Array.getElem?_eq_getElem h]
theorem more_new {w : World} {o : Obj} : (World.more w o).heap[w.heap.size]? = some o := Array.getElem?_push_size
theorem Inv.paid {n : Nat} (I : Inv n σ) (hk : k < σ.num) {hs : Nat} {pv : Nat -> Nat} (h : σ.hs <= hs) : Inv n { σ with wk := upd σ.wk k (σ.wk k).paid, hs := hs, pv := pv } := by
 have eqs : ∀ {β : Type} (φ : Wk -> β), φ (σ.wk k).paid = φ (σ.wk k) -> ∀ j, φ (upd σ.wk k (σ.wk k).paid j) = φ (σ.wk j) := fun φ h j => by
  by_cases e : j = k
  · subst e; rw [upd_same]; exact h
  · rw [upd_ne _ _ e]
 have e1 := eqs Wk.lk rfl
 have e2 := eqs Wk.fin rfl
 have e3 := eqs Wk.idx rfl
 have e4 := eqs Wk.low rfl
 have e5 := eqs Pend rfl
 refine ⟨I.mx.same rfl, ?_, fun j hj hl => ?_, fun i hi hx => ?_, fun i j hi hj p q e => ?_, fun j hj p => ?_, I.wfut, fun j hj => ?_, fun j hj hf => I.all j hj ((eqs Away rfl j).mp hf), fun j hj => by rw [e4 j]; exact Nat.le_trans (I.low j hj) h, I.num, ?_⟩
 · have a1 : c5 σ.num (upd σ.wk k (σ.wk k).paid) = c5 σ.num σ.wk := sum_same (φ := fun z => if 5 <= z.fin then 1 else 0) rfl
   have a2 : c43 σ.num (upd σ.wk k (σ.wk k).paid) = c43 σ.num σ.wk := sum_same (φ := fun z => if z.fin = 4 \/ z.fin = 3 then 1 else 0) rfl
   have a3 : c2 σ.num (upd σ.wk k (σ.wk k).paid) = c2 σ.num σ.wk := sum_same (φ := fun z => if z.fin = 2 then 1 else 0) rfl
   show WInv _ _ _ (c5 σ.num (upd σ.wk k _)) (c43 σ.num (upd σ.wk k _)) (c2 σ.num (upd σ.wk k _))
   rw [a1, a2, a3]; exact I.wgi
 · show (upd σ.wk k _ j).fin = 7 /\ (upd σ.wk k _ j).idx < n /\ (upd σ.wk k _ j).idx < σ.nx
   rw [e2 j, e3 j]
   exact I.lkf j hj (by rw [<- e1 j]; exact hl)
 · rcases I.done i hi hx with h | ⟨j, a, b, c⟩
   · exact .inl h
   · exact .inr ⟨j, a, (e5 j).symm ▸ b, (e3 j).trans c⟩
 · exact I.uniq i j hi hj ((e5 i) ▸ p) ((e5 j) ▸ q) (by rw [<- e3 i, <- e3 j]; exact e)
 · show σ.writ (upd σ.wk k _ j).idx = false
   rw [e3 j]; exact I.pw j hj ((e5 j) ▸ p)
 · show 1 <= (upd σ.wk k _ j).fin /\ (upd σ.wk k _ j).fin <= 7
   rw [e2 j]; exact I.fin j hj
 · have : cgone σ.num (upd σ.wk k (σ.wk k).paid) = cgone σ.num σ.wk := sum_same (φ := fun z => if z.gone = true then 1 else 0) rfl
   show σ.nx <= n + cgone σ.num (upd σ.wk k _)
   rw [this]; exact I.nb
theorem J.baseLe (hE : E.Ok) (h : J E σ w) : E.base <= σ.hs := Nat.le_trans hE.lm (Nat.le_of_lt (h.hotLt (.inl rfl)))
theorem J.new (hE : E.Ok) (hJ : J E σ w) (hk : k < σ.num) (hd : 1 <= (σ.wk k).due) {oc : Array Value} {ot : TypeId} : J E (σ.new k) (World.more w (.cells oc ot)) := by
 have lt : ∀ {b}, E.Hot b -> b < w.heap.size := fun hb => by
  rw [hJ.size]
  rcases hb with hb | hb | hb | hb
  · exact hJ.hotLt (.inl hb)
  · exact hJ.hotLt (.inr (.inl hb))
  · exact hJ.hotLt (.inr (.inr hb))
  · rw [hb]; exact hJ.oLt
 have hdu := dues_upd (wk := σ.wk) hk (σ.wk k).paid
 have hpd : (σ.wk k).paid.due = (σ.wk k).due - 1 := rfl
 exact {
  inv := hJ.inv.paid hk (Nat.le_succ _)
  mu := by rw [more_old (lt (.inl rfl))]; exact hJ.mu
  nx := by rw [more_old (lt (.inr (.inl rfl)))]; exact hJ.nx
  wg := by rw [more_old (lt (.inr (.inr (.inl rfl))))]; exact hJ.wg
  o := by rw [more_old (lt (.inr (.inr (.inr rfl))))]; exact hJ.o
  old := fun b hb => by rw [more_old (by rw [hJ.size]; have := hJ.baseLe hE; omega)]; exact hJ.old b hb
  size := by show (w.heap.push _).size = σ.hs + 1; rw [Array.size_push, hJ.size]
  tape := hJ.tape
  output := hJ.output
  os := hJ.os
  acc := by
   have := hJ.acc
   show σ.hs + 1 + dues σ.num (upd σ.wk k _) + E.rest σ.nx + σ.dm = E.tot
   omega
  pv := fun b hb => by
   show b < σ.hs + 1 /\ E.base <= b /\ ¬ E.Hot b /\ upd σ.pv σ.hs (k + 1) b <= σ.num
   by_cases e : b = σ.hs
   · subst e
     rw [upd_same]
     exact ⟨by omega, hJ.baseLe hE, fun h => by have := lt h; rw [hJ.size] at this; omega, hk⟩
   · have hb : upd σ.pv σ.hs (k + 1) b ≠ 0 := hb
     rw [upd_ne _ _ e] at hb ⊢
     obtain ⟨p1, p2, p3, p4⟩ := hJ.pv b hb
     exact ⟨by omega, p2, p3, p4⟩
  rows := fun b h1 h2 => by
   have h3 : b < (w.heap.push (.cells oc ot)).size := h2
   rw [Array.size_push] at h3
   rcases Nat.lt_or_ge b w.heap.size with h | h
   · rw [more_old h]; exact hJ.rows b h1 h
   · obtain rfl : b = w.heap.size := by omega
     exact ⟨_, _, more_new⟩ }
theorem DW.new (hE : E.Ok) (hJ : J E σ w) (hk : k < σ.num) (ha : (σ.wk k).fin = 7) (hd : 1 <= (σ.wk k).due) {oc : Array Value} {ot : TypeId} {g g' : Goroutine} (hr : g'.status = .running) : DW E P k σ w g #[] (σ.new k) (World.more w (.cells oc ot)) g' where
 j := hJ.new hE hk hd
 own j hj := upd_ne _ _ hj
 num := rfl
 ms := rfl
 mdf := rfl
 dm := rfl
 hs := Nat.le_succ _
 pv b hb := upd_ne _ _ (by omega)
 pvn b hb hp := by
  by_cases e : b = σ.hs
  · subst e; exact upd_same _ _ _
  · have hp : upd σ.pv σ.hs (k + 1) b ≠ 0 := hp
    rw [upd_ne _ _ e] at hp
    have := (hJ.pv b hp).1
    omega
 low := by show (upd σ.wk k _ k).low = _; rw [upd_same]; rfl
 mem b hb _ _ := more_old (by rw [hJ.size]; exact hb)
 pot := by
  have : Wp.pot E.n (σ.new k) = Wp.pot E.n σ := by
   unfold Wp.pot
   show pots σ.num (upd σ.wk k _) + σ.mx.sm + 5 * (E.n - σ.nx) = _
   rw [pots_same (x := (σ.wk k).paid) rfl]
  exact ⟨Nat.le_of_eq this, .inl rfl⟩
 dd _ _ _ _ h := ⟨h, Nat.le_refl _⟩
 cnt := by
  show c5 σ.num (upd σ.wk k _) <= _
  exact c5_le hk id
 alive := by rw [ha]; decide
 run := hr
 df := by show _ = (upd σ.wk k _ k).df; rw [upd_same]; rfl
 wake := ⟨fun a b => by have : (σ.new k).mx.sm = σ.mx.sm := rfl; omega, fun a b => by have : (σ.new k).ws = σ.ws := rfl; omega⟩
 writ _ h := h
 ev e he := by simp at he
 rel h := by
  have h : (upd σ.wk k (σ.wk k).paid k).fin <= 6 := h
  rw [upd_same] at h
  have h : (σ.wk k).fin <= 6 := h
  omega
theorem Keep.new (hE : E.Ok) (hJ : J E σ w) (hk : k < σ.num) (hd : 1 <= (σ.wk k).due) {oc : Array Value} {ot : TypeId} : Keep E k σ w (σ.new k) (World.more w (.cells oc ot)) := by
 refine ⟨hJ.new hE hk hd, Nat.le_refl _, by show (upd σ.wk k _ k).low = _; rw [upd_same]; rfl, Nat.le_succ _, fun b hb => upd_ne _ _ (by omega), fun b hb _ => more_old (by rw [hJ.size]; exact hb), ?_⟩
 unfold Wp.pot
 show pots σ.num (upd σ.wk k _) + σ.mx.sm + 5 * (E.n - σ.nx) <= _
 rw [pots_same (x := (σ.wk k).paid) rfl]
 exact Nat.le_refl _
theorem stop_new (hE : E.Ok) {m : Nat} {g : Goroutine} {vs : Array Value} {t : TypeId} (hg : isNew P g = some (vs, t)) (hr : isRun g = true) (hr' : ∀ v, isRun (fin g v) = true) (hJ : J E σ w) (hk : k < σ.num) (h7 : (σ.wk k).fin = 7) (hd : 1 <= (σ.wk k).due)
  (h : ∀ σ₁ w₁ (b : Nat), Keep E k σ w σ₁ w₁ -> σ₁.wk k = (σ.wk k).paid -> σ.hs <= b -> b < σ₁.hs -> σ₁.pv b = k + 1 -> w₁.heap[b]? = some (.cells vs t) -> GoesW P (proto E P) (k + 1) Stop m σ₁ (fin g (.pointer (some ⟨b, 0, none⟩))) w₁) : GoesW P (proto E P) (k + 1) Stop (m + 1) σ g w :=
 stepW hr fun σ₁ w₁ hw => by
  have hk1 : k < σ₁.num := Nat.lt_of_lt_of_le hk hw.num
  have hd1 : 1 <= (σ₁.wk k).due := by rw [hw.wk]; exact hd
  have hs := hw.j.size
  refine ⟨_, World.more w₁ (.cells vs t), #[], σ₁.new k, step_new hg, DW.new hE hw.j hk1 (by rw [hw.wk]; exact h7) hd1 (isRun_out (hr' _)).1, ?_⟩
  refine h (σ₁.new k) _ w₁.heap.size (hw.keep.trans (Keep.new hE hw.j hk1 hd1)) ?_ (by rw [hs]; exact hw.hs) (by rw [hs]; exact Nat.lt_succ_self _) ?_ more_new
  · show upd σ₁.wk k _ k = _
    rw [upd_same, hw.wk]
  · show upd σ₁.pv σ₁.hs (k + 1) w₁.heap.size = k + 1
    rw [hs, upd_same]
def World.row (w : World) (b : Nat) (vs : Array Value) (t : TypeId) : World := { w with heap := w.heap.setIfInBounds b (.cells vs t) }
theorem row_ne {b b' : Nat} {vs : Array Value} {t : TypeId} (h : b' ≠ b) : (World.row w b vs t).heap[b']? = w.heap[b']? := by
 simp [World.row, Array.getElem?_setIfInBounds_ne (Ne.symm h)]
theorem row_same {b : Nat} {vs : Array Value} {t : TypeId} (h : b < w.heap.size) : (World.row w b vs t).heap[b]? = some (.cells vs t) := by
 simp [World.row, h]
theorem J.row (hE : E.Ok) (hJ : J E σ w) {b : Nat} (hp : σ.pv b ≠ 0) {vs : Array Value} {t : TypeId} : J E σ (World.row w b vs t) := by
 obtain ⟨p1, p2, p3, p4⟩ := hJ.pv b hp
 have ne : ∀ {b'}, E.Hot b' -> b' ≠ b := fun h e => p3 (e ▸ h)
 exact {
  inv := hJ.inv
  mu := by rw [row_ne (ne (.inl rfl))]; exact hJ.mu
  nx := by rw [row_ne (ne (.inr (.inl rfl)))]; exact hJ.nx
  wg := by rw [row_ne (ne (.inr (.inr (.inl rfl))))]; exact hJ.wg
  o := by rw [row_ne (ne (.inr (.inr (.inr rfl))))]; exact hJ.o
  old := fun b' hb => by rw [row_ne (by omega)]; exact hJ.old b' hb
  size := by show (w.heap.setIfInBounds b _).size = _; rw [Array.size_setIfInBounds]; exact hJ.size
  tape := hJ.tape
  output := hJ.output
  os := hJ.os
  acc := hJ.acc
  pv := hJ.pv
  rows := fun b' h1 h2 => by
   have h3 : b' < (w.heap.setIfInBounds b (.cells vs t)).size := h2
   rw [Array.size_setIfInBounds] at h3
   by_cases e : b' = b
   · rw [e] at h3 ⊢; exact ⟨_, _, row_same h3⟩
   · rw [row_ne e]; exact hJ.rows b' h1 h3 }
theorem Keep.row (hE : E.Ok) {σ₁ : Gh} {w₁ : World} (hK : Keep E k σ w σ₁ w₁) {b : Nat} (hb : σ.hs <= b) (hp : σ₁.pv b = k + 1) {vs : Array Value} {t : TypeId} : Keep E k σ w σ₁ (World.row w₁ b vs t) :=
 ⟨hK.j.row hE (by omega), hK.num, hK.low, hK.hs, hK.pv, fun b' hb' hc => by rw [row_ne (by omega)]; exact hK.mem b' hb' hc, hK.pot⟩
theorem DW.row (hE : E.Ok) (hJ : J E σ w) (h7 : (σ.wk k).fin = 7) {b : Nat} (hp : σ.pv b = k + 1) {vs : Array Value} {t : TypeId} {es : Array Event} (hes : ∀ e ∈ es, ∃ off x, e = ⟨.cell ⟨b, off, none⟩, x, false⟩) {g g' : Goroutine} (hr : g'.status = .running) : DW E P k σ w g es σ (World.row w b vs t) g' := by
 have hd : DW E P k σ w g #[] σ w g' := DW.quiet hJ (by rw [h7]; decide) hr
 have hdf : ∀ (l : List Event) (d : Nat), (∀ e ∈ l, ∃ off x, e = (⟨.cell ⟨b, off, none⟩, x, false⟩ : Event)) -> l.foldl (fun d e => match e.loc with | .mark .disable => d + 1 | .mark .enable => d - 1 | _ => d) d = d := by
  intro l
  induction l with
  | nil => intro d _; rfl
  | cons e l ih =>
   intro d h
   obtain ⟨off, x, rfl⟩ := h e (List.mem_cons_self ..)
   exact ih d fun e he => h e (List.mem_cons_of_mem _ he)
 refine ⟨hJ.row hE (by omega), fun _ _ => rfl, rfl, rfl, rfl, rfl, Nat.le_refl _, fun _ _ => rfl, hd.pvn, rfl, fun b' hb' _ hne => row_ne (fun e => hne (e ▸ hp)), hd.pot, hd.dd, hd.cnt, hd.alive, hr, ?_, hd.wake, fun _ h => h, fun e he => ?_, fun h => absurd h (by omega)⟩
 · unfold deafBehind
   rw [<- Array.foldl_toList]
   exact hdf es.toList _ fun e he => hes e (by simpa using he)
 · obtain ⟨off, x, rfl⟩ := hes e he
   exact ⟨by simp, (hJ.pv b (by omega)).1, fun y hy => by
    simp only [MemAct.ofEvent, MemAct.touch?, Option.some.injEq] at hy
    subst hy
    exact .inr (.inr (.inr ⟨rfl, _, rfl, hp⟩))⟩
theorem step_call {main : Bool} {f : FuncId} {g : Goroutine} {vs : List Value} {fn : Func} {c : Code} (h : isCall f g = some vs) (hf : P.funcs[f]? = some fn) (hn : (fn.name == "runtime.NumGoroutine") = false) (hb : fn.body = some c) (w : World) : stepG P main g w = .go (enter P f vs.toArray (g.frame :: g.callers)) w #[] := by
 obtain ⟨b, a, ops, i, rest, kk, cs, o, xs, ats, h1, h2, h3, h4, h5, h6, h7, h8⟩ := of_isCall h
 have hb' : fn.body.isNone = false := by rw [hb]; rfl
 have hr := run_call_body (a := a) (w := w) h5 hf hn hb'
 have he : listed P b.fn a o w = #[] := by unfold listed; rw [events_call_body h5 hf hn hb']; exact seen_none P _
 rw [h1, stepG_enter h2 h3 h4 hr, he, h6]
 rfl
end
noncomputable def xCall (f : FuncId) (g : Goroutine) : Bool := match headO g with
 | some o => match o.op with
  | .call { callee := .value (.func f'), .. } => f' == f
  | _ => false
 | none => false
noncomputable def xDst (f : FuncId) (d : Nat) (g : Goroutine) : Bool := g.frame.fn == f && (match dstR g with | some d' => d' == d | none => false)
noncomputable def xHeadM (g : Goroutine) : Bool := match g.frame.todo with
 | .code (.seq (.seq _ _) _) :: .inLoop _ :: _ => g.frame.fn == 86
 | _ => false
abbrev MM : Int := 2305843009213693951
def mx2 (x : Int) : Int := (IntKind.i64.wrap (2 * x)).tmod MM
def madd (a x : Int) : Int := (IntKind.i64.wrap (a + x)).tmod MM
noncomputable def vMul (y : Int) (b o : Bool) (f : FuncId) (d : Nat) : Option (Value × Value) :=
 bif f == 86 && d == 7 then some (.bool b, .bool (decide (y > 0))) else
 bif f == 86 && d == 12 then some (.bool o, .bool (bits .and .i64 y 1 == 1)) else none
noncomputable def cM (y : Int) (b o : Bool) : Par := { V := vMul y b o, X := xHeadM }
theorem cM_ok {y : Int} {b o : Bool} (h1 : decide (y > 0) = b) (h2 : (bits .and .i64 y 1 == 1) = o) : (cM y b o).Ok := fun f d z hz => by
 have hz : vMul y b o f d = some z := hz
 unfold vMul at hz
 cases e1 : (f == 86 && d == 7) with
 | true => rw [e1, cond_true] at hz; cases hz; simp only [h1]
 | false =>
  rw [e1, cond_false] at hz
  cases e2 : (f == 86 && d == 12) with
  | true => rw [e2, cond_true] at hz; cases hz; simp only [h2]
  | false => rw [e2, cond_false] at hz; cases hz
noncomputable def cX (X : Goroutine -> Bool) : Par := { X := X }
theorem cX_ok (X : Goroutine -> Bool) : (cX X).Ok := fun f d x h => by cases h
variable (fr : Frame) (cs : List Frame)
section
variable (J : Nat -> Value) (x y a : Int)
noncomputable def gM0 : Goroutine := endR Try.prog (cX xHeadM) 60 (enter Try.prog 86 #[.int .i64 x, .int .i64 y] (fr :: cs))
theorem aM0 : Run Try.prog (cX xHeadM) 60 (enter Try.prog 86 #[.int .i64 x, .int .i64 y] (fr :: cs)) := ⟨fun w => by kernel_rfl, by kernel_rfl⟩
def tmMS : Array Value := ((List.range 21).map fun i => if i = 0 then .int .i64 x else if i = 1 then .int .i64 y else if i = 5 then .int .i64 a else J i).toArray
noncomputable def MLS : Goroutine := { gM0 fr cs 0 0 with frame := { (gM0 fr cs 0 0).frame with tmps := tmMS J x y a } }
theorem hM0 : gM0 fr cs x y = MLS fr cs (junk (gM0 fr cs x y)) x y 0 := by kernel_rfl
noncomputable def gM1 : Goroutine := nextQ Try.prog false (MLS fr cs J x y a)
theorem eM1 (w : World) : stepG Try.prog false (MLS fr cs J x y a) w = .go (gM1 fr cs J x y a) w #[] := by kernel_rfl
theorem rM : isRun (MLS fr cs J x y a) = true := by kernel_rfl
noncomputable def gM2 (b o : Bool) : Goroutine := endR Try.prog (cM y b o) 60 (gM1 fr cs J x y a)
theorem aM2 (o : Bool) : Run Try.prog (cM y true o) 60 (gM1 fr cs J x y a) := by cases o <;> exact ⟨fun w => by kernel_rfl, by kernel_rfl⟩
theorem hM2 (o : Bool) : gM2 fr cs J x y a true o = MLS fr cs (junk (gM2 fr cs J x y a true o)) (mx2 x) (y.fdiv 2) (bif o then madd a x else a) := by cases o <;> kernel_rfl
noncomputable def cMe (y : Int) : Par := { V := fun f d => bif f == 86 && d == 7 then some (.bool false, .bool (decide (y > 0))) else none, X := xLeave 86 }
noncomputable def gM3 : Goroutine := endR Try.prog (cMe y) 60 (gM1 fr cs J x y a)
theorem aM3 : Run Try.prog (cMe y) 60 (gM1 fr cs J x y a) := ⟨fun w => by kernel_rfl, by kernel_rfl⟩
theorem eM3 (w : World) : stepG Try.prog false (gM3 fr cs J x y a) w = .go (back fr cs (.int .i64 a)) w #[] := by kernel_rfl
theorem rM3 : isRun (gM3 fr cs J x y a) = true := by kernel_rfl
end
theorem cMe_ok {y : Int} (h1 : decide (y > 0) = false) : (cMe y).Ok := fun f d z hz => by
 have hz : (bif f == 86 && d == 7 then some (Value.bool false, Value.bool (decide (y > 0))) else none) = some z := hz
 cases e1 : (f == 86 && d == 7) with
 | true => rw [e1, cond_true] at hz; cases hz; simp only [h1]
 | false => rw [e1, cond_false] at hz; cases hz
def allGo (m : Region.Mode) (ops : Array Oper) : Nat -> Array Bool -> List Nat -> List (List Nat)
 | 0, _, acc => [acc.reverse]
 | n + 1, listed, acc =>
  match (List.range ops.size).filter fun i => !listed.getD i true && ((ops[i]?).map (·.after.all fun e => !Region.binds m e || listed.getD e.on false)).getD false with
  | [] => [acc.reverse]
  | r :: rs => (r :: rs).flatMap fun i => allGo m ops n (listed.setIfInBounds i true) (i :: acc)
theorem go_mem (m : Region.Mode) (ops : Array Oper) : ∀ (n t : Nat) (listed : Array Bool) (acc : List Nat), Region.linearise.go m ops n t listed acc ∈ allGo m ops n listed acc
 | 0, _, _, _ => by simp [Region.linearise.go, allGo]
 | n + 1, t, listed, acc => by
  unfold Region.linearise.go allGo
  simp only
  generalize ((List.range ops.size).filter fun i => !listed.getD i true && ((ops[i]?).map (·.after.all fun e => !Region.binds m e || listed.getD e.on false)).getD false) = rs
  cases rs with
  | nil => simp
  | cons r rs =>
   have hlt : t % (r :: rs).length < (r :: rs).length := Nat.mod_lt _ (by simp)
   rw [List.getElem?_eq_getElem hlt]
   simp only
   exact List.mem_flatMap.2 ⟨_, List.getElem_mem hlt, go_mem m ops n _ _ _⟩
def orders (mixed : Bool) (ops : Array Oper) : List (List Nat) :=
 bif mixed || !Region.departs ops then allGo .any ops ops.size (Array.replicate ops.size false) []
 else allGo .text ops ops.size (Array.replicate ops.size false) [] ++ allGo .gc ops ops.size (Array.replicate ops.size false) []
theorem schedule_mem (mixed : Bool) (ops : Array Oper) (t : Nat) : Region.schedule mixed ops t ∈ orders mixed ops := by
 unfold Region.schedule orders
 cases h : (mixed || !Region.departs ops) with
 | true => simp only [if_true, cond_true]; exact go_mem _ _ _ _ _ _
 | false =>
  simp only [Bool.false_eq_true, if_false, cond_false]
  unfold Region.linearise
  split
  · exact List.mem_append.2 (.inl (go_mem _ _ _ _ _ _))
  · exact List.mem_append.2 (.inr (go_mem _ _ _ _ _ _))
def isDraw (g : Goroutine) : Option (Nat × Array Oper × List Item) := match g.frame.todo with
 | .code (.region id ops true) :: k => some (id, ops, k)
 | _ => none
def inOrd (g : Goroutine) (ops : Array Oper) (k : List Item) (o : List Nat) : Goroutine := { g with frame := { g.frame with todo := .inRegion ops o :: k } }
section
variable (a b f : Int) (B : Nat)
noncomputable def gN0 : Goroutine := endR Try.prog cW 60 (enter Try.prog 75 #[.agg #[.int .i64 a, .int .i64 b], .int .i64 f] (fr :: cs))
theorem aN0 : Run Try.prog cW 60 (enter Try.prog 75 #[.agg #[.int .i64 a, .int .i64 b], .int .i64 f] (fr :: cs)) := ⟨fun w => by kernel_rfl, by kernel_rfl⟩
theorem bN0 : isNew Try.prog (gN0 fr cs a b f) = some (#[.int .i64 a, .int .i64 b], 104) := by kernel_rfl
noncomputable def gN1 : Goroutine := endR Try.prog cW 60 (fin (gN0 fr cs a b f) (.pointer (some ⟨B, 0, none⟩)))
theorem aN1 : Run Try.prog cW 60 (fin (gN0 fr cs a b f) (.pointer (some ⟨B, 0, none⟩))) := ⟨fun w => by kernel_rfl, by kernel_rfl⟩
noncomputable def opsN : Array Oper := match isDraw (gN1 default [] 0 0 0 0) with | some x => x.2.1 | none => #[]
noncomputable def kN : List Item := match isDraw (gN1 default [] 0 0 0 0) with | some x => x.2.2 | none => []
noncomputable def idN : Nat := match isDraw (gN1 default [] 0 0 0 0) with | some x => x.1 | none => 0
noncomputable def oN : Orc := fun fn d => bif fn == 75 then some (.int .i64 (bif d == 6 then a else b)) else none
noncomputable def cN : Par := { O := oN a b, X := xCall 86 }
noncomputable def cN' : Par := { O := oN a b, X := xLeave 75 }
noncomputable def ordN : List (List Nat) := orders (Try.prog.follows .mixedOrders) opsN
noncomputable def ldN (i : Nat) : Option (FuncId × Addr × Value) := match i with
 | 1 => some (75, ⟨B, 0, none⟩, .int .i64 a)
 | 5 => some (75, ⟨B, 1, none⟩, .int .i64 b)
 | _ => none
noncomputable def gN2 (o : List Nat) : Goroutine := endR Try.prog (cN a b) 40 (inOrd (gN1 fr cs a b f B) opsN kN o)
noncomputable def gN3 (o : List Nat) (r : Int) : Goroutine := endR Try.prog (cN' a b) 40 (fin (gN2 fr cs a b f B o) (.int .i64 r))
theorem aN2s (w : World) : ordN.map (fun o => seqR Try.prog (cN a b) 40 (inOrd (gN1 fr cs a b f B) opsN kN o) w) = ordN.map (fun o => expR Try.prog (cN a b) 40 (inOrd (gN1 fr cs a b f B) opsN kN o) w) := by kernel_rfl
theorem aN2o : ordN.map (fun o => (okR Try.prog (cN a b) 40 (inOrd (gN1 fr cs a b f B) opsN kN o), isCall 86 (gN2 fr cs a b f B o), ldsR Try.prog (cN a b) 40 (inOrd (gN1 fr cs a b f B) opsN kN o))) = ordN.map (fun o => (true, some [Value.int .i64 a, .int .i64 f], (o.takeWhile (· != 3)).filterMap (ldN a b B))) := by kernel_rfl
theorem aN3s (r : Int) (w : World) : ordN.map (fun o => seqR Try.prog (cN' a b) 40 (fin (gN2 fr cs a b f B o) (.int .i64 r)) w) = ordN.map (fun o => expR Try.prog (cN' a b) 40 (fin (gN2 fr cs a b f B o) (.int .i64 r)) w) := by kernel_rfl
theorem aN3o (r : Int) (w : World) : ordN.map (fun o => (okR Try.prog (cN' a b) 40 (fin (gN2 fr cs a b f B o) (.int .i64 r)), isRun (gN3 fr cs a b f B o r), ldsR Try.prog (cN' a b) 40 (fin (gN2 fr cs a b f B o) (.int .i64 r)), stepG Try.prog false (gN3 fr cs a b f B o r) w)) = ordN.map (fun o => (true, true, (o.dropWhile (· != 3)).filterMap (ldN a b B), .go (back fr cs (.int .i64 (madd r b))) w #[])) := by kernel_rfl
end
section
variable (x y : Int)
noncomputable def gP0' : Goroutine := endR Try.prog (cX (xCall 75)) 60 (enter Try.prog 60 #[.int .i64 x, .int .i64 y] (fr :: cs))
theorem aPp0 : Run Try.prog (cX (xCall 75)) 60 (enter Try.prog 60 #[.int .i64 x, .int .i64 y] (fr :: cs)) := ⟨fun w => by kernel_rfl, by kernel_rfl⟩
theorem bPp0 : isCall 75 (gP0' fr cs x y) = some [.agg #[.int .i64 y, .int .i64 7], .int .i64 31] := by kernel_rfl
noncomputable def gP1' (r : Int) : Goroutine := endR Try.prog (cX (xCall 75)) 60 (fin (gP0' fr cs x y) (.int .i64 r))
theorem aPp1 (r : Int) : Run Try.prog (cX (xCall 75)) 60 (fin (gP0' fr cs x y) (.int .i64 r)) := ⟨fun w => by kernel_rfl, by kernel_rfl⟩
theorem bPp1 (r : Int) : isCall 75 (gP1' fr cs x y r) = some [.agg #[.int .i64 x, .int .i64 r], .int .i64 1000003] := by kernel_rfl
noncomputable def gP2' (r r2 : Int) : Goroutine := endR Try.prog (cX (xLeave 60)) 60 (fin (gP1' fr cs x y r) (.int .i64 r2))
theorem aPp2 (r r2 : Int) : Run Try.prog (cX (xLeave 60)) 60 (fin (gP1' fr cs x y r) (.int .i64 r2)) := ⟨fun w => by kernel_rfl, by kernel_rfl⟩
theorem ePp2 (r r2 : Int) (w : World) : stepG Try.prog false (gP2' fr cs x y r r2) w = .go (back fr cs (.int .i64 r2)) w #[] := by kernel_rfl
theorem rPp2 (r r2 : Int) : isRun (gP2' fr cs x y r r2) = true := by kernel_rfl
end
def isStore2 (P : Program) (g : Goroutine) : Option (Addr × Value × Value) := match headO g with
 | some o => match o.op with
  | .store t x y => match g.frame.eval x, (P.info? t).map (·.size), g.frame.eval y with
   | .pointer (some ad), some 2, .agg ⟨[v1, v2]⟩ => bif v1.oneCell' && v2.oneCell' then some (ad, v1, v2) else none
   | _, _, _ => none
  | _ => none
 | none => none
section
variable (x y r : Int) (B : Nat)
noncomputable def vIs (x : Int) (f : FuncId) (d : Nat) : Option (Value × Value) :=
 bif f == 59 && d == 4 then some (.bool true, .bool (decide (x ≥ 0))) else bif f == 59 && d == 7 then some (.bool true, .bool (decide (x < MM))) else none
noncomputable def cIs (x : Int) (X : Goroutine -> Bool) : Par := { V := vIs x, X := X }
theorem cIs_ok {x : Int} (X : Goroutine -> Bool) (h1 : 0 <= x) (h2 : x < MM) : (cIs x X).Ok := fun f d z hz => by
 have hz : vIs x f d = some z := hz
 unfold vIs at hz
 cases e1 : (f == 59 && d == 4) with
 | true => rw [e1, cond_true] at hz; cases hz; simp only [ge_iff_le, h1, decide_true]
 | false =>
  rw [e1, cond_false] at hz
  cases e2 : (f == 59 && d == 7) with
  | true => rw [e2, cond_true] at hz; cases hz; simp only [h2, decide_true]
  | false => rw [e2, cond_false] at hz; cases hz
noncomputable def gQ0' : Goroutine := endR Try.prog cW 60 (enter Try.prog 39 #[.int .i64 x, .int .i64 y] (fr :: cs))
theorem aQp0 : Run Try.prog cW 60 (enter Try.prog 39 #[.int .i64 x, .int .i64 y] (fr :: cs)) := ⟨fun w => by kernel_rfl, by kernel_rfl⟩
theorem bQp0 : isNew Try.prog (gQ0' fr cs x y) = some (#[.int .i64 0, .int .i64 0], 25) := by kernel_rfl
noncomputable def gQ1' : Goroutine := endR Try.prog (cIs x (xDst 39 17)) 100 (fin (gQ0' fr cs x y) (.pointer (some ⟨B, 0, none⟩)))
theorem aQp1 : Run Try.prog (cIs x (xDst 39 17)) 100 (fin (gQ0' fr cs x y) (.pointer (some ⟨B, 0, none⟩))) := ⟨fun w => by kernel_rfl, by kernel_rfl⟩
noncomputable def gQ2' : Goroutine := endR Try.prog (cIs y (xCall 60)) 150 (gQ1' fr cs x y B)
theorem aQp2 : Run Try.prog (cIs y (xCall 60)) 150 (gQ1' fr cs x y B) := ⟨fun w => by kernel_rfl, by kernel_rfl⟩
theorem bQp2 : isCall 60 (gQ2' fr cs x y B) = some [.int .i64 x, .int .i64 y] := by kernel_rfl
noncomputable def gQ3' : Goroutine := endR Try.prog cW 60 (fin (gQ2' fr cs x y B) (.int .i64 r))
theorem aQp3 : Run Try.prog cW 60 (fin (gQ2' fr cs x y B) (.int .i64 r)) := ⟨fun w => by kernel_rfl, by kernel_rfl⟩
theorem bQp3 : isStore2 Try.prog (gQ3' fr cs x y r B) = some (⟨B, 0, none⟩, .int .i64 0, .int .i64 0) := by kernel_rfl
noncomputable def gQ4' : Goroutine := endR Try.prog cW 60 (fin (gQ3' fr cs x y r B) undef)
theorem aQp4 : Run Try.prog cW 60 (fin (gQ3' fr cs x y r B) undef) := ⟨fun w => by kernel_rfl, by kernel_rfl⟩
theorem rQp4 : isRun (gQ4' fr cs x y r B) = true := by kernel_rfl
end
noncomputable def xHeadF (g : Goroutine) : Bool := match g.frame.todo with
 | .code (.seq (.region ..) _) :: .inLoop _ :: _ => g.frame.fn == 29
 | _ => false
def isIdx (P : Program) (g : Goroutine) : Option (Addr × Nat × Int × Nat) := match headO g with
 | some o => match o.op with
  | .indexAddr t x i => match P.underlying t, g.frame.eval x, g.frame.eval i with
   | some (.slice e), .slice (some ad) n _, .int _ j => (P.info? e).map fun inf => (ad, n, j, inf.size)
   | _, _, _ => none
  | _ => none
 | none => none
section
variable (J : Nat -> Value) (p : Option Addr) (n c : Nat) (i a : Int)
noncomputable def gF0' : Goroutine := endR Try.prog (cX xHeadF) 60 (enter Try.prog 29 #[.slice p n c] (fr :: cs))
theorem aFp0 : Run Try.prog (cX xHeadF) 60 (enter Try.prog 29 #[.slice p n c] (fr :: cs)) := ⟨fun w => by kernel_rfl, by kernel_rfl⟩
def tmFS : Array Value := ((List.range 20).map fun j => if j = 3 then .int .i64 a else if j = 6 then .slice p n c else if j = 7 then .int .i64 (n : Int) else if j = 8 then .int .i64 i else J j).toArray
noncomputable def FLS : Goroutine := { frame := { (gF0' fr cs none 0 0).frame with tmps := tmFS J p n c i a }, callers := fr :: cs, status := .running, dying := none }
theorem hFp0 : gF0' fr cs p n c = FLS fr cs (junk (gF0' fr cs p n c)) p n c 0 0 := by kernel_rfl
noncomputable def gF1' : Goroutine := nextQ Try.prog false (FLS fr cs J p n c i a)
theorem eFp1 (w : World) : stepG Try.prog false (FLS fr cs J p n c i a) w = .go (gF1' fr cs J p n c i a) w #[] := by kernel_rfl
theorem rFp : isRun (FLS fr cs J p n c i a) = true := by kernel_rfl
noncomputable def vF (b : Bool) (f : FuncId) (d : Nat) : Option (Value × Value) := bif f == 29 && d == 9 then some (.bool b, .bool (decide (i < (n : Int)))) else none
noncomputable def cF (b : Bool) (X : Goroutine -> Bool) : Par := { V := vF n i b, X := X }
theorem cF_ok {n : Nat} {i : Int} {b : Bool} (X : Goroutine -> Bool) (h : decide (i < (n : Int)) = b) : (cF n i b X).Ok := fun f d z hz => by
 have hz : vF n i b f d = some z := hz
 unfold vF at hz
 cases e1 : (f == 29 && d == 9) with
 | true => rw [e1, cond_true] at hz; cases hz; simp only [h]
 | false => rw [e1, cond_false] at hz; cases hz
noncomputable def gF2' : Goroutine := endR Try.prog (cF n i true (xDst 29 10)) 60 (gF1' fr cs J p n c i a)
theorem aFp2 : Run Try.prog (cF n i true (xDst 29 10)) 60 (gF1' fr cs J p n c i a) := ⟨fun w => by kernel_rfl, by kernel_rfl⟩
theorem bFp2 (ad : Addr) : isIdx Try.prog (gF2' fr cs J (some ad) n c i a) = some (ad, n, i, 1) := by kernel_rfl
theorem rFp2 (ad : Addr) : isRun (gF2' fr cs J (some ad) n c i a) = true := by kernel_rfl
noncomputable def oF (v : Int) : Orc := fun fn _ => bif fn == 29 then some (.int .i64 v) else none
noncomputable def cFo (v : Int) : Par := { O := oF v, X := xCall 39 }
noncomputable def gF3' (ad : Addr) (v : Int) : Goroutine := endR Try.prog (cFo v) 60 (fin (gF2' fr cs J p n c i a) (.pointer (some ad)))
theorem aFp3 (ad : Addr) (v : Int) : Run Try.prog (cFo v) 60 (fin (gF2' fr cs J p n c i a) (.pointer (some ad))) := ⟨fun w => by kernel_rfl, by kernel_rfl⟩
theorem bFp3 (ad : Addr) (v : Int) : isCall 39 (gF3' fr cs J p n c i a ad v) = some [.int .i64 a, .int .i64 v] := by kernel_rfl
theorem lFp3 (ad : Addr) (v : Int) : ldsR Try.prog (cFo v) 60 (fin (gF2' fr cs J p n c i a) (.pointer (some ad))) = [(29, ad, .int .i64 v)] := by kernel_rfl
noncomputable def gF4' (ad : Addr) (v r : Int) : Goroutine := endR Try.prog (cX xHeadF) 60 (fin (gF3' fr cs J p n c i a ad v) (.tuple #[.int .i64 r, .agg #[.int .i64 0, .int .i64 0]]))
theorem aFp4 (ad : Addr) (v r : Int) : Run Try.prog (cX xHeadF) 60 (fin (gF3' fr cs J p n c i a ad v) (.tuple #[.int .i64 r, .agg #[.int .i64 0, .int .i64 0]])) := ⟨fun w => by kernel_rfl, by kernel_rfl⟩
theorem hFp4 (ad : Addr) (v r : Int) : gF4' fr cs J p n c i a ad v r = FLS fr cs (junk (gF4' fr cs J p n c i a ad v r)) p n c (IntKind.i64.wrap (i + 1)) r := by kernel_rfl
noncomputable def gF5' : Goroutine := endR Try.prog (cF n i false (xLeave 29)) 60 (gF1' fr cs J p n c i a)
theorem aFp5 : Run Try.prog (cF n i false (xLeave 29)) 60 (gF1' fr cs J p n c i a) := ⟨fun w => by kernel_rfl, by kernel_rfl⟩
theorem eFp5 (w : World) : stepG Try.prog false (gF5' fr cs J p n c i a) w = .go (back fr cs (.int .i64 a)) w #[] := by kernel_rfl
theorem rFp5 : isRun (gF5' fr cs J p n c i a) = true := by kernel_rfl
end
end Wp
end Go.Proofs.Ytmdkmlgafnjhmaa
namespace Go.Proofs.Ytmdkmlgafnjhmaa
open Go.Conc
open Go.ConcN (sumTo upd sumTo_upd upd_ne upd_same sumTo_congr RelBy)
namespace Wp
set_option maxRecDepth 100000
section
variable {P : Program} {main : Bool} {w : World}
theorem map_all {α β : Type} {l : List α} {f g : α -> β} (h : l.map f = l.map g) : ∀ x ∈ l, f x = g x := List.map_inj_left.1 h
theorem setCell2_row {B : Nat} {c1 c2 v1 v2 : Value} {t : TypeId} (h : w.heap[B]? = some (.cells #[c1, c2] t)) : (w.setCell ⟨B, 0, none⟩ v1).setCell ⟨B, 1, none⟩ v2 = World.row w B #[v1, v2] t := by
 have h1 := heap_set (w := w) (a := ⟨B, 0, none⟩) (v := v1) rfl h
 have h2 := heap_set (w := w.setCell ⟨B, 0, none⟩ v1) (a := ⟨B, 1, none⟩) (v := v2) rfl h1
 have hlt : B < w.heap.size := (Array.getElem?_eq_some_iff.1 h).1
 have hh : ((w.setCell ⟨B, 0, none⟩ v1).setCell ⟨B, 1, none⟩ v2).heap = (World.row w B #[v1, v2] t).heap := by
  apply Array.ext_getElem?
  intro i
  by_cases e : i = B
  · subst e
    rw [row_same hlt]
    exact h2.trans (by simp)
  · rw [row_ne e, heap_set_ne (show i ≠ (⟨B, 1, none⟩ : Addr).block from e), heap_set_ne (show i ≠ (⟨B, 0, none⟩ : Addr).block from e)]
 show ({ w with heap := _ } : World) = { w with heap := _ }
 congr 1
theorem seen2 {fn : FuncId} {l1 l2 : Loc} {a b : Bool} (h1 : ∀ m, l1 ≠ .mark m) (h2 : ∀ m, l2 ≠ .mark m) : seen P fn #[⟨l1, a, false⟩, ⟨l2, b, false⟩] = if norace P fn then #[] else #[⟨l1, a, false⟩, ⟨l2, b, false⟩] := by
 rw [seen_def]
 unfold norace
 cases l1 <;> first | exact absurd rfl (h1 _) | (cases l2 <;> first | exact absurd rfl (h2 _) | (simp only [List.foldl_cons, List.foldl_nil, seenStep]; cases (P.funcs[fn]?).any (·.norace) <;> simp))
theorem step_store2 {g : Goroutine} {B : Nat} {c1 c2 v1 v2 : Value} {t : TypeId} (h : isStore2 P g = some (⟨B, 0, none⟩, v1, v2)) (hrow : w.heap[B]? = some (.cells #[c1, c2] t)) :
  stepG P main g w = .go (fin g undef) (World.row w B #[v1, v2] t) (if norace P g.frame.fn then #[] else #[⟨.cell ⟨B, 0, none⟩, true, false⟩, ⟨.cell ⟨B, 1, none⟩, true, false⟩]) := by
 unfold isStore2 at h
 split at h
 · next o ho =>
   split at h
   · next t' x y hop =>
     split at h
     · next ad u1 u2 hx hsz hy =>
       cases hone : (u1.oneCell' && u2.oneCell') with
       | false => rw [hone] at h; cases h
       | true =>
        rw [hone] at h
        cases h
        simp only [Bool.and_eq_true] at hone
        have hc1 : w.cell? ⟨B, 0, none⟩ = some c1 := by rw [cell_of rfl (show w.heap[(⟨B, 0, none⟩ : Addr).block]? = _ from hrow)]; rfl
        have hr1 := heap_set (w := w) (a := ⟨B, 0, none⟩) (v := v1) rfl hrow
        have hc2 : (w.setCell ⟨B, 0, none⟩ v1).cell? ⟨B, 1, none⟩ = some c2 := by rw [cell_of (a := ⟨B, 1, none⟩) rfl hr1]; rfl
        have hz1 : w.frozen? ⟨B, 0, none⟩ = false := thaw_of (a := ⟨B, 0, none⟩) hrow
        have hz2 : (w.setCell ⟨B, 0, none⟩ v1).frozen? ⟨B, 1, none⟩ = false := thaw_of (a := ⟨B, 1, none⟩) hr1
        have ea : (⟨B, 0, none⟩ : Addr).add 1 = ⟨B, 1, none⟩ := rfl
        have ea0 : (⟨B, 0, none⟩ : Addr).add 0 = ⟨B, 0, none⟩ := rfl
        have hcs : (Value.agg { toList := [v1, v2] }).cells = #[v1, v2] := rfl
        have hs : (storeVar t' ⟨B, 0, none⟩ (g.frame.eval y)).run P w = .ok () (World.row w B #[v1, v2] t) := by
         rw [<- setCell2_row hrow]
         simp only [hy, hcs, storeVar, Sem.run_bind, run_sizeOf hsz, Result.andThen_ok, List.size_toArray, List.length_cons, List.length_nil, ne_eq, Nat.zero_add, Nat.reduceAdd, not_true, if_false, storeCells, ea, ea0, run_store P w _ _ .plain hone.1, hc1, hz1, Bool.false_eq_true, run_store P _ _ _ .plain hone.2, hc2, hz2, Sem.run_ite, Sem.run_pure]
        have hse : ∀ es, (storeVar t' ⟨B, 0, none⟩ (g.frame.eval y)).events P w es = (es.push ⟨.cell ⟨B, 0, none⟩, true, false⟩).push ⟨.cell ⟨B, 1, none⟩, true, false⟩ := by
         intro es
         simp only [hy, hcs, storeVar, Sem.events_bind, events_sizeOf, run_sizeOf hsz, Result.evThen_ok, List.size_toArray, List.length_cons, List.length_nil, ne_eq, Nat.zero_add, Nat.reduceAdd, not_true, if_false, storeCells, ea, ea0, run_store P w _ _ .plain hone.1, events_store P w _ _ _ .plain hone.1, hc1, hz1, Bool.false_eq_true, run_store P _ _ _ .plain hone.2, events_store P _ _ _ _ .plain hone.2, hc2, hz2, Sem.events_ite, Sem.events_pure, Sem.run_ite, Sem.run_pure]
         rfl
        have hr : (execOp g.frame.eval o).run P w = .ok .skip (World.row w B #[v1, v2] t) := by
         unfold execOp
         simp only [hop, hx, Instr.storeAt, Sem.run_bind, run_sure, Result.andThen_ok, hs]
         rfl
        have he : (execOp g.frame.eval o).events P w #[] = #[⟨.cell ⟨B, 0, none⟩, true, false⟩, ⟨.cell ⟨B, 1, none⟩, true, false⟩] := by
         unfold execOp
         simp only [hop, hx, Instr.storeAt, Sem.events_bind, Sem.run_bind, run_sure, ev_sure, Result.evThen_ok, Result.andThen_ok, hs, hse]
         rfl
        rw [step_skip ho hr, he, seen2 (by simp) (by simp)]
     · cases h
   · cases h
 · cases h
theorem step_leaveC {fid : FuncId} {tmps : Array Value} {todo : List Item} {fr : Frame} {cs : List Frame} {fn : Func} {t u : Tmp} {ty ty' : TypeId} {v1 v2 : Value} {B : Nat} (hf : P.funcs[fid]? = some fn) (hres : fn.results = #[.tmp t, .cell u ty]) (hu : tmps.getD u undef = .pointer (some ⟨B, 0, none⟩)) (hag : aggB P ty = some true)
  (hsz : (P.info? ty).map (·.size) = some 2) (hrow : w.heap[B]? = some (.cells #[v1, v2] ty')) :
  stepG P main { frame := { fn := fid, tmps, todo, defers := [], mode := .returning, kind := .normal }, callers := fr :: cs, status := .running, dying := none } w = .go (back fr cs (.tuple #[tmps.getD t undef, .agg #[v1, v2]])) w (if norace P fid then #[] else #[⟨.cell ⟨B, 0, none⟩, false, false⟩, ⟨.cell ⟨B, 1, none⟩, false, false⟩]) := by
 have hc1 : w.cell? ⟨B, 0, none⟩ = some v1 := by rw [cell_of rfl (show w.heap[(⟨B, 0, none⟩ : Addr).block]? = _ from hrow)]; rfl
 have hc2 : w.cell? ⟨B, 1, none⟩ = some v2 := by rw [cell_of rfl (show w.heap[(⟨B, 1, none⟩ : Addr).block]? = _ from hrow)]; rfl
 have ea : (⟨B, 0, none⟩ : Addr).add 1 = ⟨B, 1, none⟩ := rfl
 have ea0 : (⟨B, 0, none⟩ : Addr).add 0 = ⟨B, 0, none⟩ := rfl
 have hl : (loadVar ty ⟨B, 0, none⟩).run P w = .ok (.agg #[v1, v2]) w := by
  simp only [loadVar, loadCells, loadCellsFrom, Sem.run_bind, run_isAgg hag, Result.andThen_ok, if_true, run_sizeOf hsz, ea, ea0, run_load, hc1, hc2, Sem.run_pure, Nat.zero_add]
  rfl
 have hle : ∀ es, (loadVar ty ⟨B, 0, none⟩).events P w es = (es.push ⟨.cell ⟨B, 0, none⟩, false, false⟩).push ⟨.cell ⟨B, 1, none⟩, false, false⟩ := by
  intro es
  simp only [loadVar, loadCells, loadCellsFrom, Sem.events_bind, Sem.run_bind, run_isAgg hag, events_isAgg, Result.evThen_ok, Result.andThen_ok, if_true, run_sizeOf hsz, events_sizeOf, ea, ea0, run_load, events_load, hc1, hc2, Sem.run_pure, Sem.events_pure, Nat.zero_add]
  rfl
 have hu' : tmps[u]?.getD undef = .pointer (some ⟨B, 0, none⟩) := by rw [<- hu]; simp
 have hr : (results fn tmps).run P w = .ok (.tuple #[tmps.getD t undef, .agg #[v1, v2]]) w := by
  simp [results, hres, hu', asAddr, hl]
 have he : (results fn tmps).events P w #[] = #[⟨.cell ⟨B, 0, none⟩, false, false⟩, ⟨.cell ⟨B, 1, none⟩, false, false⟩] := by
  simp [results, hres, hu', asAddr, hl, hle]
 have hs := seen2 (P := P) (fn := fid) (l1 := .cell ⟨B, 0, none⟩) (l2 := .cell ⟨B, 1, none⟩) (a := false) (b := false) (by simp) (by simp)
 simp [stepG, unwind, doReturn, hf, hr, he, GStep.after, hs, back]
end
def mulF : Nat -> Int -> Int -> Int -> Int
 | 0, _, _, a => a
 | n + 1, x, y, a => bif decide (y > 0) then mulF n (mx2 x) (y.fdiv 2) (bif bits .and .i64 y 1 == 1 then madd a x else a) else a
def nextF (a b f : Int) : Int := madd (mulF 64 a f 0) b
def pairF (x y : Int) : Int := nextF x (nextF y 7 31) 1000003
theorem wrap_id {x : Int} (h0 : 0 <= x) (h1 : x < 9223372036854775808) : IntKind.i64.wrap x = x := by
 simp [IntKind.wrap, IntKind.bits, IntKind.signed]
 omega
def inM (x : Int) : Prop := 0 <= x /\ x < MM
theorem mx2_in {x : Int} (h : inM x) : inM (mx2 x) := by
 obtain ⟨h0, h1⟩ := h
 unfold mx2 inM
 have h1 : x < 2305843009213693951 := h1
 rw [wrap_id (by omega) (by omega), Int.tmod_eq_emod_of_nonneg (by omega)]
 exact ⟨Int.emod_nonneg _ (by decide), Int.emod_lt_of_pos _ (by decide)⟩
theorem madd_in {a x : Int} (ha : inM a) (h : inM x) : inM (madd a x) := by
 obtain ⟨h0, h1⟩ := h
 obtain ⟨a0, a1⟩ := ha
 unfold madd inM
 have h1 : x < 2305843009213693951 := h1
 have a1 : a < 2305843009213693951 := a1
 rw [wrap_id (by omega) (by omega), Int.tmod_eq_emod_of_nonneg (by omega)]
 exact ⟨Int.emod_nonneg _ (by decide), Int.emod_lt_of_pos _ (by decide)⟩
theorem mulF_in : ∀ {n : Nat} {x y a : Int}, inM x -> inM a -> inM (mulF n x y a)
 | 0, _, _, _, _, ha => ha
 | n + 1, x, y, a, hx, ha => by
  unfold mulF
  cases decide (y > 0)
  · exact ha
  · simp only [cond_true]
    refine mulF_in (mx2_in hx) ?_
    cases (bits .and .i64 y 1 == 1)
    · exact ha
    · exact madd_in ha hx
theorem nextF_in {a b f : Int} (ha : inM a) (hb : inM b) : inM (nextF a b f) := madd_in (mulF_in ha ⟨by decide, by decide⟩) hb
theorem pairF_in {x y : Int} (hx : inM x) (hy : inM y) : inM (pairF x y) := nextF_in hx (nextF_in hy ⟨by decide, by decide⟩)
section
variable {E : Env} {k : Nat} {Stop : Gh -> Goroutine -> World -> Prop} {fr : Frame} {cs : List Frame} {m : Nat} {σ : Gh} {w : World}
abbrev GWt (E : Env) (k : Nat) (Stop : Gh -> Goroutine -> World -> Prop) (n : Nat) (σ : Gh) (g : Goroutine) (w : World) : Prop := GoesW Try.prog (proto E Try.prog) (k + 1) Stop n σ g w
theorem back_fin {f : FuncId} {g : Goroutine} {vs : List Value} (h : isCall f g = some vs) (v : Value) : back g.frame g.callers v = fin g v := by
 obtain ⟨b, a, ops, i, rest, kk, cs, o, xs, ats, h1, h2, h3, h4, h5, h6, h7, h8⟩ := of_isCall h
 subst h1
 rfl
theorem stop_still (hE : E.Ok) {n : Nat} (hn : 1 <= n) {g g' : Goroutine} (hs : ∀ w, stepG Try.prog false g w = .go g' w #[]) (hr : isRun g = true) (hr' : isRun g' = true) (hJ : J E σ w) (hk : k < σ.num) (ha : (σ.wk k).fin ≠ 1) (h : ∀ σ₁ w₁, RW E k σ w σ₁ w₁ -> GWt E k Stop (n - 1) σ₁ g' w₁) : GWt E k Stop n σ g w :=
 GoesW.sub (F := 1) hn (goW hr hk fun σ₁ w₁ hw hk1 => ⟨_, w₁, #[], σ₁, hs w₁, Turn.idle hE hw.j (by rw [hw.wk]; exact ha) .refl hw.j.four, hr', no_wake (Nat.le_refl _) rfl, h σ₁ w₁ hw⟩)
structure HasBody (f : FuncId) : Prop where
 out : ∃ fn c, Try.prog.funcs[f]? = some fn /\ (fn.name == "runtime.NumGoroutine") = false /\ fn.body = some c
theorem hasBody_of {f : FuncId} (fn : Func) (h1 : Try.prog.funcs[f]? = some fn) (h2 : (fn.name == "runtime.NumGoroutine") = false) (h3 : fn.body.isSome = true) : HasBody f := by
 cases h : fn.body with
 | none => rw [h] at h3; cases h3
 | some c => exact ⟨fn, c, h1, h2, h⟩
theorem hb86 : HasBody 86 := hasBody_of Try.f86 (by kernel_rfl) (by kernel_rfl) (by kernel_rfl)
theorem hb75 : HasBody 75 := hasBody_of Try.f75 (by kernel_rfl) (by kernel_rfl) (by kernel_rfl)
theorem hb60 : HasBody 60 := hasBody_of Try.f60 (by kernel_rfl) (by kernel_rfl) (by kernel_rfl)
theorem hb39 : HasBody 39 := hasBody_of Try.f39 (by kernel_rfl) (by kernel_rfl) (by kernel_rfl)
theorem hb29 : HasBody 29 := hasBody_of Try.f29 (by kernel_rfl) (by kernel_rfl) (by kernel_rfl)
theorem stop_call (hE : E.Ok) {n : Nat} (hn : 1 <= n) {f : FuncId} {g : Goroutine} {vs : List Value} (hg : isCall f g = some vs) (hb : HasBody f) (hr : isRun g = true) (hJ : J E σ w) (hk : k < σ.num) (ha : (σ.wk k).fin ≠ 1) (h : ∀ σ₁ w₁, RW E k σ w σ₁ w₁ -> GWt E k Stop (n - 1) σ₁ (enter Try.prog f vs.toArray (g.frame :: g.callers)) w₁) : GWt E k Stop n σ g w := by
 obtain ⟨fn, c, h1, h2, h3⟩ := hb.out
 exact stop_still hE hn (fun w => step_call hg h1 h2 h3 w) hr rfl hJ hk ha h
theorem budM {m N n : Nat} (h : m + (N + 1 + 1) * 100 <= n) : m + (N + 1) * 100 <= n - 1 - 60 /\ 1 <= n /\ 60 <= n - 1 := by
 simp only [Nat.sub_sub]
 omega
theorem halfM {N : Nat} {y : Int} (hy : y < 2 ^ (N + 1)) (h0 : 0 <= y) : y.fdiv 2 < 2 ^ N /\ 0 <= y.fdiv 2 := by
 rw [Int.fdiv_eq_ediv_of_nonneg _ (by decide)]
 have : (2 : Int) ^ (N + 1) = 2 * 2 ^ N := by rw [Int.pow_succ, Int.mul_comm]
 omega
theorem mul_loop (hE : E.Ok) (ha : (σ.wk k).fin ≠ 1) : ∀ (N : Nat) (n : Nat) (J' : Nat -> Value) (x y a : Int) (σ₁ : Gh) (w₁ : World), m + (N + 1) * 100 <= n -> y < 2 ^ N -> 0 <= y -> RW E k σ w σ₁ w₁ -> k < σ.num -> (∀ σ' w', RW E k σ w σ' w' -> GWt E k Stop m σ' (back fr cs (.int .i64 (mulF N x y a))) w') -> GWt E k Stop n σ₁ (MLS fr cs J' x y a) w₁ := by
 intro N
 induction N with
 | zero =>
  intro n J' x y a σ₁ w₁ hn hy h0 hw hk h
  have hk1 : k < σ₁.num := Nat.lt_of_lt_of_le hk hw.num
  have hy0 : y = 0 := by simp at hy; omega
  refine stop_still hE (by omega) (eM1 fr cs J' x y a) (rM fr cs J' x y a) (aM3 fr cs J' x y a).head hw.j hk1 (by rw [hw.wk]; exact ha) fun σ₂ w₂ hw2 => ?_
  refine GoesW.sub (F := 60) (by omega) (run0 (cMe_ok (y := y) (by simp [hy0])) (aM3 fr cs J' x y a) hw2.j (by rw [hw2.wk, hw.wk]; exact ha) fun σ₃ w₃ hw3 => ?_)
  have hw13 := (hw.trans hw2).trans hw3
  refine stop_still hE (by omega) (eM3 fr cs J' x y a) (rM3 fr cs J' x y a) rfl hw13.j (Nat.lt_of_lt_of_le hk hw13.num) (by rw [hw13.wk]; exact ha) fun σ₄ w₄ hw4 => ?_
  exact (h σ₄ w₄ (hw13.trans hw4)).mono (by omega)
 | succ N ih =>
  intro n J' x y a σ₁ w₁ hn hy h0 hw hk h
  have hk1 : k < σ₁.num := Nat.lt_of_lt_of_le hk hw.num
  cases hb : decide (y > 0) with
  | false =>
   refine stop_still hE (by omega) (eM1 fr cs J' x y a) (rM fr cs J' x y a) (aM3 fr cs J' x y a).head hw.j hk1 (by rw [hw.wk]; exact ha) fun σ₂ w₂ hw2 => ?_
   refine GoesW.sub (F := 60) (by omega) (run0 (cMe_ok hb) (aM3 fr cs J' x y a) hw2.j (by rw [hw2.wk, hw.wk]; exact ha) fun σ₃ w₃ hw3 => ?_)
   have hw13 := (hw.trans hw2).trans hw3
   refine stop_still hE (by omega) (eM3 fr cs J' x y a) (rM3 fr cs J' x y a) rfl hw13.j (Nat.lt_of_lt_of_le hk hw13.num) (by rw [hw13.wk]; exact ha) fun σ₄ w₄ hw4 => ?_
   have h := h σ₄ w₄ (hw13.trans hw4)
   unfold mulF at h
   rw [hb, cond_false] at h
   exact h.mono (by omega)
  | true =>
   have hr := aM2 fr cs J' x y a (bits .and .i64 y 1 == 1)
   refine stop_still hE (by omega) (eM1 fr cs J' x y a) (rM fr cs J' x y a) hr.head hw.j hk1 (by rw [hw.wk]; exact ha) fun σ₂ w₂ hw2 => ?_
   refine GoesW.sub (F := 60) (by omega) (run0 (cM_ok hb rfl) hr hw2.j (by rw [hw2.wk, hw.wk]; exact ha) fun σ₃ w₃ hw3 => ?_)
   have hw13 := (hw.trans hw2).trans hw3
   show GWt E k Stop _ σ₃ (gM2 fr cs J' x y a true (bits .and .i64 y 1 == 1)) w₃
   rw [hM2]
   have hyp : y > 0 := of_decide_eq_true hb
   refine ih (n - 1 - 60) _ _ _ _ σ₃ w₃ (budM hn).1 (halfM hy h0).1 (halfM hy h0).2 hw13 hk fun σ' w' hw' => ?_
   have h := h σ' w' hw'
   unfold mulF at h
   rw [hb, cond_true] at h
   exact h
theorem mul_w (hE : E.Ok) (hJ : J E σ w) (hk : k < σ.num) (ha : (σ.wk k).fin ≠ 1) {n : Nat} {x y : Int} (hn : m + 7000 <= n) (hy : y < 2 ^ 64) (h0 : 0 <= y) (h : ∀ σ' w', RW E k σ w σ' w' -> GWt E k Stop m σ' (back fr cs (.int .i64 (mulF 64 x y 0))) w') : GWt E k Stop n σ (enter Try.prog 86 #[.int .i64 x, .int .i64 y] (fr :: cs)) w := by
 refine GoesW.sub (F := 60) (by omega) (run0 (cX_ok xHeadM) (aM0 fr cs x y) hJ ha fun σ₁ w₁ hw1 => ?_)
 show GWt E k Stop _ σ₁ (gM0 fr cs x y) w₁
 rw [hM0]
 exact mul_loop hE ha 64 _ _ x y 0 σ₁ w₁ (by omega) hy h0 hw1 hk h
theorem known_own {B : Nat} {vs : Array Value} {t : TypeId} (hJ : J E σ w) (h7 : (σ.wk k).fin = 7) (hp : σ.pv B = k + 1) (hrow : w.heap[B]? = some (.cells vs t)) {fn : FuncId} {off : Nat} {v : Value} (hv : vs[off]? = some v) : Known E Try.prog k σ w (fn, ⟨B, off, none⟩, v) :=
 ⟨by show w.cell? ⟨B, off, none⟩ = some v; rw [cell_of rfl (show w.heap[(⟨B, off, none⟩ : Addr).block]? = _ from hrow)]; exact hv, ⟨(hJ.pv B (by omega)).1, .inr hp⟩, .inr h7⟩
theorem eN1 (B : Nat) (a b f : Int) (w : World) : stepG Try.prog false (gN1 fr cs a b f B) w = .go (inOrd (gN1 fr cs a b f B) opsN kN (Region.schedule (Try.prog.follows .mixedOrders) opsN (w.tape w.drawn (.order 75 idN)))) w.asked #[] := by kernel_rfl
def Wk.pay (x : Wk) (d : Nat) : Wk := { x with due := x.due - d }
theorem pay_pay (x : Wk) (a b : Nat) : (x.pay a).pay b = x.pay (a + b) := by unfold Wk.pay; simp [Nat.sub_sub]
theorem next_w (hE : E.Ok) (hJ : J E σ w) (hk : k < σ.num) (h7 : (σ.wk k).fin = 7) (hd : 1 <= (σ.wk k).due) {n : Nat} {a b f : Int} (hn : m + 8000 <= n) (hf : f < 2 ^ 64) (h0 : 0 <= f) (h : ∀ σ' w', Keep E k σ w σ' w' -> σ'.wk k = (σ.wk k).pay 1 -> GWt E k Stop m σ' (back fr cs (.int .i64 (nextF a b f))) w') :
  GWt E k Stop n σ (enter Try.prog 75 #[.agg #[.int .i64 a, .int .i64 b], .int .i64 f] (fr :: cs)) w := by
 have ha : (σ.wk k).fin ≠ 1 := by omega
 refine GoesW.sub (F := 60) (by omega) (run0 cW_ok (aN0 fr cs a b f) hJ ha fun σ₁ w₁ hw1 => ?_)
 have hk1 : k < σ₁.num := Nat.lt_of_lt_of_le hk hw1.num
 refine GoesW.sub (F := 1) (by omega) (stop_new hE (bN0 fr cs a b f) (Run.last (aN0 fr cs a b f)) (fun v => (Run.last (aN0 fr cs a b f) : isRun (gN0 fr cs a b f) = true)) hw1.j hk1 (by rw [hw1.wk]; exact h7) (by rw [hw1.wk]; exact hd) fun σ₂ w₂ B hK2 hx2 hB hB2 hpv hrow => ?_)
 have hK12 := hw1.keep.trans hK2
 have hx2 : σ₂.wk k = (σ.wk k).pay 1 := by rw [hx2, hw1.wk]; rfl
 have hk2 : k < σ₂.num := Nat.lt_of_lt_of_le hk hK12.num
 have h72 : (σ₂.wk k).fin = 7 := by rw [hx2]; exact h7
 have ha2 : (σ₂.wk k).fin ≠ 1 := by omega
 refine GoesW.sub (F := 60) (by omega) (run0 cW_ok (aN1 fr cs a b f B) hK2.j ha2 fun σ₃ w₃ hw3 => ?_)
 have hk3 : k < σ₃.num := Nat.lt_of_lt_of_le hk2 hw3.num
 refine GoesW.sub (F := 1) (by omega) (goW (Run.last (aN1 fr cs a b f B)) hk3 fun σ₄ w₄ hw4 hk4 => ?_)
 have hmem := schedule_mem (Try.prog.follows .mixedOrders) opsN (w₄.tape w₄.drawn (.order 75 idN))
 have heq := eN1 (fr := fr) (cs := cs) B a b f w₄
 generalize Region.schedule (Try.prog.follows .mixedOrders) opsN (w₄.tape w₄.drawn (.order 75 idN)) = o at hmem heq
 have hmem : o ∈ ordN := hmem
 have f1 := map_all (aN2o fr cs a b f B) o hmem
 simp only [Prod.mk.injEq] at f1
 obtain ⟨o1, o2, o3⟩ := f1
 have R1 : Run Try.prog (cN a b) 40 (inOrd (gN1 fr cs a b f B) opsN kN o) := ⟨fun w => map_all (aN2s fr cs a b f B w) o hmem, o1⟩
 have hi : RW E k σ₄ w₄ σ₄ w₄.asked := RW.idle hE hw4.j .asked hw4.j.four.asked
 have hw24 := (hw3.trans hw4).trans hi
 have ha4 : (σ₄.wk k).fin ≠ 1 := by rw [hw24.wk]; exact ha2
 refine ⟨_, w₄.asked, #[], σ₄, heq, Turn.idle hE hw4.j ha4 .asked hw4.j.four.asked, R1.head, no_wake (Nat.le_refl _) rfl, ?_⟩
 have kn : ∀ {σ' : Gh} {w' : World}, RW E k σ₂ w₂ σ' w' -> ∀ (l : List Nat), ∀ x ∈ l.filterMap (ldN a b B), Known E Try.prog k σ' w' x := fun {σ' w'} hw' l x hx => by
  obtain ⟨i, _, hi⟩ := List.mem_filterMap.1 hx
  have hk2' : Known E Try.prog k σ₂ w₂ x := by
   unfold ldN at hi
   split at hi
   · cases hi; exact known_own hK2.j h72 hpv hrow rfl
   · cases hi; exact known_own hK2.j h72 hpv hrow rfl
   · cases hi
  exact hk2'.keep hw'.keep (by rw [hw'.wk])
 refine GoesW.sub (F := 40) (by simp only [Nat.sub_sub]; omega) (runW rfl (fun f d x h => by cases h) 40 R1 hi.j ha4 (by rw [o3]; exact kn hw24 _) fun σ₅ w₅ hw5 => ?_)
 have hw25 := hw24.trans hw5
 have ha5 : (σ₅.wk k).fin ≠ 1 := by rw [hw25.wk]; exact ha2
 refine stop_call hE (by simp only [Nat.sub_sub]; omega) o2 hb86 R1.last hw5.j (Nat.lt_of_lt_of_le hk2 hw25.num) ha5 fun σ₆ w₆ hw6 => ?_
 have hw26 := hw25.trans hw6
 refine mul_w hE hw6.j (Nat.lt_of_lt_of_le hk2 hw26.num) (by rw [hw26.wk]; exact ha2) (m := m + 200) (by simp only [Nat.sub_sub]; omega) hf h0 fun σ₇ w₇ hw7 => ?_
 show GWt E k Stop (m + 200) σ₇ (back (gN2 fr cs a b f B o).frame (gN2 fr cs a b f B o).callers (.int .i64 (mulF 64 a f 0))) w₇
 rw [back_fin o2]
 have hw27 := hw26.trans hw7
 have f2 := fun w => map_all (aN3o fr cs a b f B (mulF 64 a f 0) w) o hmem
 have f2a := f2 w
 simp only [Prod.mk.injEq] at f2a
 obtain ⟨p1, p2, p3, _⟩ := f2a
 have R2 : Run Try.prog (cN' a b) 40 (fin (gN2 fr cs a b f B o) (.int .i64 (mulF 64 a f 0))) := ⟨fun w => map_all (aN3s fr cs a b f B (mulF 64 a f 0) w) o hmem, p1⟩
 show GWt E k Stop (m + 200) σ₇ (fin (gN2 fr cs a b f B o) (.int .i64 (mulF 64 a f 0))) w₇
 refine GoesW.sub (F := 40) (by omega) (runW rfl (fun f d x h => by cases h) 40 R2 hw7.j (by rw [hw27.wk]; exact ha2) (by rw [p3]; exact kn hw27 _) fun σ₈ w₈ hw8 => ?_)
 have hw28 := hw27.trans hw8
 show GWt E k Stop _ σ₈ (gN3 fr cs a b f B o (mulF 64 a f 0)) w₈
 refine stop_still hE (by omega) (fun w => by have := f2 w; simp only [Prod.mk.injEq] at this; exact this.2.2.2) p2 rfl hw8.j (Nat.lt_of_lt_of_le hk2 hw28.num) (by rw [hw28.wk]; exact ha2) fun σ₉ w₉ hw9 => ?_
 have hw29 := hw28.trans hw9
 exact (h σ₉ w₉ (hK12.trans hw29.keep) (by rw [hw29.wk, hx2])).mono (by omega)
end
section
variable {E : Env} {k : Nat} {Stop : Gh -> Goroutine -> World -> Prop} {fr : Frame} {cs : List Frame} {m : Nat} {σ : Gh} {w : World}
theorem isRun_fin (g : Goroutine) (v : Value) : isRun (fin g v) = isRun g := rfl
theorem pair_w (hE : E.Ok) (hJ : J E σ w) (hk : k < σ.num) (h7 : (σ.wk k).fin = 7) (hd : 2 <= (σ.wk k).due) {n : Nat} {x y : Int} (hn : m + 20000 <= n) (h : ∀ σ' w', Keep E k σ w σ' w' -> σ'.wk k = (σ.wk k).pay 2 -> GWt E k Stop m σ' (back fr cs (.int .i64 (pairF x y))) w') :
  GWt E k Stop n σ (enter Try.prog 60 #[.int .i64 x, .int .i64 y] (fr :: cs)) w := by
 have ha : (σ.wk k).fin ≠ 1 := by omega
 have hn1 : 60 <= n := by omega
 refine GoesW.sub (F := 60) hn1 (run0 (cX_ok _) (aPp0 fr cs x y) hJ ha fun σ₁ w₁ hw1 => ?_)
 have hk1 : k < σ₁.num := Nat.lt_of_lt_of_le hk hw1.num
 refine stop_call hE (by omega) (bPp0 fr cs x y) hb75 (Run.last (aPp0 fr cs x y)) hw1.j hk1 (by rw [hw1.wk]; exact ha) fun σ₂ w₂ hw2 => ?_
 have hw12 := hw1.trans hw2
 have hk2 : k < σ₂.num := Nat.lt_of_lt_of_le hk hw12.num
 refine next_w hE (m := m + 10000) hw2.j hk2 (by rw [hw12.wk]; exact h7) (by rw [hw12.wk]; omega) (by omega) (by decide) (by decide) fun σ₃ w₃ hK3 hx3 => ?_
 have hK13 := hw12.keep.trans hK3
 have hx3 : σ₃.wk k = (σ.wk k).pay 1 := by rw [hx3, hw12.wk]
 have hk3 : k < σ₃.num := Nat.lt_of_lt_of_le hk hK13.num
 show GWt E k Stop (m + 10000) σ₃ (back (gP0' fr cs x y).frame (gP0' fr cs x y).callers (.int .i64 (nextF y 7 31))) w₃
 rw [back_fin (bPp0 fr cs x y)]
 refine GoesW.sub (F := 60) (by omega) (run0 (cX_ok _) (aPp1 fr cs x y (nextF y 7 31)) hK3.j (by rw [hx3]; exact ha) fun σ₄ w₄ hw4 => ?_)
 have hk4 : k < σ₄.num := Nat.lt_of_lt_of_le hk3 hw4.num
 refine stop_call hE (by omega) (bPp1 fr cs x y (nextF y 7 31)) hb75 (Run.last (aPp1 fr cs x y (nextF y 7 31))) hw4.j hk4 (by rw [hw4.wk, hx3]; exact ha) fun σ₅ w₅ hw5 => ?_
 have hw45 := hw4.trans hw5
 have hx5 : σ₅.wk k = (σ.wk k).pay 1 := by rw [hw45.wk, hx3]
 have hk5 : k < σ₅.num := Nat.lt_of_lt_of_le hk3 hw45.num
 refine next_w hE (m := m + 100) hw5.j hk5 (by rw [hx5]; exact h7) (by rw [hx5]; show 1 <= (σ.wk k).due - 1; omega) (by omega) (by decide) (by decide) fun σ₆ w₆ hK6 hx6 => ?_
 have hK16 := (hK13.trans hw45.keep).trans hK6
 have hx6 : σ₆.wk k = (σ.wk k).pay 2 := by rw [hx6, hx5, pay_pay]
 have hk6 : k < σ₆.num := Nat.lt_of_lt_of_le hk hK16.num
 show GWt E k Stop (m + 100) σ₆ (back (gP1' fr cs x y (nextF y 7 31)).frame (gP1' fr cs x y (nextF y 7 31)).callers (.int .i64 (pairF x y))) w₆
 rw [back_fin (bPp1 fr cs x y (nextF y 7 31))]
 refine GoesW.sub (F := 60) (by omega) (run0 (cX_ok _) (aPp2 fr cs x y (nextF y 7 31) (pairF x y)) hK6.j (by rw [hx6]; exact ha) fun σ₇ w₇ hw7 => ?_)
 refine stop_still hE (by omega) (ePp2 fr cs x y (nextF y 7 31) (pairF x y)) (rPp2 fr cs x y (nextF y 7 31) (pairF x y)) rfl hw7.j (Nat.lt_of_lt_of_le hk6 hw7.num) (by rw [hw7.wk, hx6]; exact ha) fun σ₈ w₈ hw8 => ?_
 have hw78 := hw7.trans hw8
 exact (h σ₈ w₈ (hK16.trans hw78.keep) (by rw [hw78.wk, hx6])).mono (by omega)
theorem tQ4 (x y r : Int) (B : Nat) : (gQ4' fr cs x y r B).frame.tmps.getD 5 undef = .pointer (some ⟨B, 0, none⟩) := by kernel_rfl
theorem tQ4' (x y r : Int) (B : Nat) : (gQ4' fr cs x y r B).frame.tmps.getD 4 undef = .int .i64 r := by kernel_rfl
theorem sQ4 (x y r : Int) (B : Nat) : gQ4' fr cs x y r B = { frame := { fn := 39, tmps := (gQ4' fr cs x y r B).frame.tmps, todo := (gQ4' fr cs x y r B).frame.todo, defers := [], mode := .returning, kind := .normal }, callers := fr :: cs, status := .running, dying := none } := by kernel_rfl
theorem f39 : Try.prog.funcs[39]? = some Try.f39 := by kernel_rfl
theorem r39 : Try.f39.results = #[.tmp 4, .cell 5 25] := by kernel_rfl
theorem a25 : aggB Try.prog 25 = some true := by kernel_rfl
theorem z25 : (Try.prog.info? 25).map (·.size) = some 2 := by kernel_rfl
theorem n39 : norace Try.prog 39 = false := by kernel_rfl
theorem nQ3 (x y r : Int) (B : Nat) : (gQ3' fr cs x y r B).frame.fn = 39 := by kernel_rfl
theorem Pair_w (hE : E.Ok) (hJ : J E σ w) (hk : k < σ.num) (h7 : (σ.wk k).fin = 7) (hd : 3 <= (σ.wk k).due) {n : Nat} {x y : Int} (hx : inM x) (hy : inM y) (hn : m + 25000 <= n) (h : ∀ σ' w', Keep E k σ w σ' w' -> σ'.wk k = (σ.wk k).pay 3 -> GWt E k Stop m σ' (back fr cs (.tuple #[.int .i64 (pairF x y), .agg #[.int .i64 0, .int .i64 0]])) w') :
  GWt E k Stop n σ (enter Try.prog 39 #[.int .i64 x, .int .i64 y] (fr :: cs)) w := by
 have ha : (σ.wk k).fin ≠ 1 := by omega
 have hn1 : 60 <= n := by omega
 refine GoesW.sub (F := 60) hn1 (run0 cW_ok (aQp0 fr cs x y) hJ ha fun σ₁ w₁ hw1 => ?_)
 have hk1 : k < σ₁.num := Nat.lt_of_lt_of_le hk hw1.num
 refine GoesW.sub (F := 1) (by omega) (stop_new hE (bQp0 fr cs x y) (Run.last (aQp0 fr cs x y)) (fun v => (isRun_fin _ v).trans (Run.last (aQp0 fr cs x y))) hw1.j hk1 (by rw [hw1.wk]; exact h7) (by rw [hw1.wk]; omega) fun σ₂ w₂ B hK2 hx2 hB hB2 hpv hrow => ?_)
 have hK12 := hw1.keep.trans hK2
 have hx2 : σ₂.wk k = (σ.wk k).pay 1 := by rw [hx2, hw1.wk]; rfl
 have hk2 : k < σ₂.num := Nat.lt_of_lt_of_le hk hK12.num
 have ha2 : (σ₂.wk k).fin ≠ 1 := by rw [hx2]; exact ha
 refine GoesW.sub (F := 100) (by simp only [Nat.sub_sub]; omega) (run0 (cIs_ok _ hx.1 hx.2) (aQp1 fr cs x y B) hK2.j ha2 fun σ₃ w₃ hw3 => ?_)
 refine GoesW.sub (F := 150) (by simp only [Nat.sub_sub]; omega) (run0 (cIs_ok _ hy.1 hy.2) (aQp2 fr cs x y B) hw3.j (by rw [hw3.wk]; exact ha2) fun σ₄ w₄ hw4 => ?_)
 have hw24 := hw3.trans hw4
 refine stop_call hE (by simp only [Nat.sub_sub]; omega) (bQp2 fr cs x y B) hb60 (Run.last (aQp2 fr cs x y B)) hw4.j (Nat.lt_of_lt_of_le hk2 hw24.num) (by rw [hw24.wk]; exact ha2) fun σ₅ w₅ hw5 => ?_
 have hw25 := hw24.trans hw5
 have hx5 : σ₅.wk k = (σ.wk k).pay 1 := by rw [hw25.wk, hx2]
 have hk5 : k < σ₅.num := Nat.lt_of_lt_of_le hk2 hw25.num
 refine pair_w hE (m := m + 300) hw5.j hk5 (by rw [hx5]; exact h7) (by rw [hx5]; show 2 <= (σ.wk k).due - 1; omega) (by simp only [Nat.sub_sub]; omega) fun σ₆ w₆ hK6 hx6 => ?_
 have hK26 := hw25.keep.trans hK6
 have hK16 := hK12.trans hK26
 have hx6 : σ₆.wk k = (σ.wk k).pay 3 := by rw [hx6, hx5, pay_pay]
 have hk6 : k < σ₆.num := Nat.lt_of_lt_of_le hk hK16.num
 have own : ∀ {σ' : Gh} {w' : World} {vs : Array Value} {t : TypeId}, σ'.pv B = k + 1 -> J E σ' w' -> w'.heap[B]? = some (.cells vs t) -> ∀ {τ : Gh} {v : World}, RW E k σ' w' τ v -> τ.pv B = k + 1 /\ v.heap[B]? = some (.cells vs t) := fun {σ' w' vs t} hp hJ' hr {τ v} hw' => by
  have hlt := (hJ'.pv B (by omega)).1
  exact ⟨by rw [hw'.pv B hlt]; exact hp, by rw [hw'.mem B hlt (.inr hp)]; exact hr⟩
 have hp6 : σ₆.pv B = k + 1 := by rw [hK26.pv B hB2]; exact hpv
 have hr6 : w₆.heap[B]? = some (.cells #[.int .i64 0, .int .i64 0] 25) := by rw [hK26.mem B hB2 (.inr hpv)]; exact hrow
 show GWt E k Stop (m + 300) σ₆ (back (gQ2' fr cs x y B).frame (gQ2' fr cs x y B).callers (.int .i64 (pairF x y))) w₆
 rw [back_fin (bQp2 fr cs x y B)]
 generalize pairF x y = r at *
 refine GoesW.sub (F := 60) (by omega) (run0 cW_ok (aQp3 fr cs x y r B) hK6.j (by rw [hx6]; exact ha) fun σ₇ w₇ hw7 => ?_)
 obtain ⟨hp7, hr7⟩ := own hp6 hK6.j hr6 hw7
 have hK17 := hK16.trans hw7.keep
 have hx7 : σ₇.wk k = (σ.wk k).pay 3 := by rw [hw7.wk, hx6]
 have hk7 : k < σ₇.num := Nat.lt_of_lt_of_le hk6 hw7.num
 refine GoesW.sub (F := 1) (by omega) (stepW (Run.last (aQp3 fr cs x y r B)) fun σ₈ w₈ hw8 => ?_)
 obtain ⟨hp8, hr8⟩ := own hp7 hw7.j hr7 hw8
 have hx8 : σ₈.wk k = (σ.wk k).pay 3 := by rw [hw8.wk, hx7]
 have hk8 : k < σ₈.num := Nat.lt_of_lt_of_le hk7 hw8.num
 have hst := step_store2 (main := false) (bQp3 fr cs x y r B) hr8
 rw [nQ3, n39] at hst
 have hBs : σ.hs <= B := Nat.le_trans hw1.hs hB
 have hK18 := (hK17.trans hw8.keep).row hE hBs hp8 (vs := #[.int .i64 0, .int .i64 0]) (t := 25)
 refine ⟨_, _, _, σ₈, hst, DW.row hE hw8.j (by rw [hx8]; exact h7) hp8 (fun e he => by
  simp only [Bool.false_eq_true, if_false, List.mem_toArray, List.mem_cons, List.not_mem_nil, or_false] at he
  rcases he with rfl | rfl
  · exact ⟨0, true, rfl⟩
  · exact ⟨1, true, rfl⟩) (isRun_out (aQp4 fr cs x y r B).head).1, ?_⟩
 have hr8' : (World.row w₈ B #[.int .i64 0, .int .i64 0] 25).heap[B]? = some (.cells #[.int .i64 0, .int .i64 0] 25) := row_same (Array.getElem?_eq_some_iff.1 hr8).1
 generalize World.row w₈ B #[.int .i64 0, .int .i64 0] 25 = v8 at *
 refine GoesW.sub (F := 60) (by omega) (run0 cW_ok (aQp4 fr cs x y r B) hK18.j (by rw [hx8]; exact ha) fun σ₉ w₉ hw9 => ?_)
 obtain ⟨hp9, hr9⟩ := own hp8 hK18.j hr8' hw9
 have hK19 := hK18.trans hw9.keep
 have hx9 : σ₉.wk k = (σ.wk k).pay 3 := by rw [hw9.wk, hx8]
 refine GoesW.sub (F := 1) (by omega) (stepW (rQp4 fr cs x y r B) fun σa wa hwa => ?_)
 obtain ⟨hpa, hra⟩ := own hp9 hw9.j hr9 hwa
 have hxa : σa.wk k = (σ.wk k).pay 3 := by rw [hwa.wk, hx9]
 have hst2 := step_leaveC (P := Try.prog) (main := false) (w := wa) (todo := (gQ4' fr cs x y r B).frame.todo) (fr := fr) (cs := cs) f39 r39 (tQ4 (fr := fr) (cs := cs) x y r B) a25 z25 hra
 rw [<- sQ4, tQ4', n39] at hst2
 have hKa := hK19.trans hwa.keep
 refine ⟨_, wa, _, σa, hst2, ?_, (h σa wa hKa hxa).mono (by omega)⟩
 have hd0 : DW E Try.prog k σa wa (gQ4' fr cs x y r B) #[] σa wa (back fr cs (.tuple #[.int .i64 r, .agg #[.int .i64 0, .int .i64 0]])) := DW.quiet hwa.j (by rw [hxa]; exact ha) rfl
 exact ⟨hd0.j, hd0.own, hd0.num, hd0.ms, hd0.mdf, hd0.dm, hd0.hs, hd0.pv, hd0.pvn, hd0.low, hd0.mem, hd0.pot, hd0.dd, hd0.cnt, hd0.alive, hd0.run, rfl, hd0.wake, hd0.writ, fun e he => by
  simp only [Bool.false_eq_true, if_false, List.mem_toArray, List.mem_cons, List.not_mem_nil, or_false] at he
  have hlt := (hwa.j.pv B (by omega)).1
  rcases he with rfl | rfl <;> exact ⟨by simp, hlt, fun y hy => by
   simp only [MemAct.ofEvent, MemAct.touch?, Option.some.injEq] at hy
   subst hy
   exact .inr (.inr (.inr ⟨rfl, _, rfl, hpa⟩))⟩, fun h6 => by rw [hxa] at h6; have h6 : (σ.wk k).fin <= 6 := h6; omega⟩
theorem step_idx {P : Program} {main : Bool} {g : Goroutine} {w : World} {ad : Addr} {n sz : Nat} {j : Int} (h : isIdx P g = some (ad, n, j, sz)) (h0 : 0 <= j) (h1 : j < (n : Int)) : stepG P main g w = .go (fin g (.pointer (some (ad.add (j.toNat * sz))))) w #[] := by
 unfold isIdx at h
 split at h
 · next o ho =>
   split at h
   · next t x i hop =>
     split at h
     · next e ad' n' c kk j' hu hx hi =>
       obtain ⟨inf, hinf, he⟩ := Option.map_eq_some_iff.1 h
       cases he
       have hsz : (P.info? e).map (·.size) = some inf.size := by rw [hinf]; rfl
       have hr0 : (Instr.indexAt t (.slice (some ad) n c) (.int kk j)).run P w = .ok (.pointer (some (ad.add (j.toNat * inf.size)))) w := by
        simp [Instr.indexAt, asIntOf, run_underlying hu, h0, h1, run_sizeOf hsz]
       have he0 : (Instr.indexAt t (.slice (some ad) n c) (.int kk j)).events P w #[] = #[] := by
        simp [Instr.indexAt, asIntOf, run_underlying hu, h0, h1, run_sizeOf hsz]
       have hr : (execOp g.frame.eval o).run P w = .ok (.value (.pointer (some (ad.add (j.toNat * inf.size))))) w := by
        unfold execOp
        simp only [hop, hx, hi, Sem.run_bind, hr0, Result.andThen_ok]
        rfl
       have hev : (execOp g.frame.eval o).events P w #[] = #[] := by
        unfold execOp
        simp only [hop, hx, hi, Sem.events_bind, Sem.run_bind, hr0, he0, Result.evThen_ok]
        rfl
       rw [step_val ho hr, hev, seen_none]
     · cases h
   · cases h
 · cases h
theorem getD_lt {l : List Int} {i : Nat} (h : i < l.length) : l.getD i 0 = l[i] := by simp [List.getD, h]
structure Nums (E : Env) (k : Nat) (σ : Gh) (w : World) (fn : FuncId) (p : Option Addr) (zs : List Int) : Prop where
 at_ : ∀ i, i < zs.length -> ∃ ad, p = some ad /\ Known E Try.prog k σ w (fn, ad.add (i * 1), .int .i64 (zs.getD i 0))
theorem Nums.keep {σ' : Gh} {w' : World} {fn : FuncId} {p : Option Addr} {zs : List Int} (h : Nums E k σ w fn p zs) (hK : Keep E k σ w σ' w') (hf : (σ'.wk k).fin = (σ.wk k).fin) : Nums E k σ' w' fn p zs :=
 ⟨fun i hi => let ⟨ad, e, hk⟩ := h.at_ i hi; ⟨ad, e, hk.keep hK hf⟩⟩
theorem budF {m q n : Nat} (h : m + (q + 1 + 1) * 27000 <= n) : m + (q + 1) * 27000 <= n - 1 - 60 - 1 - 60 - 1 - 25000 - 60 /\ 1 <= n /\ 60 <= n - 1 /\ 1 <= n - 1 - 60 /\ 60 <= n - 1 - 60 - 1 /\ 1 <= n - 1 - 60 - 1 - 60 /\ (m + (q + 1) * 27000 + 60) + 25000 <= n - 1 - 60 - 1 - 60 - 1 := by
 simp only [Nat.sub_sub]
 omega
theorem fold_loop (hE : E.Ok) (h7 : (σ.wk k).fin = 7) {p : Option Addr} {c : Nat} {zs : List Int} (hz : ∀ v ∈ zs, inM v) (hN : Nums E k σ w 29 p zs) (hk : k < σ.num) (hlen : zs.length < 4611686018427387904) : ∀ (q n : Nat) (J' : Nat -> Value) (i : Nat) (a : Int) (σ₁ : Gh) (w₁ : World), m + (q + 1) * 27000 <= n -> i + q = zs.length -> inM a -> Keep E k σ w σ₁ w₁ -> σ₁.wk k = (σ.wk k).pay (3 * i) -> 3 * zs.length <= (σ.wk k).due ->
  (∀ σ' w', Keep E k σ w σ' w' -> σ'.wk k = (σ.wk k).pay (3 * zs.length) -> GWt E k Stop m σ' (back fr cs (.int .i64 ((zs.drop i).foldl pairF a))) w') -> GWt E k Stop n σ₁ (FLS fr cs J' p zs.length c (i : Int) a) w₁ := by
 intro q
 induction q with
 | zero =>
  intro n J' i a σ₁ w₁ hn hi ha hK hx hd h
  have hk1 : k < σ₁.num := Nat.lt_of_lt_of_le hk hK.num
  have hfa : (σ₁.wk k).fin ≠ 1 := by rw [hx]; show (σ.wk k).fin ≠ 1; omega
  have e : i = zs.length := by omega
  refine stop_still hE (by omega) (eFp1 fr cs J' p zs.length c (i : Int) a) (rFp fr cs J' p zs.length c (i : Int) a) (aFp5 fr cs J' p zs.length c (i : Int) a).head hK.j hk1 hfa fun σ₂ w₂ hw2 => ?_
  refine GoesW.sub (F := 60) (by omega) (run0 (cF_ok _ (by simp; omega)) (aFp5 fr cs J' p zs.length c (i : Int) a) hw2.j (by rw [hw2.wk]; exact hfa) fun σ₃ w₃ hw3 => ?_)
  have hw13 := hw2.trans hw3
  refine stop_still hE (by omega) (eFp5 fr cs J' p zs.length c (i : Int) a) (rFp5 fr cs J' p zs.length c (i : Int) a) rfl hw3.j (Nat.lt_of_lt_of_le hk1 hw13.num) (by rw [hw13.wk]; exact hfa) fun σ₄ w₄ hw4 => ?_
  have hw14 := hw13.trans hw4
  have h := h σ₄ w₄ (hK.trans hw14.keep) (by rw [hw14.wk, hx, e])
  rw [e, List.drop_length] at h
  exact h.mono (by omega)
 | succ q ih =>
  intro n J' i a σ₁ w₁ hn hi ha hK hx hd h
  obtain ⟨u1, u2, u3, u4, u5, u6, u7⟩ := budF hn
  clear hn
  have hk1 : k < σ₁.num := Nat.lt_of_lt_of_le hk hK.num
  have h71 : (σ₁.wk k).fin = 7 := by rw [hx]; exact h7
  have hfa : (σ₁.wk k).fin ≠ 1 := by rw [h71]; decide
  have hlt : i < zs.length := by omega
  obtain ⟨ad, rfl, hkn⟩ := hN.at_ i hlt
  refine stop_still hE u2 (eFp1 fr cs J' (some ad) zs.length c (i : Int) a) (rFp fr cs J' (some ad) zs.length c (i : Int) a) (aFp2 fr cs J' (some ad) zs.length c (i : Int) a).head hK.j hk1 hfa fun σ₂ w₂ hw2 => ?_
  refine GoesW.sub (F := 60) u3 (run0 (cF_ok _ (by simp; omega)) (aFp2 fr cs J' (some ad) zs.length c (i : Int) a) hw2.j (by rw [hw2.wk]; exact hfa) fun σ₃ w₃ hw3 => ?_)
  have hw13 := hw2.trans hw3
  have hst := fun w => step_idx (main := false) (w := w) (bFp2 fr cs J' zs.length c (i : Int) a ad) (by omega) (by omega)
  rw [Int.toNat_natCast] at hst
  have hR3 := aFp3 fr cs J' (some ad) zs.length c (i : Int) a (ad.add (i * 1)) (zs.getD i 0)
  refine stop_still hE u4 hst (rFp2 fr cs J' zs.length c (i : Int) a ad) hR3.head hw3.j (Nat.lt_of_lt_of_le hk1 hw13.num) (by rw [hw13.wk]; exact hfa) fun σ₄ w₄ hw4 => ?_
  have hw14 := hw13.trans hw4
  have hK14 := hK.trans hw14.keep
  refine GoesW.sub (F := 60) u5 (runW rfl (fun f d x h => by cases h) 60 hR3 hw4.j (by rw [hw14.wk]; exact hfa) (fun x hx' => by
   rw [lFp3] at hx'
   simp only [List.mem_cons, List.not_mem_nil, or_false] at hx'
   subst hx'
   exact hkn.keep hK14 (by rw [hw14.wk, hx]; rfl)) fun σ₅ w₅ hw5 => ?_)
  have hw15 := hw14.trans hw5
  have hx5 : σ₅.wk k = (σ.wk k).pay (3 * i) := by rw [hw15.wk, hx]
  have hk5 : k < σ₅.num := Nat.lt_of_lt_of_le hk1 hw15.num
  refine stop_call hE u6 (bFp3 fr cs J' (some ad) zs.length c (i : Int) a (ad.add (i * 1)) (zs.getD i 0)) hb39 (Run.last hR3) hw5.j hk5 (by rw [hw15.wk]; exact hfa) fun σ₆ w₆ hw6 => ?_
  have hw16 := hw15.trans hw6
  have hx6 : σ₆.wk k = (σ.wk k).pay (3 * i) := by rw [hw16.wk, hx]
  have hv : inM (zs.getD i 0) := hz _ (by rw [getD_lt hlt]; exact List.getElem_mem hlt)
  refine Pair_w hE (m := m + (q + 1) * 27000 + 60) hw6.j (Nat.lt_of_lt_of_le hk1 hw16.num) (by rw [hx6]; exact h7) (by rw [hx6]; show 3 <= (σ.wk k).due - 3 * i; omega) ha hv u7 fun σ₇ w₇ hK7 hx7 => ?_
  have hx7 : σ₇.wk k = (σ.wk k).pay (3 * (i + 1)) := by rw [hx7, hx6, pay_pay]; rfl
  have hK17 := (hK.trans hw16.keep).trans hK7
  show GWt E k Stop (m + (q + 1) * 27000 + 60) σ₇ (back (gF3' fr cs J' (some ad) zs.length c (i : Int) a (ad.add (i * 1)) (zs.getD i 0)).frame (gF3' fr cs J' (some ad) zs.length c (i : Int) a (ad.add (i * 1)) (zs.getD i 0)).callers (.tuple #[.int .i64 (pairF a (zs.getD i 0)), .agg #[.int .i64 0, .int .i64 0]])) w₇
  rw [back_fin (bFp3 fr cs J' (some ad) zs.length c (i : Int) a (ad.add (i * 1)) (zs.getD i 0))]
  have hR4 := aFp4 fr cs J' (some ad) zs.length c (i : Int) a (ad.add (i * 1)) (zs.getD i 0) (pairF a (zs.getD i 0))
  refine run0 (cX_ok _) hR4 hK7.j (by rw [hx7]; show (σ.wk k).fin ≠ 1; omega) fun σ₈ w₈ hw8 => ?_
  show GWt E k Stop _ σ₈ (gF4' fr cs J' (some ad) zs.length c (i : Int) a (ad.add (i * 1)) (zs.getD i 0) (pairF a (zs.getD i 0))) w₈
  rw [hFp4, wrap_id (by omega) (by omega), show ((i : Int) + 1) = ((i + 1 : Nat) : Int) by omega]
  refine ih _ _ (i + 1) _ σ₈ w₈ (Nat.le_refl _) (by omega) (pairF_in ha hv) (hK17.trans hw8.keep) (by rw [hw8.wk, hx7]) hd fun σ' w' hK' hx' => ?_
  have h := h σ' w' hK' hx'
  rw [List.drop_eq_getElem_cons hlt, List.foldl_cons] at h
  rw [getD_lt hlt]
  exact h
theorem fold_w (hE : E.Ok) (hJ : J E σ w) (h7 : (σ.wk k).fin = 7) {p : Option Addr} {c n : Nat} {zs : List Int} (hz : ∀ v ∈ zs, inM v) (hN : Nums E k σ w 29 p zs) (hk : k < σ.num) (hlen : zs.length < 4611686018427387904) (hd : 3 * zs.length <= (σ.wk k).due) (hn : m + (zs.length + 1) * 27000 + 60 <= n)
  (h : ∀ σ' w', Keep E k σ w σ' w' -> σ'.wk k = (σ.wk k).pay (3 * zs.length) -> GWt E k Stop m σ' (back fr cs (.int .i64 (zs.foldl pairF 0))) w') : GWt E k Stop n σ (enter Try.prog 29 #[.slice p zs.length c] (fr :: cs)) w := by
 have hfa : (σ.wk k).fin ≠ 1 := by omega
 refine GoesW.sub (F := 60) (by omega) (run0 (cX_ok _) (aFp0 fr cs p zs.length c) hJ hfa fun σ₁ w₁ hw1 => ?_)
 show GWt E k Stop _ σ₁ (gF0' fr cs p zs.length c) w₁
 rw [hFp0]
 exact fold_loop (m := m) hE h7 hz hN hk hlen zs.length _ _ 0 0 σ₁ w₁ (by omega) (by omega) ⟨by decide, by decide⟩ hw1.keep (by rw [hw1.wk]; rfl) hd (by simpa using h)
end
namespace Rd
set_option maxRecDepth 100000
structure Adr where
 Mu : Nat
 Nx : Nat
 Wg : Nat
 T : Nat
 S : Nat
 V : Nat
 bw : Nat
 bf : Nat
abbrev pA (b : Nat) : Value := .pointer (some ⟨b, 0, none⟩)
abbrev stoV (A : Adr) : Value := .func (.func 31) #[] #[pA A.Mu, pA A.V]
abbrev wrkV (A : Adr) : Value := .func (.func 35) #[] #[pA A.Nx, pA A.T, pA A.S]
noncomputable def xHeadW (g : Goroutine) : Bool := match g.frame.todo with
 | .code (.block 1 _) :: .inLoop _ :: _ => g.frame.fn == 35
 | _ => false
noncomputable def xIn (f : FuncId) (g : Goroutine) : Bool := g.frame.fn == f
variable (A : Adr)
noncomputable def gC0 : Goroutine := { frame := { (default : Frame) with fn := Try.prog.funcs.size, defers := [{ target := .fn (.func 45) #[pA A.bw, pA A.bf], args := #[] }], mode := .panicking [goexitEntry] }, callers := [], status := .running, dying := none }
noncomputable def oC : Orc := fun f d => bif f == 45 && d == 3 then some (wrkV A) else none
noncomputable def cCs : Par := { O := oC A, X := xHeadW }
noncomputable def gC1 : Goroutine := endR Try.prog (cCs A) 60 (gC0 A)
theorem aC0 : Run Try.prog (cCs A) 60 (gC0 A) := ⟨fun w => by kernel_rfl, by kernel_rfl⟩
theorem lC0 : ldsR Try.prog (cCs A) 60 (gC0 A) = [(45, ⟨A.bf, 0, none⟩, wrkV A)] := by kernel_rfl
section
variable (J : Nat -> Value)
def tmWH : Array Value := ((List.range 18).map fun j => if j = 0 then pA A.Nx else if j = 1 then pA A.T else if j = 2 then pA A.S else J j).toArray
noncomputable def WHS : Goroutine := { frame := { (gC1 A).frame with tmps := tmWH A J }, callers := (gC1 A).callers, status := .running, dying := none }
theorem hC1 : gC1 A = WHS A (junk (gC1 A)) := by kernel_rfl
noncomputable def gW1 : Goroutine := nextQ Try.prog false (WHS A J)
theorem eW1 (w : World) : stepG Try.prog false (WHS A J) w = .go (gW1 A J) w #[] := by kernel_rfl
theorem rWH : isRun (WHS A J) = true := by kernel_rfl
noncomputable def gW2 : Goroutine := endR Try.prog cW 60 (gW1 A J)
theorem aW2 : Run Try.prog cW 60 (gW1 A J) := ⟨fun w => by kernel_rfl, by kernel_rfl⟩
theorem bW2 : isCall 48 (gW2 A J) = some [pA A.Nx, .int .i64 1] := by kernel_rfl
variable (x : Int) (tp : Option Addr) (n c : Nat)
noncomputable def vW (b : Bool) (f : FuncId) (d : Nat) : Option (Value × Value) := bif f == 35 && d == 9 then some (.bool b, .bool (decide (IntKind.i64.wrap (x - 1) ≥ (n : Int)))) else none
theorem vW_ok {x : Int} {n : Nat} {b : Bool} (h : decide (IntKind.i64.wrap (x - 1) ≥ (n : Int)) = b) {f : FuncId} {d : Nat} {z : Value × Value} (hz : vW x n b f d = some z) : z.1 = z.2 := by
 unfold vW at hz
 cases e1 : (f == 35 && d == 9) with
 | true => rw [e1, cond_true] at hz; cases hz; simp only [h]
 | false => rw [e1, cond_false] at hz; cases hz
noncomputable def oW (f : FuncId) (d : Nat) : Option Value := bif f == 35 && d == 7 then some (.slice tp n c) else bif f == 46 && d == 6 then some (pA A.Wg) else none
noncomputable def cWn (b : Bool) : Par := { O := oW A tp n c, V := vW x n b }
noncomputable def gW3 (b : Bool) : Goroutine := endR Try.prog (cWn A x tp n c b) 200 (fin (gW2 A J) (.int .i64 x))
theorem aW3 : Run Try.prog (cWn A x tp n c false) 200 (fin (gW2 A J) (.int .i64 x)) := ⟨fun w => by kernel_rfl, by kernel_rfl⟩
theorem lW3 : ldsR Try.prog (cWn A x tp n c false) 200 (fin (gW2 A J) (.int .i64 x)) = [(35, ⟨A.T, 0, none⟩, .slice tp n c)] := by kernel_rfl
noncomputable def gWd : Goroutine := gW3 ⟨0, 0, 0, 0, 0, 0, 0, 0⟩ (fun _ => undef) 0 none 0 0 false
noncomputable def opsW : Array Oper := match isDraw gWd with | some x => x.2.1 | none => #[]
noncomputable def kW : List Item := match isDraw gWd with | some x => x.2.2 | none => []
noncomputable def idW : Nat := match isDraw gWd with | some x => x.1 | none => 0
theorem eW3 (w : World) : stepG Try.prog false (gW3 A J x tp n c false) w = .go (inOrd (gW3 A J x tp n c false) opsW kW (Region.schedule (Try.prog.follows .mixedOrders) opsW (w.tape w.drawn (.order 35 idW)))) w.asked #[] := by kernel_rfl
theorem rW3 : isRun (gW3 A J x tp n c false) = true := by kernel_rfl
noncomputable def ordW : List (List Nat) := orders (Try.prog.follows .mixedOrders) opsW
theorem aWe : Run Try.prog (cWn A x tp n c true) 200 (fin (gW2 A J) (.int .i64 x)) := ⟨fun w => by kernel_rfl, by kernel_rfl⟩
theorem lWe : ldsR Try.prog (cWn A x tp n c true) 200 (fin (gW2 A J) (.int .i64 x)) = [(35, ⟨A.T, 0, none⟩, .slice tp n c), (46, ⟨A.bw, 0, none⟩, pA A.Wg)] := by kernel_rfl
theorem vWe : isConv Try.prog (gW3 A J x tp n c true) = some ⟨A.Wg, 0, none⟩ := by kernel_rfl
end
section
variable (J : Nat -> Value) (x : Int) (tq ead oA oa : Addr) (p : Option Addr) (n c len c' : Nat) (v : Int) (w : World)
noncomputable def gI (o : List Nat) : Goroutine := inOrd (gW3 A J x (some tq) n c false) opsW kW o
noncomputable def o1 : Orc := fun f d => bif f == 35 && d == 10 then some (stoV A) else bif f == 35 && d == 12 then some (.slice (some tq) n c) else none
noncomputable def c1 : Par := { O := o1 A tq n c, X := xDst 35 14 }
noncomputable def g1 (o : List Nat) : Goroutine := endR Try.prog (c1 A tq n c) 40 (gI A J x tq n c o)
noncomputable def ld1 (i : Nat) : Option (FuncId × Addr × Value) := match i with
 | 0 => some (35, ⟨A.S, 0, none⟩, stoV A)
 | 2 => some (35, ⟨A.T, 0, none⟩, .slice (some tq) n c)
 | _ => none
theorem f1s : ordW.map (fun o => seqR Try.prog (c1 A tq n c) 40 (gI A J x tq n c o) w) = ordW.map (fun o => expR Try.prog (c1 A tq n c) 40 (gI A J x tq n c o) w) := by kernel_rfl
theorem f1o : ordW.map (fun o => (okR Try.prog (c1 A tq n c) 40 (gI A J x tq n c o), isIdx Try.prog (g1 A J x tq n c o), ldsR Try.prog (c1 A tq n c) 40 (gI A J x tq n c o))) = ordW.map (fun o => (true, some (tq, n, IntKind.i64.wrap (x - 1), 1), (o.takeWhile (· != 4)).filterMap (ld1 A tq n c))) := by kernel_rfl
noncomputable def o2 : Orc := fun f d => bif f == 35 && d == 10 then some (stoV A) else bif f == 35 && d == 15 then some (.slice p len c') else none
noncomputable def c2' : Par := { O := o2 A p len c', X := xCall 29 }
noncomputable def g2 (o : List Nat) : Goroutine := endR Try.prog (c2' A p len c') 40 (fin (g1 A J x tq n c o) (.pointer (some ead)))
noncomputable def ld2 (i : Nat) : Option (FuncId × Addr × Value) := match i with
 | 0 => some (35, ⟨A.S, 0, none⟩, stoV A)
 | 5 => some (35, ead, .slice p len c')
 | _ => none
theorem f2s : ordW.map (fun o => seqR Try.prog (c2' A p len c') 40 (fin (g1 A J x tq n c o) (.pointer (some ead))) w) = ordW.map (fun o => expR Try.prog (c2' A p len c') 40 (fin (g1 A J x tq n c o) (.pointer (some ead))) w) := by kernel_rfl
theorem f2o : ordW.map (fun o => (okR Try.prog (c2' A p len c') 40 (fin (g1 A J x tq n c o) (.pointer (some ead))), isCall 29 (g2 A J x tq ead p n c len c' o), ldsR Try.prog (c2' A p len c') 40 (fin (g1 A J x tq n c o) (.pointer (some ead))))) = ordW.map (fun o => (true, some [Value.slice p len c'], ((o.dropWhile (· != 4)).takeWhile (· != 6)).filterMap (ld2 A ead p len c'))) := by kernel_rfl
noncomputable def o3 : Orc := fun f d => bif f == 35 && d == 10 then some (stoV A) else none
noncomputable def c3 : Par := { O := o3 A, X := xCall 32 }
noncomputable def g3 (o : List Nat) : Goroutine := endR Try.prog (c3 A) 40 (fin (g2 A J x tq ead p n c len c' o) (.int .i64 v))
noncomputable def ld3 (i : Nat) : Option (FuncId × Addr × Value) := match i with
 | 0 => some (35, ⟨A.S, 0, none⟩, stoV A)
 | _ => none
noncomputable def gK : Goroutine := g3 ⟨0, 0, 0, 0, 0, 0, 0, 0⟩ (fun _ => undef) 0 ⟨0, 0, none⟩ ⟨0, 0, none⟩ none 0 0 0 0 0 (ordW.headD [])
noncomputable def KLS (K : Nat -> Value) (i v : Int) : Goroutine := { frame := { fn := 31, tmps := #[.int .i64 i, .int .i64 v, pA A.Mu, pA A.V, undef, undef, undef, undef, undef, undef, undef], todo := gK.frame.todo, defers := [], mode := .run, kind := .normal }, callers := { fn := 35, tmps := tmWH A K, todo := .inRegion opsW [7] :: kW, defers := [], mode := .run, kind := .normal } :: (gC1 A).callers, status := .running, dying := none }
theorem f3s : ordW.map (fun o => seqR Try.prog (c3 A) 40 (fin (g2 A J x tq ead p n c len c' o) (.int .i64 v)) w) = ordW.map (fun o => expR Try.prog (c3 A) 40 (fin (g2 A J x tq ead p n c len c' o) (.int .i64 v)) w) := by kernel_rfl
theorem f3o : ordW.map (fun o => (okR Try.prog (c3 A) 40 (fin (g2 A J x tq ead p n c len c' o) (.int .i64 v)), ldsR Try.prog (c3 A) 40 (fin (g2 A J x tq ead p n c len c' o) (.int .i64 v)))) = ordW.map (fun o => (true, (o.dropWhile (· != 6)).filterMap (ld3 A))) := by kernel_rfl
theorem f3e : ordW.map (fun o => g3 A J x tq ead p n c len c' v o) = ordW.map (fun o => KLS A (junkC (g3 A J x tq ead p n c len c' v o)) (IntKind.i64.wrap (x - 1)) v) := by kernel_rfl
end
section
variable (K : Nat -> Value) (i v : Int) (oA oa : Addr) (n c : Nat)
theorem bK : isCall 32 (KLS A K i v) = some [pA A.Mu] := by kernel_rfl
theorem rK : isRun (KLS A K i v) = true := by kernel_rfl
noncomputable def o4 : Orc := fun f d => bif f == 31 && d == 7 then some (.slice (some oA) n c) else none
noncomputable def c4 : Par := { O := o4 oA n c, X := xDst 31 10 }
noncomputable def g4 : Goroutine := endR Try.prog (c4 oA n c) 60 (fin (KLS A K i v) (.tuple #[]))
theorem a4 : Run Try.prog (c4 oA n c) 60 (fin (KLS A K i v) (.tuple #[])) := ⟨fun w => by kernel_rfl, by kernel_rfl⟩
theorem l4 : ldsR Try.prog (c4 oA n c) 60 (fin (KLS A K i v) (.tuple #[])) = [(31, ⟨A.V, 0, none⟩, .slice (some oA) n c)] := by kernel_rfl
theorem b4 : isIdx Try.prog (g4 A K i v oA n c) = some (oA, n, i, 1) := by kernel_rfl
theorem r4 : isRun (g4 A K i v oA n c) = true := by kernel_rfl
noncomputable def g5 : Goroutine := endR Try.prog cW 60 (fin (g4 A K i v oA n c) (.pointer (some oa)))
theorem a5 : Run Try.prog cW 60 (fin (g4 A K i v oA n c) (.pointer (some oa))) := ⟨fun w => by kernel_rfl, by kernel_rfl⟩
theorem b5 : isStore Try.prog (g5 A K i v oA oa n c) = some (oa, .int .i64 v) := by kernel_rfl
theorem n5 : norace Try.prog (g5 A K i v oA oa n c).frame.fn = false := by kernel_rfl
theorem r5 : isRun (g5 A K i v oA oa n c) = true := by kernel_rfl
noncomputable def g6 : Goroutine := endR Try.prog (cX (xIn 33)) 60 (fin (g5 A K i v oA oa n c) undef)
theorem a6 : Run Try.prog (cX (xIn 33)) 60 (fin (g5 A K i v oA oa n c) undef) := ⟨fun w => by kernel_rfl, by kernel_rfl⟩
noncomputable def fr6 : Frame := (g6 A K i v oA oa n c).callers.headD default
noncomputable def cs6 : List Frame := (g6 A K i v oA oa n c).callers.tail
theorem h6 : g6 A K i v oA oa n c = enterD (fr6 A K i v oA oa n c) (cs6 A K i v oA oa n c) 33 #[pA A.Mu] := by kernel_rfl
noncomputable def g7 : Goroutine := endR Try.prog (cX xHeadW) 60 (backD (fr6 A K i v oA oa n c) (cs6 A K i v oA oa n c))
theorem a7 : Run Try.prog (cX xHeadW) 60 (backD (fr6 A K i v oA oa n c) (cs6 A K i v oA oa n c)) := ⟨fun w => by kernel_rfl, by kernel_rfl⟩
theorem h7' : g7 A K i v oA oa n c = WHS A (junk (g7 A K i v oA oa n c)) := by kernel_rfl
end
end Rd
section
variable {E : Env} {P : Program} {k : Nat} {σ σ' : Gh} {w w' : World} {Stop : Gh -> Goroutine -> World -> Prop}
theorem sumTo_shift {n : Nat} (f : Nat -> Nat) : sumTo (n + 1) f = f 0 + sumTo n fun i => f (i + 1) := by
 induction n with
 | zero => simp [sumTo]
 | succ n ih =>
  show sumTo (n + 1) f + f (n + 1) = f 0 + (sumTo n (fun i => f (i + 1)) + f (n + 1))
  rw [ih]; omega
theorem rest_step {m : Nat} (h : m < E.n) : E.rest m = E.cost m + E.rest (m + 1) := by
 unfold Env.rest
 obtain ⟨r, hr⟩ : ∃ r, E.n - m = r + 1 := ⟨E.n - m - 1, by omega⟩
 rw [hr, sumTo_shift, show E.n - (m + 1) = r by omega]
 simp only [Nat.add_zero]
 congr 1
 exact sumTo_congr fun i _ => by rw [show m + (i + 1) = m + 1 + i by omega]
theorem rest_none {m : Nat} (h : E.n <= m) : E.rest m = 0 := by
 unfold Env.rest
 rw [show E.n - m = 0 by omega]; rfl
def Wk.take (x : Wk) (i c : Nat) : Wk := { x with lk := .fr, idx := i, wrote := false, due := c }
def Wk.leave (x : Wk) : Wk := { x with gone := true }
def Gh.take (σ : Gh) (k c : Nat) : Gh := { σ with nx := σ.nx + 1, wk := upd σ.wk k ((σ.wk k).take σ.nx c) }
def Gh.gone (σ : Gh) (k : Nat) : Gh := { σ with nx := σ.nx + 1, wk := upd σ.wk k (σ.wk k).leave }
theorem eqk {β : Type} {k : Nat} {x : Wk} (φ : Wk -> β) (h : φ x = φ (σ.wk k)) : ∀ j, φ (upd σ.wk k x j) = φ (σ.wk j) := fun j => by
 by_cases e : j = k
 · subst e; rw [upd_same]; exact h
 · rw [upd_ne _ _ e]
theorem wgi_same {x : Wk} (h : x.fin = (σ.wk k).fin) (H : WInv σ.ms σ.wg σ.ws (c5 σ.num σ.wk) (c43 σ.num σ.wk) (c2 σ.num σ.wk)) : WInv σ.ms σ.wg σ.ws (c5 σ.num (upd σ.wk k x)) (c43 σ.num (upd σ.wk k x)) (c2 σ.num (upd σ.wk k x)) := by
 have a1 : c5 σ.num (upd σ.wk k x) = c5 σ.num σ.wk := sum_same (φ := fun z => if 5 <= z.fin then 1 else 0) (by rw [h])
 have a2 : c43 σ.num (upd σ.wk k x) = c43 σ.num σ.wk := sum_same (φ := fun z => if z.fin = 4 \/ z.fin = 3 then 1 else 0) (by rw [h])
 have a3 : c2 σ.num (upd σ.wk k x) = c2 σ.num σ.wk := sum_same (φ := fun z => if z.fin = 2 then 1 else 0) (by rw [h])
 rw [a1, a2, a3]; exact H
theorem notPend_out {x : Wk} (h : x.lk = .out) : ¬ Pend x := by unfold Pend; simp [h]
theorem Inv.take {n : Nat} (I : Inv n σ) (hk : k < σ.num) (ho : (σ.wk k).lk = .out) (h7 : (σ.wk k).fin = 7) (hn : σ.nx < n) {c : Nat} : Inv n (σ.take k c) := by
 have ef := eqk (σ := σ) (k := k) (x := (σ.wk k).take σ.nx c) Wk.fin rfl
 have el := eqk (σ := σ) (k := k) (x := (σ.wk k).take σ.nx c) Wk.low rfl
 have hnp := notPend_out ho
 have at_ : ∀ j, j ≠ k -> upd σ.wk k ((σ.wk k).take σ.nx c) j = σ.wk j := fun j h => upd_ne _ _ h
 have ak : upd σ.wk k ((σ.wk k).take σ.nx c) k = (σ.wk k).take σ.nx c := upd_same _ _ _
 have idx_lt : ∀ j, j < σ.num -> Pend (σ.wk j) -> (σ.wk j).idx < σ.nx := fun j hj p => (I.lkf j hj (fun e => notPend_out e p)).2.2
 refine ⟨(I.mx.take (x := (σ.wk k).take σ.nx c) hk ho rfl).1, wgi_same (x := (σ.wk k).take σ.nx c) rfl I.wgi, fun j hj hl => ?_, fun i hi hx => ?_, fun i j hi hj p q e => ?_, fun j hj p => ?_, fun i hi => ?_, fun j hj => ?_, fun j hj hf => ?_, fun j hj => ?_, I.num, ?_⟩
 · show (upd σ.wk k _ j).fin = 7 /\ (upd σ.wk k _ j).idx < n /\ (upd σ.wk k _ j).idx < σ.nx + 1
   by_cases e : j = k
   · subst e; rw [ak]; exact ⟨h7, hn, Nat.lt_succ_self _⟩
   · have hl : (upd σ.wk k _ j).lk ≠ .out := hl
     rw [at_ j e] at hl ⊢
     obtain ⟨p1, p2, p3⟩ := I.lkf j hj hl
     exact ⟨p1, p2, by omega⟩
 · show σ.writ i = true \/ ∃ j, j < σ.num /\ Pend (upd σ.wk k _ j) /\ (upd σ.wk k _ j).idx = i
   have hx : i < σ.nx + 1 := hx
   by_cases e : i = σ.nx
   · exact .inr ⟨k, hk, by rw [ak]; exact .inl rfl, by rw [ak, e]; rfl⟩
   · rcases I.done i hi (by omega) with h | ⟨j, a, b, d⟩
     · exact .inl h
     · have hjk : j ≠ k := fun e => hnp (e ▸ b)
       exact .inr ⟨j, a, by rw [at_ j hjk]; exact b, by rw [at_ j hjk]; exact d⟩
 · have p : Pend (upd σ.wk k _ i) := p
   have q : Pend (upd σ.wk k _ j) := q
   have e : (upd σ.wk k ((σ.wk k).take σ.nx c) i).idx = (upd σ.wk k ((σ.wk k).take σ.nx c) j).idx := e
   by_cases e1 : i = k
   · by_cases e2 : j = k
     · rw [e1, e2]
     · rw [at_ j e2] at q e
       rw [e1, ak] at e
       have := idx_lt j hj q
       have e : σ.nx = (σ.wk j).idx := e
       omega
   · by_cases e2 : j = k
     · rw [at_ i e1] at p e
       rw [e2, ak] at e
       have := idx_lt i hi p
       have e : (σ.wk i).idx = σ.nx := e
       omega
     · rw [at_ i e1] at p e
       rw [at_ j e2] at q e
       exact I.uniq i j hi hj p q e
 · show σ.writ (upd σ.wk k _ j).idx = false
   have p : Pend (upd σ.wk k _ j) := p
   by_cases e : j = k
   · subst e
     rw [ak]
     show σ.writ σ.nx = false
     cases h : σ.writ σ.nx with
     | false => rfl
     | true => have := (I.wfut _ h).1; omega
   · rw [at_ j e] at p ⊢
     exact I.pw j hj p
 · obtain ⟨a, b⟩ := I.wfut i hi
   exact ⟨Nat.lt_succ_of_lt a, b⟩
 · show 1 <= (upd σ.wk k _ j).fin /\ (upd σ.wk k _ j).fin <= 7
   rw [ef j]; exact I.fin j hj
 · have ea := eqk (σ := σ) (k := k) (x := (σ.wk k).take σ.nx c) Away rfl
   exact Nat.le_succ_of_le (I.all j hj ((ea j).mp hf))
 · show (upd σ.wk k _ j).low <= σ.hs
   rw [el j]; exact I.low j hj
 · show σ.nx + 1 <= n + cgone σ.num (upd σ.wk k _)
   omega
theorem Inv.gone {n : Nat} (I : Inv n σ) (hk : k < σ.num) (hg : (σ.wk k).gone = false) (hn : n <= σ.nx) : Inv n (σ.gone k) := by
 have e1 := eqk (σ := σ) (k := k) (x := (σ.wk k).leave) Wk.lk rfl
 have e2 := eqk (σ := σ) (k := k) (x := (σ.wk k).leave) Wk.fin rfl
 have e3 := eqk (σ := σ) (k := k) (x := (σ.wk k).leave) Wk.idx rfl
 have e4 := eqk (σ := σ) (k := k) (x := (σ.wk k).leave) Wk.low rfl
 have e5 := eqk (σ := σ) (k := k) (x := (σ.wk k).leave) Pend rfl
 refine ⟨I.mx.same (x := (σ.wk k).leave) rfl, wgi_same (x := (σ.wk k).leave) rfl I.wgi, fun j hj hl => ?_, fun i hi hx => ?_, fun i j hi hj p q e => ?_, fun j hj p => ?_, fun i hi => ?_, fun j hj => ?_, fun j hj hf => ?_, fun j hj => by rw [show (σ.gone k).wk = upd σ.wk k _ from rfl, e4 j]; exact I.low j hj, I.num, ?_⟩
 · show (upd σ.wk k _ j).fin = 7 /\ (upd σ.wk k _ j).idx < n /\ (upd σ.wk k _ j).idx < σ.nx + 1
   rw [e2 j, e3 j]
   obtain ⟨p1, p2, p3⟩ := I.lkf j hj (by rw [<- e1 j]; exact hl)
   exact ⟨p1, p2, by omega⟩
 · rcases I.done i hi (by omega) with h | ⟨j, a, b, d⟩
   · exact .inl h
   · exact .inr ⟨j, a, (e5 j).symm ▸ b, (e3 j).trans d⟩
 · exact I.uniq i j hi hj ((e5 i) ▸ p) ((e5 j) ▸ q) (by rw [<- e3 i, <- e3 j]; exact e)
 · show σ.writ (upd σ.wk k _ j).idx = false
   rw [e3 j]; exact I.pw j hj ((e5 j) ▸ p)
 · obtain ⟨a, b⟩ := I.wfut i hi
   exact ⟨Nat.lt_succ_of_lt a, b⟩
 · show 1 <= (upd σ.wk k _ j).fin /\ (upd σ.wk k _ j).fin <= 7
   rw [e2 j]; exact I.fin j hj
 · exact Nat.le_succ_of_le hn
 · show σ.nx + 1 <= n + cgone σ.num (upd σ.wk k _)
   have h := sumTo_upd σ.wk (σ.wk k).leave (fun z => if z.gone = true then 1 else 0) hk
   have h1 : (if (σ.wk k).leave.gone = true then 1 else 0 : Nat) = 1 := rfl
   have h2 : (if (σ.wk k).gone = true then 1 else 0 : Nat) = 0 := by rw [hg]; rfl
   have h3 : cgone σ.num (upd σ.wk k (σ.wk k).leave) = sumTo σ.num fun a => if (upd σ.wk k (σ.wk k).leave a).gone = true then 1 else 0 := rfl
   have h4 : cgone σ.num σ.wk = sumTo σ.num fun a => if (σ.wk a).gone = true then 1 else 0 := rfl
   have := I.nb
   omega
theorem Turn.take (hE : E.Ok) (hJ : J E σ w) (hk : k < σ.num) (ho : (σ.wk k).lk = .out) (h7 : (σ.wk k).fin = 7) (hdu : (σ.wk k).due = 0) (hn : σ.nx < E.n) : Turn E k σ w #[⟨.cell (nxA E), false, true⟩, ⟨.cell (nxA E), true, true⟩] (σ.take k (E.cost σ.nx)) (w.setCell (nxA E) (.int .i64 ((σ.nx + 1 : Nat) : Int))) := by
 have ak : (σ.take k (E.cost σ.nx)).wk k = (σ.wk k).take σ.nx (E.cost σ.nx) := upd_same _ _ _
 have hd := dues_upd (wk := σ.wk) hk ((σ.wk k).take σ.nx (E.cost σ.nx))
 have hdc : ((σ.wk k).take σ.nx (E.cost σ.nx)).due = E.cost σ.nx := rfl
 have hr := rest_step hn
 have hs : Same E w (w.setCell (nxA E) (.int .i64 ((σ.nx + 1 : Nat) : Int))) := .set (.inr (.inl rfl))
 have j' : J E (σ.take k (E.cost σ.nx)) _ := J.turn hE hJ hs (hJ.four.setNx hE) (hJ.inv.take hk ho h7 hn) (by
  have := hJ.acc
  show σ.hs + dues σ.num (upd σ.wk k _) + E.rest (σ.nx + 1) + σ.dm = E.tot
  omega) rfl rfl rfl
 have hpt := (hJ.inv.mx.take (x := (σ.wk k).take σ.nx (E.cost σ.nx)) hk ho rfl).2
 have hpot : Wp.pot E.n (σ.take k (E.cost σ.nx)) = Wp.pot E.n σ := by
  unfold Wp.pot
  show pots σ.num (upd σ.wk k _) + σ.mx.sm + 5 * (E.n - (σ.nx + 1)) = _
  omega
 exact ⟨j', fun j hj => upd_ne _ _ hj, rfl, rfl, rfl, rfl, rfl, rfl, by rw [ak]; rfl, hs, ⟨Nat.le_of_eq hpot, .inl rfl⟩, fun _ _ _ _ h => ⟨h, Nat.le_refl _⟩, fun h => by rw [ak] at h; exact h, by rw [h7]; decide, by rw [ak]; rfl, fun _ h => h, fun e he => by
  simp only [List.mem_toArray, List.mem_cons, List.not_mem_nil, or_false] at he
  rcases he with rfl | rfl <;> exact Book.evW j' (.at_ _ _ (.inr (.inl rfl))), fun h => by rw [ak] at h; have h : (σ.wk k).fin <= 6 := h; omega⟩
theorem Turn.gone (hE : E.Ok) (hJ : J E σ w) (hk : k < σ.num) (hg : (σ.wk k).gone = false) (h7 : (σ.wk k).fin = 7) (hn : E.n <= σ.nx) : Turn E k σ w #[⟨.cell (nxA E), false, true⟩, ⟨.cell (nxA E), true, true⟩] (σ.gone k) (w.setCell (nxA E) (.int .i64 ((σ.nx + 1 : Nat) : Int))) := by
 have ak : (σ.gone k).wk k = (σ.wk k).leave := upd_same _ _ _
 have hd : dues σ.num (upd σ.wk k (σ.wk k).leave) = dues σ.num σ.wk := dues_same rfl
 have hr : E.rest (σ.nx + 1) = E.rest σ.nx := by rw [rest_none hn, rest_none (by omega)]
 have hs : Same E w (w.setCell (nxA E) (.int .i64 ((σ.nx + 1 : Nat) : Int))) := .set (.inr (.inl rfl))
 have j' : J E (σ.gone k) _ := J.turn hE hJ hs (hJ.four.setNx hE) (hJ.inv.gone hk hg hn) (by
  have := hJ.acc
  show σ.hs + dues σ.num (upd σ.wk k _) + E.rest (σ.nx + 1) + σ.dm = E.tot
  omega) rfl rfl rfl
 have hpot : Wp.pot E.n (σ.gone k) = Wp.pot E.n σ := by
  unfold Wp.pot
  show pots σ.num (upd σ.wk k _) + σ.mx.sm + 5 * (E.n - (σ.nx + 1)) = _
  rw [pots_same (x := (σ.wk k).leave) rfl]
  omega
 exact ⟨j', fun j hj => upd_ne _ _ hj, rfl, rfl, rfl, rfl, rfl, rfl, by rw [ak]; rfl, hs, ⟨Nat.le_of_eq hpot, .inl rfl⟩, fun _ _ _ _ h => ⟨h, Nat.le_refl _⟩, fun h => by rw [ak] at h; exact h, by rw [h7]; decide, by rw [ak]; rfl, fun _ h => h, fun e he => by
  simp only [List.mem_toArray, List.mem_cons, List.not_mem_nil, or_false] at he
  rcases he with rfl | rfl <;> exact Book.evW j' (.at_ _ _ (.inr (.inl rfl))), fun h => by rw [ak] at h; have h : (σ.wk k).fin <= 6 := h; omega⟩
theorem J.nxLe (hE : E.Ok) (h : J E σ w) : σ.nx <= 40 := by
 have h1 := h.inv.nb
 have h2 : cgone σ.num σ.wk <= σ.num := sum_le fun i _ => by split <;> omega
 have h3 := h.inv.num
 have h4 := hE.n
 omega
theorem stop_take (hE : E.Ok) {m : Nat} {g : Goroutine} (hg : isCall 48 g = some [.pointer (some (nxA E)), .int .i64 1]) (hf : ExtF P 48 (Extern.Atomic.update (Op.intArith .add) .i64 true)) (hr : isRun g = true) (hr' : ∀ v, isRun (fin g v) = true) (hJ : J E σ w) (hk : k < σ.num) (ho : (σ.wk k).lk = .out) (h7 : (σ.wk k).fin = 7) (hdu : (σ.wk k).due = 0) (hgo : (σ.wk k).gone = false)
  (h1 : ∀ σ₁ w₁ (i : Nat), Keep E k σ w σ₁ w₁ -> i < E.n -> σ₁.wk k = (σ.wk k).take i (E.cost i) -> GoesW P (proto E P) (k + 1) Stop m σ₁ (fin g (.int .i64 ((i + 1 : Nat) : Int))) w₁)
  (h2 : ∀ σ₁ w₁ (i : Nat), Keep E k σ w σ₁ w₁ -> E.n <= i -> i <= 40 -> σ₁.wk k = (σ.wk k).leave -> GoesW P (proto E P) (k + 1) Stop m σ₁ (fin g (.int .i64 ((i + 1 : Nat) : Int))) w₁) : GoesW P (proto E P) (k + 1) Stop (m + 1) σ g w :=
 goW hr hk fun σ₁ w₁ hw hk1 => by
  have hle := hw.j.nxLe hE
  have hst := step_add (P := P) (main := false) hg hf hw.j.cellNx hw.j.thawNx
  rw [wrap_id (by omega) (by omega), show ((σ₁.nx : Int) + 1) = ((σ₁.nx + 1 : Nat) : Int) by omega] at hst
  by_cases hn : σ₁.nx < E.n
  · have T := Turn.take (k := k) hE hw.j hk1 (by rw [hw.wk]; exact ho) (by rw [hw.wk]; exact h7) (by rw [hw.wk]; exact hdu) hn
    exact ⟨_, _, _, _, hst, T, hr' _, no_wake (Nat.le_refl _) rfl, h1 _ _ σ₁.nx (hw.keep.trans (T.keep hw.j)) hn (by show upd σ₁.wk k _ k = _; rw [upd_same, hw.wk])⟩
  · have T := Turn.gone (k := k) hE hw.j hk1 (by rw [hw.wk]; exact hgo) (by rw [hw.wk]; exact h7) (by omega)
    exact ⟨_, _, _, _, hst, T, hr' _, no_wake (Nat.le_refl _) rfl, h2 _ _ σ₁.nx (hw.keep.trans (T.keep hw.j)) (by omega) hle (by show upd σ₁.wk k _ k = _; rw [upd_same, hw.wk])⟩
end
section
variable {E : Env} {P : Program} {k : Nat} {σ σ' : Gh} {w w' : World} {Stop : Gh -> Goroutine -> World -> Prop}
def Wk.done (x : Wk) : Wk := { x with wrote := true }
def Gh.write (σ : Gh) (k : Nat) : Gh := { σ with writ := upd σ.writ (σ.wk k).idx true, wk := upd σ.wk k (σ.wk k).done }
theorem Inv.write {n : Nat} (I : Inv n σ) (hk : k < σ.num) (ho : (σ.wk k).lk = .hd) (hw : (σ.wk k).wrote = false) : Inv n (σ.write k) := by
 have e1 := eqk (σ := σ) (k := k) (x := (σ.wk k).done) Wk.lk rfl
 have e2 := eqk (σ := σ) (k := k) (x := (σ.wk k).done) Wk.fin rfl
 have e3 := eqk (σ := σ) (k := k) (x := (σ.wk k).done) Wk.idx rfl
 have e4 := eqk (σ := σ) (k := k) (x := (σ.wk k).done) Wk.low rfl
 have hp : Pend (σ.wk k) := .inr (.inr (.inr (.inr ⟨ho, hw⟩)))
 have hnp : ¬ Pend (σ.wk k).done := by unfold Pend; simp [Wk.done, ho]
 have ak : upd σ.wk k (σ.wk k).done k = (σ.wk k).done := upd_same _ _ _
 have at_ : ∀ j, j ≠ k -> upd σ.wk k (σ.wk k).done j = σ.wk j := fun j h => upd_ne _ _ h
 have back_ : ∀ j, Pend (upd σ.wk k (σ.wk k).done j) -> j ≠ k /\ Pend (σ.wk j) := fun j p => by
  by_cases e : j = k
  · rw [e, ak] at p; exact absurd p hnp
  · rw [at_ j e] at p; exact ⟨e, p⟩
 obtain ⟨_, hin, hix⟩ := I.lkf k hk (by rw [ho]; decide)
 refine ⟨I.mx.same (x := (σ.wk k).done) rfl, wgi_same (x := (σ.wk k).done) rfl I.wgi, fun j hj hl => ?_, fun i hi hx => ?_, fun i j hi hj p q e => ?_, fun j hj p => ?_, fun i hi => ?_, fun j hj => ?_, fun j hj hf => ?_, fun j hj => by rw [show (σ.write k).wk = upd σ.wk k _ from rfl, e4 j]; exact I.low j hj, I.num, ?_⟩
 · show (upd σ.wk k _ j).fin = 7 /\ (upd σ.wk k _ j).idx < n /\ (upd σ.wk k _ j).idx < σ.nx
   rw [e2 j, e3 j]
   exact I.lkf j hj (by rw [<- e1 j]; exact hl)
 · show upd σ.writ _ true i = true \/ _
   by_cases e : i = (σ.wk k).idx
   · subst e; exact .inl (upd_same _ _ _)
   · rw [upd_ne _ _ e]
     rcases I.done i hi hx with h | ⟨j, a, b, d⟩
     · exact .inl h
     · have hjk : j ≠ k := fun h => e (by rw [<- d, h])
       exact .inr ⟨j, a, by show Pend (upd σ.wk k _ j); rw [at_ j hjk]; exact b, by show (upd σ.wk k _ j).idx = i; rw [at_ j hjk]; exact d⟩
 · obtain ⟨a1, a2⟩ := back_ i p
   obtain ⟨b1, b2⟩ := back_ j q
   exact I.uniq i j hi hj a2 b2 (by rw [<- e3 i, <- e3 j]; exact e)
 · obtain ⟨a1, a2⟩ := back_ j p
   show upd σ.writ _ true (upd σ.wk k _ j).idx = false
   rw [e3 j]
   have hne : (σ.wk j).idx ≠ (σ.wk k).idx := fun h => a1 (I.uniq j k hj hk a2 hp h)
   rw [upd_ne _ _ hne]
   exact I.pw j hj a2
 · have hi : upd σ.writ (σ.wk k).idx true i = true := hi
   by_cases e : i = (σ.wk k).idx
   · subst e; exact ⟨hix, hin⟩
   · rw [upd_ne _ _ e] at hi; exact I.wfut i hi
 · show 1 <= (upd σ.wk k _ j).fin /\ (upd σ.wk k _ j).fin <= 7
   rw [e2 j]; exact I.fin j hj
 · have ea := eqk (σ := σ) (k := k) (x := (σ.wk k).done) Away rfl
   exact I.all j hj ((ea j).mp hf)
 · have : cgone σ.num (upd σ.wk k (σ.wk k).done) = cgone σ.num σ.wk := sum_same (φ := fun z => if z.gone = true then 1 else 0) rfl
   show σ.nx <= n + cgone σ.num (upd σ.wk k _)
   rw [this]; exact I.nb
theorem Turn.write (hE : E.Ok) (hJ : J E σ w) (hk : k < σ.num) (ho : (σ.wk k).lk = .hd) (hwr : (σ.wk k).wrote = false) : Turn E k σ w #[⟨.cell ⟨E.O, (σ.wk k).idx, none⟩, true, false⟩] (σ.write k) (w.setCell ⟨E.O, (σ.wk k).idx, none⟩ (.int .i64 (E.val (σ.wk k).idx))) := by
 have ak : (σ.write k).wk k = (σ.wk k).done := upd_same _ _ _
 obtain ⟨h7, hin, hix⟩ := hJ.inv.lkf k hk (by rw [ho]; decide)
 have hd : dues σ.num (upd σ.wk k (σ.wk k).done) = dues σ.num σ.wk := dues_same rfl
 have hs : Same E w (w.setCell ⟨E.O, (σ.wk k).idx, none⟩ (.int .i64 (E.val (σ.wk k).idx))) := .set (.inr (.inr (.inr rfl)))
 have j' : J E (σ.write k) _ := J.turn hE hJ hs (hJ.four.setO hE hin) (hJ.inv.write hk ho hwr) (by
  have := hJ.acc
  show σ.hs + dues σ.num (upd σ.wk k _) + E.rest σ.nx + σ.dm = E.tot
  omega) rfl rfl rfl
 have hpot : Wp.pot E.n (σ.write k) = Wp.pot E.n σ := by
  unfold Wp.pot
  show pots σ.num (upd σ.wk k _) + σ.mx.sm + 5 * (E.n - σ.nx) = _
  rw [pots_same (x := (σ.wk k).done) rfl]
 have hp : Pend (σ.wk k) := .inr (.inr (.inr (.inr ⟨ho, hwr⟩)))
 refine ⟨j', fun j hj => upd_ne _ _ hj, rfl, rfl, rfl, rfl, rfl, rfl, by rw [ak]; rfl, hs, ⟨Nat.le_of_eq hpot, .inl rfl⟩, fun _ _ _ _ h => ⟨h, Nat.le_refl _⟩, fun h => by rw [ak] at h; exact h, by rw [h7]; decide, by rw [ak]; rfl, fun i h => ?_, fun e he => ?_, fun h => by rw [ak] at h; have h : (σ.wk k).fin <= 6 := h; omega⟩
 · show upd σ.writ _ true i = true
   by_cases e : i = (σ.wk k).idx
   · subst e; exact upd_same _ _ _
   · rw [upd_ne _ _ e]; exact h
 · simp only [List.mem_toArray, List.mem_cons, List.not_mem_nil, or_false] at he
   subst he
   refine ⟨by simp, hJ.oLt, fun y hy => ?_⟩
   simp only [MemAct.ofEvent, MemAct.touch?, Option.some.injEq] at hy
   subst hy
   refine .inr (.inl ⟨⟨_, rfl, rfl⟩, ?_, rfl, ?_, ⟨_, rfl, rfl, upd_same _ _ _⟩⟩)
   · rintro ⟨a, e, h | h | h⟩ <;> cases e
     · exact hE.mo h.symm
     · exact hE.no h.symm
     · exact hE.wo h.symm
   · rintro ⟨a, e, _, h⟩
     cases e
     have := hJ.inv.pw k hk hp
     rw [this] at h
     cases h
theorem stop_write (hE : E.Ok) {m : Nat} {g : Goroutine} {i : Nat} (hg : isStore P g = some (⟨E.O, i, none⟩, .int .i64 (E.val i))) (hq : norace P g.frame.fn = false) (hr : isRun g = true) (hr' : isRun (fin g undef) = true) (hJ : J E σ w) (hk : k < σ.num) (ho : (σ.wk k).lk = .hd) (hi : (σ.wk k).idx = i) (hwr : (σ.wk k).wrote = false)
  (h : ∀ σ₁ w₁, Keep E k σ w σ₁ w₁ -> σ₁.wk k = (σ.wk k).done -> GoesW P (proto E P) (k + 1) Stop m σ₁ (fin g undef) w₁) : GoesW P (proto E P) (k + 1) Stop (m + 1) σ g w :=
 goW hr hk fun σ₁ w₁ hw hk1 => by
  have hwk := hw.wk
  have ho1 : (σ₁.wk k).lk = .hd := by rw [hwk]; exact ho
  obtain ⟨_, hin, _⟩ := hw.j.inv.lkf k hk1 (by rw [ho1]; decide)
  have hi1 : (σ₁.wk k).idx = i := by rw [hwk]; exact hi
  obtain ⟨cs, hc1, hc2, _⟩ := hw.j.o
  have hcell : ∃ u, w₁.cell? ⟨E.O, i, none⟩ = some u := by
   rw [cell_of rfl (show w₁.heap[(⟨E.O, i, none⟩ : Addr).block]? = _ from hc1)]
   exact ⟨_, Array.getElem?_eq_getElem (by show i < cs.size; rw [hc2, <- hi1]; exact hin)⟩
  obtain ⟨u, hu⟩ := hcell
  have hst := step_store (main := false) hg hu (thaw_of (a := ⟨E.O, i, none⟩) hc1)
  rw [hq] at hst
  have T := Turn.write (k := k) hE hw.j hk1 ho1 (by rw [hwk]; exact hwr)
  rw [hi1] at T
  exact ⟨_, _, _, _, hst, T, hr', no_wake (Nat.le_refl _) rfl, h _ _ (hw.keep.trans (T.keep hw.j)) (by show upd σ₁.wk k _ k = _; rw [upd_same, hwk])⟩
end
structure Tasks where
 zs : Nat -> List Int
 p : Nat -> Option Addr
 cap : Nat -> Nat
structure Data (E : Env) (A : Rd.Adr) (tq : Option Addr) (n c : Nat) (D : Tasks) (k : Nat) (σ : Gh) (w : World) : Prop where
 mu : A.Mu = E.Mu
 nx : A.Nx = E.Nx
 wg : A.Wg = E.Wg
 hn : n = E.n
 t : Known E Try.prog k σ w (35, ⟨A.T, 0, none⟩, .slice tq n c)
 s : Known E Try.prog k σ w (35, ⟨A.S, 0, none⟩, Rd.stoV A)
 v : Known E Try.prog k σ w (31, ⟨A.V, 0, none⟩, .slice (some ⟨E.O, 0, none⟩) n n)
 bf : Known E Try.prog k σ w (45, ⟨A.bf, 0, none⟩, Rd.wrkV A)
 bw : Known E Try.prog k σ w (46, ⟨A.bw, 0, none⟩, Rd.pA A.Wg)
 el : ∀ i, i < n -> ∃ ad, tq = some ad /\ Known E Try.prog k σ w (35, ad.add (i * 1), .slice (D.p i) (D.zs i).length (D.cap i))
 nums : ∀ i, i < n -> Nums E k σ w 29 (D.p i) (D.zs i)
 inm : ∀ i, i < n -> ∀ z ∈ D.zs i, inM z
 len : ∀ i, i < n -> (D.zs i).length <= 1000
 val : ∀ i, i < n -> E.val i = (D.zs i).foldl pairF 0
 cost : ∀ i, i < n -> E.cost i = 3 * (D.zs i).length
theorem Data.keep {E : Env} {A : Rd.Adr} {tq : Option Addr} {n c : Nat} {D : Tasks} {k : Nat} {σ σ' : Gh} {w w' : World} (h : Data E A tq n c D k σ w) (hK : Keep E k σ w σ' w') (hf : (σ'.wk k).fin = (σ.wk k).fin) : Data E A tq n c D k σ' w' :=
 ⟨h.mu, h.nx, h.wg, h.hn, h.t.keep hK hf, h.s.keep hK hf, h.v.keep hK hf, h.bf.keep hK hf, h.bw.keep hK hf, fun i hi => let ⟨ad, e, hk⟩ := h.el i hi; ⟨ad, e, hk.keep hK hf⟩, fun i hi => (h.nums i hi).keep hK hf, h.inm, h.len, h.val, h.cost⟩
end Wp
end Go.Proofs.Ytmdkmlgafnjhmaa
