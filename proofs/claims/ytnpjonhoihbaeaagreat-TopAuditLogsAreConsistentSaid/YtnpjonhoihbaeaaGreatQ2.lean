/-
 Part 2 of the proof of a law. Conditions: none.
-/
import Derived.Test.YtnpjonhoihbaeaaGreatQ1
import Derived.Orders
import Derived.LoopN
import Derived.Conc.CompanyDraw
import Derived.Lib.AppendZeros
set_option linter.unusedVariables false
set_option linter.unusedSimpArgs false
namespace Go.Proofs.YtnpjonhoihbaeaaGreat
open Go.Conc
open Go.ConcM (OsLater)
namespace Wp
def badT : TypeId := 1000000
def pz : Obj := .cells #[] badT (0, 0)
def Dead (N0 : Nat) (u : World) (b : Nat) : Prop := N0 <= b /\ u.heap[b]? = some pz
structure Sim (N0 : Nat) (u w : World) : Prop where
 size : w.heap.size = u.heap.size
 live : ∀ b, ¬ Dead N0 u b -> w.heap[b]? = u.heap[b]?
 dead : ∀ b, Dead N0 u b -> ∃ cs t, w.heap[b]? = some (.cells cs t (0, 0))
 tape : w.tape = u.tape
 drawn : w.drawn = u.drawn
 output : w.output = u.output
 os : OsLater u.os w.os
def Never (P : Program) {α : Type} (s : Sem α) : Prop := ∀ w a w', s.run P w ≠ .ok a w'
inductive Wl (P : Program) {α : Type} : Sem α -> Prop
 | pure (a : α) : Wl P (.pure a)
 | never {s : Sem α} (h : Never P s) : Wl P s
 | load {a : Addr} {k : Value -> Sem α} (h : ∀ v, Wl P (k v)) : Wl P (.load .plain a k)
 | store {a : Addr} {v : Value} {k : Sem α} (h : Wl P k) : Wl P (.store .plain a v k)
 | new {cs : Array Value} {t : TypeId} {fz : Nat × Nat} {k : Nat -> Sem α} (ht : t ≠ badT) (h : ∀ r, Wl P (k r)) : Wl P (.new (.cells cs t fz) k)
 | shape {r : Nat} {k : Option (TypeId × Nat) -> Sem α} (h : ∀ x, Wl P (k x)) (hd : Never P (k (some (badT, 0))) \/ ∀ t n, k (some (badT, 0)) = k (some (t, n))) : Wl P (.shape r k)
 | frozen {a : Addr} {k : Bool -> Sem α} (h : ∀ b, Wl P (k b)) : Wl P (.frozen a k)
 | getObj {r : Nat} {k : Obj -> Sem α} (h : ∀ o, Wl P (k o)) : Wl P (.getObj r k)
 | choose {q : Question} {k : Nat -> Sem α} (h : ∀ n, Wl P (k n)) : Wl P (.choose q k)
 | program {k : Program -> Sem α} (h : Wl P (k P)) : Wl P (.program k)
 | room {k : Sem α} (h : Wl P k) : Wl P (.mark .noRoom k)
 | still {s : Sem α} {v : α} (h : ∀ w es, s.runT P w es = (.ok v w, es)) : Wl P s
 | same {s t : Sem α} (h : ∀ w es, s.runT P w es = t.runT P w es) (ht : Wl P t) : Wl P s
section
variable {P : Program} {α β : Type}
theorem runT_bind' (s : Sem α) (f : α -> Sem β) (w : World) (es : Array Event) : (s >>= f).runT P w es = match s.runT P w es with
  | (.ok a w', es') => (f a).runT P w' es'
  | (.halt h w', es') => (.halt h w', es') := by
 rw [Sem.runT_eq, Sem.runT_eq, Sem.run_bind, Sem.events_bind]
 cases hs : s.run P w with
 | ok a w' => simp only [Result.andThen_ok, Result.evThen_ok]; rw [Sem.runT_eq]
 | halt h w' => rfl
theorem Never.bind {s : Sem α} {f : α -> Sem β} (h : ∀ a, Never P (f a)) : Never P (s >>= f) := fun w b w' hr => by
 rw [Sem.run_bind] at hr
 cases hs : s.run P w with
 | ok a w1 => rw [hs, Result.andThen_ok] at hr; exact h a w1 b w' hr
 | halt hh w1 => rw [hs] at hr; cases hr
theorem Never.left {s : Sem α} {f : α -> Sem β} (h : Never P s) : Never P (s >>= f) := fun w b w' hr => by
 rw [Sem.run_bind] at hr
 cases hs : s.run P w with
 | ok a w1 => exact h w a w1 hs
 | halt hh w1 => rw [hs] at hr; cases hr
theorem Never.halt {h : Halt} : Never P (.halt h : Sem α) := fun w a w' hr => by cases hr
theorem Wl.halt {h : Halt} : Wl P (.halt h : Sem α) := .never .halt
theorem Wl.bind {s : Sem α} {f : α -> Sem β} (hs : Wl P s) (hf : ∀ a, Wl P (f a)) : Wl P (s >>= f) := by
 induction hs with
 | pure a => exact hf a
 | never h => exact .never h.left
 | load _ ih => exact .load ih
 | store _ ih => exact .store ih
 | new ht _ ih => exact .new ht ih
 | shape _ hd ih =>
  refine .shape ih (hd.imp (fun h => ?_) fun h t n => ?_)
  · exact Never.left h
  · show Sem.bind _ f = Sem.bind _ f
    rw [h t n]
 | frozen _ ih => exact .frozen ih
 | getObj _ ih => exact .getObj ih
 | choose _ ih => exact .choose ih
 | program _ ih => exact .program ih
 | room _ ih => exact .room ih
 | @still s v h =>
  refine .same (t := f v) (fun w es => ?_) (hf v)
  rw [runT_bind', h]
 | @same s t h _ ih => exact .same (fun w es => by rw [runT_bind', runT_bind', h]) ih
theorem Wl.pure' (a : α) : Wl P (Pure.pure a : Sem α) := .pure a
end
section
variable {N0 : Nat} {u w : World}
theorem Sim.cell (h : Sim N0 u w) {a : Addr} {v : Value} (hc : u.cell? a = some v) : w.cell? a = some v /\ ¬ Dead N0 u a.block /\ a.block < u.heap.size := by
 have hnd : ¬ Dead N0 u a.block := fun hd => by
  unfold World.cell? at hc
  rw [hd.2] at hc
  simp [pz] at hc
 refine ⟨by unfold World.cell? at hc ⊢; rw [h.live _ hnd]; exact hc, hnd, ?_⟩
 unfold World.cell? at hc
 cases hb : u.heap[a.block]? with
 | none => rw [hb] at hc; cases hc
 | some o => exact (Array.getElem?_eq_some_iff.1 hb).1
theorem Sim.frozen (h : Sim N0 u w) (a : Addr) : w.frozen? a = u.frozen? a := by
 by_cases hd : Dead N0 u a.block
 · obtain ⟨cs, t, hc⟩ := h.dead _ hd
   unfold World.frozen?
   rw [hc, hd.2]
   simp [pz]
 · unfold World.frozen?
   rw [h.live _ hd]
theorem dead_upd {u' : World} (hh : ∀ b : Nat, u'.heap[b]? = some pz ↔ u.heap[b]? = some pz) {b : Nat} : Dead N0 u' b ↔ Dead N0 u b := ⟨fun h => ⟨h.1, (hh b).1 h.2⟩, fun h => ⟨h.1, (hh b).2 h.2⟩⟩
theorem setCell_heap {a : Addr} {v : Value} (b : Nat) : (w.setCell a v).heap[b]? = if a.block = b then (w.heap[b]?).map (fun | .cells c elem frozen => .cells (if a.spot.isSome then c else c.setIfInBounds a.off v) elem frozen | o => o) else w.heap[b]? := by
 unfold World.setCell
 rw [Array.getElem?_modify]
 rfl
theorem setCell_pz {a : Addr} {v v0 : Value} (hc : u.cell? a = some v0) (b : Nat) : (u.setCell a v).heap[b]? = some pz ↔ u.heap[b]? = some pz := by
 rw [setCell_heap]
 split
 · next e =>
   subst e
   unfold World.cell? at hc
   cases hb : u.heap[a.block]? with
   | none => rw [hb] at hc; cases hc
   | some o =>
    rw [hb] at hc
    cases o with
    | cells c el fz =>
     simp only [Option.map_some, Option.some.injEq, pz, Obj.cells.injEq]
     simp only at hc
     constructor
     · rintro ⟨h1, h2, h3⟩
       split at hc
       · cases hc
       · next hs =>
         rw [if_neg hs] at h1
         have : c.size = 0 := by have := congrArg Array.size h1; simpa using this
         have hlt := (Array.getElem?_eq_some_iff.1 hc).1
         omega
     · rintro ⟨rfl, h2, h3⟩
       simp at hc
    | _ => cases hc
 · exact Iff.rfl
theorem Sim.setCell (h : Sim N0 u w) {a : Addr} {v v0 : Value} (hc : u.cell? a = some v0) : Sim N0 (u.setCell a v) (w.setCell a v) where
 size := by simp [World.setCell, h.size]
 live b hb := by
  rw [dead_upd (setCell_pz hc)] at hb
  rw [setCell_heap, setCell_heap, h.live b hb]
 dead b hb := by
  rw [dead_upd (setCell_pz hc)] at hb
  have hne : a.block ≠ b := fun e => (h.cell hc).2.1 (e ▸ hb)
  rw [setCell_heap, if_neg hne]
  exact h.dead b hb
 tape := h.tape
 drawn := h.drawn
 output := h.output
 os := h.os
theorem Sim.push (h : Sim N0 u w) {cs : Array Value} {t : TypeId} {fz : Nat × Nat} (ht : t ≠ badT) : Sim N0 { u with heap := u.heap.push (.cells cs t fz) } { w with heap := w.heap.push (.cells cs t fz) } /\ ∀ b : Nat, ({ u with heap := u.heap.push (.cells cs t fz) } : World).heap[b]? = some pz ↔ u.heap[b]? = some pz := by
 have hz : ∀ b : Nat, (u.heap.push (.cells cs t fz))[b]? = some pz ↔ u.heap[b]? = some pz := fun b => by
  rw [Array.getElem?_push]
  split
  · next e =>
    subst e
    simp only [Option.some.injEq, pz, Obj.cells.injEq, Array.getElem?_eq_none (Nat.le_refl _), reduceCtorEq, iff_false]
    exact fun h => ht h.2.1
  · exact Iff.rfl
 refine ⟨⟨by simp [h.size], fun b hb => ?_, fun b hb => ?_, h.tape, h.drawn, h.output, h.os⟩, hz⟩
 · rw [dead_upd hz] at hb
   show (w.heap.push _)[b]? = (u.heap.push _)[b]?
   rw [Array.getElem?_push, Array.getElem?_push, h.size, h.live b hb]
 · rw [dead_upd hz] at hb
   obtain ⟨c, t', hc⟩ := h.dead b hb
   refine ⟨c, t', ?_⟩
   show (w.heap.push _)[b]? = _
   rw [Array.getElem?_push, if_neg (fun e => by have := (Array.getElem?_eq_some_iff.1 hc).1; omega)]
   exact hc
theorem Sim.drew (h : Sim N0 u w) : Sim N0 { u with drawn := u.drawn + 1 } { w with drawn := w.drawn + 1 } := ⟨h.size, h.live, h.dead, h.tape, by show w.drawn + 1 = u.drawn + 1; rw [h.drawn], h.output, h.os⟩
end
section
variable {P : Program} {N0 : Nat} {u w : World}
theorem seen_sim (hB : P.info? badT = none) (h : Sim N0 u w) {at_ k : Addr} {t : TypeId} {at' : Bool} {r} (hs : u.seen P at_ t k at' = .ok r) : w.seen P at_ t k at' = .ok r /\ ¬ Dead N0 u at_.block /\ at_.block < u.heap.size /\ ∃ fz, u.heap[at_.block]? = some (.cells r.1 r.2.1 fz) /\ r.2.1 ≠ badT := by
 have h0 : ∀ e, e = badT -> P.cellsOf e = 0 := fun e he => by rw [he]; unfold Program.cellsOf; rw [hB]; rfl
 have main : at_.block < u.heap.size /\ ∃ fz, u.heap[at_.block]? = some (.cells r.1 r.2.1 fz) /\ r.2.1 ≠ badT := by
  unfold World.seen at hs
  cases hb : u.heap[at_.block]? with
  | none =>
   rw [hb] at hs
   simp only [bind, Except.bind, pure, Except.pure] at hs
   repeat' split at hs
   all_goals simp_all [MonadExcept.throw, throwThe, MonadExceptOf.throw]
  | some o =>
   refine ⟨(Array.getElem?_eq_some_iff.1 hb).1, ?_⟩
   rw [hb] at hs
   cases o with
   | cells c e fz =>
    simp only [bind, Except.bind, pure, Except.pure] at hs
    repeat' split at hs
    all_goals simp_all [MonadExcept.throw, throwThe, MonadExceptOf.throw]
    all_goals (subst hs; exact ⟨⟨rfl, rfl⟩, fun he => by
     have he : e = badT := he
     subst he
     contradiction⟩)
   | _ =>
    simp only [bind, Except.bind, pure, Except.pure] at hs
    repeat' split at hs
    all_goals simp_all [MonadExcept.throw, throwThe, MonadExceptOf.throw]
 have hnd : ¬ Dead N0 u at_.block := fun hd => by
  obtain ⟨_, fz, hc, hne⟩ := main
  rw [hd.2] at hc
  simp only [Option.some.injEq, pz, Obj.cells.injEq] at hc
  exact hne hc.2.1.symm
 refine ⟨?_, hnd, main⟩
 unfold World.seen at hs ⊢
 rw [h.live _ hnd]; exact hs
def EvG (N0 : Nat) (u : World) (e : Event) : Prop := (∃ a wr, e = ⟨.cell a, wr, false⟩ /\ a.block < u.heap.size /\ ¬ Dead N0 u a.block) \/ (∃ r wr sy, e = ⟨.obj r, wr, sy⟩ /\ r < u.heap.size) \/ e = ⟨.mark .noRoom, false, true⟩
structure Gr (u u' : World) : Prop where
 size : u.heap.size <= u'.heap.size
 pz : ∀ b : Nat, u'.heap[b]? = some Wp.pz ↔ u.heap[b]? = some Wp.pz
theorem Gr.refl (u : World) : Gr u u := ⟨Nat.le_refl _, fun _ => Iff.rfl⟩
theorem Gr.trans {a b c : World} (h1 : Gr a b) (h2 : Gr b c) : Gr a c := ⟨Nat.le_trans h1.size h2.size, fun x => (h2.pz x).trans (h1.pz x)⟩
theorem EvG.mono {u u' : World} (h : Gr u u') {e : Event} (he : EvG N0 u e) : EvG N0 u' e := by
 rcases he with ⟨a, wr, rfl, h1, h2⟩ | ⟨r, wr, sy, rfl, h1⟩ | rfl
 · exact .inl ⟨a, wr, rfl, Nat.lt_of_lt_of_le h1 h.size, fun hd => h2 ((dead_upd h.pz).1 hd)⟩
 · exact .inr (.inl ⟨r, wr, sy, rfl, Nat.lt_of_lt_of_le h1 h.size⟩)
 · exact .inr (.inr rfl)
theorem viewLoad_sim (hB : P.info? badT = none) (h : Sim N0 u w) {at_ k : Addr} {t : TypeId} {at' : Bool} {r} (hs : u.viewLoad P at_ t k at' = .ok r) : w.viewLoad P at_ t k at' = .ok r /\ ∀ x ∈ r.2, x.block < u.heap.size /\ ¬ Dead N0 u x.block := by
 unfold World.viewLoad at hs ⊢
 cases hq : u.seen P at_ t k at' with
 | error e => rw [hq] at hs; cases hs
 | ok q =>
  obtain ⟨h1, h2, h3, _⟩ := seen_sim hB h hq
  rw [hq] at hs
  rw [h1]
  refine ⟨hs, fun x hx => ?_⟩
  simp only [bind, Except.bind, pure, Except.pure] at hs
  split at hs
  · cases hs
    obtain ⟨y, _, rfl⟩ := List.mem_map.1 hx
    exact ⟨h3, h2⟩
  · cases hs
theorem farLoad_sim (hB : P.info? badT = none) (h : Sim N0 u w) {a : Addr} {at' : Bool} {r} (hs : u.farLoad P a at' = .ok r) : w.farLoad P a at' = .ok r /\ ∀ x ∈ r.2, x.block < u.heap.size /\ ¬ Dead N0 u x.block := by
 unfold World.farLoad at hs ⊢
 cases hb : u.heap[a.block]? with
 | none => rw [hb] at hs; cases hs
 | some o =>
  rw [hb] at hs
  cases o with
  | view at_ t =>
   have hnd : ¬ Dead N0 u a.block := fun hd => by rw [hd.2] at hb; cases hb
   rw [h.live _ hnd, hb]
   simp only at hs ⊢
   split at hs
   · next q hq =>
     cases hs
     obtain ⟨h1, h2⟩ := viewLoad_sim hB h hq
     rw [h1]
     exact ⟨rfl, h2⟩
   · cases hs
  | _ => cases hs
theorem viewStore_sim (hB : P.info? badT = none) (h : Sim N0 u w) {at_ k : Addr} {t : TypeId} {v : Value} {at' : Bool} {r} (hs : u.viewStore P at_ t k v at' = .ok r) :
  ∃ w', w.viewStore P at_ t k v at' = .ok (w', r.2) /\ Sim N0 r.1 w' /\ Gr u r.1 /\ ∀ x ∈ r.2, x.block < u.heap.size /\ ¬ Dead N0 u x.block := by
 unfold World.viewStore at hs ⊢
 cases hq : u.seen P at_ t k at' with
 | error e =>
  rw [hq] at hs
  simp only [bind, Except.bind, pure, Except.pure] at hs
  repeat' split at hs
  all_goals simp_all [MonadExcept.throw, throwThe, MonadExceptOf.throw]
 | ok q =>
  obtain ⟨h1, h2, h3, fz0, h4, h5⟩ := seen_sim hB h hq
  rw [hq] at hs
  rw [h1]
  obtain ⟨c, e, fz, first, like, cells⟩ := q
  simp only at h4 h5
  simp only [bind, Except.bind, pure, Except.pure] at hs ⊢
  split at hs
  · cases hs
  · split at hs
    · next hq1 =>
      split at hs
      · cases hs
      · split at hs
        · cases hs
        · next c' hc' =>
          cases hs
          have hgr : Gr u { u with heap := u.heap.setIfInBounds at_.block (.cells c' e fz) } := ⟨by simp, fun b => by
           show (u.heap.setIfInBounds _ _)[b]? = _ ↔ _
           rw [Array.getElem?_setIfInBounds]
           split
           · next hbe =>
             subst hbe
             rw [h4]
             simp only [Option.some.injEq, pz, Obj.cells.injEq]
             exact ⟨fun hh => absurd hh.2.1 h5, fun hh => absurd hh.2.1 h5⟩
           · exact Iff.rfl⟩
          refine ⟨{ w with heap := w.heap.setIfInBounds at_.block (.cells c' e fz) }, ?_, ⟨by simp [h.size], fun b hb => ?_, fun b hb => ?_, h.tape, h.drawn, h.output, h.os⟩, hgr, fun x hx => ?_⟩
          · simp_all
          · rw [dead_upd hgr.pz] at hb
            show (w.heap.setIfInBounds _ _)[b]? = (u.heap.setIfInBounds _ _)[b]?
            rw [Array.getElem?_setIfInBounds, Array.getElem?_setIfInBounds, h.size, h.live b hb]
          · rw [dead_upd hgr.pz] at hb
            obtain ⟨cc, tt, hc⟩ := h.dead b hb
            refine ⟨cc, tt, ?_⟩
            show (w.heap.setIfInBounds _ _)[b]? = _
            rw [Array.getElem?_setIfInBounds, if_neg (fun hbe : at_.block = b => h2 (by rw [hbe]; exact hb))]
            exact hc
          · obtain ⟨y, _, rfl⟩ := List.mem_map.1 hx
            exact ⟨h3, h2⟩
    · cases hs
theorem pushAll {N0 : Nat} {u : World} {l : List Addr} {wr : Bool} (h : ∀ x ∈ l, x.block < u.heap.size /\ ¬ Dead N0 u x.block) : ∀ e ∈ l.toArray.map (fun a => (⟨.cell a, wr, Mode.plain == Mode.atomic⟩ : Event)), EvG N0 u e := fun e he => by
 obtain ⟨a, ha, rfl⟩ := Array.mem_map.1 he
 obtain ⟨h1, h2⟩ := h a (by simpa using ha)
 exact .inl ⟨a, wr, rfl, h1, h2⟩
theorem one_evG {N0 : Nat} {u : World} {e : Event} (h : EvG N0 u e) : ∀ e' ∈ #[e], EvG N0 u e' := fun e' he => by
 simp only [List.mem_toArray, List.mem_cons, List.not_mem_nil, or_false] at he
 subst he; exact h
theorem app_evG {N0 : Nat} {u : World} {a b : Array Event} (h1 : ∀ e ∈ a, EvG N0 u e) (h2 : ∀ e ∈ b, EvG N0 u e) : ∀ e ∈ a ++ b, EvG N0 u e := fun e he => (Array.mem_append.1 he).elim (h1 e) (h2 e)
theorem lock (hB : P.info? badT = none) {α : Type} {s : Sem α} (hs : Wl P s) : ∀ {u w : World} {a : α} {u' : World}, Sim N0 u w -> s.run P u = .ok a u' ->
  Gr u u' /\ ∃ w', s.run P w = .ok a w' /\ Sim N0 u' w' /\ ∃ evs : Array Event, (∀ es, s.runT P w es = (.ok a w', es ++ evs)) /\ ∀ e ∈ evs, EvG N0 u' e := by
 induction hs with
 | pure x =>
  intro u w a u' h hr
  cases hr
  exact ⟨.refl _, w, rfl, h, #[], fun es => by simp [Sem.runT], fun e he => by simp at he⟩
 | never hn => intro u w a u' h hr; exact absurd hr (hn _ _ _)
 | @load ad k hk ih =>
  intro u w a u' h hr
  simp only [Sem.run] at hr
  cases hc : u.cell? ad with
  | some v =>
   rw [hc] at hr
   obtain ⟨h1, h2, h3⟩ := h.cell hc
   obtain ⟨g, w', r1, r2, evs, r3, r4⟩ := ih v h hr
   refine ⟨g, w', by simp only [Sem.run, h1]; exact r1, r2, #[⟨.cell ad, false, false⟩] ++ evs, fun es => ?_, app_evG (one_evG (EvG.mono g (Or.inl ⟨ad, false, rfl, h3, h2⟩))) r4⟩
   simp only [Sem.runT, h1]
   rw [r3]
   simp
   rfl
  | none =>
   rw [hc] at hr
   have hcw : w.cell? ad = none := by
    unfold World.cell? at hc ⊢
    by_cases hd : Dead N0 u ad.block
    · simp only at hr
      unfold World.farLoad at hr
      rw [hd.2] at hr
      simp [pz] at hr
    · rw [h.live _ hd]; exact hc
   simp only at hr
   split at hr
   · next v tl hf =>
     obtain ⟨h1, h2⟩ := farLoad_sim hB h hf
     obtain ⟨g, w', r1, r2, evs, r3, r4⟩ := ih v h hr
     refine ⟨g, w', by simp only [Sem.run, hcw, h1]; exact r1, r2, tl.toArray.map (fun a => ⟨.cell a, false, Mode.plain == Mode.atomic⟩) ++ evs, fun es => ?_, app_evG (fun e he => (pushAll h2 e he).mono g) r4⟩
     simp only [Sem.runT, hcw, h1]
     rw [r3, Array.append_assoc]
   · cases hr
 | @store ad v k hk ih =>
  intro u w a u' h hr
  have plain : (∀ cs, v ≠ .agg cs) -> (∀ cs, v ≠ .tuple cs) -> Gr u u' /\ ∃ w', (Sem.store .plain ad v k).run P w = .ok a w' /\ Sim N0 u' w' /\ ∃ evs : Array Event, (∀ es, (Sem.store .plain ad v k).runT P w es = (.ok a w', es ++ evs)) /\ ∀ e ∈ evs, EvG N0 u' e := by
   intro hv1 hv2
   have er : ∀ x : World, (Sem.store .plain ad v k).run P x = match x.cell? ad with
    | some _ => if x.frozen? ad then .halt (.unsupported (.unsafePointer "a write to bytes that a string shares")) x else k.run P (x.setCell ad v)
    | none => match x.farStore P ad v (Mode.plain == .atomic) with
     | .ok (x, _) => k.run P x
     | .error h => .halt h x := fun x => by
    cases v <;> first | exact absurd rfl (hv1 _) | exact absurd rfl (hv2 _) | rfl
   have et : ∀ (x : World) es, (Sem.store .plain ad v k).runT P x es = match x.cell? ad with
    | some _ => if x.frozen? ad then (.halt (.unsupported (.unsafePointer "a write to bytes that a string shares")) x, es) else k.runT P (x.setCell ad v) (es.push ⟨.cell ad, true, Mode.plain == .atomic⟩)
    | none => match x.farStore P ad v (Mode.plain == .atomic) with
     | .ok (x, touched) => k.runT P x (es ++ touched.toArray.map (⟨.cell ·, true, Mode.plain == .atomic⟩))
     | .error h => (.halt h x, es) := fun x es => by
    cases v <;> first | exact absurd rfl (hv1 _) | exact absurd rfl (hv2 _) | rfl
   rw [er] at hr
   cases hc : u.cell? ad with
   | some v0 =>
    rw [hc] at hr
    obtain ⟨h1, h2, h3⟩ := h.cell hc
    simp only at hr
    split at hr
    · cases hr
    · next hz =>
      have g0 : Gr u (u.setCell ad v) := ⟨by simp [World.setCell], setCell_pz hc⟩
      obtain ⟨g, w', r1, r2, evs, r3, r4⟩ := ih (h.setCell hc) hr
      have hzw : ¬ w.frozen? ad = true := by rw [h.frozen]; exact hz
      refine ⟨g0.trans g, w', by rw [er, h1]; simp only; rw [if_neg hzw]; exact r1, r2, #[⟨.cell ad, true, false⟩] ++ evs, fun es => ?_, app_evG (one_evG (EvG.mono (g0.trans g) (Or.inl ⟨ad, true, rfl, h3, h2⟩))) r4⟩
      rw [et, h1]
      simp only
      rw [if_neg hzw, r3]
      simp
      rfl
   | none =>
    rw [hc] at hr
    simp only at hr
    have hcw : w.cell? ad = none := by
     unfold World.cell? at hc ⊢
     by_cases hd : Dead N0 u ad.block
     · unfold World.farStore at hr
       rw [hd.2] at hr
       simp [pz] at hr
     · rw [h.live _ hd]; exact hc
    split at hr
    · next u1 tl hf =>
      have hf' := hf
      unfold World.farStore at hf
      cases hb : u.heap[ad.block]? with
      | none => rw [hb] at hf; cases hf
      | some o =>
       rw [hb] at hf
       cases o with
       | view at_ t =>
        have hnd : ¬ Dead N0 u ad.block := fun hd => by rw [hd.2] at hb; cases hb
        simp only at hf
        split at hf
        · next q hq =>
          cases hf
          obtain ⟨w1, h1, h2, h3, h4⟩ := viewStore_sim hB h hq
          obtain ⟨g, w', r1, r2, evs, r3, r4⟩ := ih h2 hr
          have hfw : w.farStore P ad v (Mode.plain == .atomic) = .ok (w1, tl) := by
           unfold World.farStore
           rw [h.live _ hnd, hb]
           simp only
           rw [h1]
          refine ⟨h3.trans g, w', by rw [er, hcw]; simp only; rw [hfw]; exact r1, r2, tl.toArray.map (fun a => ⟨.cell a, true, Mode.plain == Mode.atomic⟩) ++ evs, fun es => ?_, app_evG (fun e he => (pushAll h4 e he).mono (h3.trans g)) r4⟩
          rw [et, hcw]
          simp only
          rw [hfw]
          simp only
          rw [r3, Array.append_assoc]
        · cases hf
       | _ => cases hf
    · cases hr
  cases v with
  | agg cs => cases hr
  | tuple cs => cases hr
  | _ => exact plain (fun _ e => by cases e) (fun _ e => by cases e)
 | @new cs t fz k ht hk ih =>
  intro u w a u' h hr
  obtain ⟨h1, h2⟩ := h.push (cs := cs) (fz := fz) ht
  have g0 : Gr u { u with heap := u.heap.push (.cells cs t fz) } := ⟨by simp, h2⟩
  obtain ⟨g, w', r1, r2, evs, r3, r4⟩ := ih u.heap.size h1 hr
  exact ⟨g0.trans g, w', by simp only [Sem.run, h.size]; exact r1, r2, evs, fun es => by simp only [Sem.runT, h.size]; exact r3 es, r4⟩
 | @shape r k hk hd ih =>
  intro u w a u' h hr
  simp only [Sem.run] at hr
  have key : ∃ x, k x = k (u.shape? r) /\ k (w.shape? r) = k x := by
   by_cases hdr : Dead N0 u r
   · have e1 : u.shape? r = some (badT, 0) := by unfold World.shape?; rw [hdr.2]; rfl
     rw [e1] at hr ⊢
     obtain ⟨cs, t, hc⟩ := h.dead _ hdr
     have e2 : w.shape? r = some (t, cs.size) := by unfold World.shape?; rw [hc]
     rcases hd with hd | hd
     · exact absurd hr (hd _ _ _)
     · exact ⟨_, rfl, by rw [e2]; exact (hd t cs.size).symm⟩
   · exact ⟨_, rfl, by unfold World.shape?; rw [h.live _ hdr]⟩
  obtain ⟨x, e1, e2⟩ := key
  rw [<- e1] at hr
  obtain ⟨g, w', r1, r2, evs, r3, r4⟩ := ih x h hr
  exact ⟨g, w', by simp only [Sem.run, e2]; exact r1, r2, evs, fun es => by simp only [Sem.runT, e2]; exact r3 es, r4⟩
 | @frozen ad k hk ih =>
  intro u w a u' h hr
  obtain ⟨g, w', r1, r2, evs, r3, r4⟩ := ih (u.frozen? ad) h hr
  exact ⟨g, w', by simp only [Sem.run, h.frozen]; exact r1, r2, evs, fun es => by simp only [Sem.runT, h.frozen]; exact r3 es, r4⟩
 | @getObj r k hk ih =>
  intro u w a u' h hr
  simp only [Sem.run] at hr
  cases hb : u.heap[r]? with
  | none => rw [hb] at hr; cases hr
  | some o =>
   rw [hb] at hr
   have hnd : ¬ Dead N0 u r := fun hd => by rw [hd.2] at hb; cases hb; simp [pz] at hr
   have hw := h.live _ hnd
   rw [hb] at hw
   have hlt := (Array.getElem?_eq_some_iff.1 hb).1
   have main : (∀ c t f, o ≠ .cells c t f) -> Gr u u' /\ ∃ w', (Sem.getObj r k).run P w = .ok a w' /\ Sim N0 u' w' /\ ∃ evs : Array Event, (∀ es, (Sem.getObj r k).runT P w es = (.ok a w', es ++ evs)) /\ ∀ e ∈ evs, EvG N0 u' e := by
    intro hne
    have hr' : (k o).run P u = .ok a u' := by cases o <;> first | exact absurd rfl (hne _ _ _) | exact hr
    obtain ⟨g, w', r1, r2, evs, r3, r4⟩ := ih o h hr'
    refine ⟨g, w', ?_, r2, #[⟨.obj r, false, o.isChan⟩] ++ evs, fun es => ?_, app_evG (one_evG (EvG.mono g (Or.inr (.inl ⟨r, false, o.isChan, rfl, hlt⟩)))) r4⟩
    · simp only [Sem.run, hw]
      cases o <;> first | exact absurd rfl (hne _ _ _) | exact r1
    · simp only [Sem.runT, hw]
      have : (k o).runT P w (es.push ⟨.obj r, false, o.isChan⟩) = (.ok a w', es ++ (#[⟨.obj r, false, o.isChan⟩] ++ evs)) := by rw [r3]; simp
      cases o <;> first | exact absurd rfl (hne _ _ _) | exact this
   cases o with
   | cells c t f => cases hr
   | _ => exact main fun _ _ _ e => by cases e
 | @choose q k hk ih =>
  intro u w a u' h hr
  simp only [Sem.run] at hr
  by_cases hq : q.forced = true
  · rw [if_pos hq] at hr
    obtain ⟨g, w', r1, r2, evs, r3, r4⟩ := ih 0 h hr
    exact ⟨g, w', by simp only [Sem.run]; rw [if_pos hq]; exact r1, r2, evs, fun es => by simp only [Sem.runT]; rw [if_pos hq]; exact r3 es, r4⟩
  · rw [if_neg hq] at hr
    have e : q.cut (w.tape w.drawn q) = q.cut (u.tape u.drawn q) := by rw [h.tape, h.drawn]
    obtain ⟨g, w', r1, r2, evs, r3, r4⟩ := ih _ h.drew hr
    exact ⟨⟨g.size, g.pz⟩, w', by simp only [Sem.run]; rw [if_neg hq, e]; exact r1, r2, evs, fun es => by simp only [Sem.runT]; rw [if_neg hq, e]; exact r3 es, r4⟩
 | program _ ih => intro u w a u' h hr; exact ih h hr
 | @room k hk ih =>
  intro u w a u' h hr
  obtain ⟨g, w', r1, r2, evs, r3, r4⟩ := ih h hr
  refine ⟨g, w', r1, r2, #[⟨.mark .noRoom, false, true⟩] ++ evs, fun es => ?_, app_evG (one_evG (.inr (.inr rfl))) r4⟩
  simp only [Sem.runT]
  rw [r3]
  simp
 | @same s t he _ ih =>
  intro u w a u' h hr
  have e1 : t.run P u = .ok a u' := by rw [<- Sem.runT_fst P t u #[], <- he, Sem.runT_fst]; exact hr
  obtain ⟨g, w', r1, r2, evs, r3, r4⟩ := ih h e1
  exact ⟨g, w', by rw [<- Sem.runT_fst P s w #[], he, Sem.runT_fst]; exact r1, r2, evs, fun es => by rw [he]; exact r3 es, r4⟩
 | @still s v hk =>
  intro u w a u' h hr
  have e1 : s.run P u = .ok v u := by rw [<- Sem.runT_fst P s u #[], hk]
  have e2 : s.run P w = .ok v w := by rw [<- Sem.runT_fst P s w #[], hk]
  rw [e1] at hr
  cases hr
  exact ⟨.refl _, w, e2, h, #[], fun es => by rw [hk]; simp, fun e he => by simp at he⟩
end
def FinU (P : Program) (Post : Value -> World -> Prop) (N0 : Nat) (g : Goroutine) (u : World) : Prop :=
 N0 <= u.heap.size -> ∀ S w, (∀ b, S b -> Dead N0 u b) -> Sim N0 (u.at w.drawn) w -> FinW P Post S g w
section
variable {P : Program} {Post : Value -> World -> Prop} {N0 : Nat} {g : Goroutine} {u : World}
theorem Sim.at {w : World} (h : Sim N0 (u.at w.drawn) w) (d : Nat) : Sim N0 (u.at d) (w.at d) := ⟨h.size, h.live, h.dead, h.tape, rfl, h.output, h.os⟩
theorem evG_L {S : Nat -> Prop} {u' : World} (hS : ∀ b, S b -> Dead N0 u' b) {B : Nat} (hB : u'.heap.size = B) {e : Event} (h : EvG N0 u' e) : EvL (ShL S) B e := by
 rcases h with ⟨a, wr, rfl, h1, h2⟩ | ⟨r, wr, sy, rfl, h1⟩ | rfl
 · refine ⟨fun x hx hs => ?_, by simp, by simp, ?_⟩
   · rw [ofEvent_cell0] at hx
     simp only [MemAct.touch?, Option.some.injEq] at hx
     subst hx
     obtain ⟨a', e, hb⟩ := hs
     cases e
     exact absurd (hS _ hb) h2
   · rw [ofEvent_cell0]
     show a.block < B
     omega
 · refine ⟨fun x hx hs => ?_, by simp, by simp, ?_⟩
   · obtain ⟨a', e, hb⟩ := hs
     cases wr <;> cases sy <;> (simp only [MemAct.ofEvent, MemAct.touch?] at hx <;> first | (simp only [Option.some.injEq] at hx; subst hx; exact absurd (show Loc.obj r = Loc.cell a' from e) (by simp)) | cases hx)
   · cases wr <;> cases sy <;> first | exact (show r < B by omega) | exact trivial
 · exact ⟨fun x hx _ => (by cases hx), by simp, by simp, trivial⟩
theorem FinU.quiet {g' : Goroutine} (hr : g.status = .running) (hs : ∀ w, stepG P true g w = .go g' w #[]) (h : FinU P Post N0 g' u) : FinU P Post N0 g u := fun hn S w hS hw =>
 FinW.step hr fun d => ⟨g', w.at d, #[], hs _, fun e he => by simp at he, Nat.le_refl _, h hn S (w.at d) hS (hw.at d)⟩
variable {b : Frame} {a : Act} {k : List Item} {cs : List Frame} {ops : Array Oper} {i : Nat} {rest : List Nat} {o : Oper}
theorem FinU.op (hB : P.info? badT = none) (ho : ops[i]? = some o) (hw : Region.wanted o (yielded ops a.tmps) = true) (hk : b.kind = .normal) (hl : Wl P (execOp a.eval o))
  (h : ∀ d, ∃ u', (∃ v, (execOp a.eval o).run P (u.at d) = .ok (.value v) u' /\ FinU P Post N0 (G (b.at (a.put o.dst v) (.inRegion ops rest :: k)) cs) u') \/
   ((execOp a.eval o).run P (u.at d) = .ok .skip u' /\ FinU P Post N0 (G (b.at (a.put o.dst undef) (.inRegion ops rest :: k)) cs) u')) :
  FinU P Post N0 (G (b.at a (.inRegion ops (i :: rest) :: k)) cs) u := fun hn S w hS hsim => by
 refine FinW.step rfl fun d => ?_
 have hke : b.kind ≠ .early := by rw [hk]; decide
 obtain ⟨u', hcase⟩ := h d
 have main : ∀ (x : Next) (g' : Goroutine), (execOp a.eval o).run P (u.at d) = .ok x u' -> FinU P Post N0 g' u' -> (∀ w1 w', (execOp a.eval o).run P w1 = .ok x w' -> stepG P true (G (b.at a (.inRegion ops (i :: rest) :: k)) cs) w1 = .go g' w' (listed P b.fn a o w1)) ->
   ∃ g' w' es, stepG P true (G (b.at a (.inRegion ops (i :: rest) :: k)) cs) (w.at d) = .go g' w' es /\ (∀ e ∈ es, EvL (ShL S) w'.heap.size e) /\ w.heap.size <= w'.heap.size /\ FinW P Post S g' w' := by
  intro x g' hrun hf hst
  obtain ⟨hg, w', r1, r2, evs, r3, r4⟩ := lock hB hl (hsim.at d) hrun
  have hS' : ∀ b, S b -> Dead N0 u' b := fun b hb => (dead_upd hg.pz).2 (hS b hb)
  refine ⟨g', w', _, hst _ _ r1, fun e he => ?_, ?_, hf (Nat.le_trans hn hg.size) S w' hS' ⟨r2.size, r2.live, r2.dead, r2.tape, rfl, r2.output, r2.os⟩⟩
  · have he := mem_seen he
    unfold Sem.events at he
    rw [r3 #[]] at he
    exact evG_L hS' r2.size.symm (r4 e (by simpa using he))
  · have h1 := hsim.size
    have h2 := r2.size
    have h3 := hg.size
    rw [h2]
    show w.heap.size <= _
    rw [h1]
    exact h3
 rcases hcase with ⟨v, hrun, hf⟩ | ⟨hrun, hf⟩
 · exact main _ _ hrun hf fun w1 w' hr => stepG_value ho hw hke hr
 · exact main _ _ hrun hf fun w1 w' hr => stepG_none ho hw hke hr
theorem FinU.call (ho : ops[i]? = some o) (hw : Region.wanted o (yielded ops a.tmps) = true) (hk : b.kind = .normal) {f : FuncId} {args : Array Value}
  (hc : ∀ w es, (execOp a.eval o).runT P w es = (.ok (.enter f args) w, es)) (h : FinU P Post N0 (G (Frame.enter P f args .normal) (b.at a (.inRegion ops (i :: rest) :: k) :: cs)) u) :
  FinU P Post N0 (G (b.at a (.inRegion ops (i :: rest) :: k)) cs) u := by
 refine FinU.quiet rfl (fun w => ?_) h
 have hke : b.kind ≠ .early := by rw [hk]; decide
 have hr : (execOp a.eval o).run P w = .ok (.enter f args) w := by rw [<- Sem.runT_fst P _ w #[], hc]
 rw [stepG_enter ho hw hke hr]
 unfold listed Sem.events
 rw [hc, seen_none]
theorem FinU.draw {id : Nat} (h : ∀ d t, FinU P Post N0 (G (b.at a (.inRegion ops (Region.schedule (P.follows .mixedOrders) ops t) :: k)) cs) { u.at d with drawn := d + 1 }) :
  FinU P Post N0 (G (b.at a (.code (.region id ops true) :: k)) cs) u := fun hn S w hS hsim =>
 FinW.step rfl fun d => ⟨_, _, #[], stepG_region_draw, fun e he => by simp at he, Nat.le_refl _,
  h d ((w.at d).tape (w.at d).drawn (.order b.fn id)) hn S _ hS ⟨hsim.size, hsim.live, hsim.dead, hsim.tape, rfl, hsim.output, hsim.os⟩⟩
theorem stepG_back {fn : Func} {todo : List Item} {c : Frame} {v : Value} {w w' : World} (hn : b.kind = .normal) (hd : a.defers = []) (hf : P.funcs[b.fn]? = some fn)
  (hr : (results fn a.tmps).run P w = .ok v w') :
  stepG P true (G { b.at a todo with mode := .returning } (c :: cs)) w = .go (G (c.finish v) cs) w' (seen P b.fn ((results fn a.tmps).events P w #[])) := by
 simp [G, stepG, unwind, doReturn, Frame.at, hn, hd, hf, hr, GStep.after]
theorem stepG_over {fn : Func} {todo : List Item} {v : Value} {w w' : World} (hn : b.kind = .normal) (hd : a.defers = []) (hf : P.funcs[b.fn]? = some fn) (hi : P.inits.idxOf? b.fn = none)
  (hr : (results fn a.tmps).run P w = .ok v w') :
  stepG P true (G { b.at a todo with mode := .returning } []) w = .ended (.done v) w' (seen P b.fn ((results fn a.tmps).events P w #[])) := by
 simp [G, stepG, unwind, doReturn, Frame.at, hn, hd, hf, hr, GStep.after, hi]
def Back (P : Program) (Post : Value -> World -> Prop) (N0 : Nat) (f : FuncId) (cs : List Frame) (v : Value) (u : World) : Prop := match cs with
 | c :: cs => FinU P Post N0 (G (c.finish v) cs) u
 | [] => N0 <= u.heap.size -> (∃ fn t, P.funcs[f]? = some fn /\ fn.results = #[.tmp t]) /\ P.inits.idxOf? f = none /\ ∀ w, Sim N0 (u.at w.drawn) w -> Post v w
theorem FinU.ret (hB : P.info? badT = none) {fn : Func} {todo : List Item} (hn : b.kind = .normal) (hd : a.defers = []) (hf : P.funcs[b.fn]? = some fn) (hl : Wl P (results fn a.tmps))
  (hr : ∀ d, ∃ v, (results fn a.tmps).run P (u.at d) = .ok v (u.at d) /\ Back P Post N0 b.fn cs v u) : FinU P Post N0 (G { b.at a todo with mode := .returning } cs) u := fun hN S w hS hsim => by
 cases cs with
 | cons c cs =>
  refine FinW.step rfl fun d => ?_
  obtain ⟨v, hv, h⟩ := hr d
  obtain ⟨hg, w', r1, r2, evs, r3, r4⟩ := lock hB hl (hsim.at d) hv
  refine ⟨_, w', _, stepG_back hn hd hf r1, fun e he => ?_, ?_, h hN S w' hS ⟨r2.size, r2.live, r2.dead, r2.tape, rfl, r2.output, r2.os⟩⟩
  · have he := mem_seen he
    unfold Sem.events at he
    rw [r3 #[]] at he
    exact evG_L hS r2.size.symm (r4 e (by simpa using he))
  · have h1 := hsim.size
    have h2 := r2.size
    rw [h2]
    show w.heap.size <= u.heap.size
    rw [h1]
    exact Nat.le_refl _
 | nil =>
  obtain ⟨v, hv0, h⟩ := hr 0
  obtain ⟨⟨fn', t, h1, h2⟩, h3, h4⟩ := h hN
  rw [hf] at h1
  cases h1
  have hres : ∀ w, (results fn a.tmps).run P w = .ok (a.tmps.getD t undef) w := fun w => results_tmp h2 _ P w
  have hv : v = a.tmps.getD t undef := by have := hv0; rw [hres] at this; cases this; rfl
  subst hv
  refine FinW.done rfl fun d => ⟨_, _, stepG_over hn hd hf h3 (hres _), fun e he => ?_, h4 _ (hsim.at d)⟩
  have he := mem_seen he
  rw [events_results_tmp h2] at he
  simp at he
def ArrK (P : Program) (Post : Value -> World -> Prop) (N0 : Nat) (b : Frame) (k : List Item) (cs : List Frame) : Exit -> Act -> World -> Prop
 | .normal, a, u => FinU P Post N0 (G (b.at a k) cs) u
 | .exit id, a, u => ∃ k', exitTo id k = some k' /\ FinU P Post N0 (G (b.at a k') cs) u
 | .ret, a, u => ∀ todo, FinU P Post N0 (G { b.at a todo with mode := .returning } cs) u
 | _, _, _ => False
def _root_.Go.Code.wpK (P : Program) (c : Code) (Q : Exit -> Act -> World -> Prop) (a : Act) (u : World) : Prop :=
 (∃ e a' u', Q e a' u') /\ ∀ Post N0 (b : Frame) (k : List Item) (cs : List Frame), b.kind = .normal -> (∀ e a' u', Q e a' u' -> ArrK P Post N0 b k cs e a' u') -> FinU P Post N0 (G (b.at a (.code c :: k)) cs) u
def CallsK (P : Program) (f : FuncId) (args : Array Value) (u : World) (R : Ending -> World -> Prop) : Prop :=
 (∃ v u', R (.returned v) u') /\ ∀ Post N0 (cs : List Frame), (∀ v u', R (.returned v) u' -> Back P Post N0 f cs v u') -> (∀ c, cs.head? = some c -> c.mode = .run) -> FinU P Post N0 (G (Frame.enter P f args .normal) cs) u
theorem CallsK.mono {f : FuncId} {args : Array Value} {R R' : Ending -> World -> Prop} (h : CallsK P f args u R) (hr : ∀ e u, R e u -> R' e u) : CallsK P f args u R' :=
 ⟨let ⟨v, u', r⟩ := h.1; ⟨v, u', hr _ _ r⟩, fun Post N0 cs hb => h.2 Post N0 cs fun v u' r => hb v u' (hr _ _ r)⟩
def _root_.Go.Oper.wpK (P : Program) (o : Oper) (a : Act) (u : World) (next : Act -> World -> Prop) (Q : Exit -> Act -> World -> Prop) : Prop :=
 (Wl P (execOp a.eval o) /\ ∃ u', (∃ v, (execOp a.eval o).run P u = .ok (.value v) u' /\ next (a.put o.dst v) u') \/ ((execOp a.eval o).run P u = .ok .skip u' /\ next (a.put o.dst undef) u')) \/
 ∃ f args, (∀ w es, (execOp a.eval o).runT P w es = (.ok (.enter f args) w, es)) /\ CallsK P f args u fun e u' => match e with
  | .returned v => next (a.put o.dst v) u'
  | _ => False
def wpListK (P : Program) (ops : Array Oper) (Q : Exit -> Act -> World -> Prop) : List Oper -> Act -> World -> Prop
 | [], a, u => Q .normal a u
 | o :: rest, a, u => ∀ d, if Region.wanted o (yielded ops a.tmps) then o.wpK P a (u.at d) (wpListK P ops Q rest) Q \/ False else wpListK P ops Q rest (a.put o.dst undef) (u.at d)
def wpOpK (P : Program) (ops : Array Oper) (Q : Exit -> Act -> World -> Prop) (i : Nat) (K : Act -> World -> Prop) (a : Act) (u : World) : Prop :=
 ∀ d, match ops[i]? with
 | none => K a (u.at d)
 | some o => if Region.wanted o (yielded ops a.tmps) then o.wpK P a (u.at d) K Q \/ False else K (a.put o.dst undef) (u.at d)
def wpOpsK (P : Program) (ops : Array Oper) (Q : Exit -> Act -> World -> Prop) : List Nat -> Act -> World -> Prop
 | [], a, u => Q .normal a u
 | i :: rest, a, u => wpOpK P ops Q i (wpOpsK P ops Q rest) a u
def wpAnyK (P : Program) (md : Region.Mode) (ops : Array Oper) (Q : Exit -> Act -> World -> Prop) : Nat -> Array Bool -> Act -> World -> Prop
 | 0, listed, a, u => Region.ready md ops listed = [] /\ Q .normal a u
 | fuel + 1, listed, a, u => (Region.ready md ops listed = [] -> Q .normal a u) /\ ∀ i ∈ Region.ready md ops listed, wpOpK P ops Q i (wpAnyK P md ops Q fuel (listed.setIfInBounds i true)) a u
def roundsK (P : Program) (c : Code) (Q : Exit -> Act -> World -> Prop) : Nat -> Act -> World -> Prop
 | 0, _, _ => False
 | n + 1, a, u => c.wpK P (Exit.then (roundsK P c Q n) Q) a u
end
section
variable {P : Program} {Q : Exit -> Act -> World -> Prop} {a : Act} {u : World} {ops : Array Oper}
theorem wpK_mono {c : Code} {Q' : Exit -> Act -> World -> Prop} (h : c.wpK P Q a u) (hq : ∀ e a u, Q e a u -> Q' e a u) : c.wpK P Q' a u :=
 ⟨let ⟨e, a', u', q⟩ := h.1; ⟨e, a', u', hq _ _ _ q⟩, fun Post N0 b k cs hb hc => h.2 Post N0 b k cs hb fun e a' u' q => hc e a' u' (hq _ _ _ q)⟩
theorem wpK_skip (h : Q .normal a u) : Code.skip.wpK P Q a u := ⟨⟨_, _, _, h⟩, fun Post N0 b k cs hb hc => FinU.quiet rfl (fun w => stepG_skip) (hc _ _ _ h)⟩
theorem wpK_ret (h : Q .ret a u) : Code.ret.wpK P Q a u := ⟨⟨_, _, _, h⟩, fun Post N0 b k cs hb hc => FinU.quiet rfl (fun w => stepG_ret') (hc _ _ _ h _)⟩
theorem wpK_exit {id : Nat} (h : Q (.exit id) a u) : (Code.exit id).wpK P Q a u := ⟨⟨_, _, _, h⟩, fun Post N0 b k cs hb hc => by
 obtain ⟨k', hk, hf⟩ := hc _ _ _ h
 exact FinU.quiet rfl (fun w => stepG_exit hk) hf⟩
theorem ArrK.pass {Post : Value -> World -> Prop} {N0 : Nat} {b : Frame} {x : Item} {k : List Item} {cs : List Frame} {e : Exit} (hx : x.plain = true) (he : e ≠ .normal) (h : ArrK P Post N0 b k cs e a u) : ArrK P Post N0 b (x :: k) cs e a u := by
 cases e with
 | normal => exact absurd rfl he
 | exit id =>
  obtain ⟨k', h1, h2⟩ := h
  exact ⟨k', by cases x <;> simp_all [exitTo, Item.plain], h2⟩
 | ret => exact h
 | _ => exact h.elim
theorem wpK_seq {x y : Code} (h : x.wpK P (Exit.then (y.wpK P Q) Q) a u) : (Code.seq x y).wpK P Q a u := by
 refine ⟨?_, fun Post N0 b k cs hb hc => FinU.quiet rfl (fun w => stepG_seq) (h.2 Post N0 b (.code y :: k) cs hb fun e a' u' q => ?_)⟩
 · obtain ⟨e, a', u', q⟩ := h.1
   cases e with
   | normal => exact q.1
   | _ => exact ⟨_, _, _, q⟩
 · cases e with
   | normal => exact q.2 Post N0 b k cs hb hc
   | _ => exact ArrK.pass rfl (by simp) (hc _ _ _ q)
theorem wpK_cond_true {c : Operand} {x y : Code} (hc : a.eval c = .bool true) (h : x.wpK P Q a u) : (Code.cond c x y).wpK P Q a u :=
 ⟨h.1, fun Post N0 b k cs hb hk => FinU.quiet rfl (fun w => stepG_cond hc) (h.2 Post N0 b k cs hb hk)⟩
theorem wpK_cond_false {c : Operand} {x y : Code} (hc : a.eval c = .bool false) (h : y.wpK P Q a u) : (Code.cond c x y).wpK P Q a u :=
 ⟨h.1, fun Post N0 b k cs hb hk => FinU.quiet rfl (fun w => stepG_cond hc) (h.2 Post N0 b k cs hb hk)⟩
theorem wpK_block {id : Nat} {c : Code} (h : c.wpK P (Exit.inBlock id Q) a u) : (Code.block id c).wpK P Q a u := by
 refine ⟨?_, fun Post N0 b k cs hb hc => FinU.quiet rfl (fun w => stepG_block) (h.2 Post N0 b (.inBlock id :: k) cs hb fun e a' u' q => ?_)⟩
 · obtain ⟨e, a', u', q⟩ := h.1
   cases e with
   | exit id' =>
    simp only [Exit.inBlock] at q
    split at q <;> exact ⟨_, _, _, q⟩
   | _ => exact ⟨_, _, _, q⟩
 · cases e with
   | normal => exact FinU.quiet rfl (fun w => stepG_inBlock) (hc _ _ _ q)
   | exit id' =>
    simp only [Exit.inBlock] at q
    split at q
    · next e => exact ⟨k, by simp [exitTo, e], hc _ _ _ q⟩
    · next e =>
      obtain ⟨k', h1, h2⟩ := hc _ _ _ q
      have : (id == id') = false := by simp; exact fun h => e h.symm
      exact ⟨k', by simp [exitTo, this, h1], h2⟩
   | ret => exact hc _ _ _ q
   | _ => exact (hc _ _ _ q).elim
theorem wpK_loop_rounds {c : Code} (n : Nat) (h : roundsK P c Q n a u) : (Code.loop c).wpK P Q a u := by
 have ex : ∀ n a u, roundsK P c Q n a u -> ∃ e a' u', Q e a' u' := by
  intro n
  induction n with
  | zero => intro a u h; exact h.elim
  | succ n ih =>
   intro a u h
   obtain ⟨e, a', u', q⟩ := h.1
   cases e with
   | normal => exact ih a' u' q
   | _ => exact ⟨_, _, _, q⟩
 refine ⟨ex n a u h, fun Post N0 b k cs hb hc => ?_⟩
 have key : ∀ n a u, roundsK P c Q n a u -> FinU P Post N0 (G (b.at a (.code c :: .inLoop c :: k)) cs) u := by
  intro n
  induction n with
  | zero => intro a u h; exact h.elim
  | succ n ih =>
   intro a u h
   refine h.2 Post N0 b (.inLoop c :: k) cs hb fun e a' u' q => ?_
   cases e with
   | normal => exact FinU.quiet rfl (fun w => stepG_inLoop) (ih a' u' q)
   | _ => exact ArrK.pass rfl (by simp) (hc _ _ _ q)
 exact FinU.quiet rfl (fun w => stepG_loop) (key n a u h)
theorem roundsK_succ {c : Code} {n : Nat} : roundsK P c Q (n + 1) a u = c.wpK P (Exit.then (roundsK P c Q n) Q) a u := rfl
theorem wpK_exists {o : Oper} {next : Act -> World -> Prop} (h : o.wpK P a u next Q) : ∃ a' u', next a' u' := by
 rcases h with ⟨_, u', ⟨v, _, h⟩ | ⟨_, h⟩⟩ | ⟨f, args, _, h⟩
 · exact ⟨_, _, h⟩
 · exact ⟨_, _, h⟩
 · obtain ⟨v, u', h⟩ := h.1
   exact ⟨_, _, h⟩
theorem wpListK_exists {ops : Array Oper} : ∀ (l : List Oper) (a : Act) (u : World), wpListK P ops Q l a u -> ∃ e a' u', Q e a' u'
 | [], a, u, h => ⟨_, _, _, h⟩
 | o :: l, a, u, h => by
  have h := h 0
  split at h
  · rcases h with h | h
    · obtain ⟨a', u', h1⟩ := wpK_exists h
      exact wpListK_exists l a' u' h1
    · exact h.elim
  · exact wpListK_exists l _ _ h
theorem wpOpsK_exists {ops : Array Oper} : ∀ (l : List Nat) (a : Act) (u : World), wpOpsK P ops Q l a u -> ∃ e a' u', Q e a' u'
 | [], a, u, h => ⟨_, _, _, h⟩
 | i :: l, a, u, h => by
  have h := h 0
  split at h
  · exact wpOpsK_exists l _ _ h
  · split at h
    · rcases h with h | h
      · obtain ⟨a', u', h1⟩ := wpK_exists h
        exact wpOpsK_exists l a' u' h1
      · exact h.elim
    · exact wpOpsK_exists l _ _ h
theorem FinU.of_at {Post : Value -> World -> Prop} {N0 : Nat} {g : Goroutine} (d : Nat) (h : FinU P Post N0 g (u.at d)) : FinU P Post N0 g u := h
theorem fin_op (hB : P.info? badT = none) {Post : Value -> World -> Prop} {N0 : Nat} {b : Frame} {i : Nat} {rest : List Nat} {k : List Item} {cs : List Frame} {K : Act -> World -> Prop} (hb : b.kind = .normal) (hsz : ∃ o, ops[i]? = some o)
  (h : wpOpK P ops Q i K a u) (hK : ∀ a' u', K a' u' -> FinU P Post N0 (G (b.at a' (.inRegion ops rest :: k)) cs) u') : FinU P Post N0 (G (b.at a (.inRegion ops (i :: rest) :: k)) cs) u := by
 obtain ⟨o, ho⟩ := hsz
 unfold wpOpK at h
 simp only [ho] at h
 cases hw : Region.wanted o (yielded ops a.tmps) with
 | false =>
  simp only [hw, Bool.false_eq_true, if_false] at h
  exact FinU.quiet rfl (fun w => stepG_unwanted ho hw) (FinU.of_at 0 (hK _ _ (h 0)))
 | true =>
  simp only [hw, if_true, or_false] at h
  rcases h 0 with ⟨hl, hv⟩ | ⟨f, args, hc, hcall⟩
  · refine FinU.op hB ho hw hb hl fun d => ?_
    rcases h d with ⟨_, u', hh⟩ | ⟨f, args, hc, hcall⟩
    · exact ⟨u', hh.imp (fun ⟨v, h1, h2⟩ => ⟨v, h1, hK _ _ h2⟩) fun ⟨h1, h2⟩ => ⟨h1, hK _ _ h2⟩⟩
    · exfalso
      obtain ⟨u', ⟨v, h1, _⟩ | ⟨h1, _⟩⟩ := hv
      · rw [<- Sem.runT_fst P _ _ #[], hc] at h1; cases h1
      · rw [<- Sem.runT_fst P _ _ #[], hc] at h1; cases h1
  · refine FinU.call ho hw hb hc (hcall.2 Post N0 _ (fun v u' r => ?_) fun c hc' => by cases hc'; rfl)
    show FinU P Post N0 (G ((b.at a (.inRegion ops (i :: rest) :: k)).finish v) cs) u'
    rw [Frame.finish_at, ho]
    exact hK _ _ r
theorem fin_ops (hB : P.info? badT = none) {Post : Value -> World -> Prop} {N0 : Nat} {b : Frame} {k : List Item} {cs : List Frame} (hb : b.kind = .normal) (hc : ∀ e a' u', Q e a' u' -> ArrK P Post N0 b k cs e a' u') :
  ∀ (l : List Nat) (a : Act) (u : World), (∀ i ∈ l, ∃ o, ops[i]? = some o) -> wpOpsK P ops Q l a u -> FinU P Post N0 (G (b.at a (.inRegion ops l :: k)) cs) u
 | [], a, u, _, h => FinU.quiet rfl (fun w => stepG_region_end) (hc _ _ _ h)
 | i :: l, a, u, hl, h => fin_op hB hb (hl i (by simp)) h fun a' u' h' => fin_ops hB hb hc l a' u' (fun j hj => hl j (by simp [hj])) h'
theorem wpOpsK_of_list : ∀ (l : List Oper) (k : Nat) (a : Act) (u : World), (∀ j, l[j]? = ops[k + j]?) -> wpListK P ops Q l a u -> wpOpsK P ops Q (List.range' k l.length) a u
 | [], k, a, u, _, h => h
 | o :: l, k, a, u, hl, h => by
  have h0 : ops[k]? = some o := by simpa using (hl 0).symm
  have hl' : ∀ j, l[j]? = ops[k + 1 + j]? := fun j => by have := hl (j + 1); simpa [Nat.add_assoc, Nat.add_comm 1 j] using this
  simp only [List.length_cons, List.range'_succ, wpOpsK, wpOpK]
  intro d
  have h := h d
  simp only [h0]
  split
  · next hw =>
    rw [if_pos hw] at h
    refine .inl ?_
    rcases h with h | h
    · rcases h with ⟨hl, u', hh⟩ | ⟨f, args, hc, hcall⟩
      · exact .inl ⟨hl, u', hh.imp (fun ⟨v, h1, h2⟩ => ⟨v, h1, wpOpsK_of_list l (k + 1) _ _ hl' h2⟩) fun ⟨h1, h2⟩ => ⟨h1, wpOpsK_of_list l (k + 1) _ _ hl' h2⟩⟩
      · refine .inr ⟨f, args, hc, hcall.mono fun e u' he => ?_⟩
        cases e with
        | returned v => exact wpOpsK_of_list l (k + 1) _ _ hl' he
        | _ => exact he
    · exact h.elim
  · next hw =>
    rw [if_neg hw] at h
    exact wpOpsK_of_list l (k + 1) _ _ hl' h
theorem range_ops : ∀ i ∈ List.range ops.size, ∃ o, ops[i]? = some o := fun i hi => ⟨_, Array.getElem?_eq_getElem (List.mem_range.1 hi)⟩
theorem wpK_region_list (hB : P.info? badT = none) {id : Nat} (h : wpListK P ops Q ops.toList a u) : (Code.region id ops false).wpK P Q a u := by
 have h' : wpOpsK P ops Q (List.range ops.size) a u := by
  rw [List.range_eq_range', <- Array.length_toList]
  exact wpOpsK_of_list ops.toList 0 a u (by simp) h
 exact ⟨wpListK_exists _ _ _ h, fun Post N0 b k cs hb hc => FinU.quiet rfl (fun w => stepG_region) (fin_ops hB hb hc _ a u range_ops h')⟩
theorem wpK_imp {o : Oper} {a : Act} {u : World} {K K' : Act -> World -> Prop} (h : ∀ a u, K a u -> K' a u) (hh : o.wpK P a u K Q) : o.wpK P a u K' Q := by
 rcases hh with ⟨hl, u', hh⟩ | ⟨f, args, hc, hcall⟩
 · exact .inl ⟨hl, u', hh.imp (fun ⟨v, h1, h2⟩ => ⟨v, h1, h _ _ h2⟩) fun ⟨h1, h2⟩ => ⟨h1, h _ _ h2⟩⟩
 · refine .inr ⟨f, args, hc, hcall.mono fun e u' he => ?_⟩
   cases e with
   | returned v => exact h _ _ he
   | _ => exact he
theorem wpOpK_mono {i : Nat} {a : Act} {u : World} {K K' : Act -> World -> Prop} (h : ∀ a u, K a u -> K' a u) (hh : wpOpK P ops Q i K a u) : wpOpK P ops Q i K' a u := by
 intro d
 have hh := hh d
 split
 · next ho => simp only [ho] at hh; exact h _ _ hh
 · next o ho =>
   simp only [ho] at hh
   split
   · next hw => rw [if_pos hw] at hh; exact hh.imp (wpK_imp h) id
   · next hw => rw [if_neg hw] at hh; exact h _ _ hh
theorem wpAnyK_sound {md : Region.Mode} : ∀ (fuel t : Nat) (listed : Array Bool) (a : Act) (u : World), wpAnyK P md ops Q fuel listed a u -> wpOpsK P ops Q (Region.linearise.go md ops fuel t listed []) a u := by
 intro fuel
 induction fuel with
 | zero => intro t listed a u h; simpa [Region.linearise.go, wpOpsK] using h.2
 | succ fuel ih =>
  intro t listed a u h
  obtain ⟨h₀, h₁⟩ := h
  simp only [Region.linearise.go]
  change wpOpsK P ops Q (match (Region.ready md ops listed)[t % (Region.ready md ops listed).length]? with
   | some i => Region.linearise.go md ops fuel (t / (Region.ready md ops listed).length) (listed.setIfInBounds i true) [i]
   | none => [].reverse) a u
  cases hi : (Region.ready md ops listed)[t % (Region.ready md ops listed).length]? with
  | none =>
   have hnil : Region.ready md ops listed = [] := by
    rcases List.eq_nil_or_concat (Region.ready md ops listed) with h | ⟨xs, x, h⟩
    · exact h
    · exfalso
      have hlt : t % (Region.ready md ops listed).length < (Region.ready md ops listed).length := Nat.mod_lt _ (by rw [h]; simp)
      rw [List.getElem?_eq_getElem hlt] at hi
      cases hi
   simpa [wpOpsK] using h₀ hnil
  | some i =>
   simp only []
   rw [linearise_go_acc, List.reverse_singleton, List.singleton_append]
   exact wpOpK_mono (fun a u => ih _ _ a u) (h₁ i (List.mem_of_getElem? hi))
theorem wpK_region_draw (hB : P.info? badT = none) {id : Nat} (hsch : ∀ t, ∀ i ∈ Region.schedule (P.follows .mixedOrders) ops t, ∃ o, ops[i]? = some o)
  (h : ∀ d t, wpOpsK P ops Q (Region.schedule (P.follows .mixedOrders) ops t) a { u.at d with drawn := d + 1 }) : (Code.region id ops true).wpK P Q a u :=
 ⟨wpOpsK_exists _ _ _ (h 0 0), fun Post N0 b k cs hb hc => FinU.draw fun d t => fin_ops hB hb hc _ a _ (hsch t) (h d t)⟩
def bodyPostK (P : Program) (fn : Func) (R : Ending -> World -> Prop) : Exit -> Act -> World -> Prop
 | .normal, a, u | .ret, a, u => a.defers = [] /\ Wl P (results fn a.tmps) /\ ∀ d, ∃ v, (results fn a.tmps).run P (u.at d) = .ok v (u.at d) /\ R (.returned v) u
 | _, _, _ => False
theorem calls_of_wpK (hB : P.info? badT = none) {f : FuncId} {fn : Func} {c : Code} {args : Array Value} {R : Ending -> World -> Prop} (hf : P.funcs[f]? = some fn) (hb : fn.body = some c)
  (h : c.wpK P (bodyPostK P fn R) { tmps := args ++ Array.replicate (fn.ntmps - args.size) undef, defers := [] } u) : CallsK P f args u R := by
 refine ⟨?_, fun Post N0 cs hback hrun => ?_⟩
 · obtain ⟨e, a', u', q⟩ := h.1
   cases e with
   | normal => obtain ⟨v, _, r⟩ := q.2.2 0; exact ⟨v, u', r⟩
   | ret => obtain ⟨v, _, r⟩ := q.2.2 0; exact ⟨v, u', r⟩
   | _ => exact q.elim
 · rw [enter_at args hf hb]
   refine h.2 Post N0 (base f) [] cs rfl fun e a' u' q => ?_
   cases e with
   | normal =>
    obtain ⟨h1, h2, h3⟩ := q
    exact FinU.quiet rfl (fun w => stepG_end) (FinU.ret hB rfl h1 hf h2 fun d => let ⟨v, hv, r⟩ := h3 d; ⟨v, hv, hback v u' r⟩)
   | ret =>
    obtain ⟨h1, h2, h3⟩ := q
    exact fun todo => FinU.ret hB rfl h1 hf h2 fun d => let ⟨v, hv, r⟩ := h3 d; ⟨v, hv, hback v u' r⟩
   | _ => exact q.elim
end
section
variable {P : Program} {α β : Type}
theorem wl_program : Wl P program := .program (.pure _)
theorem wl_stuck {s : String} : Wl P (stuck s : Sem α) := .halt
theorem wl_unsupported {u : Unsupported} : Wl P (unsupported u : Sem α) := .halt
theorem wl_choose {q : Question} : Wl P (choose q) := .choose fun _ => .pure _
theorem wl_load {a : Addr} : Wl P (load a) := .load fun _ => .pure _
theorem wl_store {a : Addr} {v : Value} : Wl P (store a v) := .store (.pure _)
theorem wl_newObj {cs : Array Value} {t : TypeId} (h : t ≠ badT) : Wl P (newObj (.cells cs t)) := .new h fun _ => .pure _
theorem wl_typeInfo {t : TypeId} : Wl P (typeInfo t) := by
 refine .bind wl_program fun p => ?_
 split
 · exact .pure _
 · exact .halt
theorem wl_underlying {t : TypeId} : Wl P (underlying t) := by
 refine .bind wl_program fun p => ?_
 split
 · exact .pure _
 · exact .halt
theorem wl_sizeOf {t : TypeId} : Wl P (sizeOf t) := .bind wl_typeInfo fun _ => .pure _
theorem wl_zeroValue {t : TypeId} : Wl P (zeroValue t) := by
 refine .bind wl_typeInfo fun i => ?_
 split
 · exact .pure _
 · exact .halt
theorem wl_isAgg {t : TypeId} : Wl P (isAgg t) := by
 refine .bind wl_underlying fun d => ?_
 split <;> exact .pure _
theorem never_runtimePanic {e : RuntimeError} : Never P (runtimePanic e : Sem α) := by
 unfold runtimePanic
 refine Never.bind fun p => ?_
 cases e <;> dsimp only <;> repeat' (first | exact .halt | (refine Never.bind fun _ => ?_) | split)
theorem wl_runtimePanic {e : RuntimeError} : Wl P (runtimePanic e : Sem α) := .never never_runtimePanic
theorem wl_boundsPanic {k : IntKind} {i : Int} {n : Nat} {c : BoundsCode} : Wl P (boundsPanic k i n c : Sem α) := by
 unfold boundsPanic
 dsimp only
 refine .never ?_
 split <;> exact Never.bind fun _ => never_runtimePanic
theorem wl_asIntOf {v : Value} : Wl P (asIntOf v) := by
 unfold asIntOf
 split <;> first | exact .pure _ | exact .halt
theorem wl_asInt {v : Value} : Wl P (asInt v) := .bind wl_asIntOf fun _ => .pure _
theorem wl_asBool {v : Value} : Wl P (asBool v) := by
 unfold asBool
 split <;> first | exact .pure _ | exact .halt
theorem wl_asAgg {v : Value} : Wl P (asAgg v) := by
 unfold asAgg
 split <;> first | exact .pure _ | exact .halt | exact wl_unsupported | exact wl_stuck
theorem wl_asAddr {v : Value} : Wl P (asAddr v) := by
 unfold asAddr
 split <;> first | exact .pure _ | exact wl_runtimePanic | exact .halt
theorem wl_sureAddr {v : Value} : Wl P (Instr.sureAddr v) := by
 unfold Instr.sureAddr
 split <;> first | exact .pure _ | exact .halt
theorem wl_part {t : TypeId} {cs : Array Value} {off : Nat} : Wl P (part t cs off) := by
 unfold part
 refine .bind wl_isAgg fun b => ?_
 split
 · exact .bind wl_sizeOf fun _ => .pure _
 · split
   · exact .pure _
   · exact .halt
theorem wl_loadCellsFrom {a : Addr} : ∀ (n i : Nat) (acc : Array Value), Wl P (loadCellsFrom a i n acc)
 | 0, i, acc => .pure _
 | n + 1, i, acc => .bind wl_load fun v => wl_loadCellsFrom n (i + 1) _
theorem wl_loadCells {a : Addr} {n : Nat} : Wl P (loadCells a n) := wl_loadCellsFrom n 0 _
theorem wl_storeCells {a : Addr} : ∀ (vs : List Value) (i : Nat), Wl P (storeCells a vs i)
 | [], i => .pure _
 | v :: vs, i => .bind wl_store fun _ => wl_storeCells vs (i + 1)
theorem wl_loadVar {t : TypeId} {a : Addr} : Wl P (loadVar t a) := by
 unfold loadVar
 refine .bind wl_isAgg fun b => ?_
 split
 · exact .bind wl_sizeOf fun _ => .bind wl_loadCells fun _ => .pure _
 · exact wl_load
theorem wl_storeVar {t : TypeId} {a : Addr} {v : Value} : Wl P (storeVar t a v) := by
 unfold storeVar
 refine .bind wl_sizeOf fun n => ?_
 split
 · exact .bind .halt fun _ => wl_storeCells _ _
 · exact .bind (.pure _) fun _ => wl_storeCells _ _
theorem wl_newRow {t : TypeId} {cs : Array Value} (h : t ≠ badT) : Wl P (newRow t cs) := .bind (wl_newObj h) fun _ => .pure _
theorem wl_newVar {t : TypeId} {v : Value} (h : t ≠ badT) : Wl P (newVar t v) := wl_newRow h
theorem wl_askRoom {n : Nat} : Wl P (askRoom n) := by
 unfold askRoom
 split
 · exact .room (.pure _)
 · exact .pure _
theorem wl_mapM_list {f : α -> Sem β} (h : ∀ a, Wl P (f a)) : ∀ (l : List α), Wl P (l.mapM f)
 | [] => by rw [List.mapM_nil]; exact .pure _
 | a :: l => by rw [List.mapM_cons]; exact .bind (h a) fun _ => .bind (wl_mapM_list h l) fun _ => .pure _
theorem wl_mapM {f : α -> Sem β} (h : ∀ a, Wl P (f a)) (xs : Array α) : Wl P (xs.mapM f) := by
 rw [Array.mapM_eq_mapM_toList]
 exact .bind (wl_mapM_list h xs.toList) fun _ => .pure _
theorem wl_foldlM {f : β -> α -> Sem β} (h : ∀ b a, Wl P (f b a)) : ∀ (l : List α) (b : β), Wl P (l.foldlM f b)
 | [], b => .pure _
 | a :: l, b => by rw [List.foldlM_cons]; exact .bind (h b a) fun _ => wl_foldlM h l _
theorem wl_results {fn : Func} {tmps : Array Value} : Wl P (results fn tmps) := by
 unfold results
 refine .bind (wl_mapM (fun r => ?_) _) fun _ => .pure _
 cases r with
 | tmp t => exact .pure _
 | cell a t => exact .bind wl_asAddr fun _ => wl_loadVar
end
section
variable {P : Program}
theorem wl_alloc {t : TypeId} {o : Value} (h : t ≠ badT) : Wl P (Instr.alloc t true o) := by
 unfold Instr.alloc
 refine .bind wl_zeroValue fun z => ?_
 cases o <;> first | exact .bind (wl_newVar h) fun _ => .pure _ | (split <;> first | exact .bind (wl_newVar h) fun _ => .pure _ | simp_all)
theorem wl_box {t : TypeId} {v : Value} (h : t ≠ badT) : Wl P (Instr.box t v) := .bind (wl_newVar h) fun _ => .pure _
theorem wl_build {t : TypeId} {parts : Array (Nat × Value)} : Wl P (Instr.build t parts) := by
 unfold Instr.build
 refine .bind wl_zeroValue fun z => .bind wl_underlying fun d => ?_
 split
 · refine .bind (wl_mapM (fun f => .bind wl_sizeOf fun _ => .pure _) _) fun _ => ?_
   split <;> first | exact .pure _ | exact .halt
 · refine .bind wl_sizeOf fun _ => ?_
   split <;> first | exact .pure _ | exact .halt
 · exact .halt
theorem wl_underlying_bind {t : TypeId} {d : TypeDesc} {α : Type} {f : TypeDesc -> Sem α} (hu : P.underlying t = some d) (h : Wl P (f d)) : Wl P (underlying t >>= f) := by
 refine .program ?_
 show Wl P (Sem.bind (match P.underlying t with | some d => Pure.pure d | none => stuck "no such type") f)
 rw [hu]
 exact h
theorem wl_buildSlice {t e : TypeId} {n : Nat} {parts : Array (Nat × Value)} (hu : P.underlying t = some (.slice e)) (h : e ≠ badT) : Wl P (Instr.buildSlice t n parts) := by
 unfold Instr.buildSlice
 refine wl_underlying_bind hu ?_
 dsimp only
 repeat' (first | exact .pure _ | exact Wl.pure' _ | exact .halt | exact wl_stuck | exact wl_unsupported | exact wl_choose | exact wl_sizeOf | exact wl_typeInfo | exact wl_zeroValue | exact wl_underlying | exact wl_asIntOf | exact wl_asInt | exact wl_asBool | exact wl_asAgg | exact wl_sureAddr | exact wl_part | exact wl_loadCells | exact wl_load | exact wl_isAgg | exact wl_newRow h | (refine .bind ?_ fun _ => ?_) | split | dsimp only)
theorem wl_makeSlice {t e : TypeId} {l c : Value} (hu : P.underlying t = some (.slice e)) (h : e ≠ badT) : Wl P (Instr.makeSlice t l c) := by
 unfold Instr.makeSlice
 refine wl_underlying_bind hu ?_
 dsimp only
 repeat' (first | exact .pure _ | exact Wl.pure' _ | exact .halt | exact wl_stuck | exact wl_unsupported | exact wl_choose | exact wl_sizeOf | exact wl_typeInfo | exact wl_zeroValue | exact wl_underlying | exact wl_asIntOf | exact wl_asInt | exact wl_asBool | exact wl_asAgg | exact wl_sureAddr | exact wl_part | exact wl_loadCells | exact wl_load | exact wl_isAgg | exact wl_newRow h | exact wl_askRoom | exact wl_runtimePanic | (refine .bind ?_ fun _ => ?_) | split | dsimp only)
theorem wl_extract {v : Value} {i : Nat} : Wl P (Instr.extract v i) := by
 unfold Instr.extract
 split
 · split <;> first | exact .pure _ | exact .halt
 · exact .halt
theorem wl_field {t : TypeId} {x : Value} {f : Nat} : Wl P (Instr.field t x f) := by
 unfold Instr.field
 refine .bind wl_underlying fun d => ?_
 split
 · split
   · exact .bind wl_asAgg fun _ => wl_part
   · exact .halt
 · exact .halt
theorem wl_index {t : TypeId} {x i : Value} : Wl P (Instr.index t x i) := by
 unfold Instr.index
 refine .bind wl_asIntOf fun ki => .bind wl_underlying fun d => ?_
 split
 · split
   · exact .bind wl_sizeOf fun _ => wl_part
   · exact wl_boundsPanic
 · split
   · exact .pure _
   · exact wl_boundsPanic
 · exact .halt
theorem wl_indexAt {t : TypeId} {x i : Value} : Wl P (Instr.indexAt t x i) := by
 unfold Instr.indexAt
 repeat' (first | exact .pure _ | exact Wl.pure' _ | exact .halt | exact wl_stuck | exact wl_unsupported | exact wl_choose | exact wl_sizeOf | exact wl_typeInfo | exact wl_zeroValue | exact wl_underlying | exact wl_asIntOf | exact wl_asInt | exact wl_asBool | exact wl_asAgg | exact wl_sureAddr | exact wl_part | exact wl_loadCells | exact wl_load | exact wl_isAgg | exact wl_boundsPanic | (refine .bind ?_ fun _ => ?_) | split | dsimp only)
theorem wl_loadAt {t : TypeId} {x : Value} : Wl P (Instr.loadAt t x) := .bind wl_sureAddr fun _ => wl_loadVar
theorem wl_storeAt {t : TypeId} {x v : Value} : Wl P (Instr.storeAt t x v) := .bind wl_sureAddr fun _ => wl_storeVar
theorem wl_makeInterface {t : TypeId} {x : Value} : Wl P (Instr.makeInterface t x) := by
 unfold Instr.makeInterface
 refine .bind wl_underlying fun d => ?_
 split <;> first | exact .pure _ | exact .halt
theorem wl_sizeOf_bind {t : TypeId} {i : TypeInfo} {α : Type} {f : Nat -> Sem α} (hi : P.info? t = some i) (h : Wl P (f i.size)) : Wl P (sizeOf t >>= f) := by
 refine .program ?_
 show Wl P (Sem.bind (Sem.bind (match P.info? t with | some i => Pure.pure i | none => stuck "no such type") fun i => Pure.pure i.size) f)
 rw [hi]
 exact h
theorem wl_fieldAt {s : TypeId} {fs : Array Field} {fd : Field} {i : TypeInfo} {x : Value} {f : Nat} (hu : P.underlying s = some (.struct fs)) (hf : fs[f]? = some fd) (hi : P.info? fd.type = some i) (hz : i.size ≠ 0) : Wl P (Instr.fieldAt s x f) := by
 unfold Instr.fieldAt
 refine wl_underlying_bind hu ?_
 simp only [hf]
 refine .bind wl_sureAddr fun a => .bind ?_ fun _ => .pure _
 unfold fieldPlace
 refine wl_sizeOf_bind hi ?_
 rw [if_neg hz]
 exact .pure _
theorem wl_sliceBound {x : Value} {y : Nat} {c : BoundsCode} : Wl P (Instr.sliceBound x y c) := by
 unfold Instr.sliceBound
 repeat' (first | exact .pure _ | exact Wl.pure' _ | exact .halt | exact wl_stuck | exact wl_unsupported | exact wl_choose | exact wl_sizeOf | exact wl_typeInfo | exact wl_zeroValue | exact wl_underlying | exact wl_asIntOf | exact wl_asInt | exact wl_asBool | exact wl_asAgg | exact wl_sureAddr | exact wl_part | exact wl_loadCells | exact wl_load | exact wl_isAgg | exact wl_boundsPanic | (refine .bind ?_ fun _ => ?_) | split | dsimp only)
theorem wl_sliceBounds {b : Bool} {n c : Nat} {lo hi mx : Option Value} : Wl P (Instr.sliceBounds b n c lo hi mx) := by
 unfold Instr.sliceBounds
 repeat' (first | exact .pure _ | exact Wl.pure' _ | exact .halt | exact wl_stuck | exact wl_unsupported | exact wl_choose | exact wl_sizeOf | exact wl_typeInfo | exact wl_zeroValue | exact wl_underlying | exact wl_asIntOf | exact wl_asInt | exact wl_asBool | exact wl_asAgg | exact wl_sureAddr | exact wl_part | exact wl_loadCells | exact wl_load | exact wl_isAgg | exact wl_sliceBound | (refine .bind ?_ fun _ => ?_) | split | dsimp only)
theorem wl_slice {t : TypeId} {x : Value} {lo hi mx : Option Value} : Wl P (Instr.slice t x lo hi mx) := by
 unfold Instr.slice
 repeat' (first | exact .pure _ | exact Wl.pure' _ | exact .halt | exact wl_stuck | exact wl_unsupported | exact wl_choose | exact wl_sizeOf | exact wl_typeInfo | exact wl_zeroValue | exact wl_underlying | exact wl_asIntOf | exact wl_asInt | exact wl_asBool | exact wl_asAgg | exact wl_sureAddr | exact wl_part | exact wl_loadCells | exact wl_load | exact wl_isAgg | exact wl_sliceBounds | exact wl_asAddr | (refine .bind ?_ fun _ => ?_) | split | dsimp only)
theorem wl_sliceAt {t : TypeId} {x : Value} {lo hi mx : Option Value} : Wl P (Instr.sliceAt t x lo hi mx) := by
 unfold Instr.sliceAt
 repeat' (first | exact .pure _ | exact Wl.pure' _ | exact .halt | exact wl_stuck | exact wl_unsupported | exact wl_choose | exact wl_sizeOf | exact wl_typeInfo | exact wl_zeroValue | exact wl_underlying | exact wl_asIntOf | exact wl_asInt | exact wl_asBool | exact wl_asAgg | exact wl_sureAddr | exact wl_part | exact wl_loadCells | exact wl_load | exact wl_isAgg | exact wl_sliceBounds | exact wl_slice | (refine .bind ?_ fun _ => ?_) | split | dsimp only)
theorem wl_len {ts : Array TypeId} {ty : TypeId} {args : Array Value} : Wl P (Builtin.len_ ts ty args) := by
 unfold Builtin.len_
 split
 · refine .bind wl_underlying fun d => ?_
   split
   · exact .pure _
   · exact .pure _
   · refine .bind wl_underlying fun d => ?_
     split <;> first | exact .pure _ | exact .halt
   · exact .pure _
   · exact .pure _
   · exact .pure _
   · refine .bind (.getObj fun _ => .pure _) fun o => ?_
     split <;> first | exact .pure _ | exact .halt
   · refine .bind (.getObj fun _ => .pure _) fun o => ?_
     split <;> first | exact .pure _ | exact .halt
   · exact .halt
 · exact .halt
theorem wl_stringOp {op : BinOp} {x y : ByteArray} : Wl P (Op.stringOp op x y) := by
 unfold Op.stringOp
 dsimp only
 split <;> first | exact .pure _ | exact .halt | (split <;> first | exact .pure _ | exact .halt)
theorem wl_max2 {x y : Value} : Wl P (Builtin.max2 x y) := by
 unfold Builtin.max2
 repeat' (first | exact .pure _ | exact Wl.pure' _ | exact .halt | exact wl_stuck | exact wl_unsupported | exact wl_choose | exact wl_sizeOf | exact wl_typeInfo | exact wl_zeroValue | exact wl_underlying | exact wl_asIntOf | exact wl_asInt | exact wl_asBool | exact wl_asAgg | exact wl_sureAddr | exact wl_part | exact wl_loadCells | exact wl_load | exact wl_isAgg | exact wl_stringOp | (refine .bind ?_ fun _ => ?_) | split | dsimp only)
theorem wl_min2 {x y : Value} : Wl P (Builtin.min2 x y) := by
 unfold Builtin.min2
 repeat' (first | exact .pure _ | exact Wl.pure' _ | exact .halt | exact wl_stuck | exact wl_unsupported | exact wl_choose | exact wl_sizeOf | exact wl_typeInfo | exact wl_zeroValue | exact wl_underlying | exact wl_asIntOf | exact wl_asInt | exact wl_asBool | exact wl_asAgg | exact wl_sureAddr | exact wl_part | exact wl_loadCells | exact wl_load | exact wl_isAgg | exact wl_stringOp | (refine .bind ?_ fun _ => ?_) | split | dsimp only)
theorem wl_max {ts : Array TypeId} {ty : TypeId} {args : Array Value} : Wl P (Builtin.max_ ts ty args) := by
 unfold Builtin.max_
 split
 · exact .halt
 · exact wl_foldlM (fun _ _ => wl_max2) _ _
theorem wl_min {ts : Array TypeId} {ty : TypeId} {args : Array Value} : Wl P (Builtin.min_ ts ty args) := by
 unfold Builtin.min_
 split
 · exact .halt
 · exact wl_foldlM (fun _ _ => wl_min2) _ _
theorem wl_not {v : Value} : Wl P (Op.unary .not v) := by
 unfold Op.unary
 split <;> first | exact .pure _ | exact .halt | simp_all
theorem wl_lenOf {v : Value} : Wl P (Builtin.lenOf v) := by
 unfold Builtin.lenOf
 split <;> first | exact .pure _ | exact .halt
theorem wl_firstCells {s n : Nat} {v : Value} : Wl P (Builtin.firstCells s n v) := by
 unfold Builtin.firstCells
 split <;> first | exact wl_loadCells | exact .pure _ | exact .halt
theorem never_noRoom {f : Sem Bool} {u : Unsupported} : Never P (do
  let b <- f
  if (!b) = true then do
    mark .noRoom
    unsupported u
   else unsupported u : Sem Unit) := by
 refine Never.bind fun b => ?_
 split
 · exact Never.bind fun _ => .halt
 · exact .halt
set_option maxHeartbeats 4000000 in
theorem wl_append {ts : Array TypeId} {ty t e : TypeId} {args : Array Value} (h0 : ts[0]? = some t) (hu : P.underlying t = some (.slice e)) (h : e ≠ badT) : Wl P (Builtin.append_ ts ty args) := by
 unfold Builtin.append_
 rw [h0]
 split
 · next heq =>
   simp only [Prod.mk.injEq, Option.some.injEq] at heq
   obtain ⟨rfl, _, _⟩ := heq
   refine wl_underlying_bind hu ?_
   dsimp only
   split
   · refine .bind wl_sizeOf fun size => ?_
     split
     · refine .bind wl_underlying fun d => .bind (.pure _) fun zeros => ?_
       cases zeros <;> simp only [Bool.false_eq_true, if_false, if_true, Bool.not_true, Bool.not_false, false_or, true_or, and_true] <;>
       repeat' (first | exact .pure _ | exact Wl.pure' _ | exact .halt | exact wl_stuck | exact wl_unsupported | exact wl_choose | exact wl_sizeOf | exact wl_typeInfo | exact wl_zeroValue | exact wl_underlying | exact wl_asIntOf | exact wl_asInt | exact wl_asBool | exact wl_asAgg | exact wl_sureAddr | exact wl_part | exact wl_loadCells | exact wl_load | exact wl_isAgg | exact wl_newRow h | exact wl_askRoom | exact wl_runtimePanic | exact wl_lenOf | exact wl_firstCells | exact wl_storeCells _ _ | exact .never never_noRoom | (refine .bind ?_ fun _ => ?_) | split | dsimp only)
     · refine .bind (.pure _) fun zeros => ?_
       cases zeros <;> simp only [Bool.false_eq_true, if_false, if_true, Bool.not_true, Bool.not_false, false_or, true_or, and_true] <;>
       repeat' (first | exact .pure _ | exact Wl.pure' _ | exact .halt | exact wl_stuck | exact wl_unsupported | exact wl_choose | exact wl_sizeOf | exact wl_typeInfo | exact wl_zeroValue | exact wl_underlying | exact wl_asIntOf | exact wl_asInt | exact wl_asBool | exact wl_asAgg | exact wl_sureAddr | exact wl_part | exact wl_loadCells | exact wl_load | exact wl_isAgg | exact wl_newRow h | exact wl_askRoom | exact wl_runtimePanic | exact wl_lenOf | exact wl_firstCells | exact wl_storeCells _ _ | exact .never never_noRoom | (refine .bind ?_ fun _ => ?_) | split | dsimp only)
   · exact .halt
 · exact .halt
end
end Wp
end Go.Proofs.YtnpjonhoihbaeaaGreat
namespace Go.Proofs.YtnpjonhoihbaeaaGreat
namespace Eng
open Go.RowKit
open Wp
def okOp (P : Program) : Op -> Bool
 | .move _ | .assign _ | .pick _ _ _ | .build _ _ | .load _ _ | .store _ _ _ | .binOp _ _ _ _ _ | .makeInterface _ _ | .makeFunc _ _ _ | .slice _ _ _ _ _ | .field _ _ _ | .index _ _ _ | .indexAddr _ _ _ | .extract _ _ | .nilCheck _ => true
 | .unOp .not _ _ => true
 | .alloc t | .box t _ => t != badT
 | .buildSlice t _ _ | .makeSlice t _ _ => match P.underlying t with
  | some (.slice e) => e != badT
  | _ => false
 | .fieldAddr s _ f => match P.underlying s with
  | some (.struct fs) => match fs[f]? with
   | some fd => match P.info? fd.type with
    | some i => i.size != 0
    | none => false
   | none => false
  | _ => false
 | .call { callee := .builtin .append, argTypes, .. } => match argTypes[0]? with
  | some t => match P.underlying t with
   | some (.slice e) => e != badT
   | _ => false
  | none => false
 | .call { callee := .builtin .len, .. } | .call { callee := .builtin .max, .. } | .call { callee := .builtin .min, .. } => true
 | .call { callee := .value _, .. } => true
 | _ => false
def okOps (P : Program) (l : List Oper) : Bool := l.all fun o => okOp P o.op
def qOp : Op -> Bool
 | .binOp _ _ _ _ _ | .nilCheck _ => true
 | .call { callee := .value _, .. } => true
 | _ => false
def WlO (P : Program) (a : Act) (o : Oper) : Prop := qOp o.op = false -> Wl P (execOp a.eval o)
theorem wl_v {P : Program} {s : Sem Value} (h : Wl P s) : Wl P (do pure (Next.value (<- s)) : Sem Next) := .bind h fun _ => .pure _
theorem okOp_wl {P : Program} {o : Oper} (h : okOp P o.op = true) (a : Act) : WlO P a o := by
 intro hq
 obtain ⟨dst, op, ty, pos, after, guard⟩ := o
 simp only at h hq
 cases op with
 | move x => exact .pure _
 | assign x => exact .pure _
 | pick c x y => exact .bind wl_asBool fun _ => .pure _
 | alloc t => exact wl_v (wl_alloc (by simpa [okOp] using h))
 | box t x => exact wl_v (wl_box (by simpa [okOp] using h))
 | build t ps => exact wl_v wl_build
 | buildSlice t n ps =>
  simp only [okOp] at h
  split at h
  · next e hu => exact wl_v (wl_buildSlice hu (by simpa using h))
  · cases h
 | makeSlice t l c =>
  simp only [okOp] at h
  split at h
  · next e hu => exact wl_v (wl_makeSlice hu (by simpa using h))
  · cases h
 | load t x => exact wl_v wl_loadAt
 | store t x y => exact .bind wl_storeAt fun _ => .pure _
 | binOp op t x y yt => cases hq
 | nilCheck x => cases hq
 | unOp op t x =>
  cases op <;> first | (simp [okOp] at h; done) | exact wl_v wl_not
 | makeInterface t x => exact wl_v wl_makeInterface
 | makeFunc f x y => exact wl_v (.pure _)
 | slice t x lo hi mx => exact wl_v wl_sliceAt
 | fieldAddr s x f =>
  simp only [okOp] at h
  split at h
  · next fs hu =>
    split at h
    · next fd hf =>
      split at h
      · next i hi => exact wl_v (wl_fieldAt hu hf hi (by simpa using h))
      · cases h
    · cases h
  · cases h
 | field t x f => exact wl_v wl_field
 | index t x i => exact wl_v wl_index
 | indexAddr t x i => exact wl_v wl_indexAt
 | extract x i => exact wl_v wl_extract
 | call c =>
  obtain ⟨callee, args, ts⟩ := c
  cases callee with
  | builtin b =>
   cases b <;> first | (simp [okOp] at h; done) | skip
   · simp only [okOp] at h
     split at h
     · next t ht =>
       split at h
       · next e hu => exact wl_v (wl_append ht hu (by simpa using h))
       · cases h
     · cases h
   · exact wl_v wl_len
   · exact wl_v wl_max
   · exact wl_v wl_min
  | value f => cases hq
  | invoke r m => simp [okOp] at h
 | _ => simp [okOp] at h
theorem okOps_wl {P : Program} {l : List Oper} (h : okOps P l = true) {o : Oper} (ho : o ∈ l) (a : Act) : WlO P a o := okOp_wl (List.all_eq_true.1 h o ho) a
section
variable {P : Program}
def Still {α : Type} (P : Program) (s : Sem α) (v : α) : Prop := ∀ w es, s.runT P w es = (.ok v w, es)
theorem Still.wl {α : Type} {s : Sem α} {v : α} (h : Still P s v) : Wl P s := .still h
theorem Still.pure {α : Type} (v : α) : Still P (Pure.pure v : Sem α) v := fun w es => rfl
theorem Still.bind {α β : Type} {s : Sem α} {f : α -> Sem β} {v : α} {r : β} (h : Still P s v) (h' : Still P (f v) r) : Still P (s >>= f) r := fun w es => by rw [runT_bind', h]; exact h' w es
theorem still_underlying {t : TypeId} {d : TypeDesc} (h : P.underlying t = some d) : Still P (underlying t) d := fun w es => by
 show Sem.runT P (match P.underlying t with | some d => Pure.pure d | none => stuck "no such type") w es = _
 rw [h]; rfl
theorem part_still {t : TypeId} {cs : Array Value} {off : Nat} {v : Value} {w : World} (h : (part t cs off).run P w = .ok v w) : Still P (part t cs off) v := by
 have key : ∀ (x : Sem Value), Wl P x -> True := fun _ _ => trivial
 unfold part isAgg underlying at h ⊢
 intro w' es
 cases hu : P.underlying t with
 | none =>
  simp only [Sem.run_bind, run_program, Result.andThen_ok, hu] at h
  cases h
 | some d =>
  cases hi : P.info? t with
  | none =>
   cases d <;> simp_all [Program.underlying]
  | some i =>
   rw [Sem.runT_eq]
   cases d <;> simp_all [sizeOf, typeInfo] <;> (split at h <;> simp_all)
theorem still_equal_struct {d : Nat} {t : TypeId} {xs ys : Array Value} {r : Bool} (ht : P.underlying t = some (.struct (P.fieldsOf t))) (hp : P.stoodInHeld t = false) (h : Still P (Op.eqFields d xs ys (P.fieldsOf t).toList) r) : Still P (Op.equalIn (d + 1) t (.agg xs) (.agg ys)) r := by
 intro w es
 have e : (Op.equalIn (d + 1) t (.agg xs) (.agg ys)).runT P w es = (Op.eqFields d xs ys (P.fieldsOf t).toList).runT P w es := by
  unfold Op.equalIn
  rw [runT_bind', still_underlying ht]
  simp only [runT_bind', Sem.runT, program, hp, Bool.false_eq_true, if_false]
  rw [<- Array.forIn_toList]
  clear h ht
  generalize (P.fieldsOf t).toList = fs
  induction fs generalizing w es with
  | nil => rfl
  | cons f fs ih =>
   rw [List.forIn_cons, Op.eqFields]
   by_cases hf : f.name ≠ "_"
   · rw [if_pos hf]
     simp only [if_pos hf, runT_bind']
     generalize (part f.type xs f.offset).runT P w es = r1
     obtain ⟨r1, e1⟩ := r1
     cases r1 with
     | halt x w1 => rfl
     | ok a w1 =>
      dsimp only
      generalize (part f.type ys f.offset).runT P w1 e1 = r2
      obtain ⟨r2, e2⟩ := r2
      cases r2 with
      | halt x w1 => rfl
      | ok b w2 =>
       dsimp only
       generalize (Op.equalIn d f.type a b).runT P w2 e2 = r3
       obtain ⟨r3, e3⟩ := r3
       cases r3 with
       | halt x w1 => rfl
       | ok r w3 =>
        cases r
        · rfl
        · exact ih w3 e3
   · rw [if_neg hf]
     simp only [if_neg hf, runT_bind']
     exact ih w es
 rw [e]
 exact h w es
theorem still_equal_int {d : Nat} {t : TypeId} {k kk : IntKind} {m n : Int} (h : P.underlying t = some (.int kk)) : Still P (Op.equalIn (d + 1) t (.int k m) (.int k n)) (m == n) := by
 unfold Op.equalIn
 refine .bind (still_underlying h) ?_
 simp only [if_true]
 exact .pure _
theorem still_equal_bool {d : Nat} {t : TypeId} {m n : Bool} (h : P.underlying t = some .bool) : Still P (Op.equalIn (d + 1) t (.bool m) (.bool n)) (m == n) := by
 unfold Op.equalIn
 exact .bind (still_underlying h) (.pure _)
theorem still_equal_string {d : Nat} {t : TypeId} {m n : ByteArray} (h : P.underlying t = some .string) : Still P (Op.equalIn (d + 1) t (.string m) (.string n)) (m == n) := by
 unfold Op.equalIn
 exact .bind (still_underlying h) (.pure _)
theorem aeqFs_still {c : Cfg} {d : Nat} {rec : TypeId -> V -> V -> Option Bool}
  (hrec : ∀ t a b r ua ub, rec t a b = some r -> RelV c a ua -> RelV c b ub -> Still P (Op.equalIn d t ua ub) r) {xs ys : List V} {us us' : Array Value}
  (hx : RelVs c xs us.toList) (hy : RelVs c ys us'.toList) : ∀ (fs : List Field) (r : Bool), aeqFs P rec xs ys fs = some r -> Still P (Op.eqFields d us us' fs) r
 | [], r, h => by simp only [aeqFs, Option.some.injEq] at h; subst h; exact .pure _
 | f :: fs, r, h => by
  simp only [aeqFs] at h
  split at h
  · next e =>
    simp only [Op.eqFields, e, ne_eq, not_true_eq_false, if_false]
    exact aeqFs_still hrec hx hy fs r h
  · next e =>
    split at h
    · next a b ha hb =>
      split at h
      · next r1 r2 h1 h2 =>
        simp only [Option.some.injEq] at h
        subst h
        obtain ⟨ua, ha1, ha2⟩ := apart_sound (P := P) ha hx
        obtain ⟨ub, hb1, hb2⟩ := apart_sound (P := P) hb hy
        have h3 := hrec _ _ _ _ _ _ h1 ha2 hb2
        have h4 := aeqFs_still hrec hx hy fs r2 h2
        simp only [Op.eqFields, ne_eq, e, not_false_eq_true, if_true]
        refine .bind (part_still ha1) (.bind (part_still hb1) (.bind h3 ?_))
        cases r1
        · simp only [Bool.not_false, if_true, Bool.false_and]; exact .pure _
        · simpa using h4
      · cases h
    · cases h
theorem aeq_still {c : Cfg} : ∀ (n : Nat) (t : TypeId) (a b : V) (r : Bool) (ua ub : Value), aeq P n t a b = some r -> RelV c a ua -> RelV c b ub ->
  ∀ m, n <= m -> Still P (Op.equalIn m t ua ub) r
 | 0, t, a, b, r, ua, ub, h, _, _, _, _ => by simp [aeq] at h
 | n + 1, t, a, b, r, ua, ub, h, ha, hb, m, hm => by
  obtain ⟨m, rfl⟩ : ∃ k, m = k + 1 := ⟨m - 1, by omega⟩
  unfold aeq at h
  split at h
  · next hu =>
    simp only [RelV] at ha hb
    subst ha; subst hb
    split at h
    · next e =>
      cases h; subst e
      exact still_equal_int hu
    · cases h
  · next hu =>
    simp only [RelV] at ha hb
    subst ha; subst hb
    cases h
    exact still_equal_bool hu
  · next hu =>
    simp only [RelV] at ha hb
    subst ha; subst hb
    cases h
    rw [<- beq_toListBytes]
    exact still_equal_string hu
  · next fs xs ys hu =>
    split at h
    · cases h
    · next hst =>
      simp only [RelV] at ha hb
      obtain ⟨us, rfl, hx⟩ := ha
      obtain ⟨us', rfl, hy⟩ := hb
      have hf : P.fieldsOf t = fs := by simp [Program.fieldsOf, hu]
      refine still_equal_struct (by rw [hf]; exact hu) (by simpa using hst) ?_
      rw [hf]
      exact aeqFs_still (fun t a b r ua ub h1 h2 h3 => aeq_still n t a b r ua ub h1 h2 h3 m (by omega)) hx hy fs.toList r h
  · cases h
theorem still_eqGuard {op : BinOp} {t : TypeId} {x y : Operand} {us us' : Array Value} (hg : P.eqGuardType P.depth t = false) : Still P (eqGuard op t x y (.agg us) (.agg us')) () := fun w es => by
 rw [Sem.runT_eq]
 cases op <;> simp [eqGuard, hg, run_program]
theorem abin_wl {c : Cfg} {op : BinOp} {t : TypeId} {a b : V} {p : Option Prop} {v : V} {ua ub : Value} {x y : Operand} (h : abin P op t a b = some (p, v)) (ha : RelV c a ua) (hb : RelV c b ub) :
  Wl P ((do eqGuard op t x y ua ub; binOp op t ua ub : Sem Value)) := by
 unfold abin at h
 split at h
 · next k m k' n =>
   simp only [RelV] at ha hb
   subst ha; subst hb
   refine .bind ?_ fun _ => ?_
   · cases op <;> (simp only [eqGuard]; repeat' (first | exact .pure _ | split))
   · cases op <;> simp only [binOp, Op.shift, Op.intArith, Op.intDiv, Op.intBits, Op.intCmp] <;> repeat' (first | exact .pure _ | exact .halt | exact wl_runtimePanic | split)
 · simp only [RelV] at ha hb
   subst ha; subst hb
   refine .bind ?_ fun _ => ?_
   · cases op <;> (simp only [eqGuard]; repeat' (first | exact .pure _ | split))
   · cases op <;> simp only [binOp] <;> exact wl_stringOp
 · next p q =>
   simp only [RelV] at ha hb
   subst ha; subst hb
   split at h
   · next hu =>
     refine .bind ?_ fun _ => ?_
     · simp only [eqGuard]; repeat' (first | exact .pure _ | split)
     · exact .bind (still_equal_bool (d := 9999) hu).wl fun _ => .pure _
   · next hu =>
     refine .bind ?_ fun _ => ?_
     · simp only [eqGuard]; repeat' (first | exact .pure _ | split)
     · exact .bind (still_equal_bool (d := 9999) hu).wl fun _ => .pure _
   · cases h
 · next xs ys =>
   split at h
   · cases h
   · next hg =>
     have hg' : P.eqGuardType P.depth t = false := by simpa using hg
     split at h
     · next r hq =>
       have h1 := aeq_still (P := P) 100 t _ _ r ua ub hq ha hb 10000 (by omega)
       simp only [RelV] at ha hb
       obtain ⟨us, rfl, hx⟩ := ha
       obtain ⟨us', rfl, hy⟩ := hb
       exact .bind (still_eqGuard hg').wl fun _ => .bind h1.wl fun _ => .pure _
     · next r hq =>
       have h1 := aeq_still (P := P) 100 t _ _ r ua ub hq ha hb 10000 (by omega)
       simp only [RelV] at ha hb
       obtain ⟨us, rfl, hx⟩ := ha
       obtain ⟨us', rfl, hy⟩ := hb
       exact .bind (still_eqGuard hg').wl fun _ => .bind h1.wl fun _ => .pure _
     · cases h
 · cases h
theorem aval_wl {c : Cfg} {a : Act} {fs : Facts} {ρ : Facts -> Operand -> V} {o : Oper} {p : Option Prop} {v : V} (hl : WlO P a o)
  (hρ : ∀ gs x, (∀ g, g ∈ gs -> a.eval (.tmp g.1) = .bool g.2) -> RelV c (ρ gs x) (a.eval x)) (hfs : ∀ g, g ∈ fs -> a.eval (.tmp g.1) = .bool g.2) (h : aval P c.st fs ρ o.op = some (p, v)) : Wl P (execOp a.eval o) := by
 cases hq : qOp o.op with
 | false => exact hl hq
 | true =>
  obtain ⟨dst, op, ty, pos, after, guard⟩ := o
  simp only at h hq
  cases op with
  | binOp op t x y yt =>
   simp only [aval] at h
   exact wl_v (abin_wl h (hρ fs x hfs) (hρ fs y hfs))
  | nilCheck x =>
   simp only [aval] at h
   split at h
   · next v' hv =>
     cases h
     have hxx := hρ fs x hfs
     unfold anil at hv
     split at hv
     · next cs j er =>
       rw [er] at hxx
       simp only [RelV] at hxx
       obtain ⟨b, o, he, _⟩ := hxx
       simp only [execOp, he]
       exact .pure _
     · next r i er =>
       rw [er] at hxx
       obtain ⟨b, o, he⟩ := cl_shape hxx
       simp only [execOp, he]
       exact .pure _
     · next r i j er =>
       rw [er] at hxx
       obtain ⟨b, o, he⟩ := el_shape hxx
       simp only [execOp, he]
       exact .pure _
     · next a i er =>
       rw [er] at hxx
       simp only [RelV] at hxx
       obtain ⟨b, o, _, he⟩ := hxx
       simp only [execOp, he]
       exact .pure _
     · next f a b er =>
       rw [er] at hxx
       simp only [RelV] at hxx
       obtain ⟨us1, us2, he, _⟩ := hxx
       simp only [execOp, he]
       exact .pure _
     · cases hv
   · cases h
  | call cl =>
   obtain ⟨callee, args, ts⟩ := cl
   cases callee with
   | value f => simp [aval] at h
   | _ => cases hq
  | _ => cases hq
end
def Cfg.at (c : Cfg) (d : Nat) : Cfg := { c with w := c.w.at d }
theorem at_rel {w0 : Base} {c : Cfg} (hr : Rel w0 c) (d : Nat) : Rel w0 (c.at d) /\ Ext c (c.at d) := by
 have hx : Ext c (c.at d) := {
  size := Nat.le_refl _
  sub := fun _ _ h => h
  cells := fun _ _ _ => rfl
  len := Nat.le_refl _
  keep := fun r ob _ h => by
   cases ob with
   | dead => trivial
   | cells cs => exact ⟨⟨cs, h⟩, rfl⟩
   | pool m => exact ⟨m, h⟩
   | vec t f xs => exact ⟨f, xs, h, rfl, rfl, fun _ _ _ h => h⟩ }
 exact ⟨{ below := ⟨⟨hr.below.b0.os, hr.below.b0.tape, hr.below.b0.output, hr.below.b0.size, hr.below.b0.block⟩, hr.below.block⟩, pl := PoolOk.keep hr.pl (fun _ _ h => h) (fun r b h hb => .inl ⟨r, h, hb⟩) (fun _ _ h => .inl h) (fun _ _ _ _ => rfl), inj := hr.inj, fresh := hr.fresh, bound := hr.bound, newA := hr.newA,
          obj := fun r ob h => OkOb.keep hx rfl (fun _ _ => rfl) (fun _ _ _ h => h) (hr.obj r ob h) }, hx⟩
def frzs : List V -> List Ob -> List V × List Ob
 | [], st => ([], st)
 | .vec r :: vs, st => match st[r]? with
  | some (.vec t _ xs) => (.ro t xs :: (frzs vs (st.set r (.vec t xs.length xs))).1, (frzs vs (st.set r (.vec t xs.length xs))).2)
  | _ => (.any :: (frzs vs st).1, (frzs vs st).2)
 | .vw r lo n :: vs, st => match st[r]? with
  | some (.vec t _ xs) => (.ro t ((xs.drop lo).take n) :: (frzs vs (st.set r (.vec t xs.length xs))).1, (frzs vs (st.set r (.vec t xs.length xs))).2)
  | _ => (.any :: (frzs vs st).1, (frzs vs st).2)
 | v :: vs, st => (v :: (frzs vs st).1, (frzs vs st).2)
theorem frzs_sound {w0 : Base} : ∀ {vs : List V} {c : Cfg}, Rel w0 c -> ∃ c', c'.w = c.w /\ c'.st = (frzs vs c.st).2 /\ Rel w0 c' /\ Ext c c' /\ ∀ us, RelVs c vs us -> RelVs c' (frzs vs c.st).1 us
 | [], c, hr => ⟨c, rfl, rfl, hr, Ext.refl c, fun us h => h⟩
 | v :: vs, c, hr => by
  have plain : ∀ w : V, (∀ u, RelV c v u -> RelV c w u) -> ∃ c', c'.w = c.w /\ c'.st = (frzs vs c.st).2 /\ Rel w0 c' /\ Ext c c' /\ ∀ us, RelVs c (v :: vs) us -> RelVs c' (w :: (frzs vs c.st).1) us := by
   intro w hw
   obtain ⟨c', h1, h2, h3, h4, h5⟩ := frzs_sound (vs := vs) hr
   refine ⟨c', h1, h2, h3, h4, fun us h => ?_⟩
   simp only [RelVs] at h
   obtain ⟨u, us', rfl, h6, h7⟩ := h
   exact RelVs.cons (RelV.ext h4 _ _ (hw u h6)) (h5 us' h7)
  cases v with
  | vec r =>
   simp only [frzs]
   split
   · next t f xs hst =>
     obtain ⟨g1, g2, g3⟩ := frz_rel hr hst
     obtain ⟨c', h1, h2, h3, h4, h5⟩ := frzs_sound (vs := vs) g1
     refine ⟨c', h1, h2, h3, g2.trans h4, fun us h => ?_⟩
     simp only [RelVs] at h
     obtain ⟨u, us', rfl, h6, h7⟩ := h
     exact RelVs.cons (RelV.ext h4 _ _ (g3 u h6)) (h5 us' (RelVs.ext g2 _ _ h7))
   · exact plain .any fun u _ => by simp only [RelV]
  | vw r lo n =>
   simp only [frzs]
   split
   · next t f xs hst =>
     obtain ⟨g1, g2, g3⟩ := frz_rel hr hst
     obtain ⟨c', h1, h2, h3, h4, h5⟩ := frzs_sound (vs := vs) g1
     refine ⟨c', h1, h2, h3, g2.trans h4, fun us h => ?_⟩
     simp only [RelVs] at h
     obtain ⟨u, us', rfl, h6, h7⟩ := h
     exact RelVs.cons (RelV.ext h4 _ _ (vw_frz hr hst h6)) (h5 us' (RelVs.ext g2 _ _ h7))
   · exact plain .any fun u _ => by simp only [RelV]
  | _ => exact plain _ fun u h => h
def callable (P : Program) (f : FuncId) : Bool :=
 match P.funcs[f]? with
 | some fn => (fn.name != "runtime.NumGoroutine") && fn.body.isSome
 | none => false
abbrev Caller := FuncId -> List V -> List Ob -> (V -> List Ob -> Prop) -> Prop
def SoundC (P : Program) (C : Caller) : Prop :=
 ∀ (w0 : Base) (c : Cfg) (f : FuncId) (args : List V) (us : Array Value) (K : V -> List Ob -> Prop), Rel w0 c -> RelVs c args us.toList -> C f args c.st K ->
  CallsK P f us c.w fun e w' => ∃ u v c', e = .returned u /\ c'.w = w' /\ Rel w0 c' /\ Ext c c' /\ RelV c' v u /\ K v c'.st
def astoreT (P : Program) (st : List Ob) (t : TypeId) (a x : V) : Option (List Ob) :=
 match P.info? t, vcells x with
 | some i, some vs => if vs.length = i.size then
   match a with
   | .cl r j => match st[r]? with
    | some (.cells cs) => if j + vs.length <= cs.length then (if vs.all one = true then some (st.set r (.cells (splice cs j vs))) else none) else none
    | _ => none
   | .el r j k => match (frzs vs st).2[r]? with
    | some (.vec τ 0 xs) => match dec τ (splice (enc τ (xs.getD j τ.dflt)) k (frzs vs st).1) with
     | some (y, []) => if k + vs.length <= τ.size then (if vs.all one = true then some ((frzs vs st).2.set r (.vec τ 0 (xs.set j y))) else none) else none
     | _ => none
    | _ => none
   | _ => none
  else none
 | _, _ => none
def setI (k : IntKind) (i : Nat) (v : Int) : Nat -> List V -> List V
 | m, .x (.int k' n) :: r => if k' = k then .x (.int k (bif Nat.beq i m then v else n)) :: setI k i v (m + 1) r else .x (.int k' n) :: r
 | _, l => l
def setB (i : Nat) (v : Bool) : Nat -> List V -> List V
 | m, .x (.bool n) :: r => .x (.bool (bif Nat.beq i m then v else n)) :: setB i v (m + 1) r
 | _, l => l
def setH (i : Nat) (v : Hd) : Nat -> List V -> List V
 | m, .hd n :: r => .hd (bif Nat.beq i m then v else n) :: setH i v (m + 1) r
 | m, .x (.slice none 0 0) :: r => .hd (bif Nat.beq i m then v else Hd.nil) :: setH i v (m + 1) r
 | _, l => l
def putAt (i : Nat) (x : V) (cs : List V) : Option (Prop × List V) := match x with
 | .x (.int k v) => some (i < (rnI k cs).length, setI k i v 0 cs)
 | .x (.bool v) => some (i < (rnB cs).length, setB i v 0 cs)
 | .hd v => some (i < (rnH cs).length, setH i v 0 cs)
 | _ => none
def estoreT (P : Program) (st : List Ob) (t : TypeId) (a x : V) : Option (Option Prop × List Ob) := match a with
 | .el r i j => match st[r]? with
  | some (.cells cs) => match P.info? t, putAt i x (cs.drop j) with
   | some inf, some (q, ds) => if inf.size = 1 then some (some q, st.set r (.cells (cs.take j ++ ds))) else none
   | _, _ => none
  | _ => none
 | _ => none
def aappZ (P : Program) (st : List Ob) (e : TypeId) (t : Ty) (xT : TypeId) (sv xv : V) : Option (Option Prop × V × List Ob) :=
 match P.underlying xT, sv, xv, zeroV P e with
 | some (.int _), .x (.slice none 0 0), .x (.int _ n), some zs => if elemOk P e t = true then match dec t zs with
   | some (z, []) => some (some (0 < n /\ n <= 1073741824), .vec st.length, st ++ [.vec t 0 (List.replicate n.toNat z)])
   | _ => none
  else none
 | _, _, _, _ => none
def aappend (P : Program) (st : List Ob) (ts : List TypeId) (sv xv : V) : Option (Option Prop × V × List Ob) :=
 match ts with
 | sT :: xT :: rest => match P.underlying sT with
  | some (.slice e) => match tyP P st e with
   | some t => if sliceArg P xT = true then if elemOk P e t = true then
     match atarget st t sv, arows st t xv with
     | some (xs, f), some ys => some (some (fits (xs.length + ys.length)), .vec st.length, killO sv st ++ [.vec t f (xs ++ ys)])
     | _, _ => none
    else none else (match rest with
     | [] => aappZ P st e t xT sv xv
     | _ => none)
   | none => none
  | _ => none
 | _ => none
def amake (P : Program) (st : List Ob) (t : TypeId) (l c : V) : Option (Option Prop × V × List Ob) :=
 match P.underlying t, l, c with
 | some (.slice e), .x (.int _ n), .x (.int _ m) => match tyP P st e, zeroV P e with
  | some τ, some zs => if elemOk P e τ = true then match dec τ zs with
    | some (z, []) => some (some (0 <= n /\ n <= m /\ m <= 1073741824), .vec st.length, st ++ [.vec τ 0 (List.replicate n.toNat z)])
    | _ => none
   else none
  | _, _ => none
 | _, _, _ => none
def abuildSlice (P : Program) (st : List Ob) (t : TypeId) (len : Nat) (parts : List (Nat × V)) : Option (V × List Ob) :=
 match P.underlying t with
 | some (.slice e) => match tyP P st e, zeroV P e with
  | some τ, some zs => if elemOk P e τ = true then if len * τ.size <= 16777216 then
    match afill (fun i => some (i * τ.size, τ.size)) (List.replicate len zs).flatten parts with
    | some cs => match decRows τ len (frzs cs st).1 with
     | some ys => some (.vec (frzs cs st).2.length, (frzs cs st).2 ++ [.vec τ 0 ys])
     | none => none
    | none => none
   else none else none
  | _, _ => none
 | _ => none
def aclear (P : Program) (st : List Ob) (t : TypeId) (x : V) : Option (List Ob) :=
 match P.underlying t, x with
 | some (.slice e), .vw r lo n => match st[r]?, zeroV P e with
  | some (.vec τ 0 xs), some zs => if elemOk P e τ = true then match dec τ zs with
    | some (z, []) => some (st.set r (.vec τ 0 (xs.take lo ++ List.replicate n z ++ xs.drop (lo + n))))
    | _ => none
   else none
  | _, _ => none
 | _, _ => none
def andO (p : Option Prop) (q : Prop) : Prop := match p with
 | none => q
 | some p => p /\ q
def aeff (P : Program) (C : Caller) (st : List Ob) (fs : Facts) (ρ : Facts -> Operand -> V) (o : Op) (k : V -> List Ob -> Prop) : Prop :=
 match o with
 | .pick (.tmp s) a b => match ρ fs (.tmp s) with
  | .x (.bool t) => bif t then k (ρ ((s, true) :: fs) a) st else k (ρ ((s, false) :: fs) b) st
  | _ => False
 | .alloc t => match zeroV P t with
  | some cs => k (.cl st.length 0) (st ++ [.cells cs])
  | none => False
 | .box _ x => match vcells (ρ fs x) with
  | some cs => k (.cl st.length 0) (st ++ [.cells cs])
  | none => False
 | .buildSlice t len parts => match abuildSlice P st t len (parts.toList.map fun p => (p.1, ρ fs p.2)) with
  | some (v, st') => k v st'
  | none => False
 | .makeSlice t l c => match amake P st t (ρ fs l) (ρ fs c) with
  | some (p, v, st') => andO p (k v st')
  | none => False
 | .store t a x => match astoreT P st t (ρ fs a) (ρ fs x) with
  | some st' => k .any st'
  | none => match estoreT P st t (ρ fs a) (ρ fs x) with
   | some (p, st') => andO p (k .any st')
   | none => False
 | .call { callee := .builtin .append, args, argTypes } => match args.toList with
  | [a, b] => match aappend P st argTypes.toList (ρ fs a) (ρ fs b) with
   | some (p, v, st') => andO p (k v st')
   | none => False
  | _ => False
 | .call { callee := .builtin .clear, args, argTypes } => match args.toList, argTypes.toList with
  | [a], [t] => match aclear P st t (ρ fs a) with
   | some st' => k (.tup []) st'
   | none => False
  | _, _ => False
 | .call { callee := .value f, args, argTypes := _ } => match ρ fs f with
  | .fn (.func g) first captured => if callable P g = true then C g (first ++ args.toList.map (ρ fs) ++ captured) st k else False
  | _ => False
 | _ => False
section
variable {P : Program} {w0 : Base} {c : Cfg} {Q : Exit -> Act -> World -> Prop}
theorem wp_valueW {o : Oper} {a : Act} {w w' : World} {u : Value} {next : Act -> World -> Prop} (h : (execOp a.eval o).run P w = .ok (.value u) w') (hn : next (a.put o.dst u) w') (hl : Wl P (execOp a.eval o)) : o.wpK P a w next Q :=
 .inl ⟨hl, w', .inl ⟨u, h, hn⟩⟩
theorem wp_value {o : Oper} {a : Act} {w w' : World} {u : Value} {next : Act -> World -> Prop} (h : (execOp a.eval o).run P w = .ok (.value u) w') (hn : next (a.put o.dst u) w') (hl : WlO P a o := by assumption) (hq : qOp o.op = false := by rfl) : o.wpK P a w next Q :=
 wp_valueW h hn (hl hq)
theorem wp_skip' {o : Oper} {a : Act} {w w' : World} {next : Act -> World -> Prop} (h : (execOp a.eval o).run P w = .ok .skip w') (hn : next (a.put o.dst undef) w') (hl : WlO P a o := by assumption) (hq : qOp o.op = false := by rfl) : o.wpK P a w next Q :=
 .inl ⟨hl hq, w', .inr ⟨h, hn⟩⟩
theorem newCells_rel (hr : Rel w0 c) (ce : Array Value) (e : TypeId) {cs : List V} (h : RelVs c cs ce.toList) :
  ∃ c', c'.w = c.w.alloc (.cells ce e) /\ c'.st = c.st ++ [.cells cs] /\ Rel w0 c' /\ Ext c c' /\ RelV c' (.cl c.st.length 0) (.pointer (some ⟨c.w.heap.size, 0, none⟩)) := by
 have hx := push_ext c ce e (.cells cs) hr.bound (fun r b h1 h2 => bl_lt hr h1 h2)
 obtain ⟨h1, h2⟩ := push_rel hr ce e (.cells cs) ⟨c.w.heap.size, ce, e, by simp [pushC], heap_new c.w _, RelVs.ext hx _ _ h, fun o ho => by have := hr.bound _ _ ho; omega⟩
 refine ⟨_, rfl, rfl, h1, h2, ?_⟩
 simp only [RelV, pushC]
 rw [List.getElem?_append_right (Nat.le_refl _)]
 simp
theorem newRows_rel (hr : Rel w0 c) {t : Ty} (ht : 0 < t.size) {ys : List t.den} {ce : Array Value} {e : TypeId} {cap : Nat} (h1 : ce.size = cap * t.size) (h2 : ys.length <= cap) (h3 : RowsR (RoV c.w c.A t) t.size ys ce.toList) :
  ∃ c', c'.w = c.w.alloc (.cells ce e) /\ c'.st = c.st ++ [.vec t 0 ys] /\ Rel w0 c' /\ Ext c c' /\ RelV c' (.vec c.st.length) (.slice (some ⟨c.w.heap.size, 0, none⟩) ys.length cap) := by
 have hx := push_ext c ce e (.vec t 0 ys) hr.bound (fun r b h1 h2 => bl_lt hr h1 h2)
 obtain ⟨g1, g2⟩ := push_rel hr ce e (.vec t 0 ys) ⟨ht, Nat.zero_le _, .inr ⟨c.w.heap.size, ce, e, cap, by simp [pushC], heap_new c.w _, h1, h2,
  fun i y hy => RoV.ext hx.sub hx.cells (h3 i y hy), fun o _ hn => by have := hr.bound _ _ hn; omega⟩⟩
 refine ⟨_, rfl, rfl, g1, g2, ?_⟩
 simp only [RelV, pushC]
 rw [List.getElem?_append_right (Nat.le_refl _)]
 simp only [Nat.sub_self, List.getElem?_cons_zero]
 exact .inr ⟨c.w.heap.size, cap, by simp, rfl, ce, e, _, heap_new c.w _, h1⟩
theorem all_one {vs : List V} {us : List Value} (h : vs.all one = true) (hr : RelVs c vs us) : ∀ u, u ∈ us -> u.oneCell' = true := by
 intro u hu
 obtain ⟨i, hi, rfl⟩ := List.getElem_of_mem hu
 have hl := hr.length
 obtain ⟨u', h1, h2⟩ := hr.get (List.getElem?_eq_getElem (show i < vs.length by omega))
 rw [List.getElem?_eq_getElem hi] at h1
 cases h1
 rw [List.all_eq_true] at h
 exact (one_sound (h _ (List.getElem_mem _)) h2).1
theorem storeVar_run {t : TypeId} {i : TypeInfo} (hi : P.info? t = some i) {u : Value} (hs : u.cells.size = i.size) {w : World} {b o : Nat} {ce : Array Value} {e : TypeId} (hheap : w.heap[b]? = some (.cells ce e (0, 0)))
  (hle : o + u.cells.size <= ce.size) (hone : ∀ v, v ∈ u.cells.toList -> v.oneCell' = true) :
  (Instr.storeAt t (.pointer (some ⟨b, o, none⟩)) u).run P w = .ok () (w.setRow b (splice ce.toList o u.cells.toList).toArray) := by
 have := run_storeCells_at (P := P) b o e u.cells.toList 0 ce w hheap (by simpa using hle) hone
 simp only [Nat.add_zero] at this
 simp only [Instr.storeAt, Instr.sureAddr, storeVar, Sem.run_bind, Sem.run_pure, Result.andThen_ok, run_sizeOf' hi, hs, ne_eq, not_true_eq_false, if_false]
 exact this
theorem setI_later {c : Cfg} {k : IntKind} {i : Nat} {v : Int} : ∀ (vs : List V) (us : List Value) (m : Nat), RelVs c vs us -> i < m -> RelVs c (setI k i v m vs) us
 | [], us, m, hr, _ => by simpa [setI] using hr
 | a :: vs, us, m, hr, hm => by
  unfold setI
  split
  · next m _ _ k' n r e =>
    cases e
    split
    · next hk =>
      subst hk
      simp only [RelVs] at hr ⊢
      obtain ⟨u, us', e, h1, h2⟩ := hr
      have hb : Nat.beq i m = false := by
       cases hb : Nat.beq i m with
       | false => rfl
       | true => have := Nat.eq_of_beq_eq_true hb; omega
      exact ⟨u, us', e, by rw [hb]; exact h1, setI_later _ us' (m + 1) h2 (by omega)⟩
    · exact hr
  · exact hr
theorem setI_rel {c : Cfg} {k : IntKind} {i : Nat} {v : Int} : ∀ (vs : List V) (us : List Value) (m d : Nat), RelVs c vs us -> i = m + d -> d < (rnI k vs).length -> RelVs c (setI k i v m vs) (us.set d (.int k v))
 | [], us, m, d, hr, hi, hd => by simp [rnI] at hd
 | a :: vs, us, m, d, hr, hi, hd => by
  unfold rnI at hd
  split at hd
  · next k' n r e =>
    cases e
    split at hd
    · next hk =>
      subst hk
      rw [setI, if_pos rfl]
      simp only [RelVs] at hr
      obtain ⟨u, us', rfl, h1, h2⟩ := hr
      cases d with
      | zero =>
       have hb : Nat.beq i m = true := by rw [hi, Nat.add_zero]; exact Nat.beq_refl m
       rw [hb, List.set_cons_zero]
       exact RelVs.cons (by simp only [RelV]; rfl) (setI_later _ us' (m + 1) h2 (by omega))
      | succ d =>
       have hb : Nat.beq i m = false := by
        cases hb : Nat.beq i m with
        | false => rfl
        | true => have := Nat.eq_of_beq_eq_true hb; omega
       rw [hb, List.set_cons_succ]
       exact RelVs.cons h1 (setI_rel _ us' (m + 1) d h2 (by omega) (by simp only [List.length_cons] at hd; omega))
    · simp at hd
  · simp at hd
theorem setB_later {c : Cfg} {i : Nat} {v : Bool} : ∀ (vs : List V) (us : List Value) (m : Nat), RelVs c vs us -> i < m -> RelVs c (setB i v m vs) us
 | [], us, m, hr, _ => by simpa [setB] using hr
 | a :: vs, us, m, hr, hm => by
  unfold setB
  split
  · next m _ _ n r e =>
    cases e
    simp only [RelVs] at hr ⊢
    obtain ⟨u, us', e, h1, h2⟩ := hr
    have hb : Nat.beq i m = false := by
     cases hb : Nat.beq i m with
     | false => rfl
     | true => have := Nat.eq_of_beq_eq_true hb; omega
    exact ⟨u, us', e, by rw [hb]; exact h1, setB_later _ us' (m + 1) h2 (by omega)⟩
  · exact hr
theorem setB_rel {c : Cfg} {i : Nat} {v : Bool} : ∀ (vs : List V) (us : List Value) (m d : Nat), RelVs c vs us -> i = m + d -> d < (rnB vs).length -> RelVs c (setB i v m vs) (us.set d (.bool v))
 | [], us, m, d, hr, hi, hd => by simp [rnB] at hd
 | a :: vs, us, m, d, hr, hi, hd => by
  unfold rnB at hd
  split at hd
  · next n r e =>
    cases e
    rw [setB]
    simp only [RelVs] at hr
    obtain ⟨u, us', rfl, h1, h2⟩ := hr
    cases d with
    | zero =>
     have hb : Nat.beq i m = true := by rw [hi, Nat.add_zero]; exact Nat.beq_refl m
     rw [hb, List.set_cons_zero]
     exact RelVs.cons (by simp only [RelV]; rfl) (setB_later _ us' (m + 1) h2 (by omega))
    | succ d =>
     have hb : Nat.beq i m = false := by
      cases hb : Nat.beq i m with
      | false => rfl
      | true => have := Nat.eq_of_beq_eq_true hb; omega
     rw [hb, List.set_cons_succ]
     exact RelVs.cons h1 (setB_rel _ us' (m + 1) d h2 (by omega) (by simp only [List.length_cons] at hd; omega))
  · simp at hd
theorem setH_later {c : Cfg} {i : Nat} {v : Hd} : ∀ (vs : List V) (us : List Value) (m : Nat), RelVs c vs us -> i < m -> RelVs c (setH i v m vs) us
 | [], us, m, hr, _ => by simpa [setH] using hr
 | a :: vs, us, m, hr, hm => by
  have hb : Nat.beq i m = false := by
   cases hb : Nat.beq i m with
   | false => rfl
   | true => have := Nat.eq_of_beq_eq_true hb; omega
  unfold setH
  split
  · next m _ _ n r e =>
    cases e
    simp only [RelVs] at hr ⊢
    obtain ⟨u, us', e, h1, h2⟩ := hr
    exact ⟨u, us', e, by rw [hb]; exact h1, setH_later _ us' (m + 1) h2 (by omega)⟩
  · next m _ _ r e =>
    cases e
    simp only [RelVs] at hr ⊢
    obtain ⟨u, us', e, h1, h2⟩ := hr
    exact ⟨u, us', e, by rw [hb]; simp only [RelV] at h1 ⊢; exact h1, setH_later _ us' (m + 1) h2 (by omega)⟩
  · exact hr
theorem setH_rel {c : Cfg} {i : Nat} {v : Hd} : ∀ (vs : List V) (us : List Value) (m d : Nat), RelVs c vs us -> i = m + d -> d < (rnH vs).length -> RelVs c (setH i v m vs) (us.set d v.val)
 | [], us, m, d, hr, hi, hd => by simp [rnH] at hd
 | a :: vs, us, m, d, hr, hi, hd => by
  have hz : d = 0 -> Nat.beq i m = true := fun e => by rw [hi, e, Nat.add_zero]; exact Nat.beq_refl m
  have hs : d ≠ 0 -> Nat.beq i m = false := fun e => by
   cases hb : Nat.beq i m with
   | false => rfl
   | true => have := Nat.eq_of_beq_eq_true hb; omega
  unfold rnH at hd
  split at hd
  · next n r e =>
    cases e
    rw [setH]
    simp only [RelVs] at hr
    obtain ⟨u, us', rfl, h1, h2⟩ := hr
    cases d with
    | zero =>
     rw [hz rfl, List.set_cons_zero]
     exact RelVs.cons (by simp only [RelV]; rfl) (setH_later _ us' (m + 1) h2 (by omega))
    | succ d =>
     rw [hs (by omega), List.set_cons_succ]
     exact RelVs.cons h1 (setH_rel _ us' (m + 1) d h2 (by omega) (by simp only [List.length_cons] at hd; omega))
  · next r e =>
    cases e
    rw [setH]
    simp only [RelVs] at hr
    obtain ⟨u, us', rfl, h1, h2⟩ := hr
    cases d with
    | zero =>
     rw [hz rfl, List.set_cons_zero]
     exact RelVs.cons (by simp only [RelV]; rfl) (setH_later _ us' (m + 1) h2 (by omega))
    | succ d =>
     rw [hs (by omega), List.set_cons_succ]
     exact RelVs.cons (by simp only [RelV] at h1 ⊢; exact h1) (setH_rel _ us' (m + 1) d h2 (by omega) (by simp only [List.length_cons] at hd; omega))
  · simp at hd
theorem putAt_rel {c : Cfg} {i : Nat} {x : V} {cs ds : List V} {us : List Value} {q : Prop} {u : Value} (h : putAt i x cs = some (q, ds)) (hq : q) (hr : RelVs c cs us) (hx : RelV c x u) : RelVs c ds (us.set i u) /\ i < us.length /\ one x = true := by
 have hlen : ∀ {α : Type} {l : List α} (f : ∀ (i : Nat) (a : α), l[i]? = some a -> us[i]? = some (us.getD i default)), i < l.length -> i < us.length := fun f hi => by
  have := f i _ (List.getElem?_eq_getElem hi)
  exact (List.getElem?_eq_some_iff.1 this).1
 have lt : ∀ {w : Value}, us[i]? = some w -> i < us.length := fun h => (List.getElem?_eq_some_iff.1 h).1
 unfold putAt at h
 split at h
 · next k v =>
   cases h
   simp only [RelV] at hx
   subst hx
   exact ⟨setI_rel _ _ 0 i hr (by omega) hq, lt (rnI_rel _ _ hr i _ (List.getElem?_eq_getElem hq)), rfl⟩
 · next v =>
   cases h
   simp only [RelV] at hx
   subst hx
   exact ⟨setB_rel _ _ 0 i hr (by omega) hq, lt (rnB_rel _ _ hr i _ (List.getElem?_eq_getElem hq)), rfl⟩
 · next v =>
   cases h
   simp only [RelV] at hx
   subst hx
   exact ⟨setH_rel _ _ 0 i hr (by omega) hq, lt (rnH_rel _ _ hr i _ (List.getElem?_eq_getElem hq)), rfl⟩
 · cases h
theorem astore_sound (hr : Rel w0 c) {t : TypeId} {av xv : V} {au xu : Value} {st' : List Ob} (h : astoreT P c.st t av xv = some st') (ha : RelV c av au) (hx : RelV c xv xu) :
  ∃ c', (Instr.storeAt t au xu).run P c.w = .ok () c'.w /\ c'.st = st' /\ Rel w0 c' /\ Ext c c' := by
 unfold astoreT at h
 split at h
 · next i vs hi hvs =>
   have hcells := vcells_sound hvs hx
   have hclen := hcells.length
   simp only [Array.length_toList] at hclen
   split at h
   · next hsz =>
     have hs : xu.cells.size = i.size := by rw [hclen, hsz]
     split at h
     · next r j =>
       split at h
       · next cs hst =>
         split at h
         · next hle =>
           split at h
           · next hone =>
             cases h
             simp only [RelV, hst] at ha
             obtain ⟨b, hb, rfl⟩ := ha
             obtain ⟨b', ce, e, hb', hheap, hcs, hA⟩ := hr.obj r _ hst
             rw [hb] at hb'; cases hb'
             have hcel := hcs.length
             simp only [Array.length_toList] at hcel
             have hrun := storeVar_run (P := P) hi hs hheap (o := j) (by rw [hclen, hcel]; exact hle) (all_one hone hcells)
             have hlen : (splice ce.toList j xu.cells.toList).length = ce.size := by
              simp only [splice, List.length_append, List.length_take, List.length_drop, Array.length_toList]; omega
             have hnew := hcs.splice hcells j
             have hrl := live_lt (live_of hst (by simp))
             obtain ⟨h1, h2⟩ := put_rel (ob := .cells (splice cs j vs)) hr hst (by simp) hb hheap (ce := (splice ce.toList j xu.cells.toList).toArray) (fun o ho => absurd ho (hA o)) ⟨⟨cs, hst⟩, rfl⟩
              ⟨b, _, e, hb, setRow_heap c.w b ce _ e _ hheap, by
               refine RelVs.ext (c := c) ?_ _ _ (by simpa using hnew)
               refine { size := by simp [putC], sub := fun _ _ h => h, cells := fun b' o ho => ?_, len := by simp [putC], keep := fun r' ob' hr' hob => ?_ }
               · have hbb : b' ≠ b := by rintro rfl; exact hA o ho
                 exact World.cell?_of_block (w := c.w) (setRow_other c.w b b' _ hbb)
               · simp only [putC] at hob
                 rw [List.getElem?_set] at hob
                 split at hob
                 · next hrr =>
                   subst hrr
                   simp only [hrl, if_true, Option.some.injEq] at hob
                   subst hob
                   exact ⟨⟨cs, hst⟩, rfl⟩
                 · next hrr =>
                   cases ob' with
                   | dead => trivial
                   | cells cs' => exact ⟨⟨cs', hob⟩, rfl⟩
                   | pool m => exact ⟨m, hob⟩
                   | vec t f xs =>
                    refine ⟨f, xs, hob, rfl, rfl, fun b2 n hb2 hrows => ?_⟩
                    obtain ⟨ce', e', fz, g1, g2⟩ := hrows
                    have hne : b2 ≠ b := by
                     rintro rfl
                     exact hrr (hr.inj r r' b2 (live_of hst (by simp)) (live_of hob (by simp)) hb hb2)
                    exact ⟨ce', e', fz, by simp only [putC]; rw [setRow_other _ _ _ _ hne]; exact g1, g2⟩, hA⟩
             exact ⟨_, hrun, rfl, h1, h2⟩
           · cases h
         · cases h
       · cases h
     · next r j k =>
       split at h
       · next τ xs hst =>
         split at h
         · next y hd =>
           split at h
           · next hle =>
             split at h
             · next hone =>
               cases h
               obtain ⟨c1, hw1, hst1, hr1, hx1, hfr⟩ := frzs_sound (vs := vs) hr
               have hvs1 := hfr _ hcells
               have ha1 := RelV.ext hx1 _ _ ha
               rw [<- hst1] at hst
               simp only [RelV, hst] at ha1
               obtain ⟨b, hb, rfl, hj⟩ := ha1
               obtain ⟨hp, _, ⟨hn, _⟩ | ⟨b', ce, e, cap, hb', hheap, hcsz, hcap, hrows, hA⟩⟩ := hr1.obj r _ hst
               · rw [hb] at hn; cases hn
               rw [hb] at hb'; cases hb'
               have hy : xs[j]? = some (xs.getD j τ.dflt) := by simp [List.getD, List.getElem?_eq_getElem hj]
               have hrow := hrows j _ hy
               have hrl := hrow.size
               have hmul : (j + 1) * τ.size <= xs.length * τ.size := Nat.mul_le_mul_right _ hj
               have hmul2 : xs.length * τ.size <= cap * τ.size := Nat.mul_le_mul_right _ hcap
               rw [Nat.add_mul, Nat.one_mul] at hmul
               have hcl : ce.toList.length = cap * τ.size := by simpa using hcsz
               have hxl : xu.cells.toList.length = vs.length := by simpa using hclen
               rw [<- hw1] at *
               have hrun := storeVar_run (P := P) hi hs hheap (o := j * τ.size + k) (by rw [hclen]; omega) (all_one hone hcells)
               have hrow' := hrow.rel.splice hvs1 k
               obtain ⟨us1, us2, hue, hro, hnil⟩ := dec_sound hd hrow'
               simp only [RelVs] at hnil
               subst hnil
               rw [List.append_nil] at hue
               subst hue
               have hlen : (splice ce.toList (j * τ.size + k) xu.cells.toList).length = ce.toList.length := by
                simp only [splice, List.length_append, List.length_take, List.length_drop, Array.length_toList]; omega
               have hget : ∀ n, n < j * τ.size \/ (j + 1) * τ.size <= n -> (splice ce.toList (j * τ.size + k) xu.cells.toList)[n]? = ce.toList[n]? := by
                intro n hn
                rw [Nat.add_mul, Nat.one_mul] at hn
                simp only [splice, List.getElem?_append, List.length_append, List.length_take, List.getElem?_take, List.getElem?_drop]
                repeat' split
                all_goals first | rfl | omega | (congr 1; omega)
               have hmid : ((splice ce.toList (j * τ.size + k) xu.cells.toList).drop (j * τ.size)).take τ.size = splice ((ce.toList.drop (j * τ.size)).take τ.size) k xu.cells.toList := by
                apply List.ext_getElem?
                intro n
                simp only [splice, List.getElem?_append, List.length_append, List.length_take, List.getElem?_take, List.getElem?_drop, List.length_drop]
                repeat' split
                all_goals first | rfl | omega | (congr 1; omega)
               have hrl2 := live_lt (live_of hst (by simp))
               obtain ⟨h1, h2⟩ := put_rel (ob := .vec τ 0 (xs.set j y)) hr1 hst (by simp) hb hheap (ce := (splice ce.toList (j * τ.size + k) xu.cells.toList).toArray) (fun o ho => absurd ho (hA o (by omega)))
                ⟨0, xs, hst, by simp, rfl, fun b2 n hb2 hrr => by
                 rw [hb] at hb2; cases hb2
                 obtain ⟨ce', e', fz, g1, g2⟩ := hrr
                 rw [hheap] at g1; cases g1
                 refine ⟨_, e, _, setRow_heap c1.w b ce _ e _ hheap, ?_⟩
                 simp only [List.size_toArray, hlen, <- g2, Array.length_toList]⟩
                ⟨hp, Nat.zero_le _, .inr ⟨b, _, e, cap, hb, setRow_heap c1.w b ce _ e _ hheap, by simp only [List.size_toArray, hlen, hcl], by simpa using hcap, fun i z hz => by
                 have hext : ∀ {z : τ.den} {us : List Value}, RoV c1.w c1.A τ z us -> RoV (putC c1 r b (splice ce.toList (j * τ.size + k) xu.cells.toList).toArray (.vec τ 0 (xs.set j y))).w c1.A τ z us := fun hz =>
                  RoV.ext (fun _ _ h => h) (fun b' o ho => by
                   have hbb : b' ≠ b := by rintro rfl; exact hA o (by omega) ho
                   exact World.cell?_of_block (w := c1.w) (setRow_other c1.w b b' _ hbb)) hz
                 rw [List.getElem?_set] at hz
                 split at hz
                 · next hij =>
                   subst hij
                   simp only [hj, if_true, Option.some.injEq] at hz
                   subst hz
                   simp only [hmid]
                   exact hext hro
                 · next hij =>
                   have hi2 : i < xs.length := (List.getElem?_eq_some_iff.1 hz).1
                   have := hrows i z hz
                   have he : ((splice ce.toList (j * τ.size + k) xu.cells.toList).drop (i * τ.size)).take τ.size = (ce.toList.drop (i * τ.size)).take τ.size := by
                    apply List.ext_getElem?
                    intro n
                    rw [List.getElem?_take, List.getElem?_take]
                    split
                    · next hn =>
                      rw [List.getElem?_drop, List.getElem?_drop]
                      refine hget _ ?_
                      rcases Nat.lt_or_gt_of_ne hij with g | g
                      · right
                        have : (j + 1) * τ.size <= i * τ.size := Nat.mul_le_mul_right _ g
                        omega
                      · left
                        have : (i + 1) * τ.size <= j * τ.size := Nat.mul_le_mul_right _ g
                        rw [Nat.add_mul, Nat.one_mul] at this
                        omega
                    · rfl
                   simp only [he]
                   exact hext this, fun o ho => hA o ho⟩⟩
               exact ⟨_, hrun, by simp only [putC, hst1], h1, hx1.trans h2⟩
             · cases h
           · cases h
         · cases h
       · cases h
     · cases h
   · cases h
 · cases h
end
theorem estore_sound {P : Program} {w0 : Base} {c : Cfg} (hr : Rel w0 c) {t : TypeId} {av xv : V} {au xu : Value} {q : Option Prop} {st' : List Ob} (h : estoreT P c.st t av xv = some (q, st')) (hq : vc q) (ha : RelV c av au) (hx : RelV c xv xu) :
  ∃ c', (Instr.storeAt t au xu).run P c.w = .ok () c'.w /\ c'.st = st' /\ Rel w0 c' /\ Ext c c' := by
 unfold estoreT at h
 split at h
 · next r i j =>
   split at h
   · next cs hst =>
     split at h
     · next inf q0 ds hi hput =>
       split at h
       · next hs1 =>
         cases h
         simp only [RelV, hst] at ha
         obtain ⟨b, hb, rfl⟩ := ha
         obtain ⟨b', ce, e, hb', hheap, hcs, hA⟩ := hr.obj r _ hst
         rw [hb] at hb'; cases hb'
         obtain ⟨hnew0, hlt, hone⟩ := putAt_rel hput hq (hcs.drop j) hx
         obtain ⟨o1, o2⟩ := one_sound hone hx
         have hlt' : j + i < ce.size := by simp at hlt; omega
         have hs : xu.cells.size = inf.size := by rw [o2, hs1]; rfl
         have hrun := storeVar_run (P := P) hi hs hheap (o := j + i) (by rw [o2]; show j + i + 1 <= ce.size; omega) (fun v hv => by rw [o2] at hv; simp at hv; rw [hv]; exact o1)
         have hsp : splice ce.toList (j + i) xu.cells.toList = ce.toList.take j ++ (ce.toList.drop j).set i xu := by
          rw [o2, List.set_eq_take_append_cons_drop, if_pos hlt]
          have e1 : (ce.toList.take (j + i)) = ce.toList.take j ++ (ce.toList.drop j).take i := List.take_add
          simp only [splice]
          rw [e1, List.drop_drop]
          simp [Nat.add_assoc]
         have hlen : (splice ce.toList (j + i) xu.cells.toList).length = ce.size := by
          rw [hsp]; simp; omega
         have hnew : RelVs c (cs.take j ++ ds) (splice ce.toList (j + i) xu.cells.toList) := by rw [hsp]; exact (hcs.take j).append hnew0
         have hrl := live_lt (live_of hst (by simp))
         obtain ⟨h1, h2⟩ := put_rel (ob := .cells (cs.take j ++ ds)) hr hst (by simp) hb hheap (ce := (splice ce.toList (j + i) xu.cells.toList).toArray) (fun o ho => absurd ho (hA o)) ⟨⟨cs, hst⟩, rfl⟩
          ⟨b, _, e, hb, setRow_heap c.w b ce _ e _ hheap, by
           refine RelVs.ext (c := c) ?_ _ _ (by simpa using hnew)
           refine { size := by simp [putC], sub := fun _ _ h => h, cells := fun b' o ho => ?_, len := by simp [putC], keep := fun r' ob' hr' hob => ?_ }
           · have hbb : b' ≠ b := by rintro rfl; exact hA o ho
             exact World.cell?_of_block (w := c.w) (setRow_other c.w b b' _ hbb)
           · simp only [putC] at hob
             rw [List.getElem?_set] at hob
             split at hob
             · next hrr =>
               subst hrr
               simp only [hrl, if_true, Option.some.injEq] at hob
               subst hob
               exact ⟨⟨cs, hst⟩, rfl⟩
             · next hrr =>
               cases ob' with
               | dead => trivial
               | cells cs' => exact ⟨⟨cs', hob⟩, rfl⟩
               | pool m => exact ⟨m, hob⟩
               | vec t f xs =>
                refine ⟨f, xs, hob, rfl, rfl, fun b2 n hb2 hrows => ?_⟩
                obtain ⟨ce', e', fz, g1, g2⟩ := hrows
                have hne : b2 ≠ b := by
                 rintro rfl
                 exact hrr (hr.inj r r' b2 (live_of hst (by simp)) (live_of hob (by simp)) hb hb2)
                exact ⟨ce', e', fz, by simp only [putC]; rw [setRow_other _ _ _ _ hne]; exact g1, g2⟩, hA⟩
         exact ⟨_, hrun, rfl, h1, h2⟩
       · cases h
     · cases h
   · cases h
 · cases h
section
variable {P : Program} {w0 : Base} {c : Cfg} {Q : Exit -> Act -> World -> Prop}
theorem zeroV_len {t : TypeId} {zs : List V} {i : TypeInfo} {z : Value} (h : zeroV P t = some zs) (hi : P.info? t = some i) (hz : i.zero = some z) : zs = z.cells.toList.map V.x := by
 unfold zeroV at h
 rw [hi] at h
 simp only [hz, Option.some.injEq] at h
 exact h.symm
theorem range_map_rep {z : Array Value} (hz : 0 < z.size) (n : Nat) : ((Array.range (n * z.size)).map (fun k => z[k % z.size]!)).toList = (List.replicate n z.toList).flatten := by
 apply List.ext_getElem?
 intro k
 have hz' : z.toList.length = z.size := by simp
 have key : ∀ n k, k < n * z.size -> (List.replicate n z.toList).flatten[k]? = z.toList[k % z.size]? := by
  intro n
  induction n with
  | zero => intro k h; simp at h
  | succ n ih =>
   intro k h
   rw [List.replicate_succ, List.flatten_cons, List.getElem?_append]
   split
   · next hk => rw [Nat.mod_eq_of_lt (by omega)]
   · next hk =>
     rw [Nat.add_mul, Nat.one_mul] at h
     rw [ih _ (by omega), hz', Nat.mod_eq_sub_mod (show k ≥ z.size by omega)]
 have hlen : (List.replicate n z.toList).flatten.length = n * z.size := by simp
 rcases Nat.lt_or_ge k (n * z.size) with g | g
 · rw [key n k g]
   have hm := Nat.mod_lt k hz
   simp [g, hm]
 · rw [List.getElem?_eq_none (by simpa using g), List.getElem?_eq_none (by omega)]
theorem RowsR.replicate {α : Type} {R : α -> List Value -> Prop} {y : α} {l : List Value} (h : R y l) (n : Nat) : RowsR R l.length (List.replicate n y) (List.replicate n l).flatten := by
 intro i z hz
 obtain ⟨hi, rfl⟩ : i < n /\ z = y := by
  have := List.getElem?_eq_some_iff.1 hz
  obtain ⟨h1, h2⟩ := this
  simp at h1 h2
  exact ⟨h1, h2.symm⟩
 have key : ∀ n i, i < n -> ((List.replicate n l).flatten.drop (i * l.length)).take l.length = l := by
  intro n
  induction n with
  | zero => intro i h; omega
  | succ n ih =>
   intro i h
   rw [List.replicate_succ, List.flatten_cons]
   cases i with
   | zero => simp
   | succ i =>
    rw [Nat.add_mul, Nat.one_mul, Nat.add_comm, <- List.drop_drop, List.drop_left]
    exact ih i (by omega)
 rw [key n i hi]
 exact h
theorem amake_sound (hr : Rel w0 c) {t : TypeId} {lv cv v : V} {lu cu : Value} {p : Option Prop} {st' : List Ob} (h : amake P c.st t lv cv = some (p, v, st')) (hp : vc p) (hl : RelV c lv lu) (hc : RelV c cv cu) :
  ∃ u c', (Instr.makeSlice t lu cu).run P c.w = .ok u c'.w /\ c'.st = st' /\ Rel w0 c' /\ Ext c c' /\ RelV c' v u := by
 unfold amake at h
 split at h
 · next e k n k' m hu =>
   simp only [RelV] at hl hc
   subst hl; subst hc
   split at h
   · next τ zs hτ hz =>
     split at h
     · next hok =>
       obtain ⟨i, z, hi, hsz, hpos, hb1, hb2, hzz, hzs⟩ := elemOk_sound hok
       have hzl := zeroV_len hz hi hzz
       split at h
       · next y hd =>
         cases h
         simp only [vc] at hp
         obtain ⟨h0, h1, h2⟩ := hp
         have hw1 : IntKind.i64.wrap n = n := IntWalk.i64_in n ⟨by omega, by omega⟩
         have hw2 : IntKind.i64.wrap m = m := IntWalk.i64_in m ⟨by omega, by omega⟩
         obtain ⟨us1, us2, hue, hro, hnil⟩ := dec_sound (c := c) hd (by rw [hzl]; exact RelVs.map_x z.cells.toList)
         simp only [RelVs] at hnil
         subst hnil
         rw [List.append_nil] at hue
         subst hue
         have hzpos : 0 < z.cells.size := by omega
         have hrep := range_map_rep (z := z.cells) hzpos m.toNat
         have hrows := RowsR.replicate (R := RoV c.w c.A τ) hro m.toNat
         obtain ⟨c', g1, g2, g3, g4, g5⟩ := newRows_rel hr hpos (ys := List.replicate n.toNat y) (ce := (Array.range (m.toNat * z.cells.size)).map (fun k => z.cells[k % z.cells.size]!)) (e := e) (cap := m.toNat)
          (by simp [hzs]) (by simp; omega) (fun i' y' hy' => by
           rw [hrep]
           have hi' : i' < n.toNat := by have := (List.getElem?_eq_some_iff.1 hy').1; simpa using this
           have hl : z.cells.toList.length = τ.size := by simpa using hzs
           rw [hl] at hrows
           refine hrows i' y' ?_
           rw [List.getElem?_replicate, if_pos hi'] at hy'
           rw [List.getElem?_replicate, if_pos (by omega)]
           exact hy')
         refine ⟨_, c', ?_, g2, g3, g4, by simpa using g5⟩
         have hb : ¬ (m < 0 \/ (i.bytes : Int) * m > 2 ^ 48) := by
          have : (i.bytes : Int) * m <= 65536 * 1073741824 := Int.mul_le_mul (by omega) h2 (by omega) (by omega)
          omega
         have hti : ∀ w, (typeInfo e).run P w = .ok i w := fun w => by simp [typeInfo, hi]
         have hzr : ∀ w, (zeroValue e).run P w = .ok z w := fun w => by simp [zeroValue, typeInfo, hi, hzz]
         have hzn : ¬ z.cells.size = 0 := by omega
         unfold Instr.makeSlice
         simp only [Sem.run_bind, run_underlying hu, Result.andThen_ok, asInt, asIntOf, Sem.run_pure, hti, hw1, hw2, run_sizeOf' hi, hsz, <- hzs]
         have hcond : ((decide (m < 0) || decide ((i.bytes : Int) * m > 2 ^ 48)) = true \/ n < 0 \/ n > m) = False := by
          simp only [Bool.or_eq_true, decide_eq_true_eq, eq_iff_iff, iff_false]
          rintro (h | h | h)
          · exact hb h
          · omega
          · omega
         simp only [Bool.or_eq_true, decide_eq_true_eq] at hcond ⊢
         rw [if_neg (by
          rintro ((h | h) | h)
          all_goals simp_all
          all_goals omega)]
         simp only [Sem.run_pure, Result.andThen_ok, Sem.run_bind, run_askRoom, run_sizeOf' hi, hsz, <- hzs]
         by_cases hm0 : m.toNat * z.cells.size = 0
         · rw [if_pos hm0]
           have hm1 : m.toNat = 0 := by
            rcases Nat.mul_eq_zero.1 hm0 with g | g
            · exact g
            · exact absurd g hzn
           simp only [hm1, Nat.zero_mul, Sem.run_pure, Result.andThen_ok, newRow, Sem.run_bind, run_newObj] at g1 ⊢
           have h00 : ∀ f : Nat -> Value, (Array.range 0).map f = #[] := fun f => by simp
           rw [g1, h00, h00]
           rfl
         · rw [if_neg hm0]
           simp only [Sem.run_bind, hzr, Result.andThen_ok, Sem.run_pure, newRow, run_newObj]
           rw [g1]
           simp
       · cases h
     · cases h
   · cases h
 · cases h
theorem RelVs.flatten_rep {vs : List V} {us : List Value} (h : RelVs c vs us) : ∀ n, RelVs c (List.replicate n vs).flatten (List.replicate n us).flatten
 | 0 => RelVs.nil
 | n + 1 => by
  rw [List.replicate_succ, List.replicate_succ, List.flatten_cons, List.flatten_cons]
  exact RelVs.append h (RelVs.flatten_rep h n)
theorem abuildSlice_sound (hr : Rel w0 c) {t : TypeId} {len : Nat} {parts : List (Nat × V)} {parts' : Array (Nat × Value)} {v : V} {st' : List Ob} (h : abuildSlice P c.st t len parts = some (v, st'))
  (he : parts.map (·.1) = parts'.toList.map (·.1)) (hp : RelVs c (parts.map (·.2)) (parts'.toList.map (·.2))) :
  ∃ u c', (Instr.buildSlice t len parts').run P c.w = .ok u c'.w /\ c'.st = st' /\ Rel w0 c' /\ Ext c c' /\ RelV c' v u := by
 unfold abuildSlice at h
 split at h
 · next e hu =>
   split at h
   · next τ zs hτ hz =>
     split at h
     · next hok =>
       obtain ⟨i, z, hi, hsz, hpos, hb1, hb2, hzz, hzs⟩ := elemOk_sound hok
       have hzl := zeroV_len hz hi hzz
       subst hzl
       split at h
       · next hle =>
         split at h
         · next cs hf =>
           split at h
           · next ys hd =>
             cases h
             have hz0 : RelVs c (List.replicate len (z.cells.toList.map V.x)).flatten (List.replicate len z.cells.toList).flatten := RelVs.flatten_rep (RelVs.map_x z.cells.toList) len
             have hzpos : 0 < z.cells.size := by omega
             have hrep := range_map_rep (z := z.cells) hzpos len
             obtain ⟨us2, h1, h2⟩ := afill_sound (us := (Array.range (len * z.cells.size)).map (fun k => z.cells[k % z.cells.size]!)) hf he hp (by rw [hrep]; exact hz0)
             obtain ⟨c1, hw1, hst1, hr1, hx1, hfr⟩ := frzs_sound (vs := cs) hr
             obtain ⟨h3, h4, h5⟩ := decRows_sound hd (hfr _ h2)
             have hti : ∀ w, (typeInfo e).run P w = .ok i w := fun w => by simp [typeInfo, hi]
             have hzr : ∀ w, (zeroValue e).run P w = .ok z w := fun w => by simp [zeroValue, typeInfo, hi, hzz]
             obtain ⟨c2, g1, g2, g3, g4, g5⟩ := newRows_rel hr1 hpos (ys := ys) (ce := us2) (e := e) (cap := len) (by simpa using h4) (by omega) h5
             refine ⟨.slice (some ⟨c.w.heap.size, 0, none⟩) len len, c2, ?_, by rw [g2, hst1], g3, hx1.trans g4, by rw [hst1, hw1, h3] at g5; exact g5⟩
             unfold Instr.buildSlice
             have hle' : ¬ (len * τ.size > 2 ^ 24) := by omega
             simp only [Sem.run_bind, run_underlying hu, Result.andThen_ok, run_sizeOf' hi, hsz]
             rw [if_neg hle']
             have hls : len * τ.size = len * z.cells.size := by rw [hzs]
             simp only [Sem.run_pure, Result.andThen_ok, Sem.run_bind, hls]
             by_cases hm0 : len * z.cells.size = 0
             · have hl0 : len = 0 := by
                rcases Nat.mul_eq_zero.1 hm0 with g | g
                · exact g
                · omega
               subst hl0
               have h00 : ∀ f : Nat -> Value, (Array.range 0).map f = #[] := fun f => by simp
               rw [if_pos hm0]
               rw [Nat.zero_mul, h00] at h1
               simp only [Sem.run_pure, Sem.run_bind, Result.andThen_ok, Nat.zero_mul, h00, h1, newRow, run_newObj]
               rw [g1, hw1]
               rfl
             · rw [if_neg hm0]
               simp only [Sem.run_bind, hzr, Result.andThen_ok, Sem.run_pure, h1, newRow, run_newObj]
               rw [g1, hw1]
               rfl
           · cases h
         · cases h
       · cases h
     · cases h
   · cases h
 · cases h
theorem aclear_sound (hr : Rel w0 c) {t ty : TypeId} {ts : Array TypeId} {xv : V} {xu : Value} {st' : List Ob} (h : aclear P c.st t xv = some st') (hx : RelV c xv xu) (ht : ts[0]? = some t) :
  ∃ c', (Builtin.clear_ ts ty #[xu]).run P c.w = .ok (.tuple #[]) c'.w /\ c'.st = st' /\ Rel w0 c' /\ Ext c c' := by
 unfold aclear at h
 split at h
 · next e r lo n hu =>
   split at h
   · next τ xs zs hst hz =>
     split at h
     · next hok =>
       split at h
       · next y hd =>
         cases h
         obtain ⟨i, z, hi, hsz, hpos, hb1, hb2, hzz, hzs⟩ := elemOk_sound hok
         have hzl := zeroV_len hz hi hzz
         obtain ⟨us1, us2, hue, hro, hnil⟩ := dec_sound (c := c) hd (by rw [hzl]; exact RelVs.map_x z.cells.toList)
         simp only [RelVs] at hnil
         subst hnil
         rw [List.append_nil] at hue
         subst hue
         simp only [RelV, hst] at hx
         obtain ⟨hlo, hx⟩ := hx
         have hzl' : z.cells.toList.length = τ.size := by simpa using hzs
         have hrl := live_lt (live_of hst (by simp))
         by_cases hn : n = 0
         · subst hn
           have same : c.st.set r (.vec τ 0 (xs.take lo ++ List.replicate 0 y ++ xs.drop (lo + 0))) = c.st := by
            have e1 : xs.take lo ++ List.replicate 0 y ++ xs.drop (lo + 0) = xs := by simp
            rw [e1]
            apply List.ext_getElem?
            intro k
            rw [List.getElem?_set]
            split
            · next e => subst e; first | exact hst.symm | rw [if_pos hrl, hst]
            · rfl
           refine ⟨c, ?_, same.symm, hr, Ext.refl c⟩
           have hu0 : ∃ a k, xu = .slice a 0 k := by
            rcases hx with ⟨_, rfl⟩ | ⟨b, cap, _, rfl, _⟩ | ⟨_, _, a, rfl⟩ <;> exact ⟨_, _, rfl⟩
           obtain ⟨a, k, rfl⟩ := hu0
           cases a <;> simp [Builtin.clear_, ht, run_underlying hu]
         · rcases hx with ⟨h1, rfl⟩ | ⟨b, cap, hb, rfl, hcap, _⟩ | ⟨h0, _⟩
           · obtain ⟨_, _, ⟨_, rfl⟩ | ⟨b', ce, ty, cap, hb', _⟩⟩ := hr.obj r _ hst
             · simp at hlo; omega
             · rw [h1] at hb'; cases hb'
           · obtain ⟨hp, hf, ⟨h1, rfl⟩ | ⟨b', ce, e', cap', h1, h2, h3, h4, h5, h6⟩⟩ := hr.obj r _ hst
             · rw [h1] at hb; cases hb
             rw [h1] at hb; cases hb
             have hcl : ce.toList.length = cap' * τ.size := by simpa using h3
             have hmul : (lo + n) * τ.size <= xs.length * τ.size := Nat.mul_le_mul_right _ hlo
             have hmul2 : xs.length * τ.size <= cap' * τ.size := Nat.mul_le_mul_right _ h4
             rw [Nat.add_mul] at hmul
             have hZ : (Builtin.zeroCells z.cells n).toList = (List.replicate n z.cells.toList).flatten := range_map_rep (by omega) n
             have hZl : ((List.replicate n z.cells.toList).flatten).length = n * τ.size := by simp [hzs]
             have hrep : RowsR (RoV c.w c.A τ) τ.size (List.replicate n y) (List.replicate n z.cells.toList).flatten := by
              have := RowsR.replicate (R := RoV c.w c.A τ) hro n
              rw [hzl'] at this
              exact this
             have hone := RowsR.one hrep (by rw [hZl]; simp) hpos
             have hst' := run_storeCells_at (P := P) b (lo * τ.size) e' _ 0 ce c.w h2 (by rw [hZl]; omega) hone
             simp only [Nat.add_zero] at hst'
             rw [hZl] at hst'
             have hrun : (Builtin.clear_ ts ty #[.slice (some ⟨b, lo * τ.size, none⟩) n cap]).run P c.w = .ok (.tuple #[]) (c.w.setRow b (ce.toList.take (lo * τ.size) ++ (List.replicate n z.cells.toList).flatten ++ ce.toList.drop (lo * τ.size + n * τ.size)).toArray) := by
              obtain ⟨m, rfl⟩ : ∃ m, n = m + 1 := ⟨n - 1, by omega⟩
              simp [Builtin.clear_, ht, run_underlying hu, zeroValue, typeInfo, hi, hzz, hZ, hst']
             generalize hNL : ce.toList.take (lo * τ.size) ++ (List.replicate n z.cells.toList).flatten ++ ce.toList.drop (lo * τ.size + n * τ.size) = nl at *
             have hnl : nl.length = ce.toList.length := by
              rw [<- hNL]
              simp only [List.length_append, hZl, List.length_take, List.length_drop]
              omega
             have hold : ∀ i, i < lo \/ lo + n <= i -> (nl.drop (i * τ.size)).take τ.size = (ce.toList.drop (i * τ.size)).take τ.size := by
              intro i hi'
              apply List.ext_getElem?
              intro k
              rw [List.getElem?_take, List.getElem?_take]
              split
              · next hk =>
                rw [List.getElem?_drop, List.getElem?_drop, <- hNL]
                rcases hi' with g | g
                · have : (i + 1) * τ.size <= lo * τ.size := Nat.mul_le_mul_right _ g
                  rw [Nat.add_mul, Nat.one_mul] at this
                  rw [List.append_assoc, List.getElem?_append_left (by rw [List.length_take]; omega), List.getElem?_take, if_pos (by omega)]
                · have : (lo + n) * τ.size <= i * τ.size := Nat.mul_le_mul_right _ g
                  rw [Nat.add_mul] at this
                  rw [List.getElem?_append_right (by rw [List.length_append, List.length_take, hZl]; omega), List.getElem?_drop, List.length_append, List.length_take, hZl]
                  congr 1
                  omega
              · rfl
             have hmid : ∀ i, lo <= i -> i < lo + n -> (nl.drop (i * τ.size)).take τ.size = (((List.replicate n z.cells.toList).flatten).drop ((i - lo) * τ.size)).take τ.size := by
              intro i g1 g2
              have m1 : (i - lo + 1) * τ.size <= n * τ.size := Nat.mul_le_mul_right _ (by omega)
              have m2 : i * τ.size = lo * τ.size + (i - lo) * τ.size := by rw [<- Nat.add_mul]; congr 1; omega
              rw [Nat.add_mul, Nat.one_mul] at m1
              apply List.ext_getElem?
              intro k
              rw [List.getElem?_take, List.getElem?_take]
              split
              · next hk =>
                rw [List.getElem?_drop, List.getElem?_drop, <- hNL, List.append_assoc, List.getElem?_append_right (by rw [List.length_take]; omega), List.getElem?_append_left (by rw [List.length_take, hZl]; omega), List.length_take]
                congr 1
                omega
              · rfl
             obtain ⟨k1, k2⟩ := put_rel (ob := .vec τ 0 (xs.take lo ++ List.replicate n y ++ xs.drop (lo + n))) hr hst (by simp) h1 h2 (ce := nl.toArray) (fun o ho => absurd ho (h6 o (by omega)))
              ⟨0, xs, hst, by simp; omega, rfl, fun b2 n2 hb2 hrr => by
               rw [h1] at hb2; cases hb2
               obtain ⟨ce', e2, fz, g1, g2⟩ := hrr
               rw [h2] at g1; cases g1
               refine ⟨_, e', _, setRow_heap c.w b ce _ e' _ h2, ?_⟩
               simp only [List.size_toArray, hnl, <- g2, Array.length_toList]⟩
              ⟨hp, Nat.zero_le _, .inr ⟨b, _, e', cap', h1, setRow_heap c.w b ce _ e' _ h2, by simp only [List.size_toArray, hnl, hcl], by simp; omega, fun i x hx' => by
               have hext : ∀ {x : τ.den} {us : List Value}, RoV c.w c.A τ x us -> RoV (c.w.setRow b nl.toArray) c.A τ x us := fun hz =>
                RoV.ext (fun _ _ h => h) (fun b2 o ho => by
                 have hbb : b2 ≠ b := by rintro rfl; exact h6 o (by omega) ho
                 exact World.cell?_of_block (w := c.w) (setRow_other c.w b b2 _ hbb)) hz
               refine hext ?_
               have hll : (xs.take lo).length = lo := by rw [List.length_take]; omega
               rcases Nat.lt_or_ge i lo with g | g
               · rw [List.append_assoc, List.getElem?_append_left (by omega), List.getElem?_take, if_pos g] at hx'
                 show RoV c.w c.A τ x ((nl.drop (i * τ.size)).take τ.size)
                 rw [hold i (.inl g)]
                 exact h5 i x hx'
               · rcases Nat.lt_or_ge i (lo + n) with g2 | g2
                 · rw [List.append_assoc, List.getElem?_append_right (by omega), List.getElem?_append_left (by rw [hll, List.length_replicate]; omega), hll] at hx'
                   show RoV c.w c.A τ x ((nl.drop (i * τ.size)).take τ.size)
                   rw [hmid i g g2]
                   exact hrep _ _ hx'
                 · rw [List.getElem?_append_right (by rw [List.length_append, hll, List.length_replicate]; omega), List.length_append, hll, List.length_replicate, List.getElem?_drop, show lo + n + (i - (lo + n)) = i from by omega] at hx'
                   show RoV c.w c.A τ x ((nl.drop (i * τ.size)).take τ.size)
                   rw [hold i (.inr g2)]
                   exact h5 i x hx', fun o ho => h6 o ho⟩⟩
             exact ⟨_, hrun, rfl, k1, k2⟩
           · exact absurd h0 hn
       · cases h
     · cases h
   · cases h
 · cases h
end
theorem appz_sound {P : Program} {w0 : Base} {c : Cfg} (hr : Rel w0 c) {sT xT ty e : TypeId} {t : Ty} {sv xv v : V} {su xu : Value} {p : Option Prop} {st' : List Ob} (hu : P.underlying sT = some (.slice e)) (h : aappZ P c.st e t xT sv xv = some (p, v, st')) (hp : vc p)
  (hs : RelV c sv su) (hx : RelV c xv xu) : ∃ u c', (Builtin.append_ #[sT, xT] ty #[su, xu]).run P c.w = .ok u c'.w /\ c'.st = st' /\ Rel w0 c' /\ Ext c c' /\ RelV c' v u := by
 unfold aappZ at h
 split at h
 · next kn k n zs hxT hz =>
   simp only [RelV] at hs hx
   subst hs; subst hx
   split at h
   · next hok =>
     obtain ⟨i, z, hi, hsz, hpos, hb1, hb2, hzz, hzs⟩ := elemOk_sound hok
     have hzl := zeroV_len hz hi hzz
     split at h
     · next y hd =>
       cases h
       simp only [vc] at hp
       obtain ⟨h0, h1⟩ := hp
       obtain ⟨m, rfl⟩ : ∃ m : Nat, n = m := ⟨n.toNat, by omega⟩
       rw [Int.toNat_natCast]
       obtain ⟨us1, us2, hue, hro, hnil⟩ := dec_sound (c := c) hd (by rw [hzl]; exact RelVs.map_x z.cells.toList)
       simp only [RelVs] at hnil
       subst hnil
       rw [List.append_nil] at hue
       subst hue
       have hzpos : 0 < z.cells.size := by omega
       obtain ⟨hd1, hd2⟩ := drew_rel hr
       have hbm : m * i.bytes <= 1073741824 * 65536 := Nat.mul_le_mul (by omega) hb1
       have hrun := Go.Lib.run_append_nil_zeros (P := P) c.w sT xT ty e i z k kn hu hxT hi hzz m (by omega) (by omega) (by omega) (by omega)
       have hcap : m <= grownCap c.w m 0 e := by
        unfold grownCap
        simp only [Question.cut]
        omega
       have hrep : ∀ q, (Builtin.zeroCells z.cells q).toList = (List.replicate q z.cells.toList).flatten := fun q => range_map_rep hzpos q
       have hlen : ∀ q, (Builtin.zeroCells z.cells q).size = q * t.size := fun q => by simp [Builtin.zeroCells, hzs]
       have hrows := RowsR.replicate (R := RoV c.w c.A t) hro m
       have hl : z.cells.toList.length = t.size := by simpa using hzs
       rw [hl] at hrows
       obtain ⟨c', g1, g2, g3, g4, g5⟩ := newRows_rel hd1 hpos (ys := List.replicate m y) (ce := Builtin.zeroCells z.cells m ++ Builtin.zeroCells z.cells (grownCap c.w m 0 e - m)) (e := e) (cap := grownCap c.w m 0 e)
        (by rw [Array.size_append, hlen, hlen, <- Nat.add_mul]; congr 1; omega) (by simpa using hcap) (fun i' y' hy' => by
         have := RowsR.append (l3 := (Builtin.zeroCells z.cells (grownCap c.w m 0 e - m)).toList) (ys := []) (l2 := []) hrows (by rw [<- hrep]; simp [hlen]) (fun i y hy => by simp at hy) (by simp) i' y' (by simpa using hy')
         rw [Array.toList_append, hrep m]
         show RoV c.w.drew c.A t y' _
         refine RoV.ext (w := c.w) (w' := c.w.drew) (A := c.A) (A' := c.A) (fun _ _ h => h) (fun _ _ _ => rfl) ?_
         simpa using this)
       refine ⟨_, c', ?_, g2, g3, hd2.trans g4, by simpa using g5⟩
       rw [g1]
       simpa using hrun
     · cases h
   · cases h
 · cases h
theorem andO_split {p : Option Prop} {q : Prop} (h : andO p q) : vc p /\ q := by
 cases p with
 | none => exact ⟨trivial, h⟩
 | some p => exact h
section
variable {P : Program} {w0 : Base} {c : Cfg} {Q : Exit -> Act -> World -> Prop} {C : Caller}
theorem aeff_sound (hC : SoundC P C) (hr : Rel w0 c) {a : Act} {fs : Facts} {ρ : Facts -> Operand -> V}
  (hρ : ∀ gs x, (∀ g, g ∈ gs -> a.eval (.tmp g.1) = .bool g.2) -> RelV c (ρ gs x) (a.eval x)) (hfs : ∀ g, g ∈ fs -> a.eval (.tmp g.1) = .bool g.2)
  {o : Oper} (hl : WlO P a o) {k : V -> List Ob -> Prop} (h : aeff P C c.st fs ρ o.op k) {next : Act -> World -> Prop}
  (hnext : ∀ v c' u, Rel w0 c' -> Ext c c' -> RelV c' v u -> k v c'.st -> next (a.put o.dst u) c'.w) : o.wpK P a c.w next Q := by
 have hx : ∀ x, RelV c (ρ fs x) (a.eval x) := fun x => hρ fs x hfs
 obtain ⟨dst, op, ty, pos, after, guard⟩ := o
 simp only at h hnext
 cases op with
 | pick cnd x y =>
  cases cnd with
  | tmp s =>
   simp only [aeff] at h
   split at h
   · next t hc =>
     have hcv := hx (.tmp s)
     rw [hc] at hcv
     simp only [RelV] at hcv
     have hrun : (execOp a.eval ⟨dst, .pick (.tmp s) x y, ty, pos, after, guard⟩).run P c.w = .ok (.value (if t = true then a.eval x else a.eval y)) c.w := by
      simp [execOp, hcv, asBool]
     refine wp_value hrun ?_
     have hfact : ∀ tt, t = tt -> ∀ g, g ∈ (s, tt) :: fs -> a.eval (.tmp g.1) = .bool g.2 := fun tt ht g hg => by
      rcases List.mem_cons.1 hg with rfl | hg
      · rw [hcv, ht]
      · exact hfs g hg
     cases t
     · exact hnext _ c _ hr (Ext.refl c) (hρ _ _ (hfact false rfl)) h
     · exact hnext _ c _ hr (Ext.refl c) (hρ _ _ (hfact true rfl)) h
   · exact h.elim
  | _ => simp [aeff] at h
 | alloc t =>
  simp only [aeff] at h
  split at h
  · next cs hz =>
    obtain ⟨z, hzr, rfl⟩ := run_zeroValue' hz
    obtain ⟨c', h1, h2, h3, h4, h5⟩ := newCells_rel hr z.cells t (RelVs.map_x z.cells.toList)
    refine wp_value (u := .pointer (some ⟨c.w.heap.size, 0, none⟩)) (w' := c'.w) ?_ (hnext _ c' _ h3 h4 h5 (by rw [h2]; exact h))
    simp only [execOp, Instr.alloc, Sem.run_bind, hzr, Result.andThen_ok, newVar, newRow, run_newObj, Sem.run_pure]
    rw [h1]
    rfl
  · exact h.elim
 | box t x =>
  simp only [aeff] at h
  split at h
  · next cs hvc =>
    have hcells := vcells_sound hvc (hx x)
    obtain ⟨c', h1, h2, h3, h4, h5⟩ := newCells_rel hr (a.eval x).cells t hcells
    refine wp_value (u := .pointer (some ⟨c.w.heap.size, 0, none⟩)) (w' := c'.w) ?_ (hnext _ c' _ h3 h4 h5 (by rw [h2]; exact h))
    simp only [execOp, Instr.box, Sem.run_bind, newVar, newRow, run_newObj, Result.andThen_ok, Sem.run_pure]
    rw [h1]
    rfl
  · exact h.elim
 | buildSlice t len parts =>
  simp only [aeff] at h
  split at h
  · next v st' hv =>
    obtain ⟨u, c', h1, h2, h3, h4, h5⟩ := abuildSlice_sound (P := P) hr (parts' := parts.map fun p => (p.1, a.eval p.2)) hv (by simp) (by
     simp only [List.map_map, Array.toList_map]
     have := RelVs.operands hx (parts.toList.map (·.2))
     simpa [List.map_map, Function.comp_def] using this)
    refine wp_value (u := u) (w' := c'.w) ?_ (hnext _ c' _ h3 h4 h5 (by rw [h2]; exact h))
    simp only [execOp, Sem.run_bind, h1, Result.andThen_ok, Sem.run_pure]
  · exact h.elim
 | makeSlice t l cp =>
  simp only [aeff] at h
  split at h
  · next p v st' hv =>
    obtain ⟨hp, hk⟩ := andO_split h
    obtain ⟨u, c', h1, h2, h3, h4, h5⟩ := amake_sound (P := P) hr hv hp (hx l) (hx cp)
    refine wp_value (u := u) (w' := c'.w) ?_ (hnext _ c' _ h3 h4 h5 (by rw [h2]; exact hk))
    simp only [execOp, Sem.run_bind, h1, Result.andThen_ok, Sem.run_pure]
  · exact h.elim
 | store t ad x =>
  simp only [aeff] at h
  split at h
  · next st' hv =>
    obtain ⟨c', h1, h2, h3, h4⟩ := astore_sound (P := P) hr hv (hx ad) (hx x)
    refine wp_skip' (w' := c'.w) ?_ (hnext .any c' _ h3 h4 (by simp only [RelV]) (by rw [h2]; exact h))
    simp only [execOp, Sem.run_bind, h1, Result.andThen_ok, Sem.run_pure]
  · split at h
    · next p st' hv =>
      obtain ⟨hp, hk⟩ := andO_split h
      obtain ⟨c', h1, h2, h3, h4⟩ := estore_sound (P := P) hr hv hp (hx ad) (hx x)
      refine wp_skip' (w' := c'.w) ?_ (hnext .any c' _ h3 h4 (by simp only [RelV]) (by rw [h2]; exact hk))
      simp only [execOp, Sem.run_bind, h1, Result.andThen_ok, Sem.run_pure]
    · exact h.elim
 | call cl =>
  obtain ⟨callee, args, argTypes⟩ := cl
  cases callee with
  | builtin b =>
   cases b <;> first | (simp [aeff] at h; done) | skip
   rotate_left
   · simp only [aeff] at h
     split at h
     · next x t hargs hts =>
       split at h
       · next st' hv =>
         have h0 : argTypes[0]? = some t := by rw [<- Array.getElem?_toList, hts]; rfl
         have hmap : args.map a.eval = #[a.eval x] := by
          apply Array.ext'
          simp [hargs]
         obtain ⟨c', h1, h2, h3, h4⟩ := aclear_sound (P := P) (ty := ty) hr hv (hx x) h0
         refine wp_value (u := .tuple #[]) (w' := c'.w) ?_ (hnext (.tup []) c' _ h3 h4 (by unfold RelV; exact ⟨#[], rfl, by unfold RelVs; rfl⟩) (by rw [h2]; exact h))
         simp only [execOp, resolve, Sem.run_bind, Sem.run_pure, Result.andThen_ok, invoke, builtin, hmap, h1]
       · exact h.elim
     · exact h.elim
   simp only [aeff] at h
   split at h
   · next x y hargs =>
     split at h
     · next p v st' hv =>
       obtain ⟨hp, hk⟩ := andO_split h
       unfold aappend at hv
       split at hv
       · next sT xT rest hts =>
         split at hv
         · next e hu =>
           split at hv
           · next t ht =>
             split at hv
             · next hsa =>
               split at hv
               · next hok =>
                 split at hv
                 · next xs f ys htgt hsrc =>
                   simp only [Option.some.injEq, Prod.mk.injEq] at hv
                   obtain ⟨rfl, rfl, rfl⟩ := hv
                   have h0 : argTypes[0]? = some sT := by rw [<- Array.getElem?_toList, hts]; rfl
                   have h1 : argTypes[1]? = some xT := by rw [<- Array.getElem?_toList, hts]; rfl
                   have hmap : args.map a.eval = #[a.eval x, a.eval y] := by
                    apply Array.ext'
                    simp [hargs]
                   obtain ⟨u, c', g1, g2, g3, g4, g5⟩ := append_sound (P := P) (ty := ty) hr (hx x) (hx y) htgt hsrc h0 h1 hu hsa hok hp
                   refine wp_value (u := u) (w' := c'.w) ?_ (hnext _ c' _ g2 g3 g5 (by rw [g4]; exact hk))
                   simp only [execOp, resolve, Sem.run_bind, Sem.run_pure, Result.andThen_ok, invoke, builtin, hmap, g1]
                 · cases hv
               · cases hv
             · split at hv
               · have hat : argTypes = #[sT, xT] := by
                  apply Array.toList_inj.1
                  rw [hts]
                 have hmap : args.map a.eval = #[a.eval x, a.eval y] := by
                  apply Array.ext'
                  simp [hargs]
                 obtain ⟨u, c', g1, g2, g3, g4, g5⟩ := appz_sound (P := P) (ty := ty) hr hu hv hp (hx x) (hx y)
                 refine wp_value (u := u) (w' := c'.w) ?_ (hnext _ c' _ g3 g4 g5 (by rw [g2]; exact hk))
                 simp only [execOp, resolve, Sem.run_bind, Sem.run_pure, Result.andThen_ok, invoke, builtin, hmap, hat, g1]
               · cases hv
           · cases hv
         · cases hv
       · cases hv
     · exact h.elim
   · exact h.elim
  | value f =>
   simp only [aeff] at h
   split at h
   · next g first captured er =>
     split at h
     · next hcal =>
       have hf := hx f
       rw [er] at hf
       simp only [RelV] at hf
       obtain ⟨us1, us2, he, hf1, hf2⟩ := hf
       have hargs : RelVs c (first ++ args.toList.map (ρ fs) ++ captured) (us1 ++ args.map a.eval ++ us2).toList := by
        simp only [Array.toList_append, Array.toList_map]
        exact RelVs.append (RelVs.append hf1 (RelVs.operands hx args.toList)) hf2
       have hcalls := hC w0 c g _ _ _ hr hargs h
       unfold callable at hcal
       split at hcal
       · next fn hfn =>
         simp only [Bool.and_eq_true, bne_iff_ne, ne_eq] at hcal
         have hbn : fn.body.isNone = false := by
          cases hb : fn.body with
          | none => rw [hb] at hcal; simp at hcal
          | some b => rfl
         have hrun : ∀ w es, (execOp a.eval ⟨dst, .call ⟨.value f, args, argTypes⟩, ty, pos, after, guard⟩).runT P w es = (.ok (.enter g (us1 ++ args.map a.eval ++ us2)) w, es) := by
          intro w es
          rw [Sem.runT_eq]
          simp [execOp, resolve, Deferred.ofValue, he, invoke, callFunc, hfn, hcal.1, show fn.body ≠ none from by intro h; rw [h] at hbn; cases hbn]
         refine .inr ⟨_, _, hrun, hcalls.mono fun e w' hh => ?_⟩
         obtain ⟨u, v, c', rfl, rfl, h3, h4, h5, h6⟩ := hh
         exact hnext v c' u h3 h4 h5 h6
       · cases hcal
     · exact h.elim
   · exact h.elim
  | _ => simp [aeff] at h
 | _ => simp [aeff] at h
def aop (P : Program) (C : Caller) (st : List Ob) (fs : Facts) (ρ : Facts -> Operand -> V) (o : Op) (k : V -> List Ob -> Prop) : Prop :=
 match aval P st fs ρ o with
 | some (p, v) => andO p (k v st)
 | none => aeff P C st fs ρ o k
theorem aop_sound (hC : SoundC P C) (hr : Rel w0 c) {a : Act} {fs : Facts} {ρ : Facts -> Operand -> V}
  (hρ : ∀ gs x, (∀ g, g ∈ gs -> a.eval (.tmp g.1) = .bool g.2) -> RelV c (ρ gs x) (a.eval x)) (hfs : ∀ g, g ∈ fs -> a.eval (.tmp g.1) = .bool g.2)
  {o : Oper} (hl : WlO P a o) {k : V -> List Ob -> Prop} (h : aop P C c.st fs ρ o.op k) {next : Act -> World -> Prop}
  (hnext : ∀ v c' u, Rel w0 c' -> Ext c c' -> RelV c' v u -> k v c'.st -> next (a.put o.dst u) c'.w) : o.wpK P a c.w next Q := by
 unfold aop at h
 split at h
 · next p v hv =>
   obtain ⟨hp, hk⟩ := andO_split h
   obtain ⟨u, h1, h2⟩ := aval_sound (P := P) hr hρ hfs hv hp
   exact wp_valueW h1 (hnext v c u hr (Ext.refl c) h2 hk) (aval_wl hl hρ hfs hv)
 · exact aeff_sound hC hr hρ hfs hl h hnext
end
def forceV : V -> (V -> Prop) -> Prop
 | .any, k => k .any
 | .x v, k => k (.x v)
 | .ro t xs, k => k (.ro t xs)
 | .rc cs j, k => k (.rc cs j)
 | .cl r i, k => k (.cl r i)
 | .el r i j, k => k (.el r i j)
 | .vec r, k => k (.vec r)
 | .vw r l n, k => k (.vw r l n)
 | .agg cs, k => k (.agg cs)
 | .tup cs, k => k (.tup cs)
 | .fn f a b, k => k (.fn f a b)
 | .gd g w v, k => k (.gd g w v)
 | .hd h, k => k (.hd h)
 | .pt a i, k => k (.pt a i)
theorem forceV_eq (v : V) (k : V -> Prop) : forceV v k = k v := by
 cases v <;> rfl
def forceL : List V -> (List V -> Prop) -> Prop
 | [], k => k []
 | v :: vs, k => forceV v fun v => forceL vs fun r => k (v :: r)
theorem forceL_eq : ∀ (l : List V) (k : List V -> Prop), forceL l k = k l
 | [], _ => rfl
 | v :: vs, k => by rw [forceL, forceV_eq, forceL_eq vs]
def SlotR (c : Cfg) (sl : List V) (tmps : Array Value) (t : Nat) : Prop :=
 match sl.getD t .any with
 | .gd g w v => (tmps.getD g undef = .bool w -> RelV c v (tmps.getD t undef)) /\ (tmps.getD g undef ≠ .bool w -> tmps.getD t undef = undef)
 | v => RelV c v (tmps.getD t undef)
structure SlR (c : Cfg) (sl : List V) (tmps : Array Value) : Prop where
 len : sl.length <= tmps.size
 slot : ∀ t, SlotR c sl tmps t
def GdIn (G : List Nat) (sl : List V) : Prop := ∀ t g w v, sl.getD t .any = .gd g w v -> g ∈ G
theorem SlR.ext {c c' : Cfg} (hx : Ext c c') {sl : List V} {tmps : Array Value} (h : SlR c sl tmps) : SlR c' sl tmps where
 len := h.len
 slot := fun t => by
  have := h.slot t
  unfold SlotR at this ⊢
  split
  · next g w v e =>
    rw [e] at this
    exact ⟨fun hg => RelV.ext hx _ _ (this.1 hg), this.2⟩
  · next hn =>
    split at this
    · next g w v e => exact absurd e (hn g w v)
    · exact RelV.ext hx _ _ this
def nogd : V -> V
 | .gd _ _ _ => .any
 | v => v
theorem nogd_rel {c : Cfg} {v : V} {u : Value} (h : RelV c v u) : RelV c (nogd v) u := by
 cases v <;> first | exact h | simp only [nogd, RelV]
theorem nogd_ne {v : V} {g : Nat} {w : Bool} {x : V} : nogd v ≠ .gd g w x := by
 cases v <;> simp [nogd]
def ungd (d : Nat) : V -> V
 | .gd g w v => if g = d then .any else .gd g w v
 | v => v
def cst : Value -> V
 | .agg cs => .agg (cs.toList.map .x)
 | v => .x v
theorem cst_rel {c : Cfg} (v : Value) : RelV c (cst v) v := by
 cases v <;> first | (simp only [cst, RelV]; done) | skip
 simp only [cst, RelV]
 exact ⟨_, rfl, RelVs.map_x _⟩
def rdv (sl : List V) (fs : Facts) : Operand -> V
 | .tmp t => match sl.getD t .any with
  | .gd g w v => if fs.any (fun f => f.1 == g && f.2 == w) = true then v else .any
  | v => v
 | .const v => cst v
 | .func f => .fn (.func f) [] []
 | .global _ => .any
theorem rdv_rel {c : Cfg} {sl : List V} {a : Act} (h : SlR c sl a.tmps) (fs : Facts) (x : Operand) (hfs : ∀ g, g ∈ fs -> a.eval (.tmp g.1) = .bool g.2) : RelV c (rdv sl fs x) (a.eval x) := by
 cases x with
 | tmp t =>
  have := h.slot t
  unfold SlotR at this
  simp only [rdv, Act.eval]
  split at this
  · next g w v e =>
    split
    · next hany =>
      rw [List.any_eq_true] at hany
      obtain ⟨f, hf, he⟩ := hany
      simp only [Bool.and_eq_true, beq_iff_eq] at he
      have := hfs f hf
      simp only [Act.eval] at this
      rw [he.1, he.2] at this
      rename_i hh
      exact hh.1 this
    · simp only [RelV]
  · exact this
 | const v => exact cst_rel v
 | global g => simp only [rdv, RelV]
 | func f =>
  simp only [rdv, RelV, Act.eval]
  exact ⟨#[], #[], rfl, RelVs.nil, RelVs.nil⟩
def conds (sl : List V) : Nat -> Nat -> Bool -> Option (Facts × List (Bool × Bool))
 | 0, _, _ => none
 | n + 1, g, w => match sl.getD g .any with
  | .x (.bool b) => some ([(g, w)], [(b, w)])
  | .x (.tuple _) => some ([(g, w)], [(false, true)])
  | .gd g' w' (.x (.bool b)) => match conds sl n g' w' with
   | some (fs, bs) => some ((g, w) :: fs, bs ++ [(b, w)])
   | none => none
  | .gd g' w' (.x (.tuple _)) => match conds sl n g' w' with
   | some (fs, bs) => some ((g, w) :: fs, bs ++ [(false, true)])
   | none => none
  | _ => none
def okAll (bs : List (Bool × Bool)) : Bool := bs.all fun p => p.1 == p.2
theorem undef_ne_bool (b : Bool) : undef ≠ .bool b := by simp [undef]
theorem conds_sound {c : Cfg} {sl : List V} {tmps : Array Value} (h : SlR c sl tmps) : ∀ (n g : Nat) (w : Bool) (fs : Facts) (bs : List (Bool × Bool)), conds sl n g w = some (fs, bs) ->
  (tmps.getD g undef = .bool w ↔ okAll bs = true) /\ (tmps.getD g undef = .bool w -> ∀ f, f ∈ fs -> tmps.getD f.1 undef = .bool f.2)
 | 0, g, w, fs, bs, hc => by simp [conds] at hc
 | n + 1, g, w, fs, bs, hc => by
  have hs := h.slot g
  unfold SlotR at hs
  simp only [conds] at hc
  split at hc
  · next b e =>
    cases hc
    rw [e] at hs
    simp only [RelV] at hs
    refine ⟨?_, fun hg f hf => ?_⟩
    · rw [hs]
      simp [okAll]
    · simp only [List.mem_singleton] at hf
      subst hf
      exact hg
  · next u e =>
    cases hc
    rw [e] at hs
    simp only [RelV] at hs
    exact ⟨⟨fun hg => (by rw [hs] at hg; cases hg), fun hall => (by simp [okAll] at hall)⟩, fun hg => (by rw [hs] at hg; cases hg)⟩
  · next g' w' b e =>
    split at hc
    · next fs' bs' hc' =>
      cases hc
      rw [e] at hs
      simp only [RelV] at hs
      obtain ⟨h1, h2⟩ := conds_sound h n g' w' fs' bs' hc'
      refine ⟨⟨fun hg => ?_, fun hall => ?_⟩, fun hg f hf => ?_⟩
      · by_cases hg' : tmps.getD g' undef = .bool w'
        · have := hs.1 hg'
          rw [this] at hg
          cases hg
          simp only [okAll, List.all_append, Bool.and_eq_true, List.all_cons, List.all_nil, beq_self_eq_true, Bool.and_true, and_true]
          exact h1.1 hg'
        · rw [hs.2 hg'] at hg
          exact absurd hg (undef_ne_bool _)
      · simp only [okAll, List.all_append, Bool.and_eq_true, List.all_cons, List.all_nil, Bool.and_true, beq_iff_eq] at hall
        have := hs.1 (h1.2 hall.1)
        rw [this, hall.2]
      · rcases List.mem_cons.1 hf with rfl | hf
        · exact hg
        · by_cases hg' : tmps.getD g' undef = .bool w'
          · exact h2 hg' f hf
          · rw [hs.2 hg'] at hg
            exact absurd hg (undef_ne_bool _)
    · cases hc
  · next g' w' u e =>
    split at hc
    · next fs' bs' hc' =>
      cases hc
      rw [e] at hs
      simp only [RelV] at hs
      have hno : tmps.getD g undef ≠ .bool w := fun hg => by
       by_cases hg' : tmps.getD g' undef = .bool w'
       · rw [hs.1 hg'] at hg; cases hg
       · rw [hs.2 hg'] at hg
         exact absurd hg (undef_ne_bool _)
      exact ⟨⟨fun hg => absurd hg hno, fun hall => (by simp [okAll] at hall)⟩, fun hg => absurd hg hno⟩
    · cases hc
  · cases hc
def imps : List (Bool × Bool) -> Prop -> Prop
 | [], p => p
 | (b, w) :: r, p => (b == w) = true -> imps r p
theorem imps_out : ∀ {bs : List (Bool × Bool)} {p : Prop}, imps bs p -> okAll bs = true -> p
 | [], p, h, _ => h
 | (b, w) :: r, p, h, ho => by
  simp only [okAll, List.all_cons, Bool.and_eq_true] at ho
  exact imps_out (h ho.1) ho.2
def andG (bs : List (Bool × Bool)) (p : Option Prop) (q : Prop) : Prop := match p with
 | none => q
 | some p => imps bs p /\ q
theorem andG_out {bs : List (Bool × Bool)} {p : Option Prop} {q : Prop} (h : andG bs p q) : (okAll bs = true -> vc p) /\ q := by
 cases p with
 | none => exact ⟨fun _ => trivial, h⟩
 | some p => exact ⟨fun ho => imps_out h.1 ho, h.2⟩
def putS (G : List Nat) (d : Option Nat) (v : V) (sl : List V) : List V :=
 match d with
 | none => sl
 | some d => if G.contains d = true then (sl.map (ungd d)).set d v else sl.set d v
theorem getD_set {α : Type} (l : List α) (d t : Nat) (v x : α) : (l.set d v).getD t x = if d = t /\ d < l.length then v else l.getD t x := by
 simp only [List.getD_eq_getElem?_getD, List.getElem?_set]
 by_cases h : d = t
 · subst h
   by_cases h2 : d < l.length
   · simp [h2]
   · simp [h2]
 · simp [h]
theorem getD_map_ungd (l : List V) (d t : Nat) : (l.map (ungd d)).getD t .any = ungd d (l.getD t .any) := by
 simp only [List.getD_eq_getElem?_getD, List.getElem?_map]
 cases l[t]? <;> rfl
theorem arr_getD_set (a : Array Value) (d t : Nat) (u : Value) : (a.setIfInBounds d u).getD t undef = if d = t /\ d < a.size then u else a.getD t undef := by
 simp only [Array.getD_eq_getD_getElem?, Array.getElem?_setIfInBounds]
 by_cases h : d = t
 · subst h
   by_cases h2 : d < a.size
   · simp [h2]
   · simp [h2]
 · simp [h]
theorem putS_rel {c : Cfg} {G : List Nat} {sl : List V} {a : Act} (h : SlR c sl a.tmps) (hg : GdIn G sl) {d : Option Nat} {v : V} {u : Value}
  (hv : match v with
   | .gd g w x => g ∈ G /\ d ≠ some g /\ (a.tmps.getD g undef = .bool w -> RelV c x u) /\ (a.tmps.getD g undef ≠ .bool w -> u = undef)
   | v => RelV c v u) : SlR c (putS G d v sl) (a.put d u).tmps /\ GdIn G (putS G d v sl) := by
 cases d with
 | none => exact ⟨h, hg⟩
 | some d =>
  simp only [putS, Act.put]
  have key : ∀ sl1 : List V, sl1.length = sl.length -> (∀ t, sl1.getD t .any = sl.getD t .any \/ sl1.getD t .any = .any) -> (∀ t g w x, sl1.getD t .any = .gd g w x -> g ≠ d) ->
    SlR c (sl1.set d v) (a.tmps.setIfInBounds d u) /\ GdIn G (sl1.set d v) := by
   intro sl1 hlen hsame hno
   have hl := h.len
   refine ⟨⟨by simp [hlen]; exact hl, fun t => ?_⟩, fun t g w x e => ?_⟩
   · unfold SlotR
     rw [getD_set]
     by_cases hdt : d = t /\ d < sl1.length
     · rw [if_pos hdt]
       obtain ⟨rfl, hdl⟩ := hdt
       have hda : d < a.tmps.size := by omega
       cases v with
       | gd g w x =>
        simp only at hv ⊢
        obtain ⟨h1, h2, h3, h4⟩ := hv
        have hgd : ¬ (d = g /\ d < a.tmps.size) := fun e => h2 (by rw [e.1])
        rw [arr_getD_set, arr_getD_set, if_neg hgd, if_pos ⟨rfl, hda⟩]
        exact ⟨h3, h4⟩
       | _ =>
        simp only at hv ⊢
        rw [arr_getD_set, if_pos ⟨rfl, hda⟩]
        exact hv
     · rw [if_neg hdt]
       have htt : (a.tmps.setIfInBounds d u).getD t undef = a.tmps.getD t undef \/ sl1.getD t .any = .any := by
        by_cases hdt2 : d = t
        · right
          have : sl1.length <= t := by omega
          simp [List.getD, List.getElem?_eq_none this]
        · left
          rw [arr_getD_set, if_neg (fun e => hdt2 e.1)]
       rcases htt with htt | htt
       · have hs := h.slot t
         unfold SlotR at hs
         rcases hsame t with e | e
         · rw [e, htt]
           split
           · next g w x e2 =>
             rw [e2] at hs
             have hne : g ≠ d := hno t g w x (e.trans e2)
             rw [arr_getD_set, if_neg (fun e => hne e.1.symm)]
             exact hs
           · next hn =>
             split at hs
             · next g w x e2 => exact absurd e2 (hn g w x)
             · exact hs
         · rw [e]
           simp only [RelV]
       · rw [htt]
         simp only [RelV]
   · rw [getD_set] at e
     split at e
     · subst e
       exact hv.1
     · rcases hsame t with e2 | e2
       · rw [e2] at e
         exact hg t g w x e
       · rw [e2] at e
         cases e
  split
  · next hc =>
    refine key _ (by simp) (fun t => ?_) (fun t g w x e => ?_)
    · rw [getD_map_ungd]
      cases sl.getD t .any with
      | gd g w x =>
       simp only [ungd]
       split
       · exact .inr rfl
       · exact .inl rfl
      | _ => exact .inl rfl
    · rw [getD_map_ungd] at e
      cases hh : sl.getD t .any with
      | gd g' w' x' =>
       rw [hh] at e
       simp only [ungd] at e
       split at e
       · cases e
       · next hne => cases e; exact hne
      | _ => rw [hh] at e; simp [ungd] at e
  · next hc =>
    refine key sl rfl (fun t => .inl rfl) (fun t g w x e => ?_)
    rintro rfl
    have := hg t g w x e
    exact hc (by simpa using this)
def gslot (ops : List Oper) (j : Nat) : Option Nat := match ops[j]? with
 | some o => o.dst
 | none => none
def aops (P : Program) (C : Caller) (G : List Nat) (ops : List Oper) : List Oper -> List V -> List Ob -> (List V -> List Ob -> Prop) -> Prop
 | [], sl, st, K => K sl st
 | o :: rest, sl, st, K =>
  match o.guard with
  | none => aop P C st [] (rdv sl) o.op fun v st' => aops P C G ops rest (putS G o.dst (nogd v) sl) st' K
  | some (j, w) => match gslot ops j with
   | none => False
   | some g => match conds sl 8 g w with
    | none => False
    | some (fs, bs) =>
     if G.contains g = true then
      match aval P st fs (rdv sl) o.op, o.dst with
      | some (p, v), some d => if d = g then False else andG bs p (aops P C G ops rest (putS G (some d) (.gd g w (nogd v)) sl) st K)
      | _, _ => bif okAll bs then aop P C st fs (rdv sl) o.op fun v st' => aops P C G ops rest (putS G o.dst (nogd v) sl) st' K
       else aops P C G ops rest (putS G o.dst (.x undef) sl) st K
     else False
theorem nogd_hv {c : Cfg} {G : List Nat} {d : Option Nat} {a : Act} {v : V} {u : Value} (h : RelV c v u) : match nogd v with
  | .gd g w x => g ∈ G /\ d ≠ some g /\ (a.tmps.getD g undef = .bool w -> RelV c x u) /\ (a.tmps.getD g undef ≠ .bool w -> u = undef)
  | v => RelV c v u := by
 have := nogd_rel h
 split
 · next g w x e => exact absurd e nogd_ne
 · exact this
theorem wanted_iff {ops : Array Oper} {o : Oper} {tmps : Array Value} {j g : Nat} {w : Bool} (ho : o.guard = some (j, w)) (hg : gslot ops.toList j = some g) :
  Region.wanted o (yielded ops tmps) = true ↔ tmps.getD g undef = .bool w := by
 unfold gslot at hg
 simp only [Array.getElem?_toList] at hg
 split at hg
 · next oj hj =>
   simp only [Region.wanted, ho, yielded, hj, Option.bind_some, hg]
   rw [Array.getD_eq_getD_getElem?]
   cases ht : tmps[g]? with
   | none => simp [undef]
   | some x =>
    cases x <;> simp
 · cases hg
theorem okOps_sub {P : Program} {l l' : List Oper} (h : ∀ x, x ∈ l' -> x ∈ l) (ho : okOps P l = true) : okOps P l' = true := List.all_eq_true.2 fun x hx => List.all_eq_true.1 ho x (h x hx)
theorem aops_sound {P : Program} {w0 : Base} {C : Caller} (hC : SoundC P C) {G : List Nat} {ops : Array Oper} {Q : Exit -> Act -> World -> Prop} :
  ∀ (l : List Oper) (_ : okOps P l = true) (c : Cfg) (sl : List V) (a : Act) (K : List V -> List Ob -> Prop), Rel w0 c -> SlR c sl a.tmps -> GdIn G sl -> aops P C G ops.toList l sl c.st K ->
   (∀ sl' c' a', Rel w0 c' -> Ext c c' -> SlR c' sl' a'.tmps -> GdIn G sl' -> a'.defers = a.defers -> K sl' c'.st -> Q .normal a' c'.w) -> wpListK P ops Q l a c.w
 | [], _, c, sl, a, K, hr, hs, hg, h, hK => hK sl c a hr (Ext.refl c) hs hg rfl h
 | o :: rest, hok, c, sl, a, K, hr, hs, hg, h, hK => by
  rw [wpListK]
  intro d0
  suffices step : ∀ c : Cfg, Rel w0 c -> SlR c sl a.tmps -> aops P C G ops.toList (o :: rest) sl c.st K -> (∀ sl' c' a', Rel w0 c' -> Ext c c' -> SlR c' sl' a'.tmps -> GdIn G sl' -> a'.defers = a.defers -> K sl' c'.st -> Q .normal a' c'.w) ->
    if Region.wanted o (yielded ops a.tmps) = true then o.wpK P a c.w (wpListK P ops Q rest) Q \/ False else wpListK P ops Q rest (a.put o.dst undef) c.w by
   obtain ⟨hr1, hx1⟩ := at_rel hr d0
   exact step (c.at d0) hr1 (SlR.ext hx1 hs) h fun sl' c' a' k1 k2 => hK sl' c' a' k1 (hx1.trans k2)
  clear hr hs h hK
  intro c hr hs h hK
  have hl : WlO P a o := okOps_wl hok List.mem_cons_self a
  have hokr : okOps P rest = true := okOps_sub (fun x hx => List.mem_cons_of_mem _ hx) hok
  have hput : ∀ (d : Option Nat) (u : Value), (a.put d u).defers = a.defers := fun d u => by cases d <;> rfl
  have hρ : ∀ gs x, (∀ g, g ∈ gs -> a.eval (.tmp g.1) = .bool g.2) -> RelV c (rdv sl gs x) (a.eval x) := fun gs x hgs => rdv_rel hs gs x hgs
  have run : ∀ fs : Facts, (∀ g, g ∈ fs -> a.eval (.tmp g.1) = .bool g.2) -> (aop P C c.st fs (rdv sl) o.op fun v st' => aops P C G ops.toList rest (putS G o.dst (nogd v) sl) st' K) ->
    o.wpK P a c.w (wpListK P ops Q rest) Q := fun fs hfs h => by
   refine aop_sound hC hr hρ hfs hl h (fun v c' u h1 h2 h3 h4 => ?_)
   obtain ⟨g1, g2⟩ := putS_rel (a := a) (d := o.dst) (SlR.ext h2 hs) hg (nogd_hv h3)
   refine aops_sound hC rest hokr c' _ _ K h1 g1 g2 h4 fun sl' c'' a' k1 k2 k3 k4 k5 k6 => hK sl' c'' a' k1 (h2.trans k2) k3 k4 (k5.trans (hput _ _)) k6
  simp only [aops] at h
  split at h
  · next hgd =>
    have hw : Region.wanted o (yielded ops a.tmps) = true := by simp [Region.wanted, hgd]
    rw [if_pos hw]
    exact .inl (run [] (fun g hh => by simp at hh) h)
  · next j w hgd =>
    split at h
    · exact h.elim
    · next g hgs =>
      have hwi := wanted_iff (tmps := a.tmps) hgd hgs
      split at h
      · exact h.elim
      · next fs bs hc =>
        obtain ⟨c1, c2⟩ := conds_sound hs 8 g w fs bs hc
        split at h
        · next hG =>
          have hGm : g ∈ G := by simpa using hG
          split at h
          · next p v d hv hd =>
            split at h
            · exact h.elim
            · next hne =>
              obtain ⟨hp, hk⟩ := andG_out h
              have next' : ∀ u, (a.tmps.getD g undef = .bool w -> RelV c v u) -> (a.tmps.getD g undef ≠ .bool w -> u = undef) -> wpListK P ops Q rest (a.put o.dst u) c.w := by
               intro u hu1 hu2
               obtain ⟨g1, g2⟩ := putS_rel (a := a) (d := some d) (v := .gd g w (nogd v)) (u := u) hs hg ⟨hGm, fun e => hne (by cases e; rfl), fun e => nogd_rel (hu1 e), hu2⟩
               rw [hd]
               exact aops_sound hC rest hokr c _ _ K hr g1 g2 hk fun sl' c'' a' k1 k2 k3 k4 k5 k6 => hK sl' c'' a' k1 k2 k3 k4 (k5.trans (hput _ _)) k6
              by_cases hw : Region.wanted o (yielded ops a.tmps) = true
              · rw [if_pos hw]
                have hgw := hwi.1 hw
                obtain ⟨u, h1, h2⟩ := aval_sound (P := P) hr hρ (c2 hgw) hv (hp (c1.1 hgw))
                exact .inl (wp_valueW h1 (next' u (fun _ => h2) (fun e => absurd hgw e)) (aval_wl hl hρ (c2 hgw) hv))
              · rw [if_neg hw]
                exact next' undef (fun e => absurd (hwi.2 e) hw) (fun _ => rfl)
          · by_cases hw : Region.wanted o (yielded ops a.tmps) = true
            · rw [if_pos hw]
              have hgw := hwi.1 hw
              rw [c1.1 hgw] at h
              exact .inl (run fs (c2 hgw) h)
            · rw [if_neg hw]
              have hall : okAll bs = false := by
               cases hb : okAll bs with
               | false => rfl
               | true => exact absurd (hwi.2 (c1.2 hb)) hw
              rw [hall] at h
              obtain ⟨g1, g2⟩ := putS_rel (a := a) (d := o.dst) (v := .x undef) (u := undef) hs hg (by simp only [RelV])
              exact aops_sound hC rest hokr c _ _ K hr g1 g2 h fun sl' c'' a' k1 k2 k3 k4 k5 k6 => hK sl' c'' a' k1 k2 k3 k4 (k5.trans (hput _ _)) k6
        · exact h.elim
def guards (ops : List Oper) : List Oper -> List Nat
 | [] => []
 | o :: r => match o.guard with
  | some (j, _) => match gslot ops j with
   | some g => if (guards ops r).contains g = true then guards ops r else g :: guards ops r
   | none => guards ops r
  | none => guards ops r
def clr (G : List Nat) (sl : List V) : List V := match G with
 | [] => sl
 | _ => sl.map nogd
theorem clr_rel {c : Cfg} {G : List Nat} {sl : List V} {tmps : Array Value} (h : SlR c sl tmps) (hg : GdIn G sl) : SlR c (clr G sl) tmps /\ GdIn [] (clr G sl) := by
 cases G with
 | nil => exact ⟨h, hg⟩
 | cons g0 G =>
  have hmap : ∀ t, (sl.map nogd).getD t .any = nogd (sl.getD t .any) := fun t => by
   simp only [List.getD_eq_getElem?_getD, List.getElem?_map]
   cases sl[t]? <;> rfl
  refine ⟨⟨by simp [clr]; exact h.len, fun t => ?_⟩, fun t g w v e => ?_⟩
  · have hs := h.slot t
    unfold SlotR at hs ⊢
    simp only [clr, hmap]
    cases hh : sl.getD t .any with
    | gd g w v => simp only [nogd, RelV]
    | _ => rw [hh] at hs; simpa only [nogd] using hs
  · simp only [clr, hmap] at e
    exact absurd e nogd_ne
abbrev Kn := List (Nat × Option Bool)
def KnIs (v : Value) : Option Bool -> Prop
 | some w => v = .bool w
 | none => ∀ w, v ≠ .bool w
def KnR (kn : Kn) (tmps : Array Value) : Prop := ∀ p, p ∈ kn -> KnIs (tmps.getD p.1 undef) p.2
def look : Kn -> Nat -> Option (Option Bool)
 | [], _ => none
 | (g, x) :: r, h => if g = h then some x else look r h
theorem look_mem : ∀ {kn : Kn} {g : Nat} {x : Option Bool}, look kn g = some x -> (g, x) ∈ kn
 | [], g, x, h => by simp [look] at h
 | (g', x') :: r, g, x, h => by
  simp only [look] at h
  split at h
  · next e => subst e; cases h; exact List.mem_cons_self
  · exact List.mem_cons_of_mem _ (look_mem h)
def forget (d : Option Nat) (kn : Kn) : Kn := match d with
 | none => kn
 | some d => kn.filter fun p => p.1 != d
theorem forget_rel {kn : Kn} {a : Act} (h : KnR kn a.tmps) (d : Option Nat) (u : Value) : KnR (forget d kn) (a.put d u).tmps := by
 cases d with
 | none => exact h
 | some d =>
  intro p hp
  simp only [forget, List.mem_filter, bne_iff_ne, ne_eq] at hp
  have := h p hp.1
  simp only [Act.put]
  rw [arr_getD_set, if_neg (fun e => hp.2 e.1.symm)]
  exact this
def learn (d : Option Nat) (kn : Kn) : Kn := match d with
 | none => kn
 | some d => (d, none) :: forget (some d) kn
theorem learn_rel {kn : Kn} {a : Act} (h : KnR kn a.tmps) (d : Option Nat) : KnR (learn d kn) (a.put d undef).tmps := by
 cases d with
 | none => exact h
 | some d =>
  intro p hp
  rcases List.mem_cons.1 hp with rfl | hp
  · simp only [Act.put]
    intro w
    rw [arr_getD_set]
    split
    · simp [undef]
    · next hn =>
      have : a.tmps.getD d undef = undef := by
       rw [Array.getD_eq_getD_getElem?, Array.getElem?_eq_none (by
        by_cases hh : d < a.tmps.size
        · exact absurd ⟨rfl, hh⟩ hn
        · omega)]
       rfl
      rw [this]
      simp [undef]
  · exact forget_rel h (some d) undef p hp
def rsV (g : Nat) (x : Option Bool) : V -> V
 | .gd g' w v => if g' = g then (match x with
   | some b => bif b == w then nogd v else .any
   | none => .any) else .gd g' w v
 | v => v
def res (g : Nat) (x : Option Bool) (sl : List V) : List V := match x with
 | some b => (sl.map (rsV g x)).set g (.x (.bool b))
 | none => sl.map (rsV g x)
theorem rsV_rel {c : Cfg} {g : Nat} {x : Option Bool} {sl : List V} {tmps : Array Value} (h : SlR c sl tmps) (hx : KnIs (tmps.getD g undef) x) (t : Nat) : match rsV g x (sl.getD t .any) with
 | .gd g w v => (tmps.getD g undef = .bool w -> RelV c v (tmps.getD t undef)) /\ (tmps.getD g undef ≠ .bool w -> tmps.getD t undef = undef)
 | v => RelV c v (tmps.getD t undef) := by
 have hs := h.slot t
 unfold SlotR at hs
 cases hh : sl.getD t .any with
 | gd g' w v =>
  rw [hh] at hs
  simp only [rsV]
  by_cases e : g' = g
  · rw [if_pos e]
    subst e
    cases x with
    | none => simp only [RelV]
    | some b =>
     simp only [KnIs] at hx
     simp only
     by_cases hb : b = w
     · subst hb
       have := nogd_rel (hs.1 hx)
       simp only [beq_self_eq_true, cond_true]
       split
       · next e => exact absurd e nogd_ne
       · exact this
     · have : (b == w) = false := by simp [hb]
       rw [this]
       simp only [cond_false, RelV]
  · rw [if_neg e]
    exact hs
 | _ => rw [hh] at hs; simpa only [rsV] using hs
theorem getD_map_rsV (l : List V) (g : Nat) (x : Option Bool) (t : Nat) : (l.map (rsV g x)).getD t .any = rsV g x (l.getD t .any) := by
 simp only [List.getD_eq_getElem?_getD, List.getElem?_map]
 cases l[t]? <;> rfl
theorem res_rel {c : Cfg} {G : List Nat} {g : Nat} {x : Option Bool} {sl : List V} {tmps : Array Value} (h : SlR c sl tmps) (hg : GdIn G sl) (hx : KnIs (tmps.getD g undef) x) : SlR c (res g x sl) tmps /\ GdIn G (res g x sl) := by
 have h1 : SlR c (sl.map (rsV g x)) tmps := ⟨by simpa using h.len, fun t => by
  unfold SlotR
  rw [getD_map_rsV]
  exact rsV_rel h hx t⟩
 have h2 : GdIn G (sl.map (rsV g x)) := fun t g' w v e => by
  rw [getD_map_rsV] at e
  cases hh : sl.getD t .any with
  | gd g'' w' v' =>
   rw [hh] at e
   simp only [rsV] at e
   split at e
   · cases x with
     | none => cases e
     | some b =>
      simp only at e
      by_cases hb : (b == w') = true
      · rw [hb] at e; exact absurd e nogd_ne
      · rw [Bool.eq_false_iff.2 hb] at e; cases e
   · cases e; exact hg t _ _ _ hh
  | _ => rw [hh] at e; simp [rsV] at e
 cases x with
 | none => exact ⟨h1, h2⟩
 | some b =>
  refine ⟨⟨by simpa [res] using h.len, fun t => ?_⟩, fun t g' w v e => ?_⟩
  · unfold SlotR
    simp only [res]
    rw [getD_set]
    by_cases e : g = t /\ g < (sl.map (rsV g (some b))).length
    · rw [if_pos e, <- e.1]
      simp only [RelV]
      exact hx
    · rw [if_neg e]
      exact h1.slot t
  · simp only [res] at e
    rw [getD_set] at e
    split at e
    · cases e
    · exact h2 t g' w v e
def br (b w : Bool) (p q : Prop) : Prop := match w with
 | true => bif b then p else q
 | false => bif b then q else p
theorem br_out {b w : Bool} {p q : Prop} (h : br b w p q) : (b = w /\ p) \/ (b = !w /\ q) := by
 cases w <;> cases b <;> simp_all [br]
def split (Kt Kf : Kn -> List V -> Prop) : Nat -> Nat -> Bool -> Kn -> List V -> Prop
 | 0, _, _, _, _ => False
 | n + 1, g, w, kn, sl => match look kn g with
  | some (some b) => bif b == w then Kt kn sl else Kf kn sl
  | some none => Kf kn sl
  | none => match sl.getD g .any with
   | .x (.bool b) => br b w (Kt ((g, some w) :: kn) (res g (some w) sl)) (Kf ((g, some (!w)) :: kn) (res g (some (!w)) sl))
   | .gd g' w' (.x (.bool b)) => split (fun kn sl => br b w (Kt ((g, some w) :: kn) (res g (some w) sl)) (Kf ((g, some (!w)) :: kn) (res g (some (!w)) sl)))
     (fun kn sl => Kf ((g, none) :: kn) (res g none sl)) n g' w' kn sl
   | _ => False
theorem knR_cons {kn : Kn} {tmps : Array Value} (h : KnR kn tmps) {g : Nat} {x : Option Bool} (hx : KnIs (tmps.getD g undef) x) : KnR ((g, x) :: kn) tmps := fun p hp => by
 rcases List.mem_cons.1 hp with rfl | hp
 · exact hx
 · exact h p hp
theorem split_sound {c : Cfg} {G : List Nat} {tmps : Array Value} : ∀ (n g : Nat) (w : Bool) (Kt Kf : Kn -> List V -> Prop) (kn : Kn) (sl : List V), SlR c sl tmps -> GdIn G sl -> KnR kn tmps -> split Kt Kf n g w kn sl ->
  ∃ kn' sl', SlR c sl' tmps /\ GdIn G sl' /\ KnR kn' tmps /\ ((tmps.getD g undef = .bool w /\ Kt kn' sl') \/ (tmps.getD g undef ≠ .bool w /\ Kf kn' sl'))
 | 0, g, w, Kt, Kf, kn, sl, hs, hg, hk, h => by simp [split] at h
 | n + 1, g, w, Kt, Kf, kn, sl, hs, hg, hk, h => by
  simp only [split] at h
  have leaf : ∀ (b : Bool) (kn : Kn) (sl : List V), SlR c sl tmps -> GdIn G sl -> KnR kn tmps -> tmps.getD g undef = .bool b ->
    br b w (Kt ((g, some w) :: kn) (res g (some w) sl)) (Kf ((g, some (!w)) :: kn) (res g (some (!w)) sl)) ->
    ∃ kn' sl', SlR c sl' tmps /\ GdIn G sl' /\ KnR kn' tmps /\ ((tmps.getD g undef = .bool w /\ Kt kn' sl') \/ (tmps.getD g undef ≠ .bool w /\ Kf kn' sl')) := by
   intro b kn sl hs hg hk hb h
   rcases br_out h with ⟨rfl, h⟩ | ⟨rfl, h'⟩
   · have hx : KnIs (tmps.getD g undef) (some b) := hb
     obtain ⟨h1, h2⟩ := res_rel hs hg hx
     exact ⟨_, _, h1, h2, knR_cons hk hx, .inl ⟨hb, h⟩⟩
   · have hx : KnIs (tmps.getD g undef) (some (!w)) := hb
     obtain ⟨h1, h2⟩ := res_rel hs hg hx
     exact ⟨_, _, h1, h2, knR_cons hk hx, .inr ⟨by rw [hb]; simp, h'⟩⟩
  split at h
  · next b hl =>
    have hb := hk _ (look_mem hl)
    simp only [KnIs] at hb
    refine ⟨kn, sl, hs, hg, hk, ?_⟩
    by_cases e : b = w
    · subst e
      simp only [beq_self_eq_true, cond_true] at h
      exact .inl ⟨hb, h⟩
    · have : (b == w) = false := by simp [e]
      rw [this] at h
      exact .inr ⟨by rw [hb]; simpa using e, h⟩
  · next hl =>
    have hb : KnIs _ none := hk _ (look_mem hl)
    exact ⟨kn, sl, hs, hg, hk, .inr ⟨hb w, h⟩⟩
  · next hl =>
    have hsg := hs.slot g
    unfold SlotR at hsg
    split at h
    · next b e =>
      rw [e] at hsg
      simp only [RelV] at hsg
      exact leaf b kn sl hs hg hk hsg h
    · next g' w' b e =>
      rw [e] at hsg
      simp only [RelV] at hsg
      obtain ⟨kn', sl', k1, k2, k3, h⟩ := split_sound n g' w' _ _ kn sl hs hg hk h
      rcases h with ⟨h1, h⟩ | ⟨h1, h⟩
      · exact leaf b kn' sl' k1 k2 k3 (hsg.1 h1) h
      · have hu := hsg.2 h1
        have hx : KnIs (tmps.getD g undef) none := fun w => by rw [hu]; simp [undef]
        obtain ⟨r1, r2⟩ := res_rel k1 k2 hx
        exact ⟨_, _, r1, r2, knR_cons k3 hx, .inr ⟨hx w, h⟩⟩
    · exact h.elim
def nilCmp (P : Program) (st : List Ob) (sl : List V) : Op -> Option (Nat × Bool)
 | .binOp op t x (.const (.slice none 0 0)) _ => match P.underlying t with
  | some (.slice _) => match (match op with | .eql => some false | .neq => some true | _ => none) with
   | some neg => match rdv sl [] x with
    | .ro _ xs => some (xs.length, neg)
    | .vec r => match st[r]? with
     | some (.vec _ _ xs) => some (xs.length, neg)
     | _ => none
    | .x (.slice none 0 0) => some (0, neg)
    | _ => none
   | none => none
  | _ => none
 | _ => none
def aopN (P : Program) (C : Caller) (st : List Ob) (sl : List V) (op : Op) (k : V -> List Ob -> Prop) : Prop := match nilCmp P st sl op with
 | some (n, neg) => ∀ b : Bool, (n ≠ 0 -> b = false) -> k (.x (.bool (bif neg then !b else b))) st
 | none => aop P C st [] (rdv sl) op k
theorem run_equalNil {P : Program} {t e : TypeId} (ht : P.underlying t = some (.slice e)) (a : Option Addr) (l cap : Nat) (w : World) :
  (Op.equal t (.slice a l cap) (.slice none 0 0)).run P w = .ok a.isNone w := by
 show (Op.equalIn (9999 + 1) t (.slice a l cap) (.slice none 0 0)).run P w = _
 unfold Op.equalIn
 cases a <;> simp [run_underlying ht]
theorem still_nilCmp {P : Program} {op : BinOp} {neg : Bool} (ho : (match op with | .eql => some false | .neq => some true | _ => none) = some neg) {t e : TypeId} (ht : P.underlying t = some (.slice e)) (x y : Operand) (a : Option Addr) (l cap : Nat) :
  Wl P ((do eqGuard op t x y (.slice a l cap) (.slice none 0 0); binOp op t (.slice a l cap) (.slice none 0 0) : Sem Value)) := by
 have he : Wl P (Op.equal t (.slice a l cap) (.slice none 0 0)) := by
  refine Still.wl (v := a.isNone) ?_
  show Still P (Op.equalIn (9999 + 1) t (.slice a l cap) (.slice none 0 0)) _
  unfold Op.equalIn
  exact .bind (still_underlying ht) (by cases a <;> exact .pure _)
 cases op <;> first | (cases ho; done) | skip
 · have h2 : binOp .eql t (.slice a l cap) (.slice none 0 0) = (do pure (.bool (<- Op.equal t (.slice a l cap) (.slice none 0 0)))) := by unfold binOp; rfl
   rw [h2]
   refine .bind ?_ fun _ => .bind he fun _ => .pure _
   exact (.pure ())
 · have h2 : binOp .neq t (.slice a l cap) (.slice none 0 0) = (do pure (.bool (!(<- Op.equal t (.slice a l cap) (.slice none 0 0))))) := by unfold binOp; rfl
   rw [h2]
   refine .bind ?_ fun _ => .bind he fun _ => .pure _
   exact (.pure ())
theorem run_nilCmp {P : Program} {op : BinOp} {neg : Bool} (ho : (match op with | .eql => some false | .neq => some true | _ => none) = some neg) {t e : TypeId} (ht : P.underlying t = some (.slice e)) (x y : Operand) (a : Option Addr) (l cap : Nat) (w : World) :
  ((do eqGuard op t x y (.slice a l cap) (.slice none 0 0); binOp op t (.slice a l cap) (.slice none 0 0) : Sem Value)).run P w = .ok (.bool (bif neg then !a.isNone else a.isNone)) w := by
 cases op <;> first | (cases ho; done) | skip
 · cases ho
   have h1 : (eqGuard .eql t x y (.slice a l cap) (.slice none 0 0)).run P w = .ok () w := rfl
   have h2 : binOp .eql t (.slice a l cap) (.slice none 0 0) = (do pure (.bool (<- Op.equal t (.slice a l cap) (.slice none 0 0)))) := by unfold binOp; rfl
   rw [Sem.run_bind, h1, Result.andThen_ok, h2, Sem.run_bind, run_equalNil ht]
   rfl
 · cases ho
   have h1 : (eqGuard .neq t x y (.slice a l cap) (.slice none 0 0)).run P w = .ok () w := rfl
   have h2 : binOp .neq t (.slice a l cap) (.slice none 0 0) = (do pure (.bool (!(<- Op.equal t (.slice a l cap) (.slice none 0 0))))) := by unfold binOp; rfl
   rw [Sem.run_bind, h1, Result.andThen_ok, h2, Sem.run_bind, run_equalNil ht]
   rfl
def viewOf (r len : Nat) (lo hi : Option V) : Option (Option Prop × V) := match lo, hi with
 | none, none => some (none, .vw r 0 len)
 | some (.x (.int _ l)), none => some (some (0 <= l /\ l <= len), .vw r l.toNat (len - l.toNat))
 | none, some (.x (.int _ h)) => some (some (0 <= h /\ h <= len), .vw r 0 h.toNat)
 | some (.x (.int _ l)), some (.x (.int _ h)) => some (some (0 <= l /\ l <= h /\ h <= len), .vw r l.toNat (h.toNat - l.toNat))
 | _, _ => none
def vwSlice (P : Program) (st : List Ob) (sl : List V) : Op -> Option (Option Prop × V)
 | .slice t x lo hi none => match P.underlying t, rdv sl [] x with
  | some (.slice e), .vec r => match P.info? e, st[r]? with
   | some inf, some (.vec τ _ xs) => if inf.size = τ.size then viewOf r xs.length (lo.map (rdv sl [])) (hi.map (rdv sl [])) else none
   | _, _ => none
  | _, _ => none
 | _ => none
theorem sliced_vw {w0 : Base} {c : Cfg} (hr : Rel w0 c) {r : Nat} {τ : Ty} {f : Nat} {xs : List τ.den} (hst : c.st[r]? = some (.vec τ f xs)) {a : Option Addr} {len cap l h : Nat} (hx : RelV c (.vec r) (.slice a len cap)) (h1 : l <= h) (h2 : h <= xs.length) :
  RelV c (.vw r l (h - l)) (sliced a l h cap τ.size) := by
 simp only [RelV, hst] at hx ⊢
 refine ⟨by omega, ?_⟩
 obtain ⟨hp, _, ⟨hn, rfl⟩ | ⟨b', ce, e, cap', g1, g2, g3, g4, _⟩⟩ := hr.obj r _ hst
 · rcases hx with ⟨_, e⟩ | ⟨b, cap0, hb, _⟩
   · cases e
     simp only [List.length_nil] at h2
     obtain rfl : h = 0 := by omega
     obtain rfl : l = 0 := by omega
     exact .inl ⟨hn, by simp [sliced]⟩
   · rw [hn] at hb; cases hb
 · rcases hx with ⟨hb, _⟩ | ⟨b, cap0, hb, e, hrows⟩
   · rw [g1] at hb; cases hb
   rw [g1] at hb; cases hb
   cases e
   have hcap : cap = cap' := by
    obtain ⟨ce', e', fz, k1, k2⟩ := hrows
    rw [g2] at k1; cases k1
    exact Nat.eq_of_mul_eq_mul_right hp (by omega)
   subst hcap
   by_cases hcl : cap = l
   · have hh : h - l = 0 := by omega
     by_cases hl0 : l = 0
     · subst hl0
       refine .inr (.inl ⟨b', 0, g1, ?_, by omega, ?_⟩)
       · subst hcl; simp [sliced, hh, Addr.add]
       · subst hcl; simpa using hrows
     · exact .inr (.inr ⟨hh, by omega, ⟨b', 0, none⟩, by simp [sliced, hcl, hh]⟩)
   · refine .inr (.inl ⟨b', cap - l, g1, by simp [sliced, hcl, add_addr], by omega, ?_⟩)
     rw [show l + (cap - l) = cap from by omega]
     exact hrows
theorem vwSlice_sound {P : Program} {w0 : Base} {c : Cfg} (hr : Rel w0 c) {sl : List V} {a : Act} (hs : SlR c sl a.tmps) {o : Oper} {p : Option Prop} {v : V} (h : vwSlice P c.st sl o.op = some (p, v)) (hp : vc p) :
  ∃ u, (execOp a.eval o).run P c.w = .ok (.value u) c.w /\ RelV c v u := by
 obtain ⟨dst, op, ty, pos, after, guard⟩ := o
 have hx : ∀ x, RelV c (rdv sl [] x) (a.eval x) := fun x => rdv_rel hs [] x (fun g hg => by simp at hg)
 unfold vwSlice at h
 simp only at h
 split at h
 · next t x lo hi =>
   split at h
   · next e r hu er =>
     split at h
     · next inf τ f xs hinf hst =>
       split at h
       · next hsz =>
         have hxx := hx x
         rw [er] at hxx
         have hel : P.elem t = e := by simp [Program.elem, hu]
         have hu' : P.underlying t = some (.slice (P.elem t)) := by rw [hel]; exact hu
         have hszr : ∀ w, (sizeOf (P.elem t)).run P w = .ok τ.size w := fun w => by rw [hel, run_sizeOf' hinf, hsz]
         obtain ⟨ad, len, cap, hv, hlen, hcap⟩ : ∃ ad len cap, a.eval x = .slice ad len cap /\ len = xs.length /\ len <= cap := by
          have h0 := hxx
          simp only [RelV, hst] at h0
          obtain ⟨hp', _, ⟨hn, rfl⟩ | ⟨b', ce, e, cap', g1, g2, g3, g4, _⟩⟩ := hr.obj r _ hst
          · rcases h0 with ⟨_, e⟩ | ⟨b, cap0, hb, _⟩
            · exact ⟨_, _, _, e, rfl, Nat.le_refl _⟩
            · rw [hn] at hb; cases hb
          · rcases h0 with ⟨hb, _⟩ | ⟨b, cap0, hb, e, ce', e', fz, k1, k2⟩
            · rw [g1] at hb; cases hb
            · rw [g1] at hb; cases hb
              rw [g2] at k1; cases k1
              refine ⟨_, _, _, e, rfl, ?_⟩
              have := Nat.eq_of_mul_eq_mul_right hp' (g3.symm.trans k2)
              omega
         rw [hv] at hxx
         have fin : ∀ (u : Value) (lo' hi' : Option Value), lo' = lo.map a.eval -> hi' = hi.map a.eval -> (Instr.sliceAt t (.slice ad len cap) lo' hi' none).run P c.w = .ok u c.w -> (execOp a.eval ⟨dst, .slice t x lo hi none, ty, pos, after, guard⟩).run P c.w = .ok (.value u) c.w := by
          intro u lo' hi' e1 e2 hrun
          subst e1; subst e2
          simp only [execOp, Option.map_none, hv, Sem.run_bind, hrun, Result.andThen_ok, Sem.run_pure]
         unfold viewOf at h
         split at h
         · next e1 e2 =>
           cases h
           obtain rfl : lo = none := by cases lo <;> simp_all
           obtain rfl : hi = none := by cases hi <;> simp_all
           refine ⟨_, fin _ none none rfl rfl (by rw [run_sliceAt_slice c.w t _ _ _ _ hu', run_slice_all c.w t ad len cap hu', hszr]; rfl), ?_⟩
           have := sliced_vw hr hst hxx (l := 0) (h := xs.length) (by omega) (Nat.le_refl _)
           simpa [hlen] using this
         · next k l e1 e2 =>
           cases h
           simp only [vc] at hp
           obtain ⟨y, rfl, hy⟩ : ∃ y, lo = some y /\ rdv sl [] y = .x (.int k l) := by cases lo <;> simp_all
           obtain rfl : hi = none := by cases hi <;> simp_all
           have hy2 := hx y
           rw [hy] at hy2
           simp only [RelV] at hy2
           refine ⟨_, fin _ (some (.int k l)) none (by simp [hy2]) rfl (by rw [run_sliceAt_slice c.w t _ _ _ _ hu', run_slice_l c.w t ad len cap hu' _ _ hp.1 (by omega), hszr]; rfl), ?_⟩
           have := sliced_vw hr hst hxx (l := l.toNat) (h := xs.length) (by omega) (Nat.le_refl _)
           simpa [hlen] using this
         · next k m e1 e2 =>
           cases h
           simp only [vc] at hp
           obtain rfl : lo = none := by cases lo <;> simp_all
           obtain ⟨y, rfl, hy⟩ : ∃ y, hi = some y /\ rdv sl [] y = .x (.int k m) := by cases hi <;> simp_all
           have hy2 := hx y
           rw [hy] at hy2
           simp only [RelV] at hy2
           refine ⟨_, fin _ none (some (.int k m)) rfl (by simp [hy2]) (by rw [run_sliceAt_slice c.w t _ _ _ _ hu', run_slice_h c.w t ad len cap hu' _ _ hp.1 (by omega), hszr]; rfl), ?_⟩
           have := sliced_vw hr hst hxx (l := 0) (h := m.toNat) (by omega) (by omega)
           simpa [hlen] using this
         · next k l k' m e1 e2 =>
           cases h
           simp only [vc] at hp
           obtain ⟨y, rfl, hy⟩ : ∃ y, lo = some y /\ rdv sl [] y = .x (.int k l) := by cases lo <;> simp_all
           obtain ⟨z, rfl, hz⟩ : ∃ y, hi = some y /\ rdv sl [] y = .x (.int k' m) := by cases hi <;> simp_all
           have hy2 := hx y
           rw [hy] at hy2
           have hz2 := hx z
           rw [hz] at hz2
           simp only [RelV] at hy2 hz2
           refine ⟨_, fin _ (some (.int k l)) (some (.int k' m)) (by simp [hy2]) (by simp [hz2]) (by rw [run_sliceAt_slice c.w t _ _ _ _ hu', run_slice_lh c.w t ad len cap hu' _ _ _ _ hp.1 hp.2.1 (by omega), hszr]; rfl), ?_⟩
           exact sliced_vw hr hst hxx (l := l.toNat) (h := m.toNat) (by omega) (by omega)
         · cases h
       · cases h
     · cases h
   · cases h
 · cases h
def aopW (P : Program) (C : Caller) (st : List Ob) (sl : List V) (op : Op) (k : V -> List Ob -> Prop) : Prop := match vwSlice P st sl op with
 | some (p, v) => andO p (k v st)
 | none => aopN P C st sl op k
def aopsK (P : Program) (C : Caller) (G : List Nat) (ops : List Oper) : List Oper -> Kn -> List V -> List Ob -> (List V -> List Ob -> Prop) -> Prop
 | [], _, sl, st, K => K sl st
 | o :: rest, kn, sl, st, K => forceL sl fun sl =>
  match o.guard with
  | none => aopW P C st sl o.op fun v st' => aopsK P C G ops rest (forget o.dst kn) (putS G o.dst (nogd v) sl) st' K
  | some (j, w) => match gslot ops j with
   | none => False
   | some g => match look kn g with
    | some (some b) => bif b == w then aopW P C st sl o.op fun v st' => aopsK P C G ops rest (forget o.dst kn) (putS G o.dst (nogd v) sl) st' K
      else aopsK P C G ops rest (learn o.dst kn) (putS G o.dst .any sl) st K
    | some none => aopsK P C G ops rest (learn o.dst kn) (putS G o.dst .any sl) st K
    | none => match conds sl 8 g w with
     | none => False
     | some (fs, bs) =>
      if G.contains g = true then
       match aval P st fs (rdv sl) o.op, o.dst with
       | some (p, v), some d => if d = g then False else andG bs p (aopsK P C G ops rest (forget (some d) kn) (putS G (some d) (.gd g w (nogd v)) sl) st K)
       | _, _ => split (fun kn sl => aopW P C st sl o.op fun v st' => aopsK P C G ops rest (forget o.dst kn) (putS G o.dst (nogd v) sl) st' K)
         (fun kn sl => aopsK P C G ops rest (learn o.dst kn) (putS G o.dst .any sl) st K) 8 g w kn sl
      else False
theorem aopsK_sound {P : Program} {w0 : Base} {C : Caller} (hC : SoundC P C) {G : List Nat} {ops : Array Oper} {Q : Exit -> Act -> World -> Prop} :
  ∀ (l : List Oper) (_ : okOps P l = true) (c : Cfg) (kn : Kn) (sl : List V) (a : Act) (K : List V -> List Ob -> Prop), Rel w0 c -> SlR c sl a.tmps -> GdIn G sl -> KnR kn a.tmps -> aopsK P C G ops.toList l kn sl c.st K ->
   (∀ sl' c' a', Rel w0 c' -> Ext c c' -> SlR c' sl' a'.tmps -> GdIn G sl' -> a'.defers = a.defers -> K sl' c'.st -> Q .normal a' c'.w) -> wpListK P ops Q l a c.w
 | [], _, c, kn, sl, a, K, hr, hs, hg, hkn, h, hK => hK sl c a hr (Ext.refl c) hs hg rfl h
 | o :: rest, hok, c, kn, sl, a, K, hr, hs, hg, hkn, h, hK => by
  rw [wpListK]
  intro d0
  suffices step : ∀ c : Cfg, Rel w0 c -> SlR c sl a.tmps -> aopsK P C G ops.toList (o :: rest) kn sl c.st K -> (∀ sl' c' a', Rel w0 c' -> Ext c c' -> SlR c' sl' a'.tmps -> GdIn G sl' -> a'.defers = a.defers -> K sl' c'.st -> Q .normal a' c'.w) ->
    if Region.wanted o (yielded ops a.tmps) = true then o.wpK P a c.w (wpListK P ops Q rest) Q \/ False else wpListK P ops Q rest (a.put o.dst undef) c.w by
   obtain ⟨hr1, hx1⟩ := at_rel hr d0
   exact step (c.at d0) hr1 (SlR.ext hx1 hs) h fun sl' c' a' k1 k2 => hK sl' c' a' k1 (hx1.trans k2)
  clear hr hs h hK
  intro c hr hs h hK
  have hl : WlO P a o := okOps_wl hok List.mem_cons_self a
  have hokr : okOps P rest = true := okOps_sub (fun x hx => List.mem_cons_of_mem _ hx) hok
  have hput : ∀ (d : Option Nat) (u : Value), (a.put d u).defers = a.defers := fun d u => by cases d <;> rfl
  have run : ∀ (kn : Kn) (sl : List V), SlR c sl a.tmps -> GdIn G sl -> KnR kn a.tmps -> (aopW P C c.st sl o.op fun v st' => aopsK P C G ops.toList rest (forget o.dst kn) (putS G o.dst (nogd v) sl) st' K) ->
    o.wpK P a c.w (wpListK P ops Q rest) Q := fun kn sl hs hg hkn h => by
   unfold aopW at h
   split at h
   · next p v hv =>
     obtain ⟨hp, hk⟩ := andO_split h
     obtain ⟨u, h1, h2⟩ := vwSlice_sound hr hs hv hp
     refine wp_value h1 ?_ hl (by unfold vwSlice at hv; split at hv <;> first | (cases hv; done) | simp_all [qOp])
     obtain ⟨g1, g2⟩ := putS_rel (a := a) (d := o.dst) hs hg (nogd_hv h2)
     exact aopsK_sound hC rest hokr c _ _ _ K hr g1 g2 (forget_rel hkn _ _) hk fun sl' c'' a' k1 k2 k3 k4 k5 k6 => hK sl' c'' a' k1 k2 k3 k4 (k5.trans (hput _ _)) k6
   rename_i hvn
   clear hvn
   unfold aopN at h
   split at h
   · next n neg hn =>
     obtain ⟨dst, op, ty, pos, after, guard⟩ := o
     simp only at hn h
     unfold nilCmp at hn
     split at hn
     · next op t x yt =>
       split at hn
       · next e ht =>
         split at hn
         · next neg' ho =>
           have hxv := rdv_rel hs [] x (fun g hh => by simp at hh)
           have key : ∀ (n' : Nat) (ad : Option Addr) (l cap : Nat), a.eval x = .slice ad l cap -> (n' ≠ 0 -> ad.isNone = false) -> n' = n -> neg' = neg -> Oper.wpK P ⟨dst, .binOp op t x (.const (.slice none 0 0)) yt, ty, pos, after, guard⟩ a c.w (wpListK P ops Q rest) Q := by
            intro n' ad l cap hev hn' e1 e2
            subst e1 e2
            have hk := h ad.isNone hn'
            have hrun : (execOp a.eval ⟨dst, .binOp op t x (.const (.slice none 0 0)) yt, ty, pos, after, guard⟩).run P c.w = .ok (.value (.bool (bif neg' then !ad.isNone else ad.isNone))) c.w := by
             have := run_nilCmp ho ht x (.const (.slice none 0 0)) ad l cap c.w
             simp only [execOp, hev]
             simp only [Act.eval]
             rw [Sem.run_bind, this]
             rfl
            refine wp_valueW hrun ?_ (by
             have := wl_v (still_nilCmp ho ht x (.const (.slice none 0 0)) ad l cap)
             simp only [execOp, hev]
             simp only [Act.eval]
             exact this)
            have hv0 : RelV c (.x (.bool (bif neg' then !ad.isNone else ad.isNone))) (.bool (bif neg' then !ad.isNone else ad.isNone)) := by simp only [RelV]
            obtain ⟨g1, g2⟩ := putS_rel (a := a) (d := dst) hs hg (nogd_hv (G := G) (d := dst) (a := a) hv0)
            exact aopsK_sound hC rest hokr c _ _ _ K hr g1 g2 (forget_rel hkn _ _) hk fun sl' c'' a' k1 k2 k3 k4 k5 k6 => hK sl' c'' a' k1 k2 k3 k4 (k5.trans (hput _ _)) k6
           split at hn
           · next t' xs er =>
             cases hn
             rw [er] at hxv
             simp only [RelV, RoV, SlV] at hxv
             rcases hxv with ⟨h1, rfl⟩ | ⟨b, o, sp, cap, h1, _⟩
             · simp only [List.cons.injEq, and_true] at h1
               exact key _ none 0 0 h1 (fun hh => absurd rfl hh) rfl rfl
             · simp only [List.cons.injEq, and_true] at h1
               exact key _ _ _ _ h1 (fun _ => rfl) rfl rfl
           · next r er =>
             rw [er] at hxv
             split at hn
             · next t' f xs hst =>
               cases hn
               simp only [RelV, hst] at hxv
               rcases hxv with ⟨h1, h2⟩ | ⟨b, cap, h1, h2, _⟩
               · obtain ⟨_, _, ⟨_, rfl⟩ | ⟨b', ce, ty', cap, hb', _⟩⟩ := hr.obj r _ hst
                 · exact key _ none 0 0 h2 (fun hh => absurd rfl hh) rfl rfl
                 · rw [h1] at hb'; cases hb'
               · exact key _ _ _ _ h2 (fun _ => rfl) rfl rfl
             · cases hn
           · next er =>
             cases hn
             rw [er] at hxv
             simp only [RelV] at hxv
             exact key _ none 0 0 hxv (fun hh => absurd rfl hh) rfl rfl
           · cases hn
         · cases hn
       · cases hn
     · cases hn
   refine aop_sound hC hr (fun gs x hgs => rdv_rel hs gs x hgs) (fun g hh => by simp at hh) hl h (fun v c' u h1 h2 h3 h4 => ?_)
   obtain ⟨g1, g2⟩ := putS_rel (a := a) (d := o.dst) (SlR.ext h2 hs) hg (nogd_hv h3)
   refine aopsK_sound hC rest hokr c' _ _ _ K h1 g1 g2 (forget_rel hkn _ _) h4 fun sl' c'' a' k1 k2 k3 k4 k5 k6 => hK sl' c'' a' k1 (h2.trans k2) k3 k4 (k5.trans (hput _ _)) k6
  have skip : ∀ (kn : Kn) (sl : List V), SlR c sl a.tmps -> GdIn G sl -> KnR kn a.tmps -> aopsK P C G ops.toList rest (learn o.dst kn) (putS G o.dst .any sl) c.st K ->
    wpListK P ops Q rest (a.put o.dst undef) c.w := fun kn sl hs hg hkn h => by
   obtain ⟨g1, g2⟩ := putS_rel (a := a) (d := o.dst) (v := .any) (u := undef) hs hg (by simp only [RelV])
   exact aopsK_sound hC rest hokr c _ _ _ K hr g1 g2 (learn_rel hkn _) h fun sl' c'' a' k1 k2 k3 k4 k5 k6 => hK sl' c'' a' k1 k2 k3 k4 (k5.trans (hput _ _)) k6
  simp only [aopsK, forceL_eq] at h
  split at h
  · next hgd =>
    have hw : Region.wanted o (yielded ops a.tmps) = true := by simp [Region.wanted, hgd]
    rw [if_pos hw]
    exact .inl (run kn sl hs hg hkn h)
  · next j w hgd =>
    split at h
    · exact h.elim
    · next g hgs =>
      have hwi := wanted_iff (tmps := a.tmps) hgd hgs
      split at h
      · next b hl =>
        have hb := hkn _ (look_mem hl)
        simp only [KnIs] at hb
        by_cases e : b = w
        · subst e
          rw [if_pos (hwi.2 hb)]
          simp only [beq_self_eq_true, cond_true] at h
          exact .inl (run kn sl hs hg hkn h)
        · have e2 : (b == w) = false := by simp [e]
          rw [e2] at h
          rw [if_neg (fun hw => by have := hwi.1 hw; rw [hb] at this; exact e (by simpa using this))]
          exact skip kn sl hs hg hkn h
      · next hl =>
        have hb : KnIs _ none := hkn _ (look_mem hl)
        rw [if_neg (fun hw => hb w (hwi.1 hw))]
        exact skip kn sl hs hg hkn h
      · next hl =>
        split at h
        · exact h.elim
        · next fs bs hc =>
          obtain ⟨c1, c2⟩ := conds_sound hs 8 g w fs bs hc
          split at h
          · next hG =>
            have hGm : g ∈ G := by simpa using hG
            split at h
            · next p v d hv hd =>
              split at h
              · exact h.elim
              · next hne =>
                obtain ⟨hp, hk⟩ := andG_out h
                have next' : ∀ u, (a.tmps.getD g undef = .bool w -> RelV c v u) -> (a.tmps.getD g undef ≠ .bool w -> u = undef) -> wpListK P ops Q rest (a.put o.dst u) c.w := by
                 intro u hu1 hu2
                 obtain ⟨g1, g2⟩ := putS_rel (a := a) (d := some d) (v := .gd g w (nogd v)) (u := u) hs hg ⟨hGm, fun e => hne (by cases e; rfl), fun e => nogd_rel (hu1 e), hu2⟩
                 rw [hd]
                 exact aopsK_sound hC rest hokr c _ _ _ K hr g1 g2 (forget_rel hkn _ _) hk fun sl' c'' a' k1 k2 k3 k4 k5 k6 => hK sl' c'' a' k1 k2 k3 k4 (k5.trans (hput _ _)) k6
                by_cases hw : Region.wanted o (yielded ops a.tmps) = true
                · rw [if_pos hw]
                  have hgw := hwi.1 hw
                  obtain ⟨u, h1, h2⟩ := aval_sound (P := P) hr (fun gs x hgs => rdv_rel hs gs x hgs) (c2 hgw) hv (hp (c1.1 hgw))
                  exact .inl (wp_valueW h1 (next' u (fun _ => h2) (fun e => absurd hgw e)) (aval_wl (okOps_wl hok List.mem_cons_self a) (fun gs x hgs => rdv_rel hs gs x hgs) (c2 hgw) hv))
                · rw [if_neg hw]
                  exact next' undef (fun e => absurd (hwi.2 e) hw) (fun _ => rfl)
            · obtain ⟨kn', sl', k1, k2, k3, h⟩ := split_sound 8 g w _ _ kn sl hs hg hkn h
              rcases h with ⟨hw, h⟩ | ⟨hw, h⟩
              · rw [if_pos (hwi.2 hw)]
                exact .inl (run kn' sl' k1 k2 k3 h)
              · rw [if_neg (fun e => hw (hwi.1 e))]
                exact skip kn' sl' k1 k2 k3 h
          · exact h.elim
mutual
def okRef (g : List Nat) : V -> Bool
 | .rc cs _ => okRefs g cs
 | .cl r _ => (match g[r]? with | some k => Nat.beq k r | none => false)
 | .el r _ _ => (match g[r]? with | some k => Nat.beq k r | none => false)
 | .vec r => (match g[r]? with | some k => Nat.beq k r | none => false)
 | .vw r _ _ => (match g[r]? with | some k => Nat.beq k r | none => false)
 | .agg cs => okRefs g cs
 | .tup cs => okRefs g cs
 | .fn _ a b => okRefs g a && okRefs g b
 | _ => true
def okRefs (g : List Nat) : List V -> Bool
 | [] => true
 | v :: vs => okRef g v && okRefs g vs
end
def reC (c : Cfg) (g : List Nat) : Cfg :=
 { c with st := g.map (fun i => c.st.getD i .dead), bl := fun r => match g[r]? with | some i => c.bl i | none => none }
theorem okRef_num {g : List Nat} {r : Nat} (h : (match g[r]? with | some k => Nat.beq k r | none => false) = true) : g[r]? = some r := by
 split at h
 · next k e => rw [e, Nat.eq_of_beq_eq_true h]
 · cases h
theorem reC_st {c : Cfg} {g : List Nat} {r i : Nat} (h : g[r]? = some i) : (reC c g).st[r]? = some (c.st.getD i .dead) := by
 simp [reC, h]
theorem reC_bl {c : Cfg} {g : List Nat} {r i : Nat} (h : g[r]? = some i) : (reC c g).bl r = c.bl i := by
 simp [reC, h]
mutual
theorem RelV.re {c : Cfg} {g : List Nat} : ∀ (v : V) (u : Value), okRef g v = true -> RelV c v u -> RelV (reC c g) v u
 | .any, _, _, _ => by simp only [RelV]
 | .x v, u, _, h => by simpa only [RelV] using h
 | .ro t xs, u, _, h => by simp only [RelV] at *; exact h
 | .rc cs j, u, hk, h => by
  simp only [okRef] at hk
  simp only [RelV] at *
  obtain ⟨b, o, e, hc⟩ := h
  exact ⟨b, o, e, RelC.re cs b o hk hc⟩
 | .cl r i, u, hk, h => by
  have hsh := cl_shape h
  simp only [okRef] at hk
  have hg := okRef_num hk
  simp only [RelV] at *
  rw [reC_st hg]
  cases hs : c.st[r]? with
  | none => rw [hs] at h; exact h.elim
  | some ob =>
   rw [hs] at h
   simp only [List.getD_eq_getElem?_getD, hs, Option.getD_some]
   cases ob with
   | cells cs =>
    obtain ⟨b, hb, e⟩ := h
    exact ⟨b, by rw [reC_bl hg]; exact hb, e⟩
   | _ => exact hsh
 | .el r i j, u, hk, h => by
  have hsh := el_shape h
  simp only [okRef] at hk
  have hg := okRef_num hk
  simp only [RelV] at *
  rw [reC_st hg]
  cases hs : c.st[r]? with
  | none => rw [hs] at h; exact h.elim
  | some ob =>
   rw [hs] at h
   simp only [List.getD_eq_getElem?_getD, hs, Option.getD_some]
   cases ob with
   | vec t f xs =>
    obtain ⟨b, hb, e, hi⟩ := h
    exact ⟨b, by rw [reC_bl hg]; exact hb, e, hi⟩
   | cells cs =>
    obtain ⟨b, hb, e⟩ := h
    exact ⟨b, by rw [reC_bl hg]; exact hb, e⟩
   | _ => exact hsh
 | .vec r, u, hk, h => by
  have hsh := vec_shape h
  simp only [okRef] at hk
  have hg := okRef_num hk
  simp only [RelV] at *
  rw [reC_st hg]
  cases hs : c.st[r]? with
  | none => rw [hs] at h; exact h.elim
  | some ob =>
   rw [hs] at h
   simp only [List.getD_eq_getElem?_getD, hs, Option.getD_some]
   cases ob with
   | vec t f xs => rw [reC_bl hg]; exact h
   | _ => exact hsh
 | .vw r lo n, u, hk, h => by
  have hsh := vw_shape h
  simp only [okRef] at hk
  have hg := okRef_num hk
  simp only [RelV] at *
  rw [reC_st hg]
  cases hs : c.st[r]? with
  | none => rw [hs] at h; exact h.elim
  | some ob =>
   rw [hs] at h
   simp only [List.getD_eq_getElem?_getD, hs, Option.getD_some]
   cases ob with
   | vec t f xs => rw [reC_bl hg]; exact h
   | _ => exact hsh
 | .agg vs, u, hk, h => by
  simp only [okRef] at hk
  simp only [RelV] at *
  obtain ⟨us, e, hc⟩ := h
  exact ⟨us, e, RelVs.re vs _ hk hc⟩
 | .tup vs, u, hk, h => by
  simp only [okRef] at hk
  simp only [RelV] at *
  obtain ⟨us, e, hc⟩ := h
  exact ⟨us, e, RelVs.re vs _ hk hc⟩
 | .fn f a b, u, hk, h => by
  simp only [okRef, Bool.and_eq_true] at hk
  simp only [RelV] at *
  obtain ⟨us1, us2, e, h1, h2⟩ := h
  exact ⟨us1, us2, e, RelVs.re a _ hk.1 h1, RelVs.re b _ hk.2 h2⟩
 | .gd _ _ _, _, _, _ => by simp only [RelV]
 | .hd _, _, _, h => by simpa only [RelV] using h
 | .pt _ _, _, _, h => by simpa only [RelV] using h
theorem RelVs.re {c : Cfg} {g : List Nat} : ∀ (vs : List V) (us : List Value), okRefs g vs = true -> RelVs c vs us -> RelVs (reC c g) vs us
 | [], _, _, h => by simpa only [RelVs] using h
 | v :: vs, us, hk, h => by
  simp only [okRefs, Bool.and_eq_true] at hk
  simp only [RelVs] at *
  obtain ⟨u, us', e, h1, h2⟩ := h
  exact ⟨u, us', e, RelV.re v u hk.1 h1, RelVs.re vs us' hk.2 h2⟩
theorem RelC.re {c : Cfg} {g : List Nat} : ∀ (vs : List V) (b o : Nat), okRefs g vs = true -> RelC c vs b o -> RelC (reC c g) vs b o
 | [], _, _, _, _ => by simp only [RelC]
 | v :: vs, b, o, hk, h => by
  simp only [okRefs, Bool.and_eq_true] at hk
  simp only [RelC] at *
  obtain ⟨⟨u, h1, h2, h3⟩, h4⟩ := h
  exact ⟨⟨u, h1, h2, RelV.re v u hk.1 h3⟩, RelC.re vs b (o + 1) hk.2 h4⟩
end
def okObs (g : List Nat) : List Ob -> Bool
 | [] => true
 | .cells cs :: r => okRefs g cs && okObs g r
 | _ :: r => okObs g r
theorem okObs_get {g : List Nat} : ∀ {l : List Ob} {r : Nat} {cs : List V}, okObs g l = true -> l[r]? = some (.cells cs) -> okRefs g cs = true
 | [], r, cs, _, h => by simp at h
 | ob :: l, 0, cs, hk, h => by
  simp only [List.getElem?_cons_zero, Option.some.injEq] at h
  subst h
  simp only [okObs, Bool.and_eq_true] at hk
  exact hk.1
 | ob :: l, r + 1, cs, hk, h => by
  simp only [List.getElem?_cons_succ] at h
  cases ob with
  | cells cs' =>
   simp only [okObs, Bool.and_eq_true] at hk
   exact okObs_get hk.2 h
  | _ =>
   simp only [okObs] at hk
   exact okObs_get hk h
def distinct : List Nat -> Bool
 | [] => true
 | x :: r => !(r.contains x) && distinct r
theorem distinct_inj : ∀ {g : List Nat} {r r' i : Nat}, distinct g = true -> g[r]? = some i -> g[r']? = some i -> r = r'
 | [], r, r', i, _, h, _ => by simp at h
 | x :: g, 0, 0, i, _, _, _ => rfl
 | x :: g, 0, r' + 1, i, hd, h, h' => by
  simp only [distinct, Bool.and_eq_true, Bool.not_eq_true'] at hd
  simp only [List.getElem?_cons_zero, Option.some.injEq, List.getElem?_cons_succ] at h h'
  subst h
  have := List.mem_of_getElem? h'
  simp at hd
  exact absurd this hd.1
 | x :: g, r + 1, 0, i, hd, h, h' => by
  simp only [distinct, Bool.and_eq_true, Bool.not_eq_true'] at hd
  simp only [List.getElem?_cons_zero, Option.some.injEq, List.getElem?_cons_succ] at h h'
  subst h'
  have := List.mem_of_getElem? h
  simp at hd
  exact absurd this hd.1
 | x :: g, r + 1, r' + 1, i, hd, h, h' => by
  simp only [distinct, Bool.and_eq_true] at hd
  simp only [List.getElem?_cons_succ] at h h'
  rw [distinct_inj hd.2 h h']
theorem live_of' {st : List Ob} {r : Nat} (h : live st r) : ∃ ob, st[r]? = some ob /\ ob ≠ .dead := by
 have hlt := live_lt h
 refine ⟨st[r], List.getElem?_eq_getElem hlt, fun e => ?_⟩
 unfold live at h
 rw [List.getElem?_eq_getElem hlt, e] at h
 exact h
theorem PoolOk.ren {w0 : Base} {c c' : Cfg} (h : PoolOk w0 c) (hw : c'.w = c.w) (hA : ∀ b o, c'.A b o -> c.A b o) {g : List Nat} (hd : distinct g = true)
  (hst : ∀ (r : Nat) (m : Pool), c'.st[r]? = some (Ob.pool m) -> ∃ i, g[r]? = some i /\ c.st[i]? = some (Ob.pool m))
  (hbl : ∀ r b, live c'.st r -> c'.bl r = some b -> ∃ i, live c.st i /\ c.bl i = some b) : PoolOk w0 c' := by
 refine ⟨fun r r' m m' h1 h2 => ?_, fun r m hm => ?_⟩
 · obtain ⟨i, g1, g2⟩ := hst r m h1
   obtain ⟨i', k1, k2⟩ := hst r' m' h2
   have := h.1 i i' m m' g2 k2
   subst this
   exact distinct_inj hd g1 k1
 · obtain ⟨i, g1, g2⟩ := hst r m hm
   obtain ⟨hn, hp⟩ := h.2 i m g2
   refine ⟨hn, fun b row hb => ?_⟩
   obtain ⟨h1, h2, h3, ce, e, h4, h5⟩ := hp b row hb
   refine ⟨h1, fun r0 k1 k2 => ?_, fun o k => h3 o (hA b o k), ce, e, by rw [hw]; exact h4, h5⟩
   obtain ⟨i0, q1, q2⟩ := hbl r0 b k1 k2
   exact h2 i0 q1 q2
theorem re_rel {w0 : Base} {c : Cfg} (hr : Rel w0 c) {g : List Nat} (hd : distinct g = true) (hk : okObs g (reC c g).st = true) : Rel w0 (reC c g) := by
 have hlive : ∀ r b, live (reC c g).st r -> (reC c g).bl r = some b -> ∃ i, g[r]? = some i /\ live c.st i /\ c.bl i = some b := by
  intro r b h hb
  obtain ⟨ob, h1, h2⟩ := live_of' h
  cases hg : g[r]? with
  | none => simp [reC, hg] at h1
  | some i =>
   rw [reC_st hg] at h1
   rw [reC_bl hg] at hb
   refine ⟨i, rfl, ?_, hb⟩
   cases hs : c.st[i]? with
   | none => simp [List.getD, hs] at h1; exact absurd h1.symm h2
   | some ob' =>
    simp only [List.getD_eq_getElem?_getD, hs, Option.getD_some, Option.some.injEq] at h1
    exact live_of hs (by rw [h1]; exact h2)
 exact {
  below := hr.below
  inj := fun r r' b h h' hb hb' => by
   obtain ⟨i, g1, g2, g3⟩ := hlive r b h hb
   obtain ⟨i', k1, k2, k3⟩ := hlive r' b h' hb'
   have := hr.inj i i' b g2 k2 g3 k3
   subst this
   exact distinct_inj hd g1 k1
  fresh := fun r b h hb => by
   obtain ⟨i, g1, g2, g3⟩ := hlive r b h hb
   exact hr.fresh i b g2 g3
  pl := PoolOk.ren hr.pl rfl (fun _ _ h => h) hd (fun r m h => by
    cases hg : g[r]? with
    | none => simp [reC, hg] at h
    | some i =>
     rw [reC_st hg] at h
     refine ⟨i, rfl, ?_⟩
     cases hs : c.st[i]? with
     | none => simp [List.getD, hs] at h
     | some ob' => simpa [List.getD_eq_getElem?_getD, hs] using h) (fun r b h hb => by
    obtain ⟨i, _, g2, g3⟩ := hlive r b h hb
    exact ⟨i, g2, g3⟩)
  bound := hr.bound
  newA := hr.newA
  obj := fun r ob h => by
   cases hg : g[r]? with
   | none => simp [reC, hg] at h
   | some i =>
    have h0 := h
    rw [reC_st hg] at h
    cases hs : c.st[i]? with
    | none => simp [List.getD, hs] at h; subst h; trivial
    | some ob' =>
     simp only [List.getD_eq_getElem?_getD, hs, Option.getD_some, Option.some.injEq] at h
     subst h
     have ho := hr.obj i _ hs
     cases ob' with
     | dead => trivial
     | cells cs =>
      obtain ⟨b, ce, e, h1, h2, h3, h4⟩ := ho
      exact ⟨b, ce, e, by rw [reC_bl hg]; exact h1, h2, RelVs.re cs _ (okObs_get hk h0) h3, h4⟩
     | vec t f xs =>
      obtain ⟨h1, h2, h3⟩ := ho
      refine ⟨h1, h2, ?_⟩
      rw [reC_bl hg]
      exact h3
     | pool m => exact (reC_bl hg).trans ho }
theorem re_ext {cb c : Cfg} (hx : Ext cb c) {g : List Nat} (hg : ∀ r, r < cb.st.length -> g[r]? = some r) : Ext cb (reC c g) where
 size := hx.size
 sub := hx.sub
 cells := hx.cells
 len := by
  simp only [reC, List.length_map]
  rcases Nat.eq_zero_or_pos cb.st.length with h | h
  · omega
  · have := hg (cb.st.length - 1) (by omega)
    have := (List.getElem?_eq_some_iff.1 this).1
    omega
 keep := fun r ob hr h => by
  rw [reC_st (hg r hr)] at h
  have hl := hx.len
  have hs : c.st[r]? = some (c.st[r]'(by omega)) := List.getElem?_eq_getElem (by omega)
  simp only [List.getD_eq_getElem?_getD, hs, Option.getD_some, Option.some.injEq] at h
  have hk := hx.keep r _ hr hs
  rw [h] at hk
  cases ob with
  | dead => trivial
  | cells cs => exact ⟨hk.1, by rw [reC_bl (hg r hr)]; exact hk.2⟩
  | vec t f xs =>
   obtain ⟨f0, xs0, h1, h2, h3, h4⟩ := hk
   exact ⟨f0, xs0, h1, h2, by rw [reC_bl (hg r hr)]; exact h3, h4⟩
  | pool m => exact hk
def mvC (c : Cfg) (ρ : Nat) (ob : Ob) : Cfg :=
 { c with st := c.st.set ρ .dead ++ [ob], bl := fun r => if r = c.st.length then c.bl ρ else c.bl r }
theorem mv_rel {w0 : Base} {c : Cfg} (hr : Rel w0 c) {ρ : Nat} {t : Ty} {f : Nat} {xs : List t.den} (hs : c.st[ρ]? = some (.vec t f xs)) :
  Rel w0 (mvC c ρ (.vec t f xs)) /\ Ext c (mvC c ρ (.vec t f xs)) /\ ∀ u, RelV c (.vec ρ) u -> RelV (mvC c ρ (.vec t f xs)) (.vec c.st.length) u := by
 have hl := live_of hs (by simp)
 obtain ⟨hk1, hk2⟩ := kill_rel hr ρ
 have hblr : ∀ r, r < c.st.length -> (mvC c ρ (.vec t f xs)).bl r = c.bl r := fun r h => by simp only [mvC]; rw [if_neg (by omega)]
 have hbln : (mvC c ρ (.vec t f xs)).bl c.st.length = c.bl ρ := by simp [mvC]
 have hx2 : Ext (killC c ρ) (mvC c ρ (.vec t f xs)) := {
  size := Nat.le_refl _
  sub := fun _ _ h => h
  cells := fun _ _ _ => rfl
  len := by simp [mvC, killC]
  keep := fun r ob' hrl h => by
   simp only [killC, List.length_set] at hrl
   simp only [mvC] at h
   rw [List.getElem?_append_left (by simpa using hrl)] at h
   cases ob' with
   | dead => trivial
   | cells cs => exact ⟨⟨cs, h⟩, hblr r hrl⟩
   | pool m => exact ⟨m, h⟩
   | vec t f xs => exact ⟨f, xs, h, rfl, hblr r hrl, fun _ _ _ h => h⟩ }
 have hx : Ext c (mvC c ρ (.vec t f xs)) := hk2.trans hx2
 have hlive : ∀ r, live (mvC c ρ (.vec t f xs)).st r -> (r < c.st.length /\ r ≠ ρ /\ live c.st r /\ (mvC c ρ (.vec t f xs)).bl r = c.bl r) \/ (r = c.st.length /\ (mvC c ρ (.vec t f xs)).bl r = c.bl ρ) := by
  intro r h
  have h1 := live_lt h
  simp only [mvC, List.length_append, List.length_set, List.length_singleton] at h1
  rcases Nat.lt_or_ge r c.st.length with g | g
  · obtain ⟨ob, h2, h3⟩ := live_of' h
    simp only [mvC] at h2
    rw [List.getElem?_append_left (by simpa using g), List.getElem?_set] at h2
    split at h2
    · simp [show ρ < c.st.length from live_lt hl] at h2
      exact absurd h2.symm h3
    · next hne => exact .inl ⟨g, fun e => hne e.symm, live_of h2 h3, hblr r g⟩
  · obtain rfl : r = c.st.length := by omega
    exact .inr ⟨rfl, hbln⟩
 refine ⟨?_, hx, ?_⟩
 · exact {
    below := hr.below
    inj := fun r r' b h h' hb hb' => by
     rcases hlive r h with ⟨g, gne, g1, g2⟩ | ⟨g, g2⟩ <;> rcases hlive r' h' with ⟨k, kne, k1, k2⟩ | ⟨k, k2⟩
     · exact hr.inj r r' b g1 k1 (g2 ▸ hb) (k2 ▸ hb')
     · exact absurd (hr.inj r ρ b g1 hl (g2 ▸ hb) (k2 ▸ hb')) gne
     · exact absurd (hr.inj r' ρ b k1 hl (k2 ▸ hb') (g2 ▸ hb)) kne
     · omega
    fresh := fun r b h hb => by
     rcases hlive r h with ⟨g, _, g1, g2⟩ | ⟨g, g2⟩
     · exact hr.fresh r b g1 (g2 ▸ hb)
     · exact hr.fresh ρ b hl (g2 ▸ hb)
    pl := PoolOk.keep hr.pl (fun r m h => by
      simp only [mvC] at h
      rcases get_push h with ⟨_, h1⟩ | ⟨_, h1⟩
      · rw [List.getElem?_set] at h1
        split at h1
        · split at h1 <;> cases h1
        · exact h1
      · cases h1) (fun r b h hb => by
      rcases hlive r h with ⟨g, _, g1, g2⟩ | ⟨g, g2⟩
      · exact .inl ⟨r, g1, g2 ▸ hb⟩
      · exact .inl ⟨ρ, hl, g2 ▸ hb⟩) (fun _ _ h => .inl h) (fun _ _ _ _ => rfl)
    bound := hr.bound
    newA := hr.newA
    obj := fun r ob' h => by
     simp only [mvC] at h
     rcases get_push h with ⟨g, h1⟩ | ⟨rfl, rfl⟩
     · have hob := hk1.obj r ob' h1
       simp only [List.length_set] at g
       exact OkOb.keep hx2 (hblr r g) (fun _ _ => rfl) (fun _ _ _ h => h) hob
     · have hob := hr.obj ρ _ hs
       obtain ⟨h1, h2, h3⟩ := hob
       refine ⟨h1, h2, ?_⟩
       simp only [List.length_set]
       rw [hbln]
       exact h3 }
 · intro u hu
   simp only [RelV, hs] at hu
   simp only [RelV]
   have hst : (mvC c ρ (.vec t f xs)).st[c.st.length]? = some (.vec t f xs) := by
    simp only [mvC]
    rw [List.getElem?_append_right (by simp)]
    simp
   rw [hst, hbln]
   exact hu
theorem mv_any {w0 : Base} {c : Cfg} (hr : Rel w0 c) {ρ : Nat} {t : Ty} {f f' : Nat} {xs ys : List t.den} (hs : c.st[ρ]? = some (.vec t f xs)) (hy : OkOb c ρ (.vec t f' ys)) :
  Rel w0 (mvC c ρ (.vec t f' ys)) /\ Ext c (mvC c ρ (.vec t f' ys)) /\ (mvC c ρ (.vec t f' ys)).st[c.st.length]? = some (.vec t f' ys) /\ (mvC c ρ (.vec t f' ys)).bl c.st.length = c.bl ρ := by
 have hl := live_of hs (by simp)
 obtain ⟨hk1, hk2⟩ := kill_rel hr ρ
 have hblr : ∀ r, r < c.st.length -> (mvC c ρ (.vec t f' ys)).bl r = c.bl r := fun r h => by simp only [mvC]; rw [if_neg (by omega)]
 have hbln : (mvC c ρ (.vec t f' ys)).bl c.st.length = c.bl ρ := by simp [mvC]
 have hx2 : Ext (killC c ρ) (mvC c ρ (.vec t f' ys)) := {
  size := Nat.le_refl _
  sub := fun _ _ h => h
  cells := fun _ _ _ => rfl
  len := by simp [mvC, killC]
  keep := fun r ob' hrl h => by
   simp only [killC, List.length_set] at hrl
   simp only [mvC] at h
   rw [List.getElem?_append_left (by simpa using hrl)] at h
   cases ob' with
   | dead => trivial
   | cells cs => exact ⟨⟨cs, h⟩, hblr r hrl⟩
   | pool m => exact ⟨m, h⟩
   | vec t f xs => exact ⟨f, xs, h, rfl, hblr r hrl, fun _ _ _ h => h⟩ }
 have hx : Ext c (mvC c ρ (.vec t f' ys)) := hk2.trans hx2
 have hlive : ∀ r, live (mvC c ρ (.vec t f' ys)).st r -> (r < c.st.length /\ r ≠ ρ /\ live c.st r /\ (mvC c ρ (.vec t f' ys)).bl r = c.bl r) \/ (r = c.st.length /\ (mvC c ρ (.vec t f' ys)).bl r = c.bl ρ) := by
  intro r h
  have h1 := live_lt h
  simp only [mvC, List.length_append, List.length_set, List.length_singleton] at h1
  rcases Nat.lt_or_ge r c.st.length with g | g
  · obtain ⟨ob, h2, h3⟩ := live_of' h
    simp only [mvC] at h2
    rw [List.getElem?_append_left (by simpa using g), List.getElem?_set] at h2
    split at h2
    · simp [show ρ < c.st.length from live_lt hl] at h2
      exact absurd h2.symm h3
    · next hne => exact .inl ⟨g, fun e => hne e.symm, live_of h2 h3, hblr r g⟩
  · obtain rfl : r = c.st.length := by omega
    exact .inr ⟨rfl, hbln⟩
 refine ⟨?_, hx, ?_⟩
 · exact {
    below := hr.below
    inj := fun r r' b h h' hb hb' => by
     rcases hlive r h with ⟨g, gne, g1, g2⟩ | ⟨g, g2⟩ <;> rcases hlive r' h' with ⟨k, kne, k1, k2⟩ | ⟨k, k2⟩
     · exact hr.inj r r' b g1 k1 (g2 ▸ hb) (k2 ▸ hb')
     · exact absurd (hr.inj r ρ b g1 hl (g2 ▸ hb) (k2 ▸ hb')) gne
     · exact absurd (hr.inj r' ρ b k1 hl (k2 ▸ hb') (g2 ▸ hb)) kne
     · omega
    fresh := fun r b h hb => by
     rcases hlive r h with ⟨g, _, g1, g2⟩ | ⟨g, g2⟩
     · exact hr.fresh r b g1 (g2 ▸ hb)
     · exact hr.fresh ρ b hl (g2 ▸ hb)
    pl := PoolOk.keep hr.pl (fun r m h => by
      simp only [mvC] at h
      rcases get_push h with ⟨_, h1⟩ | ⟨_, h1⟩
      · rw [List.getElem?_set] at h1
        split at h1
        · split at h1 <;> cases h1
        · exact h1
      · cases h1) (fun r b h hb => by
      rcases hlive r h with ⟨g, _, g1, g2⟩ | ⟨g, g2⟩
      · exact .inl ⟨r, g1, g2 ▸ hb⟩
      · exact .inl ⟨ρ, hl, g2 ▸ hb⟩) (fun _ _ h => .inl h) (fun _ _ _ _ => rfl)
    bound := hr.bound
    newA := hr.newA
    obj := fun r ob' h => by
     simp only [mvC] at h
     rcases get_push h with ⟨g, h1⟩ | ⟨rfl, rfl⟩
     · have hob := hk1.obj r ob' h1
       simp only [List.length_set] at g
       exact OkOb.keep hx2 (hblr r g) (fun _ _ => rfl) (fun _ _ _ h => h) hob
     · have hob := hy
       obtain ⟨h1, h2, h3⟩ := hob
       refine ⟨h1, h2, ?_⟩
       simp only [List.length_set]
       rw [hbln]
       exact h3 }
 · refine ⟨?_, hbln⟩
   simp only [mvC]
   rw [List.getElem?_append_right (by simp)]
   simp
theorem vw_mv {w0 : Base} {c : Cfg} (hr : Rel w0 c) {ρ : Nat} {t : Ty} {xs : List t.den} (hs : c.st[ρ]? = some (.vec t 0 xs)) (n : Nat) :
  Rel w0 (mvC c ρ (.vec t 0 (xs.take n))) /\ Ext c (mvC c ρ (.vec t 0 (xs.take n))) /\ ∀ u, RelV c (.vw ρ 0 n) u -> RelV (mvC c ρ (.vec t 0 (xs.take n))) (.vec c.st.length) u := by
 have hy : OkOb c ρ (.vec t 0 (xs.take n)) := by
  obtain ⟨h1, _, ⟨h2, rfl⟩ | ⟨b, ce, e, cap, h2, h3, h4, h5, h6, h7⟩⟩ := hr.obj ρ _ hs
  · exact ⟨h1, by omega, .inl ⟨h2, by simp⟩⟩
  · refine ⟨h1, by omega, .inr ⟨b, ce, e, cap, h2, h3, h4, by rw [List.length_take]; omega, fun i y hy => ?_, h7⟩⟩
    rw [List.getElem?_take] at hy
    split at hy
    · exact h6 i y hy
    · cases hy
 obtain ⟨g1, g2, g3, g4⟩ := mv_any hr hs hy
 refine ⟨g1, g2, fun u hu => ?_⟩
 simp only [RelV, hs] at hu
 simp only [RelV, g3, g4]
 obtain ⟨hlo, ⟨h1, h2⟩ | ⟨b, cap, h1, h2, h3, h4⟩ | ⟨_, h, _⟩⟩ := hu
 · exact .inl ⟨h1, h2⟩
 · refine .inr ⟨b, cap, h1, ?_, ?_⟩
   · rw [List.length_take, Nat.min_eq_left (by omega), h2, Nat.zero_mul]
   · rw [Nat.zero_add] at h4; exact h4
 · omega
def pos (l : List Nat) (x : Nat) : Option Nat := match l with
 | [] => none
 | y :: r => if y = x then some 0 else match pos r x with
  | some k => some (k + 1)
  | none => none
theorem pos_get : ∀ {l : List Nat} {x k : Nat}, pos l x = some k -> l[k]? = some x
 | [], x, k, h => by simp [pos] at h
 | y :: r, x, k, h => by
  simp only [pos] at h
  split at h
  · next e => cases h; simp [e]
  · split at h
    · next k' hk =>
      cases h
      simpa using pos_get hk
    · cases h
mutual
def vrefs : V -> List Nat
 | .vec r => [r]
 | .vw r _ _ => [r]
 | .agg cs => vrefsL cs
 | .tup cs => vrefsL cs
 | _ => []
def vrefsL : List V -> List Nat
 | [] => []
 | v :: vs => vrefs v ++ vrefsL vs
end
mutual
def ren (l : List Nat) : V -> Option V
 | .x v => some (.x v)
 | .ro t xs => some (.ro t xs)
 | .rc cs j => if okRefs [] cs = true then some (.rc cs j) else none
 | .fn f a b => match renL l a, renL l b with
  | some a', some b' => some (.fn f a' b')
  | _, _ => none
 | .vec r => match pos l r with
  | some k => some (.vec k)
  | none => none
 | .vw r lo n => match pos l r with
  | some k => some (.vw k lo n)
  | none => none
 | .agg cs => match renL l cs with
  | some cs' => some (.agg cs')
  | none => none
 | .tup cs => match renL l cs with
  | some cs' => some (.tup cs')
  | none => none
 | .cl r i => match pos l r with
  | some k => some (.cl k i)
  | none => none
 | .any => some .any
 | .hd h => some (.hd h)
 | .pt a i => some (.pt a i)
 | _ => none
def renL (l : List Nat) : List V -> Option (List V)
 | [] => some []
 | v :: vs => match ren l v, renL l vs with
  | some v', some vs' => some (v' :: vs')
  | _, _ => none
end
mutual
theorem okRef_nil (g : List Nat) : ∀ (v : V), okRef [] v = true -> okRef g v = true
 | .any, _ | .x _, _ | .ro _ _, _ | .gd _ _ _, _ | .hd _, _ | .pt _ _, _ => by simp [okRef]
 | .rc cs j, h => by simp only [okRef] at *; exact okRefs_nil g cs h
 | .cl r i, h | .el r i _, h | .vec r, h | .vw r _ _, h => by simp [okRef] at h
 | .agg cs, h | .tup cs, h => by simp only [okRef] at *; exact okRefs_nil g cs h
 | .fn f a b, h => by
  simp only [okRef, Bool.and_eq_true] at *
  exact ⟨okRefs_nil g a h.1, okRefs_nil g b h.2⟩
theorem okRefs_nil (g : List Nat) : ∀ (vs : List V), okRefs [] vs = true -> okRefs g vs = true
 | [], _ => rfl
 | v :: vs, h => by
  simp only [okRefs, Bool.and_eq_true] at *
  exact ⟨okRef_nil g v h.1, okRefs_nil g vs h.2⟩
end
mutual
theorem ren_rel {c : Cfg} {l : List Nat} : ∀ (v v' : V) (u : Value), ren l v = some v' -> RelV c v u -> RelV (reC c l) v' u
 | .any, v', u, h, _ => by simp only [ren, Option.some.injEq] at h; subst h; simp only [RelV]
 | .x x, v', u, h, hr => by simp only [ren, Option.some.injEq] at h; subst h; simpa only [RelV] using hr
 | .ro t xs, v', u, h, hr => by simp only [ren, Option.some.injEq] at h; subst h; exact RelV.re (.ro t xs) u rfl hr
 | .rc cs j, v', u, h, hr => by
  simp only [ren] at h
  split at h
  · next hk => cases h; exact RelV.re (.rc cs j) u (okRef_nil l _ hk) hr
  · cases h
 | .fn f a b, v', u, h, hr => by
  simp only [ren] at h
  split at h
  · next a' b' e1 e2 =>
    cases h
    simp only [RelV] at *
    obtain ⟨us1, us2, e, h1, h2⟩ := hr
    exact ⟨us1, us2, e, renL_rel a a' _ e1 h1, renL_rel b b' _ e2 h2⟩
  · cases h
 | .vec r, v', u, h, hr => by
  have hsh := vec_shape hr
  simp only [ren] at h
  split at h
  · next k hk =>
    cases h
    have hg := pos_get hk
    simp only [RelV] at hr ⊢
    rw [reC_st hg]
    cases hs : c.st[r]? with
    | none => rw [hs] at hr; exact hr.elim
    | some ob =>
     rw [hs] at hr
     simp only [List.getD_eq_getElem?_getD, hs, Option.getD_some]
     cases ob with
     | vec t f xs => rw [reC_bl hg]; exact hr
     | _ => exact hsh
  · cases h
 | .vw r lo n, v', u, h, hr => by
  have hsh := vw_shape hr
  simp only [ren] at h
  split at h
  · next k hk =>
    cases h
    have hg := pos_get hk
    simp only [RelV] at hr ⊢
    rw [reC_st hg]
    cases hs : c.st[r]? with
    | none => rw [hs] at hr; exact hr.elim
    | some ob =>
     rw [hs] at hr
     simp only [List.getD_eq_getElem?_getD, hs, Option.getD_some]
     cases ob with
     | vec t f xs => rw [reC_bl hg]; exact hr
     | _ => exact hsh
  · cases h
 | .agg cs, v', u, h, hr => by
  simp only [ren] at h
  split at h
  · next cs' hk =>
    cases h
    simp only [RelV] at *
    obtain ⟨us, e, h1⟩ := hr
    exact ⟨us, e, renL_rel cs cs' _ hk h1⟩
  · cases h
 | .tup cs, v', u, h, hr => by
  simp only [ren] at h
  split at h
  · next cs' hk =>
    cases h
    simp only [RelV] at *
    obtain ⟨us, e, h1⟩ := hr
    exact ⟨us, e, renL_rel cs cs' _ hk h1⟩
  · cases h
 | .cl r i, v', u, h, hr => by
  have hsh := cl_shape hr
  simp only [ren] at h
  split at h
  · next k hk =>
    cases h
    have hg := pos_get hk
    simp only [RelV] at hr ⊢
    rw [reC_st hg]
    cases hs : c.st[r]? with
    | none => rw [hs] at hr; exact hr.elim
    | some ob =>
     rw [hs] at hr
     simp only [List.getD_eq_getElem?_getD, hs, Option.getD_some]
     cases ob with
     | cells cs =>
      obtain ⟨b, hb, e⟩ := hr
      exact ⟨b, by rw [reC_bl hg]; exact hb, e⟩
     | _ => exact hsh
  · cases h
 | .el _ _ _, v', u, h, _ => by simp [ren] at h
 | .gd _ _ _, v', u, h, _ => by simp [ren] at h
 | .hd x, v', u, h, hr => by simp only [ren, Option.some.injEq] at h; subst h; simpa only [RelV] using hr
 | .pt a i, v', u, h, hr => by simp only [ren, Option.some.injEq] at h; subst h; simpa only [RelV] using hr
theorem renL_rel {c : Cfg} {l : List Nat} : ∀ (vs vs' : List V) (us : List Value), renL l vs = some vs' -> RelVs c vs us -> RelVs (reC c l) vs' us
 | [], vs', us, h, hr => by simp only [renL, Option.some.injEq] at h; subst h; simpa only [RelVs] using hr
 | v :: vs, vs', us, h, hr => by
  simp only [renL] at h
  split at h
  · next v1 vs1 e1 e2 =>
    cases h
    simp only [RelVs] at *
    obtain ⟨u, us', e, h1, h2⟩ := hr
    exact ⟨u, us', e, ren_rel v v1 u e1 h1, renL_rel vs vs1 us' e2 h2⟩
  · cases h
end
mutual
def names : V -> List Nat
 | .rc cs _ => namesL cs
 | .cl r _ => [r]
 | .el r _ _ => [r]
 | .vec r => [r]
 | .vw r _ _ => [r]
 | .agg cs => namesL cs
 | .tup cs => namesL cs
 | .fn _ a b => namesL a ++ namesL b
 | _ => []
def namesL : List V -> List Nat
 | [] => []
 | v :: vs => names v ++ namesL vs
end
def namesO : Ob -> List Nat
 | .cells cs => namesL cs
 | _ => []
def has (l : List Nat) (x : Nat) : Bool := match l with
 | [] => false
 | y :: r => Nat.beq y x || has r x
def addN : List Nat -> List Nat -> List Nat
 | l, [] => l
 | l, x :: r => addN (bif has l x then l else l ++ [x]) r
def reach (st : List Ob) : Nat -> List Nat -> List Nat
 | 0, l => l
 | n + 1, l => reach st n (addN l (l.flatMap fun i => namesO (st.getD i .dead)))
mutual
def renD (l : List Nat) : V -> Option V
 | .any => some .any
 | .x v => some (.x v)
 | .ro t xs => some (.ro t xs)
 | .rc cs j => match renDL l cs with
  | some cs' => some (.rc cs' j)
  | none => none
 | .cl r i => match pos l r with
  | some k => some (.cl k i)
  | none => none
 | .el r i j => match pos l r with
  | some k => some (.el k i j)
  | none => none
 | .vec r => match pos l r with
  | some k => some (.vec k)
  | none => none
 | .vw r lo n => match pos l r with
  | some k => some (.vw k lo n)
  | none => none
 | .agg cs => match renDL l cs with
  | some cs' => some (.agg cs')
  | none => none
 | .tup cs => match renDL l cs with
  | some cs' => some (.tup cs')
  | none => none
 | .fn f a b => match renDL l a, renDL l b with
  | some a', some b' => some (.fn f a' b')
  | _, _ => none
 | .gd _ _ _ => none
 | .hd h => some (.hd h)
 | .pt a i => some (.pt a i)
def renDL (l : List Nat) : List V -> Option (List V)
 | [] => some []
 | v :: vs => match renD l v, renDL l vs with
  | some v', some vs' => some (v' :: vs')
  | _, _ => none
end
def renO (l : List Nat) : Ob -> Ob
 | .cells cs => match renDL l cs with
  | some cs' => .cells cs'
  | none => .dead
 | ob => ob
def reD (c : Cfg) (g : List Nat) : Cfg :=
 { c with st := g.map (fun i => renO g (c.st.getD i .dead)), bl := fun r => match g[r]? with | some i => c.bl i | none => none }
theorem reD_st {c : Cfg} {g : List Nat} {r i : Nat} (h : g[r]? = some i) : (reD c g).st[r]? = some (renO g (c.st.getD i .dead)) := by
 simp [reD, h]
theorem reD_bl {c : Cfg} {g : List Nat} {r i : Nat} (h : g[r]? = some i) : (reD c g).bl r = c.bl i := by
 simp [reD, h]
theorem getD_of {st : List Ob} {i : Nat} {ob : Ob} (h : st[i]? = some ob) : st.getD i .dead = ob := by
 simp [List.getD, h]
mutual
theorem renD_rel {c : Cfg} {l : List Nat} : ∀ (v v' : V) (u : Value), renD l v = some v' -> RelV c v u -> RelV (reD c l) v' u
 | .any, v', u, h, _ => by simp only [renD, Option.some.injEq] at h; subst h; simp only [RelV]
 | .x v, v', u, h, hr => by simp only [renD, Option.some.injEq] at h; subst h; simpa only [RelV] using hr
 | .ro t xs, v', u, h, hr => by
  simp only [renD, Option.some.injEq] at h; subst h
  simp only [RelV] at *
  exact hr
 | .rc cs j, v', u, h, hr => by
  simp only [renD] at h
  split at h
  · next cs' hk =>
    cases h
    simp only [RelV] at *
    obtain ⟨b, o, e, hc⟩ := hr
    obtain ⟨us, h1, h2⟩ := RelC.list hc
    exact ⟨b, o, e, RelC.mk (renDL_rel cs cs' us hk h1) h2⟩
  · cases h
 | .cl r i, v', u, h, hr => by
  have hsh := cl_shape hr
  simp only [renD] at h
  split at h
  · next k hk =>
    cases h
    have hg := pos_get hk
    simp only [RelV] at hr ⊢
    rw [reD_st hg, reD_bl hg]
    cases hs : c.st[r]? with
    | none => rw [hs] at hr; exact hr.elim
    | some ob =>
     rw [hs] at hr
     rw [getD_of hs]
     cases ob with
     | cells cs =>
      simp only [renO]
      split
      · next e => split at e <;> cases e
      · next e => exact hr
      · exact hsh
     | _ => exact hsh
  · cases h
 | .el r i j, v', u, h, hr => by
  have hsh := el_shape hr
  simp only [renD] at h
  split at h
  · next k hk =>
    cases h
    have hg := pos_get hk
    simp only [RelV] at hr ⊢
    rw [reD_st hg, reD_bl hg]
    cases hs : c.st[r]? with
    | none => rw [hs] at hr; exact hr.elim
    | some ob =>
     rw [hs] at hr
     rw [getD_of hs]
     cases ob with
     | cells cs =>
      simp only [renO]
      split
      · next e => split at e <;> cases e
      · next e => split at e <;> cases e
      · exact hr
      · exact hsh
     | dead => exact hsh
     | pool m => exact hsh
     | vec t f xs => exact hr
  · cases h
 | .vec r, v', u, h, hr => by
  have hsh := vec_shape hr
  simp only [renD] at h
  split at h
  · next k hk =>
    cases h
    have hg := pos_get hk
    simp only [RelV] at hr ⊢
    rw [reD_st hg, reD_bl hg]
    cases hs : c.st[r]? with
    | none => rw [hs] at hr; exact hr.elim
    | some ob =>
     rw [hs] at hr
     rw [getD_of hs]
     cases ob with
     | cells cs =>
      simp only [renO]
      split
      · next e => split at e <;> cases e
      · next e => split at e <;> cases e
      · exact hsh
     | dead => exact hsh
     | pool m => exact hsh
     | vec t f xs => exact hr
  · cases h
 | .vw r lo n, v', u, h, hr => by
  have hsh := vw_shape hr
  simp only [renD] at h
  split at h
  · next k hk =>
    cases h
    have hg := pos_get hk
    simp only [RelV] at hr ⊢
    rw [reD_st hg, reD_bl hg]
    cases hs : c.st[r]? with
    | none => rw [hs] at hr; exact hr.elim
    | some ob =>
     rw [hs] at hr
     rw [getD_of hs]
     cases ob with
     | cells cs =>
      simp only [renO]
      split
      · next e => split at e <;> cases e
      · next e => split at e <;> cases e
      · exact hsh
     | dead => exact hsh
     | pool m => exact hsh
     | vec t f xs => exact hr
  · cases h
 | .agg cs, v', u, h, hr => by
  simp only [renD] at h
  split at h
  · next cs' hk =>
    cases h
    simp only [RelV] at *
    obtain ⟨us, e, h1⟩ := hr
    exact ⟨us, e, renDL_rel cs cs' _ hk h1⟩
  · cases h
 | .tup cs, v', u, h, hr => by
  simp only [renD] at h
  split at h
  · next cs' hk =>
    cases h
    simp only [RelV] at *
    obtain ⟨us, e, h1⟩ := hr
    exact ⟨us, e, renDL_rel cs cs' _ hk h1⟩
  · cases h
 | .fn f a b, v', u, h, hr => by
  simp only [renD] at h
  split at h
  · next a' b' ha hb =>
    cases h
    simp only [RelV] at *
    obtain ⟨us1, us2, e, h1, h2⟩ := hr
    exact ⟨us1, us2, e, renDL_rel a a' _ ha h1, renDL_rel b b' _ hb h2⟩
  · cases h
 | .gd _ _ _, v', u, h, _ => by simp [renD] at h
 | .hd x, v', u, h, hr => by simp only [renD, Option.some.injEq] at h; subst h; simpa only [RelV] using hr
 | .pt a i, v', u, h, hr => by simp only [renD, Option.some.injEq] at h; subst h; simpa only [RelV] using hr
theorem renDL_rel {c : Cfg} {l : List Nat} : ∀ (vs vs' : List V) (us : List Value), renDL l vs = some vs' -> RelVs c vs us -> RelVs (reD c l) vs' us
 | [], vs', us, h, hr => by simp only [renDL, Option.some.injEq] at h; subst h; simpa only [RelVs] using hr
 | v :: vs, vs', us, h, hr => by
  simp only [renDL] at h
  split at h
  · next v1 vs1 e1 e2 =>
    cases h
    simp only [RelVs] at *
    obtain ⟨u, us', e, h1, h2⟩ := hr
    exact ⟨u, us', e, renD_rel v v1 u e1 h1, renDL_rel vs vs1 us' e2 h2⟩
  · cases h
end
theorem live_ren {g : List Nat} {ob : Ob} (h : renO g ob ≠ .dead) : ob ≠ .dead := by
 rintro rfl
 exact h rfl
theorem reD_live {c : Cfg} {g : List Nat} {r : Nat} (h : live (reD c g).st r) : ∃ i, g[r]? = some i /\ live c.st i /\ (reD c g).bl r = c.bl i := by
 obtain ⟨ob, h1, h2⟩ := live_of' h
 cases hg : g[r]? with
 | none => simp [reD, hg] at h1
 | some i =>
  rw [reD_st hg] at h1
  simp only [Option.some.injEq] at h1
  have h3 := live_ren (h1 ▸ h2)
  cases hs : c.st[i]? with
  | none => simp [List.getD, hs] at h3
  | some ob' =>
   rw [getD_of hs] at h3
   exact ⟨i, rfl, live_of hs h3, reD_bl hg⟩
theorem reD_obj {c : Cfg} {g : List Nat} (hobj : ∀ r ob, c.st[r]? = some ob -> OkOb c r ob) : ∀ r ob, (reD c g).st[r]? = some ob -> OkOb (reD c g) r ob := by
 intro r ob h
 cases hg : g[r]? with
 | none => simp [reD, hg] at h
 | some i =>
  rw [reD_st hg] at h
  simp only [Option.some.injEq] at h
  subst h
  cases hs : c.st[i]? with
  | none => simp [List.getD, hs, renO, OkOb]
  | some ob' =>
   rw [getD_of hs]
   have ho := hobj i _ hs
   cases ob' with
   | dead => trivial
   | cells cs =>
    simp only [renO]
    split
    · next cs' hk =>
      obtain ⟨b, ce, e, h1, h2, h3, h4⟩ := ho
      exact ⟨b, ce, e, by rw [reD_bl hg]; exact h1, h2, renDL_rel cs cs' _ hk h3, h4⟩
    · trivial
   | vec t f xs =>
    obtain ⟨h1, h2, h3⟩ := ho
    refine ⟨h1, h2, ?_⟩
    rw [reD_bl hg]
    exact h3
   | pool m => exact (reD_bl hg).trans ho
theorem reD_rel {w0 : Base} {c : Cfg} (hr : Rel w0 c) {g : List Nat} (hd : distinct g = true) : Rel w0 (reD c g) where
 below := hr.below
 inj := fun r r' b h h' hb hb' => by
  obtain ⟨i, g1, g2, g3⟩ := reD_live h
  obtain ⟨i', k1, k2, k3⟩ := reD_live h'
  have := hr.inj i i' b g2 k2 (g3 ▸ hb) (k3 ▸ hb')
  subst this
  exact distinct_inj hd g1 k1
 fresh := fun r b h hb => by
  obtain ⟨i, g1, g2, g3⟩ := reD_live h
  exact hr.fresh i b g2 (g3 ▸ hb)
 bound := hr.bound
 newA := hr.newA
 obj := reD_obj hr.obj
 pl := PoolOk.ren hr.pl rfl (fun _ _ h => h) hd (fun r m h => by
   cases hg : g[r]? with
   | none => simp [reD, hg] at h
   | some i =>
    rw [reD_st hg] at h
    refine ⟨i, rfl, ?_⟩
    cases hs : c.st[i]? with
    | none => simp [List.getD, hs, renO] at h
    | some ob' =>
     rw [getD_of hs] at h
     cases ob' with
     | cells cs => simp only [renO] at h; split at h <;> cases h
     | dead => cases h
     | vec t f xs => cases h
     | pool m' => exact h) (fun r b h hb => by
   obtain ⟨i, _, g2, g3⟩ := reD_live h
   exact ⟨i, g2, g3 ▸ hb⟩)
theorem renO_cells {g : List Nat} {ob : Ob} {cs : List V} (h : renO g ob = .cells cs) : ∃ cs', ob = .cells cs' := by
 cases ob with
 | cells cs' => exact ⟨cs', rfl⟩
 | dead => cases h
 | vec t f xs => cases h
 | pool m => cases h
theorem renO_vec {g : List Nat} {ob : Ob} {t : Ty} {f : Nat} {xs : List t.den} (h : renO g ob = .vec t f xs) : ob = .vec t f xs := by
 cases ob with
 | cells cs' =>
  simp only [renO] at h
  split at h <;> cases h
 | dead => cases h
 | pool m => cases h
 | vec t f xs => exact h
theorem renO_pool {g : List Nat} {ob : Ob} {m : Pool} (h : renO g ob = .pool m) : ob = .pool m := by
 cases ob with
 | cells cs' =>
  simp only [renO] at h
  split at h <;> cases h
 | dead => cases h
 | vec t f xs => cases h
 | pool m' => exact h
theorem reD_ext {cb c : Cfg} (hx : Ext cb c) {g : List Nat} (hg : ∀ r, r < cb.st.length -> g[r]? = some r) : Ext cb (reD c g) where
 size := hx.size
 sub := hx.sub
 cells := hx.cells
 len := by
  simp only [reD, List.length_map]
  rcases Nat.eq_zero_or_pos cb.st.length with h | h
  · omega
  · have := hg (cb.st.length - 1) (by omega)
    have := (List.getElem?_eq_some_iff.1 this).1
    omega
 keep := fun r ob hr h => by
  rw [reD_st (hg r hr)] at h
  have hl := hx.len
  have hs : c.st[r]? = some (c.st[r]'(by omega)) := List.getElem?_eq_getElem (by omega)
  rw [getD_of hs] at h
  simp only [Option.some.injEq] at h
  have hk := hx.keep r _ hr hs
  cases ob with
  | dead => trivial
  | cells cs =>
   obtain ⟨cs', e⟩ := renO_cells h
   rw [e] at hk
   exact ⟨hk.1, by rw [reD_bl (hg r hr)]; exact hk.2⟩
  | vec t f xs =>
   have e := renO_vec h
   rw [e] at hk
   obtain ⟨f0, xs0, h1, h2, h3, h4⟩ := hk
   exact ⟨f0, xs0, h1, h2, by rw [reD_bl (hg r hr)]; exact h3, h4⟩
  | pool m =>
   have e := renO_pool h
   rw [e] at hk
   exact hk
abbrev St := List V -> List Ob -> Prop
inductive Rs where
 | any
 | sl (t : Ty)
 | mv (t : Ty)
 | ro (t : Ty)
 | vw
 | hd
 | agg (l : List Rs)
 | tup (l : List Rs)
mutual
def ownR : Rs -> V -> List Ob -> V × List Ob
 | .sl t, v, st => (match v with
  | .x (.slice none 0 0) => if 0 < t.size then (.vec st.length, st ++ [.vec t 0 []]) else (v, st)
  | .vw r 0 n => (match st[r]? with
   | some (.vec τ 0 xs) => (.vec st.length, st.set r .dead ++ [.vec τ 0 (xs.take n)])
   | _ => (v, st))
  | _ => (v, st))
 | .mv t, v, st => (match v with
  | .x (.slice none 0 0) => if 0 < t.size then (.vec st.length, st ++ [.vec t 0 []]) else (v, st)
  | .vec r => (match st[r]? with
   | some (.vec τ f xs) => (.vec st.length, st.set r .dead ++ [.vec τ f xs])
   | _ => (v, st))
  | .vw r 0 n => (match st[r]? with
   | some (.vec τ 0 xs) => (.vec st.length, st.set r .dead ++ [.vec τ 0 (xs.take n)])
   | _ => (v, st))
  | _ => (v, st))
 | .ro t, v, st => (match v with
  | .x (.slice none 0 0) => (.ro t [], st)
  | .vec r => (match st[r]? with
   | some (.vec τ _ xs) => (.ro τ xs, st.set r (.vec τ xs.length xs))
   | _ => (v, st))
  | .vw r lo n => (match st[r]? with
   | some (.vec τ _ xs) => (.ro τ ((xs.drop lo).take n), st.set r (.vec τ xs.length xs))
   | _ => (v, st))
  | _ => (v, st))
 | .vw, v, st => (match v with
  | .vec r => (match st[r]? with
   | some (.vec _ _ xs) => (.vw r 0 xs.length, st)
   | _ => (v, st))
  | _ => (v, st))
 | .hd, v, st => (match v with
  | .x (.slice none 0 0) => (.hd Hd.nil, st)
  | _ => (v, st))
 | .agg l, v, st => (match v with
  | .agg cs => (match ownRs l cs st with | (cs', st') => (.agg cs', st'))
  | _ => (v, st))
 | .tup l, v, st => (match v with
  | .tup cs => (match ownRs l cs st with | (cs', st') => (.tup cs', st'))
  | _ => (v, st))
 | .any, v, st => (v, st)
def ownRs : List Rs -> List V -> List Ob -> List V × List Ob
 | [], l, st => (l, st)
 | s :: r, l, st => (match l with
  | v :: vs => (match ownR s v st with | (v', st') => (match ownRs r vs st' with | (vs', st'') => (v' :: vs', st'')))
  | [] => ([], st))
end
mutual
theorem ownR_sound {w0 : Base} : ∀ (s : Rs) (v : V) (c : Cfg), Rel w0 c -> ∃ c', c'.w = c.w /\ c'.st = (ownR s v c.st).2 /\ Rel w0 c' /\ Ext c c' /\ ∀ u, RelV c v u -> RelV c' (ownR s v c.st).1 u
 | .any, v, c, hr => ⟨c, rfl, by simp only [ownR], hr, Ext.refl c, fun u h => by simpa only [ownR] using h⟩
 | .sl t, v, c, hr => by
  have same : ∃ c', c'.w = c.w /\ c'.st = c.st /\ Rel w0 c' /\ Ext c c' /\ ∀ u, RelV c v u -> RelV c' v u := ⟨c, rfl, rfl, hr, Ext.refl c, fun u h => h⟩
  simp only [ownR]
  split
  · split
    · next ht =>
      obtain ⟨h1, h2⟩ := ghost_rel hr ht
      refine ⟨ghostC c t, rfl, rfl, h1, h2, fun u h => ?_⟩
      simp only [RelV] at h
      simp only [RelV, ghostC]
      rw [List.getElem?_append_right (Nat.le_refl _)]
      simp [h]
    · exact same
  · next r n =>
    split
    · next τ xs hst =>
      obtain ⟨h1, h2, h3⟩ := vw_mv hr hst n
      exact ⟨mvC c r (.vec τ 0 (xs.take n)), rfl, rfl, h1, h2, h3⟩
    · exact same
  · exact same
 | .mv t, v, c, hr => by
  have same : ∃ c', c'.w = c.w /\ c'.st = c.st /\ Rel w0 c' /\ Ext c c' /\ ∀ u, RelV c v u -> RelV c' v u := ⟨c, rfl, rfl, hr, Ext.refl c, fun u h => h⟩
  simp only [ownR]
  split
  · split
    · next ht =>
      obtain ⟨h1, h2⟩ := ghost_rel hr ht
      refine ⟨ghostC c t, rfl, rfl, h1, h2, fun u h => ?_⟩
      simp only [RelV] at h
      simp only [RelV, ghostC]
      rw [List.getElem?_append_right (Nat.le_refl _)]
      simp [h]
    · exact same
  · next r =>
    split
    · next τ f xs hst =>
      obtain ⟨h1, h2, h3⟩ := mv_rel hr hst
      exact ⟨mvC c r (.vec τ f xs), rfl, rfl, h1, h2, h3⟩
    · exact same
  · next r n =>
    split
    · next τ xs hst =>
      obtain ⟨h1, h2, h3⟩ := vw_mv hr hst n
      exact ⟨mvC c r (.vec τ 0 (xs.take n)), rfl, rfl, h1, h2, h3⟩
    · exact same
  · exact same
 | .ro t, v, c, hr => by
  have same : ∃ c', c'.w = c.w /\ c'.st = c.st /\ Rel w0 c' /\ Ext c c' /\ ∀ u, RelV c v u -> RelV c' v u := ⟨c, rfl, rfl, hr, Ext.refl c, fun u h => h⟩
  simp only [ownR]
  split
  · refine ⟨c, rfl, rfl, hr, Ext.refl c, fun u h => ?_⟩
    simp only [RelV] at h ⊢
    subst h
    simp [RoV, SlV]
  · next r =>
    split
    · next τ f xs hst =>
      obtain ⟨g1, g2, g3⟩ := frz_rel hr hst
      exact ⟨frzC c r τ xs, rfl, rfl, g1, g2, g3⟩
    · exact same
  · next r lo n =>
    split
    · next τ f xs hst =>
      obtain ⟨g1, g2, _⟩ := frz_rel hr hst
      exact ⟨frzC c r τ xs, rfl, rfl, g1, g2, fun u hu => vw_frz hr hst hu⟩
    · exact same
  · exact same
 | .vw, v, c, hr => by
  have same : ∃ c', c'.w = c.w /\ c'.st = c.st /\ Rel w0 c' /\ Ext c c' /\ ∀ u, RelV c v u -> RelV c' v u := ⟨c, rfl, rfl, hr, Ext.refl c, fun u h => h⟩
  simp only [ownR]
  split
  · next r =>
    split
    · next τ f xs hst =>
      refine ⟨c, rfl, rfl, hr, Ext.refl c, fun u h => ?_⟩
      simp only [RelV, hst] at h ⊢
      refine ⟨by omega, ?_⟩
      rcases h with h | ⟨b, cap, h1, h2, h3⟩
      · exact .inl h
      · obtain ⟨hp, _, ⟨hn, _⟩ | ⟨b', ce, e, cap', g1, g2, g3, g4, _⟩⟩ := hr.obj r _ hst
        · rw [hn] at h1; cases h1
        rw [g1] at h1; cases h1
        have hcap : cap = cap' := by
         obtain ⟨ce', e', fz, k1, k2⟩ := h3
         rw [g2] at k1; cases k1
         exact Nat.eq_of_mul_eq_mul_right hp (by omega)
        exact .inr (.inl ⟨b, cap, g1, by rw [Nat.zero_mul]; exact h2, by omega, by rw [Nat.zero_add]; exact h3⟩)
    · exact same
  · exact same
 | .hd, v, c, hr => by
  simp only [ownR]
  split
  · refine ⟨c, rfl, rfl, hr, Ext.refl c, fun u h => ?_⟩
    simp only [RelV] at h ⊢
    exact h
  · exact ⟨c, rfl, rfl, hr, Ext.refl c, fun u h => h⟩
 | .agg l, v, c, hr => by
  simp only [ownR]
  split
  · next cs =>
    obtain ⟨c', h1, h2, h3, h4, h5⟩ := ownRs_sound l cs c hr
    refine ⟨c', h1, h2, h3, h4, fun u h => ?_⟩
    simp only [RelV] at h ⊢
    obtain ⟨us, e, h⟩ := h
    exact ⟨us, e, h5 _ h⟩
  · exact ⟨c, rfl, rfl, hr, Ext.refl c, fun u h => h⟩
 | .tup l, v, c, hr => by
  simp only [ownR]
  split
  · next cs =>
    obtain ⟨c', h1, h2, h3, h4, h5⟩ := ownRs_sound l cs c hr
    refine ⟨c', h1, h2, h3, h4, fun u h => ?_⟩
    simp only [RelV] at h ⊢
    obtain ⟨us, e, h⟩ := h
    exact ⟨us, e, h5 _ h⟩
  · exact ⟨c, rfl, rfl, hr, Ext.refl c, fun u h => h⟩
theorem ownRs_sound {w0 : Base} : ∀ (ss : List Rs) (l : List V) (c : Cfg), Rel w0 c -> ∃ c', c'.w = c.w /\ c'.st = (ownRs ss l c.st).2 /\ Rel w0 c' /\ Ext c c' /\ ∀ us, RelVs c l us -> RelVs c' (ownRs ss l c.st).1 us
 | [], l, c, hr => ⟨c, rfl, by simp only [ownRs], hr, Ext.refl c, fun u h => by simpa only [ownRs] using h⟩
 | s :: r, l, c, hr => by
  simp only [ownRs]
  split
  · next v vs =>
    obtain ⟨c1, h1, h2, h3, h4, h5⟩ := ownR_sound s v c hr
    obtain ⟨c2, k1, k2, k3, k4, k5⟩ := ownRs_sound r vs c1 h3
    rw [h2] at k2 k5
    refine ⟨c2, k1.trans h1, k2, k3, h4.trans k4, fun us h => ?_⟩
    simp only [RelVs] at h ⊢
    obtain ⟨u, us', e, g1, g2⟩ := h
    exact ⟨u, us', e, RelV.ext k4 _ _ (h5 u g1), k5 _ (RelVs.ext h4 _ _ g2)⟩
  · exact ⟨c, rfl, rfl, hr, Ext.refl c, fun u h => h⟩
end
def mvR (s : Rs) (v : V) (st : List Ob) : V × List Ob := match s with
 | .sl t => ownR (.mv t) v st
 | s => ownR s v st
def MSound (m : Rs -> V -> List Ob -> V × List Ob) : Prop :=
 ∀ (w0 : Base) (s : Rs) (v : V) (c : Cfg), Rel w0 c -> ∃ c', c'.w = c.w /\ c'.st = (m s v c.st).2 /\ Rel w0 c' /\ Ext c c' /\ ∀ u, RelV c v u -> RelV c' (m s v c.st).1 u
theorem ownR_ms : MSound ownR := fun _ s v c hr => ownR_sound s v c hr
theorem mvR_ms : MSound mvR := by
 intro w0 s v c hr
 unfold mvR
 split
 · exact ownR_sound _ _ c hr
 · exact ownR_sound _ _ c hr
theorem setSlot_rel {c : Cfg} {sl : List V} {tmps : Array Value} (h : SlR c sl tmps) (hg : GdIn [] sl) {s : Nat} {v : V} (hv : RelV c v (tmps.getD s undef)) (hn : ∀ g w x, v ≠ .gd g w x) :
  SlR c (sl.set s v) tmps /\ GdIn [] (sl.set s v) := by
 refine ⟨⟨by simp; exact h.len, fun t => ?_⟩, fun t g w x e => ?_⟩
 · have hs := h.slot t
   unfold SlotR at hs ⊢
   rw [getD_set]
   by_cases hc : s = t /\ s < sl.length
   · rw [if_pos hc]
     obtain ⟨rfl, _⟩ := hc
     split
     · next g w x => exact absurd rfl (hn g w x)
     · exact hv
   · rw [if_neg hc]
     exact hs
 · rw [getD_set] at e
   split at e
   · exact absurd e (hn g w x)
   · exact hg t g w x e
theorem slot_plain {c : Cfg} {sl : List V} {tmps : Array Value} (h : SlR c sl tmps) (hg : GdIn [] sl) (t : Nat) : RelV c (sl.getD t .any) (tmps.getD t undef) := by
 have hs := h.slot t
 unfold SlotR at hs
 split at hs
 · next g w v e => exact absurd (hg t g w v e) (by simp)
 · exact hs
def coS (m : Rs -> V -> List Ob -> V × List Ob) : List (Nat × Rs) -> List V -> List Ob -> List V × List Ob
 | [], sl, st => (sl, st)
 | (s, r) :: l, sl, st => match m r (sl.getD s .any) st with
  | (v, st') => coS m l (sl.set s (nogd v)) st'
theorem coS_sound {m : Rs -> V -> List Ob -> V × List Ob} (hm : MSound m) {w0 : Base} {cb : Cfg} {tmps : Array Value} : ∀ (vs : List (Nat × Rs)) (c : Cfg) (sl : List V), Rel w0 c -> Ext cb c -> SlR c sl tmps -> GdIn [] sl ->
  ∃ c', c'.w = c.w /\ c'.st = (coS m vs sl c.st).2 /\ Rel w0 c' /\ Ext cb c' /\ SlR c' (coS m vs sl c.st).1 tmps /\ GdIn [] (coS m vs sl c.st).1
 | [], c, sl, hr, hx, hs, hg => ⟨c, rfl, rfl, hr, hx, hs, hg⟩
 | (s, r) :: l, c, sl, hr, hx, hs, hg => by
  obtain ⟨c1, h1, h2, h3, h4, h5⟩ := hm w0 r (sl.getD s .any) c hr
  simp only [coS]
  have hv := nogd_rel (h5 _ (slot_plain hs hg s))
  obtain ⟨k1, k2⟩ := setSlot_rel (s := s) (SlR.ext h4 hs) hg hv (fun _ _ _ => nogd_ne)
  obtain ⟨c2, g1, g2, g3, g4, g5, g6⟩ := coS_sound hm l c1 _ h3 (hx.trans h4) k1 k2
  rw [h2] at g2 g5 g6
  exact ⟨c2, g1.trans h1, g2, g3, g4, g5, g6⟩
theorem getD_get {l : List V} {i : Nat} {v : V} (h : l[i]? = some v) : l.getD i .any = v := by
 rw [List.getD_eq_getElem?_getD, h]; rfl
theorem setcell_rel {w0 : Base} {c c1 : Cfg} (hr : Rel w0 c) (hr1 : Rel w0 c1) (hx : Ext c c1) (hw : c1.w = c.w) {o i : Nat} {cs cs1 : List V} {v : V} (h0 : c.st[o]? = some (.cells cs)) (h1 : c1.st[o]? = some (.cells cs1))
  (hv : ∀ u, RelV c (cs.getD i .any) u -> RelV c1 v u) : Rel w0 { c1 with st := c1.st.set o (.cells (cs1.set i v)) } /\ Ext c1 { c1 with st := c1.st.set o (.cells (cs1.set i v)) } := by
 have hlt : o < c1.st.length := (List.getElem?_eq_some_iff.1 h1).1
 have hlt0 : o < c.st.length := (List.getElem?_eq_some_iff.1 h0).1
 have hx2 : Ext c1 { c1 with st := c1.st.set o (.cells (cs1.set i v)) } := {
  size := Nat.le_refl _
  sub := fun _ _ h => h
  cells := fun _ _ _ => rfl
  len := by simp
  keep := fun r ob hr' h => by
   simp only [List.getElem?_set] at h
   split at h
   · next e =>
     subst e
     cases h
     exact ⟨⟨cs1, h1⟩, rfl⟩
   · cases ob with
     | dead => trivial
     | cells cs2 => exact ⟨⟨_, h⟩, rfl⟩
     | pool m => exact ⟨m, h⟩
     | vec t f xs => exact ⟨f, xs, h, rfl, rfl, fun _ _ _ h => h⟩ }
 have hlive : ∀ r, live (c1.st.set o (.cells (cs1.set i v))) r -> live c1.st r := fun r h => by
  unfold live at h ⊢
  rw [List.getElem?_set] at h
  by_cases e : o = r
  · subst e; rw [h1]; trivial
  · rw [if_neg e] at h; exact h
 refine ⟨⟨hr1.below, fun r r' b h h' hb hb' => hr1.inj r r' b (hlive r h) (hlive r' h') hb hb', fun r b h hb => hr1.fresh r b (hlive r h) hb, hr1.bound, hr1.newA, fun r ob h => ?_, PoolOk.keep hr1.pl (fun r m h => by
  simp only [List.getElem?_set] at h
  split at h
  · cases h
  · exact h) (fun r b h hb => .inl ⟨r, hlive r h, hb⟩) (fun _ _ h => .inl h) (fun _ _ _ _ => rfl)⟩, hx2⟩
 simp only [List.getElem?_set] at h
 split at h
 · next e =>
   subst e
   cases h
   obtain ⟨b, ce, e1, g1, g2, g3, g4⟩ := hr1.obj o _ h1
   obtain ⟨b', ce', e', k1, k2, k3, k4⟩ := hr.obj o _ h0
   have hbl : c1.bl o = c.bl o := (hx.keep o _ hlt0 h1).2
   rw [hbl, k1] at g1
   cases g1
   rw [hw, k2] at g2
   cases g2
   refine ⟨b, ce, e1, by rw [<- k1, <- hbl], by rw [<- k2, <- hw], ?_, g4⟩
   refine RelVs.ext hx2 _ _ ?_
   rcases Nat.lt_or_ge i cs.length with hi | hi
   · obtain ⟨u, hu, hru⟩ := RelVs.get k3 (List.getElem?_eq_getElem hi)
     have hvu : RelV c1 v u := hv u (by rw [getD_get (List.getElem?_eq_getElem hi)]; exact hru)
     have := RelVs.set i g3 hvu
     have e2 : ce.toList.set i u = ce.toList := by
      apply List.ext_getElem?
      intro j
      rw [List.getElem?_set]
      split
      · next e => subst e; split
                  · exact hu.symm
                  · next hn => exact absurd (List.getElem?_eq_some_iff.1 hu).1 hn
      · rfl
     rw [e2] at this
     exact this
   · have l1 := RelVs.length g3
     have l2 := RelVs.length k3
     rw [List.set_eq_of_length_le (by omega)]
     exact g3
 · exact OkOb.keep hx2 rfl (fun _ _ => rfl) (fun _ _ _ h => h) (hr1.obj r ob h)
def coF (m : Rs -> V -> List Ob -> V × List Ob) : List (Nat × Nat × Rs) -> List Ob -> List Ob
 | [], st => st
 | (o, i, r) :: l, st => match st[o]? with
  | some (.cells cs) => match m r (cs.getD i .any) st with
   | (v, st') => match st'[o]? with
    | some (.cells cs') => coF m l (st'.set o (.cells (cs'.set i v)))
    | _ => coF m l st
  | _ => coF m l st
theorem coF_sound {m : Rs -> V -> List Ob -> V × List Ob} (hm : MSound m) {w0 : Base} : ∀ (fs : List (Nat × Nat × Rs)) (c : Cfg), Rel w0 c -> ∃ c', c'.w = c.w /\ c'.st = coF m fs c.st /\ Rel w0 c' /\ Ext c c'
 | [], c, hr => ⟨c, rfl, rfl, hr, Ext.refl c⟩
 | (o, i, r) :: l, c, hr => by
  simp only [coF]
  split
  · next cs h0 =>
    obtain ⟨c1, h1, h2, h3, h4, h5⟩ := hm w0 r (cs.getD i .any) c hr
    rw [<- h2]
    split
    · next cs1 hc1 =>
      obtain ⟨k1, k2⟩ := setcell_rel hr h3 h4 h1 h0 hc1 (fun u hu => h5 u hu)
      obtain ⟨c2, g1, g2, g3, g4⟩ := coF_sound hm l _ k1
      exact ⟨c2, g1.trans h1, g2, g3, (h4.trans k2).trans g4⟩
    · exact coF_sound hm l c hr
  · exact coF_sound hm l c hr
def keepS (keep : List Nat) : Nat -> List V -> List V
 | _, [] => []
 | i, v :: r => (if keep.contains i = true then v else .any) :: keepS keep (i + 1) r
theorem keepS_len (keep : List Nat) : ∀ (l : List V) (i : Nat), (keepS keep i l).length = l.length
 | [], _ => rfl
 | v :: r, i => by simp [keepS, keepS_len keep r]
theorem keepS_get (keep : List Nat) : ∀ (l : List V) (i t : Nat), (keepS keep i l).getD t .any = if keep.contains (i + t) = true then l.getD t .any else .any
 | [], _, t => by simp [keepS]
 | v :: r, i, 0 => by simp [keepS]
 | v :: r, i, t + 1 => by
  have := keepS_get keep r (i + 1) t
  simp only [keepS, List.getD_cons_succ]
  rw [this, show i + 1 + t = i + (t + 1) from by omega]
theorem renDL_get : ∀ {g : List Nat} {vs vs' : List V}, renDL g vs = some vs' -> vs'.length = vs.length /\ ∀ t, renD g (vs.getD t .any) = some (vs'.getD t .any)
 | g, [], vs', h => by
  simp only [renDL, Option.some.injEq] at h
  subst h
  exact ⟨rfl, fun t => by simp [renD]⟩
 | g, v :: vs, vs', h => by
  simp only [renDL] at h
  split at h
  · next v1 vs1 e1 e2 =>
    cases h
    obtain ⟨h1, h2⟩ := renDL_get e2
    refine ⟨by simp [h1], fun t => ?_⟩
    cases t with
    | zero => simpa using e1
    | succ t => simpa using h2 t
  · cases h
theorem renD_ne {g : List Nat} {v : V} {a : Nat} {b : Bool} {x : V} : renD g v ≠ some (.gd a b x) := by
 cases v <;> simp only [renD] <;> first | (intro h; cases h; done) | (split <;> intro h <;> cases h; done) | skip
def normD (L0 : Nat) (keep : List Nat) (sl : List V) (st : List Ob) : Option (List V × List Ob) :=
 match keepS keep 0 sl with
 | sl0 => match reach st 4 (addN (List.range L0) (namesL sl0)) with
  | g => bif distinct g && (List.range L0).all (fun r => match g[r]? with | some i => Nat.beq i r | none => false) then
    (match renDL g sl0 with
    | some sl' => some (sl', g.map fun i => renO g (st.getD i .dead))
    | none => none)
   else none
theorem normD_sound {w0 : Base} {cb c : Cfg} {L0 : Nat} {keep : List Nat} {sl sl' : List V} {st' : List Ob} {tmps : Array Value} (hr : Rel w0 c) (hx : Ext cb c) (hs : SlR c sl tmps) (hg : GdIn [] sl)
  (hL : cb.st.length <= L0) (h : normD L0 keep sl c.st = some (sl', st')) : ∃ c', c'.w = c.w /\ c'.st = st' /\ Rel w0 c' /\ Ext cb c' /\ SlR c' sl' tmps /\ GdIn [] sl' := by
 unfold normD at h
 simp only at h
 generalize reach c.st 4 (addN (List.range L0) (namesL (keepS keep 0 sl))) = g at h
 cases hc : distinct g && (List.range L0).all (fun r => match g[r]? with | some i => Nat.beq i r | none => false) with
 | false => rw [hc] at h; cases h
 | true =>
  rw [hc] at h
  simp only [cond_true] at h
  simp only [Bool.and_eq_true, List.all_eq_true] at hc
  obtain ⟨hd, ha⟩ := hc
  split at h
  · next sl2 hren =>
    cases h
    obtain ⟨hlen, hget⟩ := renDL_get hren
    refine ⟨reD c g, rfl, rfl, reD_rel hr hd, reD_ext hx (fun r hrl => ?_), ⟨by rw [hlen, keepS_len]; exact hs.len, fun t => ?_⟩, fun t a b x e => ?_⟩
    · have := ha r (by simp; omega)
      split at this
      · next i hi => rw [hi, Nat.eq_of_beq_eq_true this]
      · cases this
    · have hsl : RelV c ((keepS keep 0 sl).getD t .any) (tmps.getD t undef) := by
       rw [keepS_get]
       split
       · exact slot_plain hs hg t
       · simp only [RelV]
      have := renD_rel _ _ _ (hget t) hsl
      unfold SlotR
      split
      · next a b x e => exact absurd (e ▸ hget t) renD_ne
      · exact this
    · exact absurd (e ▸ hget t) renD_ne
  · cases h
def bld : List Nat -> List V -> Nat -> Nat -> List V
 | _, _, _, 0 => []
 | k :: ks, v :: vs, i, n + 1 => if i = k then v :: bld ks vs (i + 1) n else .any :: bld (k :: ks) (v :: vs) (i + 1) n
 | ks, vs, i, n + 1 => .any :: bld ks vs (i + 1) n
def rising : Nat -> List Nat -> Bool
 | _, [] => true
 | i, k :: ks => Nat.ble i k && rising (k + 1) ks
theorem bld_nil (i : Nat) (vs : List V) : ∀ n, bld [] vs i n = List.replicate n .any := by
 intro n
 induction n generalizing i with
 | zero => cases vs <;> rfl
 | succ n ih => cases vs <;> simp only [bld, ih, List.replicate_succ]
theorem keepS_none (keep : List Nat) : ∀ (sl : List V) (i : Nat), (∀ k, k ∈ keep -> k < i) -> keepS keep i sl = List.replicate sl.length .any
 | [], i, _ => rfl
 | v :: r, i, h => by
  have hn : keep.contains i = false := by
   cases hc : keep.contains i with
   | false => rfl
   | true => exact absurd (h i (by simpa using hc)) (by omega)
  simp only [keepS, hn, Bool.false_eq_true, if_false, List.length_cons, List.replicate_succ]
  rw [keepS_none keep r (i + 1) (fun k hk => Nat.lt_succ_of_lt (h k hk))]
theorem keepS_cons (k : Nat) (ks : List Nat) : ∀ (sl : List V) (i : Nat), k < i -> keepS (k :: ks) i sl = keepS ks i sl
 | [], _, _ => rfl
 | v :: r, i, h => by
  have : (k :: ks).contains i = ks.contains i := by
   simp only [List.contains_cons]
   have : (i == k) = false := by simp; omega
   rw [this, Bool.false_or]
  simp only [keepS, this]
  rw [keepS_cons k ks r (i + 1) (by omega)]
theorem rising_lt : ∀ {ks : List Nat} {i j : Nat}, rising i ks = true -> j ∈ ks -> i <= j
 | k :: ks, i, j, h, hj => by
  simp only [rising, Bool.and_eq_true, Nat.ble_eq] at h
  rcases List.mem_cons.1 hj with rfl | hj
  · exact h.1
  · have := rising_lt h.2 hj; omega
theorem keepS_bld : ∀ (sl : List V) (ks : List Nat) (i : Nat), rising i ks = true -> keepS ks i sl = bld ks (ks.map fun k => sl.getD (k - i) .any) i sl.length
 | [], ks, i, _ => by cases ks <;> rfl
 | v :: r, [], i, _ => by
  rw [List.map_nil, bld_nil, keepS_none [] (v :: r) i (by simp)]
 | v :: r, k :: ks, i, h => by
  have h0 := h
  simp only [rising, Bool.and_eq_true, Nat.ble_eq] at h
  simp only [List.map_cons, List.length_cons, bld]
  by_cases hik : i = k
  · subst hik
    rw [if_pos rfl]
    simp only [keepS, List.contains_cons, beq_self_eq_true, Bool.true_or, if_true, Nat.sub_self, List.getD_cons_zero]
    rw [keepS_cons i ks r (i + 1) (by omega), keepS_bld r ks (i + 1) h.2]
    congr 2
    apply List.map_congr_left
    intro j hj
    have := rising_lt h.2 hj
    rw [show j - i = (j - (i + 1)) + 1 from by omega, List.getD_cons_succ]
  · rw [if_neg hik]
    have hn : (k :: ks).contains i = false := by
     cases hc : (k :: ks).contains i with
     | false => rfl
     | true =>
      have hm : i ∈ k :: ks := by simpa using hc
      rcases List.mem_cons.1 hm with rfl | hm
      · exact absurd rfl hik
      · have := rising_lt h.2 hm; omega
    simp only [keepS, hn, Bool.false_eq_true, if_false]
    rw [keepS_bld r (k :: ks) (i + 1) (by simp only [rising, Bool.and_eq_true, Nat.ble_eq]; exact ⟨by omega, h.2⟩)]
    simp only [List.map_cons]
    rw [show k - i = (k - (i + 1)) + 1 from by omega, List.getD_cons_succ]
    congr 3
    apply List.map_congr_left
    intro j hj
    have := rising_lt h.2 hj
    rw [show j - i = (j - (i + 1)) + 1 from by omega, List.getD_cons_succ]
theorem keepS_idem {keep : List Nat} : ∀ (l : List V) (i : Nat), (∀ t, keep.contains (i + t) = false -> l.getD t .any = .any) -> keepS keep i l = l
 | [], _, _ => rfl
 | v :: r, i, h => by
  simp only [keepS]
  rw [keepS_idem r (i + 1) fun t ht => by
   have := h (t + 1) (by rw [show i + (t + 1) = i + 1 + t from by omega]; exact ht)
   simpa using this]
  split
  · rfl
  · next hn =>
    have := h 0 (by simpa using hn)
    simp only [List.getD_cons_zero] at this
    rw [this]
theorem normD_form {L0 : Nat} {keep : List Nat} {sl sl' : List V} {st st' : List Ob} (hris : rising 0 keep = true) (h : normD L0 keep sl st = some (sl', st')) :
  sl' = bld keep (keep.map fun k => sl'.getD k .any) 0 sl'.length := by
 unfold normD at h
 simp only at h
 generalize reach st 4 (addN (List.range L0) (namesL (keepS keep 0 sl))) = g at h
 cases hc : distinct g && (List.range L0).all (fun r => match g[r]? with | some i => Nat.beq i r | none => false) with
 | false => rw [hc] at h; cases h
 | true =>
  rw [hc] at h
  simp only [cond_true] at h
  split at h
  · next sl2 hren =>
    cases h
    obtain ⟨hlen, hget⟩ := renDL_get hren
    have hk : keepS keep 0 sl' = sl' := keepS_idem sl' 0 fun t ht => by
     rw [Nat.zero_add] at ht
     have := hget t
     rw [keepS_get, Nat.zero_add, ht] at this
     simp only [Bool.false_eq_true, if_false, renD, Option.some.injEq] at this
     exact this.symm
    have := keepS_bld sl' keep 0 hris
    rw [hk] at this
    simpa only [Nat.sub_zero] using this
  · cases h
def form (m : Rs -> V -> List Ob -> V × List Ob) (vecs : List (Nat × Rs)) (flds : List (Nat × Nat × Rs)) (L0 : Nat) (keep : List Nat) (sl : List V) (st : List Ob) : Option (List V × List Ob) :=
 match coS m vecs sl st with
 | (sl1, st1) => normD L0 keep sl1 (coF m flds st1)
theorem form_sound {m : Rs -> V -> List Ob -> V × List Ob} (hm : MSound m) {w0 : Base} {cb c : Cfg} {vecs : List (Nat × Rs)} {flds : List (Nat × Nat × Rs)} {L0 : Nat} {keep : List Nat} {sl sl' : List V} {st' : List Ob} {tmps : Array Value} (hr : Rel w0 c) (hx : Ext cb c) (hs : SlR c sl tmps) (hg : GdIn [] sl)
  (hL : cb.st.length <= L0) (h : form m vecs flds L0 keep sl c.st = some (sl', st')) : ∃ c', c'.w = c.w /\ c'.st = st' /\ Rel w0 c' /\ Ext cb c' /\ SlR c' sl' tmps /\ GdIn [] sl' := by
 unfold form at h
 obtain ⟨c1, h1, h2, h3, h4, h5, h6⟩ := coS_sound hm vecs c sl hr hx hs hg
 obtain ⟨c2, k1, k2, k3, k4⟩ := coF_sound hm flds c1 h3
 have e : coF m flds (coS m vecs sl c.st).2 = c2.st := by rw [k2, h2]
 generalize hp : coS m vecs sl c.st = p at *
 obtain ⟨sl1, st1⟩ := p
 simp only at h e h5 h6
 rw [e] at h
 obtain ⟨c', g1, g2, g3, g4, g5, g6⟩ := normD_sound k3 (h4.trans k4) (SlR.ext k4 h5) h6 hL h
 exact ⟨c', g1.trans (k1.trans h1), g2, g3, g4, g5, g6⟩
theorem form_form {m : Rs -> V -> List Ob -> V × List Ob} {vecs : List (Nat × Rs)} {flds : List (Nat × Nat × Rs)} {L0 : Nat} {keep : List Nat} {sl sl' : List V} {st st' : List Ob} (hris : rising 0 keep = true) (h : form m vecs flds L0 keep sl st = some (sl', st')) :
  sl' = bld keep (keep.map fun k => sl'.getD k .any) 0 sl'.length := by
 unfold form at h
 exact normD_form hris h
def norm? (o : Option (List V × List Ob)) (K : St) : Prop := match o with
 | some (x, y) => K x y
 | none => False
theorem norm_out {o : Option (List V × List Ob)} {K : List V -> List Ob -> Prop} (h : norm? o K) : ∃ sl st, o = some (sl, st) /\ K sl st := by
 cases o with
 | none => exact h.elim
 | some p => obtain ⟨x, y⟩ := p; exact ⟨x, y, rfl, h⟩
end Eng
end Go.Proofs.YtnpjonhoihbaeaaGreat
