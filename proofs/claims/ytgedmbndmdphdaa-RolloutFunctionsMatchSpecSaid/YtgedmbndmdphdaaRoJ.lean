/-
  The list of versions keeps to its form. Conditions: none.
-/
import Derived.Test.YtgedmbndmdphdaaRoI
namespace Go.Proofs.Ytgedmbndmdphdaa
open Eng
namespace Ro
open Can (okC okC_nat)

theorem pairwise_map' {α} {R : α → α → Prop} (f : α → α) : ∀ {l : List α}, l.Pairwise R → (∀ a b, a ∈ l → b ∈ l → R a b → R (f a) (f b)) → (l.map f).Pairwise R
  | [], _, _ => List.Pairwise.nil
  | a :: l, h, hf => by
    obtain ⟨h1, h2⟩ := List.pairwise_cons.1 h
    refine List.pairwise_cons.2 ⟨fun b hb => ?_, pairwise_map' f h2 fun x y hx hy => hf x y (List.mem_cons_of_mem _ hx) (List.mem_cons_of_mem _ hy)⟩
    obtain ⟨x, hx, rfl⟩ := List.mem_map.1 hb
    exact hf a x (by simp) (List.mem_cons_of_mem _ hx) (h1 x hx)

theorem Falls.upd {n r : Nat} {c : Int × Int} (hc : okC c.1 c.2) {t : List Ent} (h : Falls n t) : Falls n (upd r c t) := by
  refine ⟨pairwise_map' _ h.pw fun a b _ _ hab => ?_, fun e he => ?_⟩
  · have ha : (if a.2.1 = r then (a.1, (a.2.1, c)) else a : Ent).1 = a.1 ∧ (if a.2.1 = r then (a.1, (a.2.1, c)) else a : Ent).2.1 = a.2.1 := by split <;> exact ⟨rfl, rfl⟩
    have hb : (if b.2.1 = r then (b.1, (b.2.1, c)) else b : Ent).1 = b.1 ∧ (if b.2.1 = r then (b.1, (b.2.1, c)) else b : Ent).2.1 = b.2.1 := by split <;> exact ⟨rfl, rfl⟩
    rw [ha.1, ha.2, hb.1, hb.2]
    exact hab
  · obtain ⟨x, hx, rfl⟩ := List.mem_map.1 he
    obtain ⟨h1, h2, h3⟩ := h.each x hx
    split
    · exact ⟨h1, h2, hc⟩
    · exact ⟨h1, h2, h3⟩

theorem Falls.adv {n r : Nat} (hr : r < n) {t : List Ent} (h : Falls n t) (hn : r + 1 < n → ∀ e, e ∈ t → e.2.1 ≠ r + 1) : Falls n (adv r t) := by
  refine ⟨pairwise_map' _ h.pw fun a b ha hb hab => ?_, fun e he => ?_⟩
  · obtain ⟨hab1, hab2⟩ := hab
    have hla := (h.each a ha).2.1
    have ca : r + 1 < n → a.2.1 ≠ r + 1 := fun e => hn e a ha
    have va : (if a.2.1 = r then (a.1, (r + 1, (0, 0))) else a : Ent).1 = a.1 := by split <;> rfl
    have vb : (if b.2.1 = r then (b.1, (r + 1, (0, 0))) else b : Ent).1 = b.1 := by split <;> rfl
    have ra : (if a.2.1 = r then (a.1, (r + 1, (0, 0))) else a : Ent).2.1 = if a.2.1 = r then r + 1 else a.2.1 := by split <;> rfl
    have rb : (if b.2.1 = r then (b.1, (r + 1, (0, 0))) else b : Ent).2.1 = if b.2.1 = r then r + 1 else b.2.1 := by split <;> rfl
    rw [va, vb, ra, rb]
    refine ⟨hab1, ?_⟩
    split <;> split <;> omega
  · obtain ⟨x, hx, rfl⟩ := List.mem_map.1 he
    obtain ⟨h1, h2, h3⟩ := h.each x hx
    split
    · exact ⟨h1, by simp only; omega, by unfold Can.okC; simp⟩
    · exact ⟨h1, h2, h3⟩

theorem Falls.start {n : Nat} {v : Int} (hv : 0 < v) {t : List Ent} (h : Falls n t) (h0 : ∀ e, e ∈ t → e.2.1 ≠ 0) (hl : ∀ e, e ∈ t → e.1 < v) : Falls n (t ++ [(v, (0, (0, 0)))]) := by
  refine ⟨List.pairwise_append.2 ⟨h.pw, List.pairwise_singleton _ _, fun e he x hx => ?_⟩, fun e he => ?_⟩
  · rw [List.mem_singleton.1 hx]
    have := h0 e he
    exact ⟨hl e he, .inl (show 0 < e.2.1 by omega)⟩
  · rcases List.mem_append.1 he with he | he
    · exact h.each e he
    · rw [List.mem_singleton.1 he]
      exact ⟨hv, Nat.zero_le _, by unfold Can.okC; simp⟩

end Ro
end Go.Proofs.Ytgedmbndmdphdaa
