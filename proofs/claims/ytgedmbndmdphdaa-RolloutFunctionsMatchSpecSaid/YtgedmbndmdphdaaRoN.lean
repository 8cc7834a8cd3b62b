/-
  What a ring knows, by the list of versions. Conditions: none.
-/
import Derived.Test.YtgedmbndmdphdaaRoJ
namespace Go.Proofs.Ytgedmbndmdphdaa
open Eng
namespace Ro
open Can (okC okC_nat)

theorem act_of {n i : Nat} (hi : i < n) : ∀ {t : List Ent}, Falls n t → ∀ {e : Ent}, e ∈ t → e.2.1 = i → act i t = (e.1, e.2.2)
  | [], _, _, he, _ => by cases he
  | x :: t, hf, e, he, hr => by
    rw [act_cons]
    rcases List.mem_cons.1 he with rfl | he
    · rw [if_pos hr]
    · have := ((List.pairwise_cons.1 hf.pw).1 e he).2
      rw [if_neg (show ¬ x.2.1 = i by omega), act_of hi hf.tail he hr]

theorem mem_conf {i : Nat} {t : List Ent} {v : Int} : v ∈ conf i t ↔ ∃ e, e ∈ t ∧ i < e.2.1 ∧ e.1 = v := by
  unfold conf
  rw [List.mem_map]
  constructor
  · rintro ⟨e, h1, h2⟩
    obtain ⟨h3, h4⟩ := List.mem_filter.1 h1
    exact ⟨e, h3, by simpa using h4, h2⟩
  · rintro ⟨e, h1, h2, h3⟩
    exact ⟨e, List.mem_filter.2 ⟨h1, by simpa using h2⟩, h3⟩

theorem any_kr {n : Nat} (hn : 0 < n) {t : List Ent} (hf : Falls n t) (v : Int) : (rows n t).any (kr v) = t.any fun e => e.1 == v := by
  rw [Bool.eq_iff_iff, List.any_eq_true, List.any_eq_true]
  constructor
  · rintro ⟨r, hr, hk⟩
    obtain ⟨i, _, rfl⟩ := List.mem_map.1 hr
    simp only [kr, rowOf, Bool.or_eq_true, Bool.and_eq_true, beq_iff_eq, bne_iff_ne] at hk
    rcases hk with ⟨h1, h2⟩ | h1
    · rcases act_mem (i := i) (t := t) with ⟨e, g1, _, g3⟩ | ⟨g1, _⟩
      · rw [g3] at h1
        exact ⟨e, g1, beq_iff_eq.2 h1⟩
      · rw [g1] at h1
        exact absurd h1.symm h2
    · obtain ⟨e, g1, _, g3⟩ := mem_conf.1 (of_decide_eq_true h1)
      exact ⟨e, g1, beq_iff_eq.2 g3⟩
  · rintro ⟨e, he, hv⟩
    have hv' := beq_iff_eq.1 hv
    refine ⟨rowOf t 0, List.mem_map.2 ⟨0, by simpa using hn, rfl⟩, ?_⟩
    simp only [kr, rowOf, Bool.or_eq_true, Bool.and_eq_true, beq_iff_eq, bne_iff_ne]
    by_cases h0 : e.2.1 = 0
    · have hp := (hf.each e he).1
      rw [act_of hn hf he h0]
      exact .inl ⟨hv', by omega⟩
    · exact .inr (decide_eq_true (mem_conf.2 ⟨e, he, Nat.pos_of_ne_zero h0, hv'⟩))

end Ro
end Go.Proofs.Ytgedmbndmdphdaa
