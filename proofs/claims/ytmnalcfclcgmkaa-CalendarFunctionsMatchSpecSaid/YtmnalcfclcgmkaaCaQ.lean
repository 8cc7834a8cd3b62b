/-
  Open, Next, Worked and Add as functions that are handed data. Conditions: none.
-/
import Derived.Test.YtmnalcfclcgmkaaCaP
set_option linter.unusedVariables false
namespace Go.Proofs.Ytmnalcfclcgmkaa
namespace Eng

theorem argF_mono {ss : List Sh} {args : List V} {k k' : List V → Prop} (hk : ∀ a, k a → k' a) (h : argF ss args k) : argF ss args k' := by
  unfold argF at *
  cases hf : fitL ss (nzL ss args) with
  | false => rw [hf] at h; exact h.elim
  | true => rw [hf] at h; exact hk _ h

end Eng
namespace Ca
open Go.RowKit Eng

abbrev cS : Sh := .agg [.ro WT, .ro (.int .i64)]

def vW (vs : List V) : List Win := gR WT ((gC (vs.getD 0 .any)).getD 0 .any)
def vH (vs : List V) : List Int := gR (.int .i64) ((gC (vs.getD 0 .any)).getD 1 .any)

/-- What is handed over, as it lies in memory. -/
theorem args_of {w : World} {A : Nat → Nat → Prop} {c0 : V} {rest : List V} {us : Array Value} {ss : List Sh} (hf : fitL (cS :: ss) (c0 :: rest) = true) (hr : RelVs (cfg0 w A) (c0 :: rest) us.toList) :
    ∃ (wa ha : Option Addr) (wn wc hn hc : Nat) (us' : List Value), us.toList = .agg #[.slice wa wn wc, .slice ha hn hc] :: us' ∧ RoV w A (.slice WT) (vW (c0 :: rest)) [.slice wa wn wc] ∧ RoV w A (.slice (.int .i64)) (vH (c0 :: rest)) [.slice ha hn hc] ∧ RelVs (cfg0 w A) rest us' := by
  have hsl : ∀ {t : Ty} {xs : List t.den} {u : Value}, RoV w A (.slice t) xs [u] → ∃ a n c, u = .slice a n c := by
    intro t xs u h
    rcases h with ⟨h1, _⟩ | ⟨b, o, sp, cap, h1, _⟩
    · exact ⟨_, _, _, (List.cons.inj h1).1⟩
    · exact ⟨_, _, _, (List.cons.inj h1).1⟩
  have hf1 : fitV cS c0 = true := by
    simp only [fitL, Bool.and_eq_true] at hf
    exact hf.1
  have e := fitV_eq _ _ hf1
  rw [e] at hr
  simp only [mkV, mkL, RelVs, RelV, cfg0] at hr
  obtain ⟨u, us', hus, ⟨ws, rfl, u1, us1, h1, h2, u2, us2, rfl, h3, rfl⟩, h4⟩ := hr
  obtain ⟨wa, wn, wc, rfl⟩ := hsl h2
  obtain ⟨ha, hn, hc, rfl⟩ := hsl h3
  refine ⟨wa, ha, wn, wc, hn, hc, us', ?_, h2, h3, h4⟩
  rw [hus]
  congr 2
  apply Array.ext'
  rw [h1]

theorem int_of {w : World} {A : Nat → Nat → Prop} {v : V} {rest : List V} {us : List Value} {ss : List Sh} (hf : fitL (.int .i64 :: ss) (v :: rest) = true) (hr : RelVs (cfg0 w A) (v :: rest) us) :
    ∃ us', us = .int .i64 (gI v) :: us' ∧ RelVs (cfg0 w A) rest us' := by
  have hf1 : fitV (.int .i64) v = true := by
    simp only [fitL, Bool.and_eq_true] at hf
    exact hf.1
  have e := fitV_eq _ _ hf1
  rw [e] at hr
  simp only [mkV, RelVs, RelV] at hr
  obtain ⟨u, us', hus, rfl, h4⟩ := hr
  exact ⟨us', hus, h4⟩

theorem fitL_tail {s : Sh} {ss : List Sh} {v : V} {vs : List V} (h : fitL (s :: ss) (v :: vs) = true) : fitL ss vs = true := by
  simp only [fitL, Bool.and_eq_true] at h
  exact h.2

theorem fitL_nil {vs : List V} (h : fitL [] vs = true) : vs = [] := by
  cases vs with
  | nil => rfl
  | cons v vs => simp [fitL] at h

theorem fitL_cons {s : Sh} {ss : List Sh} {vs : List V} (h : fitL (s :: ss) vs = true) : ∃ v r, vs = v :: r := by
  cases vs with
  | nil => simp [fitL] at h
  | cons v r => exact ⟨v, r, rfl⟩

/-- What such a function leaves. -/
theorem done_of {w w' : World} {A : Nat → Nat → Prop} (hA : ∀ b o, A b o → b < w.heap.size) (hB : Below w.heap.size w w') : Rel ⟨w, A, fun _ => False⟩ (cfg0 w' A) ∧ Ext (cfg0 w A) (cfg0 w' A) := by
  refine ⟨{
    below := ⟨hB.mono (Nat.zero_le _), fun k hk => hB.block k ?_⟩
    inj := fun r r' b hl => by simp [live, cfg0] at hl
    fresh := fun r b hl => by simp [live, cfg0] at hl
    bound := fun b o h => Nat.lt_of_lt_of_le (hA b o h) hB.size
    newA := fun b o h => .inl h
    obj := fun r ob h => by simp [cfg0] at h
    pl := PoolOk.none fun r m h => by simp [cfg0] at h }, {
    size := hB.size
    sub := fun _ _ h => h
    cells := fun b o h => World.cell?_of_block (a := ⟨b, o, none⟩) (hB.block b (hA b o h))
    len := Nat.le_refl _
    keep := fun r ob hr => by simp [cfg0] at hr }⟩
  rcases Nat.lt_or_ge k w.heap.size with g | g
  · exact g
  · exact absurd (.inl g) hk

abbrev open_R := openR
abbrev next_R := nextR
abbrev worked_R := workedR
abbrev add_R := addR

abbrev vld_R := vld

theorem vld_ok : SoundFn Try.prog 14 (fun args K => argF [cS] args fun a => K (.agg [.x (.int .i64 (vld (vW a) (vH a)).1), .x (.int .i64 (vld (vW a) (vH a)).2)]) []) :=
  SoundFn.of_imp C.calendar_Validate_ok fun args K h => argF_mono (fun a h => validate_ok (vW a) (vH a) (fun r0 r1 => K (.agg [.x (.int .i64 r0), .x (.int .i64 r1)]) []) h) h

theorem open_ok : SoundFn Try.prog 9 (fun args K => argF [cS, .int .i64] args fun a => K (.tup [.x (.bool (openR (vW a) (vH a) (gI (a.getD 1 .any))).1), .agg [.x (.int .i64 (openR (vW a) (vH a) (gI (a.getD 1 .any))).2.1), .x (.int .i64 (openR (vW a) (vH a) (gI (a.getD 1 .any))).2.2)]]) []) := by
  intro w A args us K hA ha hs
  unfold argF at hs
  cases hf : fitL [cS, .int .i64] (nzL [cS, .int .i64] args) with
  | false => rw [hf] at hs; exact hs.elim
  | true =>
    rw [hf] at hs
    simp only [cond_true] at hs
    have hr := nzL_rel [cS, .int .i64] args _ ha
    generalize nzL [cS, .int .i64] args = vs at hf hr hs
    obtain ⟨v0, r0, rfl⟩ := fitL_cons hf
    obtain ⟨wa, ha', wn, wc, hn, hc, us1, e1, hw, hh, hr1⟩ := args_of hf hr
    have hf1 := fitL_tail hf
    obtain ⟨v1, r1, rfl⟩ := fitL_cons hf1
    obtain ⟨us2, e2, hr2⟩ := int_of hf1 hr1
    obtain rfl := fitL_nil (fitL_tail hf1)
    simp only [RelVs] at hr2
    have eus : us = #[.agg #[.slice wa wn wc, .slice ha' hn hc], .int .i64 (gI v1)] := by apply Array.ext'; rw [e1, e2, hr2]
    rw [eus]
    refine (open_calls hA hw hh (gI v1)).mono ?_
    rintro e w' ⟨rfl, hB⟩
    obtain ⟨g1, g2⟩ := done_of hA hB
    exact ⟨_, _, _, rfl, rfl, g1, g2, by simp only [RelV, RelVs]; exact ⟨_, rfl, _, _, rfl, rfl, _, _, rfl, ⟨_, rfl, _, _, rfl, rfl, _, _, rfl, rfl, rfl⟩, rfl⟩, hs⟩

theorem next_ok : SoundFn Try.prog 10 (fun args K => argF [cS, .int .i64] args fun a => K (.tup [.x (.int .i64 (nextR (vW a) (vH a) (gI (a.getD 1 .any))).1), .agg [.x (.int .i64 (nextR (vW a) (vH a) (gI (a.getD 1 .any))).2.1), .x (.int .i64 (nextR (vW a) (vH a) (gI (a.getD 1 .any))).2.2)]]) []) := by
  intro w A args us K hA ha hs
  unfold argF at hs
  cases hf : fitL [cS, .int .i64] (nzL [cS, .int .i64] args) with
  | false => rw [hf] at hs; exact hs.elim
  | true =>
    rw [hf] at hs
    simp only [cond_true] at hs
    have hr := nzL_rel [cS, .int .i64] args _ ha
    generalize nzL [cS, .int .i64] args = vs at hf hr hs
    obtain ⟨v0, r0, rfl⟩ := fitL_cons hf
    obtain ⟨wa, ha', wn, wc, hn, hc, us1, e1, hw, hh, hr1⟩ := args_of hf hr
    have hf1 := fitL_tail hf
    obtain ⟨v1, r1, rfl⟩ := fitL_cons hf1
    obtain ⟨us2, e2, hr2⟩ := int_of hf1 hr1
    obtain rfl := fitL_nil (fitL_tail hf1)
    simp only [RelVs] at hr2
    have eus : us = #[.agg #[.slice wa wn wc, .slice ha' hn hc], .int .i64 (gI v1)] := by apply Array.ext'; rw [e1, e2, hr2]
    rw [eus]
    refine (next_calls hA hw hh (gI v1)).mono ?_
    rintro e w' ⟨rfl, hB⟩
    obtain ⟨g1, g2⟩ := done_of hA hB
    exact ⟨_, _, _, rfl, rfl, g1, g2, by simp only [RelV, RelVs]; exact ⟨_, rfl, _, _, rfl, rfl, _, _, rfl, ⟨_, rfl, _, _, rfl, rfl, _, _, rfl, rfl, rfl⟩, rfl⟩, hs⟩

theorem worked_ok : SoundFn Try.prog 11 (fun args K => argF [cS, .int .i64, .int .i64] args fun a => K (.tup [.x (.int .i64 (workedR (vW a) (vH a) (gI (a.getD 1 .any)) (gI (a.getD 2 .any))).1), .agg [.x (.int .i64 (workedR (vW a) (vH a) (gI (a.getD 1 .any)) (gI (a.getD 2 .any))).2.1), .x (.int .i64 (workedR (vW a) (vH a) (gI (a.getD 1 .any)) (gI (a.getD 2 .any))).2.2)]]) []) := by
  intro w A args us K hA ha hs
  unfold argF at hs
  cases hf : fitL [cS, .int .i64, .int .i64] (nzL [cS, .int .i64, .int .i64] args) with
  | false => rw [hf] at hs; exact hs.elim
  | true =>
    rw [hf] at hs
    simp only [cond_true] at hs
    have hr := nzL_rel [cS, .int .i64, .int .i64] args _ ha
    generalize nzL [cS, .int .i64, .int .i64] args = vs at hf hr hs
    obtain ⟨v0, r0, rfl⟩ := fitL_cons hf
    obtain ⟨wa, ha', wn, wc, hn, hc, us1, e1, hw, hh, hr1⟩ := args_of hf hr
    have hf1 := fitL_tail hf
    obtain ⟨v1, r1, rfl⟩ := fitL_cons hf1
    obtain ⟨us2, e2, hr2⟩ := int_of hf1 hr1
    have hf2 := fitL_tail hf1
    obtain ⟨v2, r2, rfl⟩ := fitL_cons hf2
    obtain ⟨us3, e3, hr3⟩ := int_of hf2 hr2
    obtain rfl := fitL_nil (fitL_tail hf2)
    simp only [RelVs] at hr3
    have eus : us = #[.agg #[.slice wa wn wc, .slice ha' hn hc], .int .i64 (gI v1), .int .i64 (gI v2)] := by apply Array.ext'; rw [e1, e2, e3, hr3]
    rw [eus]
    refine (worked_calls hA hw hh (gI v1) (gI v2)).mono ?_
    rintro e w' ⟨rfl, hB⟩
    obtain ⟨g1, g2⟩ := done_of hA hB
    exact ⟨_, _, _, rfl, rfl, g1, g2, by simp only [RelV, RelVs]; exact ⟨_, rfl, _, _, rfl, rfl, _, _, rfl, ⟨_, rfl, _, _, rfl, rfl, _, _, rfl, rfl, rfl⟩, rfl⟩, hs⟩

theorem add_ok : SoundFn Try.prog 12 (fun args K => argF [cS, .int .i64, .int .i64] args fun a => K (.tup [.x (.int .i64 (addR (vW a) (vH a) (gI (a.getD 1 .any)) (gI (a.getD 2 .any))).1), .agg [.x (.int .i64 (addR (vW a) (vH a) (gI (a.getD 1 .any)) (gI (a.getD 2 .any))).2.1), .x (.int .i64 (addR (vW a) (vH a) (gI (a.getD 1 .any)) (gI (a.getD 2 .any))).2.2)]]) []) := by
  intro w A args us K hA ha hs
  unfold argF at hs
  cases hf : fitL [cS, .int .i64, .int .i64] (nzL [cS, .int .i64, .int .i64] args) with
  | false => rw [hf] at hs; exact hs.elim
  | true =>
    rw [hf] at hs
    simp only [cond_true] at hs
    have hr := nzL_rel [cS, .int .i64, .int .i64] args _ ha
    generalize nzL [cS, .int .i64, .int .i64] args = vs at hf hr hs
    obtain ⟨v0, r0, rfl⟩ := fitL_cons hf
    obtain ⟨wa, ha', wn, wc, hn, hc, us1, e1, hw, hh, hr1⟩ := args_of hf hr
    have hf1 := fitL_tail hf
    obtain ⟨v1, r1, rfl⟩ := fitL_cons hf1
    obtain ⟨us2, e2, hr2⟩ := int_of hf1 hr1
    have hf2 := fitL_tail hf1
    obtain ⟨v2, r2, rfl⟩ := fitL_cons hf2
    obtain ⟨us3, e3, hr3⟩ := int_of hf2 hr2
    obtain rfl := fitL_nil (fitL_tail hf2)
    simp only [RelVs] at hr3
    have eus : us = #[.agg #[.slice wa wn wc, .slice ha' hn hc], .int .i64 (gI v1), .int .i64 (gI v2)] := by apply Array.ext'; rw [e1, e2, e3, hr3]
    rw [eus]
    refine (add_calls hA hw hh (gI v1) (gI v2)).mono ?_
    rintro e w' ⟨rfl, hB⟩
    obtain ⟨g1, g2⟩ := done_of hA hB
    exact ⟨_, _, _, rfl, rfl, g1, g2, by simp only [RelV, RelVs]; exact ⟨_, rfl, _, _, rfl, rfl, _, _, rfl, ⟨_, rfl, _, _, rfl, rfl, _, _, rfl, rfl, rfl⟩, rfl⟩, hs⟩

end Ca
end Go.Proofs.Ytmnalcfclcgmkaa
