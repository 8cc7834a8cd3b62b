/-
  The reference's deployment: dropping a version, and the version that is active in a ring. Conditions: none.
-/
import Derived.Test.YtgedmbndmdphdaaRoH
namespace Go.Proofs.Ytgedmbndmdphdaa
open Eng
namespace Ro

theorem er_ne {α} (l : List α) (d : α) {i k : Nat} (hi : i < l.length) (h : i ≠ k) : (l.take (i + 1)).eraseIdx k = (l.take i).eraseIdx k ++ [l.getD i d] := by
  rw [List.take_add_one, List.getElem?_eq_getElem hi, getD_get _ _ _ hi]
  have hl : (l.take i).length = i := by simp; omega
  rcases Nat.lt_or_ge k i with g | g
  · exact List.eraseIdx_append_of_lt_length (by omega) _
  · rw [List.eraseIdx_of_length_le (by simp; omega), List.eraseIdx_of_length_le (by omega)]
    rfl

theorem er_eq {α} (l : List α) {i : Nat} (hi : i < l.length) : (l.take (i + 1)).eraseIdx i = (l.take i).eraseIdx i := by
  rw [List.take_add_one, List.getElem?_eq_getElem hi]
  have hl : (l.take i).length = i := by simp; omega
  rw [List.eraseIdx_append_of_length_le (by omega), hl, Nat.sub_self]
  simp [List.eraseIdx_of_length_le (show (l.take i).length ≤ i by omega)]

theorem drop_loop {n g b nd ml : Int} {vs rs : List Int} {cs : List (Int × Int)} (hr : rs.length = vs.length) (hc : cs.length = vs.length) (hl : vs.length ≤ 40) {k : Int} {k' : Nat} (hk : ∀ i : Nat, i < vs.length → ((i : Int) = k ↔ i = k'))
    {K : List Int → List Int → List (Int × Int) → Prop} (hK : K (vs.eraseIdx k') (rs.eraseIdx k') (cs.eraseIdx k')) : ∀ (fu i : Nat), i ≤ vs.length → vs.length - i < fu →
    L.ref8_Deployment_Drop_L1_R k vs rs cs fu i ((vs.take i).eraseIdx k') ((rs.take i).eraseIdx k') ((cs.take i).eraseIdx k') K
  | 0, i, _, h => by omega
  | fu + 1, i, hi, h => by
    show L.ref8_Deployment_Drop_L1_b k vs rs cs i _ _ _ _ K
    unfold L.ref8_Deployment_Drop_L1_b
    rcases Nat.lt_or_ge i vs.length with g' | g'
    · have ih := drop_loop (n := n) (g := g) (b := b) (nd := nd) (ml := ml) hr hc hl hk hK fu (i + 1) g' (by omega)
      rw [show ((i + 1 : Nat) : Int) = (i : Int) + 1 from by omega] at ih
      refine cond_t (by simp; omega) ?_
      rw [i64_id (by omega) (by omega), Int.toNat_natCast]
      have hf : ∀ {α} (l : List α) (x : α), l.length = vs.length → fits (((l.take i).eraseIdx k').length + ([x] : List α).length) := fun l x hl2 => by
        have : ((l.take i).eraseIdx k').length ≤ i := Nat.le_trans (List.length_eraseIdx_le _ _) (by simp; omega)
        simp only [fits, List.length_singleton]
        omega
      by_cases e : i = k'
      · have e1 : (i : Int) = k := (hk i g').2 e
        refine cond_f (by rw [bne_eq_false_iff_eq]; exact e1) ?_
        subst e
        rw [er_eq vs g', er_eq rs (by omega), er_eq cs (by omega)] at ih
        exact ih
      · have e1 : (i : Int) ≠ k := fun e2 => e ((hk i g').1 e2)
        rw [er_ne vs 0 g' e, er_ne rs 0 (by omega) e, er_ne cs (0, 0) (by omega) e] at ih
        have j2 : L.ref8_Deployment_Drop_J2 i rs cs ((rs.take i).eraseIdx k') ((cs.take i).eraseIdx k') (fun m4 m5 => L.ref8_Deployment_Drop_L1_R k vs rs cs fu (i + 1 : Int) ((vs.take i).eraseIdx k' ++ [vs.getD i 0]) m4 m5 K) := by
          constructor
          unfold L.ref8_Deployment_Drop_J2_B
          rw [Int.toNat_natCast]
          have a1 := hf rs (rs.getD i 0) hr
          have a2 := hf cs ((cs.getD i (0, 0)).1, (cs.getD i (0, 0)).2) hc
          have a3 : inB (i : Int) rs.length := ⟨by omega, by omega⟩
          have a4 : inB (i : Int) cs.length := ⟨by omega, by omega⟩
          exact ⟨a3, ⟨a1, a4, ⟨a2, ih⟩, a2, ih⟩, a1, a4, ⟨a2, ih⟩, a2, ih⟩
        have a0 := hf vs (vs.getD i 0) rfl
        exact cond_t (bne_iff_ne.2 e1) ⟨⟨by omega, by omega⟩, ⟨a0, j2⟩, a0, j2⟩
    · obtain rfl : i = vs.length := by omega
      refine cond_f (by simp) ?_
      rw [List.take_length, List.take_of_length_le (by omega), List.take_of_length_le (by omega)]
      exact hK

theorem drop_ok {n g b nd ml : Int} {vs rs : List Int} {cs : List (Int × Int)} (hr : rs.length = vs.length) (hc : cs.length = vs.length) (hl : vs.length ≤ 40) {k : Int} {k' : Nat} (hk : ∀ i : Nat, i < vs.length → ((i : Int) = k ↔ i = k'))
    {K : Int → Int → Int → Int → Int → List Int → List Int → List (Int × Int) → Prop} (hK : K n g b nd ml (vs.eraseIdx k') (rs.eraseIdx k') (cs.eraseIdx k')) : L.ref8_Deployment_Drop n g b nd ml vs rs cs k K := by
  refine ⟨⟨⟨vs.length + 1, ?_⟩⟩⟩
  have := drop_loop (n := n) (g := g) (b := b) (nd := nd) (ml := ml) hr hc hl hk (K := fun m m1 m2 => K n g b nd ml m m1 m2) hK (vs.length + 1) 0 (by omega) (by omega)
  simpa using this

theorem active_loop {vs rs : List Int} (hr : rs.length = vs.length) (hl : vs.length ≤ 40) {r : Int} {K : Int → Prop} (h1 : r ∉ rs → K (-1)) (h2 : ∀ i : Nat, i < rs.length → rs.getD i 0 = r → r ∉ rs.take i → K i) : ∀ (fu i : Nat), i ≤ vs.length → vs.length - i < fu → r ∉ rs.take i →
    L.ref8_Deployment_Active_L1_R r vs rs fu i (K (-1)) K
  | 0, i, _, h, _ => by omega
  | fu + 1, i, hi, h, hn => by
    show L.ref8_Deployment_Active_L1_b r vs rs i _ _ K
    unfold L.ref8_Deployment_Active_L1_b
    rcases Nat.lt_or_ge i vs.length with g | g
    · refine cond_t (by simp; omega) ⟨⟨by omega, by omega⟩, ?_⟩
      rw [Int.toNat_natCast]
      by_cases hv : rs.getD i 0 = r
      · exact cond_t (beq_iff_eq.2 hv) (h2 i (by omega) hv hn)
      · refine cond_f (beq_eq_false_iff_ne.2 hv) ?_
        rw [i64_id (by omega) (by omega)]
        have := active_loop hr hl h1 h2 fu (i + 1) g (by omega) (fun hx => by
          rw [List.take_add_one, List.mem_append] at hx
          rcases hx with hx | hx
          · exact hn hx
          · rw [List.getElem?_eq_getElem (show i < rs.length by omega)] at hx
            simp only [Option.toList_some, List.mem_singleton] at hx
            rw [getD_get _ _ _ (show i < rs.length by omega)] at hv
            exact hv hx.symm)
        exact_mod_cast this
    · obtain rfl : i = vs.length := by omega
      rw [List.take_of_length_le (by omega)] at hn
      exact cond_f (by simp) (h1 hn)

theorem active_ok {n g b nd ml : Int} {vs rs : List Int} {cs : List (Int × Int)} (hr : rs.length = vs.length) (hl : vs.length ≤ 40) {r : Int} {K : Int → Prop} (h1 : r ∉ rs → K (-1)) (h2 : ∀ i : Nat, i < rs.length → rs.getD i 0 = r → r ∉ rs.take i → K i) :
    L.ref8_Deployment_Active n g b nd ml vs rs cs r K :=
  ⟨⟨⟨vs.length + 1, by exact_mod_cast active_loop hr hl h1 h2 (vs.length + 1) 0 (by omega) (by omega) (by simp)⟩⟩⟩

end Ro
end Go.Proofs.Ytgedmbndmdphdaa
