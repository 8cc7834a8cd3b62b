/-
  Part 2 of a proof of one law by a verified reader of the program: lifted functions, their plain specifications, the law. Conditions: none.
-/
import Derived.Test.YtkpplfghhciacaaDoorQ1
import Derived.Lib.AppendZeros
import Derived.Orders
set_option linter.unusedVariables false
set_option linter.unusedSimpArgs false
namespace Go.Proofs.YtkpplfghhciacaaDoor
namespace Eng
open Go.RowKit
section
variable {P : Program} {w0 : Base} {c : Cfg} {Q : Exit → Act → World → Prop}
theorem zeroV_len {t : TypeId} {zs : List V} {i : TypeInfo} {z : Value} (h : zeroV P t = some zs) (hi : P.info? t = some i) (hz : i.zero = some z) : zs = z.cells.toList.map V.x := by
  unfold zeroV at h
  rw [hi] at h
  simp only [hz, Option.some.injEq] at h
  exact h.symm
theorem range_map_rep {z : Array Value} (hz : 0 < z.size) (n : Nat) : ((Array.range (n * z.size)).map (fun k => z[k % z.size]!)).toList = (List.replicate n z.toList).flatten := by
  apply List.ext_getElem?
  intro k
  have hz' : z.toList.length = z.size := by simp
  have key : ∀ n k, k < n * z.size → (List.replicate n z.toList).flatten[k]? = z.toList[k % z.size]? := by
    intro n
    induction n with
    | zero => intro k h; simp at h
    | succ n ih =>
      intro k h
      rw [List.replicate_succ, List.flatten_cons, List.getElem?_append]
      split
      · next hk => rw [Nat.mod_eq_of_lt (by omega)]
      · next hk =>
        rw [Nat.add_mul, Nat.one_mul] at h
        rw [ih _ (by omega), hz', Nat.mod_eq_sub_mod (show k ≥ z.size by omega)]
  have hlen : (List.replicate n z.toList).flatten.length = n * z.size := by simp
  rcases Nat.lt_or_ge k (n * z.size) with g | g
  · rw [key n k g]
    have hm := Nat.mod_lt k hz
    simp [g, hm]
  · rw [List.getElem?_eq_none (by simpa using g), List.getElem?_eq_none (by omega)]
theorem RowsR.replicate {α : Type} {R : α → List Value → Prop} {y : α} {l : List Value} (h : R y l) (n : Nat) : RowsR R l.length (List.replicate n y) (List.replicate n l).flatten := by
  intro i z hz
  obtain ⟨hi, rfl⟩ : i < n ∧ z = y := by
    have := List.getElem?_eq_some_iff.1 hz
    obtain ⟨h1, h2⟩ := this
    simp at h1 h2
    exact ⟨h1, h2.symm⟩
  have key : ∀ n i, i < n → ((List.replicate n l).flatten.drop (i * l.length)).take l.length = l := by
    intro n
    induction n with
    | zero => intro i h; omega
    | succ n ih =>
      intro i h
      rw [List.replicate_succ, List.flatten_cons]
      cases i with
      | zero => simp
      | succ i =>
        rw [Nat.add_mul, Nat.one_mul, Nat.add_comm, ← List.drop_drop, List.drop_left]
        exact ih i (by omega)
  rw [key n i hi]
  exact h
theorem amake_sound (hr : Rel w0 c) {t : TypeId} {lv cv v : V} {lu cu : Value} {p : Option Prop} {st' : List Ob} (h : amake P c.st t lv cv = some (p, v, st')) (hp : vc p) (hl : RelV c lv lu) (hc : RelV c cv cu) :
    ∃ u c', (Instr.makeSlice t lu cu).run P c.w = .ok u c'.w ∧ c'.st = st' ∧ Rel w0 c' ∧ Ext c c' ∧ RelV c' v u := by
  unfold amake at h
  split at h
  · next e k n k' m hu =>
    simp only [RelV] at hl hc
    subst hl; subst hc
    split at h
    · next τ zs hτ hz =>
      split at h
      · next hok =>
        obtain ⟨i, z, hi, hsz, hpos, hb1, hb2, hzz, hzs⟩ := elemOk_sound hok
        have hzl := zeroV_len hz hi hzz
        split at h
        · next y hd =>
          cases h
          simp only [vc] at hp
          obtain ⟨h0, h1, h2⟩ := hp
          have hw1 : IntKind.i64.wrap n = n := IntWalk.i64_in n ⟨by omega, by omega⟩
          have hw2 : IntKind.i64.wrap m = m := IntWalk.i64_in m ⟨by omega, by omega⟩
          obtain ⟨us1, us2, hue, hro, hnil⟩ := dec_sound (c := c) hd (by rw [hzl]; exact RelVs.map_x z.cells.toList)
          simp only [RelVs] at hnil
          subst hnil
          rw [List.append_nil] at hue
          subst hue
          have hzpos : 0 < z.cells.size := by omega
          have hrep := range_map_rep (z := z.cells) hzpos m.toNat
          have hrows := RowsR.replicate (R := RoV c.w c.A τ) hro m.toNat
          obtain ⟨c', g1, g2, g3, g4, g5⟩ := newRows_rel hr hpos (ys := List.replicate n.toNat y) (ce := (Array.range (m.toNat * z.cells.size)).map (fun k => z.cells[k % z.cells.size]!)) (e := e) (cap := m.toNat)
            (by simp [hzs]) (by simp; omega) (fun i' y' hy' => by
              rw [hrep]
              have hi' : i' < n.toNat := by have := (List.getElem?_eq_some_iff.1 hy').1; simpa using this
              have hl : z.cells.toList.length = τ.size := by simpa using hzs
              rw [hl] at hrows
              refine hrows i' y' ?_
              rw [List.getElem?_replicate, if_pos hi'] at hy'
              rw [List.getElem?_replicate, if_pos (by omega)]
              exact hy')
          refine ⟨_, c', ?_, g2, g3, g4, by simpa using g5⟩
          have hb : ¬ (m < 0 ∨ (i.bytes : Int) * m > 2 ^ 48) := by
            have : (i.bytes : Int) * m ≤ 65536 * 1073741824 := Int.mul_le_mul (by omega) h2 (by omega) (by omega)
            omega
          have hti : ∀ w, (typeInfo e).run P w = .ok i w := fun w => by simp [typeInfo, hi]
          have hzr : ∀ w, (zeroValue e).run P w = .ok z w := fun w => by simp [zeroValue, typeInfo, hi, hzz]
          have hzn : ¬ z.cells.size = 0 := by omega
          unfold Instr.makeSlice
          simp only [Sem.run_bind, run_underlying hu, Result.andThen_ok, asInt, asIntOf, Sem.run_pure, hti, hw1, hw2, run_sizeOf' hi, hsz, ← hzs]
          have hcond : ((decide (m < 0) || decide ((i.bytes : Int) * m > 2 ^ 48)) = true ∨ n < 0 ∨ n > m) = False := by
            simp only [Bool.or_eq_true, decide_eq_true_eq, eq_iff_iff, iff_false]
            rintro (h | h | h)
            · exact hb h
            · omega
            · omega
          simp only [Bool.or_eq_true, decide_eq_true_eq] at hcond ⊢
          rw [if_neg (by
            rintro ((h | h) | h)
            all_goals simp_all
            all_goals omega)]
          simp only [Sem.run_pure, Result.andThen_ok, Sem.run_bind, run_askRoom, run_sizeOf' hi, hsz, ← hzs]
          by_cases hm0 : m.toNat * z.cells.size = 0
          · rw [if_pos hm0]
            have hm1 : m.toNat = 0 := by
              rcases Nat.mul_eq_zero.1 hm0 with g | g
              · exact g
              · exact absurd g hzn
            simp only [hm1, Nat.zero_mul, Sem.run_pure, Result.andThen_ok, newRow, Sem.run_bind, run_newObj] at g1 ⊢
            have h00 : ∀ f : Nat → Value, (Array.range 0).map f = #[] := fun f => by simp
            rw [g1, h00, h00]
            rfl
          · rw [if_neg hm0]
            simp only [Sem.run_bind, hzr, Result.andThen_ok, Sem.run_pure, newRow, run_newObj]
            rw [g1]
            simp
        · cases h
      · cases h
    · cases h
  · cases h
theorem RelVs.flatten_rep {vs : List V} {us : List Value} (h : RelVs c vs us) : ∀ n, RelVs c (List.replicate n vs).flatten (List.replicate n us).flatten
  | 0 => RelVs.nil
  | n + 1 => by
    rw [List.replicate_succ, List.replicate_succ, List.flatten_cons, List.flatten_cons]
    exact RelVs.append h (RelVs.flatten_rep h n)
theorem abuildSlice_sound (hr : Rel w0 c) {t : TypeId} {len : Nat} {parts : List (Nat × V)} {parts' : Array (Nat × Value)} {v : V} {st' : List Ob} (h : abuildSlice P c.st t len parts = some (v, st'))
    (he : parts.map (·.1) = parts'.toList.map (·.1)) (hp : RelVs c (parts.map (·.2)) (parts'.toList.map (·.2))) :
    ∃ u c', (Instr.buildSlice t len parts').run P c.w = .ok u c'.w ∧ c'.st = st' ∧ Rel w0 c' ∧ Ext c c' ∧ RelV c' v u := by
  unfold abuildSlice at h
  split at h
  · next e hu =>
    split at h
    · next τ zs hτ hz =>
      split at h
      · next hok =>
        obtain ⟨i, z, hi, hsz, hpos, hb1, hb2, hzz, hzs⟩ := elemOk_sound hok
        have hzl := zeroV_len hz hi hzz
        subst hzl
        split at h
        · next hle =>
          split at h
          · next cs hf =>
            split at h
            · next ys hd =>
              cases h
              have hz0 : RelVs c (List.replicate len (z.cells.toList.map V.x)).flatten (List.replicate len z.cells.toList).flatten := RelVs.flatten_rep (RelVs.map_x z.cells.toList) len
              have hzpos : 0 < z.cells.size := by omega
              have hrep := range_map_rep (z := z.cells) hzpos len
              obtain ⟨us2, h1, h2⟩ := afill_sound (us := (Array.range (len * z.cells.size)).map (fun k => z.cells[k % z.cells.size]!)) hf he hp (by rw [hrep]; exact hz0)
              obtain ⟨c1, hw1, hst1, hr1, hx1, hfr⟩ := frzs_sound (vs := cs) hr
              obtain ⟨h3, h4, h5⟩ := decRows_sound hd (hfr _ h2)
              have hti : ∀ w, (typeInfo e).run P w = .ok i w := fun w => by simp [typeInfo, hi]
              have hzr : ∀ w, (zeroValue e).run P w = .ok z w := fun w => by simp [zeroValue, typeInfo, hi, hzz]
              obtain ⟨c2, g1, g2, g3, g4, g5⟩ := newRows_rel hr1 hpos (ys := ys) (ce := us2) (e := e) (cap := len) (by simpa using h4) (by omega) h5
              refine ⟨.slice (some ⟨c.w.heap.size, 0, none⟩) len len, c2, ?_, by rw [g2, hst1], g3, hx1.trans g4, by rw [hst1, hw1, h3] at g5; exact g5⟩
              unfold Instr.buildSlice
              have hle' : ¬ (len * τ.size > 2 ^ 24) := by omega
              simp only [Sem.run_bind, run_underlying hu, Result.andThen_ok, run_sizeOf' hi, hsz]
              rw [if_neg hle']
              have hls : len * τ.size = len * z.cells.size := by rw [hzs]
              simp only [Sem.run_pure, Result.andThen_ok, Sem.run_bind, hls]
              by_cases hm0 : len * z.cells.size = 0
              · have hl0 : len = 0 := by
                  rcases Nat.mul_eq_zero.1 hm0 with g | g
                  · exact g
                  · omega
                subst hl0
                have h00 : ∀ f : Nat → Value, (Array.range 0).map f = #[] := fun f => by simp
                rw [if_pos hm0]
                rw [Nat.zero_mul, h00] at h1
                simp only [Sem.run_pure, Sem.run_bind, Result.andThen_ok, Nat.zero_mul, h00, h1, newRow, run_newObj]
                rw [g1, hw1]
                rfl
              · rw [if_neg hm0]
                simp only [Sem.run_bind, hzr, Result.andThen_ok, Sem.run_pure, h1, newRow, run_newObj]
                rw [g1, hw1]
                rfl
            · cases h
          · cases h
        · cases h
      · cases h
    · cases h
  · cases h
theorem aclear_sound (hr : Rel w0 c) {t ty : TypeId} {ts : Array TypeId} {xv : V} {xu : Value} {st' : List Ob} (h : aclear P c.st t xv = some st') (hx : RelV c xv xu) (ht : ts[0]? = some t) :
    ∃ c', (Builtin.clear_ ts ty #[xu]).run P c.w = .ok (.tuple #[]) c'.w ∧ c'.st = st' ∧ Rel w0 c' ∧ Ext c c' := by
  unfold aclear at h
  split at h
  · next e r lo n hu =>
    split at h
    · next τ xs zs hst hz =>
      split at h
      · next hok =>
        split at h
        · next y hd =>
          cases h
          obtain ⟨i, z, hi, hsz, hpos, hb1, hb2, hzz, hzs⟩ := elemOk_sound hok
          have hzl := zeroV_len hz hi hzz
          obtain ⟨us1, us2, hue, hro, hnil⟩ := dec_sound (c := c) hd (by rw [hzl]; exact RelVs.map_x z.cells.toList)
          simp only [RelVs] at hnil
          subst hnil
          rw [List.append_nil] at hue
          subst hue
          simp only [RelV, hst] at hx
          obtain ⟨hlo, hx⟩ := hx
          have hzl' : z.cells.toList.length = τ.size := by simpa using hzs
          have hrl := live_lt (live_of hst (by simp))
          by_cases hn : n = 0
          · subst hn
            have same : c.st.set r (.vec τ 0 (xs.take lo ++ List.replicate 0 y ++ xs.drop (lo + 0))) = c.st := by
              have e1 : xs.take lo ++ List.replicate 0 y ++ xs.drop (lo + 0) = xs := by simp
              rw [e1]
              apply List.ext_getElem?
              intro k
              rw [List.getElem?_set]
              split
              · next e => subst e; first | exact hst.symm | rw [if_pos hrl, hst]
              · rfl
            refine ⟨c, ?_, same.symm, hr, Ext.refl c⟩
            have hu0 : ∃ a k, xu = .slice a 0 k := by
              rcases hx with ⟨_, rfl⟩ | ⟨b, cap, _, rfl, _⟩ | ⟨_, _, a, rfl⟩ <;> exact ⟨_, _, rfl⟩
            obtain ⟨a, k, rfl⟩ := hu0
            cases a <;> simp [Builtin.clear_, ht, run_underlying hu]
          · rcases hx with ⟨h1, rfl⟩ | ⟨b, cap, hb, rfl, hcap, _⟩ | ⟨h0, _⟩
            · obtain ⟨_, _, ⟨_, rfl⟩ | ⟨b', ce, ty, cap, hb', _⟩⟩ := hr.obj r _ hst
              · simp at hlo; omega
              · rw [h1] at hb'; cases hb'
            · obtain ⟨hp, hf, ⟨h1, rfl⟩ | ⟨b', ce, e', cap', h1, h2, h3, h4, h5, h6⟩⟩ := hr.obj r _ hst
              · rw [h1] at hb; cases hb
              rw [h1] at hb; cases hb
              have hcl : ce.toList.length = cap' * τ.size := by simpa using h3
              have hmul : (lo + n) * τ.size ≤ xs.length * τ.size := Nat.mul_le_mul_right _ hlo
              have hmul2 : xs.length * τ.size ≤ cap' * τ.size := Nat.mul_le_mul_right _ h4
              rw [Nat.add_mul] at hmul
              have hZ : (Builtin.zeroCells z.cells n).toList = (List.replicate n z.cells.toList).flatten := range_map_rep (by omega) n
              have hZl : ((List.replicate n z.cells.toList).flatten).length = n * τ.size := by simp [hzs]
              have hrep : RowsR (RoV c.w c.A τ) τ.size (List.replicate n y) (List.replicate n z.cells.toList).flatten := by
                have := RowsR.replicate (R := RoV c.w c.A τ) hro n
                rw [hzl'] at this
                exact this
              have hone := RowsR.one hrep (by rw [hZl]; simp) hpos
              have hst' := run_storeCells_at (P := P) b (lo * τ.size) e' _ 0 ce c.w h2 (by rw [hZl]; omega) hone
              simp only [Nat.add_zero] at hst'
              rw [hZl] at hst'
              have hrun : (Builtin.clear_ ts ty #[.slice (some ⟨b, lo * τ.size, none⟩) n cap]).run P c.w = .ok (.tuple #[]) (c.w.setRow b (ce.toList.take (lo * τ.size) ++ (List.replicate n z.cells.toList).flatten ++ ce.toList.drop (lo * τ.size + n * τ.size)).toArray) := by
                obtain ⟨m, rfl⟩ : ∃ m, n = m + 1 := ⟨n - 1, by omega⟩
                simp [Builtin.clear_, ht, run_underlying hu, zeroValue, typeInfo, hi, hzz, hZ, hst']
              generalize hNL : ce.toList.take (lo * τ.size) ++ (List.replicate n z.cells.toList).flatten ++ ce.toList.drop (lo * τ.size + n * τ.size) = nl at *
              have hnl : nl.length = ce.toList.length := by
                rw [← hNL]
                simp only [List.length_append, hZl, List.length_take, List.length_drop]
                omega
              have hold : ∀ i, i < lo ∨ lo + n ≤ i → (nl.drop (i * τ.size)).take τ.size = (ce.toList.drop (i * τ.size)).take τ.size := by
                intro i hi'
                apply List.ext_getElem?
                intro k
                rw [List.getElem?_take, List.getElem?_take]
                split
                · next hk =>
                  rw [List.getElem?_drop, List.getElem?_drop, ← hNL]
                  rcases hi' with g | g
                  · have : (i + 1) * τ.size ≤ lo * τ.size := Nat.mul_le_mul_right _ g
                    rw [Nat.add_mul, Nat.one_mul] at this
                    rw [List.append_assoc, List.getElem?_append_left (by rw [List.length_take]; omega), List.getElem?_take, if_pos (by omega)]
                  · have : (lo + n) * τ.size ≤ i * τ.size := Nat.mul_le_mul_right _ g
                    rw [Nat.add_mul] at this
                    rw [List.getElem?_append_right (by rw [List.length_append, List.length_take, hZl]; omega), List.getElem?_drop, List.length_append, List.length_take, hZl]
                    congr 1
                    omega
                · rfl
              have hmid : ∀ i, lo ≤ i → i < lo + n → (nl.drop (i * τ.size)).take τ.size = (((List.replicate n z.cells.toList).flatten).drop ((i - lo) * τ.size)).take τ.size := by
                intro i g1 g2
                have m1 : (i - lo + 1) * τ.size ≤ n * τ.size := Nat.mul_le_mul_right _ (by omega)
                have m2 : i * τ.size = lo * τ.size + (i - lo) * τ.size := by rw [← Nat.add_mul]; congr 1; omega
                rw [Nat.add_mul, Nat.one_mul] at m1
                apply List.ext_getElem?
                intro k
                rw [List.getElem?_take, List.getElem?_take]
                split
                · next hk =>
                  rw [List.getElem?_drop, List.getElem?_drop, ← hNL, List.append_assoc, List.getElem?_append_right (by rw [List.length_take]; omega), List.getElem?_append_left (by rw [List.length_take, hZl]; omega), List.length_take]
                  congr 1
                  omega
                · rfl
              obtain ⟨k1, k2⟩ := put_rel (ob := .vec τ 0 (xs.take lo ++ List.replicate n y ++ xs.drop (lo + n))) hr hst (by simp) h1 h2 (ce := nl.toArray) (fun o ho => absurd ho (h6 o (by omega)))
                ⟨0, xs, hst, by simp; omega, rfl, fun b2 n2 hb2 hrr => by
                  rw [h1] at hb2; cases hb2
                  obtain ⟨ce', e2, fz, g1, g2⟩ := hrr
                  rw [h2] at g1; cases g1
                  refine ⟨_, e', _, setRow_heap c.w b ce _ e' _ h2, ?_⟩
                  simp only [List.size_toArray, hnl, ← g2, Array.length_toList]⟩
                ⟨hp, Nat.zero_le _, .inr ⟨b, _, e', cap', h1, setRow_heap c.w b ce _ e' _ h2, by simp only [List.size_toArray, hnl, hcl], by simp; omega, fun i x hx' => by
                  have hext : ∀ {x : τ.den} {us : List Value}, RoV c.w c.A τ x us → RoV (c.w.setRow b nl.toArray) c.A τ x us := fun hz =>
                    RoV.ext (fun _ _ h => h) (fun b2 o ho => by
                      have hbb : b2 ≠ b := by rintro rfl; exact h6 o (by omega) ho
                      exact World.cell?_of_block (w := c.w) (setRow_other c.w b b2 _ hbb)) hz
                  refine hext ?_
                  have hll : (xs.take lo).length = lo := by rw [List.length_take]; omega
                  rcases Nat.lt_or_ge i lo with g | g
                  · rw [List.append_assoc, List.getElem?_append_left (by omega), List.getElem?_take, if_pos g] at hx'
                    show RoV c.w c.A τ x ((nl.drop (i * τ.size)).take τ.size)
                    rw [hold i (.inl g)]
                    exact h5 i x hx'
                  · rcases Nat.lt_or_ge i (lo + n) with g2 | g2
                    · rw [List.append_assoc, List.getElem?_append_right (by omega), List.getElem?_append_left (by rw [hll, List.length_replicate]; omega), hll] at hx'
                      show RoV c.w c.A τ x ((nl.drop (i * τ.size)).take τ.size)
                      rw [hmid i g g2]
                      exact hrep _ _ hx'
                    · rw [List.getElem?_append_right (by rw [List.length_append, hll, List.length_replicate]; omega), List.length_append, hll, List.length_replicate, List.getElem?_drop, show lo + n + (i - (lo + n)) = i from by omega] at hx'
                      show RoV c.w c.A τ x ((nl.drop (i * τ.size)).take τ.size)
                      rw [hold i (.inr g2)]
                      exact h5 i x hx', fun o ho => h6 o ho⟩⟩
              exact ⟨_, hrun, rfl, k1, k2⟩
            · exact absurd h0 hn
        · cases h
      · cases h
    · cases h
  · cases h
end
theorem appz_sound {P : Program} {w0 : Base} {c : Cfg} (hr : Rel w0 c) {sT xT ty e : TypeId} {t : Ty} {sv xv v : V} {su xu : Value} {p : Option Prop} {st' : List Ob} (hu : P.underlying sT = some (.slice e)) (h : aappZ P c.st e t xT sv xv = some (p, v, st')) (hp : vc p)
    (hs : RelV c sv su) (hx : RelV c xv xu) : ∃ u c', (Builtin.append_ #[sT, xT] ty #[su, xu]).run P c.w = .ok u c'.w ∧ c'.st = st' ∧ Rel w0 c' ∧ Ext c c' ∧ RelV c' v u := by
  unfold aappZ at h
  split at h
  · next kn k n zs hxT hz =>
    simp only [RelV] at hs hx
    subst hs; subst hx
    split at h
    · next hok =>
      obtain ⟨i, z, hi, hsz, hpos, hb1, hb2, hzz, hzs⟩ := elemOk_sound hok
      have hzl := zeroV_len hz hi hzz
      split at h
      · next y hd =>
        cases h
        simp only [vc] at hp
        obtain ⟨h0, h1⟩ := hp
        obtain ⟨m, rfl⟩ : ∃ m : Nat, n = m := ⟨n.toNat, by omega⟩
        rw [Int.toNat_natCast]
        obtain ⟨us1, us2, hue, hro, hnil⟩ := dec_sound (c := c) hd (by rw [hzl]; exact RelVs.map_x z.cells.toList)
        simp only [RelVs] at hnil
        subst hnil
        rw [List.append_nil] at hue
        subst hue
        have hzpos : 0 < z.cells.size := by omega
        obtain ⟨hd1, hd2⟩ := drew_rel hr
        have hbm : m * i.bytes ≤ 1073741824 * 65536 := Nat.mul_le_mul (by omega) hb1
        have hrun := Go.Lib.run_append_nil_zeros (P := P) c.w sT xT ty e i z k kn hu hxT hi hzz m (by omega) (by omega) (by omega) (by omega)
        have hcap : m ≤ grownCap c.w m 0 e := by
          unfold grownCap
          simp only [Question.cut]
          omega
        have hrep : ∀ q, (Builtin.zeroCells z.cells q).toList = (List.replicate q z.cells.toList).flatten := fun q => range_map_rep hzpos q
        have hlen : ∀ q, (Builtin.zeroCells z.cells q).size = q * t.size := fun q => by simp [Builtin.zeroCells, hzs]
        have hrows := RowsR.replicate (R := RoV c.w c.A t) hro m
        have hl : z.cells.toList.length = t.size := by simpa using hzs
        rw [hl] at hrows
        obtain ⟨c', g1, g2, g3, g4, g5⟩ := newRows_rel hd1 hpos (ys := List.replicate m y) (ce := Builtin.zeroCells z.cells m ++ Builtin.zeroCells z.cells (grownCap c.w m 0 e - m)) (e := e) (cap := grownCap c.w m 0 e)
          (by rw [Array.size_append, hlen, hlen, ← Nat.add_mul]; congr 1; omega) (by simpa using hcap) (fun i' y' hy' => by
            have := RowsR.append (l3 := (Builtin.zeroCells z.cells (grownCap c.w m 0 e - m)).toList) (ys := []) (l2 := []) hrows (by rw [← hrep]; simp [hlen]) (fun i y hy => by simp at hy) (by simp) i' y' (by simpa using hy')
            rw [Array.toList_append, hrep m]
            show RoV c.w.drew c.A t y' _
            refine RoV.ext (w := c.w) (w' := c.w.drew) (A := c.A) (A' := c.A) (fun _ _ h => h) (fun _ _ _ => rfl) ?_
            simpa using this)
        refine ⟨_, c', ?_, g2, g3, hd2.trans g4, by simpa using g5⟩
        rw [g1]
        simpa using hrun
      · cases h
    · cases h
  · cases h
theorem pclear_sound {P : Program} {w0 : Base} {c : Cfg} (hr : Rel w0 c) {t ty : TypeId} {ts : Array TypeId} {xv : V} {xu : Value} {q : Option Prop} {st' : List Ob} (h : pclear P c.st t xv = some (q, st')) (hq : vc q) (hx : RelV c xv xu) (ht : ts[0]? = some t) :
    ∃ c', (Builtin.clear_ ts ty #[xu]).run P c.w = .ok (.tuple #[]) c'.w ∧ c'.st = st' ∧ Rel w0 c' ∧ Ext c c' := by
  unfold pclear at h
  cases h
theorem andO_split {p : Option Prop} {q : Prop} (h : andO p q) : vc p ∧ q := by
  cases p with
  | none => exact ⟨trivial, h⟩
  | some p => exact h
section
variable {P : Program} {w0 : Base} {c : Cfg} {Q : Exit → Act → World → Prop} {C : Caller}
theorem aeff_sound (hC : SoundC P C) (hr : Rel w0 c) {a : Act} {fs : Facts} {ρ : Facts → Operand → V}
    (hρ : ∀ gs x, (∀ g, g ∈ gs → a.eval (.tmp g.1) = .bool g.2) → RelV c (ρ gs x) (a.eval x)) (hfs : ∀ g, g ∈ fs → a.eval (.tmp g.1) = .bool g.2)
    {o : Oper} {k : V → List Ob → Prop} (h : aeff P C c.st fs ρ o.op k) {next : Act → World → Prop}
    (hnext : ∀ v c' u, Rel w0 c' → Ext c c' → RelV c' v u → k v c'.st → next (a.put o.dst u) c'.w) : o.wp P a c.w next Q := by
  have hx : ∀ x, RelV c (ρ fs x) (a.eval x) := fun x => hρ fs x hfs
  obtain ⟨dst, op, ty, pos, after, guard⟩ := o
  simp only at h hnext
  cases op with
  | pick cnd x y =>
    cases cnd with
    | tmp s =>
      simp only [aeff] at h
      split at h
      · next t hc =>
        have hcv := hx (.tmp s)
        rw [hc] at hcv
        simp only [RelV] at hcv
        have hrun : (execOp a.eval ⟨dst, .pick (.tmp s) x y, ty, pos, after, guard⟩).run P c.w = .ok (.value (if t = true then a.eval x else a.eval y)) c.w := by
          simp [execOp, hcv, asBool]
        refine wp_value hrun ?_
        have hfact : ∀ tt, t = tt → ∀ g, g ∈ (s, tt) :: fs → a.eval (.tmp g.1) = .bool g.2 := fun tt ht g hg => by
          rcases List.mem_cons.1 hg with rfl | hg
          · rw [hcv, ht]
          · exact hfs g hg
        cases t
        · exact hnext _ c _ hr (Ext.refl c) (hρ _ _ (hfact false rfl)) h
        · exact hnext _ c _ hr (Ext.refl c) (hρ _ _ (hfact true rfl)) h
      · exact h.elim
    | _ => simp [aeff] at h
  | alloc t =>
    simp only [aeff] at h
    split at h
    · next cs hz =>
      obtain ⟨z, hzr, rfl⟩ := run_zeroValue' hz
      obtain ⟨c', h1, h2, h3, h4, h5⟩ := newCells_rel hr z.cells t (RelVs.map_x z.cells.toList)
      refine wp_value (u := .pointer (some ⟨c.w.heap.size, 0, none⟩)) (w' := c'.w) ?_ (hnext _ c' _ h3 h4 h5 (by rw [h2]; exact h))
      simp only [execOp, Instr.alloc, Sem.run_bind, hzr, Result.andThen_ok, newVar, newRow, run_newObj, Sem.run_pure]
      rw [h1]
      rfl
    · exact h.elim
  | box t x =>
    simp only [aeff] at h
    split at h
    · next cs hvc =>
      have hcells := vcells_sound hvc (hx x)
      obtain ⟨c', h1, h2, h3, h4, h5⟩ := newCells_rel hr (a.eval x).cells t hcells
      refine wp_value (u := .pointer (some ⟨c.w.heap.size, 0, none⟩)) (w' := c'.w) ?_ (hnext _ c' _ h3 h4 h5 (by rw [h2]; exact h))
      simp only [execOp, Instr.box, Sem.run_bind, newVar, newRow, run_newObj, Result.andThen_ok, Sem.run_pure]
      rw [h1]
      rfl
    · exact h.elim
  | buildSlice t len parts =>
    simp only [aeff] at h
    split at h
    · next v st' hv =>
      obtain ⟨u, c', h1, h2, h3, h4, h5⟩ := abuildSlice_sound (P := P) hr (parts' := parts.map fun p => (p.1, a.eval p.2)) hv (by simp) (by
        simp only [List.map_map, Array.toList_map]
        have := RelVs.operands hx (parts.toList.map (·.2))
        simpa [List.map_map, Function.comp_def] using this)
      refine wp_value (u := u) (w' := c'.w) ?_ (hnext _ c' _ h3 h4 h5 (by rw [h2]; exact h))
      simp only [execOp, Sem.run_bind, h1, Result.andThen_ok, Sem.run_pure]
    · exact h.elim
  | makeSlice t l cp =>
    simp only [aeff] at h
    split at h
    · next p v st' hv =>
      obtain ⟨hp, hk⟩ := andO_split h
      obtain ⟨u, c', h1, h2, h3, h4, h5⟩ := amake_sound (P := P) hr hv hp (hx l) (hx cp)
      refine wp_value (u := u) (w' := c'.w) ?_ (hnext _ c' _ h3 h4 h5 (by rw [h2]; exact hk))
      simp only [execOp, Sem.run_bind, h1, Result.andThen_ok, Sem.run_pure]
    · exact h.elim
  | store t ad x =>
    simp only [aeff] at h
    split at h
    · next r p m xs hq =>
      have fin : ∀ (c1 : Cfg) (xv : V), c1.w = c.w → Rel w0 c1 → Ext c c1 → RelV c1 xv (a.eval x) → storeK P c1.st t (ρ fs ad) xv k → Oper.wp P ⟨dst, .store t ad x, ty, pos, after, guard⟩ a c.w next Q := by
        intro c1 xv hw hr1 hx1 hxv hk
        unfold storeK at hk
        split at hk
        · next st' hv =>
          obtain ⟨c', h1, h2, h3, h4⟩ := astore_sound (P := P) hr1 hv (RelV.ext hx1 _ _ (hx ad)) hxv
          rw [hw] at h1
          refine wp_skip' (w' := c'.w) ?_ (hnext .any c' _ h3 (hx1.trans h4) (by simp only [RelV]) (by rw [h2]; exact hk))
          simp only [execOp, Sem.run_bind, h1, Result.andThen_ok, Sem.run_pure]
        · exact hk.elim
      rcases adopt_sound hr hq (hx x) with ⟨e1, e2, h1, h2⟩ | ⟨b, cap, e0, e1, e2, h1, h2⟩
      · exact fin { c with st := c.st.set r .dead } (.x (.slice none 0 0)) rfl h1 h2 (by simp only [RelV]; exact e2) (h.1 e1)
      · exact fin { c with st := (c.st.set r .dead).set p (.pool ((b, (xs, cap)) :: m)) } (.hd ⟨some ⟨b, 0, none⟩, xs.length, cap⟩) rfl h1 h2 (by simp only [RelV]; exact e2) (h.2 b cap e0 e1)
    · split at h
      · next st' hv =>
        obtain ⟨c', h1, h2, h3, h4⟩ := astore_sound (P := P) hr hv (hx ad) (hx x)
        refine wp_skip' (w' := c'.w) ?_ (hnext .any c' _ h3 h4 (by simp only [RelV]) (by rw [h2]; exact h))
        simp only [execOp, Sem.run_bind, h1, Result.andThen_ok, Sem.run_pure]
      · split at h
        · next p st' hv =>
          obtain ⟨hp, hk⟩ := andO_split h
          obtain ⟨c', h1, h2, h3, h4⟩ := pstore_sound (P := P) hr hv hp (hx ad) (hx x)
          refine wp_skip' (w' := c'.w) ?_ (hnext .any c' _ h3 h4 (by simp only [RelV]) (by rw [h2]; exact hk))
          simp only [execOp, Sem.run_bind, h1, Result.andThen_ok, Sem.run_pure]
        · split at h
          · next p st' hv =>
            obtain ⟨hp, hk⟩ := andO_split h
            obtain ⟨c', h1, h2, h3, h4⟩ := estore_sound (P := P) hr hv hp (hx ad) (hx x)
            refine wp_skip' (w' := c'.w) ?_ (hnext .any c' _ h3 h4 (by simp only [RelV]) (by rw [h2]; exact hk))
            simp only [execOp, Sem.run_bind, h1, Result.andThen_ok, Sem.run_pure]
          · exact h.elim
  | call cl =>
    obtain ⟨callee, args, argTypes⟩ := cl
    cases callee with
    | builtin b =>
      cases b <;> first | (simp [aeff] at h; done) | skip
      rotate_left
      · simp only [aeff] at h
        split at h
        · next x t hargs hts =>
          split at h
          · next st' hv =>
            have h0 : argTypes[0]? = some t := by rw [← Array.getElem?_toList, hts]; rfl
            have hmap : args.map a.eval = #[a.eval x] := by
              apply Array.ext'
              simp [hargs]
            obtain ⟨c', h1, h2, h3, h4⟩ := aclear_sound (P := P) (ty := ty) hr hv (hx x) h0
            refine wp_value (u := .tuple #[]) (w' := c'.w) ?_ (hnext (.tup []) c' _ h3 h4 (by unfold RelV; exact ⟨#[], rfl, by unfold RelVs; rfl⟩) (by rw [h2]; exact h))
            simp only [execOp, resolve, Sem.run_bind, Sem.run_pure, Result.andThen_ok, invoke, builtin, hmap, h1]
          · split at h
            · next p st' hv =>
              obtain ⟨hp, hk⟩ := andO_split h
              have h0 : argTypes[0]? = some t := by rw [← Array.getElem?_toList, hts]; rfl
              have hmap : args.map a.eval = #[a.eval x] := by
                apply Array.ext'
                simp [hargs]
              obtain ⟨c', h1, h2, h3, h4⟩ := pclear_sound (P := P) (ty := ty) hr hv hp (hx x) h0
              refine wp_value (u := .tuple #[]) (w' := c'.w) ?_ (hnext (.tup []) c' _ h3 h4 (by unfold RelV; exact ⟨#[], rfl, by unfold RelVs; rfl⟩) (by rw [h2]; exact hk))
              simp only [execOp, resolve, Sem.run_bind, Sem.run_pure, Result.andThen_ok, invoke, builtin, hmap, h1]
            · exact h.elim
        · exact h.elim
      simp only [aeff] at h
      split at h
      · next x y hargs =>
        split at h
        · next p v st' hv =>
          obtain ⟨hp, hk⟩ := andO_split h
          unfold aappend at hv
          split at hv
          · next sT xT rest hts =>
            split at hv
            · next e hu =>
              split at hv
              · next t ht =>
                split at hv
                · next hsa =>
                  split at hv
                  · next hok =>
                    split at hv
                    · next xs f ys htgt hsrc =>
                      simp only [Option.some.injEq, Prod.mk.injEq] at hv
                      obtain ⟨rfl, rfl, rfl⟩ := hv
                      have h0 : argTypes[0]? = some sT := by rw [← Array.getElem?_toList, hts]; rfl
                      have h1 : argTypes[1]? = some xT := by rw [← Array.getElem?_toList, hts]; rfl
                      have hmap : args.map a.eval = #[a.eval x, a.eval y] := by
                        apply Array.ext'
                        simp [hargs]
                      obtain ⟨u, c', g1, g2, g3, g4, g5⟩ := append_sound (P := P) (ty := ty) hr (hx x) (hx y) htgt hsrc h0 h1 hu hsa hok hp
                      refine wp_value (u := u) (w' := c'.w) ?_ (hnext _ c' _ g2 g3 g5 (by rw [g4]; exact hk))
                      simp only [execOp, resolve, Sem.run_bind, Sem.run_pure, Result.andThen_ok, invoke, builtin, hmap, g1]
                    · cases hv
                  · cases hv
                · split at hv
                  · have hat : argTypes = #[sT, xT] := by
                      apply Array.toList_inj.1
                      rw [hts]
                    have hmap : args.map a.eval = #[a.eval x, a.eval y] := by
                      apply Array.ext'
                      simp [hargs]
                    obtain ⟨u, c', g1, g2, g3, g4, g5⟩ := appz_sound (P := P) (ty := ty) hr hu hv hp (hx x) (hx y)
                    refine wp_value (u := u) (w' := c'.w) ?_ (hnext _ c' _ g3 g4 g5 (by rw [g2]; exact hk))
                    simp only [execOp, resolve, Sem.run_bind, Sem.run_pure, Result.andThen_ok, invoke, builtin, hmap, hat, g1]
                  · cases hv
              · cases hv
            · cases hv
          · cases hv
        · obtain ⟨u, v, c', g1, g2, g3, g4, g5⟩ := papp_sound (P := P) (ty := ty) hr h (hx x) (hx y)
          have hmap : args.map a.eval = #[a.eval x, a.eval y] := by
            apply Array.ext'
            simp [hargs]
          refine wp_value (u := u) (w' := c'.w) ?_ (hnext v c' _ g2 g3 g4 g5)
          simp only [execOp, resolve, Sem.run_bind, Sem.run_pure, Result.andThen_ok, invoke, builtin, hmap, g1]
      · exact h.elim
    | value f =>
      simp only [aeff] at h
      split at h
      · next g first captured er =>
        split at h
        · next hcal =>
          have hf := hx f
          rw [er] at hf
          simp only [RelV] at hf
          obtain ⟨us1, us2, he, hf1, hf2⟩ := hf
          have hargs : RelVs c (first ++ args.toList.map (ρ fs) ++ captured) (us1 ++ args.map a.eval ++ us2).toList := by
            simp only [Array.toList_append, Array.toList_map]
            exact RelVs.append (RelVs.append hf1 (RelVs.operands hx args.toList)) hf2
          have hcalls := hC w0 c g _ _ _ hr hargs h
          unfold callable at hcal
          split at hcal
          · next fn hfn =>
            simp only [Bool.and_eq_true, bne_iff_ne, ne_eq] at hcal
            have hbn : fn.body.isNone = false := by
              cases hb : fn.body with
              | none => rw [hb] at hcal; simp at hcal
              | some b => rfl
            unfold Oper.wp
            have hrun : (execOp a.eval ⟨dst, .call ⟨.value f, args, argTypes⟩, ty, pos, after, guard⟩).run P c.w = .ok (.enter g (us1 ++ args.map a.eval ++ us2)) c.w := by
              simp [execOp, resolve, Deferred.ofValue, he, invoke, callFunc, hfn, hcal.1, show fn.body ≠ none from by intro h; rw [h] at hbn; cases hbn]
            rw [hrun]
            simp only [Oper.upon]
            refine hcalls.mono fun e w' hh => ?_
            obtain ⟨u, v, c', rfl, rfl, h3, h4, h5, h6⟩ := hh
            exact hnext v c' u h3 h4 h5 h6
          · cases hcal
        · exact h.elim
      · exact h.elim
    | _ => simp [aeff] at h
  | _ => simp [aeff] at h
def aop (P : Program) (C : Caller) (st : List Ob) (fs : Facts) (ρ : Facts → Operand → V) (o : Op) (k : V → List Ob → Prop) : Prop :=
  match aval P st fs ρ o with
  | some (p, v) => andO p (k v st)
  | none => aeff P C st fs ρ o k
theorem aop_sound (hC : SoundC P C) (hr : Rel w0 c) {a : Act} {fs : Facts} {ρ : Facts → Operand → V}
    (hρ : ∀ gs x, (∀ g, g ∈ gs → a.eval (.tmp g.1) = .bool g.2) → RelV c (ρ gs x) (a.eval x)) (hfs : ∀ g, g ∈ fs → a.eval (.tmp g.1) = .bool g.2)
    {o : Oper} {k : V → List Ob → Prop} (h : aop P C c.st fs ρ o.op k) {next : Act → World → Prop}
    (hnext : ∀ v c' u, Rel w0 c' → Ext c c' → RelV c' v u → k v c'.st → next (a.put o.dst u) c'.w) : o.wp P a c.w next Q := by
  unfold aop at h
  split at h
  · next p v hv =>
    obtain ⟨hp, hk⟩ := andO_split h
    obtain ⟨u, h1, h2⟩ := aval_sound (P := P) hr hρ hfs hv hp
    exact wp_value h1 (hnext v c u hr (Ext.refl c) h2 hk)
  · exact aeff_sound hC hr hρ hfs h hnext
end
end Eng
end Go.Proofs.YtkpplfghhciacaaDoor
set_option linter.unusedVariables false
set_option linter.unusedSimpArgs false
namespace Go.Proofs.YtkpplfghhciacaaDoor
namespace Eng
open Go.RowKit
def forceV : V → (V → Prop) → Prop
  | .any, k => k .any
  | .x v, k => k (.x v)
  | .ro t xs, k => k (.ro t xs)
  | .rc cs j, k => k (.rc cs j)
  | .cl r i, k => k (.cl r i)
  | .el r i j, k => k (.el r i j)
  | .vec r, k => k (.vec r)
  | .vw r l n, k => k (.vw r l n)
  | .agg cs, k => k (.agg cs)
  | .tup cs, k => k (.tup cs)
  | .fn f a b, k => k (.fn f a b)
  | .gd g w v, k => k (.gd g w v)
  | .hd h, k => k (.hd h)
  | .pt a i, k => k (.pt a i)
theorem forceV_eq (v : V) (k : V → Prop) : forceV v k = k v := by
  cases v <;> rfl
def forceL : List V → (List V → Prop) → Prop
  | [], k => k []
  | v :: vs, k => forceV v fun v => forceL vs fun r => k (v :: r)
theorem forceL_eq : ∀ (l : List V) (k : List V → Prop), forceL l k = k l
  | [], _ => rfl
  | v :: vs, k => by rw [forceL, forceV_eq, forceL_eq vs]
def SlotR (c : Cfg) (sl : List V) (tmps : Array Value) (t : Nat) : Prop :=
  match sl.getD t .any with
  | .gd g w v => (tmps.getD g undef = .bool w → RelV c v (tmps.getD t undef)) ∧ (tmps.getD g undef ≠ .bool w → tmps.getD t undef = undef)
  | v => RelV c v (tmps.getD t undef)
structure SlR (c : Cfg) (sl : List V) (tmps : Array Value) : Prop where
  len : sl.length ≤ tmps.size
  slot : ∀ t, SlotR c sl tmps t
def GdIn (G : List Nat) (sl : List V) : Prop := ∀ t g w v, sl.getD t .any = .gd g w v → g ∈ G
theorem SlR.ext {c c' : Cfg} (hx : Ext c c') {sl : List V} {tmps : Array Value} (h : SlR c sl tmps) : SlR c' sl tmps where
  len := h.len
  slot := fun t => by
    have := h.slot t
    unfold SlotR at this ⊢
    split
    · next g w v e =>
      rw [e] at this
      exact ⟨fun hg => RelV.ext hx _ _ (this.1 hg), this.2⟩
    · next hn =>
      split at this
      · next g w v e => exact absurd e (hn g w v)
      · exact RelV.ext hx _ _ this
def nogd : V → V
  | .gd _ _ _ => .any
  | v => v
theorem nogd_rel {c : Cfg} {v : V} {u : Value} (h : RelV c v u) : RelV c (nogd v) u := by
  cases v <;> first | exact h | simp only [nogd, RelV]
theorem nogd_ne {v : V} {g : Nat} {w : Bool} {x : V} : nogd v ≠ .gd g w x := by
  cases v <;> simp [nogd]
def ungd (d : Nat) : V → V
  | .gd g w v => if g = d then .any else .gd g w v
  | v => v
def cst : Value → V
  | .agg cs => .agg (cs.toList.map .x)
  | v => .x v
theorem cst_rel {c : Cfg} (v : Value) : RelV c (cst v) v := by
  cases v <;> first | (simp only [cst, RelV]; done) | skip
  simp only [cst, RelV]
  exact ⟨_, rfl, RelVs.map_x _⟩
def rdv (sl : List V) (fs : Facts) : Operand → V
  | .tmp t => match sl.getD t .any with
    | .gd g w v => if fs.any (fun f => f.1 == g && f.2 == w) = true then v else .any
    | v => v
  | .const v => cst v
  | .func f => .fn (.func f) [] []
  | .global _ => .any
theorem rdv_rel {c : Cfg} {sl : List V} {a : Act} (h : SlR c sl a.tmps) (fs : Facts) (x : Operand) (hfs : ∀ g, g ∈ fs → a.eval (.tmp g.1) = .bool g.2) : RelV c (rdv sl fs x) (a.eval x) := by
  cases x with
  | tmp t =>
    have := h.slot t
    unfold SlotR at this
    simp only [rdv, Act.eval]
    split at this
    · next g w v e =>
      split
      · next hany =>
        rw [List.any_eq_true] at hany
        obtain ⟨f, hf, he⟩ := hany
        simp only [Bool.and_eq_true, beq_iff_eq] at he
        have := hfs f hf
        simp only [Act.eval] at this
        rw [he.1, he.2] at this
        rename_i hh
        exact hh.1 this
      · simp only [RelV]
    · exact this
  | const v => exact cst_rel v
  | global g => simp only [rdv, RelV]
  | func f =>
    simp only [rdv, RelV, Act.eval]
    exact ⟨#[], #[], rfl, RelVs.nil, RelVs.nil⟩
def conds (sl : List V) : Nat → Nat → Bool → Option (Facts × List (Bool × Bool))
  | 0, _, _ => none
  | n + 1, g, w => match sl.getD g .any with
    | .x (.bool b) => some ([(g, w)], [(b, w)])
    | .x (.tuple _) => some ([(g, w)], [(false, true)])
    | .gd g' w' (.x (.bool b)) => match conds sl n g' w' with
      | some (fs, bs) => some ((g, w) :: fs, bs ++ [(b, w)])
      | none => none
    | .gd g' w' (.x (.tuple _)) => match conds sl n g' w' with
      | some (fs, bs) => some ((g, w) :: fs, bs ++ [(false, true)])
      | none => none
    | _ => none
def okAll (bs : List (Bool × Bool)) : Bool := bs.all fun p => p.1 == p.2
theorem undef_ne_bool (b : Bool) : undef ≠ .bool b := by simp [undef]
theorem conds_sound {c : Cfg} {sl : List V} {tmps : Array Value} (h : SlR c sl tmps) : ∀ (n g : Nat) (w : Bool) (fs : Facts) (bs : List (Bool × Bool)), conds sl n g w = some (fs, bs) →
    (tmps.getD g undef = .bool w ↔ okAll bs = true) ∧ (tmps.getD g undef = .bool w → ∀ f, f ∈ fs → tmps.getD f.1 undef = .bool f.2)
  | 0, g, w, fs, bs, hc => by simp [conds] at hc
  | n + 1, g, w, fs, bs, hc => by
    have hs := h.slot g
    unfold SlotR at hs
    simp only [conds] at hc
    split at hc
    · next b e =>
      cases hc
      rw [e] at hs
      simp only [RelV] at hs
      refine ⟨?_, fun hg f hf => ?_⟩
      · rw [hs]
        simp [okAll]
      · simp only [List.mem_singleton] at hf
        subst hf
        exact hg
    · next u e =>
      cases hc
      rw [e] at hs
      simp only [RelV] at hs
      exact ⟨⟨fun hg => (by rw [hs] at hg; cases hg), fun hall => (by simp [okAll] at hall)⟩, fun hg => (by rw [hs] at hg; cases hg)⟩
    · next g' w' b e =>
      split at hc
      · next fs' bs' hc' =>
        cases hc
        rw [e] at hs
        simp only [RelV] at hs
        obtain ⟨h1, h2⟩ := conds_sound h n g' w' fs' bs' hc'
        refine ⟨⟨fun hg => ?_, fun hall => ?_⟩, fun hg f hf => ?_⟩
        · by_cases hg' : tmps.getD g' undef = .bool w'
          · have := hs.1 hg'
            rw [this] at hg
            cases hg
            simp only [okAll, List.all_append, Bool.and_eq_true, List.all_cons, List.all_nil, beq_self_eq_true, Bool.and_true, and_true]
            exact h1.1 hg'
          · rw [hs.2 hg'] at hg
            exact absurd hg (undef_ne_bool _)
        · simp only [okAll, List.all_append, Bool.and_eq_true, List.all_cons, List.all_nil, Bool.and_true, beq_iff_eq] at hall
          have := hs.1 (h1.2 hall.1)
          rw [this, hall.2]
        · rcases List.mem_cons.1 hf with rfl | hf
          · exact hg
          · by_cases hg' : tmps.getD g' undef = .bool w'
            · exact h2 hg' f hf
            · rw [hs.2 hg'] at hg
              exact absurd hg (undef_ne_bool _)
      · cases hc
    · next g' w' u e =>
      split at hc
      · next fs' bs' hc' =>
        cases hc
        rw [e] at hs
        simp only [RelV] at hs
        have hno : tmps.getD g undef ≠ .bool w := fun hg => by
          by_cases hg' : tmps.getD g' undef = .bool w'
          · rw [hs.1 hg'] at hg; cases hg
          · rw [hs.2 hg'] at hg
            exact absurd hg (undef_ne_bool _)
        exact ⟨⟨fun hg => absurd hg hno, fun hall => (by simp [okAll] at hall)⟩, fun hg => absurd hg hno⟩
      · cases hc
    · cases hc
def imps : List (Bool × Bool) → Prop → Prop
  | [], p => p
  | (b, w) :: r, p => (b == w) = true → imps r p
theorem imps_out : ∀ {bs : List (Bool × Bool)} {p : Prop}, imps bs p → okAll bs = true → p
  | [], p, h, _ => h
  | (b, w) :: r, p, h, ho => by
    simp only [okAll, List.all_cons, Bool.and_eq_true] at ho
    exact imps_out (h ho.1) ho.2
def andG (bs : List (Bool × Bool)) (p : Option Prop) (q : Prop) : Prop := match p with
  | none => q
  | some p => imps bs p ∧ q
theorem andG_out {bs : List (Bool × Bool)} {p : Option Prop} {q : Prop} (h : andG bs p q) : (okAll bs = true → vc p) ∧ q := by
  cases p with
  | none => exact ⟨fun _ => trivial, h⟩
  | some p => exact ⟨fun ho => imps_out h.1 ho, h.2⟩
def putS (G : List Nat) (d : Option Nat) (v : V) (sl : List V) : List V :=
  match d with
  | none => sl
  | some d => if G.contains d = true then (sl.map (ungd d)).set d v else sl.set d v
theorem getD_set {α : Type} (l : List α) (d t : Nat) (v x : α) : (l.set d v).getD t x = if d = t ∧ d < l.length then v else l.getD t x := by
  simp only [List.getD_eq_getElem?_getD, List.getElem?_set]
  by_cases h : d = t
  · subst h
    by_cases h2 : d < l.length
    · simp [h2]
    · simp [h2]
  · simp [h]
theorem getD_map_ungd (l : List V) (d t : Nat) : (l.map (ungd d)).getD t .any = ungd d (l.getD t .any) := by
  simp only [List.getD_eq_getElem?_getD, List.getElem?_map]
  cases l[t]? <;> rfl
theorem arr_getD_set (a : Array Value) (d t : Nat) (u : Value) : (a.setIfInBounds d u).getD t undef = if d = t ∧ d < a.size then u else a.getD t undef := by
  simp only [Array.getD_eq_getD_getElem?, Array.getElem?_setIfInBounds]
  by_cases h : d = t
  · subst h
    by_cases h2 : d < a.size
    · simp [h2]
    · simp [h2]
  · simp [h]
theorem putS_rel {c : Cfg} {G : List Nat} {sl : List V} {a : Act} (h : SlR c sl a.tmps) (hg : GdIn G sl) {d : Option Nat} {v : V} {u : Value}
    (hv : match v with
      | .gd g w x => g ∈ G ∧ d ≠ some g ∧ (a.tmps.getD g undef = .bool w → RelV c x u) ∧ (a.tmps.getD g undef ≠ .bool w → u = undef)
      | v => RelV c v u) : SlR c (putS G d v sl) (a.put d u).tmps ∧ GdIn G (putS G d v sl) := by
  cases d with
  | none => exact ⟨h, hg⟩
  | some d =>
    simp only [putS, Act.put]
    have key : ∀ sl1 : List V, sl1.length = sl.length → (∀ t, sl1.getD t .any = sl.getD t .any ∨ sl1.getD t .any = .any) → (∀ t g w x, sl1.getD t .any = .gd g w x → g ≠ d) →
        SlR c (sl1.set d v) (a.tmps.setIfInBounds d u) ∧ GdIn G (sl1.set d v) := by
      intro sl1 hlen hsame hno
      have hl := h.len
      refine ⟨⟨by simp [hlen]; exact hl, fun t => ?_⟩, fun t g w x e => ?_⟩
      · unfold SlotR
        rw [getD_set]
        by_cases hdt : d = t ∧ d < sl1.length
        · rw [if_pos hdt]
          obtain ⟨rfl, hdl⟩ := hdt
          have hda : d < a.tmps.size := by omega
          cases v with
          | gd g w x =>
            simp only at hv ⊢
            obtain ⟨h1, h2, h3, h4⟩ := hv
            have hgd : ¬ (d = g ∧ d < a.tmps.size) := fun e => h2 (by rw [e.1])
            rw [arr_getD_set, arr_getD_set, if_neg hgd, if_pos ⟨rfl, hda⟩]
            exact ⟨h3, h4⟩
          | _ =>
            simp only at hv ⊢
            rw [arr_getD_set, if_pos ⟨rfl, hda⟩]
            exact hv
        · rw [if_neg hdt]
          have htt : (a.tmps.setIfInBounds d u).getD t undef = a.tmps.getD t undef ∨ sl1.getD t .any = .any := by
            by_cases hdt2 : d = t
            · right
              have : sl1.length ≤ t := by omega
              simp [List.getD, List.getElem?_eq_none this]
            · left
              rw [arr_getD_set, if_neg (fun e => hdt2 e.1)]
          rcases htt with htt | htt
          · have hs := h.slot t
            unfold SlotR at hs
            rcases hsame t with e | e
            · rw [e, htt]
              split
              · next g w x e2 =>
                rw [e2] at hs
                have hne : g ≠ d := hno t g w x (e.trans e2)
                rw [arr_getD_set, if_neg (fun e => hne e.1.symm)]
                exact hs
              · next hn =>
                split at hs
                · next g w x e2 => exact absurd e2 (hn g w x)
                · exact hs
            · rw [e]
              simp only [RelV]
          · rw [htt]
            simp only [RelV]
      · rw [getD_set] at e
        split at e
        · subst e
          exact hv.1
        · rcases hsame t with e2 | e2
          · rw [e2] at e
            exact hg t g w x e
          · rw [e2] at e
            cases e
    split
    · next hc =>
      refine key _ (by simp) (fun t => ?_) (fun t g w x e => ?_)
      · rw [getD_map_ungd]
        cases sl.getD t .any with
        | gd g w x =>
          simp only [ungd]
          split
          · exact .inr rfl
          · exact .inl rfl
        | _ => exact .inl rfl
      · rw [getD_map_ungd] at e
        cases hh : sl.getD t .any with
        | gd g' w' x' =>
          rw [hh] at e
          simp only [ungd] at e
          split at e
          · cases e
          · next hne => cases e; exact hne
        | _ => rw [hh] at e; simp [ungd] at e
    · next hc =>
      refine key sl rfl (fun t => .inl rfl) (fun t g w x e => ?_)
      rintro rfl
      have := hg t g w x e
      exact hc (by simpa using this)
def gslot (ops : List Oper) (j : Nat) : Option Nat := match ops[j]? with
  | some o => o.dst
  | none => none
def aops (P : Program) (C : Caller) (G : List Nat) (ops : List Oper) : List Oper → List V → List Ob → (List V → List Ob → Prop) → Prop
  | [], sl, st, K => K sl st
  | o :: rest, sl, st, K =>
    match o.guard with
    | none => aop P C st [] (rdv sl) o.op fun v st' => aops P C G ops rest (putS G o.dst (nogd v) sl) st' K
    | some (j, w) => match gslot ops j with
      | none => False
      | some g => match conds sl 8 g w with
        | none => False
        | some (fs, bs) =>
          if G.contains g = true then
            match aval P st fs (rdv sl) o.op, o.dst with
            | some (p, v), some d => if d = g then False else andG bs p (aops P C G ops rest (putS G (some d) (.gd g w (nogd v)) sl) st K)
            | _, _ => bif okAll bs then aop P C st fs (rdv sl) o.op fun v st' => aops P C G ops rest (putS G o.dst (nogd v) sl) st' K
              else aops P C G ops rest (putS G o.dst (.x undef) sl) st K
          else False
theorem nogd_hv {c : Cfg} {G : List Nat} {d : Option Nat} {a : Act} {v : V} {u : Value} (h : RelV c v u) : match nogd v with
    | .gd g w x => g ∈ G ∧ d ≠ some g ∧ (a.tmps.getD g undef = .bool w → RelV c x u) ∧ (a.tmps.getD g undef ≠ .bool w → u = undef)
    | v => RelV c v u := by
  have := nogd_rel h
  split
  · next g w x e => exact absurd e nogd_ne
  · exact this
theorem wanted_iff {ops : Array Oper} {o : Oper} {tmps : Array Value} {j g : Nat} {w : Bool} (ho : o.guard = some (j, w)) (hg : gslot ops.toList j = some g) :
    Region.wanted o (yielded ops tmps) = true ↔ tmps.getD g undef = .bool w := by
  unfold gslot at hg
  simp only [Array.getElem?_toList] at hg
  split at hg
  · next oj hj =>
    simp only [Region.wanted, ho, yielded, hj, Option.bind_some, hg]
    rw [Array.getD_eq_getD_getElem?]
    cases ht : tmps[g]? with
    | none => simp [undef]
    | some x =>
      cases x <;> simp
  · cases hg
theorem aops_sound {P : Program} {w0 : Base} {C : Caller} (hC : SoundC P C) {G : List Nat} {ops : Array Oper} {Q : Exit → Act → World → Prop} :
    ∀ (l : List Oper) (c : Cfg) (sl : List V) (a : Act) (K : List V → List Ob → Prop), Rel w0 c → SlR c sl a.tmps → GdIn G sl → aops P C G ops.toList l sl c.st K →
      (∀ sl' c' a', Rel w0 c' → Ext c c' → SlR c' sl' a'.tmps → GdIn G sl' → a'.defers = a.defers → K sl' c'.st → Q .normal a' c'.w) → wpList P ops Q l a c.w
  | [], c, sl, a, K, hr, hs, hg, h, hK => hK sl c a hr (Ext.refl c) hs hg rfl h
  | o :: rest, c, sl, a, K, hr, hs, hg, h, hK => by
    have hput : ∀ (d : Option Nat) (u : Value), (a.put d u).defers = a.defers := fun d u => by cases d <;> rfl
    have hρ : ∀ gs x, (∀ g, g ∈ gs → a.eval (.tmp g.1) = .bool g.2) → RelV c (rdv sl gs x) (a.eval x) := fun gs x hgs => rdv_rel hs gs x hgs
    have run : ∀ fs : Facts, (∀ g, g ∈ fs → a.eval (.tmp g.1) = .bool g.2) → (aop P C c.st fs (rdv sl) o.op fun v st' => aops P C G ops.toList rest (putS G o.dst (nogd v) sl) st' K) →
        o.wp P a c.w (wpList P ops Q rest) Q := fun fs hfs h => by
      refine aop_sound hC hr hρ hfs h (fun v c' u h1 h2 h3 h4 => ?_)
      obtain ⟨g1, g2⟩ := putS_rel (a := a) (d := o.dst) (SlR.ext h2 hs) hg (nogd_hv h3)
      refine aops_sound hC rest c' _ _ K h1 g1 g2 h4 fun sl' c'' a' k1 k2 k3 k4 k5 k6 => hK sl' c'' a' k1 (h2.trans k2) k3 k4 (k5.trans (hput _ _)) k6
    unfold wpList
    simp only [aops] at h
    split at h
    · next hgd =>
      have hw : Region.wanted o (yielded ops a.tmps) = true := by simp [Region.wanted, hgd]
      rw [if_pos hw]
      exact .inl (run [] (fun g hh => by simp at hh) h)
    · next j w hgd =>
      split at h
      · exact h.elim
      · next g hgs =>
        have hwi := wanted_iff (tmps := a.tmps) hgd hgs
        split at h
        · exact h.elim
        · next fs bs hc =>
          obtain ⟨c1, c2⟩ := conds_sound hs 8 g w fs bs hc
          split at h
          · next hG =>
            have hGm : g ∈ G := by simpa using hG
            split at h
            · next p v d hv hd =>
              split at h
              · exact h.elim
              · next hne =>
                obtain ⟨hp, hk⟩ := andG_out h
                have next' : ∀ u, (a.tmps.getD g undef = .bool w → RelV c v u) → (a.tmps.getD g undef ≠ .bool w → u = undef) → wpList P ops Q rest (a.put o.dst u) c.w := by
                  intro u hu1 hu2
                  obtain ⟨g1, g2⟩ := putS_rel (a := a) (d := some d) (v := .gd g w (nogd v)) (u := u) hs hg ⟨hGm, fun e => hne (by cases e; rfl), fun e => nogd_rel (hu1 e), hu2⟩
                  rw [hd]
                  exact aops_sound hC rest c _ _ K hr g1 g2 hk fun sl' c'' a' k1 k2 k3 k4 k5 k6 => hK sl' c'' a' k1 k2 k3 k4 (k5.trans (hput _ _)) k6
                by_cases hw : Region.wanted o (yielded ops a.tmps) = true
                · rw [if_pos hw]
                  have hgw := hwi.1 hw
                  obtain ⟨u, h1, h2⟩ := aval_sound (P := P) hr hρ (c2 hgw) hv (hp (c1.1 hgw))
                  exact .inl (wp_value h1 (next' u (fun _ => h2) (fun e => absurd hgw e)))
                · rw [if_neg hw]
                  exact next' undef (fun e => absurd (hwi.2 e) hw) (fun _ => rfl)
            · by_cases hw : Region.wanted o (yielded ops a.tmps) = true
              · rw [if_pos hw]
                have hgw := hwi.1 hw
                rw [c1.1 hgw] at h
                exact .inl (run fs (c2 hgw) h)
              · rw [if_neg hw]
                have hall : okAll bs = false := by
                  cases hb : okAll bs with
                  | false => rfl
                  | true => exact absurd (hwi.2 (c1.2 hb)) hw
                rw [hall] at h
                obtain ⟨g1, g2⟩ := putS_rel (a := a) (d := o.dst) (v := .x undef) (u := undef) hs hg (by simp only [RelV])
                exact aops_sound hC rest c _ _ K hr g1 g2 h fun sl' c'' a' k1 k2 k3 k4 k5 k6 => hK sl' c'' a' k1 k2 k3 k4 (k5.trans (hput _ _)) k6
          · exact h.elim
def guards (ops : List Oper) : List Oper → List Nat
  | [] => []
  | o :: r => match o.guard with
    | some (j, _) => match gslot ops j with
      | some g => if (guards ops r).contains g = true then guards ops r else g :: guards ops r
      | none => guards ops r
    | none => guards ops r
def clr (G : List Nat) (sl : List V) : List V := match G with
  | [] => sl
  | _ => sl.map nogd
theorem clr_rel {c : Cfg} {G : List Nat} {sl : List V} {tmps : Array Value} (h : SlR c sl tmps) (hg : GdIn G sl) : SlR c (clr G sl) tmps ∧ GdIn [] (clr G sl) := by
  cases G with
  | nil => exact ⟨h, hg⟩
  | cons g0 G =>
    have hmap : ∀ t, (sl.map nogd).getD t .any = nogd (sl.getD t .any) := fun t => by
      simp only [List.getD_eq_getElem?_getD, List.getElem?_map]
      cases sl[t]? <;> rfl
    refine ⟨⟨by simp [clr]; exact h.len, fun t => ?_⟩, fun t g w v e => ?_⟩
    · have hs := h.slot t
      unfold SlotR at hs ⊢
      simp only [clr, hmap]
      cases hh : sl.getD t .any with
      | gd g w v => simp only [nogd, RelV]
      | _ => rw [hh] at hs; simpa only [nogd] using hs
    · simp only [clr, hmap] at e
      exact absurd e nogd_ne
end Eng
end Go.Proofs.YtkpplfghhciacaaDoor
set_option linter.unusedVariables false
set_option linter.unusedSimpArgs false
namespace Go.Proofs.YtkpplfghhciacaaDoor
namespace Eng
open Go.RowKit
abbrev Kn := List (Nat × Option Bool)
def KnIs (v : Value) : Option Bool → Prop
  | some w => v = .bool w
  | none => ∀ w, v ≠ .bool w
def KnR (kn : Kn) (tmps : Array Value) : Prop := ∀ p, p ∈ kn → KnIs (tmps.getD p.1 undef) p.2
def look : Kn → Nat → Option (Option Bool)
  | [], _ => none
  | (g, x) :: r, h => if g = h then some x else look r h
theorem look_mem : ∀ {kn : Kn} {g : Nat} {x : Option Bool}, look kn g = some x → (g, x) ∈ kn
  | [], g, x, h => by simp [look] at h
  | (g', x') :: r, g, x, h => by
    simp only [look] at h
    split at h
    · next e => subst e; cases h; exact List.mem_cons_self
    · exact List.mem_cons_of_mem _ (look_mem h)
def forget (d : Option Nat) (kn : Kn) : Kn := match d with
  | none => kn
  | some d => kn.filter fun p => p.1 != d
theorem forget_rel {kn : Kn} {a : Act} (h : KnR kn a.tmps) (d : Option Nat) (u : Value) : KnR (forget d kn) (a.put d u).tmps := by
  cases d with
  | none => exact h
  | some d =>
    intro p hp
    simp only [forget, List.mem_filter, bne_iff_ne, ne_eq] at hp
    have := h p hp.1
    simp only [Act.put]
    rw [arr_getD_set, if_neg (fun e => hp.2 e.1.symm)]
    exact this
def learn (d : Option Nat) (kn : Kn) : Kn := match d with
  | none => kn
  | some d => (d, none) :: forget (some d) kn
theorem learn_rel {kn : Kn} {a : Act} (h : KnR kn a.tmps) (d : Option Nat) : KnR (learn d kn) (a.put d undef).tmps := by
  cases d with
  | none => exact h
  | some d =>
    intro p hp
    rcases List.mem_cons.1 hp with rfl | hp
    · simp only [Act.put]
      intro w
      rw [arr_getD_set]
      split
      · simp [undef]
      · next hn =>
        have : a.tmps.getD d undef = undef := by
          rw [Array.getD_eq_getD_getElem?, Array.getElem?_eq_none (by
            by_cases hh : d < a.tmps.size
            · exact absurd ⟨rfl, hh⟩ hn
            · omega)]
          rfl
        rw [this]
        simp [undef]
    · exact forget_rel h (some d) undef p hp
def rsV (g : Nat) (x : Option Bool) : V → V
  | .gd g' w v => if g' = g then (match x with
      | some b => bif b == w then nogd v else .any
      | none => .any) else .gd g' w v
  | v => v
def res (g : Nat) (x : Option Bool) (sl : List V) : List V := match x with
  | some b => (sl.map (rsV g x)).set g (.x (.bool b))
  | none => sl.map (rsV g x)
theorem rsV_rel {c : Cfg} {g : Nat} {x : Option Bool} {sl : List V} {tmps : Array Value} (h : SlR c sl tmps) (hx : KnIs (tmps.getD g undef) x) (t : Nat) : match rsV g x (sl.getD t .any) with
  | .gd g w v => (tmps.getD g undef = .bool w → RelV c v (tmps.getD t undef)) ∧ (tmps.getD g undef ≠ .bool w → tmps.getD t undef = undef)
  | v => RelV c v (tmps.getD t undef) := by
  have hs := h.slot t
  unfold SlotR at hs
  cases hh : sl.getD t .any with
  | gd g' w v =>
    rw [hh] at hs
    simp only [rsV]
    by_cases e : g' = g
    · rw [if_pos e]
      subst e
      cases x with
      | none => simp only [RelV]
      | some b =>
        simp only [KnIs] at hx
        simp only
        by_cases hb : b = w
        · subst hb
          have := nogd_rel (hs.1 hx)
          simp only [beq_self_eq_true, cond_true]
          split
          · next e => exact absurd e nogd_ne
          · exact this
        · have : (b == w) = false := by simp [hb]
          rw [this]
          simp only [cond_false, RelV]
    · rw [if_neg e]
      exact hs
  | _ => rw [hh] at hs; simpa only [rsV] using hs
theorem getD_map_rsV (l : List V) (g : Nat) (x : Option Bool) (t : Nat) : (l.map (rsV g x)).getD t .any = rsV g x (l.getD t .any) := by
  simp only [List.getD_eq_getElem?_getD, List.getElem?_map]
  cases l[t]? <;> rfl
theorem res_rel {c : Cfg} {G : List Nat} {g : Nat} {x : Option Bool} {sl : List V} {tmps : Array Value} (h : SlR c sl tmps) (hg : GdIn G sl) (hx : KnIs (tmps.getD g undef) x) : SlR c (res g x sl) tmps ∧ GdIn G (res g x sl) := by
  have h1 : SlR c (sl.map (rsV g x)) tmps := ⟨by simpa using h.len, fun t => by
    unfold SlotR
    rw [getD_map_rsV]
    exact rsV_rel h hx t⟩
  have h2 : GdIn G (sl.map (rsV g x)) := fun t g' w v e => by
    rw [getD_map_rsV] at e
    cases hh : sl.getD t .any with
    | gd g'' w' v' =>
      rw [hh] at e
      simp only [rsV] at e
      split at e
      · cases x with
        | none => cases e
        | some b =>
          simp only at e
          by_cases hb : (b == w') = true
          · rw [hb] at e; exact absurd e nogd_ne
          · rw [Bool.eq_false_iff.2 hb] at e; cases e
      · cases e; exact hg t _ _ _ hh
    | _ => rw [hh] at e; simp [rsV] at e
  cases x with
  | none => exact ⟨h1, h2⟩
  | some b =>
    refine ⟨⟨by simpa [res] using h.len, fun t => ?_⟩, fun t g' w v e => ?_⟩
    · unfold SlotR
      simp only [res]
      rw [getD_set]
      by_cases e : g = t ∧ g < (sl.map (rsV g (some b))).length
      · rw [if_pos e, ← e.1]
        simp only [RelV]
        exact hx
      · rw [if_neg e]
        exact h1.slot t
    · simp only [res] at e
      rw [getD_set] at e
      split at e
      · cases e
      · exact h2 t g' w v e
def br (b w : Bool) (p q : Prop) : Prop := match w with
  | true => bif b then p else q
  | false => bif b then q else p
theorem br_out {b w : Bool} {p q : Prop} (h : br b w p q) : (b = w ∧ p) ∨ (b = !w ∧ q) := by
  cases w <;> cases b <;> simp_all [br]
def split (Kt Kf : Kn → List V → Prop) : Nat → Nat → Bool → Kn → List V → Prop
  | 0, _, _, _, _ => False
  | n + 1, g, w, kn, sl => match look kn g with
    | some (some b) => bif b == w then Kt kn sl else Kf kn sl
    | some none => Kf kn sl
    | none => match sl.getD g .any with
      | .x (.bool b) => br b w (Kt ((g, some w) :: kn) (res g (some w) sl)) (Kf ((g, some (!w)) :: kn) (res g (some (!w)) sl))
      | .gd g' w' (.x (.bool b)) => split (fun kn sl => br b w (Kt ((g, some w) :: kn) (res g (some w) sl)) (Kf ((g, some (!w)) :: kn) (res g (some (!w)) sl)))
          (fun kn sl => Kf ((g, none) :: kn) (res g none sl)) n g' w' kn sl
      | _ => False
theorem knR_cons {kn : Kn} {tmps : Array Value} (h : KnR kn tmps) {g : Nat} {x : Option Bool} (hx : KnIs (tmps.getD g undef) x) : KnR ((g, x) :: kn) tmps := fun p hp => by
  rcases List.mem_cons.1 hp with rfl | hp
  · exact hx
  · exact h p hp
theorem split_sound {c : Cfg} {G : List Nat} {tmps : Array Value} : ∀ (n g : Nat) (w : Bool) (Kt Kf : Kn → List V → Prop) (kn : Kn) (sl : List V), SlR c sl tmps → GdIn G sl → KnR kn tmps → split Kt Kf n g w kn sl →
    ∃ kn' sl', SlR c sl' tmps ∧ GdIn G sl' ∧ KnR kn' tmps ∧ ((tmps.getD g undef = .bool w ∧ Kt kn' sl') ∨ (tmps.getD g undef ≠ .bool w ∧ Kf kn' sl'))
  | 0, g, w, Kt, Kf, kn, sl, hs, hg, hk, h => by simp [split] at h
  | n + 1, g, w, Kt, Kf, kn, sl, hs, hg, hk, h => by
    simp only [split] at h
    have leaf : ∀ (b : Bool) (kn : Kn) (sl : List V), SlR c sl tmps → GdIn G sl → KnR kn tmps → tmps.getD g undef = .bool b →
        br b w (Kt ((g, some w) :: kn) (res g (some w) sl)) (Kf ((g, some (!w)) :: kn) (res g (some (!w)) sl)) →
        ∃ kn' sl', SlR c sl' tmps ∧ GdIn G sl' ∧ KnR kn' tmps ∧ ((tmps.getD g undef = .bool w ∧ Kt kn' sl') ∨ (tmps.getD g undef ≠ .bool w ∧ Kf kn' sl')) := by
      intro b kn sl hs hg hk hb h
      rcases br_out h with ⟨rfl, h⟩ | ⟨rfl, h'⟩
      · have hx : KnIs (tmps.getD g undef) (some b) := hb
        obtain ⟨h1, h2⟩ := res_rel hs hg hx
        exact ⟨_, _, h1, h2, knR_cons hk hx, .inl ⟨hb, h⟩⟩
      · have hx : KnIs (tmps.getD g undef) (some (!w)) := hb
        obtain ⟨h1, h2⟩ := res_rel hs hg hx
        exact ⟨_, _, h1, h2, knR_cons hk hx, .inr ⟨by rw [hb]; simp, h'⟩⟩
    split at h
    · next b hl =>
      have hb := hk _ (look_mem hl)
      simp only [KnIs] at hb
      refine ⟨kn, sl, hs, hg, hk, ?_⟩
      by_cases e : b = w
      · subst e
        simp only [beq_self_eq_true, cond_true] at h
        exact .inl ⟨hb, h⟩
      · have : (b == w) = false := by simp [e]
        rw [this] at h
        exact .inr ⟨by rw [hb]; simpa using e, h⟩
    · next hl =>
      have hb : KnIs _ none := hk _ (look_mem hl)
      exact ⟨kn, sl, hs, hg, hk, .inr ⟨hb w, h⟩⟩
    · next hl =>
      have hsg := hs.slot g
      unfold SlotR at hsg
      split at h
      · next b e =>
        rw [e] at hsg
        simp only [RelV] at hsg
        exact leaf b kn sl hs hg hk hsg h
      · next g' w' b e =>
        rw [e] at hsg
        simp only [RelV] at hsg
        obtain ⟨kn', sl', k1, k2, k3, h⟩ := split_sound n g' w' _ _ kn sl hs hg hk h
        rcases h with ⟨h1, h⟩ | ⟨h1, h⟩
        · exact leaf b kn' sl' k1 k2 k3 (hsg.1 h1) h
        · have hu := hsg.2 h1
          have hx : KnIs (tmps.getD g undef) none := fun w => by rw [hu]; simp [undef]
          obtain ⟨r1, r2⟩ := res_rel k1 k2 hx
          exact ⟨_, _, r1, r2, knR_cons k3 hx, .inr ⟨hx w, h⟩⟩
      · exact h.elim
def nilCmp (P : Program) (st : List Ob) (sl : List V) : Op → Option (Nat × Bool)
  | .binOp op t x (.const (.slice none 0 0)) _ => match P.underlying t with
    | some (.slice _) => match (match op with | .eql => some false | .neq => some true | _ => none) with
      | some neg => match rdv sl [] x with
        | .ro _ xs => some (xs.length, neg)
        | .vec r => match st[r]? with
          | some (.vec _ _ xs) => some (xs.length, neg)
          | _ => none
        | .x (.slice none 0 0) => some (0, neg)
        | _ => none
      | none => none
    | _ => none
  | _ => none
def aopN (P : Program) (C : Caller) (st : List Ob) (sl : List V) (op : Op) (k : V → List Ob → Prop) : Prop := match nilCmp P st sl op with
  | some (n, neg) => ∀ b : Bool, (n ≠ 0 → b = false) → k (.x (.bool (bif neg then !b else b))) st
  | none => aop P C st [] (rdv sl) op k
theorem run_equalNil {P : Program} {t e : TypeId} (ht : P.underlying t = some (.slice e)) (a : Option Addr) (l cap : Nat) (w : World) :
    (Op.equal t (.slice a l cap) (.slice none 0 0)).run P w = .ok a.isNone w := by
  show (Op.equalIn (9999 + 1) t (.slice a l cap) (.slice none 0 0)).run P w = _
  unfold Op.equalIn
  cases a <;> simp [run_underlying ht]
theorem run_nilCmp {P : Program} {op : BinOp} {neg : Bool} (ho : (match op with | .eql => some false | .neq => some true | _ => none) = some neg) {t e : TypeId} (ht : P.underlying t = some (.slice e)) (x y : Operand) (a : Option Addr) (l cap : Nat) (w : World) :
    ((do eqGuard op t x y (.slice a l cap) (.slice none 0 0); binOp op t (.slice a l cap) (.slice none 0 0) : Sem Value)).run P w = .ok (.bool (bif neg then !a.isNone else a.isNone)) w := by
  cases op <;> first | (cases ho; done) | skip
  · cases ho
    have h1 : (eqGuard .eql t x y (.slice a l cap) (.slice none 0 0)).run P w = .ok () w := rfl
    have h2 : binOp .eql t (.slice a l cap) (.slice none 0 0) = (do pure (.bool (← Op.equal t (.slice a l cap) (.slice none 0 0)))) := by unfold binOp; rfl
    rw [Sem.run_bind, h1, Result.andThen_ok, h2, Sem.run_bind, run_equalNil ht]
    rfl
  · cases ho
    have h1 : (eqGuard .neq t x y (.slice a l cap) (.slice none 0 0)).run P w = .ok () w := rfl
    have h2 : binOp .neq t (.slice a l cap) (.slice none 0 0) = (do pure (.bool (!(← Op.equal t (.slice a l cap) (.slice none 0 0))))) := by unfold binOp; rfl
    rw [Sem.run_bind, h1, Result.andThen_ok, h2, Sem.run_bind, run_equalNil ht]
    rfl
def viewOf (r : Nat) (len : Nat) (lo hi : Option V) : Option (Option Prop × V) := match lo, hi with
  | none, none => some (none, .vw r 0 len)
  | some (.x (.int _ l)), none => some (some (0 ≤ l ∧ l ≤ len), .vw r l.toNat (len - l.toNat))
  | none, some (.x (.int _ h)) => some (some (0 ≤ h ∧ h ≤ len), .vw r 0 h.toNat)
  | some (.x (.int _ l)), some (.x (.int _ h)) => some (some (0 ≤ l ∧ l ≤ h ∧ h ≤ len), .vw r l.toNat (h.toNat - l.toNat))
  | _, _ => none
def vwSlice (P : Program) (st : List Ob) (sl : List V) : Op → Option (Option Prop × V)
  | .slice t x lo hi none => match P.underlying t, rdv sl [] x with
    | some (.slice e), .vec r => match P.info? e, st[r]? with
      | some inf, some (.vec τ _ xs) => if inf.size = τ.size then viewOf r xs.length (lo.map (rdv sl [])) (hi.map (rdv sl [])) else none
      | _, _ => none
    | _, _ => none
  | _ => none
theorem sliced_vw {w0 : Base} {c : Cfg} (hr : Rel w0 c) {r : Nat} {τ : Ty} {f : Nat} {xs : List τ.den} (hst : c.st[r]? = some (.vec τ f xs)) {a : Option Addr} {len cap l h : Nat} (hx : RelV c (.vec r) (.slice a len cap)) (h1 : l ≤ h) (h2 : h ≤ xs.length) :
    RelV c (.vw r l (h - l)) (sliced a l h cap τ.size) := by
  simp only [RelV, hst] at hx ⊢
  refine ⟨by omega, ?_⟩
  obtain ⟨hp, _, ⟨hn, rfl⟩ | ⟨b', ce, e, cap', g1, g2, g3, g4, _⟩⟩ := hr.obj r _ hst
  · rcases hx with ⟨_, e⟩ | ⟨b, cap0, hb, _⟩
    · cases e
      simp only [List.length_nil] at h2
      obtain rfl : h = 0 := by omega
      obtain rfl : l = 0 := by omega
      exact .inl ⟨hn, by simp [sliced]⟩
    · rw [hn] at hb; cases hb
  · rcases hx with ⟨hb, _⟩ | ⟨b, cap0, hb, e, hrows⟩
    · rw [g1] at hb; cases hb
    rw [g1] at hb; cases hb
    cases e
    have hcap : cap = cap' := by
      obtain ⟨ce', e', fz, k1, k2⟩ := hrows
      rw [g2] at k1; cases k1
      exact Nat.eq_of_mul_eq_mul_right hp (by omega)
    subst hcap
    by_cases hcl : cap = l
    · have hh : h - l = 0 := by omega
      by_cases hl0 : l = 0
      · subst hl0
        refine .inr (.inl ⟨b', 0, g1, ?_, by omega, ?_⟩)
        · subst hcl; simp [sliced, hh, Addr.add]
        · subst hcl; simpa using hrows
      · exact .inr (.inr ⟨hh, by omega, ⟨b', 0, none⟩, by simp [sliced, hcl, hh]⟩)
    · refine .inr (.inl ⟨b', cap - l, g1, by simp [sliced, hcl, add_addr], by omega, ?_⟩)
      rw [show l + (cap - l) = cap from by omega]
      exact hrows
theorem vwSlice_sound {P : Program} {w0 : Base} {c : Cfg} (hr : Rel w0 c) {sl : List V} {a : Act} (hs : SlR c sl a.tmps) {o : Oper} {p : Option Prop} {v : V} (h : vwSlice P c.st sl o.op = some (p, v)) (hp : vc p) :
    ∃ u, (execOp a.eval o).run P c.w = .ok (.value u) c.w ∧ RelV c v u := by
  obtain ⟨dst, op, ty, pos, after, guard⟩ := o
  have hx : ∀ x, RelV c (rdv sl [] x) (a.eval x) := fun x => rdv_rel hs [] x (fun g hg => by simp at hg)
  unfold vwSlice at h
  simp only at h
  split at h
  · next t x lo hi =>
    split at h
    · next e r hu er =>
      split at h
      · next inf τ f xs hinf hst =>
        split at h
        · next hsz =>
          have hxx := hx x
          rw [er] at hxx
          have hel : P.elem t = e := by simp [Program.elem, hu]
          have hu' : P.underlying t = some (.slice (P.elem t)) := by rw [hel]; exact hu
          have hszr : ∀ w, (sizeOf (P.elem t)).run P w = .ok τ.size w := fun w => by rw [hel, run_sizeOf' hinf, hsz]
          obtain ⟨ad, len, cap, hv, hlen, hcap⟩ : ∃ ad len cap, a.eval x = .slice ad len cap ∧ len = xs.length ∧ len ≤ cap := by
            have h0 := hxx
            simp only [RelV, hst] at h0
            obtain ⟨hp', _, ⟨hn, rfl⟩ | ⟨b', ce, e, cap', g1, g2, g3, g4, _⟩⟩ := hr.obj r _ hst
            · rcases h0 with ⟨_, e⟩ | ⟨b, cap0, hb, _⟩
              · exact ⟨_, _, _, e, rfl, Nat.le_refl _⟩
              · rw [hn] at hb; cases hb
            · rcases h0 with ⟨hb, _⟩ | ⟨b, cap0, hb, e, ce', e', fz, k1, k2⟩
              · rw [g1] at hb; cases hb
              · rw [g1] at hb; cases hb
                rw [g2] at k1; cases k1
                refine ⟨_, _, _, e, rfl, ?_⟩
                have := Nat.eq_of_mul_eq_mul_right hp' (g3.symm.trans k2)
                omega
          rw [hv] at hxx
          have fin : ∀ (u : Value) (lo' hi' : Option Value), lo' = lo.map a.eval → hi' = hi.map a.eval → (Instr.sliceAt t (.slice ad len cap) lo' hi' none).run P c.w = .ok u c.w → (execOp a.eval ⟨dst, .slice t x lo hi none, ty, pos, after, guard⟩).run P c.w = .ok (.value u) c.w := by
            intro u lo' hi' e1 e2 hrun
            subst e1; subst e2
            simp only [execOp, Option.map_none, hv, Sem.run_bind, hrun, Result.andThen_ok, Sem.run_pure]
          unfold viewOf at h
          split at h
          · next e1 e2 =>
            cases h
            obtain rfl : lo = none := by cases lo <;> simp_all
            obtain rfl : hi = none := by cases hi <;> simp_all
            refine ⟨_, fin _ none none rfl rfl (by rw [run_sliceAt_slice c.w t _ _ _ _ hu', run_slice_all c.w t ad len cap hu', hszr]; rfl), ?_⟩
            have := sliced_vw hr hst hxx (l := 0) (h := xs.length) (by omega) (Nat.le_refl _)
            simpa [hlen] using this
          · next k l e1 e2 =>
            cases h
            simp only [vc] at hp
            obtain ⟨y, rfl, hy⟩ : ∃ y, lo = some y ∧ rdv sl [] y = .x (.int k l) := by cases lo <;> simp_all
            obtain rfl : hi = none := by cases hi <;> simp_all
            have hy2 := hx y
            rw [hy] at hy2
            simp only [RelV] at hy2
            refine ⟨_, fin _ (some (.int k l)) none (by simp [hy2]) rfl (by rw [run_sliceAt_slice c.w t _ _ _ _ hu', run_slice_l c.w t ad len cap hu' _ _ hp.1 (by omega), hszr]; rfl), ?_⟩
            have := sliced_vw hr hst hxx (l := l.toNat) (h := xs.length) (by omega) (Nat.le_refl _)
            simpa [hlen] using this
          · next k m e1 e2 =>
            cases h
            simp only [vc] at hp
            obtain rfl : lo = none := by cases lo <;> simp_all
            obtain ⟨y, rfl, hy⟩ : ∃ y, hi = some y ∧ rdv sl [] y = .x (.int k m) := by cases hi <;> simp_all
            have hy2 := hx y
            rw [hy] at hy2
            simp only [RelV] at hy2
            refine ⟨_, fin _ none (some (.int k m)) rfl (by simp [hy2]) (by rw [run_sliceAt_slice c.w t _ _ _ _ hu', run_slice_h c.w t ad len cap hu' _ _ hp.1 (by omega), hszr]; rfl), ?_⟩
            have := sliced_vw hr hst hxx (l := 0) (h := m.toNat) (by omega) (by omega)
            simpa [hlen] using this
          · next k l k' m e1 e2 =>
            cases h
            simp only [vc] at hp
            obtain ⟨y, rfl, hy⟩ : ∃ y, lo = some y ∧ rdv sl [] y = .x (.int k l) := by cases lo <;> simp_all
            obtain ⟨z, rfl, hz⟩ : ∃ y, hi = some y ∧ rdv sl [] y = .x (.int k' m) := by cases hi <;> simp_all
            have hy2 := hx y
            rw [hy] at hy2
            have hz2 := hx z
            rw [hz] at hz2
            simp only [RelV] at hy2 hz2
            refine ⟨_, fin _ (some (.int k l)) (some (.int k' m)) (by simp [hy2]) (by simp [hz2]) (by rw [run_sliceAt_slice c.w t _ _ _ _ hu', run_slice_lh c.w t ad len cap hu' _ _ _ _ hp.1 hp.2.1 (by omega), hszr]; rfl), ?_⟩
            exact sliced_vw hr hst hxx (l := l.toNat) (h := m.toNat) (by omega) (by omega)
          · cases h
        · cases h
      · cases h
    · cases h
  · cases h
def aopW (P : Program) (C : Caller) (st : List Ob) (sl : List V) (op : Op) (k : V → List Ob → Prop) : Prop := match vwSlice P st sl op with
  | some (p, v) => andO p (k v st)
  | none => aopN P C st sl op k
def aopsK (P : Program) (C : Caller) (G : List Nat) (ops : List Oper) : List Oper → Kn → List V → List Ob → (List V → List Ob → Prop) → Prop
  | [], _, sl, st, K => K sl st
  | o :: rest, kn, sl, st, K => forceL sl fun sl =>
    match o.guard with
    | none => aopW P C st sl o.op fun v st' => aopsK P C G ops rest (forget o.dst kn) (putS G o.dst (nogd v) sl) st' K
    | some (j, w) => match gslot ops j with
      | none => False
      | some g => match look kn g with
        | some (some b) => bif b == w then aopW P C st sl o.op fun v st' => aopsK P C G ops rest (forget o.dst kn) (putS G o.dst (nogd v) sl) st' K
            else aopsK P C G ops rest (learn o.dst kn) (putS G o.dst .any sl) st K
        | some none => aopsK P C G ops rest (learn o.dst kn) (putS G o.dst .any sl) st K
        | none => match conds sl 8 g w with
          | none => False
          | some (fs, bs) =>
            if G.contains g = true then
              match aval P st fs (rdv sl) o.op, o.dst with
              | some (p, v), some d => if d = g then False else andG bs p (aopsK P C G ops rest (forget (some d) kn) (putS G (some d) (.gd g w (nogd v)) sl) st K)
              | _, _ => split (fun kn sl => aopW P C st sl o.op fun v st' => aopsK P C G ops rest (forget o.dst kn) (putS G o.dst (nogd v) sl) st' K)
                  (fun kn sl => aopsK P C G ops rest (learn o.dst kn) (putS G o.dst .any sl) st K) 8 g w kn sl
            else False
theorem aopsK_sound {P : Program} {w0 : Base} {C : Caller} (hC : SoundC P C) {G : List Nat} {ops : Array Oper} {Q : Exit → Act → World → Prop} :
    ∀ (l : List Oper) (c : Cfg) (kn : Kn) (sl : List V) (a : Act) (K : List V → List Ob → Prop), Rel w0 c → SlR c sl a.tmps → GdIn G sl → KnR kn a.tmps → aopsK P C G ops.toList l kn sl c.st K →
      (∀ sl' c' a', Rel w0 c' → Ext c c' → SlR c' sl' a'.tmps → GdIn G sl' → a'.defers = a.defers → K sl' c'.st → Q .normal a' c'.w) → wpList P ops Q l a c.w
  | [], c, kn, sl, a, K, hr, hs, hg, hkn, h, hK => hK sl c a hr (Ext.refl c) hs hg rfl h
  | o :: rest, c, kn, sl, a, K, hr, hs, hg, hkn, h, hK => by
    have hput : ∀ (d : Option Nat) (u : Value), (a.put d u).defers = a.defers := fun d u => by cases d <;> rfl
    have run : ∀ (kn : Kn) (sl : List V), SlR c sl a.tmps → GdIn G sl → KnR kn a.tmps → (aopW P C c.st sl o.op fun v st' => aopsK P C G ops.toList rest (forget o.dst kn) (putS G o.dst (nogd v) sl) st' K) →
        o.wp P a c.w (wpList P ops Q rest) Q := fun kn sl hs hg hkn h => by
      unfold aopW at h
      split at h
      · next p v hv =>
        obtain ⟨hp, hk⟩ := andO_split h
        obtain ⟨u, h1, h2⟩ := vwSlice_sound hr hs hv hp
        refine wp_value h1 ?_
        obtain ⟨g1, g2⟩ := putS_rel (a := a) (d := o.dst) hs hg (nogd_hv h2)
        exact aopsK_sound hC rest c _ _ _ K hr g1 g2 (forget_rel hkn _ _) hk fun sl' c'' a' k1 k2 k3 k4 k5 k6 => hK sl' c'' a' k1 k2 k3 k4 (k5.trans (hput _ _)) k6
      rename_i hvn
      clear hvn
      unfold aopN at h
      split at h
      · next n neg hn =>
        obtain ⟨dst, op, ty, pos, after, guard⟩ := o
        simp only at hn h
        unfold nilCmp at hn
        split at hn
        · next op t x yt =>
          split at hn
          · next e ht =>
            split at hn
            · next neg' ho =>
              have hxv := rdv_rel hs [] x (fun g hh => by simp at hh)
              have key : ∀ (n' : Nat) (ad : Option Addr) (l cap : Nat), a.eval x = .slice ad l cap → (n' ≠ 0 → ad.isNone = false) → n' = n → neg' = neg → Oper.wp P ⟨dst, .binOp op t x (.const (.slice none 0 0)) yt, ty, pos, after, guard⟩ a c.w (wpList P ops Q rest) Q := by
                intro n' ad l cap hev hn' e1 e2
                subst e1 e2
                have hk := h ad.isNone hn'
                have hrun : (execOp a.eval ⟨dst, .binOp op t x (.const (.slice none 0 0)) yt, ty, pos, after, guard⟩).run P c.w = .ok (.value (.bool (bif neg' then !ad.isNone else ad.isNone))) c.w := by
                  have := run_nilCmp ho ht x (.const (.slice none 0 0)) ad l cap c.w
                  simp only [execOp, hev]
                  simp only [Act.eval]
                  rw [Sem.run_bind, this]
                  rfl
                refine wp_value hrun ?_
                have hv0 : RelV c (.x (.bool (bif neg' then !ad.isNone else ad.isNone))) (.bool (bif neg' then !ad.isNone else ad.isNone)) := by simp only [RelV]
                obtain ⟨g1, g2⟩ := putS_rel (a := a) (d := dst) hs hg (nogd_hv (G := G) (d := dst) (a := a) hv0)
                exact aopsK_sound hC rest c _ _ _ K hr g1 g2 (forget_rel hkn _ _) hk fun sl' c'' a' k1 k2 k3 k4 k5 k6 => hK sl' c'' a' k1 k2 k3 k4 (k5.trans (hput _ _)) k6
              split at hn
              · next t' xs er =>
                cases hn
                rw [er] at hxv
                simp only [RelV, RoV, SlV] at hxv
                rcases hxv with ⟨h1, rfl⟩ | ⟨b, o, sp, cap, h1, _⟩
                · simp only [List.cons.injEq, and_true] at h1
                  exact key _ none 0 0 h1 (fun hh => absurd rfl hh) rfl rfl
                · simp only [List.cons.injEq, and_true] at h1
                  exact key _ _ _ _ h1 (fun _ => rfl) rfl rfl
              · next r er =>
                rw [er] at hxv
                split at hn
                · next t' f xs hst =>
                  cases hn
                  simp only [RelV, hst] at hxv
                  rcases hxv with ⟨h1, h2⟩ | ⟨b, cap, h1, h2, _⟩
                  · obtain ⟨_, _, ⟨_, rfl⟩ | ⟨b', ce, ty', cap, hb', _⟩⟩ := hr.obj r _ hst
                    · exact key _ none 0 0 h2 (fun hh => absurd rfl hh) rfl rfl
                    · rw [h1] at hb'; cases hb'
                  · exact key _ _ _ _ h2 (fun _ => rfl) rfl rfl
                · cases hn
              · next er =>
                cases hn
                rw [er] at hxv
                simp only [RelV] at hxv
                exact key _ none 0 0 hxv (fun hh => absurd rfl hh) rfl rfl
              · cases hn
            · cases hn
          · cases hn
        · cases hn
      refine aop_sound hC hr (fun gs x hgs => rdv_rel hs gs x hgs) (fun g hh => by simp at hh) h (fun v c' u h1 h2 h3 h4 => ?_)
      obtain ⟨g1, g2⟩ := putS_rel (a := a) (d := o.dst) (SlR.ext h2 hs) hg (nogd_hv h3)
      refine aopsK_sound hC rest c' _ _ _ K h1 g1 g2 (forget_rel hkn _ _) h4 fun sl' c'' a' k1 k2 k3 k4 k5 k6 => hK sl' c'' a' k1 (h2.trans k2) k3 k4 (k5.trans (hput _ _)) k6
    have skip : ∀ (kn : Kn) (sl : List V), SlR c sl a.tmps → GdIn G sl → KnR kn a.tmps → aopsK P C G ops.toList rest (learn o.dst kn) (putS G o.dst .any sl) c.st K →
        wpList P ops Q rest (a.put o.dst undef) c.w := fun kn sl hs hg hkn h => by
      obtain ⟨g1, g2⟩ := putS_rel (a := a) (d := o.dst) (v := .any) (u := undef) hs hg (by simp only [RelV])
      exact aopsK_sound hC rest c _ _ _ K hr g1 g2 (learn_rel hkn _) h fun sl' c'' a' k1 k2 k3 k4 k5 k6 => hK sl' c'' a' k1 k2 k3 k4 (k5.trans (hput _ _)) k6
    unfold wpList
    simp only [aopsK, forceL_eq] at h
    split at h
    · next hgd =>
      have hw : Region.wanted o (yielded ops a.tmps) = true := by simp [Region.wanted, hgd]
      rw [if_pos hw]
      exact .inl (run kn sl hs hg hkn h)
    · next j w hgd =>
      split at h
      · exact h.elim
      · next g hgs =>
        have hwi := wanted_iff (tmps := a.tmps) hgd hgs
        split at h
        · next b hl =>
          have hb := hkn _ (look_mem hl)
          simp only [KnIs] at hb
          by_cases e : b = w
          · subst e
            rw [if_pos (hwi.2 hb)]
            simp only [beq_self_eq_true, cond_true] at h
            exact .inl (run kn sl hs hg hkn h)
          · have e2 : (b == w) = false := by simp [e]
            rw [e2] at h
            rw [if_neg (fun hw => by have := hwi.1 hw; rw [hb] at this; exact e (by simpa using this))]
            exact skip kn sl hs hg hkn h
        · next hl =>
          have hb : KnIs _ none := hkn _ (look_mem hl)
          rw [if_neg (fun hw => hb w (hwi.1 hw))]
          exact skip kn sl hs hg hkn h
        · next hl =>
          split at h
          · exact h.elim
          · next fs bs hc =>
            obtain ⟨c1, c2⟩ := conds_sound hs 8 g w fs bs hc
            split at h
            · next hG =>
              have hGm : g ∈ G := by simpa using hG
              split at h
              · next p v d hv hd =>
                split at h
                · exact h.elim
                · next hne =>
                  obtain ⟨hp, hk⟩ := andG_out h
                  have next' : ∀ u, (a.tmps.getD g undef = .bool w → RelV c v u) → (a.tmps.getD g undef ≠ .bool w → u = undef) → wpList P ops Q rest (a.put o.dst u) c.w := by
                    intro u hu1 hu2
                    obtain ⟨g1, g2⟩ := putS_rel (a := a) (d := some d) (v := .gd g w (nogd v)) (u := u) hs hg ⟨hGm, fun e => hne (by cases e; rfl), fun e => nogd_rel (hu1 e), hu2⟩
                    rw [hd]
                    exact aopsK_sound hC rest c _ _ _ K hr g1 g2 (forget_rel hkn _ _) hk fun sl' c'' a' k1 k2 k3 k4 k5 k6 => hK sl' c'' a' k1 k2 k3 k4 (k5.trans (hput _ _)) k6
                  by_cases hw : Region.wanted o (yielded ops a.tmps) = true
                  · rw [if_pos hw]
                    have hgw := hwi.1 hw
                    obtain ⟨u, h1, h2⟩ := aval_sound (P := P) hr (fun gs x hgs => rdv_rel hs gs x hgs) (c2 hgw) hv (hp (c1.1 hgw))
                    exact .inl (wp_value h1 (next' u (fun _ => h2) (fun e => absurd hgw e)))
                  · rw [if_neg hw]
                    exact next' undef (fun e => absurd (hwi.2 e) hw) (fun _ => rfl)
              · obtain ⟨kn', sl', k1, k2, k3, h⟩ := split_sound 8 g w _ _ kn sl hs hg hkn h
                rcases h with ⟨hw, h⟩ | ⟨hw, h⟩
                · rw [if_pos (hwi.2 hw)]
                  exact .inl (run kn' sl' k1 k2 k3 h)
                · rw [if_neg (fun e => hw (hwi.1 e))]
                  exact skip kn' sl' k1 k2 k3 h
            · exact h.elim
end Eng
end Go.Proofs.YtkpplfghhciacaaDoor
set_option linter.unusedVariables false
set_option linter.unusedSimpArgs false
namespace Go.Proofs.YtkpplfghhciacaaDoor
namespace Eng
open Go.RowKit
mutual
def okRef (g : List Nat) : V → Bool
  | .rc cs _ => okRefs g cs
  | .cl r _ => (match g[r]? with | some k => Nat.beq k r | none => false)
  | .el r _ _ => (match g[r]? with | some k => Nat.beq k r | none => false)
  | .vec r => (match g[r]? with | some k => Nat.beq k r | none => false)
  | .vw r _ _ => (match g[r]? with | some k => Nat.beq k r | none => false)
  | .agg cs => okRefs g cs
  | .tup cs => okRefs g cs
  | .fn _ a b => okRefs g a && okRefs g b
  | _ => true
def okRefs (g : List Nat) : List V → Bool
  | [] => true
  | v :: vs => okRef g v && okRefs g vs
end
def reC (c : Cfg) (g : List Nat) : Cfg :=
  { c with st := g.map (fun i => c.st.getD i .dead), bl := fun r => match g[r]? with | some i => c.bl i | none => none }
theorem okRef_num {g : List Nat} {r : Nat} (h : (match g[r]? with | some k => Nat.beq k r | none => false) = true) : g[r]? = some r := by
  split at h
  · next k e => rw [e, Nat.eq_of_beq_eq_true h]
  · cases h
theorem reC_st {c : Cfg} {g : List Nat} {r i : Nat} (h : g[r]? = some i) : (reC c g).st[r]? = some (c.st.getD i .dead) := by
  simp [reC, h]
theorem reC_bl {c : Cfg} {g : List Nat} {r i : Nat} (h : g[r]? = some i) : (reC c g).bl r = c.bl i := by
  simp [reC, h]
mutual
theorem RelV.re {c : Cfg} {g : List Nat} : ∀ (v : V) (u : Value), okRef g v = true → RelV c v u → RelV (reC c g) v u
  | .any, _, _, _ => by simp only [RelV]
  | .x v, u, _, h => by simpa only [RelV] using h
  | .ro t xs, u, _, h => by simp only [RelV] at *; exact h
  | .rc cs j, u, hk, h => by
    simp only [okRef] at hk
    simp only [RelV] at *
    obtain ⟨b, o, e, hc⟩ := h
    exact ⟨b, o, e, RelC.re cs b o hk hc⟩
  | .cl r i, u, hk, h => by
    have hsh := cl_shape h
    simp only [okRef] at hk
    have hg := okRef_num hk
    simp only [RelV] at *
    rw [reC_st hg]
    cases hs : c.st[r]? with
    | none => rw [hs] at h; exact h.elim
    | some ob =>
      rw [hs] at h
      simp only [List.getD_eq_getElem?_getD, hs, Option.getD_some]
      cases ob with
      | cells cs =>
        obtain ⟨b, hb, e⟩ := h
        exact ⟨b, by rw [reC_bl hg]; exact hb, e⟩
      | _ => exact hsh
  | .el r i j, u, hk, h => by
    have hsh := el_shape h
    simp only [okRef] at hk
    have hg := okRef_num hk
    simp only [RelV] at *
    rw [reC_st hg]
    cases hs : c.st[r]? with
    | none => rw [hs] at h; exact h.elim
    | some ob =>
      rw [hs] at h
      simp only [List.getD_eq_getElem?_getD, hs, Option.getD_some]
      cases ob with
      | vec t f xs =>
        obtain ⟨b, hb, e, hi⟩ := h
        exact ⟨b, by rw [reC_bl hg]; exact hb, e, hi⟩
      | cells cs =>
        obtain ⟨b, hb, e⟩ := h
        exact ⟨b, by rw [reC_bl hg]; exact hb, e⟩
      | _ => exact hsh
  | .vec r, u, hk, h => by
    have hsh := vec_shape h
    simp only [okRef] at hk
    have hg := okRef_num hk
    simp only [RelV] at *
    rw [reC_st hg]
    cases hs : c.st[r]? with
    | none => rw [hs] at h; exact h.elim
    | some ob =>
      rw [hs] at h
      simp only [List.getD_eq_getElem?_getD, hs, Option.getD_some]
      cases ob with
      | vec t f xs => rw [reC_bl hg]; exact h
      | _ => exact hsh
  | .vw r lo n, u, hk, h => by
    have hsh := vw_shape h
    simp only [okRef] at hk
    have hg := okRef_num hk
    simp only [RelV] at *
    rw [reC_st hg]
    cases hs : c.st[r]? with
    | none => rw [hs] at h; exact h.elim
    | some ob =>
      rw [hs] at h
      simp only [List.getD_eq_getElem?_getD, hs, Option.getD_some]
      cases ob with
      | vec t f xs => rw [reC_bl hg]; exact h
      | _ => exact hsh
  | .agg vs, u, hk, h => by
    simp only [okRef] at hk
    simp only [RelV] at *
    obtain ⟨us, e, hc⟩ := h
    exact ⟨us, e, RelVs.re vs _ hk hc⟩
  | .tup vs, u, hk, h => by
    simp only [okRef] at hk
    simp only [RelV] at *
    obtain ⟨us, e, hc⟩ := h
    exact ⟨us, e, RelVs.re vs _ hk hc⟩
  | .fn f a b, u, hk, h => by
    simp only [okRef, Bool.and_eq_true] at hk
    simp only [RelV] at *
    obtain ⟨us1, us2, e, h1, h2⟩ := h
    exact ⟨us1, us2, e, RelVs.re a _ hk.1 h1, RelVs.re b _ hk.2 h2⟩
  | .gd _ _ _, _, _, _ => by simp only [RelV]
  | .hd _, _, _, h => by simpa only [RelV] using h
  | .pt _ _, _, _, h => by simpa only [RelV] using h
theorem RelVs.re {c : Cfg} {g : List Nat} : ∀ (vs : List V) (us : List Value), okRefs g vs = true → RelVs c vs us → RelVs (reC c g) vs us
  | [], _, _, h => by simpa only [RelVs] using h
  | v :: vs, us, hk, h => by
    simp only [okRefs, Bool.and_eq_true] at hk
    simp only [RelVs] at *
    obtain ⟨u, us', e, h1, h2⟩ := h
    exact ⟨u, us', e, RelV.re v u hk.1 h1, RelVs.re vs us' hk.2 h2⟩
theorem RelC.re {c : Cfg} {g : List Nat} : ∀ (vs : List V) (b o : Nat), okRefs g vs = true → RelC c vs b o → RelC (reC c g) vs b o
  | [], _, _, _, _ => by simp only [RelC]
  | v :: vs, b, o, hk, h => by
    simp only [okRefs, Bool.and_eq_true] at hk
    simp only [RelC] at *
    obtain ⟨⟨u, h1, h2, h3⟩, h4⟩ := h
    exact ⟨⟨u, h1, h2, RelV.re v u hk.1 h3⟩, RelC.re vs b (o + 1) hk.2 h4⟩
end
def okObs (g : List Nat) : List Ob → Bool
  | [] => true
  | .cells cs :: r => okRefs g cs && okObs g r
  | _ :: r => okObs g r
theorem okObs_get {g : List Nat} : ∀ {l : List Ob} {r : Nat} {cs : List V}, okObs g l = true → l[r]? = some (.cells cs) → okRefs g cs = true
  | [], r, cs, _, h => by simp at h
  | ob :: l, 0, cs, hk, h => by
    simp only [List.getElem?_cons_zero, Option.some.injEq] at h
    subst h
    simp only [okObs, Bool.and_eq_true] at hk
    exact hk.1
  | ob :: l, r + 1, cs, hk, h => by
    simp only [List.getElem?_cons_succ] at h
    cases ob with
    | cells cs' =>
      simp only [okObs, Bool.and_eq_true] at hk
      exact okObs_get hk.2 h
    | _ =>
      simp only [okObs] at hk
      exact okObs_get hk h
def distinct : List Nat → Bool
  | [] => true
  | x :: r => !(r.contains x) && distinct r
theorem distinct_inj : ∀ {g : List Nat} {r r' i : Nat}, distinct g = true → g[r]? = some i → g[r']? = some i → r = r'
  | [], r, r', i, _, h, _ => by simp at h
  | x :: g, 0, 0, i, _, _, _ => rfl
  | x :: g, 0, r' + 1, i, hd, h, h' => by
    simp only [distinct, Bool.and_eq_true, Bool.not_eq_true'] at hd
    simp only [List.getElem?_cons_zero, Option.some.injEq, List.getElem?_cons_succ] at h h'
    subst h
    have := List.mem_of_getElem? h'
    simp at hd
    exact absurd this hd.1
  | x :: g, r + 1, 0, i, hd, h, h' => by
    simp only [distinct, Bool.and_eq_true, Bool.not_eq_true'] at hd
    simp only [List.getElem?_cons_zero, Option.some.injEq, List.getElem?_cons_succ] at h h'
    subst h'
    have := List.mem_of_getElem? h
    simp at hd
    exact absurd this hd.1
  | x :: g, r + 1, r' + 1, i, hd, h, h' => by
    simp only [distinct, Bool.and_eq_true] at hd
    simp only [List.getElem?_cons_succ] at h h'
    rw [distinct_inj hd.2 h h']
theorem live_of' {st : List Ob} {r : Nat} (h : live st r) : ∃ ob, st[r]? = some ob ∧ ob ≠ .dead := by
  have hlt := live_lt h
  refine ⟨st[r], List.getElem?_eq_getElem hlt, fun e => ?_⟩
  unfold live at h
  rw [List.getElem?_eq_getElem hlt, e] at h
  exact h
theorem PoolOk.ren {w0 : Base} {c c' : Cfg} (h : PoolOk w0 c) (hw : c'.w = c.w) (hA : ∀ b o, c'.A b o → c.A b o) {g : List Nat} (hd : distinct g = true)
    (hst : ∀ (r : Nat) (m : Pool), c'.st[r]? = some (Ob.pool m) → ∃ i, g[r]? = some i ∧ c.st[i]? = some (Ob.pool m))
    (hbl : ∀ r b, live c'.st r → c'.bl r = some b → ∃ i, live c.st i ∧ c.bl i = some b) : PoolOk w0 c' := by
  refine ⟨fun r r' m m' h1 h2 => ?_, fun r m hm => ?_⟩
  · obtain ⟨i, g1, g2⟩ := hst r m h1
    obtain ⟨i', k1, k2⟩ := hst r' m' h2
    have := h.1 i i' m m' g2 k2
    subst this
    exact distinct_inj hd g1 k1
  · obtain ⟨i, g1, g2⟩ := hst r m hm
    obtain ⟨hn, hp⟩ := h.2 i m g2
    refine ⟨hn, fun b row hb => ?_⟩
    obtain ⟨h1, h2, h3, ce, e, h4, h5⟩ := hp b row hb
    refine ⟨h1, fun r0 k1 k2 => ?_, fun o k => h3 o (hA b o k), ce, e, by rw [hw]; exact h4, h5⟩
    obtain ⟨i0, q1, q2⟩ := hbl r0 b k1 k2
    exact h2 i0 q1 q2
theorem re_rel {w0 : Base} {c : Cfg} (hr : Rel w0 c) {g : List Nat} (hd : distinct g = true) (hk : okObs g (reC c g).st = true) : Rel w0 (reC c g) := by
  have hlive : ∀ r b, live (reC c g).st r → (reC c g).bl r = some b → ∃ i, g[r]? = some i ∧ live c.st i ∧ c.bl i = some b := by
    intro r b h hb
    obtain ⟨ob, h1, h2⟩ := live_of' h
    cases hg : g[r]? with
    | none => simp [reC, hg] at h1
    | some i =>
      rw [reC_st hg] at h1
      rw [reC_bl hg] at hb
      refine ⟨i, rfl, ?_, hb⟩
      cases hs : c.st[i]? with
      | none => simp [List.getD, hs] at h1; exact absurd h1.symm h2
      | some ob' =>
        simp only [List.getD_eq_getElem?_getD, hs, Option.getD_some, Option.some.injEq] at h1
        exact live_of hs (by rw [h1]; exact h2)
  exact {
    below := hr.below
    inj := fun r r' b h h' hb hb' => by
      obtain ⟨i, g1, g2, g3⟩ := hlive r b h hb
      obtain ⟨i', k1, k2, k3⟩ := hlive r' b h' hb'
      have := hr.inj i i' b g2 k2 g3 k3
      subst this
      exact distinct_inj hd g1 k1
    fresh := fun r b h hb => by
      obtain ⟨i, g1, g2, g3⟩ := hlive r b h hb
      exact hr.fresh i b g2 g3
    pl := PoolOk.ren hr.pl rfl (fun _ _ h => h) hd (fun r m h => by
        cases hg : g[r]? with
        | none => simp [reC, hg] at h
        | some i =>
          rw [reC_st hg] at h
          refine ⟨i, rfl, ?_⟩
          cases hs : c.st[i]? with
          | none => simp [List.getD, hs] at h
          | some ob' => simpa [List.getD_eq_getElem?_getD, hs] using h) (fun r b h hb => by
        obtain ⟨i, _, g2, g3⟩ := hlive r b h hb
        exact ⟨i, g2, g3⟩)
    bound := hr.bound
    newA := hr.newA
    obj := fun r ob h => by
      cases hg : g[r]? with
      | none => simp [reC, hg] at h
      | some i =>
        have h0 := h
        rw [reC_st hg] at h
        cases hs : c.st[i]? with
        | none => simp [List.getD, hs] at h; subst h; trivial
        | some ob' =>
          simp only [List.getD_eq_getElem?_getD, hs, Option.getD_some, Option.some.injEq] at h
          subst h
          have ho := hr.obj i _ hs
          cases ob' with
          | dead => trivial
          | cells cs =>
            obtain ⟨b, ce, e, h1, h2, h3, h4⟩ := ho
            exact ⟨b, ce, e, by rw [reC_bl hg]; exact h1, h2, RelVs.re cs _ (okObs_get hk h0) h3, h4⟩
          | vec t f xs =>
            obtain ⟨h1, h2, h3⟩ := ho
            refine ⟨h1, h2, ?_⟩
            rw [reC_bl hg]
            exact h3
          | pool m => exact (reC_bl hg).trans ho }
theorem re_ext {cb c : Cfg} (hx : Ext cb c) {g : List Nat} (hg : ∀ r, r < cb.st.length → g[r]? = some r) : Ext cb (reC c g) where
  size := hx.size
  sub := hx.sub
  cells := hx.cells
  len := by
    simp only [reC, List.length_map]
    rcases Nat.eq_zero_or_pos cb.st.length with h | h
    · omega
    · have := hg (cb.st.length - 1) (by omega)
      have := (List.getElem?_eq_some_iff.1 this).1
      omega
  keep := fun r ob hr h => by
    rw [reC_st (hg r hr)] at h
    have hl := hx.len
    have hs : c.st[r]? = some (c.st[r]'(by omega)) := List.getElem?_eq_getElem (by omega)
    simp only [List.getD_eq_getElem?_getD, hs, Option.getD_some, Option.some.injEq] at h
    have hk := hx.keep r _ hr hs
    rw [h] at hk
    cases ob with
    | dead => trivial
    | cells cs => exact ⟨hk.1, by rw [reC_bl (hg r hr)]; exact hk.2⟩
    | vec t f xs =>
      obtain ⟨f0, xs0, h1, h2, h3, h4⟩ := hk
      exact ⟨f0, xs0, h1, h2, by rw [reC_bl (hg r hr)]; exact h3, h4⟩
    | pool m => exact hk
def mvC (c : Cfg) (ρ : Nat) (ob : Ob) : Cfg :=
  { c with st := c.st.set ρ .dead ++ [ob], bl := fun r => if r = c.st.length then c.bl ρ else c.bl r }
theorem mv_rel {w0 : Base} {c : Cfg} (hr : Rel w0 c) {ρ : Nat} {t : Ty} {f : Nat} {xs : List t.den} (hs : c.st[ρ]? = some (.vec t f xs)) :
    Rel w0 (mvC c ρ (.vec t f xs)) ∧ Ext c (mvC c ρ (.vec t f xs)) ∧ ∀ u, RelV c (.vec ρ) u → RelV (mvC c ρ (.vec t f xs)) (.vec c.st.length) u := by
  have hl := live_of hs (by simp)
  obtain ⟨hk1, hk2⟩ := kill_rel hr ρ
  have hblr : ∀ r, r < c.st.length → (mvC c ρ (.vec t f xs)).bl r = c.bl r := fun r h => by simp only [mvC]; rw [if_neg (by omega)]
  have hbln : (mvC c ρ (.vec t f xs)).bl c.st.length = c.bl ρ := by simp [mvC]
  have hx2 : Ext (killC c ρ) (mvC c ρ (.vec t f xs)) := {
    size := Nat.le_refl _
    sub := fun _ _ h => h
    cells := fun _ _ _ => rfl
    len := by simp [mvC, killC]
    keep := fun r ob' hrl h => by
      simp only [killC, List.length_set] at hrl
      simp only [mvC] at h
      rw [List.getElem?_append_left (by simpa using hrl)] at h
      cases ob' with
      | dead => trivial
      | cells cs => exact ⟨⟨cs, h⟩, hblr r hrl⟩
      | pool m => exact ⟨m, h⟩
      | vec t f xs => exact ⟨f, xs, h, rfl, hblr r hrl, fun _ _ _ h => h⟩ }
  have hx : Ext c (mvC c ρ (.vec t f xs)) := hk2.trans hx2
  have hlive : ∀ r, live (mvC c ρ (.vec t f xs)).st r → (r < c.st.length ∧ r ≠ ρ ∧ live c.st r ∧ (mvC c ρ (.vec t f xs)).bl r = c.bl r) ∨ (r = c.st.length ∧ (mvC c ρ (.vec t f xs)).bl r = c.bl ρ) := by
    intro r h
    have h1 := live_lt h
    simp only [mvC, List.length_append, List.length_set, List.length_singleton] at h1
    rcases Nat.lt_or_ge r c.st.length with g | g
    · obtain ⟨ob, h2, h3⟩ := live_of' h
      simp only [mvC] at h2
      rw [List.getElem?_append_left (by simpa using g), List.getElem?_set] at h2
      split at h2
      · simp [show ρ < c.st.length from live_lt hl] at h2
        exact absurd h2.symm h3
      · next hne => exact .inl ⟨g, fun e => hne e.symm, live_of h2 h3, hblr r g⟩
    · obtain rfl : r = c.st.length := by omega
      exact .inr ⟨rfl, hbln⟩
  refine ⟨?_, hx, ?_⟩
  · exact {
      below := hr.below
      inj := fun r r' b h h' hb hb' => by
        rcases hlive r h with ⟨g, gne, g1, g2⟩ | ⟨g, g2⟩ <;> rcases hlive r' h' with ⟨k, kne, k1, k2⟩ | ⟨k, k2⟩
        · exact hr.inj r r' b g1 k1 (g2 ▸ hb) (k2 ▸ hb')
        · exact absurd (hr.inj r ρ b g1 hl (g2 ▸ hb) (k2 ▸ hb')) gne
        · exact absurd (hr.inj r' ρ b k1 hl (k2 ▸ hb') (g2 ▸ hb)) kne
        · omega
      fresh := fun r b h hb => by
        rcases hlive r h with ⟨g, _, g1, g2⟩ | ⟨g, g2⟩
        · exact hr.fresh r b g1 (g2 ▸ hb)
        · exact hr.fresh ρ b hl (g2 ▸ hb)
      pl := PoolOk.keep hr.pl (fun r m h => by
          simp only [mvC] at h
          rcases get_push h with ⟨_, h1⟩ | ⟨_, h1⟩
          · rw [List.getElem?_set] at h1
            split at h1
            · split at h1 <;> cases h1
            · exact h1
          · cases h1) (fun r b h hb => by
          rcases hlive r h with ⟨g, _, g1, g2⟩ | ⟨g, g2⟩
          · exact .inl ⟨r, g1, g2 ▸ hb⟩
          · exact .inl ⟨ρ, hl, g2 ▸ hb⟩) (fun _ _ h => .inl h) (fun _ _ _ _ => rfl)
      bound := hr.bound
      newA := hr.newA
      obj := fun r ob' h => by
        simp only [mvC] at h
        rcases get_push h with ⟨g, h1⟩ | ⟨rfl, rfl⟩
        · have hob := hk1.obj r ob' h1
          simp only [List.length_set] at g
          exact OkOb.keep hx2 (hblr r g) (fun _ _ => rfl) (fun _ _ _ h => h) hob
        · have hob := hr.obj ρ _ hs
          obtain ⟨h1, h2, h3⟩ := hob
          refine ⟨h1, h2, ?_⟩
          simp only [List.length_set]
          rw [hbln]
          exact h3 }
  · intro u hu
    simp only [RelV, hs] at hu
    simp only [RelV]
    have hst : (mvC c ρ (.vec t f xs)).st[c.st.length]? = some (.vec t f xs) := by
      simp only [mvC]
      rw [List.getElem?_append_right (by simp)]
      simp
    rw [hst, hbln]
    exact hu
theorem mv_any {w0 : Base} {c : Cfg} (hr : Rel w0 c) {ρ : Nat} {t : Ty} {f f' : Nat} {xs ys : List t.den} (hs : c.st[ρ]? = some (.vec t f xs)) (hy : OkOb c ρ (.vec t f' ys)) :
    Rel w0 (mvC c ρ (.vec t f' ys)) ∧ Ext c (mvC c ρ (.vec t f' ys)) ∧ (mvC c ρ (.vec t f' ys)).st[c.st.length]? = some (.vec t f' ys) ∧ (mvC c ρ (.vec t f' ys)).bl c.st.length = c.bl ρ := by
  have hl := live_of hs (by simp)
  obtain ⟨hk1, hk2⟩ := kill_rel hr ρ
  have hblr : ∀ r, r < c.st.length → (mvC c ρ (.vec t f' ys)).bl r = c.bl r := fun r h => by simp only [mvC]; rw [if_neg (by omega)]
  have hbln : (mvC c ρ (.vec t f' ys)).bl c.st.length = c.bl ρ := by simp [mvC]
  have hx2 : Ext (killC c ρ) (mvC c ρ (.vec t f' ys)) := {
    size := Nat.le_refl _
    sub := fun _ _ h => h
    cells := fun _ _ _ => rfl
    len := by simp [mvC, killC]
    keep := fun r ob' hrl h => by
      simp only [killC, List.length_set] at hrl
      simp only [mvC] at h
      rw [List.getElem?_append_left (by simpa using hrl)] at h
      cases ob' with
      | dead => trivial
      | cells cs => exact ⟨⟨cs, h⟩, hblr r hrl⟩
      | pool m => exact ⟨m, h⟩
      | vec t f xs => exact ⟨f, xs, h, rfl, hblr r hrl, fun _ _ _ h => h⟩ }
  have hx : Ext c (mvC c ρ (.vec t f' ys)) := hk2.trans hx2
  have hlive : ∀ r, live (mvC c ρ (.vec t f' ys)).st r → (r < c.st.length ∧ r ≠ ρ ∧ live c.st r ∧ (mvC c ρ (.vec t f' ys)).bl r = c.bl r) ∨ (r = c.st.length ∧ (mvC c ρ (.vec t f' ys)).bl r = c.bl ρ) := by
    intro r h
    have h1 := live_lt h
    simp only [mvC, List.length_append, List.length_set, List.length_singleton] at h1
    rcases Nat.lt_or_ge r c.st.length with g | g
    · obtain ⟨ob, h2, h3⟩ := live_of' h
      simp only [mvC] at h2
      rw [List.getElem?_append_left (by simpa using g), List.getElem?_set] at h2
      split at h2
      · simp [show ρ < c.st.length from live_lt hl] at h2
        exact absurd h2.symm h3
      · next hne => exact .inl ⟨g, fun e => hne e.symm, live_of h2 h3, hblr r g⟩
    · obtain rfl : r = c.st.length := by omega
      exact .inr ⟨rfl, hbln⟩
  refine ⟨?_, hx, ?_⟩
  · exact {
      below := hr.below
      inj := fun r r' b h h' hb hb' => by
        rcases hlive r h with ⟨g, gne, g1, g2⟩ | ⟨g, g2⟩ <;> rcases hlive r' h' with ⟨k, kne, k1, k2⟩ | ⟨k, k2⟩
        · exact hr.inj r r' b g1 k1 (g2 ▸ hb) (k2 ▸ hb')
        · exact absurd (hr.inj r ρ b g1 hl (g2 ▸ hb) (k2 ▸ hb')) gne
        · exact absurd (hr.inj r' ρ b k1 hl (k2 ▸ hb') (g2 ▸ hb)) kne
        · omega
      fresh := fun r b h hb => by
        rcases hlive r h with ⟨g, _, g1, g2⟩ | ⟨g, g2⟩
        · exact hr.fresh r b g1 (g2 ▸ hb)
        · exact hr.fresh ρ b hl (g2 ▸ hb)
      pl := PoolOk.keep hr.pl (fun r m h => by
          simp only [mvC] at h
          rcases get_push h with ⟨_, h1⟩ | ⟨_, h1⟩
          · rw [List.getElem?_set] at h1
            split at h1
            · split at h1 <;> cases h1
            · exact h1
          · cases h1) (fun r b h hb => by
          rcases hlive r h with ⟨g, _, g1, g2⟩ | ⟨g, g2⟩
          · exact .inl ⟨r, g1, g2 ▸ hb⟩
          · exact .inl ⟨ρ, hl, g2 ▸ hb⟩) (fun _ _ h => .inl h) (fun _ _ _ _ => rfl)
      bound := hr.bound
      newA := hr.newA
      obj := fun r ob' h => by
        simp only [mvC] at h
        rcases get_push h with ⟨g, h1⟩ | ⟨rfl, rfl⟩
        · have hob := hk1.obj r ob' h1
          simp only [List.length_set] at g
          exact OkOb.keep hx2 (hblr r g) (fun _ _ => rfl) (fun _ _ _ h => h) hob
        · have hob := hy
          obtain ⟨h1, h2, h3⟩ := hob
          refine ⟨h1, h2, ?_⟩
          simp only [List.length_set]
          rw [hbln]
          exact h3 }
  · refine ⟨?_, hbln⟩
    simp only [mvC]
    rw [List.getElem?_append_right (by simp)]
    simp
theorem vw_mv {w0 : Base} {c : Cfg} (hr : Rel w0 c) {ρ : Nat} {t : Ty} {xs : List t.den} (hs : c.st[ρ]? = some (.vec t 0 xs)) (n : Nat) :
    Rel w0 (mvC c ρ (.vec t 0 (xs.take n))) ∧ Ext c (mvC c ρ (.vec t 0 (xs.take n))) ∧ ∀ u, RelV c (.vw ρ 0 n) u → RelV (mvC c ρ (.vec t 0 (xs.take n))) (.vec c.st.length) u := by
  have hy : OkOb c ρ (.vec t 0 (xs.take n)) := by
    obtain ⟨h1, _, ⟨h2, rfl⟩ | ⟨b, ce, e, cap, h2, h3, h4, h5, h6, h7⟩⟩ := hr.obj ρ _ hs
    · exact ⟨h1, by omega, .inl ⟨h2, by simp⟩⟩
    · refine ⟨h1, by omega, .inr ⟨b, ce, e, cap, h2, h3, h4, by rw [List.length_take]; omega, fun i y hy => ?_, h7⟩⟩
      rw [List.getElem?_take] at hy
      split at hy
      · exact h6 i y hy
      · cases hy
  obtain ⟨g1, g2, g3, g4⟩ := mv_any hr hs hy
  refine ⟨g1, g2, fun u hu => ?_⟩
  simp only [RelV, hs] at hu
  simp only [RelV, g3, g4]
  obtain ⟨hlo, ⟨h1, h2⟩ | ⟨b, cap, h1, h2, h3, h4⟩ | ⟨_, h, _⟩⟩ := hu
  · exact .inl ⟨h1, h2⟩
  · refine .inr ⟨b, cap, h1, ?_, ?_⟩
    · rw [List.length_take, Nat.min_eq_left (by omega), h2, Nat.zero_mul]
    · rw [Nat.zero_add] at h4; exact h4
  · omega
def pos (l : List Nat) (x : Nat) : Option Nat := match l with
  | [] => none
  | y :: r => if y = x then some 0 else match pos r x with
    | some k => some (k + 1)
    | none => none
theorem pos_get : ∀ {l : List Nat} {x k : Nat}, pos l x = some k → l[k]? = some x
  | [], x, k, h => by simp [pos] at h
  | y :: r, x, k, h => by
    simp only [pos] at h
    split at h
    · next e => cases h; simp [e]
    · split at h
      · next k' hk =>
        cases h
        simpa using pos_get hk
      · cases h
mutual
def vrefs : V → List Nat
  | .vec r => [r]
  | .vw r _ _ => [r]
  | .agg cs => vrefsL cs
  | .tup cs => vrefsL cs
  | _ => []
def vrefsL : List V → List Nat
  | [] => []
  | v :: vs => vrefs v ++ vrefsL vs
end
mutual
def ren (l : List Nat) : V → Option V
  | .x v => some (.x v)
  | .ro t xs => some (.ro t xs)
  | .rc cs j => if okRefs [] cs = true then some (.rc cs j) else none
  | .fn f a b => match renL l a, renL l b with
    | some a', some b' => some (.fn f a' b')
    | _, _ => none
  | .vec r => match pos l r with
    | some k => some (.vec k)
    | none => none
  | .vw r lo n => match pos l r with
    | some k => some (.vw k lo n)
    | none => none
  | .agg cs => match renL l cs with
    | some cs' => some (.agg cs')
    | none => none
  | .tup cs => match renL l cs with
    | some cs' => some (.tup cs')
    | none => none
  | .cl r i => match pos l r with
    | some k => some (.cl k i)
    | none => none
  | .any => some .any
  | .hd h => some (.hd h)
  | .pt a i => some (.pt a i)
  | _ => none
def renL (l : List Nat) : List V → Option (List V)
  | [] => some []
  | v :: vs => match ren l v, renL l vs with
    | some v', some vs' => some (v' :: vs')
    | _, _ => none
end
mutual
theorem okRef_nil (g : List Nat) : ∀ (v : V), okRef [] v = true → okRef g v = true
  | .any, _ | .x _, _ | .ro _ _, _ | .gd _ _ _, _ | .hd _, _ | .pt _ _, _ => by simp [okRef]
  | .rc cs j, h => by simp only [okRef] at *; exact okRefs_nil g cs h
  | .cl r i, h | .el r i _, h | .vec r, h | .vw r _ _, h => by simp [okRef] at h
  | .agg cs, h | .tup cs, h => by simp only [okRef] at *; exact okRefs_nil g cs h
  | .fn f a b, h => by
    simp only [okRef, Bool.and_eq_true] at *
    exact ⟨okRefs_nil g a h.1, okRefs_nil g b h.2⟩
theorem okRefs_nil (g : List Nat) : ∀ (vs : List V), okRefs [] vs = true → okRefs g vs = true
  | [], _ => rfl
  | v :: vs, h => by
    simp only [okRefs, Bool.and_eq_true] at *
    exact ⟨okRef_nil g v h.1, okRefs_nil g vs h.2⟩
end
mutual
theorem ren_rel {c : Cfg} {l : List Nat} : ∀ (v v' : V) (u : Value), ren l v = some v' → RelV c v u → RelV (reC c l) v' u
  | .any, v', u, h, _ => by simp only [ren, Option.some.injEq] at h; subst h; simp only [RelV]
  | .x x, v', u, h, hr => by simp only [ren, Option.some.injEq] at h; subst h; simpa only [RelV] using hr
  | .ro t xs, v', u, h, hr => by simp only [ren, Option.some.injEq] at h; subst h; exact RelV.re (.ro t xs) u rfl hr
  | .rc cs j, v', u, h, hr => by
    simp only [ren] at h
    split at h
    · next hk => cases h; exact RelV.re (.rc cs j) u (okRef_nil l _ hk) hr
    · cases h
  | .fn f a b, v', u, h, hr => by
    simp only [ren] at h
    split at h
    · next a' b' e1 e2 =>
      cases h
      simp only [RelV] at *
      obtain ⟨us1, us2, e, h1, h2⟩ := hr
      exact ⟨us1, us2, e, renL_rel a a' _ e1 h1, renL_rel b b' _ e2 h2⟩
    · cases h
  | .vec r, v', u, h, hr => by
    have hsh := vec_shape hr
    simp only [ren] at h
    split at h
    · next k hk =>
      cases h
      have hg := pos_get hk
      simp only [RelV] at hr ⊢
      rw [reC_st hg]
      cases hs : c.st[r]? with
      | none => rw [hs] at hr; exact hr.elim
      | some ob =>
        rw [hs] at hr
        simp only [List.getD_eq_getElem?_getD, hs, Option.getD_some]
        cases ob with
        | vec t f xs => rw [reC_bl hg]; exact hr
        | _ => exact hsh
    · cases h
  | .vw r lo n, v', u, h, hr => by
    have hsh := vw_shape hr
    simp only [ren] at h
    split at h
    · next k hk =>
      cases h
      have hg := pos_get hk
      simp only [RelV] at hr ⊢
      rw [reC_st hg]
      cases hs : c.st[r]? with
      | none => rw [hs] at hr; exact hr.elim
      | some ob =>
        rw [hs] at hr
        simp only [List.getD_eq_getElem?_getD, hs, Option.getD_some]
        cases ob with
        | vec t f xs => rw [reC_bl hg]; exact hr
        | _ => exact hsh
    · cases h
  | .agg cs, v', u, h, hr => by
    simp only [ren] at h
    split at h
    · next cs' hk =>
      cases h
      simp only [RelV] at *
      obtain ⟨us, e, h1⟩ := hr
      exact ⟨us, e, renL_rel cs cs' _ hk h1⟩
    · cases h
  | .tup cs, v', u, h, hr => by
    simp only [ren] at h
    split at h
    · next cs' hk =>
      cases h
      simp only [RelV] at *
      obtain ⟨us, e, h1⟩ := hr
      exact ⟨us, e, renL_rel cs cs' _ hk h1⟩
    · cases h
  | .cl r i, v', u, h, hr => by
    have hsh := cl_shape hr
    simp only [ren] at h
    split at h
    · next k hk =>
      cases h
      have hg := pos_get hk
      simp only [RelV] at hr ⊢
      rw [reC_st hg]
      cases hs : c.st[r]? with
      | none => rw [hs] at hr; exact hr.elim
      | some ob =>
        rw [hs] at hr
        simp only [List.getD_eq_getElem?_getD, hs, Option.getD_some]
        cases ob with
        | cells cs =>
          obtain ⟨b, hb, e⟩ := hr
          exact ⟨b, by rw [reC_bl hg]; exact hb, e⟩
        | _ => exact hsh
    · cases h
  | .el _ _ _, v', u, h, _ => by simp [ren] at h
  | .gd _ _ _, v', u, h, _ => by simp [ren] at h
  | .hd x, v', u, h, hr => by simp only [ren, Option.some.injEq] at h; subst h; simpa only [RelV] using hr
  | .pt a i, v', u, h, hr => by simp only [ren, Option.some.injEq] at h; subst h; simpa only [RelV] using hr
theorem renL_rel {c : Cfg} {l : List Nat} : ∀ (vs vs' : List V) (us : List Value), renL l vs = some vs' → RelVs c vs us → RelVs (reC c l) vs' us
  | [], vs', us, h, hr => by simp only [renL, Option.some.injEq] at h; subst h; simpa only [RelVs] using hr
  | v :: vs, vs', us, h, hr => by
    simp only [renL] at h
    split at h
    · next v1 vs1 e1 e2 =>
      cases h
      simp only [RelVs] at *
      obtain ⟨u, us', e, h1, h2⟩ := hr
      exact ⟨u, us', e, ren_rel v v1 u e1 h1, renL_rel vs vs1 us' e2 h2⟩
    · cases h
end
end Eng
end Go.Proofs.YtkpplfghhciacaaDoor
set_option linter.unusedVariables false
set_option linter.unusedSimpArgs false
namespace Go.Proofs.YtkpplfghhciacaaDoor
namespace Eng
open Go.RowKit
mutual
def names : V → List Nat
  | .rc cs _ => namesL cs
  | .cl r _ => [r]
  | .el r _ _ => [r]
  | .vec r => [r]
  | .vw r _ _ => [r]
  | .agg cs => namesL cs
  | .tup cs => namesL cs
  | .fn _ a b => namesL a ++ namesL b
  | _ => []
def namesL : List V → List Nat
  | [] => []
  | v :: vs => names v ++ namesL vs
end
def namesO : Ob → List Nat
  | .cells cs => namesL cs
  | _ => []
def has (l : List Nat) (x : Nat) : Bool := match l with
  | [] => false
  | y :: r => Nat.beq y x || has r x
def addN : List Nat → List Nat → List Nat
  | l, [] => l
  | l, x :: r => addN (bif has l x then l else l ++ [x]) r
def reach (st : List Ob) : Nat → List Nat → List Nat
  | 0, l => l
  | n + 1, l => reach st n (addN l (l.flatMap fun i => namesO (st.getD i .dead)))
mutual
def renD (l : List Nat) : V → Option V
  | .any => some .any
  | .x v => some (.x v)
  | .ro t xs => some (.ro t xs)
  | .rc cs j => match renDL l cs with
    | some cs' => some (.rc cs' j)
    | none => none
  | .cl r i => match pos l r with
    | some k => some (.cl k i)
    | none => none
  | .el r i j => match pos l r with
    | some k => some (.el k i j)
    | none => none
  | .vec r => match pos l r with
    | some k => some (.vec k)
    | none => none
  | .vw r lo n => match pos l r with
    | some k => some (.vw k lo n)
    | none => none
  | .agg cs => match renDL l cs with
    | some cs' => some (.agg cs')
    | none => none
  | .tup cs => match renDL l cs with
    | some cs' => some (.tup cs')
    | none => none
  | .fn f a b => match renDL l a, renDL l b with
    | some a', some b' => some (.fn f a' b')
    | _, _ => none
  | .gd _ _ _ => none
  | .hd h => some (.hd h)
  | .pt a i => some (.pt a i)
def renDL (l : List Nat) : List V → Option (List V)
  | [] => some []
  | v :: vs => match renD l v, renDL l vs with
    | some v', some vs' => some (v' :: vs')
    | _, _ => none
end
def renO (l : List Nat) : Ob → Ob
  | .cells cs => match renDL l cs with
    | some cs' => .cells cs'
    | none => .dead
  | ob => ob
def reD (c : Cfg) (g : List Nat) : Cfg :=
  { c with st := g.map (fun i => renO g (c.st.getD i .dead)), bl := fun r => match g[r]? with | some i => c.bl i | none => none }
theorem reD_st {c : Cfg} {g : List Nat} {r i : Nat} (h : g[r]? = some i) : (reD c g).st[r]? = some (renO g (c.st.getD i .dead)) := by
  simp [reD, h]
theorem reD_bl {c : Cfg} {g : List Nat} {r i : Nat} (h : g[r]? = some i) : (reD c g).bl r = c.bl i := by
  simp [reD, h]
theorem getD_of {st : List Ob} {i : Nat} {ob : Ob} (h : st[i]? = some ob) : st.getD i .dead = ob := by
  simp [List.getD, h]
mutual
theorem renD_rel {c : Cfg} {l : List Nat} : ∀ (v v' : V) (u : Value), renD l v = some v' → RelV c v u → RelV (reD c l) v' u
  | .any, v', u, h, _ => by simp only [renD, Option.some.injEq] at h; subst h; simp only [RelV]
  | .x v, v', u, h, hr => by simp only [renD, Option.some.injEq] at h; subst h; simpa only [RelV] using hr
  | .ro t xs, v', u, h, hr => by
    simp only [renD, Option.some.injEq] at h; subst h
    simp only [RelV] at *
    exact hr
  | .rc cs j, v', u, h, hr => by
    simp only [renD] at h
    split at h
    · next cs' hk =>
      cases h
      simp only [RelV] at *
      obtain ⟨b, o, e, hc⟩ := hr
      obtain ⟨us, h1, h2⟩ := RelC.list hc
      exact ⟨b, o, e, RelC.mk (renDL_rel cs cs' us hk h1) h2⟩
    · cases h
  | .cl r i, v', u, h, hr => by
    have hsh := cl_shape hr
    simp only [renD] at h
    split at h
    · next k hk =>
      cases h
      have hg := pos_get hk
      simp only [RelV] at hr ⊢
      rw [reD_st hg, reD_bl hg]
      cases hs : c.st[r]? with
      | none => rw [hs] at hr; exact hr.elim
      | some ob =>
        rw [hs] at hr
        rw [getD_of hs]
        cases ob with
        | cells cs =>
          simp only [renO]
          split
          · next e => split at e <;> cases e
          · next e => exact hr
          · exact hsh
        | _ => exact hsh
    · cases h
  | .el r i j, v', u, h, hr => by
    have hsh := el_shape hr
    simp only [renD] at h
    split at h
    · next k hk =>
      cases h
      have hg := pos_get hk
      simp only [RelV] at hr ⊢
      rw [reD_st hg, reD_bl hg]
      cases hs : c.st[r]? with
      | none => rw [hs] at hr; exact hr.elim
      | some ob =>
        rw [hs] at hr
        rw [getD_of hs]
        cases ob with
        | cells cs =>
          simp only [renO]
          split
          · next e => split at e <;> cases e
          · next e => split at e <;> cases e
          · exact hr
          · exact hsh
        | dead => exact hsh
        | pool m => exact hsh
        | vec t f xs => exact hr
    · cases h
  | .vec r, v', u, h, hr => by
    have hsh := vec_shape hr
    simp only [renD] at h
    split at h
    · next k hk =>
      cases h
      have hg := pos_get hk
      simp only [RelV] at hr ⊢
      rw [reD_st hg, reD_bl hg]
      cases hs : c.st[r]? with
      | none => rw [hs] at hr; exact hr.elim
      | some ob =>
        rw [hs] at hr
        rw [getD_of hs]
        cases ob with
        | cells cs =>
          simp only [renO]
          split
          · next e => split at e <;> cases e
          · next e => split at e <;> cases e
          · exact hsh
        | dead => exact hsh
        | pool m => exact hsh
        | vec t f xs => exact hr
    · cases h
  | .vw r lo n, v', u, h, hr => by
    have hsh := vw_shape hr
    simp only [renD] at h
    split at h
    · next k hk =>
      cases h
      have hg := pos_get hk
      simp only [RelV] at hr ⊢
      rw [reD_st hg, reD_bl hg]
      cases hs : c.st[r]? with
      | none => rw [hs] at hr; exact hr.elim
      | some ob =>
        rw [hs] at hr
        rw [getD_of hs]
        cases ob with
        | cells cs =>
          simp only [renO]
          split
          · next e => split at e <;> cases e
          · next e => split at e <;> cases e
          · exact hsh
        | dead => exact hsh
        | pool m => exact hsh
        | vec t f xs => exact hr
    · cases h
  | .agg cs, v', u, h, hr => by
    simp only [renD] at h
    split at h
    · next cs' hk =>
      cases h
      simp only [RelV] at *
      obtain ⟨us, e, h1⟩ := hr
      exact ⟨us, e, renDL_rel cs cs' _ hk h1⟩
    · cases h
  | .tup cs, v', u, h, hr => by
    simp only [renD] at h
    split at h
    · next cs' hk =>
      cases h
      simp only [RelV] at *
      obtain ⟨us, e, h1⟩ := hr
      exact ⟨us, e, renDL_rel cs cs' _ hk h1⟩
    · cases h
  | .fn f a b, v', u, h, hr => by
    simp only [renD] at h
    split at h
    · next a' b' ha hb =>
      cases h
      simp only [RelV] at *
      obtain ⟨us1, us2, e, h1, h2⟩ := hr
      exact ⟨us1, us2, e, renDL_rel a a' _ ha h1, renDL_rel b b' _ hb h2⟩
    · cases h
  | .gd _ _ _, v', u, h, _ => by simp [renD] at h
  | .hd x, v', u, h, hr => by simp only [renD, Option.some.injEq] at h; subst h; simpa only [RelV] using hr
  | .pt a i, v', u, h, hr => by simp only [renD, Option.some.injEq] at h; subst h; simpa only [RelV] using hr
theorem renDL_rel {c : Cfg} {l : List Nat} : ∀ (vs vs' : List V) (us : List Value), renDL l vs = some vs' → RelVs c vs us → RelVs (reD c l) vs' us
  | [], vs', us, h, hr => by simp only [renDL, Option.some.injEq] at h; subst h; simpa only [RelVs] using hr
  | v :: vs, vs', us, h, hr => by
    simp only [renDL] at h
    split at h
    · next v1 vs1 e1 e2 =>
      cases h
      simp only [RelVs] at *
      obtain ⟨u, us', e, h1, h2⟩ := hr
      exact ⟨u, us', e, renD_rel v v1 u e1 h1, renDL_rel vs vs1 us' e2 h2⟩
    · cases h
end
theorem live_ren {g : List Nat} {ob : Ob} (h : renO g ob ≠ .dead) : ob ≠ .dead := by
  rintro rfl
  exact h rfl
theorem reD_live {c : Cfg} {g : List Nat} {r : Nat} (h : live (reD c g).st r) : ∃ i, g[r]? = some i ∧ live c.st i ∧ (reD c g).bl r = c.bl i := by
  obtain ⟨ob, h1, h2⟩ := live_of' h
  cases hg : g[r]? with
  | none => simp [reD, hg] at h1
  | some i =>
    rw [reD_st hg] at h1
    simp only [Option.some.injEq] at h1
    have h3 := live_ren (h1 ▸ h2)
    cases hs : c.st[i]? with
    | none => simp [List.getD, hs] at h3
    | some ob' =>
      rw [getD_of hs] at h3
      exact ⟨i, rfl, live_of hs h3, reD_bl hg⟩
theorem reD_obj {c : Cfg} {g : List Nat} (hobj : ∀ r ob, c.st[r]? = some ob → OkOb c r ob) : ∀ r ob, (reD c g).st[r]? = some ob → OkOb (reD c g) r ob := by
  intro r ob h
  cases hg : g[r]? with
  | none => simp [reD, hg] at h
  | some i =>
    rw [reD_st hg] at h
    simp only [Option.some.injEq] at h
    subst h
    cases hs : c.st[i]? with
    | none => simp [List.getD, hs, renO, OkOb]
    | some ob' =>
      rw [getD_of hs]
      have ho := hobj i _ hs
      cases ob' with
      | dead => trivial
      | cells cs =>
        simp only [renO]
        split
        · next cs' hk =>
          obtain ⟨b, ce, e, h1, h2, h3, h4⟩ := ho
          exact ⟨b, ce, e, by rw [reD_bl hg]; exact h1, h2, renDL_rel cs cs' _ hk h3, h4⟩
        · trivial
      | vec t f xs =>
        obtain ⟨h1, h2, h3⟩ := ho
        refine ⟨h1, h2, ?_⟩
        rw [reD_bl hg]
        exact h3
      | pool m => exact (reD_bl hg).trans ho
theorem reD_rel {w0 : Base} {c : Cfg} (hr : Rel w0 c) {g : List Nat} (hd : distinct g = true) : Rel w0 (reD c g) where
  below := hr.below
  inj := fun r r' b h h' hb hb' => by
    obtain ⟨i, g1, g2, g3⟩ := reD_live h
    obtain ⟨i', k1, k2, k3⟩ := reD_live h'
    have := hr.inj i i' b g2 k2 (g3 ▸ hb) (k3 ▸ hb')
    subst this
    exact distinct_inj hd g1 k1
  fresh := fun r b h hb => by
    obtain ⟨i, g1, g2, g3⟩ := reD_live h
    exact hr.fresh i b g2 (g3 ▸ hb)
  bound := hr.bound
  newA := hr.newA
  obj := reD_obj hr.obj
  pl := PoolOk.ren hr.pl rfl (fun _ _ h => h) hd (fun r m h => by
      cases hg : g[r]? with
      | none => simp [reD, hg] at h
      | some i =>
        rw [reD_st hg] at h
        refine ⟨i, rfl, ?_⟩
        cases hs : c.st[i]? with
        | none => simp [List.getD, hs, renO] at h
        | some ob' =>
          rw [getD_of hs] at h
          cases ob' with
          | cells cs => simp only [renO] at h; split at h <;> cases h
          | dead => cases h
          | vec t f xs => cases h
          | pool m' => exact h) (fun r b h hb => by
      obtain ⟨i, _, g2, g3⟩ := reD_live h
      exact ⟨i, g2, g3 ▸ hb⟩)
theorem renO_cells {g : List Nat} {ob : Ob} {cs : List V} (h : renO g ob = .cells cs) : ∃ cs', ob = .cells cs' := by
  cases ob with
  | cells cs' => exact ⟨cs', rfl⟩
  | dead => cases h
  | vec t f xs => cases h
  | pool m => cases h
theorem renO_vec {g : List Nat} {ob : Ob} {t : Ty} {f : Nat} {xs : List t.den} (h : renO g ob = .vec t f xs) : ob = .vec t f xs := by
  cases ob with
  | cells cs' =>
    simp only [renO] at h
    split at h <;> cases h
  | dead => cases h
  | pool m => cases h
  | vec t f xs => exact h
theorem renO_pool {g : List Nat} {ob : Ob} {m : Pool} (h : renO g ob = .pool m) : ob = .pool m := by
  cases ob with
  | cells cs' =>
    simp only [renO] at h
    split at h <;> cases h
  | dead => cases h
  | vec t f xs => cases h
  | pool m' => exact h
theorem reD_ext {cb c : Cfg} (hx : Ext cb c) {g : List Nat} (hg : ∀ r, r < cb.st.length → g[r]? = some r) : Ext cb (reD c g) where
  size := hx.size
  sub := hx.sub
  cells := hx.cells
  len := by
    simp only [reD, List.length_map]
    rcases Nat.eq_zero_or_pos cb.st.length with h | h
    · omega
    · have := hg (cb.st.length - 1) (by omega)
      have := (List.getElem?_eq_some_iff.1 this).1
      omega
  keep := fun r ob hr h => by
    rw [reD_st (hg r hr)] at h
    have hl := hx.len
    have hs : c.st[r]? = some (c.st[r]'(by omega)) := List.getElem?_eq_getElem (by omega)
    rw [getD_of hs] at h
    simp only [Option.some.injEq] at h
    have hk := hx.keep r _ hr hs
    cases ob with
    | dead => trivial
    | cells cs =>
      obtain ⟨cs', e⟩ := renO_cells h
      rw [e] at hk
      exact ⟨hk.1, by rw [reD_bl (hg r hr)]; exact hk.2⟩
    | vec t f xs =>
      have e := renO_vec h
      rw [e] at hk
      obtain ⟨f0, xs0, h1, h2, h3, h4⟩ := hk
      exact ⟨f0, xs0, h1, h2, by rw [reD_bl (hg r hr)]; exact h3, h4⟩
    | pool m =>
      have e := renO_pool h
      rw [e] at hk
      exact hk
end Eng
end Go.Proofs.YtkpplfghhciacaaDoor
set_option linter.unusedVariables false
set_option linter.unusedSimpArgs false
namespace Go.Proofs.YtkpplfghhciacaaDoor
namespace Eng
open Go.RowKit
abbrev St := List V → List Ob → Prop
inductive Rs where
  | any
  | sl (t : Ty)
  | mv (t : Ty)
  | ro (t : Ty)
  | vw
  | hd
  | agg (l : List Rs)
  | tup (l : List Rs)
mutual
def ownR : Rs → V → List Ob → V × List Ob
  | .sl t, v, st => (match v with
    | .x (.slice none 0 0) => if 0 < t.size then (.vec st.length, st ++ [.vec t 0 []]) else (v, st)
    | .vw r 0 n => (match st[r]? with
      | some (.vec τ 0 xs) => (.vec st.length, st.set r .dead ++ [.vec τ 0 (xs.take n)])
      | _ => (v, st))
    | _ => (v, st))
  | .mv t, v, st => (match v with
    | .x (.slice none 0 0) => if 0 < t.size then (.vec st.length, st ++ [.vec t 0 []]) else (v, st)
    | .vec r => (match st[r]? with
      | some (.vec τ f xs) => (.vec st.length, st.set r .dead ++ [.vec τ f xs])
      | _ => (v, st))
    | .vw r 0 n => (match st[r]? with
      | some (.vec τ 0 xs) => (.vec st.length, st.set r .dead ++ [.vec τ 0 (xs.take n)])
      | _ => (v, st))
    | _ => (v, st))
  | .ro t, v, st => (match v with
    | .x (.slice none 0 0) => (.ro t [], st)
    | .vec r => (match st[r]? with
      | some (.vec τ _ xs) => (.ro τ xs, st.set r (.vec τ xs.length xs))
      | _ => (v, st))
    | .vw r lo n => (match st[r]? with
      | some (.vec τ _ xs) => (.ro τ ((xs.drop lo).take n), st.set r (.vec τ xs.length xs))
      | _ => (v, st))
    | _ => (v, st))
  | .vw, v, st => (match v with
    | .vec r => (match st[r]? with
      | some (.vec _ _ xs) => (.vw r 0 xs.length, st)
      | _ => (v, st))
    | _ => (v, st))
  | .hd, v, st => (match v with
    | .x (.slice none 0 0) => (.hd Hd.nil, st)
    | _ => (v, st))
  | .agg l, v, st => (match v with
    | .agg cs => (match ownRs l cs st with | (cs', st') => (.agg cs', st'))
    | _ => (v, st))
  | .tup l, v, st => (match v with
    | .tup cs => (match ownRs l cs st with | (cs', st') => (.tup cs', st'))
    | _ => (v, st))
  | .any, v, st => (v, st)
def ownRs : List Rs → List V → List Ob → List V × List Ob
  | [], l, st => (l, st)
  | s :: r, l, st => (match l with
    | v :: vs => (match ownR s v st with | (v', st') => (match ownRs r vs st' with | (vs', st'') => (v' :: vs', st'')))
    | [] => ([], st))
end
mutual
theorem ownR_sound {w0 : Base} : ∀ (s : Rs) (v : V) (c : Cfg), Rel w0 c → ∃ c', c'.w = c.w ∧ c'.st = (ownR s v c.st).2 ∧ Rel w0 c' ∧ Ext c c' ∧ ∀ u, RelV c v u → RelV c' (ownR s v c.st).1 u
  | .any, v, c, hr => ⟨c, rfl, by simp only [ownR], hr, Ext.refl c, fun u h => by simpa only [ownR] using h⟩
  | .sl t, v, c, hr => by
    have same : ∃ c', c'.w = c.w ∧ c'.st = c.st ∧ Rel w0 c' ∧ Ext c c' ∧ ∀ u, RelV c v u → RelV c' v u := ⟨c, rfl, rfl, hr, Ext.refl c, fun u h => h⟩
    simp only [ownR]
    split
    · split
      · next ht =>
        obtain ⟨h1, h2⟩ := ghost_rel hr ht
        refine ⟨ghostC c t, rfl, rfl, h1, h2, fun u h => ?_⟩
        simp only [RelV] at h
        simp only [RelV, ghostC]
        rw [List.getElem?_append_right (Nat.le_refl _)]
        simp [h]
      · exact same
    · next r n =>
      split
      · next τ xs hst =>
        obtain ⟨h1, h2, h3⟩ := vw_mv hr hst n
        exact ⟨mvC c r (.vec τ 0 (xs.take n)), rfl, rfl, h1, h2, h3⟩
      · exact same
    · exact same
  | .mv t, v, c, hr => by
    have same : ∃ c', c'.w = c.w ∧ c'.st = c.st ∧ Rel w0 c' ∧ Ext c c' ∧ ∀ u, RelV c v u → RelV c' v u := ⟨c, rfl, rfl, hr, Ext.refl c, fun u h => h⟩
    simp only [ownR]
    split
    · split
      · next ht =>
        obtain ⟨h1, h2⟩ := ghost_rel hr ht
        refine ⟨ghostC c t, rfl, rfl, h1, h2, fun u h => ?_⟩
        simp only [RelV] at h
        simp only [RelV, ghostC]
        rw [List.getElem?_append_right (Nat.le_refl _)]
        simp [h]
      · exact same
    · next r =>
      split
      · next τ f xs hst =>
        obtain ⟨h1, h2, h3⟩ := mv_rel hr hst
        exact ⟨mvC c r (.vec τ f xs), rfl, rfl, h1, h2, h3⟩
      · exact same
    · next r n =>
      split
      · next τ xs hst =>
        obtain ⟨h1, h2, h3⟩ := vw_mv hr hst n
        exact ⟨mvC c r (.vec τ 0 (xs.take n)), rfl, rfl, h1, h2, h3⟩
      · exact same
    · exact same
  | .ro t, v, c, hr => by
    have same : ∃ c', c'.w = c.w ∧ c'.st = c.st ∧ Rel w0 c' ∧ Ext c c' ∧ ∀ u, RelV c v u → RelV c' v u := ⟨c, rfl, rfl, hr, Ext.refl c, fun u h => h⟩
    simp only [ownR]
    split
    · refine ⟨c, rfl, rfl, hr, Ext.refl c, fun u h => ?_⟩
      simp only [RelV] at h ⊢
      subst h
      simp [RoV, SlV]
    · next r =>
      split
      · next τ f xs hst =>
        obtain ⟨g1, g2, g3⟩ := frz_rel hr hst
        exact ⟨frzC c r τ xs, rfl, rfl, g1, g2, g3⟩
      · exact same
    · next r lo n =>
      split
      · next τ f xs hst =>
        obtain ⟨g1, g2, _⟩ := frz_rel hr hst
        exact ⟨frzC c r τ xs, rfl, rfl, g1, g2, fun u hu => vw_frz hr hst hu⟩
      · exact same
    · exact same
  | .vw, v, c, hr => by
    have same : ∃ c', c'.w = c.w ∧ c'.st = c.st ∧ Rel w0 c' ∧ Ext c c' ∧ ∀ u, RelV c v u → RelV c' v u := ⟨c, rfl, rfl, hr, Ext.refl c, fun u h => h⟩
    simp only [ownR]
    split
    · next r =>
      split
      · next τ f xs hst =>
        refine ⟨c, rfl, rfl, hr, Ext.refl c, fun u h => ?_⟩
        simp only [RelV, hst] at h ⊢
        refine ⟨by omega, ?_⟩
        rcases h with h | ⟨b, cap, h1, h2, h3⟩
        · exact .inl h
        · obtain ⟨hp, _, ⟨hn, _⟩ | ⟨b', ce, e, cap', g1, g2, g3, g4, _⟩⟩ := hr.obj r _ hst
          · rw [hn] at h1; cases h1
          rw [g1] at h1; cases h1
          have hcap : cap = cap' := by
            obtain ⟨ce', e', fz, k1, k2⟩ := h3
            rw [g2] at k1; cases k1
            exact Nat.eq_of_mul_eq_mul_right hp (by omega)
          exact .inr (.inl ⟨b, cap, g1, by rw [Nat.zero_mul]; exact h2, by omega, by rw [Nat.zero_add]; exact h3⟩)
      · exact same
    · exact same
  | .hd, v, c, hr => by
    simp only [ownR]
    split
    · refine ⟨c, rfl, rfl, hr, Ext.refl c, fun u h => ?_⟩
      simp only [RelV] at h ⊢
      exact h
    · exact ⟨c, rfl, rfl, hr, Ext.refl c, fun u h => h⟩
  | .agg l, v, c, hr => by
    simp only [ownR]
    split
    · next cs =>
      obtain ⟨c', h1, h2, h3, h4, h5⟩ := ownRs_sound l cs c hr
      refine ⟨c', h1, h2, h3, h4, fun u h => ?_⟩
      simp only [RelV] at h ⊢
      obtain ⟨us, e, h⟩ := h
      exact ⟨us, e, h5 _ h⟩
    · exact ⟨c, rfl, rfl, hr, Ext.refl c, fun u h => h⟩
  | .tup l, v, c, hr => by
    simp only [ownR]
    split
    · next cs =>
      obtain ⟨c', h1, h2, h3, h4, h5⟩ := ownRs_sound l cs c hr
      refine ⟨c', h1, h2, h3, h4, fun u h => ?_⟩
      simp only [RelV] at h ⊢
      obtain ⟨us, e, h⟩ := h
      exact ⟨us, e, h5 _ h⟩
    · exact ⟨c, rfl, rfl, hr, Ext.refl c, fun u h => h⟩
theorem ownRs_sound {w0 : Base} : ∀ (ss : List Rs) (l : List V) (c : Cfg), Rel w0 c → ∃ c', c'.w = c.w ∧ c'.st = (ownRs ss l c.st).2 ∧ Rel w0 c' ∧ Ext c c' ∧ ∀ us, RelVs c l us → RelVs c' (ownRs ss l c.st).1 us
  | [], l, c, hr => ⟨c, rfl, by simp only [ownRs], hr, Ext.refl c, fun u h => by simpa only [ownRs] using h⟩
  | s :: r, l, c, hr => by
    simp only [ownRs]
    split
    · next v vs =>
      obtain ⟨c1, h1, h2, h3, h4, h5⟩ := ownR_sound s v c hr
      obtain ⟨c2, k1, k2, k3, k4, k5⟩ := ownRs_sound r vs c1 h3
      rw [h2] at k2 k5
      refine ⟨c2, k1.trans h1, k2, k3, h4.trans k4, fun us h => ?_⟩
      simp only [RelVs] at h ⊢
      obtain ⟨u, us', e, g1, g2⟩ := h
      exact ⟨u, us', e, RelV.ext k4 _ _ (h5 u g1), k5 _ (RelVs.ext h4 _ _ g2)⟩
    · exact ⟨c, rfl, rfl, hr, Ext.refl c, fun u h => h⟩
end
def mvR (s : Rs) (v : V) (st : List Ob) : V × List Ob := match s with
  | .sl t => ownR (.mv t) v st
  | s => ownR s v st
def MSound (m : Rs → V → List Ob → V × List Ob) : Prop :=
  ∀ (w0 : Base) (s : Rs) (v : V) (c : Cfg), Rel w0 c → ∃ c', c'.w = c.w ∧ c'.st = (m s v c.st).2 ∧ Rel w0 c' ∧ Ext c c' ∧ ∀ u, RelV c v u → RelV c' (m s v c.st).1 u
theorem ownR_ms : MSound ownR := fun _ s v c hr => ownR_sound s v c hr
theorem mvR_ms : MSound mvR := by
  intro w0 s v c hr
  unfold mvR
  split
  · exact ownR_sound _ _ c hr
  · exact ownR_sound _ _ c hr
theorem setSlot_rel {c : Cfg} {sl : List V} {tmps : Array Value} (h : SlR c sl tmps) (hg : GdIn [] sl) {s : Nat} {v : V} (hv : RelV c v (tmps.getD s undef)) (hn : ∀ g w x, v ≠ .gd g w x) :
    SlR c (sl.set s v) tmps ∧ GdIn [] (sl.set s v) := by
  refine ⟨⟨by simp; exact h.len, fun t => ?_⟩, fun t g w x e => ?_⟩
  · have hs := h.slot t
    unfold SlotR at hs ⊢
    rw [getD_set]
    by_cases hc : s = t ∧ s < sl.length
    · rw [if_pos hc]
      obtain ⟨rfl, _⟩ := hc
      split
      · next g w x => exact absurd rfl (hn g w x)
      · exact hv
    · rw [if_neg hc]
      exact hs
  · rw [getD_set] at e
    split at e
    · exact absurd e (hn g w x)
    · exact hg t g w x e
theorem slot_plain {c : Cfg} {sl : List V} {tmps : Array Value} (h : SlR c sl tmps) (hg : GdIn [] sl) (t : Nat) : RelV c (sl.getD t .any) (tmps.getD t undef) := by
  have hs := h.slot t
  unfold SlotR at hs
  split at hs
  · next g w v e => exact absurd (hg t g w v e) (by simp)
  · exact hs
def coS (m : Rs → V → List Ob → V × List Ob) : List (Nat × Rs) → List V → List Ob → List V × List Ob
  | [], sl, st => (sl, st)
  | (s, r) :: l, sl, st => match m r (sl.getD s .any) st with
    | (v, st') => coS m l (sl.set s (nogd v)) st'
theorem coS_sound {m : Rs → V → List Ob → V × List Ob} (hm : MSound m) {w0 : Base} {cb : Cfg} {tmps : Array Value} : ∀ (vs : List (Nat × Rs)) (c : Cfg) (sl : List V), Rel w0 c → Ext cb c → SlR c sl tmps → GdIn [] sl →
    ∃ c', c'.w = c.w ∧ c'.st = (coS m vs sl c.st).2 ∧ Rel w0 c' ∧ Ext cb c' ∧ SlR c' (coS m vs sl c.st).1 tmps ∧ GdIn [] (coS m vs sl c.st).1
  | [], c, sl, hr, hx, hs, hg => ⟨c, rfl, rfl, hr, hx, hs, hg⟩
  | (s, r) :: l, c, sl, hr, hx, hs, hg => by
    obtain ⟨c1, h1, h2, h3, h4, h5⟩ := hm w0 r (sl.getD s .any) c hr
    simp only [coS]
    have hv := nogd_rel (h5 _ (slot_plain hs hg s))
    obtain ⟨k1, k2⟩ := setSlot_rel (s := s) (SlR.ext h4 hs) hg hv (fun _ _ _ => nogd_ne)
    obtain ⟨c2, g1, g2, g3, g4, g5, g6⟩ := coS_sound hm l c1 _ h3 (hx.trans h4) k1 k2
    rw [h2] at g2 g5 g6
    exact ⟨c2, g1.trans h1, g2, g3, g4, g5, g6⟩
theorem getD_get {l : List V} {i : Nat} {v : V} (h : l[i]? = some v) : l.getD i .any = v := by
  rw [List.getD_eq_getElem?_getD, h]; rfl
theorem setcell_rel {w0 : Base} {c c1 : Cfg} (hr : Rel w0 c) (hr1 : Rel w0 c1) (hx : Ext c c1) (hw : c1.w = c.w) {o i : Nat} {cs cs1 : List V} {v : V} (h0 : c.st[o]? = some (.cells cs)) (h1 : c1.st[o]? = some (.cells cs1))
    (hv : ∀ u, RelV c (cs.getD i .any) u → RelV c1 v u) : Rel w0 { c1 with st := c1.st.set o (.cells (cs1.set i v)) } ∧ Ext c1 { c1 with st := c1.st.set o (.cells (cs1.set i v)) } := by
  have hlt : o < c1.st.length := (List.getElem?_eq_some_iff.1 h1).1
  have hlt0 : o < c.st.length := (List.getElem?_eq_some_iff.1 h0).1
  have hx2 : Ext c1 { c1 with st := c1.st.set o (.cells (cs1.set i v)) } := {
    size := Nat.le_refl _
    sub := fun _ _ h => h
    cells := fun _ _ _ => rfl
    len := by simp
    keep := fun r ob hr' h => by
      simp only [List.getElem?_set] at h
      split at h
      · next e =>
        subst e
        cases h
        exact ⟨⟨cs1, h1⟩, rfl⟩
      · cases ob with
        | dead => trivial
        | cells cs2 => exact ⟨⟨_, h⟩, rfl⟩
        | pool m => exact ⟨m, h⟩
        | vec t f xs => exact ⟨f, xs, h, rfl, rfl, fun _ _ _ h => h⟩ }
  have hlive : ∀ r, live (c1.st.set o (.cells (cs1.set i v))) r → live c1.st r := fun r h => by
    unfold live at h ⊢
    rw [List.getElem?_set] at h
    by_cases e : o = r
    · subst e; rw [h1]; trivial
    · rw [if_neg e] at h; exact h
  refine ⟨⟨hr1.below, fun r r' b h h' hb hb' => hr1.inj r r' b (hlive r h) (hlive r' h') hb hb', fun r b h hb => hr1.fresh r b (hlive r h) hb, hr1.bound, hr1.newA, fun r ob h => ?_, PoolOk.keep hr1.pl (fun r m h => by
    simp only [List.getElem?_set] at h
    split at h
    · cases h
    · exact h) (fun r b h hb => .inl ⟨r, hlive r h, hb⟩) (fun _ _ h => .inl h) (fun _ _ _ _ => rfl)⟩, hx2⟩
  simp only [List.getElem?_set] at h
  split at h
  · next e =>
    subst e
    cases h
    obtain ⟨b, ce, e1, g1, g2, g3, g4⟩ := hr1.obj o _ h1
    obtain ⟨b', ce', e', k1, k2, k3, k4⟩ := hr.obj o _ h0
    have hbl : c1.bl o = c.bl o := (hx.keep o _ hlt0 h1).2
    rw [hbl, k1] at g1
    cases g1
    rw [hw, k2] at g2
    cases g2
    refine ⟨b, ce, e1, by rw [← k1, ← hbl], by rw [← k2, ← hw], ?_, g4⟩
    refine RelVs.ext hx2 _ _ ?_
    rcases Nat.lt_or_ge i cs.length with hi | hi
    · obtain ⟨u, hu, hru⟩ := RelVs.get k3 (List.getElem?_eq_getElem hi)
      have hvu : RelV c1 v u := hv u (by rw [getD_get (List.getElem?_eq_getElem hi)]; exact hru)
      have := RelVs.set i g3 hvu
      have e2 : ce.toList.set i u = ce.toList := by
        apply List.ext_getElem?
        intro j
        rw [List.getElem?_set]
        split
        · next e => subst e; split
                    · exact hu.symm
                    · next hn => exact absurd (List.getElem?_eq_some_iff.1 hu).1 hn
        · rfl
      rw [e2] at this
      exact this
    · have l1 := RelVs.length g3
      have l2 := RelVs.length k3
      rw [List.set_eq_of_length_le (by omega)]
      exact g3
  · exact OkOb.keep hx2 rfl (fun _ _ => rfl) (fun _ _ _ h => h) (hr1.obj r ob h)
def coF (m : Rs → V → List Ob → V × List Ob) : List (Nat × Nat × Rs) → List Ob → List Ob
  | [], st => st
  | (o, i, r) :: l, st => match st[o]? with
    | some (.cells cs) => match m r (cs.getD i .any) st with
      | (v, st') => match st'[o]? with
        | some (.cells cs') => coF m l (st'.set o (.cells (cs'.set i v)))
        | _ => coF m l st
    | _ => coF m l st
theorem coF_sound {m : Rs → V → List Ob → V × List Ob} (hm : MSound m) {w0 : Base} : ∀ (fs : List (Nat × Nat × Rs)) (c : Cfg), Rel w0 c → ∃ c', c'.w = c.w ∧ c'.st = coF m fs c.st ∧ Rel w0 c' ∧ Ext c c'
  | [], c, hr => ⟨c, rfl, rfl, hr, Ext.refl c⟩
  | (o, i, r) :: l, c, hr => by
    simp only [coF]
    split
    · next cs h0 =>
      obtain ⟨c1, h1, h2, h3, h4, h5⟩ := hm w0 r (cs.getD i .any) c hr
      rw [← h2]
      split
      · next cs1 hc1 =>
        obtain ⟨k1, k2⟩ := setcell_rel hr h3 h4 h1 h0 hc1 (fun u hu => h5 u hu)
        obtain ⟨c2, g1, g2, g3, g4⟩ := coF_sound hm l _ k1
        exact ⟨c2, g1.trans h1, g2, g3, (h4.trans k2).trans g4⟩
      · exact coF_sound hm l c hr
    · exact coF_sound hm l c hr
def keepS (keep : List Nat) : Nat → List V → List V
  | _, [] => []
  | i, v :: r => (if keep.contains i = true then v else .any) :: keepS keep (i + 1) r
theorem keepS_len (keep : List Nat) : ∀ (l : List V) (i : Nat), (keepS keep i l).length = l.length
  | [], _ => rfl
  | v :: r, i => by simp [keepS, keepS_len keep r]
theorem keepS_get (keep : List Nat) : ∀ (l : List V) (i t : Nat), (keepS keep i l).getD t .any = if keep.contains (i + t) = true then l.getD t .any else .any
  | [], _, t => by simp [keepS]
  | v :: r, i, 0 => by simp [keepS]
  | v :: r, i, t + 1 => by
    have := keepS_get keep r (i + 1) t
    simp only [keepS, List.getD_cons_succ]
    rw [this, show i + 1 + t = i + (t + 1) from by omega]
theorem renDL_get : ∀ {g : List Nat} {vs vs' : List V}, renDL g vs = some vs' → vs'.length = vs.length ∧ ∀ t, renD g (vs.getD t .any) = some (vs'.getD t .any)
  | g, [], vs', h => by
    simp only [renDL, Option.some.injEq] at h
    subst h
    exact ⟨rfl, fun t => by simp [renD]⟩
  | g, v :: vs, vs', h => by
    simp only [renDL] at h
    split at h
    · next v1 vs1 e1 e2 =>
      cases h
      obtain ⟨h1, h2⟩ := renDL_get e2
      refine ⟨by simp [h1], fun t => ?_⟩
      cases t with
      | zero => simpa using e1
      | succ t => simpa using h2 t
    · cases h
theorem renD_ne {g : List Nat} {v : V} {a : Nat} {b : Bool} {x : V} : renD g v ≠ some (.gd a b x) := by
  cases v <;> simp only [renD] <;> first | (intro h; cases h; done) | (split <;> intro h <;> cases h; done) | skip
def normD (L0 : Nat) (keep : List Nat) (sl : List V) (st : List Ob) : Option (List V × List Ob) :=
  match keepS keep 0 sl with
  | sl0 => match reach st 4 (addN (List.range L0) (namesL sl0)) with
    | g => bif distinct g && (List.range L0).all (fun r => match g[r]? with | some i => Nat.beq i r | none => false) then
        (match renDL g sl0 with
        | some sl' => some (sl', g.map fun i => renO g (st.getD i .dead))
        | none => none)
      else none
theorem normD_sound {w0 : Base} {cb c : Cfg} {L0 : Nat} {keep : List Nat} {sl sl' : List V} {st' : List Ob} {tmps : Array Value} (hr : Rel w0 c) (hx : Ext cb c) (hs : SlR c sl tmps) (hg : GdIn [] sl)
    (hL : cb.st.length ≤ L0) (h : normD L0 keep sl c.st = some (sl', st')) : ∃ c', c'.w = c.w ∧ c'.st = st' ∧ Rel w0 c' ∧ Ext cb c' ∧ SlR c' sl' tmps ∧ GdIn [] sl' := by
  unfold normD at h
  simp only at h
  generalize reach c.st 4 (addN (List.range L0) (namesL (keepS keep 0 sl))) = g at h
  cases hc : distinct g && (List.range L0).all (fun r => match g[r]? with | some i => Nat.beq i r | none => false) with
  | false => rw [hc] at h; cases h
  | true =>
    rw [hc] at h
    simp only [cond_true] at h
    simp only [Bool.and_eq_true, List.all_eq_true] at hc
    obtain ⟨hd, ha⟩ := hc
    split at h
    · next sl2 hren =>
      cases h
      obtain ⟨hlen, hget⟩ := renDL_get hren
      refine ⟨reD c g, rfl, rfl, reD_rel hr hd, reD_ext hx (fun r hrl => ?_), ⟨by rw [hlen, keepS_len]; exact hs.len, fun t => ?_⟩, fun t a b x e => ?_⟩
      · have := ha r (by simp; omega)
        split at this
        · next i hi => rw [hi, Nat.eq_of_beq_eq_true this]
        · cases this
      · have hsl : RelV c ((keepS keep 0 sl).getD t .any) (tmps.getD t undef) := by
          rw [keepS_get]
          split
          · exact slot_plain hs hg t
          · simp only [RelV]
        have := renD_rel _ _ _ (hget t) hsl
        unfold SlotR
        split
        · next a b x e => exact absurd (e ▸ hget t) renD_ne
        · exact this
      · exact absurd (e ▸ hget t) renD_ne
    · cases h
def bld : List Nat → List V → Nat → Nat → List V
  | _, _, _, 0 => []
  | k :: ks, v :: vs, i, n + 1 => if i = k then v :: bld ks vs (i + 1) n else .any :: bld (k :: ks) (v :: vs) (i + 1) n
  | ks, vs, i, n + 1 => .any :: bld ks vs (i + 1) n
def rising : Nat → List Nat → Bool
  | _, [] => true
  | i, k :: ks => Nat.ble i k && rising (k + 1) ks
theorem bld_nil (i : Nat) (vs : List V) : ∀ n, bld [] vs i n = List.replicate n .any := by
  intro n
  induction n generalizing i with
  | zero => cases vs <;> rfl
  | succ n ih => cases vs <;> simp only [bld, ih, List.replicate_succ]
theorem keepS_none (keep : List Nat) : ∀ (sl : List V) (i : Nat), (∀ k, k ∈ keep → k < i) → keepS keep i sl = List.replicate sl.length .any
  | [], i, _ => rfl
  | v :: r, i, h => by
    have hn : keep.contains i = false := by
      cases hc : keep.contains i with
      | false => rfl
      | true => exact absurd (h i (by simpa using hc)) (by omega)
    simp only [keepS, hn, Bool.false_eq_true, if_false, List.length_cons, List.replicate_succ]
    rw [keepS_none keep r (i + 1) (fun k hk => Nat.lt_succ_of_lt (h k hk))]
theorem keepS_cons (k : Nat) (ks : List Nat) : ∀ (sl : List V) (i : Nat), k < i → keepS (k :: ks) i sl = keepS ks i sl
  | [], _, _ => rfl
  | v :: r, i, h => by
    have : (k :: ks).contains i = ks.contains i := by
      simp only [List.contains_cons]
      have : (i == k) = false := by simp; omega
      rw [this, Bool.false_or]
    simp only [keepS, this]
    rw [keepS_cons k ks r (i + 1) (by omega)]
theorem rising_lt : ∀ {ks : List Nat} {i j : Nat}, rising i ks = true → j ∈ ks → i ≤ j
  | k :: ks, i, j, h, hj => by
    simp only [rising, Bool.and_eq_true, Nat.ble_eq] at h
    rcases List.mem_cons.1 hj with rfl | hj
    · exact h.1
    · have := rising_lt h.2 hj; omega
theorem keepS_bld : ∀ (sl : List V) (ks : List Nat) (i : Nat), rising i ks = true → keepS ks i sl = bld ks (ks.map fun k => sl.getD (k - i) .any) i sl.length
  | [], ks, i, _ => by cases ks <;> rfl
  | v :: r, [], i, _ => by
    rw [List.map_nil, bld_nil, keepS_none [] (v :: r) i (by simp)]
  | v :: r, k :: ks, i, h => by
    have h0 := h
    simp only [rising, Bool.and_eq_true, Nat.ble_eq] at h
    simp only [List.map_cons, List.length_cons, bld]
    by_cases hik : i = k
    · subst hik
      rw [if_pos rfl]
      simp only [keepS, List.contains_cons, beq_self_eq_true, Bool.true_or, if_true, Nat.sub_self, List.getD_cons_zero]
      rw [keepS_cons i ks r (i + 1) (by omega), keepS_bld r ks (i + 1) h.2]
      congr 2
      apply List.map_congr_left
      intro j hj
      have := rising_lt h.2 hj
      rw [show j - i = (j - (i + 1)) + 1 from by omega, List.getD_cons_succ]
    · rw [if_neg hik]
      have hn : (k :: ks).contains i = false := by
        cases hc : (k :: ks).contains i with
        | false => rfl
        | true =>
          have hm : i ∈ k :: ks := by simpa using hc
          rcases List.mem_cons.1 hm with rfl | hm
          · exact absurd rfl hik
          · have := rising_lt h.2 hm; omega
      simp only [keepS, hn, Bool.false_eq_true, if_false]
      rw [keepS_bld r (k :: ks) (i + 1) (by simp only [rising, Bool.and_eq_true, Nat.ble_eq]; exact ⟨by omega, h.2⟩)]
      simp only [List.map_cons]
      rw [show k - i = (k - (i + 1)) + 1 from by omega, List.getD_cons_succ]
      congr 3
      apply List.map_congr_left
      intro j hj
      have := rising_lt h.2 hj
      rw [show j - i = (j - (i + 1)) + 1 from by omega, List.getD_cons_succ]
theorem keepS_idem {keep : List Nat} : ∀ (l : List V) (i : Nat), (∀ t, keep.contains (i + t) = false → l.getD t .any = .any) → keepS keep i l = l
  | [], _, _ => rfl
  | v :: r, i, h => by
    simp only [keepS]
    rw [keepS_idem r (i + 1) fun t ht => by
      have := h (t + 1) (by rw [show i + (t + 1) = i + 1 + t from by omega]; exact ht)
      simpa using this]
    split
    · rfl
    · next hn =>
      have := h 0 (by simpa using hn)
      simp only [List.getD_cons_zero] at this
      rw [this]
theorem normD_form {L0 : Nat} {keep : List Nat} {sl sl' : List V} {st st' : List Ob} (hris : rising 0 keep = true) (h : normD L0 keep sl st = some (sl', st')) :
    sl' = bld keep (keep.map fun k => sl'.getD k .any) 0 sl'.length := by
  unfold normD at h
  simp only at h
  generalize reach st 4 (addN (List.range L0) (namesL (keepS keep 0 sl))) = g at h
  cases hc : distinct g && (List.range L0).all (fun r => match g[r]? with | some i => Nat.beq i r | none => false) with
  | false => rw [hc] at h; cases h
  | true =>
    rw [hc] at h
    simp only [cond_true] at h
    split at h
    · next sl2 hren =>
      cases h
      obtain ⟨hlen, hget⟩ := renDL_get hren
      have hk : keepS keep 0 sl' = sl' := keepS_idem sl' 0 fun t ht => by
        rw [Nat.zero_add] at ht
        have := hget t
        rw [keepS_get, Nat.zero_add, ht] at this
        simp only [Bool.false_eq_true, if_false, renD, Option.some.injEq] at this
        exact this.symm
      have := keepS_bld sl' keep 0 hris
      rw [hk] at this
      simpa only [Nat.sub_zero] using this
    · cases h
def form (m : Rs → V → List Ob → V × List Ob) (vecs : List (Nat × Rs)) (flds : List (Nat × Nat × Rs)) (L0 : Nat) (keep : List Nat) (sl : List V) (st : List Ob) : Option (List V × List Ob) :=
  match coS m vecs sl st with
  | (sl1, st1) => normD L0 keep sl1 (coF m flds st1)
theorem form_sound {m : Rs → V → List Ob → V × List Ob} (hm : MSound m) {w0 : Base} {cb c : Cfg} {vecs : List (Nat × Rs)} {flds : List (Nat × Nat × Rs)} {L0 : Nat} {keep : List Nat} {sl sl' : List V} {st' : List Ob} {tmps : Array Value} (hr : Rel w0 c) (hx : Ext cb c) (hs : SlR c sl tmps) (hg : GdIn [] sl)
    (hL : cb.st.length ≤ L0) (h : form m vecs flds L0 keep sl c.st = some (sl', st')) : ∃ c', c'.w = c.w ∧ c'.st = st' ∧ Rel w0 c' ∧ Ext cb c' ∧ SlR c' sl' tmps ∧ GdIn [] sl' := by
  unfold form at h
  obtain ⟨c1, h1, h2, h3, h4, h5, h6⟩ := coS_sound hm vecs c sl hr hx hs hg
  obtain ⟨c2, k1, k2, k3, k4⟩ := coF_sound hm flds c1 h3
  have e : coF m flds (coS m vecs sl c.st).2 = c2.st := by rw [k2, h2]
  generalize hp : coS m vecs sl c.st = p at *
  obtain ⟨sl1, st1⟩ := p
  simp only at h e h5 h6
  rw [e] at h
  obtain ⟨c', g1, g2, g3, g4, g5, g6⟩ := normD_sound k3 (h4.trans k4) (SlR.ext k4 h5) h6 hL h
  exact ⟨c', g1.trans (k1.trans h1), g2, g3, g4, g5, g6⟩
theorem form_form {m : Rs → V → List Ob → V × List Ob} {vecs : List (Nat × Rs)} {flds : List (Nat × Nat × Rs)} {L0 : Nat} {keep : List Nat} {sl sl' : List V} {st st' : List Ob} (hris : rising 0 keep = true) (h : form m vecs flds L0 keep sl st = some (sl', st')) :
    sl' = bld keep (keep.map fun k => sl'.getD k .any) 0 sl'.length := by
  unfold form at h
  exact normD_form hris h
def norm? (o : Option (List V × List Ob)) (K : St) : Prop := match o with
  | some (x, y) => K x y
  | none => False
theorem norm_out {o : Option (List V × List Ob)} {K : List V → List Ob → Prop} (h : norm? o K) : ∃ sl st, o = some (sl, st) ∧ K sl st := by
  cases o with
  | none => exact h.elim
  | some p => obtain ⟨x, y⟩ := p; exact ⟨x, y, rfl, h⟩
end Eng
end Go.Proofs.YtkpplfghhciacaaDoor
set_option linter.unusedVariables false
set_option linter.unusedSimpArgs false
namespace Go.Proofs.YtkpplfghhciacaaDoor
namespace Eng
open Go.RowKit
structure LoopD where
  base : Nat
  vecs : List (Nat × Rs)
  flds : List (Nat × Nat × Rs)
  keep : List Nat
  out : List Nat
  rets : List Nat
  rv : List (Nat × Rs)
  rbase : Nat
structure CutD where
  base : Nat
  vecs : List (Nat × Rs)
  flds : List (Nat × Nat × Rs)
  keep : List Nat
  out : List Nat
  rets : List Nat
  ovecs : List (Nat × Rs)
  oflds : List (Nat × Nat × Rs)
  rv : List (Nat × Rs)
  rbase : Nat
inductive Ex where
  | normal
  | exit (id : Nat)
  | ret
inductive Ann where
  | leaf
  | node (a b : Ann)
  | loop (d : LoopD) (a : Ann)
  | lift (d : LoopD) (len : Nat) (F : List V → List Ob → (Ex → St) → Prop)
  | cut (a : Ann) (d : CutD) (len : Nat) (F : List V → List Ob → (Ex → St) → Prop)
def Ann.l : Ann → Ann
  | .node a _ => a
  | _ => .leaf
def Ann.r : Ann → Ann
  | .node _ b => b
  | _ => .leaf
def iterL (step : St → St) : Nat → St
  | 0 => fun _ _ => False
  | n + 1 => step (iterL step n)
def region (P : Program) (C : Caller) (ops : List Oper) (sl : List V) (st : List Ob) (K : St) : Prop :=
  aopsK P C (guards ops ops) ops ops [] sl st fun sl' st' => K (clr (guards ops ops) sl') st'
def stepL (E : List V → List Ob → (Ex → St) → Prop) (L0 : Nat) (d : LoopD) (K : Ex → St) (self : St) : St := fun sl' st' => E sl' st' fun e sl'' st'' => match e with
  | .normal => norm? (form ownR d.vecs d.flds L0 d.keep sl'' st'') self
  | .exit i => norm? (form ownR d.vecs d.flds L0 d.out sl'' st'') (K (.exit i))
  | .ret => norm? (form ownR d.rv d.flds d.rbase d.rets sl'' st'') (K .ret)
def cutK (d : CutD) (K : Ex → St) : Ex → St := fun e sl st => match e with
  | .normal => norm? (form ownR d.ovecs d.oflds d.base d.out sl st) (K .normal)
  | .exit i => norm? (form ownR d.ovecs d.oflds d.base d.out sl st) (K (.exit i))
  | .ret => norm? (form ownR d.rv d.oflds d.rbase d.rets sl st) (K .ret)
def exec (P : Program) (C : Caller) (D : List Oper → List V → List Ob → St → Prop) : Ann → Code → List V → List Ob → (Ex → St) → Prop
  | _, .skip, sl, st, K => K .normal sl st
  | _, .region _ ops draw, sl, st, K => forceL sl fun sl => if draw = true then D ops.toList sl st (K .normal) else region P C ops.toList sl st (K .normal)
  | .cut a d len F, .seq x _, sl, st, K => exec P C D a x sl st fun e sl' st' => match e with
    | .normal => norm? (form mvR d.vecs d.flds d.base d.keep sl' st') fun sl1 st1 => bif Nat.beq sl1.length len then F (d.keep.map fun k => sl1.getD k .any) st1 K else False
    | .exit i => K (.exit i) sl' st'
    | .ret => K .ret sl' st'
  | a, .seq x y, sl, st, K => exec P C D a.l x sl st fun e sl' st' => match e with
    | .normal => exec P C D a.r y sl' st' K
    | .exit i => K (.exit i) sl' st'
    | .ret => K .ret sl' st'
  | a, .cond c x y, sl, st, K => match rdv sl [] c with
    | .x (.bool b) => bif b then exec P C D a.l x sl st K else exec P C D a.r y sl st K
    | _ => False
  | a, .block id b, sl, st, K => exec P C D a b sl st fun e sl' st' => match e with
    | .normal => K .normal sl' st'
    | .exit i => if i = id then K .normal sl' st' else K (.exit i) sl' st'
    | .ret => K .ret sl' st'
  | .loop d a, .loop b, sl, st, K => bif Nat.beq st.length d.base then norm? (form mvR d.vecs d.flds d.base d.keep sl st) fun sl2 st2 => ∃ n, iterL (stepL (exec P C D a b) d.base d K) n sl2 st2 else False
  | .lift d len F, .loop _, sl, st, K => bif Nat.beq st.length d.base then norm? (form mvR d.vecs d.flds d.base d.keep sl st) fun sl1 st1 =>
      bif Nat.beq sl1.length len then F (d.keep.map fun k => sl1.getD k .any) st1 K else False else False
  | _, .exit i, sl, st, K => K (.exit i) sl st
  | _, .ret, sl, st, K => K .ret sl st
  | _, _, _, _, _ => False
def AnnOk (P : Program) (C : Caller) (D : List Oper → List V → List Ob → St → Prop) (N : Nat) : Ann → Code → Prop
  | .cut a d len F, .seq x y => AnnOk P C D N a x ∧ N ≤ d.base ∧ N ≤ d.rbase ∧ rising 0 d.keep = true ∧ ∃ b, AnnOk P C D N b y ∧ ∀ vs st K, F vs st K →
      exec P C D b y (bld d.keep vs 0 len) st (cutK d K)
  | a, .seq x y => AnnOk P C D N a.l x ∧ AnnOk P C D N a.r y
  | a, .cond _ x y => AnnOk P C D N a.l x ∧ AnnOk P C D N a.r y
  | a, .block _ b => AnnOk P C D N a b
  | .loop d a, .loop b => N ≤ d.rbase ∧ AnnOk P C D N a b
  | .lift d len F, .loop b => N ≤ d.rbase ∧ rising 0 d.keep = true ∧ ∃ a, AnnOk P C D N a b ∧ ∀ vs st K, F vs st K →
      ∃ n, iterL (stepL (exec P C D a b) d.base d K) n (bld d.keep vs 0 len) st
  | _, _ => True
def SoundD (P : Program) (D : List Oper → List V → List Ob → St → Prop) : Prop :=
  ∀ (w0 : Base) (id : Nat) (ops : Array Oper) (c : Cfg) (sl : List V) (a : Act) (K : St) (Q : Exit → Act → World → Prop), Rel w0 c → SlR c sl a.tmps → GdIn [] sl → D ops.toList sl c.st K →
    (∀ sl' c' a', Rel w0 c' → Ext c c' → SlR c' sl' a'.tmps → GdIn [] sl' → a'.defers = a.defers → K sl' c'.st → Q .normal a' c'.w) → (Code.region id ops true).wp P Q a c.w
def ExR : Ex → Exit → Prop
  | .normal, .normal => True
  | .exit i, .exit j => i = j
  | .ret, .ret => True
  | _, _ => False
def Done (w0 : Base) (cb : Cfg) (K : Ex → St) (e : Exit) (a : Act) (w : World) : Prop :=
  ∃ ex sl c, ExR ex e ∧ c.w = w ∧ Rel w0 c ∧ Ext cb c ∧ SlR c sl a.tmps ∧ GdIn [] sl ∧ a.defers = [] ∧ K ex sl c.st
theorem GdIn.mono {G : List Nat} {sl : List V} (h : GdIn [] sl) : GdIn G sl := fun t g w v e => absurd (h t g w v e) (by simp)
set_option maxHeartbeats 2000000 in
theorem exec_sound {P : Program} {w0 : Base} {C : Caller} {D : List Oper → List V → List Ob → St → Prop} (hC : SoundC P C) (hD : SoundD P D) {N : Nat} : ∀ (code : Code) (ann : Ann) (c cb : Cfg) (sl : List V) (a : Act) (K : Ex → St),
    cb.st.length ≤ N → AnnOk P C D N ann code → Rel w0 c → Ext cb c → SlR c sl a.tmps → GdIn [] sl → a.defers = [] → exec P C D ann code sl c.st K → code.wp P (Done w0 cb K) a c.w
  | .skip, ann, c, cb, sl, a, K, hn, hk, hr, hx, hs, hg, hd, h => wp_skip ⟨.normal, sl, c, trivial, rfl, hr, hx, hs, hg, hd, h⟩
  | .region id ops draw, ann, c, cb, sl, a, K, hn, hk, hr, hx, hs, hg, hd, h => by
    simp only [exec, forceL_eq] at h
    cases draw with
    | true =>
      simp only [if_true] at h
      exact hD w0 id ops c sl a (K .normal) _ hr hs hg h fun sl' c' a' h1 h2 h3 h4 h5 h6 => ⟨.normal, sl', c', trivial, rfl, h1, hx.trans h2, h3, h4, h5.trans hd, h6⟩
    | false =>
      simp only [Bool.false_eq_true, if_false] at h
      refine wp_region_list ?_
      refine aopsK_sound hC ops.toList c [] sl a _ hr hs hg.mono (fun p hp => by simp at hp) h fun sl' c' a' h1 h2 h3 h4 h5 h6 => ?_
      obtain ⟨g1, g2⟩ := clr_rel h3 h4
      exact ⟨.normal, _, c', trivial, rfl, h1, hx.trans h2, g1, g2, h5.trans hd, h6⟩
  | .seq x y, ann, c, cb, sl, a, K, hn, hk, hr, hx, hs, hg, hd, h => by
    have plain : AnnOk P C D N ann.l x → AnnOk P C D N ann.r y → (exec P C D ann.l x sl c.st fun e sl' st' => match e with
        | .normal => exec P C D ann.r y sl' st' K
        | .exit i => K (.exit i) sl' st'
        | .ret => K .ret sl' st') → (Code.seq x y).wp P (Done w0 cb K) a c.w := by
      intro hk1 hk2 h
      refine wp_seq (wp_mono (exec_sound hC hD x ann.l c cb sl a _ hn hk1 hr hx hs hg hd h) fun e a' w' hq => ?_)
      obtain ⟨ex, sl', c', h1, rfl, h2, h3, h4, h5, h6, h7⟩ := hq
      cases ex with
      | normal =>
        cases e <;> first | exact h1.elim | skip
        exact exec_sound hC hD y ann.r c' cb sl' a' K hn hk2 h2 h3 h4 h5 h6 h7
      | exit i =>
        cases e <;> first | exact h1.elim | skip
        exact ⟨.exit i, sl', c', h1, rfl, h2, h3, h4, h5, h6, h7⟩
      | ret =>
        cases e <;> first | exact h1.elim | skip
        exact ⟨.ret, sl', c', trivial, rfl, h2, h3, h4, h5, h6, h7⟩
    cases ann with
    | cut an d len F =>
      simp only [exec] at h
      simp only [AnnOk] at hk
      obtain ⟨hk1, hbase, hrb, hris, b, hk2, hF⟩ := hk
      refine wp_seq (wp_mono (exec_sound hC hD x an c cb sl a _ hn hk1 hr hx hs hg hd h) fun e a' w' hq => ?_)
      obtain ⟨ex, sl', c', h1, rfl, h2, h3, h4, h5, h6, h7⟩ := hq
      cases ex with
      | normal =>
        cases e <;> first | exact h1.elim | skip
        simp only at h7
        obtain ⟨sl1, st1, hnn, h7⟩ := norm_out h7
        obtain ⟨c2, hw2, hst2, hr2, hx2, hs2, hg2⟩ := form_sound mvR_ms h2 h3 h4 h5 (by omega) hnn
        cases hlen : Nat.beq sl1.length len with
        | false => rw [hlen] at h7; exact h7.elim
        | true =>
          rw [hlen] at h7
          simp only [cond_true] at h7
          have h8 := hF _ _ K h7
          rw [← hst2] at h8
          rw [form_form hris hnn, Nat.eq_of_beq_eq_true hlen] at hs2 hg2
          rw [← hw2]
          refine wp_mono (exec_sound hC hD y b c2 cb _ a' _ hn hk2 hr2 hx2 hs2 hg2 h6 h8) fun e a' w' hq => ?_
          obtain ⟨ex, sl', c', h1, rfl, h2, h3, h4, h5, h6, h7⟩ := hq
          have fin : ∀ (bs : Nat) (vs : List (Nat × Rs)) (ks : List Nat) (ex : Ex), cb.st.length ≤ bs → ExR ex e → norm? (form ownR vs d.oflds bs ks sl' c'.st) (K ex) → Done w0 cb K e a' c'.w := by
            intro bs vs ks ex hbs hex h7
            obtain ⟨sl3, st3, hn, h7⟩ := norm_out h7
            obtain ⟨c3, hw3, hst3, hr3, hx3, hs3, hg3⟩ := form_sound ownR_ms h2 h3 h4 h5 hbs hn
            rw [← hst3] at h7
            exact ⟨ex, sl3, c3, hex, hw3, hr3, hx3, hs3, hg3, h6, h7⟩
          cases ex with
          | normal => exact fin d.base d.ovecs d.out .normal (by omega) h1 h7
          | exit i => exact fin d.base d.ovecs d.out (.exit i) (by omega) h1 h7
          | ret => exact fin d.rbase d.rv d.rets .ret (by omega) h1 h7
      | exit i =>
        cases e <;> first | exact h1.elim | skip
        exact ⟨.exit i, sl', c', h1, rfl, h2, h3, h4, h5, h6, h7⟩
      | ret =>
        cases e <;> first | exact h1.elim | skip
        exact ⟨.ret, sl', c', trivial, rfl, h2, h3, h4, h5, h6, h7⟩
    | node al ar =>
      simp only [exec] at h
      simp only [AnnOk] at hk
      refine plain hk.1 hk.2 h
    | _ =>
      simp only [exec] at h
      simp only [AnnOk] at hk
      exact plain hk.1 hk.2 h
  | .cond cnd x y, ann, c, cb, sl, a, K, hn, hk, hr, hx, hs, hg, hd, h => by
    simp only [exec] at h
    simp only [AnnOk] at hk
    split at h
    · next b e =>
      have hb := rdv_rel hs [] cnd (fun g hh => by simp at hh)
      rw [e] at hb
      simp only [RelV] at hb
      cases b with
      | true => exact wp_cond_true hb (exec_sound hC hD x ann.l c cb sl a K hn hk.1 hr hx hs hg hd h)
      | false => exact wp_cond_false hb (exec_sound hC hD y ann.r c cb sl a K hn hk.2 hr hx hs hg hd h)
    · exact h.elim
  | .block id b, ann, c, cb, sl, a, K, hn, hk, hr, hx, hs, hg, hd, h => by
    simp only [exec] at h
    refine wp_block (wp_mono (exec_sound hC hD b ann c cb sl a _ hn (by simpa only [AnnOk] using hk) hr hx hs hg hd h) fun e a' w' hq => ?_)
    obtain ⟨ex, sl', c', h1, rfl, h2, h3, h4, h5, h6, h7⟩ := hq
    cases ex with
    | normal =>
      cases e <;> first | exact h1.elim | skip
      exact ⟨.normal, sl', c', trivial, rfl, h2, h3, h4, h5, h6, h7⟩
    | exit i =>
      cases e <;> first | exact h1.elim | skip
      next j =>
      simp only [ExR] at h1
      subst h1
      simp only [Exit.inBlock]
      simp only at h7
      split
      · next hij =>
        rw [if_pos hij] at h7
        exact ⟨.normal, sl', c', trivial, rfl, h2, h3, h4, h5, h6, h7⟩
      · next hij =>
        rw [if_neg hij] at h7
        exact ⟨.exit i, sl', c', rfl, rfl, h2, h3, h4, h5, h6, h7⟩
    | ret =>
      cases e <;> first | exact h1.elim | skip
      exact ⟨.ret, sl', c', trivial, rfl, h2, h3, h4, h5, h6, h7⟩
  | .loop b, ann, c, cb, sl, a, K, hn, hk, hr, hx, hs, hg, hd, h => by
    have rounds : ∀ (an : Ann) (d : LoopD) (L0 : Nat), AnnOk P C D N an b → cb.st.length ≤ L0 → N ≤ d.rbase → ∀ (n : Nat) (a : Act) (sl2 : List V) (c2 : Cfg), a.defers = [] → Rel w0 c2 → Ext cb c2 → SlR c2 sl2 a.tmps → GdIn [] sl2 →
        iterL (stepL (exec P C D an b) L0 d K) n sl2 c2.st → (Code.loop b).wp P (Done w0 cb K) a c2.w := by
      intro an d L0 hkb hL hrb n a sl2 c2 hd hr2 hx2 hs2 hg2 h
      refine wp_loop_rounds n ?_
      induction n generalizing c2 sl2 a with
      | zero => exact h.elim
      | succ n ih =>
        rw [rounds_succ]
        simp only [iterL] at h
        refine wp_mono (exec_sound hC hD b an c2 cb sl2 a _ hn hkb hr2 hx2 hs2 hg2 hd h) fun e a' w' hq => ?_
        obtain ⟨ex, sl', c', h1, rfl, h2, h3, h4, h5, h6, h7⟩ := hq
        cases ex with
        | normal =>
          cases e <;> first | exact h1.elim | skip
          simp only at h7
          obtain ⟨sl3, st3, hn, h7⟩ := norm_out h7
          obtain ⟨c3, hw3, hst3, hr3, hx3, hs3, hg3⟩ := form_sound ownR_ms h2 h3 h4 h5 hL hn
          rw [← hst3] at h7
          simp only [Exit.then]
          rw [← hw3]
          exact ih (a := a') (sl2 := sl3) (c2 := c3) h6 hr3 hx3 hs3 hg3 h7
        | exit i =>
          cases e <;> first | exact h1.elim | skip
          simp only at h7
          obtain ⟨sl3, st3, hn, h7⟩ := norm_out h7
          obtain ⟨c3, hw3, hst3, hr3, hx3, hs3, hg3⟩ := form_sound ownR_ms h2 h3 h4 h5 hL hn
          rw [← hst3] at h7
          exact ⟨.exit i, sl3, c3, h1, hw3, hr3, hx3, hs3, hg3, h6, h7⟩
        | ret =>
          cases e <;> first | exact h1.elim | skip
          simp only at h7
          obtain ⟨sl3, st3, hn, h7⟩ := norm_out h7
          obtain ⟨c3, hw3, hst3, hr3, hx3, hs3, hg3⟩ := form_sound ownR_ms h2 h3 h4 h5 (by omega) hn
          rw [← hst3] at h7
          exact ⟨.ret, sl3, c3, trivial, hw3, hr3, hx3, hs3, hg3, h6, h7⟩
    have enter : ∀ (d : LoopD) (F : List V → List Ob → Prop), (bif Nat.beq c.st.length d.base then norm? (form mvR d.vecs d.flds d.base d.keep sl c.st) F else False) →
        ∃ sl2 c2, cb.st.length ≤ d.base ∧ c2.w = c.w ∧ Rel w0 c2 ∧ Ext cb c2 ∧ SlR c2 sl2 a.tmps ∧ GdIn [] sl2 ∧ F sl2 c2.st ∧ (rising 0 d.keep = true → sl2 = bld d.keep (d.keep.map fun k => sl2.getD k .any) 0 sl2.length) := by
      intro d F h
      cases hb : Nat.beq c.st.length d.base with
      | false => rw [hb] at h; exact h.elim
      | true =>
        rw [hb] at h
        simp only [cond_true] at h
        have hle : cb.st.length ≤ d.base := by rw [← Nat.eq_of_beq_eq_true hb]; exact hx.len
        obtain ⟨sl2, st2, hn, h⟩ := norm_out h
        obtain ⟨c2, hw2, hst2, hr2, hx2, hs2, hg2⟩ := form_sound mvR_ms hr hx hs hg hle hn
        exact ⟨sl2, c2, hle, hw2, hr2, hx2, hs2, hg2, by rw [hst2]; exact h, fun hris => form_form hris hn⟩
    cases ann with
    | loop d an =>
      simp only [exec] at h
      simp only [AnnOk] at hk
      obtain ⟨sl2, c2, hle, hw, hr2, hx2, hs2, hg2, ⟨n, h⟩, _⟩ := enter d (fun sl2 st2 => ∃ n, iterL (stepL (exec P C D an b) d.base d K) n sl2 st2) h
      rw [← hw]
      exact rounds an d d.base hk.2 hle hk.1 n a sl2 c2 hd hr2 hx2 hs2 hg2 h
    | lift d len F =>
      simp only [exec] at h
      simp only [AnnOk] at hk
      obtain ⟨hrb, hris, an, hkb, hF⟩ := hk
      obtain ⟨sl2, c2, hle, hw, hr2, hx2, hs2, hg2, h, f1⟩ := enter d (fun sl1 st1 => bif Nat.beq sl1.length len then F (d.keep.map fun k => sl1.getD k .any) st1 K else False) h
      cases hlen : Nat.beq sl2.length len with
      | false => rw [hlen] at h; exact h.elim
      | true =>
        rw [hlen] at h
        simp only [cond_true] at h
        obtain ⟨n, h⟩ := hF _ _ K h
        rw [← hw]
        refine rounds an d d.base hkb hle hrb n a sl2 c2 hd hr2 hx2 hs2 hg2 ?_
        rw [f1 hris, Nat.eq_of_beq_eq_true hlen]
        exact h
    | _ => simp [exec] at h
  | .exit i, ann, c, cb, sl, a, K, hn, hk, hr, hx, hs, hg, hd, h => by
    simp only [exec] at h
    exact wp_exit ⟨.exit i, sl, c, rfl, rfl, hr, hx, hs, hg, hd, h⟩
  | .ret, ann, c, cb, sl, a, K, hn, hk, hr, hx, hs, hg, hd, h => by
    simp only [exec] at h
    exact wp_ret ⟨.ret, sl, c, trivial, rfl, hr, hx, hs, hg, hd, h⟩
  | .rangeFunc .., ann, c, cb, sl, a, K, hn, hk, hr, hx, hs, hg, hd, h => by simp [exec] at h
  | .scope _, ann, c, cb, sl, a, K, hn, hk, hr, hx, hs, hg, hd, h => by simp [exec] at h
  | .label _, ann, c, cb, sl, a, K, hn, hk, hr, hx, hs, hg, hd, h => by simp [exec] at h
  | .goto _, ann, c, cb, sl, a, K, hn, hk, hr, hx, hs, hg, hd, h => by simp [exec] at h
  | .refuse _, ann, c, cb, sl, a, K, hn, hk, hr, hx, hs, hg, hd, h => by simp [exec] at h
end Eng
end Go.Proofs.YtkpplfghhciacaaDoor
set_option linter.unusedVariables false
set_option linter.unusedSimpArgs false
namespace Go.Proofs.YtkpplfghhciacaaDoor
namespace Eng
open Go.RowKit
def resV1 (P : Program) (sl : List V) (st : List Ob) : ResultVar → Option V
  | .tmp t => some (rdv sl [] (.tmp t))
  | .cell a t => aload P st t (rdv sl [] (.tmp a))
def resVs (P : Program) (sl : List V) (st : List Ob) : List ResultVar → Option (List V)
  | [] => some []
  | r :: rs => match resV1 P sl st r, resVs P sl st rs with
    | some v, some vs => some (v :: vs)
    | _, _ => none
def resV (P : Program) (sl : List V) (st : List Ob) (rs : List ResultVar) : Option V :=
  match resVs P sl st rs with
  | some [v] => some v
  | some vs => some (.tup vs)
  | none => none
def resSem (tmps : Array Value) : ResultVar → Sem Value
  | .tmp t => pure (tmps.getD t undef)
  | .cell a t => do loadVar t (← asAddr (tmps.getD a undef))
theorem resV1_sound {P : Program} {w0 : Base} {c : Cfg} (hr : Rel w0 c) {sl : List V} {a : Act} (hs : SlR c sl a.tmps) {r : ResultVar} {v : V} (h : resV1 P sl c.st r = some v) :
    ∃ u, (resSem a.tmps r).run P c.w = .ok u c.w ∧ RelV c v u := by
  cases r with
  | tmp t =>
    simp only [resV1, Option.some.injEq] at h
    subst h
    exact ⟨_, rfl, rdv_rel hs [] (.tmp t) (fun g hg => by simp at hg)⟩
  | cell ad t =>
    simp only [resV1, aload] at h
    have hv := rdv_rel hs [] (.tmp ad) (fun g hg => by simp at hg)
    split at h
    · next vs e =>
      obtain ⟨b, o, us, hu, h1, h2⟩ := cellsAt_sound hr e hv
      obtain ⟨x, h3, h4⟩ := getV_sound (P := P) h h1 h2
      refine ⟨x, ?_, h4⟩
      simp only [Act.eval] at hu
      simp only [resSem, hu, asAddr, Sem.run_bind, Sem.run_pure, Result.andThen_ok, h3]
    · cases h
theorem resVs_sound {P : Program} {w0 : Base} {c : Cfg} (hr : Rel w0 c) {sl : List V} {a : Act} (hs : SlR c sl a.tmps) : ∀ {rs : List ResultVar} {vs : List V}, resVs P sl c.st rs = some vs →
    ∃ us, (rs.mapM (resSem a.tmps)).run P c.w = .ok us c.w ∧ RelVs c vs us
  | [], vs, h => by
    simp only [resVs, Option.some.injEq] at h
    subst h
    exact ⟨[], rfl, RelVs.nil⟩
  | r :: rs, vs, h => by
    simp only [resVs] at h
    split at h
    · next v vs' h1 h2 =>
      cases h
      obtain ⟨u, g1, g2⟩ := resV1_sound (P := P) hr hs h1
      obtain ⟨us, g3, g4⟩ := resVs_sound hr hs h2
      exact ⟨u :: us, by simp only [List.mapM_cons, Sem.run_bind, g1, Result.andThen_ok, g3, Sem.run_pure], RelVs.cons g2 g4⟩
    · cases h
theorem results_eq (fn : Func) (tmps : Array Value) : results fn tmps = (do let vs ← fn.results.mapM (resSem tmps); pure (if h : vs.size = 1 then vs[0] else .tuple vs)) := by
  unfold results
  congr 1
theorem resV_sound {P : Program} {w0 : Base} {c : Cfg} (hr : Rel w0 c) {sl : List V} {a : Act} (hs : SlR c sl a.tmps) {fn : Func} {v : V} (h : resV P sl c.st fn.results.toList = some v) :
    ∃ u, (results fn a.tmps).run P c.w = .ok u c.w ∧ RelV c v u := by
  have key : ∀ vs, resVs P sl c.st fn.results.toList = some vs → ∃ us, (results fn a.tmps).run P c.w = .ok (if h : us.length = 1 then us[0] else .tuple us.toArray) c.w ∧ RelVs c vs us := by
    intro vs hvs
    obtain ⟨us, h1, h2⟩ := resVs_sound (P := P) hr hs hvs
    refine ⟨us, ?_, h2⟩
    rw [results_eq, Sem.run_bind, ← Array.toArray_toList (xs := fn.results), List.mapM_toArray, Sem.run_map, h1]
    simp
  unfold resV at h
  split at h
  · next v' e =>
    cases h
    obtain ⟨us, h1, h2⟩ := key _ e
    simp only [RelVs] at h2
    obtain ⟨u, us', rfl, h3, rfl⟩ := h2
    exact ⟨u, by simpa using h1, h3⟩
  · next vs hne e =>
    cases h
    obtain ⟨us, h1, h2⟩ := key _ e
    have hl := h2.length
    have hn : ¬ us.length = 1 := by
      intro hh
      rw [hh] at hl
      match vs, hl with
      | [x], _ => exact hne x rfl
    rw [dif_neg hn] at h1
    exact ⟨_, h1, by simp only [RelV]; exact ⟨_, rfl, by simpa using h2⟩⟩
  · cases h
def execF (P : Program) (C : Caller) (D : List Oper → List V → List Ob → St → Prop) (ann : Ann) (fn : Func) (args : List V) (st : List Ob) (K : V → List Ob → Prop) : Prop :=
  match fn.body with
  | some code => exec P C D ann code (args.map nogd ++ List.replicate (fn.ntmps - args.length) .any) st fun e sl' st' => match e with
    | .exit _ => False
    | _ => match resV P sl' st' fn.results.toList with
      | some v => K v st'
      | none => False
  | none => False
theorem fn_sound {P : Program} {w0 : Base} {C : Caller} {D : List Oper → List V → List Ob → St → Prop} (hC : SoundC P C) (hD : SoundD P D) {f : FuncId} {fn : Func} (hf : P.funcs[f]? = some fn) {ann : Ann} {N : Nat} (hk : ∀ code, fn.body = some code → AnnOk P C D N ann code) {c : Cfg} (hn : c.st.length ≤ N) {args : List V} {us : Array Value} {K : V → List Ob → Prop}
    (hr : Rel w0 c) (ha : RelVs c args us.toList) (h : execF P C D ann fn args c.st K) :
    Calls P f us c.w fun e w' => ∃ u v c', e = .returned u ∧ c'.w = w' ∧ Rel w0 c' ∧ Ext c c' ∧ RelV c' v u ∧ K v c'.st := by
  unfold execF at h
  cases hb : fn.body with
  | none => rw [hb] at h; exact h.elim
  | some code =>
    rw [hb] at h
    simp only at h
    refine calls_of_wp hf hb ?_
    have hlen := ha.length
    simp only [Array.length_toList] at hlen
    have hget : ∀ t, (args.map nogd ++ List.replicate (fn.ntmps - args.length) V.any).getD t .any = nogd (args.getD t .any) := by
      intro t
      simp only [List.getD_eq_getElem?_getD, List.getElem?_append, List.length_map, List.getElem?_map, List.getElem?_replicate]
      split
      · next h => rw [List.getElem?_eq_getElem h]; rfl
      · next h =>
        rw [List.getElem?_eq_none (by omega)]
        split <;> rfl
    have hs : SlR c (args.map nogd ++ List.replicate (fn.ntmps - args.length) .any) (us ++ Array.replicate (fn.ntmps - us.size) undef) := by
      refine ⟨by simp; omega, fun t => ?_⟩
      unfold SlotR
      rw [hget]
      split
      · next g w x e => exact absurd e nogd_ne
      · cases hav : args[t]? with
        | none => simp only [List.getD_eq_getElem?_getD, hav, Option.getD_none, nogd, RelV]
        | some v =>
          obtain ⟨u, h1, h2⟩ := ha.get hav
          simp only [Array.getElem?_toList] at h1
          have hlt : t < us.size := (Array.getElem?_eq_some_iff.1 h1).1
          simp only [List.getD_eq_getElem?_getD, hav, Option.getD_some, Array.getD_eq_getD_getElem?, Array.getElem?_append, hlt, if_true, h1]
          exact nogd_rel h2
    refine wp_mono (exec_sound hC hD code ann c c _ { tmps := us ++ Array.replicate (fn.ntmps - us.size) undef, defers := [] } _ hn (hk code hb) hr (Ext.refl c) hs (fun t g w x e => by rw [hget] at e; exact absurd e nogd_ne) rfl h) fun e a' w' hq => ?_
    obtain ⟨ex, sl', c', h1, rfl, h2, h3, h4, h5, h6, h7⟩ := hq
    have fin : (match resV P sl' c'.st fn.results.toList with | some v => K v c'.st | none => False) →
        a'.defers = [] ∧ ∃ v, (results fn a'.tmps).run P c'.w = .ok v c'.w ∧ ∃ u v2 c'', (Ending.returned v) = .returned u ∧ c''.w = c'.w ∧ Rel w0 c'' ∧ Ext c c'' ∧ RelV c'' v2 u ∧ K v2 c''.st := by
      intro hk
      split at hk
      · next v e =>
        obtain ⟨u, g1, g2⟩ := resV_sound (P := P) h2 h4 e
        exact ⟨h6, u, g1, u, v, c', rfl, rfl, h2, h3, g2, hk⟩
      · exact hk.elim
    cases ex with
    | normal =>
      cases e <;> first | exact h1.elim | skip
      exact fin h7
    | exit i => exact h7.elim
    | ret =>
      cases e <;> first | exact h1.elim | skip
      exact fin h7
abbrev SemF := List V → (V → List Ob → Prop) → Prop
def cfg0 (w : World) (A : Nat → Nat → Prop) : Cfg := { w := w, bl := fun _ => none, st := [], A := A }
def SoundFn (P : Program) (f : FuncId) (sem : SemF) : Prop :=
  ∀ (w : World) (A : Nat → Nat → Prop) (args : List V) (us : Array Value) (K : V → List Ob → Prop), (∀ b o, A b o → b < w.heap.size) → RelVs (cfg0 w A) args us.toList → sem args K →
    Calls P f us w fun e w' => ∃ u v c', e = .returned u ∧ c'.w = w' ∧ Rel ⟨w, A, fun _ => False⟩ c' ∧ Ext (cfg0 w A) c' ∧ RelV c' v u ∧ K v c'.st
theorem rel0 {w : World} {A : Nat → Nat → Prop} (h : ∀ b o, A b o → b < w.heap.size) : Rel ⟨w, A, fun _ => False⟩ (cfg0 w A) where
  below := Kept.refl _ _ _
  inj := fun r r' b hl => by simp [live, cfg0] at hl
  fresh := fun r b hl => by simp [live, cfg0] at hl
  bound := h
  newA := fun b o h => .inl h
  obj := fun r ob h => by simp [cfg0] at h
  pl := PoolOk.none fun r m h => by simp [cfg0] at h
def runF (P : Program) (C : Caller) (D : List Oper → List V → List Ob → St → Prop) (ann : Ann) (rs : Rs) (fn : Func) : SemF := fun args K =>
  execF P C D ann fn args [] fun v0 st0 => match ownR rs v0 st0 with
    | (v, st) => match ren (vrefs v) v with
      | some v' => if distinct (vrefs v) = true then if okObs (vrefs v) ((vrefs v).map fun i => st.getD i .dead) = true then K v' ((vrefs v).map fun i => st.getD i .dead) else False else False
      | none => False
theorem runF_sound {P : Program} {C : Caller} {D : List Oper → List V → List Ob → St → Prop} (hC : SoundC P C) (hD : SoundD P D) {f : FuncId} {fn : Func} (hf : P.funcs[f]? = some fn) (ann : Ann) (rs : Rs) (hk : ∀ code, fn.body = some code → AnnOk P C D 0 ann code) : SoundFn P f (runF P C D ann rs fn) := by
  intro w A args us K hA ha h
  refine (fn_sound hC hD hf hk (c := cfg0 w A) (Nat.le_refl 0) (w0 := ⟨w, A, fun _ => False⟩) (rel0 hA) ha h).mono fun e w' hh => ?_
  obtain ⟨u, v0, c0, rfl, rfl, h1, h2, h3, h4⟩ := hh
  obtain ⟨c', e1, e2, g1, g2, g3⟩ := ownR_sound rs v0 c0 h1
  have g4 := g3 u h3
  have h5 := h2.trans g2
  rw [← e1]
  generalize hv : (ownR rs v0 c0.st).1 = v at *
  split at h4
  next v1 st1 heq =>
  have ev : v1 = v := by rw [← hv, heq]
  have es : st1 = c'.st := by rw [e2, heq]
  subst ev es
  split at h4
  · next v' hv' =>
    split at h4
    · next hd =>
      split at h4
      · next hk =>
        exact ⟨u, v', reC c' (vrefs v1), rfl, rfl, re_rel g1 hd hk, re_ext h5 (fun r hr => by simp [cfg0] at hr), ren_rel v1 v' u hv' g4, h4⟩
      · exact h4.elim
    · exact h4.elim
  · exact h4.elim
theorem annOk_leaf {P : Program} {C : Caller} {D : List Oper → List V → List Ob → St → Prop} {N : Nat} : ∀ (code : Code), AnnOk P C D N .leaf code
  | .seq x y => ⟨annOk_leaf x, annOk_leaf y⟩
  | .cond _ x y => ⟨annOk_leaf x, annOk_leaf y⟩
  | .block _ b => by simp only [AnnOk]; exact annOk_leaf b
  | .loop b => by simp only [AnnOk]
  | .skip | .region _ _ _ | .rangeFunc _ _ _ _ | .exit _ | .scope _ | .label _ | .goto _ | .ret | .refuse _ => by simp only [AnnOk]
theorem SoundFn.of_imp {P : Program} {f : FuncId} {sem sem' : SemF} (h : SoundFn P f sem') (hi : ∀ args K, sem args K → sem' args K) : SoundFn P f sem :=
  fun w A args us K hA ha hs => h w A args us K hA ha (hi args K hs)
end Eng
end Go.Proofs.YtkpplfghhciacaaDoor
set_option linter.unusedVariables false
set_option linter.unusedSimpArgs false
namespace Go.Proofs.YtkpplfghhciacaaDoor
namespace Eng
open Go.RowKit
abbrev SemO := List V → List Ob → (V → List Ob → Prop) → Prop
def SoundO (P : Program) (f : FuncId) (sem : SemO) : Prop :=
  ∀ (w0 : Base) (c : Cfg) (args : List V) (us : Array Value) (K : V → List Ob → Prop), Rel w0 c → RelVs c args us.toList → sem args c.st K →
    Calls P f us c.w fun e w' => ∃ u v c', e = .returned u ∧ c'.w = w' ∧ Rel w0 c' ∧ Ext c c' ∧ RelV c' v u ∧ K v c'.st
theorem SoundO.toFn {P : Program} {f : FuncId} {sem : SemO} (h : SoundO P f sem) : SoundFn P f fun args K => sem args [] K :=
  fun w A args us K hA ha hs => h ⟨w, A, fun _ => False⟩ (cfg0 w A) args us K (rel0 hA) ha hs
def packO (k : Nat) (v : V) (st : List Ob) (K : V → List Ob → Prop) : Prop :=
  match reach st 4 (addN (List.range k) (names v)) with
  | g => bif distinct g && Nat.ble k g.length && (List.range k).all (fun r => match g[r]? with | some i => Nat.beq i r | none => false) then
      match renD g v with
      | some v' => K v' (g.map fun i => renO g (st.getD i .dead))
      | none => False
    else False
theorem packO_sound {w0 : Base} {cb c : Cfg} (hr : Rel w0 c) (hx : Ext cb c) {k : Nat} (hk : cb.st.length ≤ k) {v : V} {u : Value} (hv : RelV c v u) {K : V → List Ob → Prop} (h : packO k v c.st K) :
    ∃ v' c', c'.w = c.w ∧ Rel w0 c' ∧ Ext cb c' ∧ RelV c' v' u ∧ K v' c'.st := by
  unfold packO at h
  simp only at h
  generalize reach c.st 4 (addN (List.range k) (names v)) = g at h
  cases hc : distinct g && Nat.ble k g.length && (List.range k).all (fun r => match g[r]? with | some i => Nat.beq i r | none => false) with
  | false => rw [hc] at h; exact h.elim
  | true =>
    rw [hc] at h
    simp only [cond_true] at h
    simp only [Bool.and_eq_true, List.all_eq_true] at hc
    obtain ⟨⟨hd, hl⟩, ha⟩ := hc
    split at h
    · next v' hv' =>
      refine ⟨v', reD c g, rfl, reD_rel hr hd, reD_ext hx (fun r hrl => ?_), renD_rel v v' u hv' hv, h⟩
      have := ha r (by simp; omega)
      split at this
      · next i hi => rw [hi, Nat.eq_of_beq_eq_true this]
      · cases this
    · exact h.elim
def endO (rs : Rs) (flds : List (Nat × Nat × Rs)) (k : Nat) (K : V → List Ob → Prop) (v0 : V) (st0 : List Ob) : Prop := match ownR rs v0 st0 with
  | (v, st1) => packO k v (coF ownR flds st1) K
theorem endO_sound {w0 : Base} {c c0 : Cfg} {rs : Rs} {flds : List (Nat × Nat × Rs)} {k : Nat} {K : V → List Ob → Prop} {v0 : V} {u : Value} (hlen : c.st.length ≤ k) (h1 : Rel w0 c0) (h2 : Ext c c0) (h3 : RelV c0 v0 u) (h4 : endO rs flds k K v0 c0.st) :
    ∃ v' c', c'.w = c0.w ∧ Rel w0 c' ∧ Ext c c' ∧ RelV c' v' u ∧ K v' c'.st := by
  unfold endO at h4
  obtain ⟨c1, e1, e2, g1, g2, g3⟩ := ownR_sound rs v0 c0 h1
  have g4 := g3 u h3
  split at h4
  next v1 st1 heq =>
  have ev : (ownR rs v0 c0.st).1 = v1 := by rw [heq]
  have es : st1 = c1.st := by rw [e2, heq]
  rw [ev] at g4
  rw [es] at h4
  obtain ⟨c2, j1, j2, j3, j4⟩ := coF_sound ownR_ms flds c1 g1
  rw [← j2] at h4
  obtain ⟨v', c', k1, k2, k3, k4, k5⟩ := packO_sound j3 ((h2.trans g2).trans j4) hlen (RelV.ext j4 _ _ g4) h4
  exact ⟨v', c', k1.trans (j1.trans e1), k2, k3, k4, k5⟩
def runO (P : Program) (C : Caller) (D : List Oper → List V → List Ob → St → Prop) (ann : Ann) (rs : Rs) (flds : List (Nat × Nat × Rs)) (fn : Func) (pl : Bool) (k : Nat) : SemO := fun args st K =>
  bif Nat.beq st.length k then (match pl with
    | false => execF P C D ann fn args st (endO rs flds k K)
    | true => match poolAt 0 st with
      | some _ => False
      | none => execF P C D ann fn args (st ++ [.pool []]) fun v0 st0 => settleP k st0 (endO rs flds k K v0)) else False
theorem poolAt_none : ∀ {st : List Ob} {i r : Nat} {m : Pool}, poolAt i st = none → st[r]? ≠ some (.pool m)
  | ob :: st, i, 0, m, h, e => by
    simp only [List.getElem?_cons_zero, Option.some.injEq] at e
    subst e
    simp [poolAt] at h
  | ob :: st, i, r + 1, m, h, e => by
    refine poolAt_none (st := st) (i := i + 1) (r := r) (m := m) ?_ (by simpa using e)
    cases ob <;> first | exact h | simp [poolAt] at h
theorem newpool_rel {w0 : Base} {c : Cfg} (hr : Rel w0 c) (hn : poolAt 0 c.st = none) : Rel w0 { c with st := c.st ++ [.pool []], bl := fun r => if r = c.st.length then none else c.bl r } ∧ Ext c { c with st := c.st ++ [.pool []], bl := fun r => if r = c.st.length then none else c.bl r } := by
  have hblr : ∀ r, r < c.st.length → (if r = c.st.length then none else c.bl r) = c.bl r := fun r h => by rw [if_neg (by omega)]
  have hx : Ext c { c with st := c.st ++ [.pool []], bl := fun r => if r = c.st.length then none else c.bl r } := {
    size := Nat.le_refl _
    sub := fun _ _ h => h
    cells := fun _ _ _ => rfl
    len := by simp
    keep := fun r ob' hrl h => by
      simp only at h
      rw [List.getElem?_append_left hrl] at h
      cases ob' with
      | dead => trivial
      | cells cs => exact ⟨⟨cs, h⟩, hblr r hrl⟩
      | pool m => exact ⟨m, h⟩
      | vec t f xs => exact ⟨f, xs, h, rfl, hblr r hrl, fun _ _ _ h => h⟩ }
  have hlive : ∀ r b, live (c.st ++ [Ob.pool []]) r → (if r = c.st.length then none else c.bl r) = some b → live c.st r ∧ c.bl r = some b := by
    intro r b h hb
    have h1 := live_lt h
    simp only [List.length_append, List.length_singleton] at h1
    rcases Nat.lt_or_ge r c.st.length with g | g
    · rw [hblr r g] at hb
      refine ⟨?_, hb⟩
      unfold live at h ⊢
      rw [List.getElem?_append_left g] at h
      exact h
    · obtain rfl : r = c.st.length := by omega
      simp at hb
  refine ⟨?_, hx⟩
  exact {
    below := hr.below
    inj := fun r r' b h h' hb hb' => hr.inj r r' b (hlive r b h hb).1 (hlive r' b h' hb').1 (hlive r b h hb).2 (hlive r' b h' hb').2
    fresh := fun r b h hb => hr.fresh r b (hlive r b h hb).1 (hlive r b h hb).2
    bound := hr.bound
    newA := hr.newA
    obj := fun r ob' h => by
      rcases get_push h with ⟨g, h1⟩ | ⟨rfl, rfl⟩
      · exact OkOb.keep hx (hblr r g) (fun _ _ => rfl) (fun _ _ _ h => h) (hr.obj r _ h1)
      · show (if c.st.length = c.st.length then none else _) = none
        simp
    pl := by
      have hq : ∀ (r : Nat) (m : Pool), (c.st ++ [Ob.pool []])[r]? = some (.pool m) → r = c.st.length ∧ m = [] := fun r m h => by
        rcases get_push h with ⟨_, h1⟩ | ⟨g, h1⟩
        · exact absurd h1 (poolAt_none hn)
        · cases h1; exact ⟨g, rfl⟩
      exact ⟨fun r r' m m' h h' => by rw [(hq r m h).1, (hq r' m' h').1], fun r m h => by
        rw [(hq r m h).2]
        exact ⟨by simp, fun b row hb => by simp at hb⟩⟩ }
set_option maxHeartbeats 1600000 in
theorem runO_sound {P : Program} {C : Caller} {D : List Oper → List V → List Ob → St → Prop} (hC : SoundC P C) (hD : SoundD P D) {f : FuncId} {fn : Func} (hf : P.funcs[f]? = some fn) (ann : Ann) (rs : Rs) (flds : List (Nat × Nat × Rs)) (pl : Bool) (k N : Nat) (hN : N = bif pl then k + 1 else k) (hk : ∀ code, fn.body = some code → AnnOk P C D N ann code) : SoundO P f (runO P C D ann rs flds fn pl k) := by
  intro w0 c args us K hr ha h
  unfold runO at h
  cases hl : Nat.beq c.st.length k with
  | false => rw [hl] at h; exact h.elim
  | true =>
    rw [hl] at h
    simp only [cond_true] at h
    have hlen : c.st.length ≤ k := by rw [Nat.eq_of_beq_eq_true hl]; exact Nat.le_refl _
    cases pl with
    | false =>
      simp only [cond_false] at hN
      subst hN
      refine (fn_sound hC hD hf hk (c := c) hlen hr ha h).mono fun e w' hh => ?_
      obtain ⟨u, v0, c0, rfl, rfl, h1, h2, h3, h4⟩ := hh
      obtain ⟨v', c', k1, k2, k3, k4, k5⟩ := endO_sound hlen h1 h2 h3 h4
      exact ⟨u, v', c', rfl, k1, k2, k3, k4, k5⟩
    | true =>
      simp only [cond_true] at hN
      subst hN
      simp only at h
      split at h
      · exact h.elim
      · next hno =>
        obtain ⟨cp, q1, q2, p1, p2⟩ : ∃ cp : Cfg, cp.w = c.w ∧ cp.st = c.st ++ [.pool []] ∧ Rel w0 cp ∧ Ext c cp :=
          ⟨{ c with st := c.st ++ [.pool []], bl := fun r => if r = c.st.length then none else c.bl r }, rfl, rfl, newpool_rel hr hno⟩
        rw [← q2] at h
        have hl2 : cp.st.length ≤ k + 1 := by rw [q2, List.length_append]; simp only [List.length_singleton]; omega
        rw [← q1]
        refine (fn_sound hC hD hf hk (c := cp) hl2 p1 (RelVs.ext p2 _ _ ha) h).mono fun e w' hh => ?_
        obtain ⟨u, v0, c0, rfl, rfl, h1, h2, h3, h4⟩ := hh
        obtain ⟨c1, s1, s2, s3, s4, s5⟩ := settle_sound h1 (p2.trans h2) hlen h4
        have s6 : RelV c1 v0 u := s4 v0 u h3
        have s7 : endO rs flds k K v0 c1.st := s5
        obtain ⟨v', c', k1, k2, k3, k4, k5⟩ := endO_sound (c := c) (c0 := c1) (v0 := v0) (u := u) hlen s2 s3 s6 s7
        exact ⟨u, v', c', rfl, k1.trans s1, k2, k3, k4, k5⟩
mutual
def mapV (h : Nat → Nat) : V → V
  | .rc cs j => .rc (mapVs h cs) j
  | .cl r i => .cl (h r) i
  | .el r i j => .el (h r) i j
  | .vec r => .vec (h r)
  | .vw r lo n => .vw (h r) lo n
  | .agg cs => .agg (mapVs h cs)
  | .tup cs => .tup (mapVs h cs)
  | .fn f a b => .fn f (mapVs h a) (mapVs h b)
  | v => v
def mapVs (h : Nat → Nat) : List V → List V
  | [] => []
  | v :: vs => mapV h v :: mapVs h vs
end
def mapO (h : Nat → Nat) : Ob → Ob
  | .cells cs => .cells (mapVs h cs)
  | ob => ob
mutual
theorem mapV_rel {c c' : Cfg} {h : Nat → Nat} (hA : ∀ b o, c.A b o → c'.A b o) (hw : c'.w = c.w) (hs : ∀ j ob, c.st[j]? = some ob → c'.st[h j]? = some (mapO h ob)) (hb : ∀ j ob, c.st[j]? = some ob → c'.bl (h j) = c.bl j) :
    ∀ (v : V) (u : Value), RelV c v u → RelV c' (mapV h v) u
  | .any, u, _ => by simp only [mapV, RelV]
  | .x v, u, hv => by simpa only [mapV, RelV] using hv
  | .ro t xs, u, hv => by
    simp only [mapV, RelV] at *
    exact RoV.ext hA (fun b o _ => by rw [hw]) hv
  | .rc cs j, u, hv => by
    simp only [mapV, RelV] at *
    obtain ⟨b, o, e, hc⟩ := hv
    obtain ⟨us, h1, h2⟩ := RelC.list hc
    exact ⟨b, o, e, RelC.mk (mapVs_rel hA hw hs hb cs us h1) fun k x hk => ⟨by rw [hw]; exact (h2 k x hk).1, hA _ _ (h2 k x hk).2⟩⟩
  | .cl r i, u, hv => by
    have hsh := cl_shape hv
    simp only [mapV, RelV] at *
    cases he : c.st[r]? with
    | none => rw [he] at hv; exact hv.elim
    | some ob =>
      rw [he] at hv
      rw [hs r ob he, hb r ob he]
      cases ob <;> first | exact hv | exact hsh
  | .el r i j, u, hv => by
    have hsh := el_shape hv
    simp only [mapV, RelV] at *
    cases he : c.st[r]? with
    | none => rw [he] at hv; exact hv.elim
    | some ob =>
      rw [he] at hv
      rw [hs r ob he, hb r ob he]
      cases ob <;> first | exact hv | exact hsh
  | .vec r, u, hv => by
    have hsh := vec_shape hv
    simp only [mapV, RelV] at *
    cases he : c.st[r]? with
    | none => rw [he] at hv; exact hv.elim
    | some ob =>
      rw [he] at hv
      rw [hs r ob he, hb r ob he]
      cases ob with
      | vec t f xs => simp only [mapO]; rw [hw]; exact hv
      | _ => exact hsh
  | .vw r lo n, u, hv => by
    have hsh := vw_shape hv
    simp only [mapV, RelV] at *
    cases he : c.st[r]? with
    | none => rw [he] at hv; exact hv.elim
    | some ob =>
      rw [he] at hv
      rw [hs r ob he, hb r ob he]
      cases ob with
      | vec t f xs => simp only [mapO]; rw [hw]; exact hv
      | _ => exact hsh
  | .agg cs, u, hv => by
    simp only [mapV, RelV] at *
    obtain ⟨us, e, h1⟩ := hv
    exact ⟨us, e, mapVs_rel hA hw hs hb cs _ h1⟩
  | .tup cs, u, hv => by
    simp only [mapV, RelV] at *
    obtain ⟨us, e, h1⟩ := hv
    exact ⟨us, e, mapVs_rel hA hw hs hb cs _ h1⟩
  | .fn f a b, u, hv => by
    simp only [mapV, RelV] at *
    obtain ⟨us1, us2, e, h1, h2⟩ := hv
    exact ⟨us1, us2, e, mapVs_rel hA hw hs hb a _ h1, mapVs_rel hA hw hs hb b _ h2⟩
  | .gd _ _ _, u, _ => by simp only [mapV, RelV]
  | .hd x, u, hv => by simpa only [mapV, RelV] using hv
  | .pt a i, u, hv => by simpa only [mapV, RelV] using hv
theorem mapVs_rel {c c' : Cfg} {h : Nat → Nat} (hA : ∀ b o, c.A b o → c'.A b o) (hw : c'.w = c.w) (hs : ∀ j ob, c.st[j]? = some ob → c'.st[h j]? = some (mapO h ob)) (hb : ∀ j ob, c.st[j]? = some ob → c'.bl (h j) = c.bl j) :
    ∀ (vs : List V) (us : List Value), RelVs c vs us → RelVs c' (mapVs h vs) us
  | [], us, hv => by simpa only [mapVs, RelVs] using hv
  | v :: vs, us, hv => by
    simp only [mapVs, RelVs] at *
    obtain ⟨u, us', e, h1, h2⟩ := hv
    exact ⟨u, us', e, mapV_rel hA hw hs hb v u h1, mapVs_rel hA hw hs hb vs us' h2⟩
end
def home (g : List Nat) (n : Nat) (j : Nat) : Nat := match g[j]? with
  | some i => i
  | none => n + (j - g.length)
def backO (g : List Nat) (st st1 : List Ob) : List Ob :=
  ((List.range st.length).map fun r => match pos g r with
    | some j => mapO (home g st.length) (st1.getD j .dead)
    | none => st.getD r .dead) ++ (st1.drop g.length).map (mapO (home g st.length))
def pools : Nat → List Ob → List Nat
  | _, [] => []
  | i, .pool _ :: r => i :: pools (i + 1) r
  | i, _ :: r => pools (i + 1) r
theorem pools_mem : ∀ {st : List Ob} {r : Nat} {m : Pool}, st[r]? = some (.pool m) → ∀ i, i + r ∈ pools i st
  | ob :: st, 0, m, h, i => by
    simp only [List.getElem?_cons_zero, Option.some.injEq] at h
    subst h
    simp [pools]
  | ob :: st, r + 1, m, h, i => by
    have := pools_mem (st := st) (by simpa using h) (i + 1)
    rw [show i + (r + 1) = i + 1 + r from by omega]
    cases ob <;> simp only [pools] <;> first | exact this | exact List.mem_cons_of_mem _ this
theorem has_mem : ∀ {l : List Nat} {x : Nat}, has l x = true → x ∈ l
  | y :: r, x, h => by
    simp only [has, Bool.or_eq_true] at h
    rcases h with h | h
    · rw [Nat.eq_of_beq_eq_true h]; simp
    · exact List.mem_cons_of_mem _ (has_mem h)
def callO (sem : SemO) (args : List V) (st : List Ob) (K : V → List Ob → Prop) : Prop :=
  match reach st 4 (addN (pools 0 st) (namesL args)) with
  | g => bif distinct g && g.all (fun i => Nat.blt i st.length) && (pools 0 st).all (fun i => has g i) then
      match renDL g args with
      | some args' => sem args' (g.map fun i => renO g (st.getD i .dead)) fun v st1 => K (mapV (home g st.length) v) (backO g st st1)
      | none => False
    else False
theorem pos_of_get : ∀ {l : List Nat} {j i : Nat}, distinct l = true → l[j]? = some i → pos l i = some j
  | [], j, i, _, h => by simp at h
  | y :: r, 0, i, _, h => by
    simp only [List.getElem?_cons_zero, Option.some.injEq] at h
    simp [pos, h]
  | y :: r, j + 1, i, hd, h => by
    simp only [distinct, Bool.and_eq_true, Bool.not_eq_true'] at hd
    simp only [List.getElem?_cons_succ] at h
    have hm := List.mem_of_getElem? h
    have hne : ¬ y = i := by
      rintro rfl
      have := hd.1
      simp at this
      exact this hm
    simp only [pos, if_neg hne, pos_of_get hd.2 h]
def backC (c : Cfg) (g : List Nat) (c1 : Cfg) : Cfg :=
  { w := c1.w, A := c1.A, st := backO g c.st c1.st, bl := fun r => if r < c.st.length then (match pos g r with | some j => c1.bl j | none => c.bl r) else c1.bl (g.length + (r - c.st.length)) }
theorem callO_sound {P : Program} {f : FuncId} {sem : SemO} (h : SoundO P f sem) {w0 : Base} {c : Cfg} {args : List V} {us : Array Value} {K : V → List Ob → Prop} (hr : Rel w0 c) (ha : RelVs c args us.toList) (hc : callO sem args c.st K) :
    Calls P f us c.w fun e w' => ∃ u v c', e = .returned u ∧ c'.w = w' ∧ Rel w0 c' ∧ Ext c c' ∧ RelV c' v u ∧ K v c'.st := by
  unfold callO at hc
  simp only at hc
  generalize reach c.st 4 (addN (pools 0 c.st) (namesL args)) = g at hc
  cases hcc : distinct g && g.all (fun i => Nat.blt i c.st.length) && (pools 0 c.st).all (fun i => has g i) with
  | false => rw [hcc] at hc; exact hc.elim
  | true =>
    rw [hcc] at hc
    simp only [cond_true] at hc
    simp only [Bool.and_eq_true, List.all_eq_true] at hcc
    obtain ⟨⟨hd, hall⟩, hpl⟩ := hcc
    split at hc
    · next args' hargs =>
      have hsub : Rel ⟨c.w, c.A, fun b => (∃ i, i ∈ g ∧ live c.st i ∧ c.bl i = some b) ∨ ∃ (i : Nat) (m : Pool) (row : List ByteArray × Nat), i ∈ g ∧ c.st[i]? = some (Ob.pool m) ∧ (b, row) ∈ m⟩ (reD c g) := {
        below := Kept.refl _ _ _
        inj := fun r r' b h h' hb hb' => by
          obtain ⟨i, g1, g2, g3⟩ := reD_live h
          obtain ⟨i', k1, k2, k3⟩ := reD_live h'
          have := hr.inj i i' b g2 k2 (g3 ▸ hb) (k3 ▸ hb')
          subst this
          exact distinct_inj hd g1 k1
        fresh := fun r b h hb => by
          obtain ⟨i, g1, g2, g3⟩ := reD_live h
          exact .inr (.inl ⟨i, List.mem_of_getElem? g1, g2, g3 ▸ hb⟩)
        bound := hr.bound
        newA := fun b o h => .inl h
        obj := reD_obj hr.obj
        pl := by
          have hpool : ∀ (r : Nat) (m : Pool), (reD c g).st[r]? = some (Ob.pool m) → ∃ i, g[r]? = some i ∧ c.st[i]? = some (Ob.pool m) := fun r m hm => by
            cases hg : g[r]? with
            | none => simp [reD, hg] at hm
            | some i =>
              rw [reD_st hg] at hm
              refine ⟨i, rfl, ?_⟩
              cases hs : c.st[i]? with
              | none => simp [List.getD, hs, renO] at hm
              | some ob' =>
                rw [getD_of hs] at hm
                rw [renO_pool (Option.some.inj hm)]
          refine ⟨fun r r' m m' h1 h2 => ?_, fun r m hm => ?_⟩
          · obtain ⟨i, g1, g2⟩ := hpool r m h1
            obtain ⟨i', k1, k2⟩ := hpool r' m' h2
            have := hr.pl.1 i i' m m' g2 k2
            subst this
            exact distinct_inj hd g1 k1
          · obtain ⟨i, g1, g2⟩ := hpool r m hm
            obtain ⟨hn, hp⟩ := hr.pl.2 i m g2
            refine ⟨hn, fun b row hb => ?_⟩
            obtain ⟨_, h2, h3, h4⟩ := hp b row hb
            refine ⟨.inr (.inr ⟨i, m, row, List.mem_of_getElem? g1, g2, hb⟩), fun r0 k1 k2 => ?_, h3, h4⟩
            obtain ⟨i0, _, q2, q3⟩ := reD_live k1
            exact h2 i0 q2 (q3 ▸ k2) }
      refine (h _ (reD c g) args' us _ hsub (renDL_rel args args' _ hargs ha) hc).mono fun e w' hh => ?_
      obtain ⟨u, v, c1, rfl, rfl, h1, h2, h3, h4⟩ := hh
      have hglen : g.length ≤ c1.st.length := by
        have := h2.len
        simpa [reD] using this
      have hpos : ∀ {r j : Nat}, pos g r = some j → g[j]? = some r ∧ r < c.st.length ∧ j < g.length := fun {r j} hp => by
        have hg := pos_get hp
        have hlt := hall r (List.mem_of_getElem? hg)
        exact ⟨hg, by simpa using hlt, (List.getElem?_eq_some_iff.1 hg).1⟩
      have hst_old : ∀ r, r < c.st.length → (backC c g c1).st[r]? = some (match pos g r with | some j => mapO (home g c.st.length) (c1.st.getD j .dead) | none => c.st.getD r .dead) := fun r hrl => by
        simp only [backC, backO]
        rw [List.getElem?_append_left (by simpa using hrl), List.getElem?_map, List.getElem?_range hrl]
        rfl
      have hst_new : ∀ m, (backC c g c1).st[c.st.length + m]? = (c1.st[g.length + m]?).map (mapO (home g c.st.length)) := fun m => by
        simp only [backC, backO]
        rw [List.getElem?_append_right (by simp)]
        simp
      have hbl_pass : ∀ {r j}, pos g r = some j → (backC c g c1).bl r = c1.bl j := fun {r j} hp => by
        simp only [backC]
        rw [if_pos (hpos hp).2.1, hp]
      have hbl_old : ∀ {r}, r < c.st.length → pos g r = none → (backC c g c1).bl r = c.bl r := fun {r} hrl hp => by
        simp only [backC]
        rw [if_pos hrl, hp]
      have hbl_new : ∀ m, (backC c g c1).bl (c.st.length + m) = c1.bl (g.length + m) := fun m => by
        simp only [backC]
        rw [if_neg (by omega)]
        congr 1; omega
      have hhome : ∀ j ob, c1.st[j]? = some ob → (backC c g c1).st[home g c.st.length j]? = some (mapO (home g c.st.length) ob) ∧ (backC c g c1).bl (home g c.st.length j) = c1.bl j := fun j ob hj => by
        unfold home
        cases hg : g[j]? with
        | some i =>
          have hp := pos_of_get hd hg
          refine ⟨?_, hbl_pass hp⟩
          simp only
          rw [hst_old i (hpos hp).2.1, hp]
          simp only [getD_of hj]
          rfl
        | none =>
          have hge : g.length ≤ j := by
            rcases Nat.lt_or_ge j g.length with q | q
            · rw [List.getElem?_eq_getElem q] at hg; cases hg
            · exact q
          refine ⟨?_, ?_⟩
          · simp only
            rw [hst_new (j - g.length), show g.length + (j - g.length) = j from by omega, hj]
            rfl
          · simp only
            rw [hbl_new (j - g.length), show g.length + (j - g.length) = j from by omega]
      have hlive : ∀ r, live (backC c g c1).st r → (∃ j, home g c.st.length j = r ∧ live c1.st j ∧ (backC c g c1).bl r = c1.bl j) ∨ (r < c.st.length ∧ pos g r = none ∧ live c.st r ∧ (backC c g c1).bl r = c.bl r) := by
        intro r hl
        obtain ⟨ob, k1, k2⟩ := live_of' hl
        rcases Nat.lt_or_ge r c.st.length with q | q
        · rw [hst_old r q] at k1
          cases hp : pos g r with
          | some j =>
            rw [hp] at k1
            simp only [Option.some.injEq] at k1
            obtain ⟨hg, _, hjl⟩ := hpos hp
            have hj : c1.st[j]? = some (c1.st[j]'(by omega)) := List.getElem?_eq_getElem (by omega)
            rw [getD_of hj] at k1
            refine .inl ⟨j, by unfold home; rw [hg], live_of hj (fun e => k2 ?_), hbl_pass hp⟩
            rw [← k1, e]; rfl
          | none =>
            rw [hp] at k1
            simp only [Option.some.injEq] at k1
            have hs : c.st[r]? = some (c.st[r]'q) := List.getElem?_eq_getElem q
            rw [getD_of hs] at k1
            exact .inr ⟨q, rfl, live_of hs (fun e => k2 (by rw [← k1, e])), hbl_old q hp⟩
        · obtain ⟨m, rfl⟩ : ∃ m, r = c.st.length + m := ⟨r - c.st.length, by omega⟩
          rw [hst_new m] at k1
          cases hj : c1.st[g.length + m]? with
          | none => rw [hj] at k1; cases k1
          | some ob1 =>
            rw [hj] at k1
            simp only [Option.map_some, Option.some.injEq] at k1
            refine .inl ⟨g.length + m, ?_, live_of hj (fun e => k2 (by rw [← k1, e]; rfl)), hbl_new m⟩
            unfold home
            rw [List.getElem?_eq_none (by omega)]
            simp only
            omega
      have hown : ∀ {b}, Base.may ⟨c.w, c.A, fun b => (∃ i, i ∈ g ∧ live c.st i ∧ c.bl i = some b) ∨ ∃ (i : Nat) (m : Pool) (row : List ByteArray × Nat), i ∈ g ∧ c.st[i]? = some (Ob.pool m) ∧ (b, row) ∈ m⟩ b → w0.may b := fun {b} hm => by
        rcases hm with q | ⟨i, _, k2, k3⟩ | ⟨i, m, row, _, k2, k3⟩
        · have := hr.below.size
          simp only at q
          exact .inl (by omega)
        · exact hr.fresh i b k2 k3
        · exact ((hr.pl.2 i m k2).2 b row k3).1
      have hnot : ∀ {r b}, r < c.st.length → pos g r = none → live c.st r → c.bl r = some b → ¬ Base.may ⟨c.w, c.A, fun b => (∃ i, i ∈ g ∧ live c.st i ∧ c.bl i = some b) ∨ ∃ (i : Nat) (m : Pool) (row : List ByteArray × Nat), i ∈ g ∧ c.st[i]? = some (Ob.pool m) ∧ (b, row) ∈ m⟩ b := fun {r b} hrl hp hl hb hm => by
        rcases hm with q | ⟨i, k1, k2, k3⟩ | ⟨i, m, row, k1, k2, k3⟩
        · have := bl_lt hr hl hb
          simp only at q; omega
        · have := hr.inj i r b k2 hl k3 hb
          subst this
          obtain ⟨j, hj⟩ := List.getElem?_of_mem k1
          rw [pos_of_get hd hj] at hp
          cases hp
        · exact ((hr.pl.2 i m k2).2 b row k3).2.1 r hl hb
      have hx : Ext c (backC c g c1) := {
        size := h2.size
        sub := h2.sub
        cells := h2.cells
        len := by simp [backC, backO]
        keep := fun r ob hrl ho => by
          rw [hst_old r hrl] at ho
          simp only [Option.some.injEq] at ho
          cases hp : pos g r with
          | some j =>
            rw [hp] at ho
            simp only at ho
            obtain ⟨hg, _, hjl⟩ := hpos hp
            have hj : c1.st[j]? = some (c1.st[j]'(by omega)) := List.getElem?_eq_getElem (by omega)
            rw [getD_of hj] at ho
            have hk := h2.keep j _ (by simpa [reD] using hjl) hj
            have hsr : (reD c g).st[j]? = some (renO g (c.st.getD r .dead)) := reD_st hg
            have hrs : c.st[r]? = some (c.st[r]'hrl) := List.getElem?_eq_getElem hrl
            rw [getD_of hrs] at hsr
            cases hob : c1.st[j]'(by omega) with
            | dead => rw [hob] at ho; simp only [mapO] at ho; subst ho; trivial
            | cells cs =>
              rw [hob] at ho hk
              simp only [mapO] at ho
              subst ho
              obtain ⟨⟨cs0, e0⟩, hb0⟩ := hk
              rw [hsr] at e0
              simp only [Option.some.injEq] at e0
              obtain ⟨cs', e'⟩ := renO_cells e0
              exact ⟨⟨cs', by rw [hrs, e']⟩, by rw [hbl_pass hp, hb0, reD_bl hg]⟩
            | pool m =>
              rw [hob] at ho hk
              simp only [mapO] at ho
              subst ho
              obtain ⟨m0, e0⟩ := hk
              rw [hsr] at e0
              simp only [Option.some.injEq] at e0
              exact ⟨m0, by rw [hrs, renO_pool e0]⟩
            | vec t f xs =>
              rw [hob] at ho hk
              simp only [mapO] at ho
              subst ho
              obtain ⟨f0, xs0, e0, hl0, hb0, hrows⟩ := hk
              rw [hsr] at e0
              simp only [Option.some.injEq] at e0
              have e' := renO_vec e0
              refine ⟨f0, xs0, by rw [hrs, e'], hl0, by rw [hbl_pass hp, hb0, reD_bl hg], fun b n hb hrw => hrows b n (by rw [reD_bl hg]; exact hb) hrw⟩
          | none =>
            rw [hp] at ho
            simp only at ho
            have hrs : c.st[r]? = some (c.st[r]'hrl) := List.getElem?_eq_getElem hrl
            rw [getD_of hrs] at ho
            cases ob with
            | dead => trivial
            | cells cs => exact ⟨⟨cs, by rw [hrs, ho]⟩, hbl_old hrl hp⟩
            | pool m => exact ⟨m, by rw [hrs, ho]⟩
            | vec t f xs =>
              refine ⟨f, xs, by rw [hrs, ho], rfl, hbl_old hrl hp, fun b n hb hrw => ?_⟩
              obtain ⟨ce, e, fz, q1, q2⟩ := hrw
              have hl : live c.st r := live_of (hrs.trans (by rw [ho])) (by simp)
              exact ⟨ce, e, fz, (h1.below.block b (hnot hrl hp hl hb)).trans q1, q2⟩ }
      refine ⟨u, mapV (home g c.st.length) v, backC c g c1, rfl, rfl, ?_, hx, mapV_rel (c := c1) (c' := backC c g c1) (h := home g c.st.length) (fun _ _ h => h) rfl (fun j ob hj => (hhome j ob hj).1) (fun j ob hj => (hhome j ob hj).2) v u h3, h4⟩
      exact {
        below := ⟨hr.below.b0.trans h1.below.b0, fun k hk => (h1.below.block k (fun hm => hk (hown hm))).trans (hr.below.block k hk)⟩
        inj := fun r r' b hl hl' hb hb' => by
          rcases hlive r hl with ⟨j, q1, q2, q3⟩ | ⟨q1, q2, q3, q4⟩ <;> rcases hlive r' hl' with ⟨j', s1, s2, s3⟩ | ⟨s1, s2, s3, s4⟩
          · rw [← q1, ← s1, h1.inj j j' b q2 s2 (q3 ▸ hb) (s3 ▸ hb')]
          · exact absurd (h1.fresh j b q2 (q3 ▸ hb)) (hnot s1 s2 s3 (s4 ▸ hb'))
          · exact absurd (h1.fresh j' b s2 (s3 ▸ hb')) (hnot q1 q2 q3 (q4 ▸ hb))
          · exact hr.inj r r' b q3 s3 (q4 ▸ hb) (s4 ▸ hb')
        fresh := fun r b hl hb => by
          rcases hlive r hl with ⟨j, q1, q2, q3⟩ | ⟨q1, q2, q3, q4⟩
          · exact hown (h1.fresh j b q2 (q3 ▸ hb))
          · exact hr.fresh r b q3 (q4 ▸ hb)
        bound := h1.bound
        newA := fun b o hA => by
          rcases h1.newA b o hA with q | q
          · exact hr.newA b o q
          · exact .inr (hown q)
        obj := fun r ob ho => by
          by_cases hdead : ob = .dead
          · subst hdead; trivial
          rcases hlive r (live_of ho hdead) with ⟨j, q1, q2, q3⟩ | ⟨q1, q2, q3, q4⟩
          · obtain ⟨ob1, k1, k2⟩ := live_of' q2
            have hh := (hhome j ob1 k1).1
            rw [q1, ho] at hh
            simp only [Option.some.injEq] at hh
            have hob := h1.obj j ob1 k1
            subst hh
            cases ob1 with
            | dead => trivial
            | cells cs =>
              obtain ⟨b, ce, e, m1, m2, m3, m4⟩ := hob
              exact ⟨b, ce, e, q3.trans m1, m2, mapVs_rel (c := c1) (c' := backC c g c1) (h := home g c.st.length) (fun _ _ h => h) rfl (fun j ob hj => (hhome j ob hj).1) (fun j ob hj => (hhome j ob hj).2) cs _ m3, m4⟩
            | vec t f xs =>
              obtain ⟨m1, m2, m3⟩ := hob
              refine ⟨m1, m2, ?_⟩
              rw [q3]
              exact m3
            | pool m => exact q3.trans hob
          · rw [hst_old r q1, q2] at ho
            simp only [Option.some.injEq] at ho
            have hrs : c.st[r]? = some (c.st[r]'q1) := List.getElem?_eq_getElem q1
            rw [getD_of hrs] at ho
            refine OkOb.keep hx q4 (fun b hb => h1.below.block b (hnot q1 q2 q3 hb)) (fun b o hb hA => ?_) (hr.obj r ob (by rw [hrs, ho]))
            rcases h1.newA b o hA with k | k
            · exact k
            · exact absurd k (hnot q1 q2 q3 hb)
        pl := by
          have hmap : ∀ {f : Nat → Nat} {ob : Ob} {m : Pool}, mapO f ob = .pool m → ob = .pool m := fun {f ob m} e => by
            cases ob <;> simp only [mapO] at e <;> first | exact e | cases e
          have hpool : ∀ (r : Nat) (m : Pool), (backC c g c1).st[r]? = some (Ob.pool m) → ∃ j, home g c.st.length j = r ∧ c1.st[j]? = some (Ob.pool m) := fun r m hm => by
            rcases hlive r (live_of hm (by simp)) with ⟨j, q1, q2, q3⟩ | ⟨q1, q2, q3, q4⟩
            · obtain ⟨ob1, k1, k2⟩ := live_of' q2
              have hh := (hhome j ob1 k1).1
              rw [q1, hm] at hh
              exact ⟨j, q1, by rw [k1, hmap (Option.some.inj hh).symm]⟩
            · rw [hst_old r q1, q2] at hm
              simp only [Option.some.injEq] at hm
              have hrs : c.st[r]? = some (c.st[r]'q1) := List.getElem?_eq_getElem q1
              rw [getD_of hrs] at hm
              have hmem := pools_mem (m := m) (hrs.trans (by rw [hm])) 0
              rw [Nat.zero_add] at hmem
              have hin := hpl r hmem
              obtain ⟨j, hj⟩ := List.getElem?_of_mem (has_mem hin)
              rw [pos_of_get hd hj] at q2
              cases q2
          refine ⟨fun r r' m m' k1 k2 => ?_, fun r m hm => ?_⟩
          · obtain ⟨j, e1, e2⟩ := hpool r m k1
            obtain ⟨j', e1', e2'⟩ := hpool r' m' k2
            rw [← e1, ← e1', h1.pl.1 j j' m m' e2 e2']
          · obtain ⟨j, e1, e2⟩ := hpool r m hm
            obtain ⟨hn, hp⟩ := h1.pl.2 j m e2
            refine ⟨hn, fun b row hb => ?_⟩
            obtain ⟨k1, k2, k3, k4⟩ := hp b row hb
            refine ⟨hown k1, fun r0 l1 l2 => ?_, k3, k4⟩
            rcases hlive r0 l1 with ⟨j0, q1, q2, q3⟩ | ⟨q1, q2, q3, q4⟩
            · exact k2 j0 q2 (q3 ▸ l2)
            · exact hnot q1 q2 q3 (q4 ▸ l2) k1 }
    · exact hc.elim
end Eng
end Go.Proofs.YtkpplfghhciacaaDoor
set_option linter.unusedVariables false
set_option linter.unusedSimpArgs false
namespace Go.Proofs.YtkpplfghhciacaaDoor
namespace Eng
open Go.RowKit
def closeL (f : V → Option V) : List V → Option (List V)
  | [] => some []
  | v :: vs => match f v, closeL f vs with
    | some v', some vs' => some (v' :: vs')
    | _, _ => none
def closeB (st : List Ob) : Nat → V → Option V
  | 0, _ => none
  | n + 1, v => match v with
    | .any => some .any
    | .x v => some (.x v)
    | .ro t xs => some (.ro t xs)
    | .rc cs j => match closeL (closeB st n) cs with
      | some cs' => some (.rc cs' j)
      | none => none
    | .vec r => match st[r]? with
      | some (.vec t _ xs) => some (.ro t xs)
      | _ => none
    | .vw r lo n => match st[r]? with
      | some (.vec t _ xs) => some (.ro t ((xs.drop lo).take n))
      | _ => none
    | .cl r i => match st[r]? with
      | some (.cells cs) => match closeL (closeB st n) cs with
        | some cs' => some (.rc cs' i)
        | none => none
      | _ => none
    | .el r i j => match st[r]? with
      | some (.vec t _ xs) => some (.rc (enc t (xs.getD i t.dflt)) j)
      | _ => none
    | .agg cs => match closeL (closeB st n) cs with
      | some cs' => some (.agg cs')
      | none => none
    | .tup cs => match closeL (closeB st n) cs with
      | some cs' => some (.tup cs')
      | none => none
    | .fn f a b => match closeL (closeB st n) a, closeL (closeB st n) b with
      | some a', some b' => some (.fn f a' b')
      | _, _ => none
    | .gd _ _ _ => none
    | .hd _ => some .any
    | .pt _ _ => some .any
def lent (w : World) : Cfg := cfg0 w fun b _ => b < w.heap.size
theorem RoV.lend {w : World} {A : Nat → Nat → Prop} (h : ∀ b o, A b o → b < w.heap.size) {t : Ty} {x : t.den} {us : List Value} (hr : RoV w A t x us) : RoV w (fun b _ => b < w.heap.size) t x us :=
  RoV.ext (fun b o ha => h b o ha) (fun _ _ _ => rfl) hr
theorem closeB_sound {w0 : Base} {c : Cfg} (hr : Rel w0 c) : ∀ (n : Nat) (v v' : V) (u : Value), closeB c.st n v = some v' → RelV c v u → RelV (lent c.w) v' u := by
  intro n
  induction n with
  | zero => intro v v' u h; simp [closeB] at h
  | succ n ih =>
    have ihL : ∀ (vs vs' : List V) (us : List Value), closeL (closeB c.st n) vs = some vs' → RelVs c vs us → RelVs (lent c.w) vs' us := by
      intro vs
      induction vs with
      | nil =>
        intro vs' us h hr
        simp only [closeL, Option.some.injEq] at h
        subst h
        simpa only [RelVs] using hr
      | cons v vs ihv =>
        intro vs' us h hr
        simp only [closeL] at h
        split at h
        · next v1 vs1 e1 e2 =>
          cases h
          simp only [RelVs] at *
          obtain ⟨u, us', e, h1, h2⟩ := hr
          exact ⟨u, us', e, ih v v1 u e1 h1, ihv vs1 us' e2 h2⟩
        · cases h
    intro v v' u h hv
    simp only [closeB] at h
    split at h
    · cases h; simp only [RelV]
    · cases h; simpa only [RelV] using hv
    · cases h
      simp only [RelV] at *
      exact RoV.lend (fun b o ha => hr.bound b o ha) hv
    · next cs j =>
      split at h
      · next cs' hcs =>
        cases h
        simp only [RelV] at *
        obtain ⟨b, o, e, hc⟩ := hv
        obtain ⟨us, h1, h2⟩ := RelC.list hc
        exact ⟨b, o, e, RelC.mk (ihL _ _ _ hcs h1) fun j u hj => ⟨(h2 j u hj).1, hr.bound _ _ (h2 j u hj).2⟩⟩
      · cases h
    · next r =>
      split at h
      · next t f xs hst =>
        cases h
        obtain ⟨g1, g2, g3⟩ := frz_rel hr hst
        have := g3 u hv
        simp only [RelV] at this ⊢
        exact RoV.lend (w := c.w) (fun b o ha => g1.bound b o ha) this
      · cases h
    · next r lo n =>
      split at h
      · next t f xs hst =>
        cases h
        obtain ⟨g1, g2, g3⟩ := frz_rel hr hst
        have := vw_frz hr hst hv
        simp only [RelV] at this ⊢
        exact RoV.lend (w := c.w) (fun b o ha => g1.bound b o ha) this
      · cases h
    · next r i =>
      split at h
      · next cs hst =>
        split at h
        · next cs' hcs =>
          cases h
          simp only [RelV, hst] at hv
          obtain ⟨b, hb, rfl⟩ := hv
          obtain ⟨b', ce, e, hb', hheap, hvs, _⟩ := hr.obj r _ hst
          rw [hb] at hb'; cases hb'
          simp only [RelV]
          have hlt : b < c.w.heap.size := (Array.getElem?_eq_some_iff.1 hheap).1
          refine ⟨b, 0, by rw [Nat.zero_add], RelC.mk (ihL _ _ _ hcs hvs) fun j x hj => ⟨?_, hlt⟩⟩
          show c.w.cell? _ = _
          rw [cell_of_row _ _ _ _ _ _ hheap, Nat.zero_add]
          simpa using hj
        · cases h
      · cases h
    · next r i j =>
      split at h
      · next t f xs hst =>
        cases h
        simp only [RelV, hst] at hv
        obtain ⟨b, hb, rfl, hi⟩ := hv
        obtain ⟨hp, _, ⟨hn, _⟩ | ⟨b', ce, e, cap, hb', hheap, hsz, hcap, hrow, _⟩⟩ := hr.obj r _ hst
        · rw [hb] at hn; cases hn
        rw [hb] at hb'; cases hb'
        have hlt : b < c.w.heap.size := (Array.getElem?_eq_some_iff.1 hheap).1
        have hy : xs[i]? = some (xs.getD i t.dflt) := by simp [List.getD, List.getElem?_eq_getElem hi]
        have h1 := RoV.lend (w := c.w) (fun b o ha => hr.bound b o ha) (hrow i _ hy)
        simp only [RelV]
        refine ⟨b, i * t.size, rfl, RelC.mk (RoV.rel (c := lent c.w) h1) fun k x hk => ⟨?_, hlt⟩⟩
        show c.w.cell? _ = _
        rw [List.getElem?_take] at hk
        split at hk
        · rw [List.getElem?_drop] at hk
          rw [cell_of_row _ _ _ _ _ _ hheap]
          simpa using hk
        · cases hk
      · cases h
    · next cs =>
      split at h
      · next cs' hcs =>
        cases h
        simp only [RelV] at *
        obtain ⟨us, e, h1⟩ := hv
        exact ⟨us, e, ihL _ _ _ hcs h1⟩
      · cases h
    · next cs =>
      split at h
      · next cs' hcs =>
        cases h
        simp only [RelV] at *
        obtain ⟨us, e, h1⟩ := hv
        exact ⟨us, e, ihL _ _ _ hcs h1⟩
      · cases h
    · next f a b =>
      split at h
      · next a' b' ha hb =>
        cases h
        simp only [RelV] at *
        obtain ⟨us1, us2, e, h1, h2⟩ := hv
        exact ⟨us1, us2, e, ihL _ _ _ ha h1, ihL _ _ _ hb h2⟩
      · cases h
    · cases h
    · cases h; simp only [RelV]
    · cases h; simp only [RelV]
theorem closeL_sound {w0 : Base} {c : Cfg} (hr : Rel w0 c) {n : Nat} : ∀ {vs vs' : List V} {us : List Value}, closeL (closeB c.st n) vs = some vs' → RelVs c vs us → RelVs (lent c.w) vs' us
  | [], vs', us, h, hv => by
    simp only [closeL, Option.some.injEq] at h
    subst h
    simpa only [RelVs] using hv
  | v :: vs, vs', us, h, hv => by
    simp only [closeL] at h
    split at h
    · next v1 vs1 e1 e2 =>
      cases h
      simp only [RelVs] at *
      obtain ⟨u, us', e, h1, h2⟩ := hv
      exact ⟨u, us', e, closeB_sound hr n v v1 u e1 h1, closeL_sound hr e2 h2⟩
    · cases h
def isHd : V → Bool
  | .hd _ => true
  | .agg cs => cs.any fun v => match v with
    | .hd _ => true
    | _ => false
  | _ => false
def isHr : Ob → Bool
  | .vec t _ _ => hasH t
  | _ => false
def needH (st : List Ob) (args : List V) : Bool := args.any isHd || (reach st 4 (addN [] (namesL args))).any fun i => isHr (st.getD i .dead)
def lendP (args : List V) (st : List Ob) (k : List V → Prop) : Prop := match closeL (closeB st 8) args with
  | some args' => k args'
  | none => False
def lendK (args : List V) (st : List Ob) (k : List V → Prop) : Prop := match poolAt 0 st with
  | some (_, m) => bif needH st args then andL (condS m st) (andL (condVs m args) (lendP (hdVs m args) (st.map (stl m)) k)) else lendP args st k
  | none => lendP args st k
theorem lendP_sound {w0 : Base} {c : Cfg} (hr : Rel w0 c) {args : List V} {us : List Value} {k : List V → Prop} (ha : RelVs c args us) (h : lendP args c.st k) : ∃ args', RelVs (lent c.w) args' us ∧ k args' := by
  unfold lendP at h
  split at h
  · next args' he => exact ⟨args', closeL_sound hr he ha, h⟩
  · exact h.elim
theorem lendK_sound {w0 : Base} {c : Cfg} (hr : Rel w0 c) {args : List V} {us : List Value} {k : List V → Prop} (ha : RelVs c args us) (h : lendK args c.st k) : ∃ args', RelVs (lent c.w) args' us ∧ k args' := by
  unfold lendK at h
  split at h
  · next p m hm =>
    cases hn : needH c.st args with
    | false => rw [hn] at h; exact lendP_sound hr ha h
    | true =>
      rw [hn] at h
      obtain ⟨h1, h⟩ := andL_out h
      obtain ⟨h2, h⟩ := andL_out h
      exact lendP_sound (c := stlC c m) (stlC_rel hr hm h1) (hdVs_rel hr hm args us h2 ha) h
  · exact lendP_sound hr ha h
def flatT : Ty → Bool
  | .slice _ => false
  | .pair a b => flatT a && flatT b
  | _ => true
theorem flatT_rel {w w' : World} {A A' : Nat → Nat → Prop} : ∀ {t : Ty} {x : t.den} {us : List Value}, flatT t = true → RoV w A t x us → RoV w' A' t x us
  | .int _, _, _, _, h | .bool, _, _, _, h | .str, _, _, _, h | .unit, _, _, _, h | .hnd, _, _, _, h => h
  | .pair a b, p, us, hf, h => by
    simp only [flatT, Bool.and_eq_true] at hf
    obtain ⟨us1, us2, e, h1, h2⟩ := h
    exact ⟨us1, us2, e, flatT_rel hf.1 h1, flatT_rel hf.2 h2⟩
  | .slice _, _, _, hf, _ => by simp [flatT] at hf
mutual
def flatV : V → Bool
  | .any => true
  | .x _ => true
  | .vec _ => true
  | .agg cs => flatVs cs
  | .tup cs => flatVs cs
  | _ => false
def flatVs : List V → Bool
  | [] => true
  | v :: vs => flatV v && flatVs vs
end
mutual
def shiftV (n : Nat) : V → V
  | .vec r => .vec (n + r)
  | .agg cs => .agg (shiftVs n cs)
  | .tup cs => .tup (shiftVs n cs)
  | v => v
def shiftVs (n : Nat) : List V → List V
  | [] => []
  | v :: vs => shiftV n v :: shiftVs n vs
end
def flatOb : Ob → Bool
  | .vec t _ _ => flatT t
  | .dead => true
  | .cells _ => false
  | .pool _ => false
def joinC (c c1 : Cfg) : Cfg :=
  { w := c1.w, bl := fun r => if r < c.st.length then c.bl r else c1.bl (r - c.st.length), st := c.st ++ c1.st, A := c.A }
theorem join_rel {w0 : Base} {c c1 : Cfg} (hr : Rel w0 c) (h1 : Rel ⟨c.w, fun b _ => b < c.w.heap.size, fun _ => False⟩ c1) (hf : c1.st.all flatOb = true) : Rel w0 (joinC c c1) ∧ Ext c (joinC c c1) := by
  have hbl1 : ∀ r, r < c.st.length → (joinC c c1).bl r = c.bl r := fun r h => by simp only [joinC]; rw [if_pos h]
  have hbl2 : ∀ k, (joinC c c1).bl (c.st.length + k) = c1.bl k := fun k => by simp only [joinC]; rw [if_neg (by omega)]; congr 1; omega
  have hcell : ∀ b o, b < c.w.heap.size → c1.w.cell? ⟨b, o, none⟩ = c.w.cell? ⟨b, o, none⟩ := fun b o h => World.cell?_of_block (w := c.w) (h1.below.block b (noOwn h))
  have hx : Ext c (joinC c c1) := {
    size := h1.below.size
    sub := fun _ _ h => h
    cells := fun b o h => hcell b o (hr.bound b o h)
    len := by simp [joinC]
    keep := fun r ob hrl h => by
      simp only [joinC] at h
      rw [List.getElem?_append_left hrl] at h
      cases ob with
      | dead => trivial
      | cells cs => exact ⟨⟨cs, h⟩, hbl1 r hrl⟩
      | pool m => exact ⟨m, h⟩
      | vec t f xs =>
        refine ⟨f, xs, h, rfl, hbl1 r hrl, fun b n hb hrows => ?_⟩
        obtain ⟨ce, e, fz, g1, g2⟩ := hrows
        have hlt := bl_lt hr (live_of h (by simp)) hb
        exact ⟨ce, e, fz, by show c1.w.heap[b]? = _; rw [h1.below.block b (noOwn hlt)]; exact g1, g2⟩ }
  refine ⟨?_, hx⟩
  have hlive : ∀ r, live (joinC c c1).st r → (r < c.st.length ∧ live c.st r ∧ (joinC c c1).bl r = c.bl r) ∨ (∃ k, r = c.st.length + k ∧ live c1.st k ∧ (joinC c c1).bl r = c1.bl k) := by
    intro r h
    obtain ⟨ob, h2, h3⟩ := live_of' h
    simp only [joinC] at h2
    rcases Nat.lt_or_ge r c.st.length with g | g
    · rw [List.getElem?_append_left g] at h2
      exact .inl ⟨g, live_of h2 h3, hbl1 r g⟩
    · rw [List.getElem?_append_right g] at h2
      refine .inr ⟨r - c.st.length, by omega, live_of h2 h3, ?_⟩
      have := hbl2 (r - c.st.length)
      rwa [show c.st.length + (r - c.st.length) = r from by omega] at this
  exact {
    below := ⟨hr.below.b0.trans h1.below.b0, fun k hk => by
      have hs := hr.below.size
      have hk2 : k < c.w.heap.size := by
        rcases Nat.lt_or_ge k w0.w.heap.size with g | g
        · omega
        · exact absurd (.inl g) hk
      exact (h1.below.block k (noOwn hk2)).trans (hr.below.block k hk)⟩
    inj := fun r r' b h h' hb hb' => by
      rcases hlive r h with ⟨g, g1, g2⟩ | ⟨k, rfl, g1, g2⟩ <;> rcases hlive r' h' with ⟨g', k1, k2⟩ | ⟨k', rfl, k1, k2⟩
      · exact hr.inj r r' b g1 k1 (g2 ▸ hb) (k2 ▸ hb')
      · have a1 := bl_lt hr g1 (g2 ▸ hb)
        rcases h1.fresh _ b k1 (k2 ▸ hb') with a2 | a2
        · simp only at a2; omega
        · exact a2.elim
      · have a1 := bl_lt hr k1 (k2 ▸ hb')
        rcases h1.fresh _ b g1 (g2 ▸ hb) with a2 | a2
        · simp only at a2; omega
        · exact a2.elim
      · rw [h1.inj k k' b g1 k1 (g2 ▸ hb) (k2 ▸ hb')]
    fresh := fun r b h hb => by
      rcases hlive r h with ⟨g, g1, g2⟩ | ⟨k, rfl, g1, g2⟩
      · exact hr.fresh r b g1 (g2 ▸ hb)
      · have a2 := hr.below.size
        rcases h1.fresh _ b g1 (g2 ▸ hb) with a1 | a1
        · simp only at a1
          exact .inl (by omega)
        · exact a1.elim
    bound := fun b o h => by
      have := hr.bound b o h
      have := h1.below.size
      show b < c1.w.heap.size
      simp only at this; omega
    newA := hr.newA
    obj := fun r ob h => by
      have h0 := h
      simp only [joinC] at h
      rcases Nat.lt_or_ge r c.st.length with g | g
      · rw [List.getElem?_append_left g] at h
        cases ob with
        | dead => trivial
        | _ =>
          refine OkOb.keep hx (hbl1 r g) (fun b hb => ?_) (fun _ _ _ h => h) (hr.obj r _ h)
          exact h1.below.block b (noOwn (bl_lt hr (live_of h (by simp)) hb))
      · rw [List.getElem?_append_right g] at h
        have hfo : flatOb ob = true := by
          rw [List.all_eq_true] at hf
          exact hf _ (List.mem_of_getElem? h)
        cases ob with
        | dead => trivial
        | cells cs => simp [flatOb] at hfo
        | pool m => simp [flatOb] at hfo
        | vec t f xs =>
          simp only [flatOb] at hfo
          have hbr : (joinC c c1).bl r = c1.bl (r - c.st.length) := by
            have := hbl2 (r - c.st.length)
            rwa [show c.st.length + (r - c.st.length) = r from by omega] at this
          obtain ⟨a1, a2, ⟨a3, a4⟩ | ⟨b, ce, e, cap, a3, a4, a5, a6, a7, a8⟩⟩ := h1.obj _ _ h
          · exact ⟨a1, a2, .inl ⟨hbr.trans a3, a4⟩⟩
          · refine ⟨a1, a2, .inr ⟨b, ce, e, cap, hbr.trans a3, a4, a5, a6, fun i y hy => flatT_rel hfo (a7 i y hy), fun o _ hn => ?_⟩⟩
            have k1 := hr.bound b o hn
            rcases h1.fresh _ b (live_of h (by simp)) a3 with k2 | k2
            · simp only at k2; omega
            · exact k2.elim
    pl := PoolOk.keep hr.pl (fun r m h => by
        simp only [joinC] at h
        rcases Nat.lt_or_ge r c.st.length with g | g
        · rwa [List.getElem?_append_left g] at h
        · rw [List.getElem?_append_right g] at h
          rw [List.all_eq_true] at hf
          have := hf _ (List.mem_of_getElem? h)
          simp [flatOb] at this) (fun r b h hb => by
        rcases hlive r h with ⟨g, g1, g2⟩ | ⟨k, rfl, g1, g2⟩
        · exact .inl ⟨r, g1, g2 ▸ hb⟩
        · rcases h1.fresh _ b g1 (g2 ▸ hb) with a1 | a1
          · exact .inr (.inl a1)
          · exact a1.elim) (fun _ _ h => .inl h) (fun b hb _ _ => h1.below.block b (noOwn hb)) }
mutual
theorem shiftV_rel {c c1 : Cfg} : ∀ (v : V) (u : Value), flatV v = true → RelV c1 v u → RelV (joinC c c1) (shiftV c.st.length v) u
  | .any, u, _, _ => by simp only [shiftV, RelV]
  | .x x, u, _, h => by simpa only [shiftV, RelV] using h
  | .vec r, u, _, h => by
    simp only [shiftV, RelV] at *
    have hst : (joinC c c1).st[c.st.length + r]? = c1.st[r]? := by
      simp only [joinC]
      rw [List.getElem?_append_right (by omega)]
      congr 1; omega
    have hbl : (joinC c c1).bl (c.st.length + r) = c1.bl r := by simp only [joinC]; rw [if_neg (by omega)]; congr 1; omega
    rw [hst, hbl]
    exact h
  | .agg cs, u, hf, h => by
    simp only [flatV] at hf
    simp only [shiftV, RelV] at *
    obtain ⟨us, e, h1⟩ := h
    exact ⟨us, e, shiftVs_rel cs _ hf h1⟩
  | .tup cs, u, hf, h => by
    simp only [flatV] at hf
    simp only [shiftV, RelV] at *
    obtain ⟨us, e, h1⟩ := h
    exact ⟨us, e, shiftVs_rel cs _ hf h1⟩
  | .ro _ _, _, hf, _ | .rc _ _, _, hf, _ | .cl _ _, _, hf, _ | .el _ _ _, _, hf, _ | .vw _ _ _, _, hf, _ | .fn _ _ _, _, hf, _ | .gd _ _ _, _, hf, _ | .hd _, _, hf, _ | .pt _ _, _, hf, _ => by simp [flatV] at hf
theorem shiftVs_rel {c c1 : Cfg} : ∀ (vs : List V) (us : List Value), flatVs vs = true → RelVs c1 vs us → RelVs (joinC c c1) (shiftVs c.st.length vs) us
  | [], us, _, h => by simpa only [shiftVs, RelVs] using h
  | v :: vs, us, hf, h => by
    simp only [flatVs, Bool.and_eq_true] at hf
    simp only [shiftVs, RelVs] at *
    obtain ⟨u, us', e, h1, h2⟩ := h
    exact ⟨u, us', e, shiftV_rel v u hf.1 h1, shiftVs_rel vs us' hf.2 h2⟩
end
def callB (sem : SemF) (args : List V) (st : List Ob) (K : V → List Ob → Prop) : Prop :=
  lendK args st fun args' => sem args' fun v obs => bif flatV v && obs.all flatOb then K (shiftV st.length v) (st ++ obs) else False
theorem callB_sound {P : Program} {f : FuncId} {sem : SemF} (h : SoundFn P f sem) {w0 : Base} {c : Cfg} {args : List V} {us : Array Value} {K : V → List Ob → Prop} (hr : Rel w0 c) (ha : RelVs c args us.toList) (hc : callB sem args c.st K) :
    Calls P f us c.w fun e w' => ∃ u v c', e = .returned u ∧ c'.w = w' ∧ Rel w0 c' ∧ Ext c c' ∧ RelV c' v u ∧ K v c'.st := by
  unfold callB at hc
  obtain ⟨args', he, hc⟩ := lendK_sound hr ha hc
  refine (h c.w _ args' us _ (fun b o hb => hb) he hc).mono fun e w' hh => ?_
  obtain ⟨u, v, c1, rfl, rfl, h1, h2, h3, h4⟩ := hh
  cases hfl : flatV v && c1.st.all flatOb with
  | false => rw [hfl] at h4; exact h4.elim
  | true =>
    rw [hfl] at h4
    simp only [Bool.and_eq_true] at hfl
    obtain ⟨g1, g2⟩ := join_rel hr h1 hfl.2
    exact ⟨u, _, joinC c c1, rfl, rfl, g1, g2, shiftV_rel v u hfl.1 h3, h4⟩
abbrev Ctx := FuncId → Option SemF
def SoundG (P : Program) (Γ : Ctx) : Prop := ∀ f sem, Γ f = some sem → SoundFn P f sem
abbrev CtxO := FuncId → Option (List Rs × SemO)
def SoundGO (P : Program) (Δ : CtxO) : Prop := ∀ f x, Δ f = some x → SoundO P f x.2
def callH (x : List Rs × SemO) (args : List V) (st : List Ob) (K : V → List Ob → Prop) : Prop :=
  match ownRs x.1 args st with
  | (args', st') => callO x.2 args' st' K
theorem callH_sound {P : Program} {f : FuncId} {x : List Rs × SemO} (h : SoundO P f x.2) {w0 : Base} {c : Cfg} {args : List V} {us : Array Value} {K : V → List Ob → Prop} (hr : Rel w0 c) (ha : RelVs c args us.toList) (hc : callH x args c.st K) :
    Calls P f us c.w fun e w' => ∃ u v c', e = .returned u ∧ c'.w = w' ∧ Rel w0 c' ∧ Ext c c' ∧ RelV c' v u ∧ K v c'.st := by
  unfold callH at hc
  obtain ⟨c1, e1, e2, g1, g2, g3⟩ := ownRs_sound x.1 args c hr
  have g4 := g3 _ ha
  split at hc
  next args' st' heq =>
  have ea : (ownRs x.1 args c.st).1 = args' := by rw [heq]
  have es : st' = c1.st := by rw [e2, heq]
  rw [ea] at g4
  rw [es] at hc
  rw [← e1]
  refine (callO_sound h g1 g4 hc).mono fun e w' hh => ?_
  obtain ⟨u, v, c', k1, k2, k3, k4, k5, k6⟩ := hh
  exact ⟨u, v, c', k1, k2, k3, g2.trans k4, k5, k6⟩
def mkC (P : Program) (Γ : Ctx) (Δ : CtxO) (D : Caller → List Oper → List V → List Ob → St → Prop) (anns : FuncId → Ann) : Nat → Caller
  | 0, f, args, st, K => match Γ f with
    | some sem => callB sem args st K
    | none => match Δ f with
      | some x => callH x args st K
      | none => False
  | n + 1, f, args, st, K => match Γ f with
    | some sem => callB sem args st K
    | none => match Δ f with
      | some x => callH x args st K
      | none => match P.funcs[f]? with
        | some fn => execF P (mkC P Γ Δ D anns n) (D (mkC P Γ Δ D anns n)) (anns f) fn args st K
        | none => False
theorem mkC_sound {P : Program} {Γ : Ctx} (hG : SoundG P Γ) {Δ : CtxO} (hΔ : SoundGO P Δ) {D : Caller → List Oper → List V → List Ob → St → Prop} (hD : ∀ C, SoundC P C → SoundD P (D C)) {anns : FuncId → Ann} (hk : ∀ N n f fn code, P.funcs[f]? = some fn → fn.body = some code → AnnOk P (mkC P Γ Δ D anns n) (D (mkC P Γ Δ D anns n)) N (anns f) code) : ∀ n, SoundC P (mkC P Γ Δ D anns n)
  | 0 => by
    intro w0 c f args us K hr ha h
    simp only [mkC] at h
    split at h
    · next sem hs => exact callB_sound (hG f sem hs) hr ha h
    · split at h
      · next x hx => exact callH_sound (hΔ f x hx) hr ha h
      · exact h.elim
  | n + 1 => by
    intro w0 c f args us K hr ha h
    simp only [mkC] at h
    split at h
    · next sem hs => exact callB_sound (hG f sem hs) hr ha h
    · split at h
      · next x hx => exact callH_sound (hΔ f x hx) hr ha h
      · split at h
        · next fn hf => exact fn_sound (mkC_sound hG hΔ hD hk n) (hD _ (mkC_sound hG hΔ hD hk n)) hf (fun code hb => hk c.st.length n f fn code hf hb) (Nat.le_refl _) hr ha h
        · exact h.elim
end Eng
end Go.Proofs.YtkpplfghhciacaaDoor
set_option linter.unusedVariables false
set_option linter.unusedSimpArgs false
namespace Go.Proofs.YtkpplfghhciacaaDoor
namespace Eng
open Go.RowKit
def R (P : Program) (C : Caller) (G : List Nat) (ops : List Oper) (o : Oper) (sl : List V) (st : List Ob) (kk : V → List Ob → Prop) : Prop :=
  match o.guard with
  | none => aop P C st [] (rdv sl) o.op fun v st' => kk (nogd v) st'
  | some (j, w) => match gslot ops j with
    | none => False
    | some g => match conds sl 8 g w with
      | none => False
      | some (fs, bs) =>
        if G.contains g = true then
          match aval P st fs (rdv sl) o.op, o.dst with
          | some (p, v), some d => if d = g then False else andG bs p (kk (.gd g w (nogd v)) st)
          | _, _ => bif okAll bs then aop P C st fs (rdv sl) o.op fun v st' => kk (nogd v) st' else kk (.x undef) st
        else False
section
variable {P : Program} {C : Caller} {G : List Nat} {ops : List Oper}
theorem aops_cons (o : Oper) (rest : List Oper) (sl : List V) (st : List Ob) (K : St) :
    aops P C G ops (o :: rest) sl st K = R P C G ops o sl st fun v st' => aops P C G ops rest (putS G o.dst v sl) st' K := by
  simp only [aops, R]
  cases hg : o.guard with
  | none => rfl
  | some jw =>
    obtain ⟨j, w⟩ := jw
    simp only
    cases gslot ops j with
    | none => rfl
    | some g =>
      simp only
      cases conds sl 8 g w with
      | none => rfl
      | some fb =>
        obtain ⟨fs, bs⟩ := fb
        simp only
        split
        · cases hd : o.dst with
          | none =>
            cases aval P st fs (rdv sl) o.op with
            | none => simp only
            | some pv => simp only
          | some d =>
            cases aval P st fs (rdv sl) o.op with
            | none => simp only
            | some pv => simp only
        · rfl
theorem astep_sound {w0 : Base} (hC : SoundC P C) {opa : Array Oper} {Q : Exit → Act → World → Prop} {o : Oper} {c : Cfg} {sl : List V} {a : Act} {k : St} (hr : Rel w0 c) (hs : SlR c sl a.tmps) (hg : GdIn G sl)
    (h : R P C G opa.toList o sl c.st fun v st' => k (putS G o.dst v sl) st') {next : Act → World → Prop}
    (hn : ∀ sl' c' a', Rel w0 c' → Ext c c' → SlR c' sl' a'.tmps → GdIn G sl' → a'.defers = a.defers → k sl' c'.st → next a' c'.w) :
    if Region.wanted o (yielded opa a.tmps) = true then o.wp P a c.w next Q else next (a.put o.dst undef) c.w := by
  have hput : ∀ (d : Option Nat) (u : Value), (a.put d u).defers = a.defers := fun d u => by cases d <;> rfl
  have hρ : ∀ gs x, (∀ g, g ∈ gs → a.eval (.tmp g.1) = .bool g.2) → RelV c (rdv sl gs x) (a.eval x) := fun gs x hgs => rdv_rel hs gs x hgs
  have run : ∀ fs : Facts, (∀ g, g ∈ fs → a.eval (.tmp g.1) = .bool g.2) → (aop P C c.st fs (rdv sl) o.op fun v st' => k (putS G o.dst (nogd v) sl) st') → o.wp P a c.w next Q := fun fs hfs h => by
    refine aop_sound hC hr hρ hfs h (fun v c' u h1 h2 h3 h4 => ?_)
    obtain ⟨g1, g2⟩ := putS_rel (a := a) (d := o.dst) (SlR.ext h2 hs) hg (nogd_hv h3)
    exact hn _ c' _ h1 h2 g1 g2 (hput _ _) h4
  simp only [R] at h
  split at h
  · next hgd =>
    have hw : Region.wanted o (yielded opa a.tmps) = true := by simp [Region.wanted, hgd]
    rw [if_pos hw]
    exact run [] (fun g hh => by simp at hh) h
  · next j w hgd =>
    split at h
    · exact h.elim
    · next g hgs =>
      have hwi := wanted_iff (tmps := a.tmps) hgd hgs
      split at h
      · exact h.elim
      · next fs bs hc =>
        obtain ⟨c1, c2⟩ := conds_sound hs 8 g w fs bs hc
        split at h
        · next hG =>
          have hGm : g ∈ G := by simpa using hG
          split at h
          · next p v d hv hd =>
            split at h
            · exact h.elim
            · next hne =>
              obtain ⟨hp, hk⟩ := andG_out h
              have next' : ∀ u, (a.tmps.getD g undef = .bool w → RelV c v u) → (a.tmps.getD g undef ≠ .bool w → u = undef) → next (a.put o.dst u) c.w := by
                intro u hu1 hu2
                obtain ⟨g1, g2⟩ := putS_rel (a := a) (d := some d) (v := .gd g w (nogd v)) (u := u) hs hg ⟨hGm, fun e => hne (by cases e; rfl), fun e => nogd_rel (hu1 e), hu2⟩
                rw [hd] at hk ⊢
                exact hn _ c _ hr (Ext.refl c) g1 g2 (hput _ _) hk
              by_cases hw : Region.wanted o (yielded opa a.tmps) = true
              · rw [if_pos hw]
                have hgw := hwi.1 hw
                obtain ⟨u, h1, h2⟩ := aval_sound (P := P) hr hρ (c2 hgw) hv (hp (c1.1 hgw))
                exact wp_value h1 (next' u (fun _ => h2) (fun e => absurd hgw e))
              · rw [if_neg hw]
                exact next' undef (fun e => absurd (hwi.2 e) hw) (fun _ => rfl)
          · by_cases hw : Region.wanted o (yielded opa a.tmps) = true
            · rw [if_pos hw]
              have hgw := hwi.1 hw
              rw [c1.1 hgw] at h
              exact run fs (c2 hgw) h
            · rw [if_neg hw]
              have hall : okAll bs = false := by
                cases hb : okAll bs with
                | false => rfl
                | true => exact absurd (hwi.2 (c1.2 hb)) hw
              rw [hall] at h
              obtain ⟨g1, g2⟩ := putS_rel (a := a) (d := o.dst) (v := .x undef) (u := undef) hs hg (by simp only [RelV])
              exact hn _ c _ hr (Ext.refl c) g1 g2 (hput _ _) h
        · exact h.elim
end
def callS (sem : SemF) (args : List V) (st : List Ob) (K : V → List Ob → Prop) : Prop :=
  lendK args st fun args' => sem args' fun v obs => match obs with
    | [] => bif flatV v then K (shiftV st.length v) st else False
    | _ => False
def Cs (Γ : Ctx) : Caller := fun f args st K => match Γ f with
  | some sem => ∃ k0 : V → Prop, (∀ v, k0 v → K v st) ∧ callS sem args st fun v _ => k0 v
  | none => False
theorem Cs_sound {P : Program} {Γ : Ctx} (hG : SoundG P Γ) : SoundC P (Cs Γ) := by
  intro w0 c f args us K hr ha h
  simp only [Cs] at h
  split at h
  · next sem hs =>
    obtain ⟨k0, hk, h⟩ := h
    unfold callS at h
    obtain ⟨args', he, h⟩ := lendK_sound hr ha h
    refine (hG f sem hs c.w _ args' us _ (fun b o hb => hb) he h).mono fun e w' hh => ?_
    obtain ⟨u, v, c1, rfl, rfl, h1, h2, h3, h4⟩ := hh
    split at h4
    · next hobs =>
      cases hfl : flatV v with
      | false => rw [hfl] at h4; exact h4.elim
      | true =>
        rw [hfl] at h4
        obtain ⟨g1, g2⟩ := join_rel hr h1 (by rw [hobs]; rfl)
        exact ⟨u, _, joinC c c1, rfl, rfl, g1, g2, shiftV_rel v u hfl h3, by simp only [joinC, hobs, List.append_nil]; exact hk _ h4⟩
    · exact h4.elim
  · exact h.elim
theorem Cs_mono {Γ : Ctx} {f : FuncId} {args : List V} {st : List Ob} {K K' : V → List Ob → Prop} (hk : ∀ v st', K v st' → K' v st') (h : Cs Γ f args st K) : Cs Γ f args st K' := by
  simp only [Cs] at *
  split at h
  · obtain ⟨k0, h1, h2⟩ := h
    exact ⟨k0, fun v hv => hk _ _ (h1 v hv), h2⟩
  · exact h
theorem Cs_still {Γ : Ctx} {f : FuncId} {args : List V} {st : List Ob} {K : V → List Ob → Prop} (h : Cs Γ f args st K) : Cs Γ f args st fun v st' => st' = st ∧ K v st' := by
  simp only [Cs] at *
  split at h
  · obtain ⟨k0, h1, h2⟩ := h
    exact ⟨k0, fun v hv => ⟨trivial, h1 v hv⟩, h2⟩
  · exact h
def up (C : Caller) : Caller := fun f args st K => ∃ k0 : V → List Ob → Prop, (∀ v st', k0 v st' → K v st') ∧ C f args st k0
theorem up_sound {P : Program} {C : Caller} (hC : SoundC P C) : SoundC P (up C) := by
  intro w0 c f args us K hr ha h
  obtain ⟨k0, hk, h⟩ := h
  refine (hC w0 c f args us k0 hr ha h).mono fun e w' hh => ?_
  obtain ⟨u, v, c', h1, h2, h3, h4, h5, h6⟩ := hh
  exact ⟨u, v, c', h1, h2, h3, h4, h5, hk _ _ h6⟩
def flatTy (P : Program) : Nat → TypeId → Bool
  | 0, _ => false
  | n + 1, t => match P.underlying t with
    | some (.int _) => true
    | some .bool => true
    | some .string => true
    | some (.struct fs) => fs.toList.all fun f => flatTy P n f.type
    | some (.array _ e) => flatTy P n e
    | _ => false
def stillF (P : Program) (Γ : Ctx) (f : FuncId) : Bool := (Γ f).isSome && (match P.funcs[f]? with
  | some fn => fn.resultTypes.toList.all (flatTy P 12)
  | none => false)
def Cx (P : Program) (C : Caller) (Γ : Ctx) : Caller := fun f args st K => if stillF P Γ f = true then Cs Γ f args st K else up C f args st K
theorem Cx_sound {P : Program} {C : Caller} (hC : SoundC P C) {Γ : Ctx} (hG : SoundG P Γ) : SoundC P (Cx P C Γ) := by
  intro w0 c f args us K hr ha h
  unfold Cx at h
  split at h
  · exact Cs_sound hG w0 c f args us K hr ha h
  · exact up_sound hC w0 c f args us K hr ha h
theorem Cx_mono {P : Program} {C : Caller} {Γ : Ctx} {f : FuncId} {args : List V} {st : List Ob} {K K' : V → List Ob → Prop} (hk : ∀ v st', K v st' → K' v st') (h : Cx P C Γ f args st K) : Cx P C Γ f args st K' := by
  unfold Cx at *
  split
  · next e => rw [if_pos e] at h; exact Cs_mono hk h
  · next e =>
    rw [if_neg e] at h
    obtain ⟨k0, h1, h2⟩ := h
    exact ⟨k0, fun v st' hv => hk _ _ (h1 v st' hv), h2⟩
theorem Cx_still {P : Program} {C : Caller} {Γ : Ctx} {f : FuncId} {args : List V} {st : List Ob} {K : V → List Ob → Prop} (hf : stillF P Γ f = true) (h : Cx P C Γ f args st K) : Cx P C Γ f args st fun v st' => st' = st ∧ K v st' := by
  unfold Cx at *
  rw [if_pos hf] at *
  exact Cs_still h
def pureK : Op → Bool
  | .slice _ _ _ _ none => true
  | .build _ _ | .nilCheck _ | .fieldAddr _ _ _ => true
  | .move _ | .assign _ | .binOp _ _ _ _ _ | .unOp _ _ _ | .convert _ _ _ | .makeFunc _ _ _ | .field _ _ _ | .index _ _ _ | .extract _ _ => true
  | .pick (.tmp _) _ _ => true
  | _ => false
def detK (o : Op) : Bool := pureK o || match o with
  | .load _ _ | .indexAddr _ _ _ => true
  | .call { callee := .builtin .len, .. } => true
  | .call { callee := .builtin .max, .. } => true
  | .call { callee := .builtin .min, .. } => true
  | _ => false
def stillK (P : Program) (Γ : Ctx) (o : Op) : Bool := detK o || match o with
  | .call { callee := .value (.func f), .. } => stillF P Γ f
  | _ => false
section
variable {P : Program} {C : Caller} {Γ : Ctx} {G : List Nat} {ops : List Oper}
def CLe (C1 C2 : Caller) : Prop := ∀ f args st (K K' : V → List Ob → Prop), (∀ v st', K v st' → K' v st') → C1 f args st K → C2 f args st K'
theorem bif_mono {b : Bool} {q q' : Prop} (hq : q → q') (h : bif b then q else False) : bif b then q' else False := by
  cases b with
  | true => exact hq h
  | false => exact h
theorem pappQ_mono {st : List Ob} {p : Nat} {m : Pool} {h : Hd} {ys : List ByteArray} {k k' : V → List Ob → Prop} (hk : ∀ v st', k v st' → k' v st') (hq : pappQ st p m h ys k) : pappQ st p m h ys k' := by
  unfold pappQ at *
  refine ⟨hq.1, hq.2.1, ?_⟩
  have h3 := hq.2.2
  cases hc : Nat.ble (h.n + ys.length) h.c with
  | true => rw [hc] at h3; exact hk _ _ h3
  | false => rw [hc] at h3; exact fun b cap g1 g2 => hk _ _ (h3 b cap g1 g2)
theorem aeff_le {C1 C2 : Caller} (hC : CLe C1 C2) {st : List Ob} {fs : Facts} {ρ : Facts → Operand → V} {o : Op} {k k' : V → List Ob → Prop} (hk : ∀ v st', k v st' → k' v st') (h : aeff P C1 st fs ρ o k) : aeff P C2 st fs ρ o k' := by
  have handO : ∀ (p : Option Prop) v st', andO p (k v st') → andO p (k' v st') := fun p v st' h => by
    cases p with
    | none => exact hk _ _ h
    | some p => exact ⟨h.1, hk _ _ h.2⟩
  have hst : ∀ st t a x, storeK P st t a x k → storeK P st t a x k' := fun st t a x h => by
    unfold storeK at *
    split at h
    · exact hk _ _ h
    · exact h
  have hpap : ∀ st ts a b, pappK P st ts a b k → pappK P st ts a b k' := fun st ts a b h => by
    unfold pappK at *
    split at h
    · split at h
      · exact bif_mono (pappQ_mono hk) h
      · exact h
    · exact h
  cases o with
  | pick c a b =>
    cases c with
    | tmp s =>
      simp only [aeff] at *
      split at h
      · next t _ => cases t <;> exact hk _ _ h
      · exact h
    | _ => simp [aeff] at h
  | alloc t => simp only [aeff] at *; split at h <;> first | exact hk _ _ h | exact h
  | box t x => simp only [aeff] at *; split at h <;> first | exact hk _ _ h | exact h
  | buildSlice t l p => simp only [aeff] at *; split at h <;> first | exact hk _ _ h | exact h
  | makeSlice t l c => simp only [aeff] at *; split at h <;> first | exact handO _ _ _ h | exact h
  | store t a x =>
    simp only [aeff] at *
    split at h
    · exact ⟨fun e => hst _ _ _ _ (h.1 e), fun b cap g1 g2 => hst _ _ _ _ (h.2 b cap g1 g2)⟩
    · split at h
      · exact hk _ _ h
      · split at h
        · exact handO _ _ _ h
        · split at h
          · exact handO _ _ _ h
          · exact h
  | call cl =>
    obtain ⟨callee, args, ts⟩ := cl
    cases callee with
    | builtin b =>
      cases b <;> first | (simp [aeff] at h; done) | skip
      all_goals
        simp only [aeff] at *
        split at h
        · split at h <;> first | exact handO _ _ _ h | exact hk _ _ h | exact hpap _ _ _ _ h | skip
          all_goals (split at h <;> first | exact handO _ _ _ h | exact h)
        · exact h
    | value f =>
      simp only [aeff] at *
      split at h
      · next g first captured e =>
        split at h
        · next hc => rw [if_pos hc]; exact hC _ _ _ _ _ hk h
        · exact h.elim
      · exact h.elim
    | _ => simp [aeff] at h
  | _ => simp [aeff] at h
theorem aop_le {C1 C2 : Caller} (hC : CLe C1 C2) {st : List Ob} {fs : Facts} {ρ : Facts → Operand → V} {o : Op} {k k' : V → List Ob → Prop} (hk : ∀ v st', k v st' → k' v st') (h : aop P C1 st fs ρ o k) : aop P C2 st fs ρ o k' := by
  unfold aop at *
  split at h
  · next p v _ =>
    cases p with
    | none => exact hk _ _ h
    | some p => exact ⟨h.1, hk _ _ h.2⟩
  · exact aeff_le hC hk h
theorem R_le {C1 C2 : Caller} (hC : CLe C1 C2) {o : Oper} {sl : List V} {st : List Ob} {k k' : V → List Ob → Prop} (hk : ∀ v st', k v st' → k' v st') (h : R P C1 G ops o sl st k) : R P C2 G ops o sl st k' := by
  cases hg : o.guard with
  | none => simp only [R, hg] at *; exact aop_le hC (fun v st' h => hk _ _ h) h
  | some jw =>
    obtain ⟨j, w⟩ := jw
    cases hgs : gslot ops j with
    | none => simp [R, hg, hgs] at h
    | some g =>
      cases hc : conds sl 8 g w with
      | none => simp [R, hg, hgs, hc] at h
      | some fb =>
        obtain ⟨fs, bs⟩ := fb
        by_cases hG : G.contains g = true
        · have alt : (bif okAll bs then aop P C1 st fs (rdv sl) o.op (fun v st' => k (nogd v) st') else k (.x undef) st) →
              (bif okAll bs then aop P C2 st fs (rdv sl) o.op (fun v st' => k' (nogd v) st') else k' (.x undef) st) := by
            cases okAll bs with
            | true => exact aop_le hC (fun v st' h => hk _ _ h)
            | false => exact hk _ _
          cases hd : o.dst with
          | none =>
            cases hv : aval P st fs (rdv sl) o.op with
            | none => simp only [R, hg, hgs, hc, hG, if_true, hd, hv] at *; exact alt h
            | some pv => simp only [R, hg, hgs, hc, hG, if_true, hd, hv] at *; exact alt h
          | some d =>
            cases hv : aval P st fs (rdv sl) o.op with
            | none => simp only [R, hg, hgs, hc, hG, if_true, hd, hv] at *; exact alt h
            | some pv =>
              obtain ⟨p, v⟩ := pv
              by_cases hdg : d = g
              · simp [R, hg, hgs, hc, hG, hd, hv, hdg] at h
              · simp only [R, hg, hgs, hc, hG, if_true, hd, hv, if_neg hdg] at *
                cases p with
                | none => exact hk _ _ h
                | some p => exact ⟨h.1, hk _ _ h.2⟩
        · simp only [R, hg, hgs, hc, if_neg hG] at h
theorem Cs_le : CLe (Cx P C Γ) (Cx P C Γ) := fun _ _ _ _ _ hk h => Cx_mono hk h
theorem aop_mono {st : List Ob} {fs : Facts} {ρ : Facts → Operand → V} {o : Op} {k k' : V → List Ob → Prop} (hk : ∀ v st', k v st' → k' v st') (h : aop P (Cx P C Γ) st fs ρ o k) : aop P (Cx P C Γ) st fs ρ o k' := aop_le Cs_le hk h
theorem R_mono {o : Oper} {sl : List V} {st : List Ob} {k k' : V → List Ob → Prop} (hk : ∀ v st', k v st' → k' v st') (h : R P (Cx P C Γ) G ops o sl st k) : R P (Cx P C Γ) G ops o sl st k' := R_le Cs_le hk h
def Cs0 (Γ : Ctx) : Caller := fun f args st K => match Γ f with
  | some sem => callS sem args st K
  | none => False
def Cx0 (P : Program) (C : Caller) (Γ : Ctx) : Caller := fun f args st K => if stillF P Γ f = true then Cs0 Γ f args st K else C f args st K
theorem Cs0_le : CLe (Cs0 Γ) (Cs Γ) := by
  intro f args st K K' hk h
  simp only [Cs0, Cs] at *
  split at h
  · exact ⟨fun v => K v st, fun v hv => hk v st hv, h⟩
  · exact h.elim
theorem Cx0_le : CLe (Cx0 P C Γ) (Cx P C Γ) := by
  intro f args st K K' hk h
  unfold Cx0 at h
  unfold Cx
  split
  · next e => rw [if_pos e] at h; exact Cs0_le f args st K K' hk h
  · next e => rw [if_neg e] at h; exact ⟨K, hk, h⟩
theorem aops_le {C1 C2 : Caller} (hC : CLe C1 C2) : ∀ (l : List Oper) (sl : List V) (st : List Ob) (K : St), aops P C1 G ops l sl st K → aops P C2 G ops l sl st K
  | [], _, _, _, h => h
  | o :: l, sl, st, K, h => by
    rw [aops_cons] at *
    exact R_le hC (fun v st' h => aops_le hC l _ _ K h) h
theorem aops_mono : ∀ (l : List Oper) (sl : List V) (st : List Ob) (K K' : St), (∀ sl st, K sl st → K' sl st) → aops P (Cx P C Γ) G ops l sl st K → aops P (Cx P C Γ) G ops l sl st K'
  | [], _, _, _, _, hk, h => hk _ _ h
  | o :: l, sl, st, K, K', hk, h => by
    rw [aops_cons] at *
    exact R_mono (fun v st' h => aops_mono l _ _ K K' hk h) h
def Det (P : Program) (C : Caller) (Γ : Ctx) (G : List Nat) (ops : List Oper) (o : Oper) (sl : List V) (st : List Ob) (p : Prop) (v : V) : Prop :=
  ∀ kk, R P (Cx P C Γ) G ops o sl st kk ↔ (p ∧ kk v st)
theorem aop_det {st : List Ob} {fs : Facts} {ρ : Facts → Operand → V} {o : Op} (h : detK o = true) : ∃ (p : Prop) (v : V), ∀ kk : V → List Ob → Prop, aop P (Cx P C Γ) st fs ρ o kk ↔ (p ∧ kk v st) := by
  cases hv : aval P st fs ρ o with
  | some pv =>
    obtain ⟨p, v⟩ := pv
    refine ⟨vc p, v, fun kk => ?_⟩
    unfold aop
    rw [hv]
    cases p with
    | none => simp [andO, vc]
    | some p => simp [andO, vc]
  | none =>
    have hf : ∀ kk : V → List Ob → Prop, aop P (Cx P C Γ) st fs ρ o kk = aeff P (Cx P C Γ) st fs ρ o kk := fun kk => by unfold aop; rw [hv]
    simp only [hf]
    cases o with
    | pick c a b =>
      cases c with
      | tmp s =>
        simp only [aeff]
        split
        · next t _ =>
          cases t
          · exact ⟨True, _, fun kk => by simp; rfl⟩
          · exact ⟨True, _, fun kk => by simp; rfl⟩
        · exact ⟨False, .any, fun kk => by simp⟩
      | _ => simp [detK, pureK] at h
    | call cl =>
      obtain ⟨callee, args, ts⟩ := cl
      cases callee with
      | builtin b => cases b <;> first | (simp [detK, pureK] at h; done) | exact ⟨False, .any, fun kk => by simp [aeff]⟩
      | _ => simp [detK, pureK] at h
    | _ => first | (simp [detK, pureK] at h; done) | exact ⟨False, .any, fun kk => by simp [aeff]⟩
theorem R_det {o : Oper} (h : detK o.op = true) (sl : List V) (st : List Ob) : ∃ p v, Det P C Γ G ops o sl st p v := by
  unfold Det
  cases hg : o.guard with
  | none =>
    obtain ⟨p, v, hpv⟩ := aop_det (P := P) (C := C) (Γ := Γ) (st := st) (fs := []) (ρ := rdv sl) h
    exact ⟨p, nogd v, fun kk => by simp only [R, hg]; exact hpv _⟩
  | some jw =>
    obtain ⟨j, w⟩ := jw
    cases hgs : gslot ops j with
    | none => exact ⟨False, .any, fun kk => by simp [R, hg, hgs]⟩
    | some g =>
      cases hc : conds sl 8 g w with
      | none => exact ⟨False, .any, fun kk => by simp [R, hg, hgs, hc]⟩
      | some fb =>
        obtain ⟨fs, bs⟩ := fb
        by_cases hG : G.contains g = true
        · have alt : ∃ (p : Prop) (v : V), ∀ kk : V → List Ob → Prop, (bif okAll bs then aop P (Cx P C Γ) st fs (rdv sl) o.op (fun v st' => kk (nogd v) st') else kk (.x undef) st) ↔ (p ∧ kk v st) := by
            cases okAll bs with
            | true =>
              obtain ⟨p, v, hpv⟩ := aop_det (P := P) (C := C) (Γ := Γ) (st := st) (fs := fs) (ρ := rdv sl) h
              exact ⟨p, nogd v, fun kk => hpv _⟩
            | false => exact ⟨True, .x undef, fun kk => by simp⟩
          cases hd : o.dst with
          | none =>
            obtain ⟨p, v, hpv⟩ := alt
            refine ⟨p, v, fun kk => ?_⟩
            rw [← hpv kk]
            cases hv : aval P st fs (rdv sl) o.op with
            | none => simp only [R, hg, hgs, hc, hG, if_true, hd, hv]
            | some pv => simp only [R, hg, hgs, hc, hG, if_true, hd, hv]
          | some d =>
            cases hv : aval P st fs (rdv sl) o.op with
            | none =>
              obtain ⟨p, v, hpv⟩ := alt
              refine ⟨p, v, fun kk => ?_⟩
              rw [← hpv kk]
              simp only [R, hg, hgs, hc, hG, if_true, hd, hv]
            | some pv =>
              obtain ⟨p, v⟩ := pv
              by_cases hdg : d = g
              · exact ⟨False, .any, fun kk => by simp [R, hg, hgs, hc, hG, hd, hv, hdg]⟩
              · cases p with
                | none => exact ⟨True, .gd g w (nogd v), fun kk => by simp only [R, hg, hgs, hc, hG, if_true, hd, hv, if_neg hdg, andG, true_and]⟩
                | some p => exact ⟨imps bs p, .gd g w (nogd v), fun kk => by simp only [R, hg, hgs, hc, hG, if_true, hd, hv, if_neg hdg, andG]⟩
        · exact ⟨False, .any, fun kk => by simp only [R, hg, hgs, hc, if_neg hG, false_and]⟩
end
end Eng
end Go.Proofs.YtkpplfghhciacaaDoor
set_option linter.unusedVariables false
set_option linter.unusedSimpArgs false
namespace Go.Proofs.YtkpplfghhciacaaDoor
namespace Eng
open Go.RowKit
def gch (ops : List Oper) : Nat → Nat → List Nat
  | 0, t => [t]
  | n + 1, t => t :: ops.flatMap fun o => if o.dst = some t then (match o.guard with
    | some (j, _) => (match gslot ops j with
      | some g => gch ops n g
      | none => [])
    | none => []) else []
def tmpsOf (o : Op) : List Nat := o.operands.toList.filterMap fun | .tmp t => some t | _ => none
def gsOf (ops : List Oper) (o : Oper) : List Nat := match o.guard with
  | some (j, _) => (match gslot ops j with
    | some g => [g]
    | none => [])
  | none => []
def LK (ops : List Oper) (n : Nat) (o : Oper) : List Nat := (tmpsOf o.op ++ gsOf ops o).flatMap (gch ops n)
def GdS (ops : List Oper) (sl : List V) : Prop := ∀ t g w v, sl.getD t .any = .gd g w v → ∃ o, o ∈ ops ∧ o.dst = some t ∧ g ∈ gsOf ops o
theorem gch_self (ops : List Oper) (n t : Nat) : t ∈ gch ops n t := by cases n <;> simp [gch]
theorem gch_next {ops : List Oper} {o : Oper} {t g : Nat} (ho : o ∈ ops) (hd : o.dst = some t) (hg : g ∈ gsOf ops o) (n : Nat) : ∀ x, x ∈ gch ops n g → x ∈ gch ops (n + 1) t := by
  intro x hx
  simp only [gch, List.mem_cons, List.mem_flatMap]
  refine .inr ⟨o, ho, ?_⟩
  rw [if_pos hd]
  cases hgd : o.guard with
  | none => simp [gsOf, hgd] at hg
  | some jw =>
    obtain ⟨j, w⟩ := jw
    cases hgs : gslot ops j with
    | none => simp [gsOf, hgd, hgs] at hg
    | some g' =>
      simp only [gsOf, hgd, hgs, List.mem_singleton] at hg
      subst hg
      simp only [hgs]
      exact hx
theorem gch_mono {ops : List Oper} : ∀ (n t x : Nat), x ∈ gch ops n t → x ∈ gch ops (n + 1) t
  | 0, t, x, h => by simp only [gch, List.mem_singleton] at h; subst h; exact gch_self _ _ _
  | n + 1, t, x, h => by
    rw [gch] at h ⊢
    simp only [List.mem_cons, List.mem_flatMap] at h ⊢
    rcases h with h | ⟨o, ho, h⟩
    · exact .inl h
    · refine .inr ⟨o, ho, ?_⟩
      split at h
      · next hd =>
        rw [if_pos hd]
        cases hgd : o.guard with
        | none => simp [hgd] at h
        | some jw =>
          obtain ⟨j, w⟩ := jw
          cases hgs : gslot ops j with
          | none => simp [hgd, hgs] at h
          | some g =>
            simp only [hgd, hgs] at h ⊢
            exact gch_mono n g x h
      · simp at h
theorem gch_step {ops : List Oper} : ∀ (n t x : Nat) (o : Oper) (g : Nat), x ∈ gch ops n t → o ∈ ops → o.dst = some x → g ∈ gsOf ops o → g ∈ gch ops (n + 1) t
  | 0, t, x, o, g, h, ho, hd, hg => by
    simp only [gch, List.mem_singleton] at h
    subst h
    exact gch_next ho hd hg 0 g (gch_self _ _ _)
  | n + 1, t, x, o, g, h, ho, hd, hg => by
    have h0 := h
    rw [gch] at h
    simp only [List.mem_cons, List.mem_flatMap] at h
    rcases h with rfl | ⟨o', ho', h⟩
    · exact gch_next ho hd hg _ g (gch_self _ _ _)
    · rw [gch]
      simp only [List.mem_cons, List.mem_flatMap]
      refine .inr ⟨o', ho', ?_⟩
      split at h
      · next hd' =>
        rw [if_pos hd']
        cases hgd : o'.guard with
        | none => simp [hgd] at h
        | some jw =>
          obtain ⟨j, w⟩ := jw
          cases hgs : gslot ops j with
          | none => simp [hgd, hgs] at h
          | some g' =>
            simp only [hgd, hgs] at h ⊢
            exact gch_step n g' x o g h ho hd hg
      · simp at h
def Alike (ops : List Oper) (o : Oper) (sl1 sl2 : List V) : Prop := ∀ t, t ∈ LK ops 8 o → sl1.getD t .any = sl2.getD t .any
theorem conds_congr {ops : List Oper} {sl1 sl2 : List V} (hs : GdS ops sl1) : ∀ (n g : Nat) (w : Bool), (∀ t, t ∈ gch ops n g → sl1.getD t .any = sl2.getD t .any) → conds sl1 n g w = conds sl2 n g w
  | 0, _, _, _ => rfl
  | n + 1, g, w, h => by
    have h0 := h g (gch_self _ _ _)
    simp only [conds]
    rw [← h0]
    split
    · rfl
    · rfl
    · next g' w' b e =>
      obtain ⟨o, ho, hd, hg⟩ := hs g g' w' _ e
      rw [conds_congr hs n g' w' fun t ht => h t (gch_next ho hd hg n t ht)]
    · next g' w' b e =>
      obtain ⟨o, ho, hd, hg⟩ := hs g g' w' _ e
      rw [conds_congr hs n g' w' fun t ht => h t (gch_next ho hd hg n t ht)]
    · rfl
theorem mem_LK {ops : List Oper} {o : Oper} {t : Nat} (h : t ∈ tmpsOf o.op ++ gsOf ops o) (n : Nat) : ∀ x, x ∈ gch ops n t → x ∈ LK ops n o := fun x hx => List.mem_flatMap.2 ⟨t, h, hx⟩
section
variable {P : Program} {C : Caller} {Γ : Ctx} {G : List Nat} {ops : List Oper}
theorem aval_congr {st : List Ob} {fs : Facts} {ρ1 ρ2 : Facts → Operand → V} {o : Op} (h : ∀ gs x, x ∈ o.operands.toList → ρ1 gs x = ρ2 gs x) : aval P st fs ρ1 o = aval P st fs ρ2 o := by
  have hmap : ∀ (l : List Operand), (∀ x, x ∈ l → x ∈ o.operands.toList) → l.map (ρ1 fs) = l.map (ρ2 fs) := fun l hl => List.map_congr_left fun x hx => h fs x (hl x hx)
  cases o with
  | pick c a b =>
    cases c <;> first | rfl | skip
    next s => simp only [aval]; rw [h fs (.tmp s) (by simp [Op.operands]), h ((s, true) :: fs) a (by simp [Op.operands]), h ((s, false) :: fs) b (by simp [Op.operands])]
  | makeFunc f a b => simp only [aval]; rw [hmap a.toList (by simp [Op.operands]; intro x hx; exact .inl hx), hmap b.toList (by simp [Op.operands]; intro x hx; exact .inr hx)]
  | build t parts =>
    simp only [aval]
    have : (parts.toList.map fun p => (p.1, ρ1 fs p.2)) = parts.toList.map fun p => (p.1, ρ2 fs p.2) := List.map_congr_left fun p hp => by
      rw [h fs p.2 (by simp only [Op.operands]; exact List.mem_map.2 ⟨p, hp, rfl⟩)]
    rw [this]
  | slice t x lo hi mx =>
    cases mx <;> first | rfl | skip
    simp only [aval]
    have h1 : lo.map (ρ1 fs) = lo.map (ρ2 fs) := by cases lo with
      | none => rfl
      | some v => simp only [Option.map_some]; rw [h fs v (by simp [Op.operands])]
    have h2 : hi.map (ρ1 fs) = hi.map (ρ2 fs) := by cases hi with
      | none => rfl
      | some v => simp only [Option.map_some]; rw [h fs v (by simp [Op.operands])]
    rw [h1, h2, h fs x (by simp [Op.operands])]
  | call cl =>
    obtain ⟨callee, args, ts⟩ := cl
    cases callee <;> first | rfl | skip
    simp only [aval]
    rw [hmap args.toList (by simp [Op.operands, Call.operands])]
  | move x | assign x | load t x | nilCheck x | unOp _ _ x | convert _ _ x | fieldAddr _ x _ | field _ x _ | extract x _ => simp only [aval]; rw [h fs x (by simp [Op.operands])]
  | binOp _ _ x y _ | indexAddr _ x y | index _ x y => simp only [aval]; rw [h fs x (by simp [Op.operands]), h fs y (by simp [Op.operands])]
  | _ => rfl
theorem aeff_congr {C : Caller} {st : List Ob} {fs : Facts} {ρ1 ρ2 : Facts → Operand → V} {o : Op} (h : ∀ gs x, x ∈ o.operands.toList → ρ1 gs x = ρ2 gs x) (k : V → List Ob → Prop) : aeff P C st fs ρ1 o k = aeff P C st fs ρ2 o k := by
  have hmap : ∀ (l : List Operand), (∀ x, x ∈ l → x ∈ o.operands.toList) → l.map (ρ1 fs) = l.map (ρ2 fs) := fun l hl => List.map_congr_left fun x hx => h fs x (hl x hx)
  cases o with
  | pick c a b =>
    cases c <;> first | rfl | skip
    next s => simp only [aeff]; rw [h fs (.tmp s) (by simp [Op.operands]), h ((s, true) :: fs) a (by simp [Op.operands]), h ((s, false) :: fs) b (by simp [Op.operands])]
  | buildSlice t n parts =>
    simp only [aeff]
    have : (parts.toList.map fun p => (p.1, ρ1 fs p.2)) = parts.toList.map fun p => (p.1, ρ2 fs p.2) := List.map_congr_left fun p hp => by
      rw [h fs p.2 (by simp only [Op.operands]; exact List.mem_map.2 ⟨p, hp, rfl⟩)]
    rw [this]
  | call cl =>
    obtain ⟨callee, args, ts⟩ := cl
    cases callee with
    | builtin b =>
      cases b <;> first | rfl | skip
      rotate_left
      · simp only [aeff]
        cases ha : args.toList with
        | nil => rfl
        | cons x r =>
          cases r with
          | nil =>
            have hx : x ∈ args.toList := by rw [ha]; simp
            have e := h fs x (by simpa [Op.operands, Call.operands] using hx)
            cases ts.toList with
            | nil => rfl
            | cons t q =>
              cases q with
              | nil => simp only; rw [e]
              | cons t' q' => rfl
          | cons y r' => rfl
      simp only [aeff]
      cases ha : args.toList with
      | nil => rfl
      | cons x r =>
        cases r with
        | nil => rfl
        | cons y r' =>
          cases r' with
          | nil =>
            have hx : x ∈ args.toList := by rw [ha]; simp
            have hy : y ∈ args.toList := by rw [ha]; simp
            simp only
            rw [h fs x (by simpa [Op.operands, Call.operands] using hx), h fs y (by simpa [Op.operands, Call.operands] using hy)]
          | cons z r'' => rfl
    | value f =>
      simp only [aeff]
      rw [hmap args.toList (by simp [Op.operands, Call.operands]; intro x hx; exact .inr hx), h fs f (by simp [Op.operands, Call.operands])]
    | _ => rfl
  | alloc t => rfl
  | box t x => simp only [aeff]; rw [h fs x (by simp [Op.operands])]
  | makeSlice _ x y | store _ x y => simp only [aeff]; rw [h fs x (by simp [Op.operands]), h fs y (by simp [Op.operands])]
  | _ => rfl
theorem aop_congr {C : Caller} {st : List Ob} {fs : Facts} {ρ1 ρ2 : Facts → Operand → V} {o : Op} (h : ∀ gs x, x ∈ o.operands.toList → ρ1 gs x = ρ2 gs x) (k : V → List Ob → Prop) : aop P C st fs ρ1 o k = aop P C st fs ρ2 o k := by
  unfold aop
  rw [aval_congr h, aeff_congr h]
theorem rdv_congr {o : Oper} {sl1 sl2 : List V} (h : Alike ops o sl1 sl2) (gs : Facts) (x : Operand) (hx : x ∈ o.op.operands.toList) : rdv sl1 gs x = rdv sl2 gs x := by
  cases x with
  | tmp t =>
    have ht : t ∈ tmpsOf o.op := List.mem_filterMap.2 ⟨.tmp t, hx, rfl⟩
    have := h t (mem_LK (List.mem_append_left _ ht) 8 t (gch_self _ _ _))
    simp only [rdv]
    rw [this]
  | _ => rfl
theorem R_congr {C : Caller} {o : Oper} {sl1 sl2 : List V} {st : List Ob} (h : Alike ops o sl1 sl2) (hs : GdS ops sl1) (kk : V → List Ob → Prop) : R P C G ops o sl1 st kk = R P C G ops o sl2 st kk := by
  have hr := rdv_congr h
  unfold R
  cases hg : o.guard with
  | none => exact aop_congr hr _
  | some jw =>
    obtain ⟨j, w⟩ := jw
    simp only
    cases hgs : gslot ops j with
    | none => rfl
    | some g =>
      have hgm : g ∈ tmpsOf o.op ++ gsOf ops o := List.mem_append_right _ (by simp [gsOf, hg, hgs])
      have hc := conds_congr hs 8 g w fun t ht => h t (mem_LK hgm 8 t ht)
      simp only
      rw [hc]
      cases conds sl2 8 g w with
      | none => rfl
      | some fb =>
        obtain ⟨fs, bs⟩ := fb
        simp only
        rw [aval_congr hr, aop_congr hr]
def okv (ops : List Oper) (o : Oper) (v : V) : Prop := ∀ g w x, v = .gd g w x → g ∈ gsOf ops o
theorem R_okv {o : Oper} {sl : List V} {st : List Ob} {kk : V → List Ob → Prop} (h : R P (Cx P C Γ) G ops o sl st kk) : R P (Cx P C Γ) G ops o sl st fun v st' => okv ops o v ∧ kk v st' := by
  have hn : ∀ v : V, okv ops o (nogd v) := fun v g w x e => absurd e nogd_ne
  cases hg : o.guard with
  | none => simp only [R, hg] at *; exact aop_mono (fun v st' h => ⟨hn v, h⟩) h
  | some jw =>
    obtain ⟨j, w⟩ := jw
    cases hgs : gslot ops j with
    | none => simp [R, hg, hgs] at h
    | some g =>
      have hgd : ∀ x, okv ops o (.gd g w x) := fun x g' w' x' e => by cases e; simp [gsOf, hg, hgs]
      cases hc : conds sl 8 g w with
      | none => simp [R, hg, hgs, hc] at h
      | some fb =>
        obtain ⟨fs, bs⟩ := fb
        by_cases hG : G.contains g = true
        · have alt : (bif okAll bs then aop P (Cx P C Γ) st fs (rdv sl) o.op (fun v st' => kk (nogd v) st') else kk (.x undef) st) →
              (bif okAll bs then aop P (Cx P C Γ) st fs (rdv sl) o.op (fun v st' => okv ops o (nogd v) ∧ kk (nogd v) st') else okv ops o (.x undef) ∧ kk (.x undef) st) := by
            cases okAll bs with
            | true => intro h; simp only [cond_true] at h ⊢; exact aop_mono (fun v st' h => ⟨hn v, h⟩) h
            | false =>
              intro h
              refine ⟨?_, h⟩
              intro g' w' x e
              cases e
          cases hd : o.dst with
          | none =>
            cases hv : aval P st fs (rdv sl) o.op with
            | none => simp only [R, hg, hgs, hc, hG, if_true, hd, hv] at *; exact alt h
            | some pv => simp only [R, hg, hgs, hc, hG, if_true, hd, hv] at *; exact alt h
          | some d =>
            cases hv : aval P st fs (rdv sl) o.op with
            | none => simp only [R, hg, hgs, hc, hG, if_true, hd, hv] at *; exact alt h
            | some pv =>
              obtain ⟨p, v⟩ := pv
              by_cases hdg : d = g
              · simp [R, hg, hgs, hc, hG, hd, hv, hdg] at h
              · simp only [R, hg, hgs, hc, hG, if_true, hd, hv, if_neg hdg] at *
                cases p with
                | none => exact ⟨hgd _, h⟩
                | some p => exact ⟨h.1, hgd _, h.2⟩
        · simp only [R, hg, hgs, hc, if_neg hG] at h
theorem aop_still {st : List Ob} {fs : Facts} {sl : List V} {o : Op} (hk : stillK P Γ o = true) {k : V → List Ob → Prop} (h : aop P (Cx P C Γ) st fs (rdv sl) o k) : aop P (Cx P C Γ) st fs (rdv sl) o fun v st' => st' = st ∧ k v st' := by
  by_cases hd : detK o = true
  · obtain ⟨p, v, hpv⟩ := aop_det (P := P) (C := C) (Γ := Γ) (st := st) (fs := fs) (ρ := rdv sl) hd
    exact (hpv _).2 ⟨((hpv _).1 h).1, rfl, ((hpv _).1 h).2⟩
  · simp only [stillK, Bool.or_eq_true] at hk
    rcases hk with hk | hk
    · exact absurd hk hd
    · cases o with
      | call cl =>
        obtain ⟨callee, args, ts⟩ := cl
        cases callee with
        | value f =>
          cases f with
          | func f =>
            simp only at hk
            simp only [aop, aval, aeff, rdv] at h ⊢
            split at h
            · next hc => simp only [hc, if_true]; exact Cx_still hk h
            · exact h.elim
          | _ => simp at hk
        | _ => simp at hk
      | _ => simp at hk
theorem R_still {o : Oper} (hk : stillK P Γ o.op = true) {sl : List V} {st : List Ob} {kk : V → List Ob → Prop} (h : R P (Cx P C Γ) G ops o sl st kk) : R P (Cx P C Γ) G ops o sl st fun v st' => st' = st ∧ kk v st' := by
  cases hg : o.guard with
  | none => simp only [R, hg] at *; exact aop_still hk h
  | some jw =>
    obtain ⟨j, w⟩ := jw
    cases hgs : gslot ops j with
    | none => simp [R, hg, hgs] at h
    | some g =>
      cases hc : conds sl 8 g w with
      | none => simp [R, hg, hgs, hc] at h
      | some fb =>
        obtain ⟨fs, bs⟩ := fb
        by_cases hG : G.contains g = true
        · have alt : (bif okAll bs then aop P (Cx P C Γ) st fs (rdv sl) o.op (fun v st' => kk (nogd v) st') else kk (.x undef) st) →
              (bif okAll bs then aop P (Cx P C Γ) st fs (rdv sl) o.op (fun v st' => st' = st ∧ kk (nogd v) st') else st = st ∧ kk (.x undef) st) := by
            cases okAll bs with
            | true => exact aop_still hk
            | false => exact fun h => ⟨rfl, h⟩
          cases hd : o.dst with
          | none =>
            cases hv : aval P st fs (rdv sl) o.op with
            | none => simp only [R, hg, hgs, hc, hG, if_true, hd, hv] at *; exact alt h
            | some pv => simp only [R, hg, hgs, hc, hG, if_true, hd, hv] at *; exact alt h
          | some d =>
            cases hv : aval P st fs (rdv sl) o.op with
            | none => simp only [R, hg, hgs, hc, hG, if_true, hd, hv] at *; exact alt h
            | some pv =>
              obtain ⟨p, v⟩ := pv
              by_cases hdg : d = g
              · simp [R, hg, hgs, hc, hG, hd, hv, hdg] at h
              · simp only [R, hg, hgs, hc, hG, if_true, hd, hv, if_neg hdg] at *
                cases p with
                | none => exact ⟨trivial, h⟩
                | some p => exact ⟨h.1, trivial, h.2⟩
        · simp only [R, hg, hgs, hc, if_neg hG] at h
theorem aval_pure {st st2 : List Ob} {fs : Facts} {ρ : Facts → Operand → V} {o : Op} (hk : pureK o = true) : aval P st fs ρ o = aval P st2 fs ρ o := by
  cases o <;> first | (simp [pureK] at hk; done) | rfl | skip
  · next c a b => cases c <;> first | (simp [pureK] at hk; done) | rfl
  · next x t lo hi mx => cases mx <;> first | (simp [pureK] at hk; done) | rfl
theorem aop_pure {C : Caller} {st st2 : List Ob} {fs : Facts} {ρ : Facts → Operand → V} {o : Op} (hk : pureK o = true) (k : V → List Ob → Prop) : aop P C st2 fs ρ o k ↔ aop P C st fs ρ o fun v _ => k v st2 := by
  unfold aop
  rw [aval_pure (st := st2) (st2 := st) hk]
  cases aval P st fs ρ o with
  | some pv => exact Iff.rfl
  | none =>
    cases o <;> first | (simp [pureK] at hk; done) | exact Iff.rfl | skip
    · next c a b => cases c <;> first | (simp [pureK] at hk; done) | exact Iff.rfl
theorem R_pure {C : Caller} {o : Oper} (hk : pureK o.op = true) (sl : List V) (st st2 : List Ob) (kk : V → List Ob → Prop) : R P C G ops o sl st2 kk ↔ R P C G ops o sl st fun v _ => kk v st2 := by
  unfold R
  cases hg : o.guard with
  | none => exact aop_pure hk _
  | some jw =>
    obtain ⟨j, w⟩ := jw
    simp only
    cases hgs : gslot ops j with
    | none => exact Iff.rfl
    | some g =>
      simp only
      cases hc : conds sl 8 g w with
      | none => exact Iff.rfl
      | some fb =>
        obtain ⟨fs, bs⟩ := fb
        simp only
        rw [aval_pure (st := st2) (st2 := st) hk]
        split
        · split
          · exact Iff.rfl
          · cases okAll bs with
            | true => exact aop_pure hk _
            | false => exact Iff.rfl
        · exact Iff.rfl
theorem putS_get (d : Option Nat) (v : V) (sl : List V) (t : Nat) : (putS G d v sl).getD t .any = if d = some t ∧ t < sl.length then v else (match d with | some d => if G.contains d = true then ungd d (sl.getD t .any) else sl.getD t .any | none => sl.getD t .any) := by
  cases d with
  | none => simp [putS]
  | some d =>
    simp only [putS]
    split
    · next hG =>
      rw [getD_set, getD_map_ungd]
      by_cases h : d = t
      · subst h; simp
      · have : ¬ (some d = some t ∧ t < sl.length) := fun e => h (by cases e.1; rfl)
        rw [if_neg this, if_neg (fun e => h e.1)]
    · rw [getD_set]
      by_cases h : d = t
      · subst h; simp
      · have : ¬ (some d = some t ∧ t < sl.length) := fun e => h (by cases e.1; rfl)
        rw [if_neg this, if_neg (fun e => h e.1)]
theorem putS_len (d : Option Nat) (v : V) (sl : List V) : (putS G d v sl).length = sl.length := by
  cases d with
  | none => rfl
  | some d => simp only [putS]; split <;> simp
theorem list_ext {a b : List V} (hl : a.length = b.length) (h : ∀ t, a.getD t .any = b.getD t .any) : a = b := by
  apply List.ext_getElem hl
  intro i h1 h2
  have := h i
  simpa [List.getD, List.getElem?_eq_getElem h1, List.getElem?_eq_getElem h2] using this
structure Apart (ops : List Oper) (o1 o2 : Oper) : Prop where
  h1 : ∀ d, o1.dst = some d → d ∉ LK ops 9 o2
  h2 : ∀ d, o2.dst = some d → d ∉ LK ops 9 o1
  h3 : ∀ d, o1.dst = some d → o2.dst ≠ some d
theorem LK_mono {o : Oper} {t : Nat} (h : t ∈ LK ops 8 o) : t ∈ LK ops 9 o := by
  obtain ⟨x, hx, ht⟩ := List.mem_flatMap.1 h
  exact List.mem_flatMap.2 ⟨x, hx, gch_mono 8 x t ht⟩
theorem LK_step {o o' : Oper} {t g : Nat} (h : t ∈ LK ops 8 o) (ho : o' ∈ ops) (hd : o'.dst = some t) (hg : g ∈ gsOf ops o') : g ∈ LK ops 9 o := by
  obtain ⟨x, hx, ht⟩ := List.mem_flatMap.1 h
  exact List.mem_flatMap.2 ⟨x, hx, gch_step 8 x t o' g ht ho hd hg⟩
theorem gs_LK {o : Oper} {g : Nat} (h : g ∈ gsOf ops o) : g ∈ LK ops 9 o := List.mem_flatMap.2 ⟨g, List.mem_append_right _ h, gch_self _ _ _⟩
theorem alike_put {o1 o2 : Oper} (ha : Apart ops o1 o2) {sl : List V} (hs : GdS ops sl) (v : V) : Alike ops o2 (putS G o1.dst v sl) sl := by
  intro t ht
  rw [putS_get]
  cases hd : o1.dst with
  | none => simp
  | some d =>
    have hne : d ≠ t := fun e => ha.h1 d hd (e ▸ LK_mono ht)
    have : ¬ (some d = some t ∧ t < sl.length) := fun e => hne (by cases e.1; rfl)
    rw [if_neg this]
    simp only
    split
    · cases hst : sl.getD t .any with
      | gd g w x =>
        obtain ⟨o', ho, hd', hg⟩ := hs t g w x hst
        have hg9 := LK_step ht ho hd' hg
        have : g ≠ d := fun e => ha.h1 d hd (e ▸ hg9)
        simp only [ungd, if_neg this]
      | _ => rfl
    · rfl
theorem gds_put {o : Oper} (ho : o ∈ ops) {sl : List V} (hs : GdS ops sl) {v : V} (hv : okv ops o v) : GdS ops (putS G o.dst v sl) := by
  intro t g w x e
  rw [putS_get] at e
  split at e
  · next h => exact ⟨o, ho, h.1, hv g w x e⟩
  · split at e
    · split at e
      · cases hst : sl.getD t .any with
        | gd g' w' x' =>
          rw [hst] at e
          simp only [ungd] at e
          split at e
          · cases e
          · cases e; exact hs t g w x hst
        | _ => rw [hst] at e; simp [ungd] at e
      · exact hs t g w x e
    · exact hs t g w x e
theorem ungd_ungd (d d' : Nat) (v : V) : ungd d (ungd d' v) = ungd d' (ungd d v) := by
  cases v with
  | gd g w x =>
    have e : ∀ (a : Nat), ungd a (.gd g w x) = if g = a then .any else .gd g w x := fun _ => rfl
    have e0 : ∀ (a : Nat), ungd a .any = .any := fun _ => rfl
    rw [e, e]
    by_cases h : g = d <;> by_cases h' : g = d'
    · rw [if_pos h, if_pos h', e0, e0]
    · rw [if_pos h, if_neg h', e0, e, if_pos h]
    · rw [if_neg h, if_pos h', e0, e, if_pos h']
    · rw [if_neg h, if_neg h', e, e, if_neg h, if_neg h']
  | _ => rfl
theorem ungd_ok {o : Oper} {v : V} (hv : okv ops o v) {d : Nat} (hd : d ∉ LK ops 9 o) : ungd d v = v := by
  cases v with
  | gd g w x =>
    have := gs_LK (hv g w x rfl)
    have hne : g ≠ d := fun e => hd (e ▸ this)
    simp only [ungd, if_neg hne]
  | _ => rfl
theorem put_comm {o1 o2 : Oper} (ha : Apart ops o1 o2) {v1 v2 : V} (h1 : okv ops o1 v1) (h2 : okv ops o2 v2) (sl : List V) : putS G o2.dst v2 (putS G o1.dst v1 sl) = putS G o1.dst v1 (putS G o2.dst v2 sl) := by
  refine list_ext (by simp [putS_len]) fun t => ?_
  rw [putS_get, putS_get, putS_get, putS_get]
  simp only [putS_len]
  cases hd1 : o1.dst with
  | none => simp
  | some d1 =>
    cases hd2 : o2.dst with
    | none => simp
    | some d2 =>
      have hne : d1 ≠ d2 := fun e => ha.h3 d1 hd1 (by rw [hd2, e])
      have e1 := ungd_ok h1 (ha.h2 d2 hd2)
      have e2 := ungd_ok h2 (ha.h1 d1 hd1)
      by_cases ht1 : some d1 = some t ∧ t < sl.length
      · have hn2 : ¬ (some d2 = some t ∧ t < sl.length) := fun e => hne (by have := ht1.1; have := e.1; simp_all)
        simp only [if_pos ht1, if_neg hn2, e1]
        split <;> rfl
      · by_cases ht2 : some d2 = some t ∧ t < sl.length
        · simp only [if_pos ht2, if_neg ht1, e2]
          split <;> rfl
        · simp only [if_neg ht1, if_neg ht2]
          split <;> split <;> first | rfl | exact ungd_ungd _ _ _
end
end Eng
end Go.Proofs.YtkpplfghhciacaaDoor
