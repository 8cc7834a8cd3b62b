/-
  The soundness of the table of operations that change memory or call, assembled. Conditions: none.
-/
import Derived.Test.YtkpplfghhciacaaDoorEngI
set_option linter.unusedVariables false
set_option linter.unusedSimpArgs false
namespace Go.Proofs.YtkpplfghhciacaaDoor
namespace Eng
open Go.RowKit

section
variable {P : Program} {w0 : Base} {c : Cfg} {Q : Exit → Act → World → Prop}

theorem zeroV_len {t : TypeId} {zs : List V} {i : TypeInfo} {z : Value} (h : zeroV P t = some zs) (hi : P.info? t = some i) (hz : i.zero = some z) : zs = z.cells.toList.map V.x := by
  unfold zeroV at h
  rw [hi] at h
  simp only [hz, Option.some.injEq] at h
  exact h.symm

theorem range_map_rep {z : Array Value} (hz : 0 < z.size) (n : Nat) : ((Array.range (n * z.size)).map (fun k => z[k % z.size]!)).toList = (List.replicate n z.toList).flatten := by
  apply List.ext_getElem?
  intro k
  have hz' : z.toList.length = z.size := by simp
  have key : ∀ n k, k < n * z.size → (List.replicate n z.toList).flatten[k]? = z.toList[k % z.size]? := by
    intro n
    induction n with
    | zero => intro k h; simp at h
    | succ n ih =>
      intro k h
      rw [List.replicate_succ, List.flatten_cons, List.getElem?_append]
      split
      · next hk => rw [Nat.mod_eq_of_lt (by omega)]
      · next hk =>
        rw [Nat.add_mul, Nat.one_mul] at h
        rw [ih _ (by omega), hz', Nat.mod_eq_sub_mod (show k ≥ z.size by omega)]
  have hlen : (List.replicate n z.toList).flatten.length = n * z.size := by simp
  rcases Nat.lt_or_ge k (n * z.size) with g | g
  · rw [key n k g]
    have hm := Nat.mod_lt k hz
    simp [g, hm]
  · rw [List.getElem?_eq_none (by simpa using g), List.getElem?_eq_none (by omega)]

theorem RowsR.replicate {α : Type} {R : α → List Value → Prop} {y : α} {l : List Value} (h : R y l) (n : Nat) : RowsR R l.length (List.replicate n y) (List.replicate n l).flatten := by
  intro i z hz
  obtain ⟨hi, rfl⟩ : i < n ∧ z = y := by
    have := List.getElem?_eq_some_iff.1 hz
    obtain ⟨h1, h2⟩ := this
    simp at h1 h2
    exact ⟨h1, h2.symm⟩
  have key : ∀ n i, i < n → ((List.replicate n l).flatten.drop (i * l.length)).take l.length = l := by
    intro n
    induction n with
    | zero => intro i h; omega
    | succ n ih =>
      intro i h
      rw [List.replicate_succ, List.flatten_cons]
      cases i with
      | zero => simp
      | succ i =>
        rw [Nat.add_mul, Nat.one_mul, Nat.add_comm, ← List.drop_drop, List.drop_left]
        exact ih i (by omega)
  rw [key n i hi]
  exact h

theorem amake_sound (hr : Rel w0 c) {t : TypeId} {lv cv v : V} {lu cu : Value} {p : Option Prop} {st' : List Ob} (h : amake P c.st t lv cv = some (p, v, st')) (hp : vc p) (hl : RelV c lv lu) (hc : RelV c cv cu) :
    ∃ u c', (Instr.makeSlice t lu cu).run P c.w = .ok u c'.w ∧ c'.st = st' ∧ Rel w0 c' ∧ Ext c c' ∧ RelV c' v u := by
  unfold amake at h
  split at h
  · next e k n k' m hu =>
    simp only [RelV] at hl hc
    subst hl; subst hc
    split at h
    · next τ zs hτ hz =>
      split at h
      · next hok =>
        obtain ⟨i, z, hi, hsz, hpos, hb1, hb2, hzz, hzs⟩ := elemOk_sound hok
        have hzl := zeroV_len hz hi hzz
        split at h
        · next y hd =>
          cases h
          simp only [vc] at hp
          obtain ⟨h0, h1, h2⟩ := hp
          have hw1 : IntKind.i64.wrap n = n := IntWalk.i64_in n ⟨by omega, by omega⟩
          have hw2 : IntKind.i64.wrap m = m := IntWalk.i64_in m ⟨by omega, by omega⟩
          obtain ⟨us1, us2, hue, hro, hnil⟩ := dec_sound (c := c) hd (by rw [hzl]; exact RelVs.map_x z.cells.toList)
          simp only [RelVs] at hnil
          subst hnil
          rw [List.append_nil] at hue
          subst hue
          have hzpos : 0 < z.cells.size := by omega
          have hrep := range_map_rep (z := z.cells) hzpos m.toNat
          have hrows := RowsR.replicate (R := RoV c.w c.A τ) hro m.toNat
          obtain ⟨c', g1, g2, g3, g4, g5⟩ := newRows_rel hr hpos (ys := List.replicate n.toNat y) (ce := (Array.range (m.toNat * z.cells.size)).map (fun k => z.cells[k % z.cells.size]!)) (e := e) (cap := m.toNat)
            (by simp [hzs]) (by simp; omega) (fun i' y' hy' => by
              rw [hrep]
              have hi' : i' < n.toNat := by have := (List.getElem?_eq_some_iff.1 hy').1; simpa using this
              have hl : z.cells.toList.length = τ.size := by simpa using hzs
              rw [hl] at hrows
              refine hrows i' y' ?_
              rw [List.getElem?_replicate, if_pos hi'] at hy'
              rw [List.getElem?_replicate, if_pos (by omega)]
              exact hy')
          refine ⟨_, c', ?_, g2, g3, g4, by simpa using g5⟩
          have hb : ¬ (m < 0 ∨ (i.bytes : Int) * m > 2 ^ 48) := by
            have : (i.bytes : Int) * m ≤ 65536 * 1073741824 := Int.mul_le_mul (by omega) h2 (by omega) (by omega)
            omega
          have hti : ∀ w, (typeInfo e).run P w = .ok i w := fun w => by simp [typeInfo, hi]
          have hzr : ∀ w, (zeroValue e).run P w = .ok z w := fun w => by simp [zeroValue, typeInfo, hi, hzz]
          have hzn : ¬ z.cells.size = 0 := by omega
          unfold Instr.makeSlice
          simp only [Sem.run_bind, run_underlying hu, Result.andThen_ok, asInt, asIntOf, Sem.run_pure, hti, hw1, hw2, run_sizeOf' hi, hsz, ← hzs]
          have hcond : ((decide (m < 0) || decide ((i.bytes : Int) * m > 2 ^ 48)) = true ∨ n < 0 ∨ n > m) = False := by
            simp only [Bool.or_eq_true, decide_eq_true_eq, eq_iff_iff, iff_false]
            rintro (h | h | h)
            · exact hb h
            · omega
            · omega
          simp only [Bool.or_eq_true, decide_eq_true_eq] at hcond ⊢
          rw [if_neg (by
            rintro ((h | h) | h)
            all_goals simp_all
            all_goals omega)]
          simp only [Sem.run_pure, Result.andThen_ok, Sem.run_bind, run_askRoom, run_sizeOf' hi, hsz, ← hzs]
          by_cases hm0 : m.toNat * z.cells.size = 0
          · rw [if_pos hm0]
            have hm1 : m.toNat = 0 := by
              rcases Nat.mul_eq_zero.1 hm0 with g | g
              · exact g
              · exact absurd g hzn
            simp only [hm1, Nat.zero_mul, Sem.run_pure, Result.andThen_ok, newRow, Sem.run_bind, run_newObj] at g1 ⊢
            have h00 : ∀ f : Nat → Value, (Array.range 0).map f = #[] := fun f => by simp
            rw [g1, h00, h00]
            rfl
          · rw [if_neg hm0]
            simp only [Sem.run_bind, hzr, Result.andThen_ok, Sem.run_pure, newRow, run_newObj]
            rw [g1]
            simp
        · cases h
      · cases h
    · cases h
  · cases h

theorem RelVs.flatten_rep {vs : List V} {us : List Value} (h : RelVs c vs us) : ∀ n, RelVs c (List.replicate n vs).flatten (List.replicate n us).flatten
  | 0 => RelVs.nil
  | n + 1 => by
    rw [List.replicate_succ, List.replicate_succ, List.flatten_cons, List.flatten_cons]
    exact RelVs.append h (RelVs.flatten_rep h n)

theorem abuildSlice_sound (hr : Rel w0 c) {t : TypeId} {len : Nat} {parts : List (Nat × V)} {parts' : Array (Nat × Value)} {v : V} {st' : List Ob} (h : abuildSlice P c.st t len parts = some (v, st'))
    (he : parts.map (·.1) = parts'.toList.map (·.1)) (hp : RelVs c (parts.map (·.2)) (parts'.toList.map (·.2))) :
    ∃ u c', (Instr.buildSlice t len parts').run P c.w = .ok u c'.w ∧ c'.st = st' ∧ Rel w0 c' ∧ Ext c c' ∧ RelV c' v u := by
  unfold abuildSlice at h
  split at h
  · next e hu =>
    split at h
    · next τ zs hτ hz =>
      split at h
      · next hok =>
        obtain ⟨i, z, hi, hsz, hpos, hb1, hb2, hzz, hzs⟩ := elemOk_sound hok
        have hzl := zeroV_len hz hi hzz
        subst hzl
        split at h
        · next hle =>
          split at h
          · next cs hf =>
            split at h
            · next ys hd =>
              cases h
              have hz0 : RelVs c (List.replicate len (z.cells.toList.map V.x)).flatten (List.replicate len z.cells.toList).flatten := RelVs.flatten_rep (RelVs.map_x z.cells.toList) len
              have hzpos : 0 < z.cells.size := by omega
              have hrep := range_map_rep (z := z.cells) hzpos len
              obtain ⟨us2, h1, h2⟩ := afill_sound (us := (Array.range (len * z.cells.size)).map (fun k => z.cells[k % z.cells.size]!)) hf he hp (by rw [hrep]; exact hz0)
              obtain ⟨c1, hw1, hst1, hr1, hx1, hfr⟩ := frzs_sound (vs := cs) hr
              obtain ⟨h3, h4, h5⟩ := decRows_sound hd (hfr _ h2)
              have hti : ∀ w, (typeInfo e).run P w = .ok i w := fun w => by simp [typeInfo, hi]
              have hzr : ∀ w, (zeroValue e).run P w = .ok z w := fun w => by simp [zeroValue, typeInfo, hi, hzz]
              obtain ⟨c2, g1, g2, g3, g4, g5⟩ := newRows_rel hr1 hpos (ys := ys) (ce := us2) (e := e) (cap := len) (by simpa using h4) (by omega) h5
              refine ⟨.slice (some ⟨c.w.heap.size, 0, none⟩) len len, c2, ?_, by rw [g2, hst1], g3, hx1.trans g4, by rw [hst1, hw1, h3] at g5; exact g5⟩
              unfold Instr.buildSlice
              have hle' : ¬ (len * τ.size > 2 ^ 24) := by omega
              simp only [Sem.run_bind, run_underlying hu, Result.andThen_ok, run_sizeOf' hi, hsz]
              rw [if_neg hle']
              have hls : len * τ.size = len * z.cells.size := by rw [hzs]
              simp only [Sem.run_pure, Result.andThen_ok, Sem.run_bind, hls]
              by_cases hm0 : len * z.cells.size = 0
              · have hl0 : len = 0 := by
                  rcases Nat.mul_eq_zero.1 hm0 with g | g
                  · exact g
                  · omega
                subst hl0
                have h00 : ∀ f : Nat → Value, (Array.range 0).map f = #[] := fun f => by simp
                rw [if_pos hm0]
                rw [Nat.zero_mul, h00] at h1
                simp only [Sem.run_pure, Sem.run_bind, Result.andThen_ok, Nat.zero_mul, h00, h1, newRow, run_newObj]
                rw [g1, hw1]
                rfl
              · rw [if_neg hm0]
                simp only [Sem.run_bind, hzr, Result.andThen_ok, Sem.run_pure, h1, newRow, run_newObj]
                rw [g1, hw1]
                rfl
            · cases h
          · cases h
        · cases h
      · cases h
    · cases h
  · cases h

theorem aclear_sound (hr : Rel w0 c) {t ty : TypeId} {ts : Array TypeId} {xv : V} {xu : Value} {st' : List Ob} (h : aclear P c.st t xv = some st') (hx : RelV c xv xu) (ht : ts[0]? = some t) :
    ∃ c', (Builtin.clear_ ts ty #[xu]).run P c.w = .ok (.tuple #[]) c'.w ∧ c'.st = st' ∧ Rel w0 c' ∧ Ext c c' := by
  unfold aclear at h
  split at h
  · next e r lo n hu =>
    split at h
    · next τ xs zs hst hz =>
      split at h
      · next hok =>
        split at h
        · next y hd =>
          cases h
          obtain ⟨i, z, hi, hsz, hpos, hb1, hb2, hzz, hzs⟩ := elemOk_sound hok
          have hzl := zeroV_len hz hi hzz
          obtain ⟨us1, us2, hue, hro, hnil⟩ := dec_sound (c := c) hd (by rw [hzl]; exact RelVs.map_x z.cells.toList)
          simp only [RelVs] at hnil
          subst hnil
          rw [List.append_nil] at hue
          subst hue
          simp only [RelV, hst] at hx
          obtain ⟨hlo, hx⟩ := hx
          have hzl' : z.cells.toList.length = τ.size := by simpa using hzs
          have hrl := live_lt (live_of hst (by simp))
          by_cases hn : n = 0
          · subst hn
            have same : c.st.set r (.vec τ 0 (xs.take lo ++ List.replicate 0 y ++ xs.drop (lo + 0))) = c.st := by
              have e1 : xs.take lo ++ List.replicate 0 y ++ xs.drop (lo + 0) = xs := by simp
              rw [e1]
              apply List.ext_getElem?
              intro k
              rw [List.getElem?_set]
              split
              · next e => subst e; first | exact hst.symm | rw [if_pos hrl, hst]
              · rfl
            refine ⟨c, ?_, same.symm, hr, Ext.refl c⟩
            have hu0 : ∃ a k, xu = .slice a 0 k := by
              rcases hx with ⟨_, rfl⟩ | ⟨b, cap, _, rfl, _⟩ | ⟨_, _, a, rfl⟩ <;> exact ⟨_, _, rfl⟩
            obtain ⟨a, k, rfl⟩ := hu0
            cases a <;> simp [Builtin.clear_, ht, run_underlying hu]
          · rcases hx with ⟨h1, rfl⟩ | ⟨b, cap, hb, rfl, hcap, _⟩ | ⟨h0, _⟩
            · obtain ⟨_, _, ⟨_, rfl⟩ | ⟨b', ce, ty, cap, hb', _⟩⟩ := hr.obj r _ hst
              · simp at hlo; omega
              · rw [h1] at hb'; cases hb'
            · obtain ⟨hp, hf, ⟨h1, rfl⟩ | ⟨b', ce, e', cap', h1, h2, h3, h4, h5, h6⟩⟩ := hr.obj r _ hst
              · rw [h1] at hb; cases hb
              rw [h1] at hb; cases hb
              have hcl : ce.toList.length = cap' * τ.size := by simpa using h3
              have hmul : (lo + n) * τ.size ≤ xs.length * τ.size := Nat.mul_le_mul_right _ hlo
              have hmul2 : xs.length * τ.size ≤ cap' * τ.size := Nat.mul_le_mul_right _ h4
              rw [Nat.add_mul] at hmul
              have hZ : (Builtin.zeroCells z.cells n).toList = (List.replicate n z.cells.toList).flatten := range_map_rep (by omega) n
              have hZl : ((List.replicate n z.cells.toList).flatten).length = n * τ.size := by simp [hzs]
              have hrep : RowsR (RoV c.w c.A τ) τ.size (List.replicate n y) (List.replicate n z.cells.toList).flatten := by
                have := RowsR.replicate (R := RoV c.w c.A τ) hro n
                rw [hzl'] at this
                exact this
              have hone := RowsR.one hrep (by rw [hZl]; simp) hpos
              have hst' := run_storeCells_at (P := P) b (lo * τ.size) e' _ 0 ce c.w h2 (by rw [hZl]; omega) hone
              simp only [Nat.add_zero] at hst'
              rw [hZl] at hst'
              have hrun : (Builtin.clear_ ts ty #[.slice (some ⟨b, lo * τ.size, none⟩) n cap]).run P c.w = .ok (.tuple #[]) (c.w.setRow b (ce.toList.take (lo * τ.size) ++ (List.replicate n z.cells.toList).flatten ++ ce.toList.drop (lo * τ.size + n * τ.size)).toArray) := by
                obtain ⟨m, rfl⟩ : ∃ m, n = m + 1 := ⟨n - 1, by omega⟩
                simp [Builtin.clear_, ht, run_underlying hu, zeroValue, typeInfo, hi, hzz, hZ, hst']
              generalize hNL : ce.toList.take (lo * τ.size) ++ (List.replicate n z.cells.toList).flatten ++ ce.toList.drop (lo * τ.size + n * τ.size) = nl at *
              have hnl : nl.length = ce.toList.length := by
                rw [← hNL]
                simp only [List.length_append, hZl, List.length_take, List.length_drop]
                omega
              have hold : ∀ i, i < lo ∨ lo + n ≤ i → (nl.drop (i * τ.size)).take τ.size = (ce.toList.drop (i * τ.size)).take τ.size := by
                intro i hi'
                apply List.ext_getElem?
                intro k
                rw [List.getElem?_take, List.getElem?_take]
                split
                · next hk =>
                  rw [List.getElem?_drop, List.getElem?_drop, ← hNL]
                  rcases hi' with g | g
                  · have : (i + 1) * τ.size ≤ lo * τ.size := Nat.mul_le_mul_right _ g
                    rw [Nat.add_mul, Nat.one_mul] at this
                    rw [List.append_assoc, List.getElem?_append_left (by rw [List.length_take]; omega), List.getElem?_take, if_pos (by omega)]
                  · have : (lo + n) * τ.size ≤ i * τ.size := Nat.mul_le_mul_right _ g
                    rw [Nat.add_mul] at this
                    rw [List.getElem?_append_right (by rw [List.length_append, List.length_take, hZl]; omega), List.getElem?_drop, List.length_append, List.length_take, hZl]
                    congr 1
                    omega
                · rfl
              have hmid : ∀ i, lo ≤ i → i < lo + n → (nl.drop (i * τ.size)).take τ.size = (((List.replicate n z.cells.toList).flatten).drop ((i - lo) * τ.size)).take τ.size := by
                intro i g1 g2
                have m1 : (i - lo + 1) * τ.size ≤ n * τ.size := Nat.mul_le_mul_right _ (by omega)
                have m2 : i * τ.size = lo * τ.size + (i - lo) * τ.size := by rw [← Nat.add_mul]; congr 1; omega
                rw [Nat.add_mul, Nat.one_mul] at m1
                apply List.ext_getElem?
                intro k
                rw [List.getElem?_take, List.getElem?_take]
                split
                · next hk =>
                  rw [List.getElem?_drop, List.getElem?_drop, ← hNL, List.append_assoc, List.getElem?_append_right (by rw [List.length_take]; omega), List.getElem?_append_left (by rw [List.length_take, hZl]; omega), List.length_take]
                  congr 1
                  omega
                · rfl
              obtain ⟨k1, k2⟩ := put_rel (ob := .vec τ 0 (xs.take lo ++ List.replicate n y ++ xs.drop (lo + n))) hr hst (by simp) h1 h2 (ce := nl.toArray) (fun o ho => absurd ho (h6 o (by omega)))
                ⟨0, xs, hst, by simp; omega, rfl, fun b2 n2 hb2 hrr => by
                  rw [h1] at hb2; cases hb2
                  obtain ⟨ce', e2, fz, g1, g2⟩ := hrr
                  rw [h2] at g1; cases g1
                  refine ⟨_, e', _, setRow_heap c.w b ce _ e' _ h2, ?_⟩
                  simp only [List.size_toArray, hnl, ← g2, Array.length_toList]⟩
                ⟨hp, Nat.zero_le _, .inr ⟨b, _, e', cap', h1, setRow_heap c.w b ce _ e' _ h2, by simp only [List.size_toArray, hnl, hcl], by simp; omega, fun i x hx' => by
                  have hext : ∀ {x : τ.den} {us : List Value}, RoV c.w c.A τ x us → RoV (c.w.setRow b nl.toArray) c.A τ x us := fun hz =>
                    RoV.ext (fun _ _ h => h) (fun b2 o ho => by
                      have hbb : b2 ≠ b := by rintro rfl; exact h6 o (by omega) ho
                      exact World.cell?_of_block (w := c.w) (setRow_other c.w b b2 _ hbb)) hz
                  refine hext ?_
                  have hll : (xs.take lo).length = lo := by rw [List.length_take]; omega
                  rcases Nat.lt_or_ge i lo with g | g
                  · rw [List.append_assoc, List.getElem?_append_left (by omega), List.getElem?_take, if_pos g] at hx'
                    show RoV c.w c.A τ x ((nl.drop (i * τ.size)).take τ.size)
                    rw [hold i (.inl g)]
                    exact h5 i x hx'
                  · rcases Nat.lt_or_ge i (lo + n) with g2 | g2
                    · rw [List.append_assoc, List.getElem?_append_right (by omega), List.getElem?_append_left (by rw [hll, List.length_replicate]; omega), hll] at hx'
                      show RoV c.w c.A τ x ((nl.drop (i * τ.size)).take τ.size)
                      rw [hmid i g g2]
                      exact hrep _ _ hx'
                    · rw [List.getElem?_append_right (by rw [List.length_append, hll, List.length_replicate]; omega), List.length_append, hll, List.length_replicate, List.getElem?_drop, show lo + n + (i - (lo + n)) = i from by omega] at hx'
                      show RoV c.w c.A τ x ((nl.drop (i * τ.size)).take τ.size)
                      rw [hold i (.inr g2)]
                      exact h5 i x hx', fun o ho => h6 o ho⟩⟩
              exact ⟨_, hrun, rfl, k1, k2⟩
            · exact absurd h0 hn
        · cases h
      · cases h
    · cases h
  · cases h

end

theorem pclear_sound {P : Program} {w0 : Base} {c : Cfg} (hr : Rel w0 c) {t ty : TypeId} {ts : Array TypeId} {xv : V} {xu : Value} {q : Option Prop} {st' : List Ob} (h : pclear P c.st t xv = some (q, st')) (hq : vc q) (hx : RelV c xv xu) (ht : ts[0]? = some t) :
    ∃ c', (Builtin.clear_ ts ty #[xu]).run P c.w = .ok (.tuple #[]) c'.w ∧ c'.st = st' ∧ Rel w0 c' ∧ Ext c c' := by
  unfold pclear at h
  split at h
  · next hd =>
    split at h
    · next e p m hu hm =>
      split at h
      · next hz =>
        cases h
        simp only [RelV] at hx
        subst hx
        obtain ⟨z, hzr, hzc⟩ := run_zeroValue' hz
        have hzl : z.cells.toList = [.int .i64 0] := by
          have := hzc
          cases hl : z.cells.toList with
          | nil => rw [hl] at this; cases this
          | cons y r =>
            rw [hl] at this
            simp only [List.map_cons, List.cons.injEq, V.x.injEq] at this
            obtain ⟨h1, h2⟩ := this
            rw [← h1]
            cases r with
            | nil => rfl
            | cons _ _ => cases h2
        have hza : z.cells = #[.int .i64 0] := Array.toList_inj.1 hzl
        have hst := poolAt_st hm
        by_cases hn : hd.n = 0
        · refine ⟨c, ?_, by rw [hn, List.replicate_zero, pwr_nil, set_self hst], hr, Ext.refl c⟩
          rw [Hd.val, hn]
          cases hd.a <;> simp [Builtin.clear_, ht, run_underlying hu]
        · obtain ⟨hnc, h2 | ⟨b, o, row, h2, h3, h4, h5⟩⟩ := hq
          · omega
          · obtain ⟨c', k1, k2, k3, k4⟩ := pwr_rel (P := P) hr hm h3 (o := o) 0 (List.replicate hd.n 0) (by omega) (by rw [List.length_replicate]; omega)
            refine ⟨c', ?_, by rw [k2, h2], k3, k4⟩
            have hZ : (Builtin.zeroCells z.cells hd.n).toList = (List.replicate hd.n (0 : Int)).map (Value.int .i64) := by
              have := range_map_rep (z := z.cells) (by rw [hza]; decide) hd.n
              rw [hzl] at this
              rw [List.map_replicate]
              refine Eq.trans this ?_
              generalize hd.n = k
              induction k with
              | zero => rfl
              | succ k ih => simp only [List.replicate_succ, List.flatten_cons, ih]; rfl
            obtain ⟨k, hk⟩ : ∃ k, hd.n = k + 1 := ⟨hd.n - 1, by omega⟩
            rw [Hd.val, h2]
            rw [hk] at hZ k1 ⊢
            simp only [Nat.add_zero] at k1
            simp [Builtin.clear_, ht, run_underlying hu, hzr, hZ]
            have k1' := k1
            simp only [List.map_replicate] at k1'
            rw [k1']
            rfl
      · cases h
    · cases h
  · cases h

theorem andO_split {p : Option Prop} {q : Prop} (h : andO p q) : vc p ∧ q := by
  cases p with
  | none => exact ⟨trivial, h⟩
  | some p => exact h

section
variable {P : Program} {w0 : Base} {c : Cfg} {Q : Exit → Act → World → Prop} {C : Caller}

theorem aeff_sound (hC : SoundC P C) (hr : Rel w0 c) {a : Act} {fs : Facts} {ρ : Facts → Operand → V}
    (hρ : ∀ gs x, (∀ g, g ∈ gs → a.eval (.tmp g.1) = .bool g.2) → RelV c (ρ gs x) (a.eval x)) (hfs : ∀ g, g ∈ fs → a.eval (.tmp g.1) = .bool g.2)
    {o : Oper} {k : V → List Ob → Prop} (h : aeff P C c.st fs ρ o.op k) {next : Act → World → Prop}
    (hnext : ∀ v c' u, Rel w0 c' → Ext c c' → RelV c' v u → k v c'.st → next (a.put o.dst u) c'.w) : o.wp P a c.w next Q := by
  have hx : ∀ x, RelV c (ρ fs x) (a.eval x) := fun x => hρ fs x hfs
  obtain ⟨dst, op, ty, pos, after, guard⟩ := o
  simp only at h hnext
  cases op with
  | pick cnd x y =>
    cases cnd with
    | tmp s =>
      simp only [aeff] at h
      split at h
      · next t hc =>
        have hcv := hx (.tmp s)
        rw [hc] at hcv
        simp only [RelV] at hcv
        have hrun : (execOp a.eval ⟨dst, .pick (.tmp s) x y, ty, pos, after, guard⟩).run P c.w = .ok (.value (if t = true then a.eval x else a.eval y)) c.w := by
          simp [execOp, hcv, asBool]
        refine wp_value hrun ?_
        have hfact : ∀ tt, t = tt → ∀ g, g ∈ (s, tt) :: fs → a.eval (.tmp g.1) = .bool g.2 := fun tt ht g hg => by
          rcases List.mem_cons.1 hg with rfl | hg
          · rw [hcv, ht]
          · exact hfs g hg
        cases t
        · exact hnext _ c _ hr (Ext.refl c) (hρ _ _ (hfact false rfl)) h
        · exact hnext _ c _ hr (Ext.refl c) (hρ _ _ (hfact true rfl)) h
      · exact h.elim
    | _ => simp [aeff] at h
  | alloc t =>
    simp only [aeff] at h
    split at h
    · next cs hz =>
      obtain ⟨z, hzr, rfl⟩ := run_zeroValue' hz
      obtain ⟨c', h1, h2, h3, h4, h5⟩ := newCells_rel hr z.cells t (RelVs.map_x z.cells.toList)
      refine wp_value (u := .pointer (some ⟨c.w.heap.size, 0, none⟩)) (w' := c'.w) ?_ (hnext _ c' _ h3 h4 h5 (by rw [h2]; exact h))
      simp only [execOp, Instr.alloc, Sem.run_bind, hzr, Result.andThen_ok, newVar, newRow, run_newObj, Sem.run_pure]
      rw [h1]
      rfl
    · exact h.elim
  | box t x =>
    simp only [aeff] at h
    split at h
    · next cs hvc =>
      have hcells := vcells_sound hvc (hx x)
      obtain ⟨c', h1, h2, h3, h4, h5⟩ := newCells_rel hr (a.eval x).cells t hcells
      refine wp_value (u := .pointer (some ⟨c.w.heap.size, 0, none⟩)) (w' := c'.w) ?_ (hnext _ c' _ h3 h4 h5 (by rw [h2]; exact h))
      simp only [execOp, Instr.box, Sem.run_bind, newVar, newRow, run_newObj, Result.andThen_ok, Sem.run_pure]
      rw [h1]
      rfl
    · exact h.elim
  | buildSlice t len parts =>
    simp only [aeff] at h
    split at h
    · next v st' hv =>
      obtain ⟨u, c', h1, h2, h3, h4, h5⟩ := abuildSlice_sound (P := P) hr (parts' := parts.map fun p => (p.1, a.eval p.2)) hv (by simp) (by
        simp only [List.map_map, Array.toList_map]
        have := RelVs.operands hx (parts.toList.map (·.2))
        simpa [List.map_map, Function.comp_def] using this)
      refine wp_value (u := u) (w' := c'.w) ?_ (hnext _ c' _ h3 h4 h5 (by rw [h2]; exact h))
      simp only [execOp, Sem.run_bind, h1, Result.andThen_ok, Sem.run_pure]
    · exact h.elim
  | makeSlice t l cp =>
    simp only [aeff] at h
    split at h
    · next p v st' hv =>
      obtain ⟨hp, hk⟩ := andO_split h
      obtain ⟨u, c', h1, h2, h3, h4, h5⟩ := amake_sound (P := P) hr hv hp (hx l) (hx cp)
      refine wp_value (u := u) (w' := c'.w) ?_ (hnext _ c' _ h3 h4 h5 (by rw [h2]; exact hk))
      simp only [execOp, Sem.run_bind, h1, Result.andThen_ok, Sem.run_pure]
    · exact h.elim
  | store t ad x =>
    simp only [aeff] at h
    split at h
    · next r p m xs hq =>
      have fin : ∀ (c1 : Cfg) (xv : V), c1.w = c.w → Rel w0 c1 → Ext c c1 → RelV c1 xv (a.eval x) → storeK P c1.st t (ρ fs ad) xv k → Oper.wp P ⟨dst, .store t ad x, ty, pos, after, guard⟩ a c.w next Q := by
        intro c1 xv hw hr1 hx1 hxv hk
        unfold storeK at hk
        split at hk
        · next st' hv =>
          obtain ⟨c', h1, h2, h3, h4⟩ := astore_sound (P := P) hr1 hv (RelV.ext hx1 _ _ (hx ad)) hxv
          rw [hw] at h1
          refine wp_skip' (w' := c'.w) ?_ (hnext .any c' _ h3 (hx1.trans h4) (by simp only [RelV]) (by rw [h2]; exact hk))
          simp only [execOp, Sem.run_bind, h1, Result.andThen_ok, Sem.run_pure]
        · exact hk.elim
      rcases adopt_sound hr hq (hx x) with ⟨e1, e2, h1, h2⟩ | ⟨b, cap, e0, e1, e2, h1, h2⟩
      · exact fin { c with st := c.st.set r .dead } (.x (.slice none 0 0)) rfl h1 h2 (by simp only [RelV]; exact e2) (h.1 e1)
      · exact fin { c with st := (c.st.set r .dead).set p (.pool ((b, (xs, cap)) :: m)) } (.hd ⟨some ⟨b, 0, none⟩, xs.length, cap⟩) rfl h1 h2 (by simp only [RelV]; exact e2) (h.2 b cap e0 e1)
    · split at h
      · next st' hv =>
        obtain ⟨c', h1, h2, h3, h4⟩ := astore_sound (P := P) hr hv (hx ad) (hx x)
        refine wp_skip' (w' := c'.w) ?_ (hnext .any c' _ h3 h4 (by simp only [RelV]) (by rw [h2]; exact h))
        simp only [execOp, Sem.run_bind, h1, Result.andThen_ok, Sem.run_pure]
      · split at h
        · next p st' hv =>
          obtain ⟨hp, hk⟩ := andO_split h
          obtain ⟨c', h1, h2, h3, h4⟩ := pstore_sound (P := P) hr hv hp (hx ad) (hx x)
          refine wp_skip' (w' := c'.w) ?_ (hnext .any c' _ h3 h4 (by simp only [RelV]) (by rw [h2]; exact hk))
          simp only [execOp, Sem.run_bind, h1, Result.andThen_ok, Sem.run_pure]
        · split at h
          · next p st' hv =>
            obtain ⟨hp, hk⟩ := andO_split h
            obtain ⟨c', h1, h2, h3, h4⟩ := estore_sound (P := P) hr hv hp (hx ad) (hx x)
            refine wp_skip' (w' := c'.w) ?_ (hnext .any c' _ h3 h4 (by simp only [RelV]) (by rw [h2]; exact hk))
            simp only [execOp, Sem.run_bind, h1, Result.andThen_ok, Sem.run_pure]
          · exact h.elim
  | call cl =>
    obtain ⟨callee, args, argTypes⟩ := cl
    cases callee with
    | builtin b =>
      cases b <;> first | (simp [aeff] at h; done) | skip
      rotate_left
      · simp only [aeff] at h
        split at h
        · next x t hargs hts =>
          split at h
          · next st' hv =>
            have h0 : argTypes[0]? = some t := by rw [← Array.getElem?_toList, hts]; rfl
            have hmap : args.map a.eval = #[a.eval x] := by
              apply Array.ext'
              simp [hargs]
            obtain ⟨c', h1, h2, h3, h4⟩ := aclear_sound (P := P) (ty := ty) hr hv (hx x) h0
            refine wp_value (u := .tuple #[]) (w' := c'.w) ?_ (hnext (.tup []) c' _ h3 h4 (by unfold RelV; exact ⟨#[], rfl, by unfold RelVs; rfl⟩) (by rw [h2]; exact h))
            simp only [execOp, resolve, Sem.run_bind, Sem.run_pure, Result.andThen_ok, invoke, builtin, hmap, h1]
          · split at h
            · next p st' hv =>
              obtain ⟨hp, hk⟩ := andO_split h
              have h0 : argTypes[0]? = some t := by rw [← Array.getElem?_toList, hts]; rfl
              have hmap : args.map a.eval = #[a.eval x] := by
                apply Array.ext'
                simp [hargs]
              obtain ⟨c', h1, h2, h3, h4⟩ := pclear_sound (P := P) (ty := ty) hr hv hp (hx x) h0
              refine wp_value (u := .tuple #[]) (w' := c'.w) ?_ (hnext (.tup []) c' _ h3 h4 (by unfold RelV; exact ⟨#[], rfl, by unfold RelVs; rfl⟩) (by rw [h2]; exact hk))
              simp only [execOp, resolve, Sem.run_bind, Sem.run_pure, Result.andThen_ok, invoke, builtin, hmap, h1]
            · exact h.elim
        · exact h.elim
      simp only [aeff] at h
      split at h
      · next x y hargs =>
        split at h
        · next p v st' hv =>
          obtain ⟨hp, hk⟩ := andO_split h
          unfold aappend at hv
          split at hv
          · next sT xT rest hts =>
            split at hv
            · next e hu =>
              split at hv
              · next t ht =>
                split at hv
                · next hsa =>
                  split at hv
                  · next hok =>
                    split at hv
                    · next xs f ys htgt hsrc =>
                      simp only [Option.some.injEq, Prod.mk.injEq] at hv
                      obtain ⟨rfl, rfl, rfl⟩ := hv
                      have h0 : argTypes[0]? = some sT := by rw [← Array.getElem?_toList, hts]; rfl
                      have h1 : argTypes[1]? = some xT := by rw [← Array.getElem?_toList, hts]; rfl
                      have hmap : args.map a.eval = #[a.eval x, a.eval y] := by
                        apply Array.ext'
                        simp [hargs]
                      obtain ⟨u, c', g1, g2, g3, g4, g5⟩ := append_sound (P := P) (ty := ty) hr (hx x) (hx y) htgt hsrc h0 h1 hu hsa hok hp
                      refine wp_value (u := u) (w' := c'.w) ?_ (hnext _ c' _ g2 g3 g5 (by rw [g4]; exact hk))
                      simp only [execOp, resolve, Sem.run_bind, Sem.run_pure, Result.andThen_ok, invoke, builtin, hmap, g1]
                    · cases hv
                  · cases hv
                · cases hv
              · cases hv
            · cases hv
          · cases hv
        · obtain ⟨u, v, c', g1, g2, g3, g4, g5⟩ := papp_sound (P := P) (ty := ty) hr h (hx x) (hx y)
          have hmap : args.map a.eval = #[a.eval x, a.eval y] := by
            apply Array.ext'
            simp [hargs]
          refine wp_value (u := u) (w' := c'.w) ?_ (hnext v c' _ g2 g3 g4 g5)
          simp only [execOp, resolve, Sem.run_bind, Sem.run_pure, Result.andThen_ok, invoke, builtin, hmap, g1]
      · exact h.elim
    | value f =>
      simp only [aeff] at h
      split at h
      · next g first captured er =>
        split at h
        · next hcal =>
          have hf := hx f
          rw [er] at hf
          simp only [RelV] at hf
          obtain ⟨us1, us2, he, hf1, hf2⟩ := hf
          have hargs : RelVs c (first ++ args.toList.map (ρ fs) ++ captured) (us1 ++ args.map a.eval ++ us2).toList := by
            simp only [Array.toList_append, Array.toList_map]
            exact RelVs.append (RelVs.append hf1 (RelVs.operands hx args.toList)) hf2
          have hcalls := hC w0 c g _ _ _ hr hargs h
          unfold callable at hcal
          split at hcal
          · next fn hfn =>
            simp only [Bool.and_eq_true, bne_iff_ne, ne_eq] at hcal
            have hbn : fn.body.isNone = false := by
              cases hb : fn.body with
              | none => rw [hb] at hcal; simp at hcal
              | some b => rfl
            unfold Oper.wp
            have hrun : (execOp a.eval ⟨dst, .call ⟨.value f, args, argTypes⟩, ty, pos, after, guard⟩).run P c.w = .ok (.enter g (us1 ++ args.map a.eval ++ us2)) c.w := by
              simp [execOp, resolve, Deferred.ofValue, he, invoke, callFunc, hfn, hcal.1, show fn.body ≠ none from by intro h; rw [h] at hbn; cases hbn]
            rw [hrun]
            simp only [Oper.upon]
            refine hcalls.mono fun e w' hh => ?_
            obtain ⟨u, v, c', rfl, rfl, h3, h4, h5, h6⟩ := hh
            exact hnext v c' u h3 h4 h5 h6
          · cases hcal
        · exact h.elim
      · exact h.elim
    | _ => simp [aeff] at h
  | _ => simp [aeff] at h

/-- An operation, quiet or not. -/
def aop (P : Program) (C : Caller) (st : List Ob) (fs : Facts) (ρ : Facts → Operand → V) (o : Op) (k : V → List Ob → Prop) : Prop :=
  match aval P st fs ρ o with
  | some (p, v) => andO p (k v st)
  | none => aeff P C st fs ρ o k

theorem aop_sound (hC : SoundC P C) (hr : Rel w0 c) {a : Act} {fs : Facts} {ρ : Facts → Operand → V}
    (hρ : ∀ gs x, (∀ g, g ∈ gs → a.eval (.tmp g.1) = .bool g.2) → RelV c (ρ gs x) (a.eval x)) (hfs : ∀ g, g ∈ fs → a.eval (.tmp g.1) = .bool g.2)
    {o : Oper} {k : V → List Ob → Prop} (h : aop P C c.st fs ρ o.op k) {next : Act → World → Prop}
    (hnext : ∀ v c' u, Rel w0 c' → Ext c c' → RelV c' v u → k v c'.st → next (a.put o.dst u) c'.w) : o.wp P a c.w next Q := by
  unfold aop at h
  split at h
  · next p v hv =>
    obtain ⟨hp, hk⟩ := andO_split h
    obtain ⟨u, h1, h2⟩ := aval_sound (P := P) hr hρ hfs hv hp
    exact wp_value h1 (hnext v c u hr (Ext.refl c) h2 hk)
  · exact aeff_sound hC hr hρ hfs h hnext

end

end Eng
end Go.Proofs.YtkpplfghhciacaaDoor
