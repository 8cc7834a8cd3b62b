/-
  The soundness of the table of operations that change memory or call. Conditions: none.
-/
import Derived.Test.YtkpplfghhciacaaDoorEngH
set_option linter.unusedVariables false
set_option linter.unusedSimpArgs false
namespace Go.Proofs.YtkpplfghhciacaaDoor
namespace Eng
open Go.RowKit

section
variable {P : Program} {w0 : Base} {c : Cfg} {Q : Exit → Act → World → Prop}

theorem wp_value {o : Oper} {a : Act} {w w' : World} {u : Value} {next : Act → World → Prop} (h : (execOp a.eval o).run P w = .ok (.value u) w') (hn : next (a.put o.dst u) w') : o.wp P a w next Q := by
  unfold Oper.wp
  rw [h]
  exact hn

theorem wp_skip' {o : Oper} {a : Act} {w w' : World} {next : Act → World → Prop} (h : (execOp a.eval o).run P w = .ok .skip w') (hn : next (a.put o.dst undef) w') : o.wp P a w next Q := by
  unfold Oper.wp
  rw [h]
  exact hn

theorem newCells_rel (hr : Rel w0 c) (ce : Array Value) (e : TypeId) {cs : List V} (h : RelVs c cs ce.toList) :
    ∃ c', c'.w = c.w.alloc (.cells ce e) ∧ c'.st = c.st ++ [.cells cs] ∧ Rel w0 c' ∧ Ext c c' ∧ RelV c' (.cl c.st.length 0) (.pointer (some ⟨c.w.heap.size, 0, none⟩)) := by
  have hx := push_ext c ce e (.cells cs) hr.bound (fun r b h1 h2 => bl_lt hr h1 h2)
  obtain ⟨h1, h2⟩ := push_rel hr ce e (.cells cs) ⟨c.w.heap.size, ce, e, by simp [pushC], heap_new c.w _, RelVs.ext hx _ _ h, fun o ho => by have := hr.bound _ _ ho; omega⟩
  refine ⟨_, rfl, rfl, h1, h2, ?_⟩
  simp only [RelV, pushC]
  rw [List.getElem?_append_right (Nat.le_refl _)]
  simp

theorem newRows_rel (hr : Rel w0 c) {t : Ty} (ht : 0 < t.size) {ys : List t.den} {ce : Array Value} {e : TypeId} {cap : Nat} (h1 : ce.size = cap * t.size) (h2 : ys.length ≤ cap) (h3 : RowsR (RoV c.w c.A t) t.size ys ce.toList) :
    ∃ c', c'.w = c.w.alloc (.cells ce e) ∧ c'.st = c.st ++ [.vec t 0 ys] ∧ Rel w0 c' ∧ Ext c c' ∧ RelV c' (.vec c.st.length) (.slice (some ⟨c.w.heap.size, 0, none⟩) ys.length cap) := by
  have hx := push_ext c ce e (.vec t 0 ys) hr.bound (fun r b h1 h2 => bl_lt hr h1 h2)
  obtain ⟨g1, g2⟩ := push_rel hr ce e (.vec t 0 ys) ⟨ht, Nat.zero_le _, .inr ⟨c.w.heap.size, ce, e, cap, by simp [pushC], heap_new c.w _, h1, h2,
    fun i y hy => RoV.ext hx.sub hx.cells (h3 i y hy), fun o _ hn => by have := hr.bound _ _ hn; omega⟩⟩
  refine ⟨_, rfl, rfl, g1, g2, ?_⟩
  simp only [RelV, pushC]
  rw [List.getElem?_append_right (Nat.le_refl _)]
  simp only [Nat.sub_self, List.getElem?_cons_zero]
  exact .inr ⟨c.w.heap.size, cap, by simp, rfl, ce, e, _, heap_new c.w _, h1⟩

theorem all_one {vs : List V} {us : List Value} (h : vs.all one = true) (hr : RelVs c vs us) : ∀ u, u ∈ us → u.oneCell' = true := by
  intro u hu
  obtain ⟨i, hi, rfl⟩ := List.getElem_of_mem hu
  have hl := hr.length
  obtain ⟨u', h1, h2⟩ := hr.get (List.getElem?_eq_getElem (show i < vs.length by omega))
  rw [List.getElem?_eq_getElem hi] at h1
  cases h1
  rw [List.all_eq_true] at h
  exact (one_sound (h _ (List.getElem_mem _)) h2).1

theorem storeVar_run {t : TypeId} {i : TypeInfo} (hi : P.info? t = some i) {u : Value} (hs : u.cells.size = i.size) {w : World} {b o : Nat} {ce : Array Value} {e : TypeId} (hheap : w.heap[b]? = some (.cells ce e (0, 0)))
    (hle : o + u.cells.size ≤ ce.size) (hone : ∀ v, v ∈ u.cells.toList → v.oneCell' = true) :
    (Instr.storeAt t (.pointer (some ⟨b, o, none⟩)) u).run P w = .ok () (w.setRow b (splice ce.toList o u.cells.toList).toArray) := by
  have := run_storeCells_at (P := P) b o e u.cells.toList 0 ce w hheap (by simpa using hle) hone
  simp only [Nat.add_zero] at this
  simp only [Instr.storeAt, Instr.sureAddr, storeVar, Sem.run_bind, Sem.run_pure, Result.andThen_ok, run_sizeOf' hi, hs, ne_eq, not_true_eq_false, if_false]
  exact this

theorem setI_later {c : Cfg} {k : IntKind} {i : Nat} {v : Int} : ∀ (vs : List V) (us : List Value) (m : Nat), RelVs c vs us → i < m → RelVs c (setI k i v m vs) us
  | [], us, m, hr, _ => by simpa [setI] using hr
  | a :: vs, us, m, hr, hm => by
    unfold setI
    split
    · next m _ _ k' n r e =>
      cases e
      split
      · next hk =>
        subst hk
        simp only [RelVs] at hr ⊢
        obtain ⟨u, us', e, h1, h2⟩ := hr
        have hb : Nat.beq i m = false := by
          cases hb : Nat.beq i m with
          | false => rfl
          | true => have := Nat.eq_of_beq_eq_true hb; omega
        exact ⟨u, us', e, by rw [hb]; exact h1, setI_later _ us' (m + 1) h2 (by omega)⟩
      · exact hr
    · exact hr

theorem setI_rel {c : Cfg} {k : IntKind} {i : Nat} {v : Int} : ∀ (vs : List V) (us : List Value) (m d : Nat), RelVs c vs us → i = m + d → d < (rnI k vs).length → RelVs c (setI k i v m vs) (us.set d (.int k v))
  | [], us, m, d, hr, hi, hd => by simp [rnI] at hd
  | a :: vs, us, m, d, hr, hi, hd => by
    unfold rnI at hd
    split at hd
    · next k' n r e =>
      cases e
      split at hd
      · next hk =>
        subst hk
        rw [setI, if_pos rfl]
        simp only [RelVs] at hr
        obtain ⟨u, us', rfl, h1, h2⟩ := hr
        cases d with
        | zero =>
          have hb : Nat.beq i m = true := by rw [hi, Nat.add_zero]; exact Nat.beq_refl m
          rw [hb, List.set_cons_zero]
          exact RelVs.cons (by simp only [RelV]; rfl) (setI_later _ us' (m + 1) h2 (by omega))
        | succ d =>
          have hb : Nat.beq i m = false := by
            cases hb : Nat.beq i m with
            | false => rfl
            | true => have := Nat.eq_of_beq_eq_true hb; omega
          rw [hb, List.set_cons_succ]
          exact RelVs.cons h1 (setI_rel _ us' (m + 1) d h2 (by omega) (by simp only [List.length_cons] at hd; omega))
      · simp at hd
    · simp at hd

theorem setB_later {c : Cfg} {i : Nat} {v : Bool} : ∀ (vs : List V) (us : List Value) (m : Nat), RelVs c vs us → i < m → RelVs c (setB i v m vs) us
  | [], us, m, hr, _ => by simpa [setB] using hr
  | a :: vs, us, m, hr, hm => by
    unfold setB
    split
    · next m _ _ n r e =>
      cases e
      simp only [RelVs] at hr ⊢
      obtain ⟨u, us', e, h1, h2⟩ := hr
      have hb : Nat.beq i m = false := by
        cases hb : Nat.beq i m with
        | false => rfl
        | true => have := Nat.eq_of_beq_eq_true hb; omega
      exact ⟨u, us', e, by rw [hb]; exact h1, setB_later _ us' (m + 1) h2 (by omega)⟩
    · exact hr

theorem setB_rel {c : Cfg} {i : Nat} {v : Bool} : ∀ (vs : List V) (us : List Value) (m d : Nat), RelVs c vs us → i = m + d → d < (rnB vs).length → RelVs c (setB i v m vs) (us.set d (.bool v))
  | [], us, m, d, hr, hi, hd => by simp [rnB] at hd
  | a :: vs, us, m, d, hr, hi, hd => by
    unfold rnB at hd
    split at hd
    · next n r e =>
      cases e
      rw [setB]
      simp only [RelVs] at hr
      obtain ⟨u, us', rfl, h1, h2⟩ := hr
      cases d with
      | zero =>
        have hb : Nat.beq i m = true := by rw [hi, Nat.add_zero]; exact Nat.beq_refl m
        rw [hb, List.set_cons_zero]
        exact RelVs.cons (by simp only [RelV]; rfl) (setB_later _ us' (m + 1) h2 (by omega))
      | succ d =>
        have hb : Nat.beq i m = false := by
          cases hb : Nat.beq i m with
          | false => rfl
          | true => have := Nat.eq_of_beq_eq_true hb; omega
        rw [hb, List.set_cons_succ]
        exact RelVs.cons h1 (setB_rel _ us' (m + 1) d h2 (by omega) (by simp only [List.length_cons] at hd; omega))
    · simp at hd

theorem setH_later {c : Cfg} {i : Nat} {v : Hd} : ∀ (vs : List V) (us : List Value) (m : Nat), RelVs c vs us → i < m → RelVs c (setH i v m vs) us
  | [], us, m, hr, _ => by simpa [setH] using hr
  | a :: vs, us, m, hr, hm => by
    have hb : Nat.beq i m = false := by
      cases hb : Nat.beq i m with
      | false => rfl
      | true => have := Nat.eq_of_beq_eq_true hb; omega
    unfold setH
    split
    · next m _ _ n r e =>
      cases e
      simp only [RelVs] at hr ⊢
      obtain ⟨u, us', e, h1, h2⟩ := hr
      exact ⟨u, us', e, by rw [hb]; exact h1, setH_later _ us' (m + 1) h2 (by omega)⟩
    · next m _ _ r e =>
      cases e
      simp only [RelVs] at hr ⊢
      obtain ⟨u, us', e, h1, h2⟩ := hr
      exact ⟨u, us', e, by rw [hb]; simp only [RelV] at h1 ⊢; exact h1, setH_later _ us' (m + 1) h2 (by omega)⟩
    · exact hr

theorem setH_rel {c : Cfg} {i : Nat} {v : Hd} : ∀ (vs : List V) (us : List Value) (m d : Nat), RelVs c vs us → i = m + d → d < (rnH vs).length → RelVs c (setH i v m vs) (us.set d v.val)
  | [], us, m, d, hr, hi, hd => by simp [rnH] at hd
  | a :: vs, us, m, d, hr, hi, hd => by
    have hz : d = 0 → Nat.beq i m = true := fun e => by rw [hi, e, Nat.add_zero]; exact Nat.beq_refl m
    have hs : d ≠ 0 → Nat.beq i m = false := fun e => by
      cases hb : Nat.beq i m with
      | false => rfl
      | true => have := Nat.eq_of_beq_eq_true hb; omega
    unfold rnH at hd
    split at hd
    · next n r e =>
      cases e
      rw [setH]
      simp only [RelVs] at hr
      obtain ⟨u, us', rfl, h1, h2⟩ := hr
      cases d with
      | zero =>
        rw [hz rfl, List.set_cons_zero]
        exact RelVs.cons (by simp only [RelV]; rfl) (setH_later _ us' (m + 1) h2 (by omega))
      | succ d =>
        rw [hs (by omega), List.set_cons_succ]
        exact RelVs.cons h1 (setH_rel _ us' (m + 1) d h2 (by omega) (by simp only [List.length_cons] at hd; omega))
    · next r e =>
      cases e
      rw [setH]
      simp only [RelVs] at hr
      obtain ⟨u, us', rfl, h1, h2⟩ := hr
      cases d with
      | zero =>
        rw [hz rfl, List.set_cons_zero]
        exact RelVs.cons (by simp only [RelV]; rfl) (setH_later _ us' (m + 1) h2 (by omega))
      | succ d =>
        rw [hs (by omega), List.set_cons_succ]
        exact RelVs.cons (by simp only [RelV] at h1 ⊢; exact h1) (setH_rel _ us' (m + 1) d h2 (by omega) (by simp only [List.length_cons] at hd; omega))
    · simp at hd

theorem putAt_rel {c : Cfg} {i : Nat} {x : V} {cs ds : List V} {us : List Value} {q : Prop} {u : Value} (h : putAt i x cs = some (q, ds)) (hq : q) (hr : RelVs c cs us) (hx : RelV c x u) : RelVs c ds (us.set i u) ∧ i < us.length ∧ one x = true := by
  have hlen : ∀ {α : Type} {l : List α} (f : ∀ (i : Nat) (a : α), l[i]? = some a → us[i]? = some (us.getD i default)), i < l.length → i < us.length := fun f hi => by
    have := f i _ (List.getElem?_eq_getElem hi)
    exact (List.getElem?_eq_some_iff.1 this).1
  have lt : ∀ {w : Value}, us[i]? = some w → i < us.length := fun h => (List.getElem?_eq_some_iff.1 h).1
  unfold putAt at h
  split at h
  · next k v =>
    cases h
    simp only [RelV] at hx
    subst hx
    exact ⟨setI_rel _ _ 0 i hr (by omega) hq, lt (rnI_rel _ _ hr i _ (List.getElem?_eq_getElem hq)), rfl⟩
  · next v =>
    cases h
    simp only [RelV] at hx
    subst hx
    exact ⟨setB_rel _ _ 0 i hr (by omega) hq, lt (rnB_rel _ _ hr i _ (List.getElem?_eq_getElem hq)), rfl⟩
  · next v =>
    cases h
    simp only [RelV] at hx
    subst hx
    exact ⟨setH_rel _ _ 0 i hr (by omega) hq, lt (rnH_rel _ _ hr i _ (List.getElem?_eq_getElem hq)), rfl⟩
  · cases h

theorem astore_sound (hr : Rel w0 c) {t : TypeId} {av xv : V} {au xu : Value} {st' : List Ob} (h : astoreT P c.st t av xv = some st') (ha : RelV c av au) (hx : RelV c xv xu) :
    ∃ c', (Instr.storeAt t au xu).run P c.w = .ok () c'.w ∧ c'.st = st' ∧ Rel w0 c' ∧ Ext c c' := by
  unfold astoreT at h
  split at h
  · next i vs hi hvs =>
    have hcells := vcells_sound hvs hx
    have hclen := hcells.length
    simp only [Array.length_toList] at hclen
    split at h
    · next hsz =>
      have hs : xu.cells.size = i.size := by rw [hclen, hsz]
      split at h
      · next r j =>
        split at h
        · next cs hst =>
          split at h
          · next hle =>
            split at h
            · next hone =>
              cases h
              simp only [RelV, hst] at ha
              obtain ⟨b, hb, rfl⟩ := ha
              obtain ⟨b', ce, e, hb', hheap, hcs, hA⟩ := hr.obj r _ hst
              rw [hb] at hb'; cases hb'
              have hcel := hcs.length
              simp only [Array.length_toList] at hcel
              have hrun := storeVar_run (P := P) hi hs hheap (o := j) (by rw [hclen, hcel]; exact hle) (all_one hone hcells)
              have hlen : (splice ce.toList j xu.cells.toList).length = ce.size := by
                simp only [splice, List.length_append, List.length_take, List.length_drop, Array.length_toList]; omega
              have hnew := hcs.splice hcells j
              have hrl := live_lt (live_of hst (by simp))
              obtain ⟨h1, h2⟩ := put_rel (ob := .cells (splice cs j vs)) hr hst (by simp) hb hheap (ce := (splice ce.toList j xu.cells.toList).toArray) (fun o ho => absurd ho (hA o)) ⟨⟨cs, hst⟩, rfl⟩
                ⟨b, _, e, hb, setRow_heap c.w b ce _ e _ hheap, by
                  refine RelVs.ext (c := c) ?_ _ _ (by simpa using hnew)
                  refine { size := by simp [putC], sub := fun _ _ h => h, cells := fun b' o ho => ?_, len := by simp [putC], keep := fun r' ob' hr' hob => ?_ }
                  · have hbb : b' ≠ b := by rintro rfl; exact hA o ho
                    exact World.cell?_of_block (w := c.w) (setRow_other c.w b b' _ hbb)
                  · simp only [putC] at hob
                    rw [List.getElem?_set] at hob
                    split at hob
                    · next hrr =>
                      subst hrr
                      simp only [hrl, if_true, Option.some.injEq] at hob
                      subst hob
                      exact ⟨⟨cs, hst⟩, rfl⟩
                    · next hrr =>
                      cases ob' with
                      | dead => trivial
                      | cells cs' => exact ⟨⟨cs', hob⟩, rfl⟩
                      | pool m => exact ⟨m, hob⟩
                      | vec t f xs =>
                        refine ⟨f, xs, hob, rfl, rfl, fun b2 n hb2 hrows => ?_⟩
                        obtain ⟨ce', e', fz, g1, g2⟩ := hrows
                        have hne : b2 ≠ b := by
                          rintro rfl
                          exact hrr (hr.inj r r' b2 (live_of hst (by simp)) (live_of hob (by simp)) hb hb2)
                        exact ⟨ce', e', fz, by simp only [putC]; rw [setRow_other _ _ _ _ hne]; exact g1, g2⟩, hA⟩
              exact ⟨_, hrun, rfl, h1, h2⟩
            · cases h
          · cases h
        · cases h
      · next r j k =>
        split at h
        · next τ xs hst =>
          split at h
          · next y hd =>
            split at h
            · next hle =>
              split at h
              · next hone =>
                cases h
                obtain ⟨c1, hw1, hst1, hr1, hx1, hfr⟩ := frzs_sound (vs := vs) hr
                have hvs1 := hfr _ hcells
                have ha1 := RelV.ext hx1 _ _ ha
                rw [← hst1] at hst
                simp only [RelV, hst] at ha1
                obtain ⟨b, hb, rfl, hj⟩ := ha1
                obtain ⟨hp, _, ⟨hn, _⟩ | ⟨b', ce, e, cap, hb', hheap, hcsz, hcap, hrows, hA⟩⟩ := hr1.obj r _ hst
                · rw [hb] at hn; cases hn
                rw [hb] at hb'; cases hb'
                have hy : xs[j]? = some (xs.getD j τ.dflt) := by simp [List.getD, List.getElem?_eq_getElem hj]
                have hrow := hrows j _ hy
                have hrl := hrow.size
                have hmul : (j + 1) * τ.size ≤ xs.length * τ.size := Nat.mul_le_mul_right _ hj
                have hmul2 : xs.length * τ.size ≤ cap * τ.size := Nat.mul_le_mul_right _ hcap
                rw [Nat.add_mul, Nat.one_mul] at hmul
                have hcl : ce.toList.length = cap * τ.size := by simpa using hcsz
                have hxl : xu.cells.toList.length = vs.length := by simpa using hclen
                rw [← hw1] at *
                have hrun := storeVar_run (P := P) hi hs hheap (o := j * τ.size + k) (by rw [hclen]; omega) (all_one hone hcells)
                -- the new row
                have hrow' := hrow.rel.splice hvs1 k
                obtain ⟨us1, us2, hue, hro, hnil⟩ := dec_sound hd hrow'
                simp only [RelVs] at hnil
                subst hnil
                rw [List.append_nil] at hue
                subst hue
                have hlen : (splice ce.toList (j * τ.size + k) xu.cells.toList).length = ce.toList.length := by
                  simp only [splice, List.length_append, List.length_take, List.length_drop, Array.length_toList]; omega
                have hget : ∀ n, n < j * τ.size ∨ (j + 1) * τ.size ≤ n → (splice ce.toList (j * τ.size + k) xu.cells.toList)[n]? = ce.toList[n]? := by
                  intro n hn
                  rw [Nat.add_mul, Nat.one_mul] at hn
                  simp only [splice, List.getElem?_append, List.length_append, List.length_take, List.getElem?_take, List.getElem?_drop]
                  repeat' split
                  all_goals first | rfl | omega | (congr 1; omega)
                have hmid : ((splice ce.toList (j * τ.size + k) xu.cells.toList).drop (j * τ.size)).take τ.size = splice ((ce.toList.drop (j * τ.size)).take τ.size) k xu.cells.toList := by
                  apply List.ext_getElem?
                  intro n
                  simp only [splice, List.getElem?_append, List.length_append, List.length_take, List.getElem?_take, List.getElem?_drop, List.length_drop]
                  repeat' split
                  all_goals first | rfl | omega | (congr 1; omega)
                have hrl2 := live_lt (live_of hst (by simp))
                obtain ⟨h1, h2⟩ := put_rel (ob := .vec τ 0 (xs.set j y)) hr1 hst (by simp) hb hheap (ce := (splice ce.toList (j * τ.size + k) xu.cells.toList).toArray) (fun o ho => absurd ho (hA o (by omega)))
                  ⟨0, xs, hst, by simp, rfl, fun b2 n hb2 hrr => by
                    rw [hb] at hb2; cases hb2
                    obtain ⟨ce', e', fz, g1, g2⟩ := hrr
                    rw [hheap] at g1; cases g1
                    refine ⟨_, e, _, setRow_heap c1.w b ce _ e _ hheap, ?_⟩
                    simp only [List.size_toArray, hlen, ← g2, Array.length_toList]⟩
                  ⟨hp, Nat.zero_le _, .inr ⟨b, _, e, cap, hb, setRow_heap c1.w b ce _ e _ hheap, by simp only [List.size_toArray, hlen, hcl], by simpa using hcap, fun i z hz => by
                    have hext : ∀ {z : τ.den} {us : List Value}, RoV c1.w c1.A τ z us → RoV (putC c1 r b (splice ce.toList (j * τ.size + k) xu.cells.toList).toArray (.vec τ 0 (xs.set j y))).w c1.A τ z us := fun hz =>
                      RoV.ext (fun _ _ h => h) (fun b' o ho => by
                        have hbb : b' ≠ b := by rintro rfl; exact hA o (by omega) ho
                        exact World.cell?_of_block (w := c1.w) (setRow_other c1.w b b' _ hbb)) hz
                    rw [List.getElem?_set] at hz
                    split at hz
                    · next hij =>
                      subst hij
                      simp only [hj, if_true, Option.some.injEq] at hz
                      subst hz
                      simp only [hmid]
                      exact hext hro
                    · next hij =>
                      have hi2 : i < xs.length := (List.getElem?_eq_some_iff.1 hz).1
                      have := hrows i z hz
                      have he : ((splice ce.toList (j * τ.size + k) xu.cells.toList).drop (i * τ.size)).take τ.size = (ce.toList.drop (i * τ.size)).take τ.size := by
                        apply List.ext_getElem?
                        intro n
                        rw [List.getElem?_take, List.getElem?_take]
                        split
                        · next hn =>
                          rw [List.getElem?_drop, List.getElem?_drop]
                          refine hget _ ?_
                          rcases Nat.lt_or_gt_of_ne hij with g | g
                          · right
                            have : (j + 1) * τ.size ≤ i * τ.size := Nat.mul_le_mul_right _ g
                            omega
                          · left
                            have : (i + 1) * τ.size ≤ j * τ.size := Nat.mul_le_mul_right _ g
                            rw [Nat.add_mul, Nat.one_mul] at this
                            omega
                        · rfl
                      simp only [he]
                      exact hext this, fun o ho => hA o ho⟩⟩
                exact ⟨_, hrun, by simp only [putC, hst1], h1, hx1.trans h2⟩
              · cases h
            · cases h
          · cases h
        · cases h
      · cases h
    · cases h
  · cases h

end

theorem estore_sound {P : Program} {w0 : Base} {c : Cfg} (hr : Rel w0 c) {t : TypeId} {av xv : V} {au xu : Value} {q : Option Prop} {st' : List Ob} (h : estoreT P c.st t av xv = some (q, st')) (hq : vc q) (ha : RelV c av au) (hx : RelV c xv xu) :
    ∃ c', (Instr.storeAt t au xu).run P c.w = .ok () c'.w ∧ c'.st = st' ∧ Rel w0 c' ∧ Ext c c' := by
  unfold estoreT at h
  split at h
  · next r i j =>
    split at h
    · next cs hst =>
      split at h
      · next inf q0 ds hi hput =>
        split at h
        · next hs1 =>
          cases h
          simp only [RelV, hst] at ha
          obtain ⟨b, hb, rfl⟩ := ha
          obtain ⟨b', ce, e, hb', hheap, hcs, hA⟩ := hr.obj r _ hst
          rw [hb] at hb'; cases hb'
          obtain ⟨hnew0, hlt, hone⟩ := putAt_rel hput hq (hcs.drop j) hx
          obtain ⟨o1, o2⟩ := one_sound hone hx
          have hlt' : j + i < ce.size := by simp at hlt; omega
          have hs : xu.cells.size = inf.size := by rw [o2, hs1]; rfl
          have hrun := storeVar_run (P := P) hi hs hheap (o := j + i) (by rw [o2]; show j + i + 1 ≤ ce.size; omega) (fun v hv => by rw [o2] at hv; simp at hv; rw [hv]; exact o1)
          have hsp : splice ce.toList (j + i) xu.cells.toList = ce.toList.take j ++ (ce.toList.drop j).set i xu := by
            rw [o2, List.set_eq_take_append_cons_drop, if_pos hlt]
            have e1 : (ce.toList.take (j + i)) = ce.toList.take j ++ (ce.toList.drop j).take i := List.take_add
            simp only [splice]
            rw [e1, List.drop_drop]
            simp [Nat.add_assoc]
          have hlen : (splice ce.toList (j + i) xu.cells.toList).length = ce.size := by
            rw [hsp]; simp; omega
          have hnew : RelVs c (cs.take j ++ ds) (splice ce.toList (j + i) xu.cells.toList) := by rw [hsp]; exact (hcs.take j).append hnew0
          have hrl := live_lt (live_of hst (by simp))
          obtain ⟨h1, h2⟩ := put_rel (ob := .cells (cs.take j ++ ds)) hr hst (by simp) hb hheap (ce := (splice ce.toList (j + i) xu.cells.toList).toArray) (fun o ho => absurd ho (hA o)) ⟨⟨cs, hst⟩, rfl⟩
            ⟨b, _, e, hb, setRow_heap c.w b ce _ e _ hheap, by
              refine RelVs.ext (c := c) ?_ _ _ (by simpa using hnew)
              refine { size := by simp [putC], sub := fun _ _ h => h, cells := fun b' o ho => ?_, len := by simp [putC], keep := fun r' ob' hr' hob => ?_ }
              · have hbb : b' ≠ b := by rintro rfl; exact hA o ho
                exact World.cell?_of_block (w := c.w) (setRow_other c.w b b' _ hbb)
              · simp only [putC] at hob
                rw [List.getElem?_set] at hob
                split at hob
                · next hrr =>
                  subst hrr
                  simp only [hrl, if_true, Option.some.injEq] at hob
                  subst hob
                  exact ⟨⟨cs, hst⟩, rfl⟩
                · next hrr =>
                  cases ob' with
                  | dead => trivial
                  | cells cs' => exact ⟨⟨cs', hob⟩, rfl⟩
                  | pool m => exact ⟨m, hob⟩
                  | vec t f xs =>
                    refine ⟨f, xs, hob, rfl, rfl, fun b2 n hb2 hrows => ?_⟩
                    obtain ⟨ce', e', fz, g1, g2⟩ := hrows
                    have hne : b2 ≠ b := by
                      rintro rfl
                      exact hrr (hr.inj r r' b2 (live_of hst (by simp)) (live_of hob (by simp)) hb hb2)
                    exact ⟨ce', e', fz, by simp only [putC]; rw [setRow_other _ _ _ _ hne]; exact g1, g2⟩, hA⟩
          exact ⟨_, hrun, rfl, h1, h2⟩
        · cases h
      · cases h
    · cases h
  · cases h

end Eng
end Go.Proofs.YtkpplfghhciacaaDoor
