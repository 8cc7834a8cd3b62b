/-
  What a step and a run compute. Conditions: none.
-/
import Derived.Test.YtpfcgenmgddgpaaMqE
import Derived.Test.YtpfcgenmgddgpaaLift2
namespace Go.Proofs.Ytpfcgenmgddgpaa
open Eng
namespace Mq

abbrev St := List Ent × (List Int × List Int)
abbrev Ev := Int × (Int × Int)

def set2 (w : Nat) (es : List Ent) (ld rj : List Int) : St := (srt w (stl es.length es ld rj).1 [], (stl es.length es ld rj).2)

theorem stl_tot : ∀ (n : Nat) (es : List Ent) (ld rj : List Int), (stl n es ld rj).1.length + (stl n es ld rj).2.1.length + (stl n es ld rj).2.2.length = es.length + ld.length + rj.length
  | 0, es, ld, rj => rfl
  | n + 1, [], ld, rj => rfl
  | n + 1, e :: r, ld, rj => by
    simp only [stl]
    cases (e.2.2.2.1 || e.2.2.2.2.1) with
    | false => simp
    | true =>
      simp only [cond_true]
      cases e.2.2.2.2.1 with
      | true =>
        have := stl_tot n (disc 0 r) ld (rj ++ [e.1])
        simp only [cond_true, disc_len, List.length_append, List.length_cons, List.length_nil] at this ⊢
        omega
      | false =>
        have := stl_tot n (r.map (dea e.1)) (ld ++ [e.1]) rj
        simp only [cond_false, List.length_map, List.length_append, List.length_cons, List.length_nil] at this ⊢
        omega

theorem stl_bd : ∀ (n : Nat) (es : List Ent) (ld rj : List Int), Bd es → Bd (stl n es ld rj).1
  | 0, es, ld, rj, h => h
  | n + 1, [], ld, rj, h => h
  | n + 1, e :: r, ld, rj, h => by
    simp only [stl]
    have hr : Bd r := fun y hy => h y (List.mem_cons_of_mem _ hy)
    cases (e.2.2.2.1 || e.2.2.2.2.1) with
    | false => exact h
    | true =>
      simp only [cond_true]
      cases e.2.2.2.2.1 with
      | true => exact stl_bd n _ _ _ (bd_disc hr 0)
      | false => exact stl_bd n _ _ _ (bd_dea hr _)

theorem srt_len : ∀ (n : Nat) (es : List Ent) (a : List Int), (srt n es a).length = es.length
  | 0, _, _ => rfl
  | _ + 1, [], _ => rfl
  | n + 1, e :: r, a => by simp [srt, srt_len n r]

theorem srt_bd : ∀ (n : Nat) (es : List Ent) (a : List Int), Bd es → a.length + es.length ≤ 1000 → Bd (srt n es a)
  | 0, _, _, h, _ => h
  | _ + 1, [], _, h, _ => h
  | n + 1, e :: r, a, h, hl => by
    simp only [srt]
    simp only [List.length_cons] at hl
    have hr : Bd r := fun y hy => h y (List.mem_cons_of_mem _ hy)
    intro y hy
    rcases List.mem_cons.1 hy with rfl | hy
    · cases (!e.2.2.1 && (!e.2.2.2.1 && !e.2.2.2.2.1)) with
      | true => show a.length ≤ 1000; omega
      | false => exact h e (by simp)
    · exact srt_bd n r _ hr (by simp; omega) y hy

/-- All is small. -/
def Inv (n : Nat) (s : St) : Prop := s.1.length + s.2.1.length + s.2.2.length ≤ n ∧ Bd s.1

theorem set2_inv {n w : Nat} {es : List Ent} {ld rj : List Int} (hn : n ≤ 1000) (h : Inv n (es, (ld, rj))) : Inv n (set2 w es ld rj) := by
  have h1 := h.1
  have h2 := stl_tot es.length es ld rj
  simp only at h1
  refine ⟨?_, srt_bd _ _ _ (stl_bd _ _ _ _ h.2) (by simp; omega)⟩
  simp only [set2, srt_len]
  omega

theorem amn_min (a b : Nat) : amn (a : Int) (b : Int) = ((min a b : Nat) : Int) := by
  unfold amn
  split <;> omega

theorem settle_ok {n w : Nat} {es : List Ent} {ld rj : List Int} {m : Pool} {hs : List HE} (hS : Lay m hs es) (hn : n ≤ 1000) (hI : Inv n (es, (ld, rj))) {K : Pool → Int → List HE → List Int → List Int → Prop}
    (hK : ∀ m' hs', Lay m' hs' (set2 w es ld rj).1 → K m' w hs' (set2 w es ld rj).2.1 (set2 w es ld rj).2.2) : L.mergequeue_queue_settle_h21 m w hs ld rj K := by
  have h1 := hI.1
  simp only at h1
  refine ⟨⟨⟨es.length + 1, ?_⟩⟩⟩
  refine settle_loop (es.length + 1) es.length es ld rj m hs hS hI.2 (Nat.le_refl _) (by omega) (by omega) fun m' hs' hS' => ⟨⟨(stl es.length es ld rj).1.length + 1, ?_⟩⟩
  have h2 := stl_tot es.length es ld rj
  rw [hS'.len, amn_min]
  exact start_loop (n := w) (F := srt w (stl es.length es ld rj).1 []) (N := (stl es.length es ld rj).1.length) (by omega) (fun m2 hs2 hS2 => hK m2 hs2 hS2) _ 0 _ [] m' hs' hS' rfl (by omega) (by omega) (by simp) (by simp)

def vrd (kd : Int) (e : Ent) : Ent := (e.1, (e.2.1, (false, (kd == 3, (kd == 4, e.2.2.2.2.2)))))

/-- A valid event. -/
def step (w : Nat) (s : St) (e : Ev) : St :=
  if e.1 = 1 then set2 w (addE e.2.1 e.2.2 s.1) s.2.1 s.2.2
  else if e.1 = 2 then set2 w (disc (pos e.2.1 s.1).toNat (s.1.take (pos e.2.1 s.1).toNat ++ s.1.drop ((pos e.2.1 s.1).toNat + 1))) s.2.1 s.2.2
  else set2 w (s.1.set (pos e.2.1 s.1).toNat (vrd e.1 (s.1.getD (pos e.2.1 s.1).toNat e0))) s.2.1 s.2.2

theorem pos_nat {c : Int} {es : List Ent} (h : 0 ≤ pos c es) : ∃ (k : Nat) (e : Ent), pos c es = k ∧ es[k]? = some e ∧ e.1 = c := by
  rcases posA_or c es 0 with ⟨h1, _⟩ | ⟨k, e, h1, h2, h3⟩
  · unfold pos at h; omega
  · exact ⟨k, e, by unfold pos; rw [h1]; omega, h2, h3⟩

theorem addE_len (c p : Int) (es : List Ent) : (addE c p es).length = es.length + 1 := by
  have := plc_le p es 0 0 (Nat.le_refl _)
  simp only [addE, disc_len, List.length_append, List.length_take, List.length_drop, List.length_singleton]
  omega

theorem bd_app {a b : List Ent} (h1 : Bd a) (h2 : Bd b) : Bd (a ++ b) := fun e he => (List.mem_append.1 he).elim (h1 e) (h2 e)
theorem bd_take {a : List Ent} (h : Bd a) (k : Nat) : Bd (a.take k) := fun e he => h e (List.mem_of_mem_take he)
theorem bd_drop {a : List Ent} (h : Bd a) (k : Nat) : Bd (a.drop k) := fun e he => h e (List.mem_of_mem_drop he)

theorem addE_inv {n : Nat} {es : List Ent} {ld rj : List Int} {c p : Int} (h : Inv n (es, (ld, rj))) : Inv (n + 1) (addE c p es, (ld, rj)) := by
  have h1 := h.1
  simp only at h1
  refine ⟨by simp only [addE_len]; omega, bd_disc (bd_app (bd_app (bd_take h.2 _) ?_) (bd_drop h.2 _)) _⟩
  intro e he
  rw [List.mem_singleton.1 he]
  simp [new]

theorem cut_inv {n : Nat} {es : List Ent} {ld rj : List Int} {k : Nat} (h : Inv n (es, (ld, rj))) : Inv n (disc k (es.take k ++ es.drop (k + 1)), (ld, rj)) := by
  have h1 := h.1
  simp only at h1
  refine ⟨?_, bd_disc (bd_app (bd_take h.2 _) (bd_drop h.2 _)) _⟩
  simp only [disc_len, List.length_append, List.length_take, List.length_drop]
  omega

theorem vrd_inv {n : Nat} {es : List Ent} {ld rj : List Int} {k : Nat} {kd : Int} {e : Ent} (he : es[k]? = some e) (h : Inv n (es, (ld, rj))) : Inv n (es.set k (vrd kd e), (ld, rj)) := by
  have h1 := h.1
  simp only at h1
  refine ⟨by simpa using h1, fun y hy => ?_⟩
  rcases List.mem_or_eq_of_mem_set hy with g | g
  · exact h.2 y g
  · rw [g]; exact h.2 e (List.mem_of_getElem? he)

theorem step_inv {n w : Nat} {s : St} {e : Ev} (hn : n + 1 ≤ 1000) (h : Inv n s) (hc : e.1 ≠ 1 → 0 ≤ pos e.2.1 s.1) : Inv (n + 1) (step w s e) := by
  have up : ∀ t : St, Inv n t → Inv (n + 1) t := fun t ht => ⟨by have := ht.1; omega, ht.2⟩
  unfold step
  split
  · exact set2_inv hn (addE_inv h)
  · next h1 =>
    split
    · exact up _ (set2_inv (by omega) (cut_inv h))
    · obtain ⟨k, x, h2, h3, _⟩ := pos_nat (hc h1)
      rw [h2, Int.toNat_natCast, getD_of _ h3]
      exact up _ (set2_inv (by omega) (vrd_inv h3 h))

set_option maxHeartbeats 1600000 in
theorem step_ok {n w : Nat} {s : St} {e : Ev} {m : Pool} {hs : List HE} (hS : Lay m hs s.1) (hn : n + 1 ≤ 1000) (hI : Inv n s) (hc : e.1 ≠ 1 → 0 ≤ pos e.2.1 s.1) {K : Pool → Int → List HE → List Int → List Int → Prop}
    (hK : ∀ m' hs', Lay m' hs' (step w s e).1 → K m' w hs' (step w s e).2.1 (step w s e).2.2) : L.mergequeue_queue_step_h19 e.1 e.2.1 e.2.2 m w hs s.2.1 s.2.2 K := by
  have h1 := hI.1
  refine ⟨⟨hS.okRows, ?_⟩⟩
  have hfz : (List.map (fz m (.pair (.int .i64) (.pair (.int .i64) (.pair .bool (.pair .bool (.pair .bool .hnd)))))) hs : List Ent) = s.1 := hS.fz
  rw [hfz]
  refine find_ok (by omega) ?_
  unfold step at hK
  by_cases k1 : e.1 = 1
  · rw [if_pos k1] at hK
    refine cond_t (by simpa using k1) (add_ok hS (by omega) fun hs' hS' => ⟨?_⟩)
    exact settle_ok hS' hn (addE_inv hI) hK
  rw [if_neg k1] at hK
  refine cond_f (by simpa using k1) ?_
  obtain ⟨k, x, p1, p2, _⟩ := pos_nat (hc k1)
  have hk := (List.getElem?_eq_some_iff.1 p2).1
  rw [p1] at hK ⊢
  rw [Int.toNat_natCast] at hK
  by_cases k2 : e.1 = 2
  · rw [if_pos k2] at hK
    refine cond_t (by simpa using k2) (remove_ok hS (by omega) hk fun hs' hS' => discard_ok hS' (by simp; omega) (by simp; omega) fun hs2 hS2 => ⟨?_⟩)
    exact settle_ok hS2 (by omega) (cut_inv hI) hK
  rw [if_neg k2] at hK
  refine cond_f (by simpa using k2) ⟨⟨by omega, by rw [hS.len]; omega⟩, ?_⟩
  rw [Int.toNat_natCast]
  obtain ⟨y, x', q1, q2, q3, q4⟩ := hS.get hk
  rw [p2] at q2
  cases q2
  have hy : hs.getD k (0, (0, (false, (false, (false, Hd.nil))))) = y := getD_of _ q1
  have hkh : k < hs.length := (List.getElem?_eq_some_iff.1 q1).1
  simp only [hy, getD_set_same _ _ _ _ hkh, List.set_set]
  have h6 := hS.upd (m' := m) (x' := (y.1, (y.2.1, (false, (e.1 == 3, (e.1 == 4, y.2.2.2.2.2)))))) (e' := vrd e.1 x) q1 ⟨by
    unfold vrd wr; rw [q3]; rfl, q4⟩ (.inl rfl) (Keeps.refl _ _)
  rw [getD_of _ p2] at hK
  have key := settle_ok h6 (by omega) (vrd_inv p2 hI) hK
  exact ⟨⟨key⟩, ⟨key⟩⟩

def chkE (s : St) (e : Ev) : Int := chk s.1 s.2.1 s.2.2 e.1 e.2.1 e.2.2

theorem chk_pos {s : St} {e : Ev} (h : chkE s e = 0) : e.1 ≠ 1 → 0 ≤ pos e.2.1 s.1 := by
  intro h1
  refine Int.not_lt.1 fun h3 => ?_
  unfold chkE chk at h
  by_cases a : e.1 < 1 ∨ e.1 > 4
  · rw [if_pos a] at h; exact absurd h (by decide)
  rw [if_neg a] at h
  by_cases b : e.2.1 < 1 ∨ e.2.1 > 1000000000 ∨ e.2.2 < 0 ∨ e.2.2 > 3
  · rw [if_pos b] at h; exact absurd h (by decide)
  rw [if_neg b] at h
  by_cases d : e.1 ≠ 1 ∧ e.2.2 ≠ 0
  · rw [if_pos d] at h; exact absurd h (by decide)
  rw [if_neg d, if_neg (fun g => h1 g.1), if_neg (fun g => h1 g.1), if_pos ⟨h1, h3⟩] at h
  exact absurd h (by decide)

def runL (w : Nat) : List Ev → Nat → St → (Int × Int) × St
  | [], _, s => ((0, 0), s)
  | e :: r, i, s => if chkE s e = 0 then runL w r (i + 1) (step w s e) else ((chkE s e, i), ([], ([], [])))

def runQ (w : Int) (evs : List Ev) : (Int × Int) × St :=
  if w < 1 ∨ w > 4 then ((3, -2), ([], ([], []))) else
  if evs.length > 40 then ((2, -1), ([], ([], []))) else runL w.toNat evs 0 ([], ([], []))

theorem run_loop {w : Nat} {evs : List Ev} (hl : evs.length ≤ 40) {Kx : Pool → Int → List HE → List Int → List Int → Prop} {Kr : Pool → Int → Int → Prop} {R : (Int × Int) × St}
    (hx : ∀ m hs, R.1 = (0, 0) → Lay m hs R.2.1 → Kx m w hs R.2.2.1 R.2.2.2) (hr : ∀ m, R.2 = ([], ([], [])) → Kr m R.1.1 R.1.2) : ∀ (fu i : Nat) (s : St) (m : Pool) (hs : List HE), Lay m hs s.1 → Inv i s → i ≤ evs.length → evs.length - i < fu →
    runL w (evs.drop i) i s = R → L.mergequeue_Run_h1_L1_R evs (evs.length : Int) fu i m w hs s.2.1 s.2.2 Kx Kr
  | 0, i, s, m, hs, _, _, _, h, _ => by omega
  | fu + 1, i, s, m, hs, hS, hI, hi, h, he => by
    show L.mergequeue_Run_h1_L1_b evs (evs.length : Int) i m w hs s.2.1 s.2.2 _ Kx Kr
    unfold L.mergequeue_Run_h1_L1_b
    have h1 := hI.1
    rcases Nat.lt_or_ge i evs.length with g | g
    · refine cond_t (by simp; omega) ⟨⟨by omega, by omega⟩, hS.okRows, ?_⟩
      have hfz : (List.map (fz m (.pair (.int .i64) (.pair (.int .i64) (.pair .bool (.pair .bool (.pair .bool .hnd)))))) hs : List Ent) = s.1 := hS.fz
      rw [hfz, Int.toNat_natCast, i64_succ (i := i) (by omega), getD_get _ _ _ g]
      rw [List.drop_eq_getElem_cons g] at he
      simp only [runL] at he
      refine check_ok (by omega) (by omega) (by omega) ?_
      show bif (chkE s evs[i] != 0) then _ else _
      by_cases hc : chkE s evs[i] = 0
      · rw [if_pos hc] at he
        refine cond_f (by simpa using hc) (step_ok hS (n := i) (by omega) hI (chk_pos hc) fun m' hs' hS' => ?_)
        exact run_loop hl hx hr fu (i + 1) (step w s evs[i]) m' hs' hS' (step_inv (by omega) hI (chk_pos hc)) g (by omega) he
      · rw [if_neg hc] at he
        refine cond_t (by simpa using hc) ?_
        subst he
        exact hr m rfl
    · obtain rfl : i = evs.length := by omega
      rw [List.drop_length] at he
      simp only [runL] at he
      subst he
      exact cond_f (by simp) (hx m hs rfl hS)

theorem run_ok {w : Int} {evs : List Ev} {K : List Ent → List Int → List Int → Int → Int → Prop} (hK : K (runQ w evs).2.1 (runQ w evs).2.2.1 (runQ w evs).2.2.2 (runQ w evs).1.1 (runQ w evs).1.2) : L.mergequeue_Run_h1 w evs K := by
  refine ⟨?_⟩
  unfold L.mergequeue_Run_h1_B
  unfold runQ at hK
  by_cases a : w < 1 ∨ w > 4
  · rw [if_pos a] at hK
    exact cond_t (by simp only [bor, Bool.or_eq_true, decide_eq_true_eq]; exact a) hK
  rw [if_neg a] at hK
  refine cond_f (by simp only [bor, Bool.or_eq_false_iff, decide_eq_false_iff_not]; omega) ?_
  by_cases b : evs.length > 40
  · rw [if_pos b] at hK
    exact cond_t (by simp; omega) hK
  rw [if_neg b] at hK
  refine cond_f (by simp; omega) ⟨⟨evs.length + 1, ?_⟩⟩
  obtain ⟨w, rfl⟩ := Int.eq_ofNat_of_zero_le (show 0 ≤ w by omega)
  rw [Int.toNat_natCast] at hK
  have hx : ∀ (m : Pool) (hs : List HE), (runL w evs 0 ([], ([], []))).1 = (0, 0) → Lay m hs (runL w evs 0 ([], ([], []))).2.1 → okRows m TT hs ∧ K (List.map (fz m TT) hs : List Ent) (runL w evs 0 ([], ([], []))).2.2.1 (runL w evs 0 ([], ([], []))).2.2.2 0 0 := fun m hs h1 hS => by
    have hfz : (List.map (fz m TT) hs : List Ent) = _ := hS.fz
    rw [hfz]
    rw [h1] at hK
    exact ⟨hS.okRows, hK⟩
  have hr : ∀ m : Pool, (runL w evs 0 ([], ([], []))).2 = ([], ([], [])) → K [] [] [] (runL w evs 0 ([], ([], []))).1.1 (runL w evs 0 ([], ([], []))).1.2 := fun m h1 => by
    rw [h1] at hK
    exact hK
  exact run_loop (R := runL w evs 0 ([], ([], []))) (by omega) hx hr (evs.length + 1) 0 ([], ([], [])) [] [] (Lay.nil _) ⟨by simp, fun e he => by simp at he⟩ (by omega) (by omega) rfl

end Mq
end Go.Proofs.Ytpfcgenmgddgpaa
