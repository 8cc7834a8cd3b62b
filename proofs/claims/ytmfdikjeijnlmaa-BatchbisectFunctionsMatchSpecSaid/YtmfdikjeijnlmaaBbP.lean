/-
  The search for culprits: the functions match the specification. Conditions: none.
-/
import Derived.Test.YtmfdikjeijnlmaaBbO
set_option linter.unusedVariables false
set_option maxRecDepth 100000
namespace Go.Proofs.Ytmfdikjeijnlmaa
open Eng
namespace Bb

/-- How many members are missing. -/
def cnt (set s : List Int) : Nat := (s.filter fun k => !has set k).length

theorem cnt_zero {set s : List Int} : ((cnt set s : Int) == 0) = s.all (has set) := by
  apply bool_iff
  rw [beq_iff_eq, List.all_eq_true]
  constructor
  · intro h k hk
    have h0 : (s.filter fun k => !has set k) = [] := List.eq_nil_of_length_eq_zero (by unfold cnt at h; omega)
    rw [List.filter_eq_nil_iff] at h0
    have := h0 k hk
    simpa using this
  · intro h
    have : (s.filter fun k => !has set k) = [] := List.filter_eq_nil_iff.mpr fun k hk => by simp [h k hk]
    unfold cnt; rw [this]; rfl

theorem Failing2_loop {cs : List (List Int)} {set s : List Int} {i : Nat} (hi : i < cs.length) (hb : big cs.length) (he : cs.getD i [] = s) (hl : big s.length) (hc : big set.length) {K : Int → Prop} (hK : K (cnt set s)) :
    ∀ (fu k m : Nat), k ≤ s.length → s.length - k < fu → m ≤ k → m + cnt set (s.drop k) = cnt set s → L.ref8_Failing_L2_R cs set i fu m k K
  | 0, k, m, _, h, _, _ => by omega
  | fu + 1, k, m, hk, h, hm, hs => by
    show L.ref8_Failing_L2_b cs set i m k _ _
    unfold L.ref8_Failing_L2_b
    have hin : inB (i : Int) cs.length := inB_of (by omega) (by omega)
    simp only [Int.toNat_natCast, he]
    unfold big at *
    refine ⟨hin, ?_⟩
    rcases Nat.lt_or_ge k s.length with g | g
    · refine cond_t (by simp; omega) ⟨hin, inB_of (by omega) (by omega), Has_ok hc ?_⟩
      rw [drop_cons (0 : Int) g] at hs
      unfold cnt at hs
      rw [List.filter_cons] at hs
      rw [i64_id (n := (k : Int) + 1) (by omega) (by omega)]
      cases e : has set (s.getD k 0) with
      | true =>
        rw [e] at hs
        simp only [Bool.not_true, Bool.false_eq_true, if_false] at hs
        exact cond_f rfl (Failing2_loop hi hb he hl hc hK fu (k + 1) m (by omega) (by omega) (by omega) hs)
      | false =>
        rw [e] at hs
        simp only [Bool.not_false, if_true, List.length_cons] at hs
        rw [i64_id (n := (m : Int) + 1) (by omega) (by omega)]
        exact cond_t rfl (Failing2_loop hi hb he hl hc hK fu (k + 1) (m + 1) (by omega) (by omega) (by omega) (by unfold cnt; omega))
    · rw [List.drop_eq_nil_of_le g] at hs
      have : m = cnt set s := by simpa [cnt] using hs
      rw [this]
      exact cond_f (by simp; omega) hK

theorem Failing_loop {cs : List (List Int)} {set : List Int} (hb : big cs.length) (hs : ∀ s, s ∈ cs → big s.length) (hc : big set.length) {K : Bool → Prop} : ∀ (fu i : Nat), i ≤ cs.length → cs.length - i < fu → K (fails (cs.drop i) set) →
    L.ref8_Failing_L1_R cs set fu i (K false) K
  | 0, i, _, h, _ => by omega
  | fu + 1, i, hi, h, hK => by
    show L.ref8_Failing_L1_b cs set i _ _ _
    unfold L.ref8_Failing_L1_b
    rcases Nat.lt_or_ge i cs.length with g | g
    · refine cond_t (by simp; omega) ⟨⟨_, Failing2_loop g hb rfl (hs _ (getD_mem [] g)) hc ?_ ((cs.getD i []).length + 1) 0 0 (by omega) (by omega) (by omega) (by simp)⟩⟩
      rw [drop_cons [] g] at hK
      rw [cnt_zero]
      unfold fails at hK
      rw [List.any_cons] at hK
      cases e : (cs.getD i []).all (has set) with
      | true => rw [e] at hK; exact cond_t rfl hK
      | false =>
        rw [e, Bool.false_or] at hK
        unfold big at *
        rw [i64_id (by omega) (by omega)]
        exact cond_f rfl (Failing_loop hb hs hc fu (i + 1) (by omega) (by omega) hK)
    · rw [List.drop_eq_nil_of_le g] at hK
      exact cond_f (by simp; omega) hK

theorem Failing_ok {cs : List (List Int)} {set : List Int} (hb : big cs.length) (hs : ∀ s, s ∈ cs → big s.length) (hc : big set.length) {K : Bool → Prop} (hK : K (fails cs set)) : L.ref8_Failing cs set K :=
  ⟨⟨⟨_, Failing_loop hb hs hc (cs.length + 1) 0 (by omega) (by omega) hK⟩⟩⟩

theorem Landed_ok {cs : List (List Int)} {l : List Int} {c : Int} (hb : big cs.length) (hs : ∀ s, s ∈ cs → big s.length) (hl : l.length ≤ 100) {K : Bool → Prop} (hK : K (!fails cs (l ++ [c]))) : L.ref8_Landed cs l c K := by
  constructor
  unfold L.ref8_Landed_B
  refine ⟨fits_of (by simp; omega), fits_of (by simp; omega), ?_⟩
  rw [List.nil_append]
  exact Failing_ok hb hs (by unfold big; simp; omega) hK

theorem Fault_ok {a b : Int} {K : Int → Int → Prop} (hK : K a b) : L.ref8_Fault a b K := ⟨hK⟩

theorem failsB_iota2 {n : Int} {cs : List (List Int)} (hg : good n cs) (m : Nat) (o : List Int) : fails cs (iota m ++ o) = failsB cs m o := by
  apply bool_iff
  rw [fails_iff, failsB_iff]
  constructor
  · rintro ⟨s, hs, h⟩
    refine ⟨s, hs, fun k hk => ?_⟩
    rcases List.mem_append.mp (h k hk) with g | g
    · exact .inl (mem_iota.mp g).2
    · exact .inr g
  · rintro ⟨s, hs, h⟩
    refine ⟨s, hs, fun k hk => List.mem_append.mpr ?_⟩
    rcases h k hk with g | g
    · exact .inl (mem_iota.mpr ⟨((hg s hs).2 k hk).1, g⟩)
    · exact .inr g

theorem FF_found {n d : Int} {cs : List (List Int)} {o : List Int} (hb : big cs.length) (hs : ∀ s, s ∈ cs → big s.length) (hg : good n cs) (ho : o.length ≤ 100) (hn : n ≤ 16) (h0 : 0 ≤ d) (hd : d < n) (h1 : failsB cs (d + 1) o = true) (h2 : failsB cs d o = false)
    {K : Int → Prop} {Q : Prop} (hK : K d) : ∀ (fu i : Nat), (i : Int) ≤ d → d - i < fu → L.ref8_FirstFailing_L1_R n cs o fu i Q K
  | 0, i, _, h => by omega
  | fu + 1, i, hi, h => by
    show L.ref8_FirstFailing_L1_b n cs o i _ _ _
    unfold L.ref8_FirstFailing_L1_b
    refine cond_t (by simp; omega) ?_
    rw [i64_id (by omega) (by omega)]
    refine rFirst_ok (n := i + 1) (by omega) ⟨fits_of (by rw [iota_len]; omega), Failing_ok hb hs (by unfold big; rw [List.length_append, iota_len]; omega) ?_⟩
    rw [failsB_iota2 hg]
    by_cases e : (i : Int) = d
    · rw [show ((i + 1 : Nat) : Int) = d + 1 from by omega, h1, e]
      exact cond_t rfl hK
    · have : failsB cs ((i + 1 : Nat) : Int) o = false := by
        cases e2 : failsB cs ((i + 1 : Nat) : Int) o with
        | false => rfl
        | true => rw [failsB_mono (m := ((i + 1 : Nat) : Int)) (n := d) (by omega) (fun x hx => .inr hx) e2] at h2; cases h2
      rw [this]
      exact cond_f rfl (FF_found hb hs hg ho hn h0 hd h1 h2 hK fu (i + 1) (by omega) (by omega))

theorem FF_none {n : Int} {cs : List (List Int)} {o : List Int} (hb : big cs.length) (hs : ∀ s, s ∈ cs → big s.length) (hg : good n cs) (ho : o.length ≤ 100) (hn : 0 ≤ n ∧ n ≤ 16) (h2 : failsB cs n o = false)
    {K : Int → Prop} {Q : Prop} (hQ : Q) : ∀ (fu i : Nat), (i : Int) ≤ n → n - i < fu → L.ref8_FirstFailing_L1_R n cs o fu i Q K
  | 0, i, _, h => by omega
  | fu + 1, i, hi, h => by
    show L.ref8_FirstFailing_L1_b n cs o i _ _ _
    unfold L.ref8_FirstFailing_L1_b
    by_cases hlt : (i : Int) < n
    · refine cond_t (by simp; omega) ?_
      rw [i64_id (by omega) (by omega)]
      refine rFirst_ok (n := i + 1) (by omega) ⟨fits_of (by rw [iota_len]; omega), Failing_ok hb hs (by unfold big; rw [List.length_append, iota_len]; omega) ?_⟩
      rw [failsB_iota2 hg]
      have : failsB cs ((i + 1 : Nat) : Int) o = false := by
        cases e2 : failsB cs ((i + 1 : Nat) : Int) o with
        | false => rfl
        | true => rw [failsB_mono (m := ((i + 1 : Nat) : Int)) (n := n) (by omega) (fun x hx => .inr hx) e2] at h2; cases h2
      rw [this]
      exact cond_f rfl (FF_none hb hs hg ho hn h2 hQ fu (i + 1) (by omega) (by omega))
    · exact cond_f (by simp; omega) hQ

theorem FirstFailing_ok {n d : Int} {cs : List (List Int)} {o : List Int} (hb : big cs.length) (hs : ∀ s, s ∈ cs → big s.length) (hg : good n cs) (ho : o.length ≤ 100) (hn : n ≤ 16) (h0 : 0 ≤ d) (hd : d < n) (h1 : failsB cs (d + 1) o = true) (h2 : failsB cs d o = false)
    {K : Int → Prop} (hK : K d) : L.ref8_FirstFailing n cs o K :=
  ⟨⟨⟨_, FF_found hb hs hg ho hn h0 hd h1 h2 hK 17 0 (by omega) (by omega)⟩⟩⟩

theorem FirstFailing_none {n : Int} {cs : List (List Int)} {o : List Int} (hb : big cs.length) (hs : ∀ s, s ∈ cs → big s.length) (hg : good n cs) (ho : o.length ≤ 100) (hn : 0 ≤ n ∧ n ≤ 16) (h2 : failsB cs n o = false) {K : Int → Prop} (hK : K (-1)) : L.ref8_FirstFailing n cs o K :=
  ⟨⟨⟨_, FF_none hb hs hg ho hn h2 hK 17 0 (by omega) (by omega)⟩⟩⟩

/-- There is a first change with which the tests fail. -/
theorem first_spec {n : Int} {cs : List (List Int)} (hn : 0 ≤ n ∧ n ≤ 16) (hg : good n cs) (hf : failsB cs n [] = true) :
    ∃ d, 0 ≤ d ∧ d < n ∧ failsB cs (d + 1) [] = true ∧ failsB cs d [] = false := by
  have h00 := failsB_none hg
  have hpos : 0 < n := by
    rcases Int.lt_or_le 0 n with g | g
    · exact g
    · rw [show n = 0 from by omega, h00] at hf; cases hf
  obtain ⟨d, _, h1, h2, h3, h4⟩ := ms_spec hf (Int.le_refl _) 16 0 (by omega) hpos (by omega) h00
  exact ⟨d, h1, h2, h3, h4⟩

theorem failsB_first {cs : List (List Int)} {d : Int} (h1 : failsB cs (d + 1) [] = true) (h2 : failsB cs d [] = false) (k : Int) : failsB cs k [] = decide (k > d) := by
  by_cases h : k > d
  · rw [decide_eq_true h]
    exact failsB_mono (m := d + 1) (by omega) (fun x hx => .inr hx) h1
  · rw [decide_eq_false h]
    cases e : failsB cs k [] with
    | false => rfl
    | true => rw [failsB_mono (m := k) (n := d) (by omega) (fun x hx => .inr hx) e] at h2; cases h2

theorem ran_loop {d : Int} {K : List Int → Prop} : ∀ (fu : Nat) (low high : Int) (t : List Int), 0 ≤ low → low ≤ high → high ≤ 16 → high - low ≤ fu + 1 → t.length + fu ≤ 100 →
    K (bs (fun k => decide (k > d)) fu low high t).2 → L.law8_BatchbisectFunctionsMatchSpec_L2_R d (fu + 1) low high t K
  | 0, low, high, t, h0, hlh, h16, hf, ht, hK => by
    show L.law8_BatchbisectFunctionsMatchSpec_L2_b d low high t _ _
    unfold L.law8_BatchbisectFunctionsMatchSpec_L2_b
    rw [i64_id (by omega) (by omega)]
    exact cond_f (by simp; omega) hK
  | fu + 1, low, high, t, h0, hlh, h16, hf, ht, hK => by
    show L.law8_BatchbisectFunctionsMatchSpec_L2_b d low high t _ _
    unfold L.law8_BatchbisectFunctionsMatchSpec_L2_b
    rw [i64_id (by omega) (by omega)]
    rw [bs] at hK
    by_cases h : high - low > 1
    · have hm := mid h0 h
      rw [if_pos h] at hK
      refine cond_t (by simp; omega) ⟨by decide, ?_⟩
      rw [i64_id (n := low + high) (by omega) (by omega), i64_id (n := (low + high).tdiv 2) (by omega) (by omega)]
      refine ⟨fits_of (by simp; omega), ?_⟩
      cases e : decide ((low + high).tdiv 2 > d) with
      | true =>
        simp only [e, cond_true] at hK
        exact cond_t rfl (ran_loop fu low _ _ h0 (by omega) (by omega) (by omega) (by simp; omega) hK)
      | false =>
        simp only [e, cond_false] at hK
        exact cond_f rfl (ran_loop fu _ high _ (by omega) (by omega) (by omega) (by omega) (by simp; omega) hK)
    · rw [if_neg h] at hK
      exact cond_f (by simp; omega) hK

theorem greedy_loop {n : Int} {cs : List (List Int)} (hb : big cs.length) (hs : ∀ s, s ∈ cs → big s.length) (hg : good n cs) {K : List Int → Prop} : ∀ (fu : Nat) (c : Int) (out : List Int), 0 ≤ c → n ≤ 16 → n - c ≤ fu → out.length + fu ≤ 100 →
    K (gr cs n fu c out) → L.law8_BatchbisectFunctionsMatchSpec_L1_R n cs (fu + 1) c out K
  | 0, c, out, h0, hn, hf, ho, hK => by
    show L.law8_BatchbisectFunctionsMatchSpec_L1_b n cs c out _ _
    unfold L.law8_BatchbisectFunctionsMatchSpec_L1_b
    exact cond_f (by simp; omega) hK
  | fu + 1, c, out, h0, hn, hf, ho, hK => by
    show L.law8_BatchbisectFunctionsMatchSpec_L1_b n cs c out _ _
    unfold L.law8_BatchbisectFunctionsMatchSpec_L1_b
    rw [gr] at hK
    by_cases h : c < n
    · rw [if_pos h, failsB0 hg] at hK
      refine cond_t (by simp; omega) (Landed_ok hb hs (by omega) ?_)
      rw [i64_id (by omega) (by omega)]
      cases e : fails cs (out ++ [c]) with
      | true =>
        rw [e] at hK
        exact cond_f rfl (greedy_loop hb hs hg fu (c + 1) out (by omega) hn (by omega) (by omega) hK)
      | false =>
        rw [e] at hK
        exact cond_t rfl ⟨fits_of (by simp; omega), greedy_loop hb hs hg fu (c + 1) _ (by omega) hn (by omega) (by simp; omega) hK⟩
    · rw [if_neg h] at hK
      exact cond_f (by simp; omega) hK

theorem fails_rev (cs : List (List Int)) (o : List Int) : fails cs o.reverse = fails cs o :=
  bool_iff (by rw [fails_iff, fails_iff]; simp)
theorem failsB_rev (cs : List (List Int)) (n : Int) (o : List Int) : failsB cs n o.reverse = failsB cs n o :=
  bool_iff (by rw [failsB_iff, failsB_iff]; simp)

theorem found_loop {n : Int} {cs : List (List Int)} (hb : big cs.length) (hs : ∀ s, s ∈ cs → big s.length) (hg : good n cs) (hn : n ≤ 16) {r : List Int} {K : List Int → Prop} (hK : K r.reverse) :
    ∀ (fu : Nat) (c : Int) (out : List Int), 0 ≤ c → c ≤ n → c < fu → out.length + fu ≤ 100 → Min cs n c out → mm cs n fu out = some r → L.law8_BatchbisectFunctionsMatchSpec_L3_R n cs fu out.reverse K
  | 0, c, out, h0, h1, h2, _, h, _ => by omega
  | fu + 1, c, out, h0, h1, h2, hl, h, hm => by
    show L.law8_BatchbisectFunctionsMatchSpec_L3_b n cs out.reverse _ _
    unfold L.law8_BatchbisectFunctionsMatchSpec_L3_b
    rw [mm] at hm
    refine Failing_ok hb hs (by unfold big; simp; omega) ?_
    rw [fails_rev, ← failsB0 hg]
    cases e : failsB cs 0 out with
    | true =>
      rw [e] at hm
      cases hm
      exact cond_f rfl hK
    | false =>
      rw [e] at hm
      have hc : 0 < c := by
        rcases Int.lt_or_le 0 c with g | g
        · exact g
        · have := h.fail; rw [show c = 0 from by omega, e] at this; cases this
      obtain ⟨d, e1, e2, e3, e4, e5⟩ := ms_spec h.fail h1 16 0 (by omega) hc (by omega) e
      simp only [cond_false, e1] at hm
      refine cond_t rfl (FirstFailing_ok hb hs hg (by simp; omega) hn e2 (by omega) (by rw [failsB_rev]; exact e4) (by rw [failsB_rev]; exact e5) ⟨fits_of (by simp; omega), ?_⟩)
      have := found_loop hb hs hg hn hK fu d (out ++ [d]) e2 (by omega) (by omega) (by simp; omega) (h.step h1 e3 e4 e5) hm
      rw [List.reverse_append] at this
      exact this

theorem match_true (n : Int) (cs : List (List Int)) (set : List Int) (hs : ∀ s, s ∈ cs → big s.length) (hc : big set.length) (K : Bool → Prop) (hK : K true) : L.law8_BatchbisectFunctionsMatchSpec n cs set K := by
  have hk : ∀ b, b = true → K b := fun b h => h ▸ hK
  constructor
  unfold L.law8_BatchbisectFunctionsMatchSpec_B
  refine CulpritsFault_ok hs (Fails_any hs hc ?_)
  by_cases hv : vf n cs = (0, 0)
  · have hn := vf_len hv
    have hg := good_of hv
    have hb := big_vf hv
    have hfl : fl n cs set = (if lc n (-1) set = 0 then (fails cs set, 0, 0) else (false, lc n (-1) set, -2)) := by unfold fl; rw [if_pos hv]
    -- all that follows the answers of First and Minimal
    have tail : ∀ (r1 : Int) (r2 : List Int) (c2 i2 : Int) (r3 : List Int) (c3 i3 : Int), L.law8_BatchbisectFunctionsMatchSpec_J3 n cs r1 r2 c2 i2 r3 c3 i3 K →
        L.law8_BatchbisectFunctionsMatchSpec_J1 n cs set (fl n cs set).1 r1 (vf n cs).1 (vf n cs).2 (fl n cs set).2.1 (fl n cs set).2.2 r2 c2 i2 r3 c3 i3 (gr cs n 16 0 []) 0 0 K := by
      intro r1 r2 c2 i2 r3 c3 i3 h3
      have h2 : L.law8_BatchbisectFunctionsMatchSpec_J2 n cs r1 r2 c2 i2 r3 c3 i3 (gr cs n 16 0 []) 0 K := by
        constructor
        unfold L.law8_BatchbisectFunctionsMatchSpec_J2_B
        refine ⟨⟨17, greedy_loop hb hs hg 16 0 [] (by omega) hn.2.1 (by omega) (by simp) ?_⟩⟩
        have hgl := gr_len (cs := cs) (n := n) 16 0 []
        simp only [List.length_nil] at hgl
        exact cond_f rfl (Equal_ok (by unfold big; omega) ⟨cond_f (by simp) h3⟩)
      constructor
      unfold L.law8_BatchbisectFunctionsMatchSpec_J1_B
      rw [hv]
      refine cond_f rfl (SetCode_ok hc ?_)
      by_cases hl : lc n (-1) set = 0
      · rw [hl, hfl, if_pos hl]
        refine cond_f rfl (cond_f rfl (Failing_ok hb hs hc ⟨cond_f (by simp) h2⟩))
      · rw [hfl, if_neg hl]
        exact cond_t (by simpa using hl) (SetCode_ok hc (Fault_ok (cond_f (by simp) h2)))
    cases hf : failsB cs n [] with
    | false =>
      refine First_none hs hv hf (Minimal_none hs hv hf (Greedy_ok hs hv (example_ok (cond_t rfl (Validate_ok hs ⟨cond_f (by simp) (tail _ _ _ _ _ _ _ ?_)⟩)))))
      constructor
      unfold L.law8_BatchbisectFunctionsMatchSpec_J3_B
      exact FirstFailing_none hb hs hg (by simp) ⟨hn.1, hn.2.1⟩ hf (cond_t rfl (Fault_ok (hk _ rfl)))
    | true =>
      obtain ⟨r, hF⟩ := found hv hf
      have hlen := hF.len
      obtain ⟨d, d0, dn, d1, d2⟩ := first_spec ⟨hn.1, hn.2.1⟩ hg hf
      refine First_ok hs hv hf (Minimal_ok hs hv hf hF.found hF.some_ (by omega) (Greedy_ok hs hv (example_ok (cond_t rfl (Validate_ok hs ⟨cond_f (by simp) (tail _ _ _ _ _ _ _ ?_)⟩)))))
      rw [hF.eq]
      constructor
      unfold L.law8_BatchbisectFunctionsMatchSpec_J3_B
      refine FirstFailing_ok hb hs hg (by simp) hn.2.1 d0 dn d1 d2 (cond_f (by simp; omega) ?_)
      have hp : (fun k => failsB cs k []) = fun k => decide (k > d) := funext (failsB_first d1 d2)
      rw [hp]
      have hinv := bs_inv (p := fun k => decide (k > d)) 16 4 0 n [n] (by omega) (by omega) (by omega) (by omega) (by simp; omega) (by simp; omega)
      have h1 : (halves (fun k => decide (k > d)) n).1 = d + 1 := by
        have a := hinv.2.2.1; have b := hinv.2.2.2.1
        unfold halves
        simp only [decide_eq_true_eq, decide_eq_false_iff_not] at a b
        omega
      have h2 : (halves (fun k => decide (k > d)) n).2.length ≤ 5 := by
        have a := hinv.2.2.2.2.2
        unfold halves
        simpa using a
      rw [h1, i64_id (by omega) (by omega), show d + 1 - 1 = d from by omega]
      refine ⟨⟨17, ran_loop 16 0 n [n] (by omega) (by omega) (by omega) (by omega) (by simp) ?_⟩⟩
      refine cond_f (by simp) (Equal_ok (by unfold big; omega) ⟨cond_f (by unfold halves; simp) ⟨⟨⟨17, ?_⟩⟩⟩⟩)
      have hml := hF.mlen
      refine found_loop (r := r) hb hs hg hn.2.1 (cond_t rfl (Equal_ok (by unfold big; omega) (hk _ (by simp)))) 17 n [] hn.1 (Int.le_refl _) (by omega) (by simp) ⟨List.Pairwise.nil, fun k hk => by simp at hk, hf, fun k hk => by simp at hk⟩ hF.found
  · have hfl : fl n cs set = (false, vf n cs) := by unfold fl; rw [if_neg hv]
    rw [hfl]
    refine First_bad hs hv (Minimal_bad hs hv (Greedy_bad hs hv (example_ok (cond_t rfl (Validate_ok hs ⟨cond_f (by simp) ⟨cond_t (vf_code hv) (hk _ (by simp))⟩⟩)))))

end Bb

theorem BatchbisectFunctionsMatchSpec_true (xs : ArgDen [(false, (.int .i64)), (false, (.slice (.slice (.int .i64)))), (false, (.slice (.int .i64)))]) (hw : WfAll _ xs) (K : Bool → Prop) (hK : K true) : L.law8_BatchbisectFunctionsMatchSpec xs.1 xs.2.1 xs.2.2.1 K :=
  Bb.match_true _ _ _ (fun s hs => Bb.big_of (hw.2.1.2 s hs).1) (Bb.big_of hw.2.2.1.1) K hK
end Go.Proofs.Ytmfdikjeijnlmaa
