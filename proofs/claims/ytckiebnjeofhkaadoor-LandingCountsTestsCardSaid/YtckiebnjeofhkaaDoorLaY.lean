/-
  Landing and batches: what they answer. Conditions: none.
-/
import Derived.Test.YtckiebnjeofhkaaDoorLaX
set_option linter.unusedVariables false
set_option linter.unusedSimpArgs false
namespace Go.Proofs.YtckiebnjeofhkaaDoor
open Eng Bb
namespace Tp

theorem apL_inv : ∀ (p : Patch) (i : Nat) (t : Tree), (∀ c, c ∈ p → Good c) → Inv t → (apL i p t).2 = (0, 0) → Inv (apL i p t).1
  | [], _, _, _, ht, _ => ht
  | a :: r, i, t, hg, ht, h => by
    rw [apL] at h ⊢
    by_cases c1 : (mk1 a t).1 ≠ 0
    · rw [if_pos c1] at h; exact absurd (congrArg Prod.fst h) c1
    · rw [if_neg c1] at h ⊢
      exact apL_inv r _ _ (fun c hc => hg c (List.mem_cons_of_mem _ hc)) (mk1_inv (hg a (List.mem_cons_self ..)) ht) h

theorem ap_inv {p : Patch} {t : Tree} (h : (ap p t).2 = (0, 0)) : Inv (ap p t).1 := by
  unfold ap at h ⊢
  by_cases c1 : vP p ≠ (0, 0)
  · rw [if_pos c1] at h; exact absurd h c1
  rw [if_neg c1] at h ⊢
  by_cases c2 : sec (val t) (-2) ≠ (0, 0)
  · rw [if_pos c2] at h; exact absurd h c2
  rw [if_neg c2] at h ⊢
  exact apL_inv _ _ _ (vP_good (Decidable.not_not.1 c1)).2 (val_inv (sec_zero val_zero (Decidable.not_not.1 c2))) h

theorem S_inv {ps : List Patch} {cs : List (List Int)} {base : Tree} (hb : Inv base) : ∀ k, Inv (S ps cs base k).1
  | 0 => hb
  | k + 1 => by
    rw [S]
    split
    · rename_i c; exact ap_inv c.1
    · exact S_inv hb k

def psL : Nat → List Patch → Int × Int
  | _, [] => (0, 0)
  | i, p :: r => if sec (vP p) i ≠ (0, 0) then sec (vP p) i else psL (i + 1) r
/-- The fault of the arguments. -/
def openF (ps : List Patch) (cs : List (List Int)) (base : Tree) : Int × Int :=
  if sec (val base) (-2) ≠ (0, 0) then sec (val base) (-2) else if 12 < ps.length then (2, -1) else if psL 0 ps ≠ (0, 0) then psL 0 ps else sec (vf ps.length cs) (-3)

variable {ps : List Patch} {cs : List (List Int)} {base : Tree}

theorem ps_loop (hl : ps.length ≤ 12) {Q : Prop} {K : Int → Int → Prop} : ∀ (fu i : Nat), i ≤ ps.length → ps.length - i < fu → (psL i (ps.drop i) = (0, 0) → Q) → (psL i (ps.drop i) ≠ (0, 0) → K (psL i (ps.drop i)).1 (psL i (ps.drop i)).2) → L.landing_open_h1_L1_R ps (ps.length : Int) fu i Q K
  | 0, i, _, h, _, _ => by omega
  | fu + 1, i, hi, h, hQ, hK => by
    show L.landing_open_h1_L1_b ps _ i _ _ _
    unfold L.landing_open_h1_L1_b
    rcases Nat.lt_or_ge i ps.length with g | g
    · rw [drop_cons ([] : Patch) g, psL] at hK hQ
      refine cond_t (by simp; omega) ⟨inB_of (by omega) (by omega), ?_⟩
      simp only [Int.toNat_natCast]
      refine vPS_ok ?_
      by_cases c : sec (vP (ps.getD i [])) i ≠ (0, 0)
      · rw [if_pos c] at hK
        exact cond_t (fault1 (by exact c)) (hK c)
      · rw [if_neg c] at hK hQ
        refine cond_f (fault0 (Decidable.not_not.1 c)) ?_
        rw [i64_id (by omega) (by omega)]
        exact ps_loop hl fu (i + 1) (by omega) (by omega) hQ hK
    · rw [List.drop_eq_nil_of_le g] at hQ
      exact cond_f (by simp; omega) (hQ rfl)

theorem open_ok (hs : ∀ s, s ∈ cs → big s.length) {K : Int → Int → Prop} {K2 : Int → Int → List Patch → List (List Int) → Int → Tree → List Int → Prop}
    (h1 : openF ps cs base ≠ (0, 0) → K (openF ps cs base).1 (openF ps cs base).2)
    (h2 : openF ps cs base = (0, 0) → ps.length ≤ 12 → Inv base → vf ps.length cs = (0, 0) → K2 0 0 ps cs 0 base (List.replicate ps.length 0)) : L.landing_open_h1 base ps cs K K2 := by
  refine ⟨valS_ok ?_⟩
  unfold openF at h1 h2
  by_cases c1 : sec (val base) (-2) ≠ (0, 0)
  · rw [if_pos c1] at h1; exact cond_t (fault1 (by exact c1)) (h1 c1)
  rw [if_neg c1] at h1 h2
  have c1' := Decidable.not_not.1 c1
  have hb := val_inv (sec_zero val_zero c1')
  refine cond_f (fault0 (by exact c1')) ?_
  by_cases c2 : 12 < ps.length
  · rw [if_pos c2] at h1; exact cond_t (decide_eq_true (by omega)) (h1 (by simp))
  rw [if_neg c2] at h1 h2
  refine cond_f (decide_eq_false (by omega)) ⟨⟨ps.length + 1, ps_loop (by omega) _ 0 (by omega) (by omega) (fun hz => ?_) (fun hz => ?_)⟩⟩
  · rw [List.drop_zero] at hz
    rw [if_neg (fun h => h hz)] at h1 h2
    refine Validate_ok hs ?_
    by_cases c4 : vf ps.length cs = (0, 0)
    · have e : sec (vf ps.length cs) (-3) = (0, 0) := by unfold sec; rw [if_pos c4]
      have hk := h2 e (by omega) hb c4
      refine cond_f (fault0 (by exact c4)) ?_
      rw [Int.toNat_natCast]
      have q : (0 ≤ (ps.length : Int) ∧ (ps.length : Int) ≤ (ps.length : Int) ∧ (ps.length : Int) ≤ 1073741824) := by omega
      have cp : ∀ {k : Tree → Prop}, k base → L.treepatch_CopyTree_h2 base k := fun hk => copy_ok hb.1 (fun f hf => (hb.2 f hf).2) hk
      exact ⟨cp ⟨q, hk⟩, cp ⟨q, hk⟩, q, cp hk⟩
    · have e : sec (vf ps.length cs) (-3) = ((vf ps.length cs).1, -3) := by unfold sec; rw [if_neg c4]
      rw [e] at h1
      exact cond_t (fault1 (by exact c4)) (h1 (by simp))
  · rw [List.drop_zero] at hz ⊢
    rw [if_pos hz] at h1
    exact h1 hz

/-- What is said of all tests. -/
def Facts (ps : List Patch) (cs : List (List Int)) (base : Tree) (s i : Nat) (n : Int) : Prop := 0 ≤ n ∧ n ≤ 2 * (min i ps.length : Nat) ∧ (cs = [] → n * s ≤ i) ∧ (s = 1 → n = (able ps cs base (min i ps.length) : Nat)) ∧ (S ps cs base 0 ≠ S ps cs base (min i ps.length) → 1 ≤ n)

theorem run_loop (hn : ps.length ≤ 12) (hl : big cs.length) (hs : ∀ s, s ∈ cs → big s.length) {s : Nat} (h0 : 1 ≤ s) (h1 : s ≤ 12)
    {K : Tree → List Patch → List (List Int) → List Int → Int → List Int → Prop} (hK : ∀ i codes n, i < ps.length + s → Upto ps cs base ps.length codes → ps.length ≤ i → Facts ps cs base s i n → K (S ps cs base ps.length).1 ps cs (S ps cs base ps.length).2 n codes) :
    ∀ (fu i : Nat) (codes : List Int) (n : Int), ps.length - i < fu → i < ps.length + s → Upto ps cs base (min i ps.length) codes → Facts ps cs base s i n →
      L.landing_run_h19_L1_R ps (s : Int) fu (i : Int) (S ps cs base (min i ps.length)).1 ps cs (S ps cs base (min i ps.length)).2 n codes K
  | 0, i, _, _, h, _, _, _ => by omega
  | fu + 1, i, codes, n, h, hi, hu, hF => by
    show L.landing_run_h19_L1_b ps (s : Int) (i : Int) (S ps cs base (min i ps.length)).1 ps cs (S ps cs base (min i ps.length)).2 n codes _ _
    unfold L.landing_run_h19_L1_b
    rcases Nat.lt_or_ge i ps.length with g | g
    · have em : min i ps.length = i := by omega
      rw [em] at hu ⊢
      have e1 : i64 ((i : Int) + (s : Int)) = ((i + s : Nat) : Int) := by rw [i64_id (by omega) (by omega)]; omega
      have e2 : amn ((i + s : Nat) : Int) (ps.length : Int) = ((min (i + s) ps.length : Nat) : Int) := by unfold amn; split <;> omega
      rw [e1, e2]
      obtain ⟨f0, f1, f2, f3, f4⟩ := hF
      rw [em] at f1 f3 f4
      refine cond_t (decide_eq_true (by omega)) ⟨⟨min (i + s) ps.length - i, proc_ok hn hl hs _ i (min (i + s) ps.length) n codes (by omega) (by omega) (by omega) f0 (by omega) hu (fun codes' n' hu' ht => ?_)⟩⟩
      obtain ⟨t0, t1, t2, t3, t4⟩ := ht
      refine run_loop hn hl hs h0 h1 hK fu (i + s) codes' (n + n') (by omega) (by omega) hu' ⟨by omega, by omega, fun e => ?_, fun e => ?_, fun e => ?_⟩
      · have a1 := f2 e
        have a2 := t2 e
        have a3 : n' * (s : Int) ≤ 1 * (s : Int) := Int.mul_le_mul_of_nonneg_right a2 (by omega)
        rw [Int.add_mul]
        omega
      · subst e
        have em2 : min (i + 1) ps.length = i + 1 := by omega
        rw [em2] at t3 ⊢
        rw [f3 rfl, t3 rfl]
        show _ = ((able ps cs base i + (if (at_ ps i (S ps cs base i).1).2 = (0, 0) then 1 else 0) : Nat) : Int)
        split <;> simp
      · by_cases q : S ps cs base 0 = S ps cs base i
        · rw [q] at e; have := t4 e; omega
        · have := f4 q; omega
    · have em : min i ps.length = ps.length := by omega
      rw [em] at hu ⊢
      exact cond_f (decide_eq_false (by omega)) (hK i codes n hi hu g hF)

/-- What is said of the number of tests at the end. -/
def Count (ps : List Patch) (cs : List (List Int)) (base : Tree) (s : Int) (n : Int) : Prop := 0 ≤ n ∧ n ≤ 2 * ps.length ∧ (cs = [] → n * s ≤ ps.length + s - 1) ∧ (s = 1 → n = (able ps cs base ps.length : Nat)) ∧ (S ps cs base 0 ≠ S ps cs base ps.length → 1 ≤ n)

theorem run_ok (hs : ∀ s, s ∈ cs → big s.length) {size : Int} {K : Int → Int → Int → Tree → List Int → Prop}
    (h1 : openF ps cs base ≠ (0, 0) → K 0 (openF ps cs base).1 (openF ps cs base).2 [] [])
    (h2 : openF ps cs base = (0, 0) → size < 1 ∨ 12 < size → K 0 3 (-4) [] [])
    (h3 : openF ps cs base = (0, 0) → 1 ≤ size → size ≤ 12 → ps.length ≤ 12 → Inv base → vf ps.length cs = (0, 0) → ∀ codes n, Upto ps cs base ps.length codes → Count ps cs base size n → K n 0 0 (S ps cs base ps.length).1 codes) :
    L.landing_run_h19 base ps cs size K := by
  refine ⟨open_ok hs (fun ho => ?_) (fun ho hn hb hv => ?_)⟩
  · exact cond_t (fault1 (by exact ho)) ⟨h1 ho, h1 ho⟩
  · refine cond_f rfl ?_
    by_cases c : size < 1 ∨ 12 < size
    · exact cond_t (by simp only [bor, Bool.or_eq_true, decide_eq_true_eq]; omega) (h2 ho c)
    · refine cond_f (by simp only [bor, Bool.or_eq_false_iff, decide_eq_false_iff_not]; omega) ?_
      obtain ⟨s, rfl⟩ : ∃ s : Nat, size = s := ⟨size.toNat, by omega⟩
      have hcl : big cs.length := big_vf hv
      have hi := S_inv (ps := ps) (cs := cs) hb ps.length
      have cp : ∀ {k : Tree → Prop}, k (S ps cs base ps.length).1 → L.treepatch_CopyTree_h2 (S ps cs base ps.length).1 k := fun hk => copy_ok hi.1 (fun f hf => (hi.2 f hf).2) hk
      have e0 : min 0 ps.length = 0 := by omega
      have := run_loop (ps := ps) (cs := cs) (base := base) hn hcl hs (s := s) (by omega) (by omega) (K := fun l l1 l2 l3 l4 m => (L.treepatch_CopyTree_h2 l (fun r9 => ((K l4 0 0 r9 m) ∧ K l4 0 0 r9 m) ∧ ((K l4 0 0 r9 m) ∧ K l4 0 0 r9 m) ∧ (K l4 0 0 r9 m) ∧ K l4 0 0 r9 m)) ∧ ((L.treepatch_CopyTree_h2 l (fun r10 => (K l4 0 0 r10 m) ∧ K l4 0 0 r10 m)) ∧ L.treepatch_CopyTree_h2 l (fun r11 => K l4 0 0 r11 m)) ∧ (L.treepatch_CopyTree_h2 l (fun r12 => (K l4 0 0 r12 m) ∧ K l4 0 0 r12 m)) ∧ L.treepatch_CopyTree_h2 l (fun r13 => K l4 0 0 r13 m))
        (fun i codes n hi2 hu hge hF => ?_) (ps.length + 1) 0 (List.replicate ps.length 0) 0 (by omega) (by omega) ⟨by simp, fun k hk => by omega⟩ ⟨by omega, by omega, fun _ => by omega, fun _ => by rw [e0]; rfl, fun e => by rw [e0] at e; exact absurd rfl e⟩
      · exact ⟨⟨_, this⟩⟩
      · obtain ⟨f0, f1, f2, f3, f4⟩ := hF
        have em : min i ps.length = ps.length := by omega
        rw [em] at f1 f3 f4
        have hk := h3 ho (by omega) (by omega) hn hb hv codes n hu ⟨f0, f1, fun e => by have := f2 e; omega, fun e => f3 (by omega), f4⟩
        exact ⟨cp ⟨⟨hk, hk⟩, ⟨hk, hk⟩, hk, hk⟩, ⟨cp ⟨hk, hk⟩, cp hk⟩, cp ⟨hk, hk⟩, cp hk⟩

theorem Land_ok (hs : ∀ s, s ∈ cs → big s.length) {K : Int → Int → Tree → List Int → Prop}
    (h1 : openF ps cs base ≠ (0, 0) → K (openF ps cs base).1 (openF ps cs base).2 [] [])
    (h3 : openF ps cs base = (0, 0) → ps.length ≤ 12 → Inv base → vf ps.length cs = (0, 0) → ∀ codes, Upto ps cs base ps.length codes → K 0 0 (S ps cs base ps.length).1 codes) :
    L.landing_Land_h20 base ps cs K :=
  ⟨run_ok hs (fun h => ⟨h1 h, h1 h⟩) (fun _ h => by omega) (fun ho _ _ hn hb hv codes n hu _ => ⟨h3 ho hn hb hv codes hu, h3 ho hn hb hv codes hu⟩)⟩

theorem Batched_ok (hs : ∀ s, s ∈ cs → big s.length) {size : Int} {K : Int → Int → Int → Tree → List Int → Prop}
    (h1 : openF ps cs base ≠ (0, 0) → K 0 (openF ps cs base).1 (openF ps cs base).2 [] [])
    (h2 : openF ps cs base = (0, 0) → size < 1 ∨ 12 < size → K 0 3 (-4) [] [])
    (h3 : openF ps cs base = (0, 0) → 1 ≤ size → size ≤ 12 → ps.length ≤ 12 → Inv base → vf ps.length cs = (0, 0) → ∀ codes n, Upto ps cs base ps.length codes → Count ps cs base size n → K n 0 0 (S ps cs base ps.length).1 codes) :
    L.landing_Batched_h22 base ps cs size K := ⟨run_ok hs h1 h2 h3⟩

def pA (s : ByteArray) : Patch := [(1, (s, (L.str1, ([L.str4], []))))]
def exP : List Patch := [pA L.str3, pA L.str3, pA L.str5]

set_option maxRecDepth 100000 in
theorem ex1 : openF exP [[2]] [] = (0, 0) ∧ openF exP [] [] = (0, 0) := by decide +kernel
set_option maxRecDepth 100000 in
theorem ex2 : code exP [[2]] [] 0 = 0 ∧ code exP [[2]] [] 1 ≠ 0 ∧ code exP [[2]] [] 2 = 11 ∧ (S exP [[2]] [] 3).1.length = 1 := by decide +kernel
set_option maxRecDepth 100000 in
theorem ex3 : code exP [] [] 2 = 0 ∧ (S exP [] [] 3).1.length = 2 ∧ (S exP [] [] 0).2.length ≠ (S exP [] [] 3).2.length := by decide +kernel

end Tp
end Go.Proofs.YtckiebnjeofhkaaDoor
