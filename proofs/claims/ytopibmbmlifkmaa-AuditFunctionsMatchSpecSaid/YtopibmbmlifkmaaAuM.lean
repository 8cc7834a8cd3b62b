/-
  Digests of pairs: multiplication by doubling, and the functions that compute with it. Conditions: none.
-/
import Derived.Test.YtopibmbmlifkmaaLift
import Derived.Test.YtopibmbmlifkmaaEngX
import Derived.Test.YtopibmbmlifkmaaEngV
set_option linter.unusedVariables false
namespace Go.Proofs.Ytopibmbmlifkmaa
open Eng
namespace Au

theorem drop_cons {α : Type} {l : List α} {i : Nat} (d : α) (h : i < l.length) : l.drop i = l.getD i d :: l.drop (i + 1) := by
  rw [List.drop_eq_getElem_cons h, List.getD_eq_getElem?_getD, List.getElem?_eq_getElem h]; rfl
theorem getD_mem {α : Type} {l : List α} {i : Nat} (d : α) (h : i < l.length) : l.getD i d ∈ l := by
  rw [List.getD_eq_getElem?_getD, List.getElem?_eq_getElem h]; exact List.getElem_mem h

theorem take_snoc {α : Type} {l : List α} {i : Nat} (d : α) (h : i < l.length) : l.take (i + 1) = l.take i ++ [l.getD i d] := by
  rw [List.take_succ_eq_append_getElem h, List.getD_eq_getElem?_getD, List.getElem?_eq_getElem h]; rfl

theorem fits_of {n : Nat} (h : n ≤ 1000) : fits n := by unfold fits; omega
theorem bool_iff {a b : Bool} (h : a = true ↔ b = true) : a = b := by cases a <;> cases b <;> simp_all

/-- A digest. -/
def dg (a : Int) : Prop := 0 ≤ a ∧ a < 2305843009213693951
/-- The digest of two digests. -/
def pr (a b : Int) : Int := (a * 1000003 + b * 31 + 7) % 2305843009213693951

theorem pr_dg (a b : Int) : dg (pr a b) := by unfold dg pr; omega

theorem bit1 (b : Nat) : (BitVec.ofInt 64 (b : Int) &&& BitVec.ofInt 64 1).toNat = b % 2 := by
  rw [BitVec.toNat_and]
  have h1 : (BitVec.ofInt 64 (1 : Int)).toNat = 1 := by decide
  rw [h1, Nat.and_one_is_mod]
  simp only [BitVec.ofInt_natCast, BitVec.toNat_ofNat]
  omega

theorem half1 (b : Nat) : (b : Int).fdiv (2 ^ (min (1 : Int).toNat 64)) = ((b / 2 : Nat) : Int) := by
  show (b : Int).fdiv 2 = _
  rw [Int.fdiv_eq_ediv_of_nonneg _ (by omega)]
  omega

/-- One round of the multiplication. -/
theorem step1 {a out : Int} {b : Nat} (hb : b % 2 = 1) : ((out + a) % 2305843009213693951 + (2 * a % 2305843009213693951) * ((b / 2 : Nat) : Int)) % 2305843009213693951 = (out + a * b) % 2305843009213693951 := by
  have e : out + a * (b : Int) = (out + a) + 2 * a * ((b / 2 : Nat) : Int) := by
    have h : (b : Int) = 2 * ((b / 2 : Nat) : Int) + 1 := by omega
    generalize hk : ((b / 2 : Nat) : Int) = k at h ⊢
    rw [h, Int.mul_add, Int.mul_one, Int.mul_left_comm, Int.mul_assoc]; omega
  rw [e, Int.add_emod, Int.emod_emod, Int.mul_emod, Int.emod_emod, ← Int.mul_emod, ← Int.add_emod]

theorem step0 {a out : Int} {b : Nat} (hb : b % 2 = 0) : (out + (2 * a % 2305843009213693951) * ((b / 2 : Nat) : Int)) % 2305843009213693951 = (out + a * b) % 2305843009213693951 := by
  have e : out + a * (b : Int) = out + 2 * a * ((b / 2 : Nat) : Int) := by
    have h : (b : Int) = 2 * ((b / 2 : Nat) : Int) := by omega
    generalize hk : ((b / 2 : Nat) : Int) = k at h ⊢
    rw [h, Int.mul_left_comm, Int.mul_assoc]
  rw [e, Int.add_emod, Int.mul_emod, Int.emod_emod, ← Int.mul_emod, ← Int.add_emod]

theorem tmod_pos {a : Int} (h : 0 ≤ a) : a.tmod 2305843009213693951 = a % 2305843009213693951 := Int.tmod_eq_emod_of_nonneg h

theorem mul_loop {K : Int → Prop} : ∀ (fu b : Nat) (a out : Int), b < 2 ^ fu → fu ≤ 60 → dg a → dg out → K ((out + a * b) % 2305843009213693951) → L.digest_mul_L1_R (fu + 1) a b out K
  | fu, b, a, out, hb, hf, ha, ho, hK => by
    have hlt : (2 : Nat) ^ fu ≤ 2 ^ 60 := Nat.pow_le_pow_right (by omega) hf
    have h60 : (2 : Nat) ^ 60 = 1152921504606846976 := by decide
    show L.digest_mul_L1_b a b out _ _
    unfold L.digest_mul_L1_b
    obtain ⟨ha1, ha2⟩ := ha
    obtain ⟨ho1, ho2⟩ := ho
    rcases Nat.eq_zero_or_pos b with rfl | hpos
    · refine cond_f (by simp) ?_
      have : (out + a * ((0 : Nat) : Int)) % 2305843009213693951 = out := by
        simp only [Int.natCast_zero, Int.mul_zero, Int.add_zero]; omega
      rw [this] at hK
      exact hK
    · refine cond_t (by simp; omega) ?_
      obtain ⟨f, rfl⟩ : ∃ f, fu = f + 1 := by
        cases fu with
        | zero => omega
        | succ f => exact ⟨f, rfl⟩
      have hb2 : b / 2 < 2 ^ f := by rw [Nat.pow_succ] at hb; omega
      rw [bit1, half1]
      rw [i64_id (n := (2 : Int) * a) (by omega) (by omega), tmod_pos (by omega)]
      have hda : dg (2 * a % 2305843009213693951) := by unfold dg; omega
      rcases Nat.mod_two_eq_zero_or_one b with h | h
      · rw [h]
        refine cond_f (by decide) ⟨by decide, by decide, ?_⟩
        refine mul_loop f (b / 2) _ out hb2 (by omega) hda ⟨ho1, ho2⟩ ?_
        rw [step0 h]; exact hK
      · rw [h]
        refine cond_t (by decide) ⟨by decide, by decide, by decide, ?_⟩
        rw [i64_id (n := out + a) (by omega) (by omega), tmod_pos (by omega)]
        refine mul_loop f (b / 2) _ _ hb2 (by omega) hda (by unfold dg; omega) ?_
        rw [step1 h]; exact hK

theorem mul_ok {a : Int} {b : Nat} (ha : dg a) (hb : b < 1048576) {K : Int → Prop} (hK : K (a * b % 2305843009213693951)) : L.digest_mul a b K :=
  ⟨⟨⟨21, mul_loop 20 b a 0 hb (by omega) ha ⟨by omega, by omega⟩ (by rw [Int.zero_add]; exact hK)⟩⟩⟩

theorem prod_loop {K : Int → Prop} : ∀ (fu b : Nat) (a out : Int), b < 2 ^ fu → fu ≤ 60 → dg a → dg out → K ((out + a * b) % 2305843009213693951) → L.ref8_product_L1_R (fu + 1) a b out K
  | fu, b, a, out, hb, hf, ha, ho, hK => by
    have hlt : (2 : Nat) ^ fu ≤ 2 ^ 60 := Nat.pow_le_pow_right (by omega) hf
    have h60 : (2 : Nat) ^ 60 = 1152921504606846976 := by decide
    show L.ref8_product_L1_b a b out _ _
    unfold L.ref8_product_L1_b
    obtain ⟨ha1, ha2⟩ := ha
    obtain ⟨ho1, ho2⟩ := ho
    rcases Nat.eq_zero_or_pos b with rfl | hpos
    · refine cond_f (by simp) ?_
      have : (out + a * ((0 : Nat) : Int)) % 2305843009213693951 = out := by
        simp only [Int.natCast_zero, Int.mul_zero, Int.add_zero]; omega
      rw [this] at hK
      exact hK
    · refine cond_t (by simp; omega) ⟨by decide, ?_⟩
      obtain ⟨f, rfl⟩ : ∃ f, fu = f + 1 := by
        cases fu with
        | zero => omega
        | succ f => exact ⟨f, rfl⟩
      have hb2 : b / 2 < 2 ^ f := by rw [Nat.pow_succ] at hb; omega
      have e2 : i64 ((b : Int).tdiv 2) = ((b / 2 : Nat) : Int) := by
        have : (b : Int).tdiv 2 = ((b / 2 : Nat) : Int) := by rw [Int.tdiv_eq_ediv_of_nonneg (by omega)]; omega
        rw [this]
        exact i64_id (by omega) (by omega)
      have e1 : (b : Int).tmod 2 = ((b % 2 : Nat) : Int) := by rw [Int.tmod_eq_emod_of_nonneg (by omega)]; omega
      rw [e1, e2]
      rw [i64_id (n := (2 : Int) * a) (by omega) (by omega), tmod_pos (by omega)]
      have hda : dg (2 * a % 2305843009213693951) := by unfold dg; omega
      rcases Nat.mod_two_eq_zero_or_one b with h | h
      · rw [h]
        refine cond_f (by decide) ⟨by decide, by decide, ?_⟩
        refine prod_loop f (b / 2) _ out hb2 (by omega) hda ⟨ho1, ho2⟩ ?_
        rw [step0 h]; exact hK
      · rw [h]
        refine cond_t (by decide) ⟨by decide, by decide, by decide, ?_⟩
        rw [i64_id (n := out + a) (by omega) (by omega), tmod_pos (by omega)]
        refine prod_loop f (b / 2) _ _ hb2 (by omega) hda (by unfold dg; omega) ?_
        rw [step1 h]; exact hK

theorem prod_ok {a : Int} {b : Nat} (ha : dg a) (hb : b < 1048576) {K : Int → Prop} (hK : K (a * b % 2305843009213693951)) : L.ref8_product a b K :=
  ⟨⟨⟨21, prod_loop 20 b a 0 hb (by omega) ha ⟨by omega, by omega⟩ (by rw [Int.zero_add]; exact hK)⟩⟩⟩

theorem refPair_ok {a b : Int} (ha : dg a) (hb : dg b) {K : Int → Prop} (hK : K (pr a b)) : L.ref8_Pair a b K := by
  constructor
  unfold L.ref8_Pair_B
  refine prod_ok (b := 1000003) ha (by omega) (prod_ok (b := 31) hb (by omega) ⟨by decide, ?_⟩)
  rw [i64_id (n := a * ((1000003 : Nat) : Int) % 2305843009213693951 + b * ((31 : Nat) : Int) % 2305843009213693951) (by omega) (by omega), i64_id (by omega) (by omega), tmod_pos (by omega)]
  have : (a * ((1000003 : Nat) : Int) % 2305843009213693951 + b * ((31 : Nat) : Int) % 2305843009213693951 + 7) % 2305843009213693951 = pr a b := by unfold pr; omega
  rw [this]; exact hK

theorem next_ok {s0 s1 : Int} {f : Nat} (h0 : dg s0) (h1 : 0 ≤ s1 ∧ s1 ≤ 2305843009213693951) (hf : f < 1048576) {K : Int → Prop} (hK : K ((s0 * f % 2305843009213693951 + s1) % 2305843009213693951)) : L.digest_next s0 s1 f K := by
  constructor
  unfold L.digest_next_B
  refine ⟨inB_of (by omega) (by omega), mul_ok h0 hf ⟨inB_of (by omega) (by omega), by decide, ?_⟩⟩
  rw [i64_id (by omega) (by omega), tmod_pos (by omega)]
  exact hK

theorem pair_ok {a b : Int} (ha : dg a) (hb : dg b) {K : Int → Prop} (hK : K (pr a b)) : L.digest_pair a b K := by
  constructor
  unfold L.digest_pair_B
  refine next_ok (f := 31) hb (by omega) (by omega) (next_ok (f := 1000003) ha (by omega) (by omega) ?_)
  have : (a * ((1000003 : Nat) : Int) % 2305843009213693951 + (b * ((31 : Nat) : Int) % 2305843009213693951 + 7) % 2305843009213693951) % 2305843009213693951 = pr a b := by unfold pr; omega
  rw [this]; exact hK

/-- Whether it is a digest. -/
def vd (c : Int) : Bool := decide (0 ≤ c ∧ c < 2305843009213693951)
theorem vd_iff {c : Int} : vd c = true ↔ dg c := by unfold vd dg; simp

theorem is_ok {n : Int} {K : Bool → Prop} (hK : K (vd n)) : L.digest_is n K := by
  constructor
  unfold L.digest_is_B
  have : (bif (decide (n ≥ 0)) then (decide (n < 2305843009213693951)) else false) = vd n := bool_iff (by simp [vd])
  rw [this]; exact hK
theorem isDigest_ok {n : Int} {K : Bool → Prop} (hK : K (vd n)) : L.signing_IsDigest n K := by
  constructor
  unfold L.signing_IsDigest_B
  have : (bif (decide (n ≥ 0)) then (decide (n < 2305843009213693951)) else false) = vd n := bool_iff (by simp [vd])
  rw [this]; exact hK
theorem isDigest2_ok {n : Int} {K : Bool → Prop} (hK : K (vd n)) : L.audit_isDigest n K := by
  constructor
  unfold L.audit_isDigest_B
  have : (bif (decide (n ≥ 0)) then (decide (n < 2305843009213693951)) else false) = vd n := bool_iff (by simp [vd])
  rw [this]; exact hK

theorem Pair_ok {a b : Int} (ha : dg a) (hb : dg b) {K : Int → Int → Int → Prop} (hK : K (pr a b) 0 0) : L.digest_Pair a b K := by
  refine ⟨⟨⟨3, ?_⟩⟩⟩
  show L.digest_Pair_L1_b a b 0 _ _ _
  unfold L.digest_Pair_L1_b
  refine cond_t (by decide) ⟨inB_of (by omega) (by omega), is_ok ?_⟩
  have h1 : vd ((([a, b] : List Int).getD (0 : Int).toNat 0)) = true := vd_iff.2 ha
  rw [h1]
  refine cond_f rfl ?_
  rw [i64_id (by omega) (by omega)]
  show L.digest_Pair_L1_b a b (0 + 1) _ _ _
  unfold L.digest_Pair_L1_b
  refine cond_t (by decide) ⟨inB_of (by omega) (by omega), is_ok ?_⟩
  have h2 : vd ((([a, b] : List Int).getD (0 + 1 : Int).toNat 0)) = true := vd_iff.2 hb
  rw [h2]
  refine cond_f rfl ?_
  rw [i64_id (by omega) (by omega)]
  show L.digest_Pair_L1_b a b (0 + 1 + 1) _ _ _
  unfold L.digest_Pair_L1_b
  exact cond_f (by decide) (pair_ok ha hb hK)

theorem tpair_ok {a b : Int} (ha : dg a) (hb : dg b) {K : Int → Prop} (hK : K (pr a b)) : L.translog_pair a b K := ⟨Pair_ok ha hb hK⟩

/-- A record: time, user, action, chain. -/
abbrev R := Int × (Int × (Int × Int))

/-- Whether the fields are in their ranges, but for the chain. -/
def vr (t u a : Int) : Bool := decide (0 ≤ t ∧ t ≤ 100000 ∧ 0 ≤ u ∧ u ≤ 7 ∧ 0 ≤ a ∧ a ≤ 1000000000)
theorem vr_iff {t u a : Int} : vr t u a = true ↔ 0 ≤ t ∧ t ≤ 100000 ∧ 0 ≤ u ∧ u ≤ 7 ∧ 0 ≤ a ∧ a ≤ 1000000000 := by unfold vr; simp

theorem inRange_ok {t u a c : Int} {K : Bool → Prop} (hK : K (vr t u a)) : L.audit_inRange t u a c K := by
  constructor
  unfold L.audit_inRange_B
  have : (bif (bif (bif (bif (bif (decide (t ≥ 0)) then (decide (t ≤ 100000)) else false) then (decide (u ≥ 0)) else false) then (decide (u ≤ 7)) else false) then (decide (a ≥ 0)) else false) then (decide (a ≤ 1000000000)) else false) = vr t u a := bool_iff (by simp [vr]; omega)
  rw [this]; exact hK

theorem RecordValid_ok {t u a c : Int} {K : Bool → Prop} (hK : K (vr t u a && vd c)) : L.ref8_RecordValid t u a c K := by
  constructor
  unfold L.ref8_RecordValid_B
  have : (bif (bif (bif (bif (bif (bif (bif (decide (t ≥ 0)) then (decide (t ≤ 100000)) else false) then (decide (u ≥ 0)) else false) then (decide (u ≤ 7)) else false) then (decide (a ≥ 0)) else false) then (decide (a ≤ 1000000000)) else false) then (decide (c ≥ 0)) else false) then (decide (c < 2305843009213693951)) else false) = (vr t u a && vd c) := bool_iff (by simp [vr, vd]; omega)
  rw [this]; exact hK

/-- The chain value of a record. -/
def ch (d t u a : Int) : Int := pr (pr d (8 * t + u)) a
theorem ch_dg (d t u a : Int) : dg (ch d t u a) := pr_dg _ _

theorem chain_ok {d t u a c : Int} (hd : dg d) (hr : vr t u a = true) {K : Int → Prop} (hK : K (ch d t u a)) : L.audit_chain d t u a c K := by
  have h := vr_iff.1 hr
  constructor
  unfold L.audit_chain_B
  rw [i64_id (n := (8 : Int) * t) (by omega) (by omega), i64_id (by omega) (by omega)]
  exact Pair_ok hd (by unfold dg; omega) (Pair_ok (pr_dg _ _) (by unfold dg; omega) hK)

theorem Chain_ok {d t u a c : Int} (hd : dg d) (hr : vr t u a = true) {K : Int → Prop} (hK : K (ch d t u a)) : L.ref8_Chain d t u a c K := by
  have h := vr_iff.1 hr
  constructor
  unfold L.ref8_Chain_B
  rw [i64_id (n := (8 : Int) * t) (by omega) (by omega), i64_id (by omega) (by omega)]
  exact refPair_ok hd (by unfold dg; omega) (refPair_ok (pr_dg _ _) (by unfold dg; omega) hK)

theorem Fault_ok {a b : Int} {K : Int → Int → Prop} (hK : K a b) : L.ref8_Fault a b K := ⟨hK⟩

end Au
end Go.Proofs.Ytopibmbmlifkmaa
