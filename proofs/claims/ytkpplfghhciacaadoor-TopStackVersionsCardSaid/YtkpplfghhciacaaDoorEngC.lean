/-
  Operations that leave memory alone, continued: integers, comparisons, addresses, parts of structs, slices that are read. Conditions: none.
-/
import Derived.Test.YtkpplfghhciacaaDoorEngB
set_option linter.unusedVariables false
set_option linter.unusedSimpArgs false
namespace Go.Proofs.YtkpplfghhciacaaDoor
namespace Eng
open Go.RowKit

def aint (op : BinOp) (k : IntKind) (a b : Int) : Option (Option Prop × Value) :=
  match op with
  | .add => some (none, .int k (k.wrap (a + b)))
  | .sub => some (none, .int k (k.wrap (a - b)))
  | .mul => some (none, .int k (k.wrap (a * b)))
  | .quo => some (some (b ≠ 0), .int k (k.wrap (a.tdiv b)))
  | .rem => some (some (b ≠ 0), .int k (a.tmod b))
  | .and => some (none, .int k (k.wrap (BitVec.ofInt k.bits a &&& BitVec.ofInt k.bits b).toNat))
  | .or => some (none, .int k (k.wrap (BitVec.ofInt k.bits a ||| BitVec.ofInt k.bits b).toNat))
  | .xor => some (none, .int k (k.wrap (BitVec.ofInt k.bits a ^^^ BitVec.ofInt k.bits b).toNat))
  | .eql => some (none, .bool (a == b))
  | .neq => some (none, .bool (a != b))
  | .lss => some (none, .bool (decide (a < b)))
  | .leq => some (none, .bool (decide (a ≤ b)))
  | .gtr => some (none, .bool (decide (a > b)))
  | .geq => some (none, .bool (decide (a ≥ b)))
  | _ => none

def ashift (op : BinOp) (k : IntKind) (a b : Int) : Option (Option Prop × Value) :=
  match op with
  | .shl => some (some (0 ≤ b), .int k (k.wrap (a * 2 ^ (min b.toNat k.bits))))
  | .shr => some (some (0 ≤ b), .int k (a.fdiv (2 ^ (min b.toNat k.bits))))
  | _ => none

theorem aint_sound {P : Program} {op : BinOp} {k : IntKind} {a b : Int} {p : Option Prop} {v : Value} (t : TypeId) (w : World) (h : aint op k a b = some (p, v)) (hp : vc p) :
    (binOp op t (.int k a) (.int k b)).run P w = .ok v w := by
  cases op <;> simp only [aint, Option.some.injEq, Prod.mk.injEq] at h <;> first | (cases h; done) | (obtain ⟨rfl, rfl⟩ := h; simp [binOp, Op.intArith, Op.intDiv, Op.intBits, Op.intCmp, vc] at hp ⊢; try simp [hp])

theorem ashift_sound {P : Program} {op : BinOp} {k k' : IntKind} {a b : Int} {p : Option Prop} {v : Value} (t : TypeId) (w : World) (h : ashift op k a b = some (p, v)) (hp : vc p) :
    (binOp op t (.int k a) (.int k' b)).run P w = .ok v w := by
  cases op <;> simp only [ashift, Option.some.injEq, Prod.mk.injEq] at h <;> first | (cases h; done) | (obtain ⟨rfl, rfl⟩ := h; simp only [vc] at hp; simp [binOp, Op.shift, Int.not_lt.2 hp])

/-- Strings. -/
def astr (op : BinOp) (a b : ByteArray) : Option (Option Prop × Value) :=
  match op with
  | .eql => some (none, .bool (a.toList == b.toList))
  | .neq => some (none, .bool (!(a.toList == b.toList)))
  | .lss => some (none, .bool (Op.bytesLess a.toList b.toList))
  | .leq => some (none, .bool (Op.bytesLess a.toList b.toList || a.toList == b.toList))
  | .gtr => some (none, .bool (!(Op.bytesLess a.toList b.toList || a.toList == b.toList)))
  | .geq => some (none, .bool (!(Op.bytesLess a.toList b.toList)))
  | .add => some (some (((a.size + b.size : Nat) : Int) ≤ IntKind.i64.max), .string (a ++ b))
  | _ => none

theorem astr_sound {P : Program} {op : BinOp} {a b : ByteArray} {p : Option Prop} {v : Value} (t : TypeId) (w : World) (h : astr op a b = some (p, v)) (hp : vc p) :
    (binOp op t (.string a) (.string b)).run P w = .ok v w := by
  cases op <;> simp only [astr, Option.some.injEq, Prod.mk.injEq] at h <;> first | (cases h; done) | (obtain ⟨rfl, rfl⟩ := h; simp only [vc] at hp; simp [binOp, Op.stringOp]; done) | skip
  obtain ⟨rfl, rfl⟩ := h
  simp only [vc] at hp
  simp only [binOp, Op.stringOp]
  rw [if_neg (by omega)]
  rfl

/-- A part of a struct's or an array's cells. -/
def apart (P : Program) (t : TypeId) (cs : List V) (off : Nat) : Option V :=
  match P.underlying t, P.info? t with
  | some d, some i => if isAggD d = true then some (.agg ((cs.drop off).take i.size)) else cs[off]?
  | _, _ => none

theorem apart_sound {P : Program} {c : Cfg} {t : TypeId} {cs : List V} {off : Nat} {v : V} {us : Array Value} (h : apart P t cs off = some v) (hc : RelVs c cs us.toList) :
    ∃ u, (part t us off).run P c.w = .ok u c.w ∧ RelV c v u := by
  unfold apart at h
  split at h
  · next d i hd hi =>
    split at h
    · next hagg =>
      cases h
      refine ⟨.agg (us.extract off (off + i.size)), ?_, ?_⟩
      · simp [part, run_isAgg hd, hagg, run_sizeOf' hi]
      · simp only [RelV]
        refine ⟨_, rfl, ?_⟩
        simpa using (hc.drop off).take i.size
    · next hagg =>
      obtain ⟨u, h1, h2⟩ := hc.get h
      refine ⟨u, ?_, h2⟩
      simp only [Array.getElem?_toList] at h1
      simp [part, run_isAgg hd, hagg, h1]
  · cases h

/-- Go's == on plain values. -/
def aeqFs (P : Program) (rec : TypeId → V → V → Option Bool) (xs ys : List V) : List Field → Option Bool
  | [] => some true
  | f :: fs =>
    if f.name = "_" then aeqFs P rec xs ys fs else
    match apart P f.type xs f.offset, apart P f.type ys f.offset with
    | some a, some b => match rec f.type a b, aeqFs P rec xs ys fs with
      | some r, some r' => some (r && r')
      | _, _ => none
    | _, _ => none

def aeq (P : Program) : Nat → TypeId → V → V → Option Bool
  | 0, _, _, _ => none
  | n + 1, t, a, b => match P.underlying t, a, b with
    | some (.int _), .x (.int k p), .x (.int k' q) => if k = k' then some (p == q) else none
    | some .bool, .x (.bool p), .x (.bool q) => some (p == q)
    | some .string, .x (.string p), .x (.string q) => some (p.toList == q.toList)
    | some (.struct fs), .agg xs, .agg ys => if P.stoodInHeld t = true then none else aeqFs P (aeq P n) xs ys fs.toList
    | _, _, _ => none

theorem aeqFs_sound {P : Program} {c : Cfg} {d : Nat} {rec : TypeId → V → V → Option Bool}
    (hrec : ∀ t a b r ua ub, rec t a b = some r → RelV c a ua → RelV c b ub → (Op.equalIn d t ua ub).run P c.w = .ok r c.w) {xs ys : List V} {us us' : Array Value}
    (hx : RelVs c xs us.toList) (hy : RelVs c ys us'.toList) : ∀ (fs : List Field) (r : Bool), aeqFs P rec xs ys fs = some r → (Op.eqFields d us us' fs).run P c.w = .ok r c.w
  | [], r, h => by simp only [aeqFs, Option.some.injEq] at h; subst h; rfl
  | f :: fs, r, h => by
    simp only [aeqFs] at h
    split at h
    · next e =>
      simp only [Op.eqFields, e, ne_eq, not_true_eq_false, if_false]
      exact aeqFs_sound hrec hx hy fs r h
    · next e =>
      split at h
      · next a b ha hb =>
        split at h
        · next r1 r2 h1 h2 =>
          simp only [Option.some.injEq] at h
          subst h
          obtain ⟨ua, ha1, ha2⟩ := apart_sound (P := P) ha hx
          obtain ⟨ub, hb1, hb2⟩ := apart_sound (P := P) hb hy
          have h3 := hrec _ _ _ _ _ _ h1 ha2 hb2
          have h4 := aeqFs_sound hrec hx hy fs r2 h2
          simp only [Op.eqFields, ne_eq, e, not_false_eq_true, if_true, Sem.run_bind, ha1, hb1, h3, Result.andThen_ok]
          cases r1
          · simp
          · simpa using h4
        · cases h
      · cases h

theorem aeq_sound {P : Program} {c : Cfg} : ∀ (n : Nat) (t : TypeId) (a b : V) (r : Bool) (ua ub : Value), aeq P n t a b = some r → RelV c a ua → RelV c b ub →
    ∀ m, n ≤ m → (Op.equalIn m t ua ub).run P c.w = .ok r c.w
  | 0, t, a, b, r, ua, ub, h, _, _, _, _ => by simp [aeq] at h
  | n + 1, t, a, b, r, ua, ub, h, ha, hb, m, hm => by
    obtain ⟨m, rfl⟩ : ∃ k, m = k + 1 := ⟨m - 1, by omega⟩
    unfold aeq at h
    split at h
    · next hu =>
      simp only [RelV] at ha hb
      subst ha; subst hb
      split at h
      · next e =>
        cases h; subst e
        exact run_equalIn_int c.w m t _ _ _ _ hu
      · cases h
    · next hu =>
      simp only [RelV] at ha hb
      subst ha; subst hb
      cases h
      exact run_equalIn_bool' c.w m t _ _ hu
    · next hu =>
      simp only [RelV] at ha hb
      subst ha; subst hb
      cases h
      exact run_equalIn_string c.w m t _ _ hu
    · next fs xs ys hu =>
      split at h
      · cases h
      · next hst =>
        simp only [RelV] at ha hb
        obtain ⟨us, rfl, hx⟩ := ha
        obtain ⟨us', rfl, hy⟩ := hb
        have hf : P.fieldsOf t = fs := by simp [Program.fieldsOf, hu]
        rw [run_equalIn_struct c.w m t us us' (by rw [hf]; exact hu) (by simpa using hst), hf]
        exact aeqFs_sound (fun t a b r ua ub h1 h2 h3 => aeq_sound n t a b r ua ub h1 h2 h3 m (by omega)) hx hy fs.toList r h
    · cases h

/-- A binary operation on plain values. -/
def abin (P : Program) (op : BinOp) (t : TypeId) (a b : V) : Option (Option Prop × V) :=
  match a, b with
  | .x (.int k m), .x (.int k' n) =>
    match op with
    | .shl => (ashift .shl k m n).map fun r => (r.1, .x r.2)
    | .shr => (ashift .shr k m n).map fun r => (r.1, .x r.2)
    | op => if k = k' then (aint op k m n).map fun r => (r.1, .x r.2) else none
  | .x (.string s), .x (.string s') => (astr op s s').map fun r => (r.1, .x r.2)
  | .x (.bool p), .x (.bool q) => match op, P.underlying t with
    | .eql, some .bool => some (none, .x (.bool (p == q)))
    | .neq, some .bool => some (none, .x (.bool (!(p == q))))
    | _, _ => none
  | .agg xs, .agg ys => if P.eqGuardType P.depth t = true then none else match op, aeq P 100 t (.agg xs) (.agg ys) with
    | .eql, some r => some (none, .x (.bool r))
    | .neq, some r => some (none, .x (.bool (!r)))
    | _, _ => none
  | _, _ => none

theorem eqGuard_int {P : Program} (op : BinOp) (t : TypeId) (x y : Operand) (k k' : IntKind) (m n : Int) (w : World) : (eqGuard op t x y (.int k m) (.int k' n)).run P w = .ok () w := by
  cases op <;> simp [eqGuard]
theorem eqGuard_str {P : Program} (op : BinOp) (t : TypeId) (x y : Operand) (m n : ByteArray) (w : World) : (eqGuard op t x y (.string m) (.string n)).run P w = .ok () w := by
  cases op <;> simp [eqGuard]
theorem eqGuard_bool {P : Program} (op : BinOp) (t : TypeId) (x y : Operand) (m n : Bool) (w : World) : (eqGuard op t x y (.bool m) (.bool n)).run P w = .ok () w := by
  cases op <;> simp [eqGuard]

theorem abin_sound {P : Program} {c : Cfg} {op : BinOp} {t : TypeId} {a b : V} {p : Option Prop} {v : V} {ua ub : Value} (h : abin P op t a b = some (p, v)) (hp : vc p) (ha : RelV c a ua) (hb : RelV c b ub) (x y : Operand) :
    ∃ u, ((do eqGuard op t x y ua ub; binOp op t ua ub : Sem Value)).run P c.w = .ok u c.w ∧ RelV c v u := by
  unfold abin at h
  split at h
  · next k m k' n =>
    simp only [RelV] at ha hb
    subst ha; subst hb
    split at h
    · simp only [Option.map_eq_some_iff] at h
      obtain ⟨⟨p', v'⟩, h1, h2⟩ := h
      cases h2
      exact ⟨v', by simp [eqGuard_int, ashift_sound t c.w h1 hp], by simp only [RelV]⟩
    · simp only [Option.map_eq_some_iff] at h
      obtain ⟨⟨p', v'⟩, h1, h2⟩ := h
      cases h2
      exact ⟨v', by simp [eqGuard_int, ashift_sound t c.w h1 hp], by simp only [RelV]⟩
    · split at h
      · next e =>
        subst e
        simp only [Option.map_eq_some_iff] at h
        obtain ⟨⟨p', v'⟩, h1, h2⟩ := h
        cases h2
        exact ⟨v', by simp [eqGuard_int, aint_sound t c.w h1 hp], by simp only [RelV]⟩
      · cases h
  · simp only [RelV] at ha hb
    subst ha; subst hb
    simp only [Option.map_eq_some_iff] at h
    obtain ⟨⟨p', v'⟩, h1, h2⟩ := h
    cases h2
    exact ⟨v', by simp [eqGuard_str, astr_sound t c.w h1 hp], by simp only [RelV]⟩
  · next p q =>
    simp only [RelV] at ha hb
    subst ha; subst hb
    split at h
    · next hu =>
      cases h
      exact ⟨.bool (p == q), by simp [eqGuard_bool, binOp, Op.equal, Op.maxDepth, run_equalIn_bool' c.w 9999 t _ _ hu], by simp only [RelV]⟩
    · next hu =>
      cases h
      exact ⟨.bool (!(p == q)), by simp [eqGuard_bool, binOp, Op.equal, Op.maxDepth, run_equalIn_bool' c.w 9999 t _ _ hu], by simp only [RelV]⟩
    · cases h
  · next xs ys =>
    split at h
    · cases h
    · next hg =>
      have hg' : P.eqGuardType P.depth t = false := by simpa using hg
      split at h
      · next r hq =>
        cases h
        have h1 := aeq_sound (P := P) 100 t _ _ r ua ub hq ha hb 10000 (by omega)
        simp only [RelV] at ha hb
        obtain ⟨us, rfl, hx⟩ := ha
        obtain ⟨us', rfl, hy⟩ := hb
        exact ⟨.bool r, by simp only [Sem.run_bind, run_eqGuard_agg c.w _ t x y us us' hg', Result.andThen_ok, run_eql_struct, h1], by simp only [RelV]⟩
      · next r hq =>
        cases h
        have h1 := aeq_sound (P := P) 100 t _ _ r ua ub hq ha hb 10000 (by omega)
        simp only [RelV] at ha hb
        obtain ⟨us, rfl, hx⟩ := ha
        obtain ⟨us', rfl, hy⟩ := hb
        exact ⟨.bool (!r), by simp only [Sem.run_bind, run_eqGuard_agg c.w _ t x y us us' hg', Result.andThen_ok, run_neq_struct, h1], by simp only [RelV]⟩
      · cases h
  · cases h

/-- A pointer moved by some cells. -/
def amove (n : Nat) : V → Option V
  | .cl r i => some (.cl r (i + n))
  | .el r i j => some (.el r i (j + n))
  | .rc cs j => some (.rc cs (j + n))
  | _ => none

theorem add_addr (b o n : Nat) : (⟨b, o, none⟩ : Addr).add n = ⟨b, o + n, none⟩ := by unfold Addr.add; split <;> simp_all

theorem amove_sound {c : Cfg} {n : Nat} {a v : V} {u : Value} (h : amove n a = some v) (ha : RelV c a u) :
    ∃ b o, u = .pointer (some ⟨b, o, none⟩) ∧ RelV c v (.pointer (some ⟨b, o + n, none⟩)) := by
  cases a with
  | rc cs j =>
    simp only [amove, Option.some.injEq] at h
    subst h
    simp only [RelV] at ha ⊢
    obtain ⟨b, o, rfl, hc⟩ := ha
    exact ⟨b, o + j, rfl, b, o, by rw [Nat.add_assoc], hc⟩
  | cl r i =>
    simp only [amove, Option.some.injEq] at h
    subst h
    simp only [RelV] at ha ⊢
    split at ha
    · exact ha.elim
    · obtain ⟨b, hb, rfl⟩ := ha
      exact ⟨b, i, rfl, b, hb, rfl⟩
    · obtain ⟨b, o, rfl⟩ := ha
      exact ⟨b, o, rfl, b, o + n, rfl⟩
  | el r i j =>
    simp only [amove, Option.some.injEq] at h
    subst h
    simp only [RelV] at ha ⊢
    split at ha
    · exact ha.elim
    · obtain ⟨b, hb, rfl, hi⟩ := ha
      exact ⟨b, _, rfl, b, hb, by rw [Nat.add_assoc], hi⟩
    · obtain ⟨b, hb, rfl⟩ := ha
      exact ⟨b, _, rfl, b, hb, by rw [Nat.add_right_comm]⟩
    · obtain ⟨b, o, rfl⟩ := ha
      exact ⟨b, o, rfl, b, o + n, rfl⟩
  | _ => simp [amove] at h

end Eng
end Go.Proofs.YtkpplfghhciacaaDoor
