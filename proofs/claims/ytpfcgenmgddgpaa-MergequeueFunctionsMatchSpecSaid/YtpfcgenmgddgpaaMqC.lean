/-
  What discarding, removing and adding compute. Conditions: none.
-/
import Derived.Test.YtpfcgenmgddgpaaMqB
namespace Go.Proofs.Ytpfcgenmgddgpaa
open Eng
namespace Mq

theorem i64_succ {i : Nat} (h : i ≤ 9223372036854775806) : i64 ((i : Int) + 1) = ((i + 1 : Nat) : Int) := by
  rw [i64_id (by omega) (by omega)]
  omega

def clrE (e : Ent) : Ent := (e.1, (e.2.1, (false, (false, (false, [])))))

def part (a n : Nat) (es : List Ent) : List Ent := es.mapIdx fun k e => if a ≤ k ∧ k < a + n then clrE e else e
/-- The tests from a place on are discarded. -/
def disc (a : Nat) (es : List Ent) : List Ent := es.mapIdx fun k e => if a ≤ k then clrE e else e

theorem disc_len (a : Nat) (es : List Ent) : (disc a es).length = es.length := by simp [disc]

theorem part_zero (a : Nat) (es : List Ent) : part a 0 es = es := by
  apply List.ext_getElem?
  intro k
  simp only [part, List.getElem?_mapIdx]
  cases es[k]? with
  | none => rfl
  | some e => simp; intro h1 h2; omega

theorem part_all {a n : Nat} {es : List Ent} (h : es.length ≤ a + n) : part a n es = disc a es := by
  apply List.ext_getElem?
  intro k
  simp only [part, disc, List.getElem?_mapIdx]
  cases he : es[k]? with
  | none => rfl
  | some e =>
    have := (List.getElem?_eq_some_iff.1 he).1
    simp only [Option.map_some, Option.some.injEq]
    by_cases hk : a ≤ k
    · rw [if_pos ⟨hk, by omega⟩, if_pos hk]
    · rw [if_neg (by omega), if_neg hk]

theorem part_succ {a n : Nat} {es : List Ent} {e : Ent} (he : es[a + n]? = some e) : (part a n es).set (a + n) (clrE e) = part a (n + 1) es := by
  have hlt := (List.getElem?_eq_some_iff.1 he).1
  apply List.ext_getElem?
  intro k
  rw [List.getElem?_set]
  simp only [part, List.getElem?_mapIdx, List.length_mapIdx]
  by_cases hk : a + n = k
  · subst hk
    rw [if_pos rfl, if_pos hlt, he]
    simp only [Option.map_some, Option.some.injEq]
    rw [if_pos (by omega)]
  · rw [if_neg hk]
    cases es[k]? with
    | none => rfl
    | some x =>
      simp only [Option.map_some, Option.some.injEq]
      by_cases h1 : a ≤ k ∧ k < a + n
      · rw [if_pos h1, if_pos (by omega)]
      · rw [if_neg h1, if_neg (by omega)]

theorem disc_loop {a : Nat} {es : List Ent} {m : Pool} (hb : es.length < 4611686018427387904) (ha : a ≤ es.length) {K : List HE → Prop} (hK : ∀ hs', Lay m hs' (disc a es) → K hs') :
    ∀ (fu i : Nat) (hs : List HE), Lay m hs (part a i es) → a + i ≤ es.length → es.length - a - i < fu → L.mergequeue_queue_discard_h18_L1_R a ((es.length - a : Nat) : Int) fu i hs K
  | 0, i, hs, _, _, h => by omega
  | fu + 1, i, hs, hS, hi, h => by
    show L.mergequeue_queue_discard_h18_L1_b a ((es.length - a : Nat) : Int) i hs _ K
    unfold L.mergequeue_queue_discard_h18_L1_b
    rcases Nat.lt_or_ge i (es.length - a) with g | g
    · have hpl : (part a i es).length = es.length := by simp [part]
      have hl : hs.length = es.length := by rw [hS.len, hpl]
      have e1 : i64 ((a : Int) + (i : Int)) = ((a + i : Nat) : Int) := by rw [i64_id (by omega) (by omega)]; omega
      refine cond_t (by simp; omega) ?_
      rw [e1, Int.toNat_natCast, i64_succ (i := i) (by omega)]
      refine ⟨⟨by omega, by omega⟩, ?_⟩
      obtain ⟨x, e, h1, h2, h3⟩ := hS.get (i := a + i) (by rw [hpl]; omega)
      rw [getD_of _ h1]
      have he : es[a + i]? = some e := by
        simp only [part, List.getElem?_mapIdx, Option.map_eq_some_iff] at h2
        obtain ⟨e', h4, h5⟩ := h2
        rw [if_neg (by omega)] at h5
        rw [h4, h5]
      have h6 := hS.upd (m' := m) (x' := (x.1, (x.2.1, (false, (false, (false, Hd.nil)))))) (e' := clrE e) h1 ⟨by
        rw [h3.1]; rfl, Lies.nil m⟩ (.inr fun b hb => by cases hb) (Keeps.refl _ _)
      rw [part_succ he] at h6
      exact disc_loop hb ha hK fu (i + 1) _ h6 (by omega) (by omega)
    · refine cond_f (by simp; omega) (hK _ ?_)
      rw [part_all (by omega)] at hS
      exact hS

theorem discard_ok {a : Nat} {es : List Ent} {m : Pool} {hs : List HE} {q : Int} {ld rj : List Int} (hS : Lay m hs es) (hb : es.length < 4611686018427387904) (ha : a ≤ es.length) {K : Pool → Int → List HE → List Int → List Int → Prop}
    (hK : ∀ hs', Lay m hs' (disc a es) → K m q hs' ld rj) : L.mergequeue_queue_discard_h18 a m q hs ld rj K := by
  refine ⟨⟨⟨by omega, by rw [hS.len]; omega⟩, ⟨⟨es.length + 1, ?_⟩⟩⟩⟩
  rw [Int.toNat_natCast, hS.len]
  exact disc_loop hb ha hK (es.length + 1) 0 hs (by rw [part_zero]; exact hS) (by omega) (by omega)

theorem remove_ok {i : Nat} {es : List Ent} {m : Pool} {hs : List HE} {q : Int} {ld rj : List Int} (hS : Lay m hs es) (hb : es.length ≤ 1000) (hi : i < es.length) {K : Pool → Int → List Int → List Int → List HE → Prop}
    (hK : ∀ hs', Lay m hs' (es.take i ++ es.drop (i + 1)) → K m q ld rj hs') : L.mergequeue_queue_remove_h17 i m q hs ld rj K := by
  have hl := hS.len
  refine ⟨?_⟩
  unfold L.mergequeue_queue_remove_h17_B
  rw [i64_succ (by omega)]
  refine ⟨⟨by omega, by omega, by omega, by unfold fits; omega⟩, ?_⟩
  rw [Int.toNat_natCast, Int.toNat_natCast]
  exact hK _ (hS.cut (by omega) (by omega))

/-- Where an entry of a priority goes. -/
def plc (p : Int) : List Ent → Nat → Nat → Nat
  | [], _, k => k
  | e :: r, i, k => plc p r (i + 1) (if e.2.1 ≥ p then i + 1 else k)

theorem plc_le (p : Int) : ∀ (es : List Ent) (i k : Nat), k ≤ i → plc p es i k ≤ i + es.length
  | [], i, k, h => by simp [plc]; exact h
  | e :: r, i, k, h => by
    have := plc_le p r (i + 1) (if e.2.1 ≥ p then i + 1 else k) (by split <;> omega)
    simp only [plc, List.length_cons]
    omega

def new (c p : Int) : Ent := (c, (p, (false, (false, (false, [])))))
def addE (c p : Int) (es : List Ent) : List Ent := disc (plc p es 0 0 + 1) (es.take (plc p es 0 0) ++ [new c p] ++ es.drop (plc p es 0 0))

theorem add_loop {p : Int} {es : List Ent} {m : Pool} {hs : List HE} (hS : Lay m hs es) (hb : es.length ≤ 1000) {K : Int → Prop} (hK : K ((plc p es 0 0 : Nat) : Int)) :
    ∀ (fu i k : Nat), i ≤ es.length → k ≤ i → es.length - i < fu → plc p (es.drop i) i k = plc p es 0 0 → L.mergequeue_queue_add_h20_L1_R p (es.length : Int) hs fu k i K
  | 0, i, k, _, _, h, _ => by omega
  | fu + 1, i, k, hi, hk, h, he => by
    show L.mergequeue_queue_add_h20_L1_b p (es.length : Int) hs k i _ K
    unfold L.mergequeue_queue_add_h20_L1_b
    have hl := hS.len
    rcases Nat.lt_or_ge i es.length with g | g
    · refine cond_t (by simp; omega) ⟨⟨by omega, by omega⟩, ?_⟩
      rw [Int.toNat_natCast, i64_succ (i := i) (by omega)]
      obtain ⟨x, e, h1, h2, h3, _⟩ := hS.get g
      rw [getD_of _ h1]
      have hd : es.drop i = e :: es.drop (i + 1) := by
        rw [List.drop_eq_getElem_cons g]
        rw [List.getElem?_eq_getElem g] at h2
        cases h2; rfl
      rw [hd] at he
      simp only [plc] at he
      have hx : e.2.1 = x.2.1 := by rw [h3]; rfl
      rw [hx] at he
      by_cases hp : x.2.1 ≥ p
      · rw [if_pos hp] at he
        exact cond_t (by simpa using hp) (add_loop hS hb hK fu (i + 1) (i + 1) (by omega) (by omega) (by omega) he)
      · rw [if_neg hp] at he
        exact cond_f (by simpa using hp) (add_loop hS hb hK fu (i + 1) k (by omega) (by omega) (by omega) he)
    · obtain rfl : i = es.length := by omega
      rw [List.drop_length] at he
      simp only [plc] at he
      refine cond_f (by simp) ?_
      rw [he]
      exact hK

theorem add_ok {c p : Int} {es : List Ent} {m : Pool} {hs : List HE} {q : Int} {ld rj : List Int} (hS : Lay m hs es) (hb : es.length ≤ 1000) {K : Pool → Int → List Int → List Int → List HE → Prop}
    (hK : ∀ hs', Lay m hs' (addE c p es) → K m q ld rj hs') : L.mergequeue_queue_add_h20 c p m q hs ld rj K := by
  have hl := hS.len
  have hp := plc_le p es 0 0 (Nat.le_refl _)
  refine ⟨⟨⟨es.length + 1, ?_⟩⟩⟩
  rw [hl]
  refine add_loop hS hb ?_ (es.length + 1) 0 0 (by omega) (by omega) (by omega) rfl
  rw [Int.toNat_natCast, i64_succ (by omega)]
  refine ⟨⟨by omega, by omega, by simp, by unfold fits; simp; omega⟩, ?_⟩
  have h1 := hS.ins (i := plc p es 0 0) (by omega) (x := (c, (p, (false, (false, (false, Hd.nil)))))) rfl
  exact discard_ok h1 (by simp; omega) (by simp; omega) fun hs' h2 => hK hs' h2

end Mq
end Go.Proofs.Ytpfcgenmgddgpaa
