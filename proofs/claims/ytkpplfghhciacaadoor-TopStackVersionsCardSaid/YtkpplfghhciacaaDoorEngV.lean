/-
  From the reading of a law's arguments to abstract values, and from a law's plain form to its contract. Conditions: none.
-/
import Derived.Test.YtkpplfghhciacaaDoorEngW
import Derived.Test.YtkpplfghhciacaaDoorRows
import Derived.ProofKit
import Derived.OpenShut
import Derived.ChangeSame
import Derived.Carry
import Derived.JoinedCond
set_option linter.unusedVariables false
set_option linter.unusedSimpArgs false
namespace Go.Proofs.YtkpplfghhciacaaDoor
namespace Eng
open Go.RowKit Go.ChangeShapes Go.WideShapes

/-- The Go type's cells are those of the plain type. -/
def chkFs (P : Program) (rec : TypeId → Ty → Bool) : List Field → Nat → Ty → Bool
  | [], _, .unit => true
  | [f], off, τ => Nat.beq f.offset off && rec f.type τ && Nat.beq (P.cellsOf f.type) τ.size
  | f :: g :: fs, off, .pair a b => Nat.beq f.offset off && rec f.type a && Nat.beq (P.cellsOf f.type) a.size && chkFs P rec (g :: fs) (off + a.size) b
  | _, _, _ => false

def chk (P : Program) : Nat → TypeId → Ty → Bool
  | 0, _, _ => false
  | n + 1, t, τ => match P.underlying t with
    | some (.int k) => Ty.eqb τ (.int k)
    | some .bool => Ty.eqb τ .bool
    | some .string => Ty.eqb τ .str
    | some (.slice e) => match τ with
      | .slice τe => chk P n e τe && Nat.beq (P.cellsOf e) τe.size && Nat.blt 0 τe.size
      | _ => false
    | some (.struct fs) => chkFs P (chk P n) fs.toList 0 τ && Nat.beq (P.cellsOf t) τ.size
    | _ => false

/-- What a reading tells of plain data. -/
def inK (k : IntKind) (n : Int) : Prop := k.min ≤ n ∧ n ≤ k.max
def sizeS (s : ByteArray) : Nat := s.size
def WfL {α : Type} (f : α → Prop) (l : List α) : Prop := l.length ≤ maxLen ∧ ∀ x, x ∈ l → f x
def bulkL {α : Type} (f : α → Nat) : List α → Nat
  | [] => 0
  | x :: r => f x + bulkL f r

def Wf : (t : Ty) → t.den → Prop
  | .int k, n => inK k n
  | .bool, _ => True
  | .str, s => sizeS s ≤ maxLen
  | .unit, _ => True
  | .pair a b, p => Wf a p.1 ∧ Wf b p.2
  | .slice e, xs => WfL (Wf e) xs
  | .hnd, _ => True

def bulk : (t : Ty) → t.den → Nat
  | .int _, _ => 1
  | .bool, _ => 1
  | .str, s => sizeS s + 1
  | .unit, _ => 0
  | .pair a b, p => bulk a p.1 + bulk b p.2
  | .slice e, xs => bulkL (bulk e) xs + 1
  | .hnd, _ => 1

variable {H : Type} {enc0 : TypeId × Value → H} {P : Program} {w : World}

theorem bulkAll_append : ∀ (a b : List (DataW H)), Rows.uptoBulkAll (a ++ b) = Rows.uptoBulkAll a + Rows.uptoBulkAll b
  | [], b => by simp [Rows.uptoBulkAll]
  | d :: a, b => by simp [Rows.uptoBulkAll, bulkAll_append a b, Nat.add_assoc]

abbrev ReadsAs (enc0 : TypeId × Value → H) (P : Program) (w : World) (sp : Nat → Bool) (rec : TypeId → Ty → Bool) (n : Nat) : Prop :=
  ∀ (t : TypeId) (τ : Ty) (cs : List Value) (x : DataW H × List MemPlace), rec t τ = true → DataW.trod enc0 P w 0 sp true n t cs = some x →
    ∃ y : τ.den, RoV w (fun b _ => b < w.heap.size) τ y cs ∧ Wf τ y ∧ bulk τ y ≤ Rows.uptoBulk x.1

theorem readFs {sp : Nat → Bool} {rec : TypeId → Ty → Bool} {n : Nat} (ih : ReadsAs enc0 P w sp rec n) : ∀ (fs : List Field) (off : Nat) (τ : Ty) (cs : List Value) (xs : List (DataW H × List MemPlace)), chkFs P rec fs off τ = true →
    cs.length = off + τ.size → xs.length = fs.length → (∀ (i : Nat) (f : Field), fs[i]? = some f → DataW.trod enc0 P w 0 sp true n f.type ((cs.drop f.offset).take (P.cellsOf f.type)) = xs[i]?) →
    ∃ y : τ.den, RoV w (fun b _ => b < w.heap.size) τ y (cs.drop off) ∧ Wf τ y ∧ bulk τ y ≤ Rows.uptoBulkAll (xs.map (·.1))
  | [], off, τ, cs, xs, h, hl, hx, hf => by
    cases τ <;> simp only [chkFs, Bool.false_eq_true] at h
    refine ⟨(), ?_, trivial, by simp [bulk]⟩
    simp only [RoV]
    simp only [Ty.size] at hl
    simp [hl]
  | [f], off, τ, cs, xs, h, hl, hx, hf => by
    match xs, hx with
    | [x], _ =>
    simp only [chkFs, Bool.and_eq_true, Nat.beq_eq] at h
    obtain ⟨⟨h1, h2⟩, h3⟩ := h
    have hr := hf 0 f rfl
    simp only [List.getElem?_cons_zero] at hr
    rw [h1, h3, List.take_of_length_le (by simp; omega)] at hr
    obtain ⟨y, g1, g2, g3⟩ := ih f.type τ _ x h2 hr
    exact ⟨y, g1, g2, by simpa [Rows.uptoBulkAll] using g3⟩
  | f :: g :: fs, off, τ, cs, xs, h, hl, hx, hf => by
    match xs, hx with
    | x :: xs, hx =>
    cases τ <;> simp only [chkFs, Bool.false_eq_true] at h
    case pair a b =>
    simp only [Bool.and_eq_true, Nat.beq_eq] at h
    obtain ⟨⟨⟨h1, h2⟩, h3⟩, h4⟩ := h
    simp only [Ty.size] at hl
    have hr := hf 0 f rfl
    simp only [List.getElem?_cons_zero] at hr
    rw [h1, h3] at hr
    obtain ⟨y, g1, g2, g3⟩ := ih f.type a _ x h2 hr
    obtain ⟨z, k1, k2, k3⟩ := readFs ih (g :: fs) (off + a.size) b cs xs h4 (by omega) (by simpa using hx) (fun i f' hi => by
      have := hf (i + 1) f' (by simpa using hi)
      simpa using this)
    refine ⟨(y, z), ?_, ⟨g2, k2⟩, ?_⟩
    · simp only [RoV]
      refine ⟨_, _, ?_, g1, k1⟩
      rw [← List.drop_drop, List.take_append_drop]
    · simp only [bulk, List.map_cons, Rows.uptoBulkAll]
      omega

theorem cell_lt {w : World} {a : Addr} {v : Value} (h : w.cell? a = some v) : a.block < w.heap.size ∧ a.spot = none := by
  unfold World.cell? at h
  split at h
  · next c t fz e =>
    refine ⟨(Array.getElem?_eq_some_iff.1 e).1, ?_⟩
    cases hs : a.spot with
    | none => rfl
    | some k => simp [hs] at h
  · cases h

theorem read_ok (sp : Nat → Bool) : ∀ (n m : Nat), ReadsAs enc0 P w sp (chk P n) m
  | 0, m => fun t τ cs x h _ => by simp [chk] at h
  | n + 1, m => fun t τ cs x h ht => by
    have hm : ∃ m', m = m' + 1 := by
      cases m with
      | zero => simp [DataW.trod] at ht
      | succ m => exact ⟨m, rfl⟩
    simp only [chk] at h
    split at h
    · next k hu =>
      have := Ty.eqb_eq h
      subst this
      obtain ⟨v, rfl, rfl, hw⟩ := DataW.trod_int hu ht
      simp only [Lit.wf, Bool.and_eq_true, decide_eq_true_eq] at hw
      exact ⟨v, by simp only [RoV], hw, by simp [bulk, Rows.uptoBulk]⟩
    · next hu =>
      have := Ty.eqb_eq h
      subst this
      obtain ⟨v, rfl, rfl⟩ := DataW.trod_bool hu ht
      exact ⟨v, by simp only [RoV], trivial, by simp [bulk, Rows.uptoBulk]⟩
    · next hu =>
      have := Ty.eqb_eq h
      subst this
      obtain ⟨v, rfl, rfl, hw⟩ := DataW.trod_string hu ht
      exact ⟨v, by simp only [RoV], hw, by simp [bulk, sizeS, Rows.uptoBulk]⟩
    · next e hu =>
      split at h
      · next τe =>
        simp only [Bool.and_eq_true, Nat.beq_eq, Nat.blt_eq] at h
        obtain ⟨⟨h1, h2⟩, h3⟩ := h
        rcases DataW.trod_slice hu ht with ⟨rfl, rfl⟩ | ⟨a, len, cap, elems, rest, m', rfl, rfl, rfl, hb, hl, hcm, hlen, hel, _, _⟩
        · refine ⟨([] : List τe.den), ?_, ⟨by simp [maxLen], fun x hx => by simp at hx⟩, by simp [bulk, bulkL, Rows.uptoBulk]⟩
          simp only [RoV]
          exact .inl ⟨rfl, rfl⟩
        · have key : ∀ (es : List (DataW H × List MemPlace)) (k : Nat), (∀ i, i < es.length → (w.cells? 0 (a.add ((k + i) * P.cellsOf e)) (P.cellsOf e)).bind (DataW.trod enc0 P w 0 sp true m' e) = es[i]?) →
              ∃ ys : List τe.den, ys.length = es.length ∧ (es ≠ [] → a.spot = none ∨ 0 < k) ∧ (∀ x, x ∈ ys → Wf τe x) ∧ bulkL (bulk τe) ys ≤ Rows.uptoBulkAll (es.map (·.1)) ∧
                ∀ (i : Nat) (y : τe.den), ys[i]? = some y → ∃ cs : List Value, cs.length = τe.size ∧ RoV w (fun b _ => b < w.heap.size) τe y cs ∧
                  ∀ (j : Nat) (u : Value), cs[j]? = some u → w.cell? ⟨a.block, a.off + (k + i) * τe.size + j, none⟩ = some u ∧ a.block < w.heap.size := by
            intro es
            induction es with
            | nil => intro k _; exact ⟨[], rfl, fun h => absurd rfl h, fun x hx => by simp at hx, by simp [bulkL], fun i y hy => by simp at hy⟩
            | cons d es ihe =>
              intro k hk
              have h0 := hk 0 (by simp)
              simp only [List.getElem?_cons_zero, Nat.add_zero] at h0
              obtain ⟨cs, hc1, hc2⟩ := Option.bind_eq_some_iff.1 h0
              obtain ⟨y, g1, g2, g3⟩ := read_ok sp n m' e τe cs d h1 hc2
              obtain ⟨_, hcl, hcc⟩ := World.cells?_some hc1
              obtain ⟨ys, e1, e2, e3, e4, e5⟩ := ihe (k + 1) (fun i hi => by
                have := hk (i + 1) (by simpa using hi)
                rw [show k + (i + 1) = k + 1 + i from by omega] at this
                simpa using this)
              have hcs : ∀ (j : Nat) (u : Value), cs[j]? = some u → w.cell? ⟨a.block, a.off + k * τe.size + j, none⟩ = some u ∧ a.block < w.heap.size ∧ (k * P.cellsOf e + j = 0 → a.spot = none) := by
                intro j u hj
                have hjl : j < cs.length := (List.getElem?_eq_some_iff.1 hj).1
                have hc := hcc j (by omega)
                rw [hj] at hc
                obtain ⟨q1, q2⟩ := cell_lt hc
                have hadd : (a.add (k * P.cellsOf e)).add j = ⟨a.block, a.off + k * τe.size + j, none⟩ := by
                  have hbl : ((a.add (k * P.cellsOf e)).add j).block = a.block := by unfold Addr.add; split <;> split <;> rfl
                  have hof : ((a.add (k * P.cellsOf e)).add j).off = a.off + k * P.cellsOf e + j := by unfold Addr.add; split <;> split <;> simp_all
                  have hz : ∀ z : Addr, z.spot = none → z = ⟨z.block, z.off, none⟩ := fun z hz => by cases z; simp_all
                  rw [hz _ q2, hbl, hof, h2]
                rw [hadd] at hc
                have hblk : ((a.add (k * P.cellsOf e)).add j).block = a.block := by unfold Addr.add; split <;> split <;> rfl
                rw [hblk] at q1
                refine ⟨hc, q1, fun hz => ?_⟩
                have hz1 : k * P.cellsOf e = 0 := by omega
                have hz2 : j = 0 := by omega
                rw [hz1, hz2] at q2
                simpa [Addr.add] using q2
              refine ⟨y :: ys, by simp [e1], fun _ => ?_, ?_, ?_, ?_⟩
              · rcases Nat.eq_zero_or_pos k with hk0 | hk0
                · subst hk0
                  have hlt : 0 < cs.length := by omega
                  exact .inl ((hcs 0 _ (List.getElem?_eq_getElem hlt)).2.2 (by simp))
                · exact .inr hk0
              · intro x hx
                rcases List.mem_cons.1 hx with rfl | hx
                · exact g2
                · exact e3 x hx
              · simp only [bulkL, List.map_cons, Rows.uptoBulkAll]; omega
              · intro i z hz
                cases i with
                | zero =>
                  simp only [List.getElem?_cons_zero, Option.some.injEq] at hz
                  subst hz
                  exact ⟨cs, by omega, g1, fun j u hj => ⟨(hcs j u hj).1, (hcs j u hj).2.1⟩⟩
                | succ i =>
                  simp only [List.getElem?_cons_succ] at hz
                  obtain ⟨cs', q1, q2, q3⟩ := e5 i z hz
                  refine ⟨cs', q1, q2, fun j u hj => ?_⟩
                  have := q3 j u hj
                  rw [show k + 1 + i = k + (i + 1) from by omega] at this
                  exact this
          obtain ⟨ys, e1, e2, e3, e4, e5⟩ := key elems 0 (fun i hi => by rw [Nat.zero_add]; exact hel i (by omega))
          refine ⟨ys, ?_, ⟨by omega, e3⟩, ?_⟩
          · simp only [RoV]
            refine .inr ⟨a.block, a.off, a.spot, cap, ?_, ?_, by omega, fun i y hy => ?_⟩
            · rw [e1, hlen]
            · intro hne
              have : elems ≠ [] := by
                rintro rfl
                exact hne (List.length_eq_zero_iff.1 (by simpa using e1))
              rcases e2 this with h | h
              · exact h
              · omega
            · obtain ⟨cs, q1, q2, q3⟩ := e5 i y hy
              refine ⟨cs, q1, q2, fun j u hj => ?_⟩
              have := q3 j u hj
              rw [Nat.zero_add] at this
              exact this
          · simp only [bulk, Rows.uptoBulk]
            omega
      · cases h
    · next fs hu =>
      simp only [Bool.and_eq_true, Nat.beq_eq] at h
      obtain ⟨xs, m', rfl, rfl, hl, hxl, hf⟩ := DataW.trod_struct hu ht
      obtain ⟨y, g1, g2, g3⟩ := readFs (read_ok sp n m') fs.toList 0 τ cs xs h.1 (by omega) (by simpa using hxl) (fun i f hi => hf i f (by simpa using hi))
      refine ⟨y, by simpa using g1, g2, ?_⟩
      simp only [Rows.uptoBulk]
      omega
    · cases h

/-- A law's parameters. -/
def ArgDen : List (Bool × Ty) → Type
  | [] => Unit
  | (_, t) :: r => t.den × ArgDen r

def lawArg : Bool → (t : Ty) → t.den → V
  | true, t, y => .agg (enc t y)
  | false, t, y => (enc t y).headD .any

def lawArgs : (ps : List (Bool × Ty)) → ArgDen ps → List V
  | [], _ => []
  | (b, t) :: r, xs => lawArg b t xs.1 :: lawArgs r xs.2

def WfAll : (ps : List (Bool × Ty)) → ArgDen ps → Prop
  | [], _ => True
  | (_, t) :: r, xs => Wf t xs.1 ∧ WfAll r xs.2

def bulkAll : (ps : List (Bool × Ty)) → ArgDen ps → Nat
  | [], _ => 0
  | (_, t) :: r, xs => bulk t xs.1 + bulkAll r xs.2

def aggT (P : Program) (t : TypeId) : Bool := match P.underlying t with
  | some (.struct _) => true
  | _ => false

def chkAll (P : Program) : List TypeId → List (Bool × Ty) → Bool
  | [], [] => true
  | t :: ts, (b, τ) :: r => chk P 12 t τ && (aggT P t == b) && Nat.beq (Ty.size τ) (bif b then Ty.size τ else 1) && P.readableRec t && Nat.blt t P.types.size && chkAll P ts r
  | _, _ => false

theorem read_arg {n : Nat} {t : TypeId} {b : Bool} {τ : Ty} {v : Value} {d : DataW H} {ps : List MemPlace} {sp : Nat → Bool} {base : Nat} (hc : chk P n t τ = true) (hb : aggT P t = b) (hsz : b = false → τ.size = 1)
    (hval : Value.okWide P w .any base t v) (h : DataW.Trod enc0 P w 0 sp true t v d ps) :
    ∃ y : τ.den, RelV (lent w) (lawArg b τ y) v ∧ Wf τ y ∧ bulk τ y ≤ Rows.uptoBulk d := by
  obtain ⟨m, hm⟩ := h
  obtain ⟨y, h1, h2, h3⟩ := read_ok sp n m t τ _ _ hc hm
  refine ⟨y, ?_, h2, h3⟩
  have hrel := RoV.rel (c := lent w) h1
  cases b with
  | true =>
    unfold aggT at hb
    split at hb
    · next fs hu =>
      obtain ⟨cs, rfl, _⟩ := okWide_struct hu hval
      simp only [lawArg, RelV]
      exact ⟨cs, rfl, by simpa [Value.cells] using hrel⟩
    · cases hb
  | false =>
    have hs := hsz rfl
    have hcells : v.cells.toList = [v] ∨ ∃ cs, v = .agg cs := by
      cases v <;> first | exact .inl rfl | exact .inr ⟨_, rfl⟩
    have hv : v.cells.toList = [v] := by
      rcases hcells with h | ⟨cs, rfl⟩
      · exact h
      · exfalso
        unfold Value.okWide at hval
        unfold aggT at hb
        cases n with
        | zero => simp [chk] at hc
        | succ n =>
          simp only [chk] at hc
          split at hval
          · next hu => rw [hu] at hb; cases hb
          · next hu => rw [hu] at hc; cases hc
          · unfold Cell.okWide at hval
            split at hval <;> first | exact hval.elim | (simp only [Cell.ok] at hval; split at hval <;> simp_all) | simp_all
    rw [hv] at hrel
    simp only [lawArg]
    have hlen := hrel.length
    match henc : enc τ y with
    | [] => rw [henc] at hlen; simp at hlen
    | x :: r =>
      rw [henc] at hrel
      simp only [RelVs] at hrel
      obtain ⟨u, us', e, h4, h5⟩ := hrel
      cases e
      simpa using h4

theorem read_args {sp : Nat → Bool} {base : Nat} : ∀ {ts : List TypeId} {ps : List (Bool × Ty)} {vs : List Value} {ds : List (DataW H)} {pl : List MemPlace}, chkAll P ts ps = true →
    (∀ (j : Nat) t v, ts[j]? = some t → vs[j]? = some v → Value.okWide P w .any base t v) → DataW.TrodAll enc0 P w 0 sp true ts vs ds pl →
    ∃ xs : ArgDen ps, RelVs (lent w) (lawArgs ps xs) vs ∧ WfAll ps xs ∧ bulkAll ps xs ≤ Rows.uptoBulkAll ds
  | [], [], vs, ds, pl, _, _, h => by
    obtain ⟨rfl, rfl, rfl⟩ := trodAll_nil h
    exact ⟨(), RelVs.nil, trivial, by simp [bulkAll]⟩
  | t :: ts, (b, τ) :: ps, vs, ds, pl, hc, hval, h => by
    obtain ⟨v, vs1, d, ds1, a, a', rfl, rfl, rfl, h1, h2⟩ := trodAll_cons h
    simp only [chkAll, Bool.and_eq_true, beq_iff_eq, Nat.beq_eq] at hc
    obtain ⟨⟨⟨⟨⟨k1, k2⟩, k3⟩, k4⟩, k5⟩, k6⟩ := hc
    obtain ⟨y, g1, g2, g3⟩ := read_arg k1 k2 (fun hb => by rw [hb] at k3; exact k3) (hval 0 t v rfl rfl) h1
    obtain ⟨xs, e1, e2, e3⟩ := read_args k6 (fun j t' v' ht hv => hval (j + 1) t' v' (by simpa using ht) (by simpa using hv)) h2
    exact ⟨(y, xs), RelVs.cons g1 e1, ⟨g2, e2⟩, by simp only [bulkAll, Rows.uptoBulkAll]; omega⟩
  | [], _ :: _, _, _, _, hc, _, _ => by simp [chkAll] at hc
  | _ :: _, [], _, _, _, hc, _, _ => by simp [chkAll] at hc

theorem stay_args (hl : laidOutB P = true) {W W' : World} (hb : Below W.heap.size W W') (sp : Nat → Bool) : ∀ {ts : List TypeId} {ps : List (Bool × Ty)} {vs : List Value} {ds : List (DataW H)} {pl : List MemPlace}, chkAll P ts ps = true →
    DataW.TrodAll enc0 P W 0 (fun _ => true) true ts vs ds pl → (∀ p ∈ pl, p.block < W.heap.size) → (∀ p ∈ pl, sp p.block = true) → DataW.TrodAll enc0 P W' 0 sp true ts vs ds pl
  | [], [], vs, ds, pl, _, h, _, _ => by
    obtain ⟨rfl, rfl, rfl⟩ := trodAll_nil h
    exact trodAll_mk0
  | t :: ts, (b, τ) :: ps, vs, ds, pl, hc, h, hlt, hsp => by
    obtain ⟨v, vs1, d, ds1, a, a', rfl, rfl, rfl, h1, h2⟩ := trodAll_cons h
    simp only [chkAll, Bool.and_eq_true, beq_iff_eq, Nat.beq_eq, Nat.blt_eq] at hc
    obtain ⟨⟨⟨⟨⟨k1, k2⟩, k3⟩, k4⟩, k5⟩, k6⟩ := hc
    exact trodAll_cons_mk (WideElems.Trod_stays hl k4 k5 h1 (fun x hx => hb.same (hlt x (by simp [hx]))) (fun x hx => hsp x (by simp [hx])))
      (stay_args hl hb sp k6 h2 (fun p hp => hlt p (by simp [hp])) (fun p hp => hsp p (by simp [hp])))
  | [], _ :: _, _, _, _, hc, _, _, _ => by simp [chkAll] at hc
  | _ :: _, [], _, _, _, hc, _, _, _ => by simp [chkAll] at hc

/-- A law: it answers true, and what came in reads as it did. -/
structure LawSpec (s : ChangeSpec) (n : Nat) : Prop where
  vars : s.vars = []
  res : ∀ (H : Type) (ds : List (DataW H)), ds.length = n → (s.fn H ds).results = [.lit (.bool true)]
  args : ∀ (H : Type) (ds : List (DataW H)), ds.length = n → (s.fn H ds).args = ds
  left : ∀ (H : Type) (ds : List (DataW H)), ds.length = n → (s.fn H ds).vars = []

def isTrue : V → List Ob → Prop := fun v _ => v = .x (.bool true)

theorem trodAll_len {sp : Nat → Bool} : ∀ {ts : List TypeId} {vs : List Value} {ds : List (DataW H)} {pl : List MemPlace}, DataW.TrodAll enc0 P w 0 sp true ts vs ds pl → ds.length = ts.length
  | [], vs, ds, pl, h => by
    obtain ⟨rfl, rfl, rfl⟩ := trodAll_nil h
    rfl
  | t :: ts, vs, ds, pl, h => by
    obtain ⟨v, vs1, d, ds1, a, a', rfl, rfl, rfl, h1, h2⟩ := trodAll_cons h
    simp [trodAll_len h2]

theorem law_contract (hl : laidOutB P = true) {f : FuncId} {fn : Func} {s : ChangeSpec} {ps : List (Bool × Ty)} {tb : TypeId} {sem : SemF} {small : Bool}
    (hps : chkAll P fn.params.toList ps = true) (hrt : fn.resultTypes = #[tb]) (htb : P.underlying tb = some .bool) (hs : LawSpec s fn.params.toList.length)
    (hS : SoundFn P f sem) (hlaw : ∀ xs : ArgDen ps, WfAll ps xs → (small = true → bulkAll ps xs ≤ 1048576) → sem (lawArgs ps xs) isTrue)
    {W : World} {base : Nat} {args : Array Value} {ds gs : List (DataW H)} {before : List MemPlace}
    (hval : ∀ (j : Nat) t v, fn.params[j]? = some t → args[j]? = some v → Value.okWide P W .any base t v)
    (hW : DataW.Whole enc0 P fn.params.toList s.vars false W args.toList ds gs before)
    (hk : small = true → Rows.uptoSmall H (ds ++ gs) = true) :
    Calls P f args W fun e W' => ∃ v, e = .returned v ∧ s.post enc0 P fn false true false false W args v W' := by
  have hW' := hW
  obtain ⟨p, q, hA, hV, rfl, hfz, hnd⟩ := hW
  rw [hs.vars] at hV
  obtain ⟨rfl, rfl⟩ := trodVars_none hV
  obtain ⟨xs, h1, h2, h3⟩ := read_args hps (fun j t v ht hv => hval j t v (by simpa using ht) (by simpa using hv)) hA
  have hbulk : small = true → bulkAll ps xs ≤ 1048576 := fun hsm => by
    have := hk hsm
    simp only [Rows.uptoSmall, decide_eq_true_eq, List.append_nil] at this
    omega
  have hlen := trodAll_len hA
  refine (hS W (fun b _ => b < W.heap.size) _ args isTrue (fun b o h => h) h1 (hlaw xs h2 hbulk)).mono fun e W' hh => ?_
  obtain ⟨u, v, c', rfl, rfl, g1, _, g3, g4⟩ := hh
  unfold isTrue at g4
  subst g4
  simp only [RelV] at g3
  subst g3
  have hb : Below W.heap.size W c'.w := ⟨g1.below.b0.os, g1.below.b0.tape, g1.below.b0.output, g1.below.b0.size, fun k hk => g1.below.block k (noOwn hk)⟩
  refine ⟨_, rfl, ?_⟩
  have hold : ∀ z ∈ p ++ [], (fun b => decide (b < W.heap.size)) z.block = true := fun z hz => by simpa using hW'.lt z hz
  have hlt : ∀ x ∈ p, x.block < W.heap.size := fun x hx => hW'.lt x (by simp [hx])
  have e1 := hs.res H (ds ++ []) (by simpa using hlen)
  have e2 := hs.args H (ds ++ []) (by simpa using hlen)
  have e3 := hs.left H (ds ++ []) (by simpa using hlen)
  have hres : ∀ (b : Nat) (sp : Nat → Bool) (hd : Bool), DataW.TrodAll enc0 P c'.w b sp hd fn.resultTypes.toList ((Value.bool true).resultList fn.resultTypes.size) (s.fn H (ds ++ [])).results [] := fun b sp hd => by
    rw [e1, hrt]
    exact trodAll_cons_mk (shut_bool htb true) trodAll_mk0
  have hargs : ∀ sp : Nat → Bool, (∀ x ∈ p ++ [], sp x.block = true) → DataW.TrodAll enc0 P c'.w 0 sp true fn.params.toList args.toList (s.fn H (ds ++ [])).args p := fun sp hsp => by
    rw [e2]
    simpa using stay_args hl hb sp hps hA hlt (fun x hx => hsp x (by simp [hx]))
  have hvars : ∀ sp : Nat → Bool, DataW.TrodVars enc0 P c'.w sp s.vars (s.fn H (ds ++ [])).vars [] := fun sp => by
    rw [e3, hs.vars]
    rfl
  refine ⟨ds, [], p ++ [], [], p, [], hW', hres _ _ _, hargs _ hold, hvars _, World.keptBut_mono (fun x hx => ⟨hx, .inr (by simpa using hx)⟩) (hb.frame (· ∈ p ++ [])), fun _ => ?_⟩
  refine ⟨ok_one hrt rfl (okWide_bool_mk htb true), _, _, ([] ++ p) ++ [], ⟨[] ++ p, [], trodAll_append (hargs _ (fun _ _ => rfl)) (hres _ _ _), hvars _, rfl, ?_, ?_⟩, ?_⟩
  · intro b off hp
    have hp' : MemPlace.cell b off ∈ p ++ [] := by simpa using hp
    rw [hb.frozen (p := ⟨b, off, none⟩) (hW'.lt _ hp')]
    exact hfz b off hp'
  · intro ha
    cases ha
  · intro x hx _
    simpa using hx

end Eng
end Go.Proofs.YtkpplfghhciacaaDoor
