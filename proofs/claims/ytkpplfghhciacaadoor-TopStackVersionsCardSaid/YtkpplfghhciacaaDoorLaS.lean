/-
  strings.SplitSeq at "/": its walk. Conditions: none.
-/
import Derived.WalkSmall
import Derived.Shelf.Strings.Search3
import Derived.Shelf.Small.Strs
import Derived.Shelf.Lay
import Derived.Ground.Names2Prog
import Derived.Test.YtkpplfghhciacaaDoorLaR
set_option linter.unusedVariables false
set_option linter.unusedSimpArgs false
namespace Go.Proofs
open Go.Shelf
shelf_lay Lays.n143 Nm 143 at Tryd as Tryd.lays143
shelf_lay Lays.n106 Nm 106 at Tryd as Tryd.lays106
shelf_lay Lays.n137 Nm 137 at Tryd as Tryd.lays137
end Go.Proofs
namespace Go.Proofs.YtkpplfghhciacaaDoor
namespace La
open Go.RowKit Go.Shelf

attribute [local go_sem] Oper.semAt_some

theorem wide_fn (f : FuncId) : Fence.wide.fn f = True := rfl
theorem wide_depth : Fence.wide.depth = none := rfl
theorem wide_in_fn (l : Nat) (f : FuncId) : (Fence.wide.inRound l).fn f = True := rfl
theorem wide_in_depth (l : Nat) : (Fence.wide.inRound l).depth = none := rfl

attribute [local go_sem] wide_fn wide_depth wide_in_fn wide_in_depth

/-- Where the next slash is. -/
abbrev sl (s : ByteArray) : Int := Lib.indexByte s.data.toList 47

theorem sl_lt (s : ByteArray) : sl s < s.size := by
  have : ∀ l : List UInt8, Lib.indexByte l 47 < (l.length : Int) := by
    intro l
    induction l with
    | nil => decide
    | cons b l ih =>
      unfold Lib.indexByte
      split
      · simp only [List.length_cons]; omega
      · split
        · simp only [List.length_cons]; omega
        · simp only [List.length_cons]; omega
  have h := this s.data.toList
  simpa using h

theorem sl_ge (s : ByteArray) : -1 ≤ sl s := Lib.indexByte_ge _ _

/-- The parts of a path. -/
def pts : Nat → ByteArray → List ByteArray
  | 0, s => [s]
  | n + 1, s => if sl s < 0 then [s] else s.extract 0 (sl s).toNat :: pts n (s.extract ((sl s).toNat + 1) s.size)

abbrev parts (s : ByteArray) : List ByteArray := pts s.size s

/-- What a round must leave as it lay. -/
structure Kp (S : Nat → Prop) (W W' : World) : Prop where
  size : W.heap.size ≤ W'.heap.size
  same : ∀ b, S b → W'.heap[b]? = W.heap[b]?

theorem Kp.trans {S : Nat → Prop} {X Y Z : World} (h : Kp S X Y) (k : Kp S Y Z) : Kp S X Z := ⟨Nat.le_trans h.size k.size, fun b hb => (k.same b hb).trans (h.same b hb)⟩

structure Mem (m : Nat) (s : ByteArray) (W : World) : Prop where
  s : W.heap[m]? = some (.cells #[.string s] 9 (0, 0))
  p : W.heap[m + 1]? = some (.cells #[.string ⟨#[47]⟩] 9 (0, 0))
  v : W.heap[m + 2]? = some (.cells #[.int .i64 0] 3 (0, 0))

def Sk (m b : Nat) : Prop := b = m ∨ b = m + 1 ∨ b = m + 2

theorem Mem.keep {m : Nat} {s : ByteArray} {W W' : World} (h : Mem m s W) (k : Kp (Sk m) W W') : Mem m s W' :=
  ⟨(k.same m (.inl rfl)).trans h.s, (k.same (m + 1) (.inr (.inl rfl))).trans h.p, (k.same (m + 2) (.inr (.inr rfl))).trans h.v⟩

theorem one_cell {W : World} {b : Nat} {x : Value} {t : TypeId} (h : W.heap[b]? = some (.cells #[x] t (0, 0))) : W.cell? ⟨b, 0, none⟩ = some x ∧ W.frozen? ⟨b, 0, none⟩ = false := by
  simp [World.cell?, World.frozen?, h]

theorem set_one {W : World} {b : Nat} {x : Value} {t : TypeId} (h : W.heap[b]? = some (.cells #[x] t (0, 0))) (v : Value) : (W.setCell ⟨b, 0, none⟩ v).heap[b]? = some (.cells #[v] t (0, 0)) :=
  Boxed.set v h

theorem Mem.set {m : Nat} {s : ByteArray} {W : World} (h : Mem m s W) (s' : ByteArray) : Mem m s' (W.setCell ⟨m, 0, none⟩ (.string s')) :=
  ⟨set_one h.s _, (Below.heap_setCell W ⟨m, 0, none⟩ _ (m + 1) (by simp)).trans h.p, (Below.heap_setCell W ⟨m, 0, none⟩ _ (m + 2) (by simp)).trans h.v⟩

def mS (m : Nat) (W : World) : Nat := match W.cell? ⟨m, 0, none⟩ with
  | some (.string s) => s.size
  | _ => 0

theorem mS_of {m : Nat} {W : World} {s : ByteArray} (h : W.cell? ⟨m, 0, none⟩ = some (.string s)) : mS m W = s.size := by
  unfold mS; rw [h]

theorem index_calls (s : ByteArray) (w : World) : Calls Tryd.prog 76 #[.string s, .string ⟨#[47]⟩] w fun e w' => e = .returned (.int .i64 (sl s)) ∧ w' = w := Any.strings_Index_one Tryd.lays143 s 47 w

set_option maxRecDepth 100000 in
set_option maxHeartbeats 4000000 in
theorem it_in (l m n0 : Nat) (path : ByteArray) (hps : path.size ≤ 60) (J Jx : List ByteArray → World → Prop) (hJ : AbidesFrom n0 J) (hJx : AbidesFrom n0 Jx) (hJw : ∀ s X v, J s X → J s (X.setCell ⟨m, 0, none⟩ v))
    (hY : ∀ pre x W, J pre W → pre.length < (parts path).length → x ∈ parts path → YieldAt Fence.wide 0 Tryd.prog l #[.string x] W fun e W' =>
      (e = .returned (.bool true) ∧ J (pre ++ [x]) W' ∧ Kp (Sk m) W W') ∨ (e = .returned (.bool false) ∧ Jx (pre ++ [x]) W'))
    (W : World) (hM : Mem m path W) (hj : J [] W) :
    CallsIn Fence.wide 0 Tryd.prog 74 #[.func (.yield l) #[] #[], .pointer (some ⟨m + 1, 0, none⟩), .pointer (some ⟨m, 0, none⟩), .pointer (some ⟨m + 2, 0, none⟩)] W fun e W' => (∃ v, e = .returned v) ∧
      ((∃ ys, ys = parts path ∧ J ys W') ∨ (∃ pre, pre <+: parts path ∧ Jx pre W')) := by
  refine callsIn_of_wp Tryd.func74 rfl trivial ?_ rfl
  simp only [Tryd.ntmps74, List.size_toArray, List.length_cons, List.length_nil, Nat.reduceAdd, Nat.reduceSub, Array.replicate_succ, Array.replicate_zero, List.push_toArray, List.append_toArray, List.nil_append, List.cons_append]
  obtain ⟨c1, -⟩ := one_cell hM.s
  obtain ⟨c2, -⟩ := one_cell hM.p
  obtain ⟨c3, -⟩ := one_cell hM.v
  gi_wp2
  gi_loopw [7] (fun _ wr => ∃ (pre : List ByteArray) (n : Nat) (s : ByteArray), parts path = pre ++ pts n s ∧ s.size ≤ n ∧ s.size ≤ 60 ∧ Mem m s wr ∧ J pre wr)
    (fun _ wr => mS m wr)
  case atStart => exact ⟨[], path.size, path, rfl, Nat.le_refl _, hps, hM, hj⟩
  case round =>
    obtain ⟨pre, n, s, hx, hn, h6, hMr, hJr⟩ := hrel
    obtain ⟨d1, d4⟩ := one_cell hMr.s
    obtain ⟨d2, -⟩ := one_cell hMr.p
    obtain ⟨d3, -⟩ := one_cell hMr.v
    have hlt := sl_lt s
    have hge := sl_ge s
    by_cases hneg : sl s < 0
    · have hst : pts n s = [s] := by
        cases n with
        | zero => rfl
        | succ n => simp only [pts, if_pos hneg]
      rw [hst] at hx
      obtain ⟨fn, tmps, assign, body, hy, hR⟩ := hY pre s wr hJr (by rw [hx]; simp) (by rw [hx]; simp)
      gi_wp2_with (gi_at_call 76; refine (CallsIn.mono (callsIn_wide.2 (index_calls s _)) ?_); rintro e W3 ⟨rfl, rfl⟩)
      refine hR.mono ?_
      rintro e W8 (⟨rfl, hJ8, hk8⟩ | ⟨rfl, hJx8⟩)
      · gi_wp2
        go_end0
        exact ⟨⟨_, rfl⟩, .inl ⟨pre ++ [s], hx.symm, hJ8⟩⟩
      · gi_wp2
        go_end0
        exact ⟨⟨_, rfl⟩, .inr ⟨pre ++ [s], by rw [hx]; exact List.prefix_refl _, hJx8⟩⟩
    · cases n with
      | zero => omega
      | succ n =>
        have hst : pts (n + 1) s = s.extract 0 (sl s).toNat :: pts n (s.extract ((sl s).toNat + 1) s.size) := by
          simp only [pts, if_neg hneg]
        rw [hst] at hx
        obtain ⟨fn, tmps, assign, body, hy, hR⟩ := hY pre (s.extract 0 (sl s).toNat) wr hJr (by rw [hx]; simp) (by rw [hx]; simp)
        gi_wp2_with (gi_at_call 76; refine (CallsIn.mono (callsIn_wide.2 (index_calls s _)) ?_); rintro e W3 ⟨rfl, rfl⟩)
        refine hR.mono ?_
        rintro e W8 (⟨rfl, hJ8, hk8⟩ | ⟨rfl, hJx8⟩)
        · have hM8 := hMr.keep hk8
          obtain ⟨k1, k4⟩ := one_cell hM8.s
          obtain ⟨k2, -⟩ := one_cell hM8.p
          obtain ⟨k3, -⟩ := one_cell hM8.v
          gi_wp2
          have e1 : (sl s + 1).toNat = (sl s).toNat + 1 := by omega
          rw [e1]
          have hM9 := hM8.set (s.extract ((sl s).toNat + 1) s.size)
          have e2 : (s.extract ((sl s).toNat + 1) s.size).size = s.size - ((sl s).toNat + 1) := by simp
          refine ⟨⟨pre ++ [s.extract 0 (sl s).toNat], n, _, by rw [hx]; simp, by omega, by omega, hM9, hJw _ _ _ hJ8⟩, ?_⟩
          rw [mS_of (one_cell hM9.s).1, mS_of d1]
          omega
        · gi_wp2
          refine bodyPost_ret (results_none rfl _ _ _) rfl ?_
          refine ⟨⟨_, rfl⟩, .inr ⟨pre ++ [s.extract 0 (sl s).toNat], ?_, hJx8⟩⟩
          rw [hx]
          exact ⟨_, by rw [List.append_assoc]; rfl⟩

/-- A part of a path. -/
abbrev Pt (path : ByteArray) := { x : ByteArray // x ∈ parts path }

theorem it_seq {m : Nat} {path : ByteArray} (hps : path.size ≤ 60) {w : World} (hM : Mem m path w) :
    SeqW Tryd.prog 74 #[.pointer (some ⟨m + 1, 0, none⟩), .pointer (some ⟨m, 0, none⟩), .pointer (some ⟨m + 2, 0, none⟩)] ⟨m, 0, none⟩ (fun x : Pt path => #[Value.string x.1]) (Kp (Sk m))
      (fun ys => ys.map Subtype.val = parts path) (fun pre => pre.map Subtype.val <+: parts path) (parts path).length w := by
  intro l J Jx W hW hl hJ hJx hJw hY hj
  have hlt : m + 2 < w.heap.size := (Array.getElem?_eq_some_iff.1 hM.v).1
  have hMW : Mem m path W := hM.keep ⟨hW.size, fun b hb => hW.block b (by rcases hb with rfl | rfl | rfl <;> omega)⟩
  refine (it_in l m W.heap.size path hps (fun pre W => ∃ p : List (Pt path), p.map Subtype.val = pre ∧ J p W) (fun pre W => ∃ p : List (Pt path), p.map Subtype.val = pre ∧ Jx p W)
    (fun s X Y row hs hg hr => ?_) (fun s X Y row hs hg hr => ?_) (fun s X v hs => ?_) (fun pre x W1 hJ1 hl hx => ?_) W hMW ⟨[], rfl, hj⟩).mono ?_
  · obtain ⟨p, e, h⟩ := hs
    exact ⟨p, e, hJ p X Y row h hg hr⟩
  · obtain ⟨p, e, h⟩ := hs
    exact ⟨p, e, hJx p X Y row h hg hr⟩
  · obtain ⟨p, e, h⟩ := hs
    exact ⟨p, e, hJw p X v h⟩
  · obtain ⟨p, rfl, h⟩ := hJ1
    obtain ⟨fn, tmps, assign, body, hy, hR⟩ := hY p ⟨x, hx⟩ W1 h (by simpa using hl)
    refine ⟨fn, tmps, assign, body, hy, hR.mono ?_⟩
    rintro e W' (⟨g1, g2, g3⟩ | ⟨g1, g2⟩)
    · exact .inl ⟨g1, ⟨p ++ [⟨x, hx⟩], by simp, g2⟩, g3⟩
    · exact .inr ⟨g1, ⟨p ++ [⟨x, hx⟩], by simp, g2⟩⟩
  · rintro e W' ⟨hv, ⟨ys, hys, p, hp, h⟩ | ⟨pre, hpre, p, hp, h⟩⟩
    · exact ⟨hv, .inl ⟨p, hp.trans hys, h⟩⟩
    · exact ⟨hv, .inr ⟨p, by show p.map Subtype.val <+: _; rw [hp]; exact hpre, h⟩⟩

set_option maxRecDepth 100000 in
theorem splitSeq_calls (s : ByteArray) (w : World) : Calls Tryd.prog 68 #[.string s, .string ⟨#[47]⟩, .int .i64 0] w fun e w' =>
    e = .returned (.func (.func 74) #[] #[.pointer (some ⟨w.heap.size + 1, 0, none⟩), .pointer (some ⟨w.heap.size, 0, none⟩), .pointer (some ⟨w.heap.size + 2, 0, none⟩)]) ∧
      w' = ((w.alloc (.cells #[.string s] 9)).alloc (.cells #[.string ⟨#[47]⟩] 9)).alloc (.cells #[.int .i64 0] 3) := by
  go_enter Tryd.func68, Tryd.ntmps68
  go_wp2
  go_ret
  exact ⟨rfl, rfl⟩

set_option maxRecDepth 100000 in
theorem SplitSeq_calls (s : ByteArray) (w : World) : Calls Tryd.prog 59 #[.string s, .string ⟨#[47]⟩] w fun e w' =>
    e = .returned (.func (.func 74) #[] #[.pointer (some ⟨w.heap.size + 1, 0, none⟩), .pointer (some ⟨w.heap.size, 0, none⟩), .pointer (some ⟨w.heap.size + 2, 0, none⟩)]) ∧
      w' = ((w.alloc (.cells #[.string s] 9)).alloc (.cells #[.string ⟨#[47]⟩] 9)).alloc (.cells #[.int .i64 0] 3) := by
  go_enter Tryd.func59, Tryd.ntmps59
  go_wp2_with (go_at_call 68; refine (splitSeq_calls _ _).mono ?_; rintro e w' ⟨rfl, rfl⟩)
  go_ret
  exact ⟨rfl, rfl⟩

/-- A byte that can stand in a part. -/
def letter (c : Int) : Bool := decide (97 ≤ c ∧ c ≤ 122 ∨ 65 ≤ c ∧ c ≤ 90 ∨ 48 ≤ c ∧ c ≤ 57 ∨ c = 46 ∨ c = 95 ∨ c = 45)

set_option maxRecDepth 100000 in
set_option maxHeartbeats 4000000 in
theorem letter_calls (c : Int) (w : World) : Calls Tryd.prog 60 #[.int .u8 c] w fun e w' => e = .returned (.bool (letter c)) ∧ w' = w := by
  go_enter Tryd.func60, Tryd.ntmps60
  go_wp2
  all_goals (try go_ret)
  all_goals refine ⟨congrArg (fun b => Ending.returned (Value.bool b)) ?_, rfl⟩
  all_goals first
    | rfl
    | (unfold letter; rw [Bool.eq_iff_iff]; simp only [Bool.or_eq_true, decide_eq_true_eq, beq_iff_eq]; omega)
    | (unfold letter; symm; rw [decide_eq_true_eq]; omega)
    | (unfold letter; symm; rw [decide_eq_false_iff_not]; omega)
    | (unfold letter; simp; omega)

end La
end Go.Proofs.YtkpplfghhciacaaDoor
