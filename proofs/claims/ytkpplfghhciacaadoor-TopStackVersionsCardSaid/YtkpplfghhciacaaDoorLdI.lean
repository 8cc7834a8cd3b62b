/-
  slices.Insert and slices.Delete at a struct's rows, walked with the runs of append, copy, clear laid open. Conditions: none.
-/
import Derived.Shelf.Spec.SlicesInsert
import Derived.Lib.AppendZerosOnto
import Derived.Laws.NewBlocks
import Derived.Test.YtkpplfghhciacaaDoorEngW
import Derived.Test.YtkpplfghhciacaaDoorProg
set_option linter.unusedVariables false
set_option linter.unusedSimpArgs false
namespace Go.Proofs.YtkpplfghhciacaaDoor
namespace Ins
open Go.RowKit Go.Lib Go.Proofs.YtkpplfghhciacaaDoor.Eng

/-- A builtin of two arguments as one step of a region that draws. -/
theorem step_append_run {P : Program} {ops : Array Oper} {o : Oper} {a : Act} {w : World} {K : Act → World → Prop} {Q : Exit → Act → World → Prop} {E : Prop}
    (hg : o.guard = none) (d x : Operand) (dT sT : TypeId) (hop : o.op = Op.call { callee := Callee.builtin Builtin.append, args := #[d, x], argTypes := #[dT, sT] })
    (v u : Value) (hd : a.eval d = v) (hx : a.eval x = u) {v' : Value} {w' : World} (hr : (Builtin.append_ #[dT, sT] o.type #[v, u]).run P w = .ok v' w') (hK : K (a.put o.dst v') w') :
    if Region.wanted o (yielded ops a.tmps) = true then Oper.wp P o a w K Q else E := by
  have hw : Region.wanted o (yielded ops a.tmps) = true := by simp [Region.wanted, hg]
  rw [if_pos hw]
  unfold Oper.wp
  simp [execOp, hop, resolve, invoke, builtin, hd, hx, hr, Result.andThen]
  exact hK

theorem wp_clear_run {P : Program} (w : World) {o : Oper} {a : Act} {K : Act → World → Prop} {Q : Exit → Act → World → Prop} (d : Operand) (t : TypeId)
    (ho : o.op = .call { callee := .builtin .clear, args := #[d], argTypes := #[t] }) (v : Value) (hd : a.eval d = v) {v' : Value} {w' : World}
    (hr : (Builtin.clear_ #[t] o.type #[v]).run P w = .ok v' w') (h : K (a.put o.dst v') w') : o.wp P a w K Q := by
  unfold Oper.wp execOp
  simp only [ho, resolve, invoke, builtin, Sem.run_bind, Sem.run_pure, Result.andThen_ok, List.map_toArray, List.map_cons, List.map_nil, hd, hr]
  exact h

theorem wpList_clear_run {P : Program} (w : World) {ops : Array Oper} {rest : List Oper} {o : Oper} {a : Act} {Q : Exit → Act → World → Prop} (hgd : o.guard = none) (d : Operand) (t : TypeId)
    (ho : o.op = .call { callee := .builtin .clear, args := #[d], argTypes := #[t] }) (v : Value) (hd : a.eval d = v) {v' : Value} {w' : World}
    (hr : (Builtin.clear_ #[t] o.type #[v]).run P w = .ok v' w') (h : wpList P ops Q rest (a.put o.dst v') w') : wpList P ops Q (o :: rest) a w :=
  wpList_plain hgd fun _ hK => wp_clear_run w d t ho v hd hr (hK _ _ h)

theorem mixed : Tryd.prog.follows Departure.mixedOrders = true := by kernel_rfl

theorem und : Tryd.prog.underlying 39 = some (.slice 53) := by kernel_rfl

set_option maxHeartbeats 4000000 in
set_option maxRecDepth 100000 in
/-- At the end. -/
theorem ins_end (base : Option Addr) (n c vb m vc : Nat) (w w1 : World) (v1 : Value) (hm : 0 < m) (hnc : n ≤ c) (hc : n + m ≤ 1099511627776) (hnil : base = none → n = 0 ∧ c = 0)
    (hrun : ∀ ty, (Builtin.append_ #[39, 39] ty #[.slice base n c, .slice (some ⟨vb, 0, none⟩) m vc]).run Tryd.prog w = .ok v1 w1) :
    Calls Tryd.prog 64 #[.slice base n c, .int .i64 n, .slice (some ⟨vb, 0, none⟩) m vc] w fun e w' => e = .returned v1 ∧ w' = w1 := by
  have hz1 : ¬ ((m : Int) = 0) := by omega
  go_enter Tryd.func64, Tryd.ntmps64
  cases base with
  | none =>
    obtain ⟨h0, h1⟩ := hnil rfl
    subst h0
    subst h1
    go_wp2_with (at_builtin; refine Lib.wpList_append_run _ rfl _ _ _ _ rfl _ _ rfl rfl _ _ (hrun _) ?_)
    go_ret
    exact ⟨rfl, rfl⟩
  | some a =>
    obtain ⟨ab, ao, asp⟩ := a
    go_wp2_with (at_builtin; refine Lib.wpList_append_run _ rfl _ _ _ _ rfl _ _ rfl rfl _ _ (hrun _) ?_)
    all_goals (go_ret; exact ⟨rfl, rfl⟩)

set_option maxHeartbeats 4000000 in
set_option maxRecDepth 100000 in
/-- There is room. -/
theorem ins_shift (b n c i vb m vc : Nat) (w w1 w2 : World) (x1 x2 : Value) (hi : i < n) (hm : 0 < m) (hroom : n + m ≤ c) (hc63 : n + m ≤ 1099511627776) (hvb : vb ≠ b)
    (hov : ∀ lb cb, (Extern.SlicesOverlaps.overlaps #[39, 39] #[4] #[.slice (some ⟨vb, 0, none⟩) m vc, .slice (some ⟨b, (i + m) * 2, none⟩) lb cb]).run Tryd.prog w = .ok (.bool false) w)
    (hcp1 : ∀ ty dc sc, (Builtin.copy_ #[39, 39] ty #[.slice (some ⟨b, (i + m) * 2, none⟩) (n + m - (i + m)) dc, .slice (some ⟨b, i * 2, none⟩) (n + m - i) sc]).run Tryd.prog w.drew = .ok x1 w1)
    (hcp2 : ∀ ty dc, (Builtin.copy_ #[39, 39] ty #[.slice (some ⟨b, i * 2, none⟩) (n + m - i) dc, .slice (some ⟨vb, 0, none⟩) m vc]).run Tryd.prog w1 = .ok x2 w2) :
    Calls Tryd.prog 64 #[.slice (some ⟨b, 0, none⟩) n c, .int .i64 i, .slice (some ⟨vb, 0, none⟩) m vc] w fun e w' =>
      e = .returned (.slice (some ⟨b, 0, none⟩) (n + m) c) ∧ w' = w2 := by
  have hz1 : ¬ ((m : Int) = 0) := by omega
  have hz2 : ¬ ((i : Int) = (n : Int)) := by omega
  have hov' : ∀ lb cb, (callFunc 71 #[.slice (some ⟨vb, 0, none⟩) m vc, .slice (some ⟨b, (i + m) * 2, none⟩) lb cb]).run Tryd.prog w = .ok (.value (.bool false)) w := fun lb cb => by
    rw [run_callFunc_extern Tryd.func71 (by kernel_rfl) (by kernel_rfl) (by kernel_rfl) (e := Extern.SlicesOverlaps.overlaps #[39, 39] #[4]) (by kernel_rfl), hov]
    rfl
  have hw1 : IntKind.i64.wrap ((i : Int) + (m : Int)) = (i : Int) + (m : Int) := by rw [IntKind.wrap_i64]; omega
  have hb1 : (0 : Int) ≤ (i : Int) + (m : Int) := by omega
  have hin : i ≤ n := by omega
  have htn : ((i : Int) + (m : Int)).toNat = i + m := by omega
  have hb2 : ¬ (c = i + m) := by omega
  have hb3 : (i : Int) ≤ (n : Int) + (m : Int) := by omega
  have hb4 : ¬ (c = i) := by omega
  clear hov
  have mixed := mixed
  go_enter Tryd.func64, Tryd.ntmps64
  go_wp2_with (simp only [hov'])
  go_region_law_o (refine step_copy_runI rfl _ _ 39 39 rfl _ _ (by simp [Act.eval, Act.put]) (by simp [Act.eval, Act.put]) (hcp1 _ _ _) ?_)
  go_wp2_with (at_builtin; refine wpList_copy_runI _ rfl _ _ 39 39 rfl _ _ rfl rfl (hcp2 _ _) ?_)
  go_ret
  exact ⟨rfl, rfl⟩

set_option maxHeartbeats 4000000 in
set_option maxRecDepth 100000 in
/-- There is no room. -/
theorem ins_grow (b n c i vb m vc g G : Nat) (w w1 w2 w3 : World) (x1 x2 : Value) (hi : i < n) (hm : 0 < m) (hnc : n ≤ c) (hroom : c < n + m) (hc63 : n + m ≤ 1099511627776) (hGn : n + m ≤ G) (hG63 : G ≤ 9223372036854775807)
    (hrz : ∀ ty, (Builtin.append_ #[39, 3] ty #[.slice (some ⟨b, 0, none⟩) i c, .int .i64 ((n : Int) + (m : Int) - (i : Int))]).run Tryd.prog w = .ok (.slice (some ⟨g, 0, none⟩) (n + m) G) w1)
    (hcpA : ∀ ty dc, (Builtin.copy_ #[39, 39] ty #[.slice (some ⟨g, i * 2, none⟩) (n + m - i) dc, .slice (some ⟨vb, 0, none⟩) m vc]).run Tryd.prog w1 = .ok x1 w2)
    (hcpB : ∀ ty dc sc, (Builtin.copy_ #[39, 39] ty #[.slice (some ⟨g, (i + m) * 2, none⟩) (n + m - (i + m)) dc, .slice (some ⟨b, i * 2, none⟩) (n - i) sc]).run Tryd.prog w2.drew = .ok x2 w3) :
    Calls Tryd.prog 64 #[.slice (some ⟨b, 0, none⟩) n c, .int .i64 i, .slice (some ⟨vb, 0, none⟩) m vc] w fun e w' =>
      e = .returned (.slice (some ⟨g, 0, none⟩) (n + m) G) ∧ w' = w3 := by
  have mixed := mixed
  have hz1 : ¬ ((m : Int) = 0) := by omega
  have hz2 : ¬ ((i : Int) = (n : Int)) := by omega
  have hz3 : (c : Int) < (n : Int) + (m : Int) := by omega
  have hGi : ¬ (G = i) := by omega
  have hGim : ¬ (G = i + m) := by omega
  have hci : ¬ (c = i) := by omega
  have hw1 : IntKind.i64.wrap ((i : Int) + (m : Int)) = (i : Int) + (m : Int) := by rw [IntKind.wrap_i64]; omega
  have hb1 : (0 : Int) ≤ (i : Int) + (m : Int) := by omega
  have hin : i ≤ n := by omega
  have htn : ((i : Int) + (m : Int)).toNat = i + m := by omega
  have hb3 : (i : Int) ≤ (n : Int) := by omega
  go_enter Tryd.func64, Tryd.ntmps64
  go_wp2_with (first
    | (at_builtin; refine Lib.wpList_append_run _ rfl _ _ _ _ rfl _ _ rfl rfl _ _ (hrz _) ?_)
    | (at_builtin; refine wpList_copy_runI _ rfl _ _ 39 39 rfl _ _ rfl rfl (hcpA _ _) ?_))
  go_region_law_o (refine step_copy_runI rfl _ _ 39 39 rfl (.slice (some ⟨g, (i + m) * 2, none⟩) (n + m - (i + m)) (G - (i + m))) (.slice (some ⟨b, i * 2, none⟩) (n - i) (c - i)) (by simp [Act.eval, Act.put]) (by simp [Act.eval, Act.put]) (hcpB _ (G - (i + m)) (c - i)) ?_)
  go_wp2
  go_ret
  exact ⟨rfl, rfl⟩

set_option maxHeartbeats 4000000 in
set_option maxRecDepth 100000 in
/-- Delete takes out a part. -/
theorem del_some (b n c i j : Nat) (w w1 w2 : World) (x2 : Value) (hij : i < j) (hj : j ≤ n) (hnc : n ≤ c) (hc63 : n ≤ 1099511627776)
    (hap : ∀ ty sb sc, (j < c → sb = some (⟨b, j * 2, none⟩ : Addr)) → (Builtin.append_ #[39, 39] ty #[.slice (some ⟨b, 0, none⟩) i c, .slice sb (n - j) sc]).run Tryd.prog w.drew = .ok (.slice (some ⟨b, 0, none⟩) (i + (n - j)) c) w1)
    (hcl : ∀ ty sc, (Builtin.clear_ #[39] ty #[.slice (some ⟨b, (i + (n - j)) * 2, none⟩) (n - (i + (n - j))) sc]).run Tryd.prog w1 = .ok x2 w2) :
    Calls Tryd.prog 54 #[.slice (some ⟨b, 0, none⟩) n c, .int .i64 i, .int .i64 j] w fun e w' =>
      e = .returned (.slice (some ⟨b, 0, none⟩) (i + (n - j)) c) ∧ w' = w2 := by
  have mixed := mixed
  have hz1 : ¬ ((i : Int) = (j : Int)) := by omega
  have hin : (i : Int) ≤ (j : Int) := by omega
  have hjn : (j : Int) ≤ (n : Int) := by omega
  have hjn2 : j ≤ n := hj
  have h2 : ¬ c = i + (n - j) := by omega
  have h3 : (i : Int) + ((n - j : Nat) : Int) ≤ (n : Int) := by omega
  have h4 : (0 : Int) ≤ (i : Int) + ((n - j : Nat) : Int) := by omega
  have h5 : ((i : Int) + ((n - j : Nat) : Int)).toNat = i + (n - j) := by omega
  have h6 : i ≤ c := by omega
  by_cases hcj : c = j
  · subst hcj
    obtain rfl : n = c := by omega
    have hap1 : ∀ ty, (Builtin.append_ #[39, 39] ty #[.slice (some ⟨b, 0, none⟩) i n, .slice (some ⟨b, 0, none⟩) 0 0]).run Tryd.prog w.drew = .ok (.slice (some ⟨b, 0, none⟩) i n) w1 := fun ty => by
      have := hap ty (some ⟨b, 0, none⟩) 0 (fun h => by omega)
      simpa using this
    have hcl1 : ∀ ty sc, (Builtin.clear_ #[39] ty #[.slice (some ⟨b, i * 2, none⟩) (n - i) sc]).run Tryd.prog w1 = .ok x2 w2 := fun ty sc => by
      have := hcl ty sc
      simpa using this
    have h7 : ¬ (n = i) := by omega
    clear hap hcl h2 h3 h4 h5
    go_enter Tryd.func54, Tryd.ntmps54
    go_wp2
    go_region_law_o (refine step_append_run rfl _ _ 39 39 rfl _ _ (by simp [Act.eval, Act.put]) (by simp [Act.eval, Act.put]) (hap1 _) ?_)
    go_wp2_with (at_builtin; refine wpList_clear_run _ rfl _ 39 rfl _ rfl (hcl1 _ _) ?_)
    go_ret
    exact ⟨by simp, rfl⟩
  · have hap1 : ∀ ty, (Builtin.append_ #[39, 39] ty #[.slice (some ⟨b, 0, none⟩) i c, .slice (some ⟨b, j * 2, none⟩) (n - j) (c - j)]).run Tryd.prog w.drew = .ok (.slice (some ⟨b, 0, none⟩) (i + (n - j)) c) w1 := fun ty => hap ty _ _ (fun h => rfl)
    clear hap
    go_enter Tryd.func54, Tryd.ntmps54
    go_wp2
    go_region_law_o (refine step_append_run rfl _ _ 39 39 rfl _ _ (by simp [Act.eval, Act.put]) (by simp [Act.eval, Act.put]) (hap1 _) ?_)
    go_wp2_with (at_builtin; refine wpList_clear_run _ rfl _ 39 rfl _ rfl (hcl _ _) ?_)
    go_ret
    exact ⟨rfl, rfl⟩

end Ins
end Go.Proofs.YtkpplfghhciacaaDoor
