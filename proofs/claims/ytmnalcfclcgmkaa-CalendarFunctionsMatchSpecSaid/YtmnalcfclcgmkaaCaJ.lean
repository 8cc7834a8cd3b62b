/-
  The iterator over the stretches of open minutes: its walk. Conditions: none.
-/
import Derived.WalkSmall
import Derived.Test.YtmnalcfclcgmkaaCaI
set_option linter.unusedVariables false
set_option linter.unusedSimpArgs false
namespace Go.Proofs.Ytmnalcfclcgmkaa
namespace Ca
open Go.RowKit Eng

attribute [local go_sem] Oper.semAt_some

theorem wide_fn (f : FuncId) : Fence.wide.fn f = True := rfl
theorem wide_depth : Fence.wide.depth = none := rfl
theorem wide_in_fn (l : Nat) (f : FuncId) : (Fence.wide.inRound l).fn f = True := rfl
theorem wide_in_depth (l : Nat) : (Fence.wide.inRound l).depth = none := rfl

attribute [local go_sem] wide_fn wide_depth wide_in_fn wide_in_depth

/-- What is left of the days, of the windows. -/
def mD (hi : Int) : Value → Nat
  | .int _ d => (hi - 1440 * d).toNat
  | _ => 0
def mW (n : Nat) : Value → Nat
  | .int _ i => n - i.toNat
  | _ => 0

theorem strN_zero {ws : List Win} {hs : List Int} {lo hi d : Int} (n : Nat) (h : ¬ 1440 * d < hi) : strN ws hs lo hi n d = [] := by
  cases n with
  | zero => rfl
  | succ n => simp only [strN, if_neg h]

set_option maxRecDepth 100000 in
set_option maxHeartbeats 4000000 in
theorem it_in (n1 l n0 : Nat) (A : Nat → Nat → Prop) (bf bt bc : Nat) (lo hi : Int) (sw sh : Value) (ws : List Win) (hs : List Int) (h0 : 0 ≤ lo) (h1 : lo ≤ 100000000) (h2 : 0 ≤ hi) (h3 : hi ≤ 100000000)
    (hok : Ok ws) (hhl : hs.length < 4611686018427387904) (hwl : ws.length < 4611686018427387904) (J Jx : List (Int × Int) → World → Prop) (hJ : AbidesFrom n0 J) (hJx : AbidesFrom n0 Jx)
    (hY : ∀ pre x W, J pre W → pre.length < (str ws hs lo hi).length → x ∈ str ws hs lo hi → YieldAt Fence.wide (n1 - 1) Try.prog l #[.int .i64 x.1, .int .i64 x.2] W fun e W' =>
      (e = .returned (.bool true) ∧ J (pre ++ [x]) W' ∧ Kp (Sk A bf bt bc) W W') ∨ (e = .returned (.bool false) ∧ Jx (pre ++ [x]) W'))
    (W : World) (hM : Mem A bf bt bc lo hi sw sh ws hs W) (hj : J [] W) :
    CallsIn Fence.wide n1 Try.prog 27 #[.func (.yield l) #[] #[], .pointer (some ⟨bf, 0, none⟩), .pointer (some ⟨bt, 0, none⟩), .pointer (some ⟨bc, 0, none⟩)] W fun e W' => (∃ v, e = .returned v) ∧
      ((∃ ys, ys = str ws hs lo hi ∧ J ys W') ∨ (∃ pre, pre <+: str ws hs lo hi ∧ Jx pre W')) := by
  refine callsIn_of_wp Try.func27 rfl trivial ?_ rfl
  simp only [Try.ntmps27, List.size_toArray, List.length_cons, List.length_nil, Nat.reduceAdd, Nat.reduceSub, Array.replicate_succ, Array.replicate_zero, List.push_toArray, List.append_toArray, List.nil_append, List.cons_append]
  obtain ⟨ba, cap, rfl, hrow⟩ : ∃ ba cap, sw = .slice ba ws.length cap ∧ ∀ W', Mem A bf bt bc lo hi sw sh ws hs W' → ∀ (i : Nat) (w : Win), ws[i]? = some w → ∃ b o, ba = some ⟨b, o, none⟩ ∧
      W'.cell? ⟨b, o + i * 3, none⟩ = some (.int .i64 w.1) ∧ W'.cell? ⟨b, o + i * 3 + 1, none⟩ = some (.int .i64 w.2.1) ∧ W'.cell? ⟨b, o + i * 3 + 2, none⟩ = some (.int .i64 w.2.2) := by
    rcases hM.row with ⟨rfl, rfl⟩ | ⟨b, o, sp, cap, rfl, hsp, h⟩
    · exact ⟨none, 0, rfl, fun _ _ i w hn => by simp at hn⟩
    · refine ⟨some ⟨b, o, sp⟩, cap, rfl, fun W' hW' i w hn => ?_⟩
      obtain rfl := hsp (by rintro rfl; simp at hn)
      exact ⟨b, o, rfl, h W' hW' i w hn⟩
  have c1 := hM.f
  have c2 := hM.t
  have c3 := hM.c0
  have c4 := hM.c1
  gi_wp2
  gi_loopw [5] (fun p wr => ∃ (pre : List (Int × Int)) (n : Nat) (d : Int), p = .int .i64 d ∧ str ws hs lo hi = pre ++ strN ws hs lo hi n d ∧ hi ≤ 1440 * (d + n) ∧ 0 ≤ d ∧ d ≤ 100000 ∧ Mem A bf bt bc lo hi (.slice ba ws.length cap) sh ws hs wr ∧ J pre wr)
    (fun p wr => mD hi p)
  case atStart =>
    have e : (lo / 1440 : Int) = lo / 1440 := rfl
    refine ⟨[], (hi - 1440 * (lo / 1440)).toNat / 1440 + 1, lo / 1440, ?_, rfl, by omega, by omega, by omega, hM, hj⟩
    simp
  case round =>
    obtain ⟨pre, n, d, rfl, hx, hfu, hd0, hd1, hMr, hJr⟩ := hrel
    have d1 := hMr.f
    have d2 := hMr.t
    have d3 := hMr.c0
    have d4 := hMr.c1
    have hcc := contains_calls hMr.A hMr.h hhl d
    by_cases hlt : d * 1440 < hi
    · cases n with
      | zero => omega
      | succ n =>
        have hstr : strN ws hs lo hi (n + 1) d = (if hs.contains d = true then [] else dayS d lo hi ws) ++ strN ws hs lo hi n (d + 1) := by
          simp only [strN]
          rw [if_pos (by omega)]
        have hJ3 : ∀ W3, Below wr.heap.size wr W3 → J pre W3 := fun W3 hB => hJ _ _ W3 none hJr ⟨hB.os, hB.tape, hB.output, hB.size, fun k hk _ => hB.block k hk⟩ (fun r e => by cases e)
        cases hcd : hs.contains d with
        | true =>
          rw [hcd] at hcc
          rw [hcd, if_pos rfl, List.nil_append] at hstr
          gi_wp2_with (gi_at_call 28; refine (CallsIn.mono (callsIn_wide.2 hcc) ?_); rintro e W3 ⟨rfl, hB⟩; have hM3 := hMr.later hB; have g1 := hM3.f; have g2 := hM3.t; have g3 := hM3.c0; have g4 := hM3.c1)
          case roundEnd =>
            refine ⟨⟨pre, n, d + 1, rfl, by rw [hx, hstr], by omega, by omega, by omega, hMr.later hB, hJ3 _ hB⟩, ?_⟩
            show (hi - 1440 * (d + 1)).toNat < (hi - 1440 * d).toNat
            omega
        | false =>
          rw [hcd] at hcc
          rw [hcd, if_neg (by simp)] at hstr
          gi_wp2_with (gi_at_call 28; refine (CallsIn.mono (callsIn_wide.2 hcc) ?_); rintro e W3 ⟨rfl, hB⟩; have hM3 := hMr.later hB; have g1 := hM3.f; have g2 := hM3.t; have g3 := hM3.c0; have g4 := hM3.c1)
          gi_loopw [25] (fun p wr => ∃ (pre2 : List (Int × Int)) (i : Nat), p = .int .i64 i ∧ i ≤ ws.length ∧ pre2 ++ dayS d lo hi (ws.drop i) = pre ++ dayS d lo hi ws ∧ Mem A bf bt bc lo hi (.slice ba ws.length cap) sh ws hs wr ∧ J pre2 wr)
            (fun p wr => mW ws.length p)
          case atStart => exact ⟨pre, 0, rfl, Nat.zero_le _, by rw [List.drop_zero], hMr.later hB, hJ3 _ hB⟩
          case round =>
            obtain ⟨pre2, i, rfl, hiw, hx2, hM4, hJ4⟩ := hrel
            have k1 := hM4.f
            have k2 := hM4.t
            have k3 := hM4.c0
            have k4 := hM4.c1
            by_cases hil : i < ws.length
            · have hget : ws[i]? = some ws[i] := List.getElem?_eq_getElem hil
              obtain ⟨wb, wo, rfl, q1, q2, q3⟩ := hrow wr hM4 i _ hget
              obtain ⟨o1, o2, o3, o4, o5⟩ := hok.1 ws[i] (List.getElem_mem hil)
              gi_wp2
              generalize hW5 : wr.alloc (Obj.cells #[Value.int .i64 ws[i].1, Value.int .i64 ws[i].2.1, Value.int .i64 ws[i].2.2] 43) = W5
              have hn5 : W5.heap[wr.heap.size]? = some (Obj.cells #[Value.int .i64 ws[i].1, Value.int .i64 ws[i].2.1, Value.int .i64 ws[i].2.2] 43) := by rw [← hW5]; exact World.alloc_heap_new wr _
              have m0 : W5.cell? ⟨wr.heap.size, 0, none⟩ = some (.int .i64 ws[i].1) := by simp [World.cell?, hn5]
              have m1 : W5.cell? ⟨wr.heap.size, 1, none⟩ = some (.int .i64 ws[i].2.1) := by simp [World.cell?, hn5]
              have m2 : W5.cell? ⟨wr.heap.size, 2, none⟩ = some (.int .i64 ws[i].2.2) := by simp [World.cell?, hn5]
              have hB5 : Below wr.heap.size wr W5 := by rw [← hW5]; exact (Below.refl _ _).alloc (Nat.le_refl _) _
              have hM5 := hM4.later hB5
              have j1 := hM5.f
              have j2 := hM5.t
              refine wpIn_wide.2 ?_
              go_quiet (fail)
              have eL : (if d * 1440 + ws[i].2.1 < lo then lo else d * 1440 + ws[i].2.1) = max (1440 * d + ws[i].2.1) lo := by split <;> omega
              have eH : (if hi < d * 1440 + ws[i].2.2 then hi else d * 1440 + ws[i].2.2) = min (1440 * d + ws[i].2.2) hi := by split <;> omega
              rw [eL, eH]
              have hB6 : ∀ n, Below wr.heap.size wr (W5.drewN n) := fun n => below_drewN hB5 n
              dsimp only [Exit.then]
              go_at_K
              generalize hW6 : W5.drewN _ = W6
              have hB7 : Below wr.heap.size wr W6 := by rw [← hW6]; exact hB6 _
              have n0' : W6.cell? ⟨wr.heap.size, 0, none⟩ = some (.int .i64 ws[i].1) := by rw [← hW6]; exact m0
              have hM6 := hM4.later hB7
              have hJ6 : J pre2 W6 := hJ _ _ W6 none hJ4 ⟨hB7.os, hB7.tape, hB7.output, hB7.size, fun k hk _ => hB7.block k hk⟩ (fun r e => by cases e)
              by_cases hwd : ws[i].1 = d % 7
              · by_cases hlh : max (1440 * d + ws[i].2.1) lo < min (1440 * d + ws[i].2.2) hi
                · have hday : dayS d lo hi (ws.drop i) = (max (1440 * d + ws[i].2.1) lo, min (1440 * d + ws[i].2.2) hi) :: dayS d lo hi (ws.drop (i + 1)) := by
                    rw [List.drop_eq_getElem_cons hil]
                    simp only [dayS]
                    rw [if_pos ⟨hwd, hlh⟩]
                  have hlen : pre2.length < (str ws hs lo hi).length := by
                    rw [hx, hstr, ← List.append_assoc, ← hx2, hday]
                    simp
                  obtain ⟨fn, tmps, assign, body, hy, hR⟩ := hY pre2 (max (1440 * d + ws[i].2.1) lo, min (1440 * d + ws[i].2.2) hi) W6 hJ6 hlen (by rw [hx, hstr, ← List.append_assoc, ← hx2, hday]; simp)
                  gi_wp2
                  refine hR.mono ?_
                  rintro e W8 (⟨rfl, hJ8, hk8⟩ | ⟨rfl, hJx8⟩)
                  · gi_wp2
                    refine ⟨⟨pre2 ++ [(max (1440 * d + ws[i].2.1) lo, min (1440 * d + ws[i].2.2) hi)], i + 1, by simp, hil, ?_, hM6.keep hk8, hJ8⟩, ?_⟩
                    · rw [← hx2, hday, List.append_assoc]
                      rfl
                    · show ws.length - (i + 1) < ws.length - i
                      omega
                  · gi_wp2
                    refine bodyPost_ret (results_none rfl _ _ _) rfl ?_
                    refine ⟨⟨_, rfl⟩, .inr ⟨pre2 ++ [(max (1440 * d + ws[i].2.1) lo, min (1440 * d + ws[i].2.2) hi)], ?_, hJx8⟩⟩
                    rw [hx, hstr, ← List.append_assoc, ← hx2, hday]
                    exact ⟨dayS d lo hi (ws.drop (i + 1)) ++ strN ws hs lo hi n (d + 1), by simp⟩
                · gi_wp2
                  refine ⟨⟨pre2, i + 1, by simp, hil, ?_, hM6, hJ6⟩, ?_⟩
                  · rw [← hx2, List.drop_eq_getElem_cons hil]
                    simp only [dayS]
                    rw [if_neg (fun h => hlh h.2)]
                  · show ws.length - (i + 1) < ws.length - i
                    omega
              · gi_wp2
                refine ⟨⟨pre2, i + 1, by simp, hil, ?_, hM6, hJ6⟩, ?_⟩
                · rw [← hx2, List.drop_eq_getElem_cons hil]
                  simp only [dayS]
                  rw [if_neg (fun h => hwd h.1)]
                · show ws.length - (i + 1) < ws.length - i
                  omega
            · gi_wp2
              obtain rfl : i = ws.length := by omega
              rw [List.drop_length] at hx2
              simp only [dayS, List.append_nil] at hx2
              refine ⟨⟨pre2, n, d + 1, rfl, by rw [hx, hstr, ← List.append_assoc, ← hx2], by omega, by omega, by omega, hM4, hJ4⟩, ?_⟩
              show (hi - 1440 * (d + 1)).toNat < (hi - 1440 * d).toNat
              omega
    · gi_wp2
      go_end0
      refine ⟨⟨_, rfl⟩, .inl ?_⟩
      rw [strN_zero _ (by omega), List.append_nil]
      exact hJr

/-- A stretch of the range. -/
abbrev St (ws : List Win) (hs : List Int) (lo hi : Int) := { x : Int × Int // x ∈ str ws hs lo hi }

theorem it_stops (n1 : Nat) {A : Nat → Nat → Prop} {bf bt bc : Nat} {lo hi : Int} {sw sh : Value} {ws : List Win} {hs : List Int} (h0 : 0 ≤ lo) (h1 : lo ≤ 100000000) (h2 : 0 ≤ hi) (h3 : hi ≤ 100000000)
    (hok : Ok ws) (hhl : hs.length < 4611686018427387904) (hwl : ws.length < 4611686018427387904) {w : World} (hM : Mem A bf bt bc lo hi sw sh ws hs w) :
    SeqStopsK Fence.wide n1 Try.prog 27 #[.pointer (some ⟨bf, 0, none⟩), .pointer (some ⟨bt, 0, none⟩), .pointer (some ⟨bc, 0, none⟩)] (fun x : St ws hs lo hi => #[Value.int .i64 x.1.1, Value.int .i64 x.1.2]) (Kp (Sk A bf bt bc))
      (fun ys => ys.map Subtype.val = str ws hs lo hi) (fun pre => pre.map Subtype.val <+: str ws hs lo hi) (str ws hs lo hi).length w := by
  intro l J Jx W hW hJ hJx hY hj
  refine (it_in n1 l W.heap.size A bf bt bc lo hi sw sh ws hs h0 h1 h2 h3 hok hhl hwl (fun pre W => ∃ p : List (St ws hs lo hi), p.map Subtype.val = pre ∧ J p W) (fun pre W => ∃ p : List (St ws hs lo hi), p.map Subtype.val = pre ∧ Jx p W)
    (fun s X Y row hs hg hr => ?_) (fun s X Y row hs hg hr => ?_) (fun pre x W1 hJ1 hl hx => ?_) W (hM.later hW) ⟨[], rfl, hj⟩).mono ?_
  · obtain ⟨p, e, h⟩ := hs
    exact ⟨p, e, hJ p X Y row h hg hr⟩
  · obtain ⟨p, e, h⟩ := hs
    exact ⟨p, e, hJx p X Y row h hg hr⟩
  · obtain ⟨p, rfl, h⟩ := hJ1
    obtain ⟨fn, tmps, assign, body, hy, hR⟩ := hY p ⟨x, hx⟩ W1 h (by simpa using hl)
    refine ⟨fn, tmps, assign, body, hy, hR.mono ?_⟩
    rintro e W' (⟨g1, g2, g3⟩ | ⟨g1, g2⟩)
    · exact .inl ⟨g1, ⟨p ++ [⟨x, hx⟩], by simp, g2⟩, g3⟩
    · exact .inr ⟨g1, ⟨p ++ [⟨x, hx⟩], by simp, g2⟩⟩
  · rintro e W' ⟨hv, ⟨ys, hys, p, hp, h⟩ | ⟨pre, hpre, p, hp, h⟩⟩
    · exact ⟨hv, .inl ⟨p, hp.trans hys, h⟩⟩
    · exact ⟨hv, .inr ⟨p, by show p.map Subtype.val <+: _; rw [hp]; exact hpre, h⟩⟩

end Ca
end Go.Proofs.Ytmnalcfclcgmkaa
