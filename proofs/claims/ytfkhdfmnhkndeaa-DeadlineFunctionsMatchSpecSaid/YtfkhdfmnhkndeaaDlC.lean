/-
  What the functions of the simulation compute. Conditions: none.
-/
import Derived.Test.YtfkhdfmnhkndeaaDlB
namespace Go.Proofs.Ytfkhdfmnhkndeaa
open Eng
namespace Dl

abbrev o0 : Op := (0, (0, (0, (0, []))))

/-- A valid operation. -/
structure OpOk (n : Nat) (o : Op) : Prop where
  kind : 1 ≤ o.1 ∧ o.1 ≤ 4
  chan : o.1 ≤ 2 → 0 ≤ o.2.1 ∧ o.2.1 < n
  chan0 : 2 < o.1 → o.2.1 = 0
  val : 0 ≤ o.2.2.1 ∧ o.2.2.1 ≤ 1000000000
  val0 : o.1 ≠ 1 → o.2.2.1 = 0
  wait0 : o.1 ≤ 2 → o.2.2.2.1 = 0
  wait : o.2.2.2.1 ≤ 60 ∧ -1 ≤ o.2.2.2.1 ∧ (o.1 ≠ 3 → 0 ≤ o.2.2.2.1)
  chans : ∀ c, c ∈ o.2.2.2.2 → 0 ≤ c ∧ c < n
  few : o.2.2.2.2.length ≤ 4
  chans0 : o.1 ≠ 3 → o.2.2.2.2 = []

/-- The first of these channels on which a value waits. -/
def pickC (qs : List (List Int)) : List Int → Option Int
  | [] => none
  | c :: cs => if qs.getD c.toNat [] = [] then pickC qs cs else some c

theorem pickC_cons (qs : List (List Int)) (c : Int) (cs : List Int) : pickC qs (c :: cs) = if qs.getD c.toNat [] = [] then pickC qs cs else some c := rfl

/-- An operation is tried. -/
def tryS (caps : List Int) (qs : List (List Int)) (o : Op) (waited : Int) : (Int × (Int × Bool)) × List (List Int) :=
  if o.1 = 1 then
    if ((qs.getD o.2.1.toNat []).length : Int) ≥ caps.getD o.2.1.toNat 0 then ((0, (0, false)), qs) else ((o.2.1, (o.2.2.1, true)), qs.set o.2.1.toNat (qs.getD o.2.1.toNat [] ++ [o.2.2.1]))
  else if o.1 = 2 then match qs.getD o.2.1.toNat [] with
    | [] => ((0, (0, false)), qs)
    | x :: xs => ((o.2.1, (x, true)), qs.set o.2.1.toNat xs)
  else if o.1 = 3 then match pickC qs o.2.2.2.2 with
    | some c => match qs.getD c.toNat [] with
      | [] => ((-1, (0, false)), qs)
      | x :: xs => ((c, (x, true)), qs.set c.toNat xs)
    | none => ((-1, (0, decide (o.2.2.2.1 ≠ -1 ∧ waited ≥ o.2.2.2.1))), qs)
  else ((-1, (0, decide (waited ≥ o.2.2.2.1))), qs)

theorem idx_loop {caps : List Int} {qs : List (List Int)} {sc : List (List Op)} {next s : List Int} {tick : Int} {res : List Res} {cs : List Int} (hcs : ∀ c, c ∈ cs → 0 ≤ c ∧ c < qs.length) (hl : cs.length ≤ 1000) {K0 : Prop} {Kr : Int → Prop}
    (h1 : pickC qs cs = none → K0) (h2 : ∀ i : Nat, i < cs.length → pickC qs cs = some (cs.getD i 0) → Kr i) : ∀ (fu i : Nat), i ≤ cs.length → cs.length - i < fu → pickC qs cs = pickC qs (cs.drop i) → L.slices_IndexFunc_v39_L1_R cs caps qs sc next s tick res cs.length fu i K0 Kr
  | 0, i, _, h, _ => by omega
  | fu + 1, i, hi, h, hp => by
    show L.slices_IndexFunc_v39_L1_b cs caps qs sc next s tick res cs.length i _ K0 Kr
    unfold L.slices_IndexFunc_v39_L1_b
    rcases Nat.lt_or_ge i cs.length with g | g
    · refine cond_t (by simp; omega) ⟨⟨by omega, by omega⟩, ⟨?_⟩⟩
      unfold L.deadline_machine_try_1_v37_B
      rw [Int.toNat_natCast]
      have hc := hcs (cs.getD i 0) (by rw [getD_get _ _ _ g]; exact List.getElem_mem g)
      refine ⟨hc, ?_⟩
      rw [List.drop_eq_getElem_cons g, ← getD_get cs i 0 g, pickC_cons] at hp
      by_cases he : qs.getD (cs.getD i 0).toNat [] = []
      · rw [if_pos he] at hp
        refine cond_f (by rw [he]; simp) ?_
        rw [i64_succ (by omega)]
        exact idx_loop hcs hl h1 h2 fu (i + 1) g (by omega) hp
      · rw [if_neg he] at hp
        refine cond_t ?_ (h2 i g ?_)
        · have : 0 < (qs.getD (cs.getD i 0).toNat []).length := List.length_pos_iff.2 he
          simp
          simpa using this
        · exact hp
    · obtain rfl : i = cs.length := by omega
      rw [List.drop_length] at hp
      exact cond_f (by simp) (h1 hp)

theorem pick_some {qs : List (List Int)} : ∀ {cs : List Int} {c : Int}, pickC qs cs = some c → c ∈ cs ∧ qs.getD c.toNat [] ≠ []
  | [], c, h => by cases h
  | x :: cs, c, h => by
    unfold pickC at h
    split at h
    · obtain ⟨h1, h2⟩ := pick_some h
      exact ⟨List.mem_cons_of_mem _ h1, h2⟩
    · next hne =>
      cases h
      exact ⟨by simp, hne⟩

abbrev KT := Pool → List Int → List (List Op) → Int → List Hd → List Int → List Int → List Res → Prop

theorem receive_ok {m : Pool} {hs : List Hd} {qs : List (List Int)} (hS : Lay m hs qs) {c : Int} (hc : 0 ≤ c ∧ c < qs.length) {x : Int} {xs : List Int} (hq : qs.getD c.toNat [] = x :: xs) {caps : List Int} {sc : List (List Op)} {tick : Int} {next s : List Int} {res : List Res}
    {K : Int → KT} (hK : ∀ hs', Lay m hs' (qs.set c.toNat xs) → K x m caps sc tick hs' next s res) : L.deadline_machine_receive_h38 c m caps sc tick hs next s res K := by
  have hi : c.toNat < qs.length := by omega
  have hl := hS.row c.toNat hi
  have hsl := hS.len
  rw [hq] at hl
  obtain ⟨hp1, hp2⟩ := hl.head
  obtain ⟨ht1, ht2⟩ := hl.tail
  have hn : (hs.getD c.toNat Hd.nil).n = xs.length + 1 := by rw [hl.1]; rfl
  have b1 : inB c hs.length := ⟨hc.1, by omega⟩
  constructor
  unfold L.deadline_machine_receive_h38_B
  refine ⟨b1, ⟨⟨by omega, by omega⟩, hl.ok⟩, hp1, b1, ⟨⟨by omega, by omega⟩, hl.2.1⟩, b1, ?_⟩
  rw [show ((0 : Int).toNat) = 0 from rfl, hp2]
  exact hK _ (hS.upd hi ht1 (fun b hb => .inl (ht2 b hb)) (Keeps.refl _ _))

theorem try_ok {m : Pool} {hs : List Hd} {qs : List (List Int)} (hS : Lay m hs qs) {caps : List Int} (hcl : caps.length = qs.length) (hq : ∀ c, c < qs.length → (qs.getD c []).length ≤ 1000) {sc : List (List Op)} {tick : Int} {next s : List Int} {res : List Res} {o : Op} (ho : OpOk qs.length o) {waited : Int}
    {K : Int → Int → Bool → KT} (hK : ∀ m' hs', Lay m' hs' (tryS caps qs o waited).2 → K (tryS caps qs o waited).1.1 (tryS caps qs o waited).1.2.1 (tryS caps qs o waited).1.2.2 m' caps sc tick hs' next s res) :
    L.deadline_machine_try_h36 o.1 o.2.1 o.2.2.1 o.2.2.2.1 o.2.2.2.2 waited m caps sc tick hs next s res K := by
  have hsl := hS.len
  constructor
  unfold L.deadline_machine_try_h36_B
  unfold tryS at hK
  by_cases h1 : o.1 = 1
  · rw [if_pos h1] at hK
    obtain ⟨c1, c2⟩ := ho.chan (by omega)
    have hi : o.2.1.toNat < qs.length := by omega
    have hl := hS.row _ hi
    have hb : inB o.2.1 hs.length := ⟨c1, by omega⟩
    have hb2 : inB o.2.1 caps.length := ⟨c1, by omega⟩
    refine cond_t (beq_iff_eq.2 h1) ⟨hb, hb2, ?_⟩
    have hn : (hs.getD o.2.1.toNat Hd.nil).n = (qs.getD o.2.1.toNat []).length := hl.1
    have hq1 := hq _ hi
    by_cases h2 : ((qs.getD o.2.1.toNat []).length : Int) ≥ caps.getD o.2.1.toNat 0
    · rw [if_pos h2] at hK
      exact cond_t (by simp only [hn]; exact decide_eq_true h2) (hK m hs hS)
    · rw [if_neg h2] at hK
      refine cond_f (by simp only [hn]; exact decide_eq_false h2) ?_
      have hok := hl.ok
      have hfit : fits ((hs.getD o.2.1.toNat Hd.nil).n + ([o.2.2.1] : List Int).length) := by
        simp only [fits, List.length_singleton]
        omega
      by_cases hc : (hs.getD o.2.1.toNat Hd.nil).n + 1 ≤ (hs.getD o.2.1.toNat Hd.nil).c
      · have hble : Nat.ble ((hs.getD o.2.1.toNat Hd.nil).n + ([o.2.2.1] : List Int).length) (hs.getD o.2.1.toNat Hd.nil).c = true := Nat.ble_eq_true_of_le hc
        obtain ⟨g1, g2⟩ := hl.more o.2.2.1 hc
        have hfin := hK _ _ (hS.upd hi g1 (fun b hb => .inl hb) g2)
        simp only [hble, cond_true]
        refine ⟨hb, ?_⟩
        repeat' (first | exact hfin | exact hb | exact hb2 | exact hok | exact hfit | apply And.intro)
      · have hble : Nat.ble ((hs.getD o.2.1.toNat Hd.nil).n + ([o.2.2.1] : List Int).length) (hs.getD o.2.1.toNat Hd.nil).c = false := by rw [Bool.eq_false_iff]; exact fun h => hc (Nat.le_of_ble_eq_true h)
        have hfin : ∀ b cap : Nat, pfind m b = none → ((hs.getD o.2.1.toNat Hd.nil).n + ([o.2.2.1] : List Int).length) ≤ cap → K o.2.1 o.2.2.1 true ((b, ((Hd.get m (hs.getD o.2.1.toNat Hd.nil) ++ ([o.2.2.1] : List Int)), cap)) :: m) caps sc tick (hs.set o.2.1.toNat (Hd.mk (some (Addr.mk b 0 none)) ((hs.getD o.2.1.toNat Hd.nil).n + ([o.2.2.1] : List Int).length) cap)) next s res := by
          intro b cap hb1 hcap
          obtain ⟨g1, g2⟩ := hl.moved o.2.2.1 hb1 hcap
          refine hK _ _ (hS.upd hi g1 (fun b' hb' => .inr ?_) g2)
          simp only [blk] at hb'
          split at hb'
          · cases hb'
          · cases hb'
            exact hb1
        simp only [hble, cond_false]
        refine ⟨hb, ?_⟩
        repeat' (first | exact hb | exact hb2 | exact hok | exact hfit | exact hfin _ _ ‹_› ‹_› | apply And.intro | intro b cap h1 h2)
  rw [if_neg h1] at hK
  refine cond_f (beq_eq_false_iff_ne.2 h1) ?_
  by_cases h2 : o.1 = 2
  · rw [if_pos h2] at hK
    obtain ⟨c1, c2⟩ := ho.chan (by omega)
    refine cond_t (beq_iff_eq.2 h2) ⟨hS.okRows, ⟨?_⟩⟩
    rw [hS.fz]
    unfold L.deadline_machine_try_1_v37_B
    refine ⟨⟨c1, c2⟩, ?_⟩
    cases hq0 : qs.getD o.2.1.toNat [] with
    | nil =>
      simp only [hq0] at hK
      exact cond_t rfl (hK m hs hS)
    | cons x xs =>
      simp only [hq0] at hK
      have hr := receive_ok hS ⟨c1, c2⟩ hq0 (caps := caps) (sc := sc) (tick := tick) (next := next) (s := s) (res := res) (K := fun r1 m6 m7 m8 m9 m10 m11 m12 m13 => K o.2.1 r1 true m6 m7 m8 m9 m10 m11 m12 m13) fun hs' h => hK m hs' h
      exact cond_f (by simp) ⟨hr, hr⟩
  rw [if_neg h2] at hK
  refine cond_f (beq_eq_false_iff_ne.2 h2) ?_
  by_cases h3 : o.1 = 3
  · rw [if_pos h3] at hK
    refine cond_t (beq_iff_eq.2 h3) ⟨hS.okRows, ⟨⟨⟨o.2.2.2.2.length + 1, ?_⟩⟩⟩⟩
    rw [hS.fz]
    have hfew := ho.few
    have := idx_loop (caps := caps) (sc := sc) (next := next) (s := s) (tick := tick) (res := res) ho.chans (by omega)
      (K0 := (bif (decide ((-1 : Int) ≥ 0)) then (inB (-1) o.2.2.2.2.length) ∧ (((inB (-1) o.2.2.2.2.length) ∧ (L.deadline_machine_receive_h38 (o.2.2.2.2.getD (-1 : Int).toNat 0) m caps sc tick hs next s res (fun r4 m23 m24 m25 m26 m27 m28 m29 m30 => K (o.2.2.2.2.getD (-1 : Int).toNat 0) r4 true m23 m24 m25 m26 m27 m28 m29 m30)) ∧ L.deadline_machine_receive_h38 (o.2.2.2.2.getD (-1 : Int).toNat 0) m caps sc tick hs next s res (fun r5 m31 m32 m33 m34 m35 m36 m37 m38 => K (o.2.2.2.2.getD (-1 : Int).toNat 0) r5 true m31 m32 m33 m34 m35 m36 m37 m38)) ∧ L.deadline_machine_receive_h38 (o.2.2.2.2.getD (-1 : Int).toNat 0) m caps sc tick hs next s res (fun r6 m39 m40 m41 m42 m43 m44 m45 m46 => (inB (-1) o.2.2.2.2.length) ∧ K (o.2.2.2.2.getD (-1 : Int).toNat 0) r6 true m39 m40 m41 m42 m43 m44 m45 m46)) ∧ L.deadline_machine_receive_h38 (o.2.2.2.2.getD (-1 : Int).toNat 0) m caps sc tick hs next s res (fun r7 m47 m48 m49 m50 m51 m52 m53 m54 => (inB (-1) o.2.2.2.2.length) ∧ K (o.2.2.2.2.getD (-1 : Int).toNat 0) r7 true m47 m48 m49 m50 m51 m52 m53 m54) else K (-1) 0 (bif (o.2.2.2.1 != (-1)) then (decide (waited ≥ o.2.2.2.1)) else false) m caps sc tick hs next s res))
      (Kr := fun r3 => (bif (decide (r3 ≥ 0)) then (inB r3 o.2.2.2.2.length) ∧ (((inB r3 o.2.2.2.2.length) ∧ (L.deadline_machine_receive_h38 (o.2.2.2.2.getD r3.toNat 0) m caps sc tick hs next s res (fun r4 m23 m24 m25 m26 m27 m28 m29 m30 => K (o.2.2.2.2.getD r3.toNat 0) r4 true m23 m24 m25 m26 m27 m28 m29 m30)) ∧ L.deadline_machine_receive_h38 (o.2.2.2.2.getD r3.toNat 0) m caps sc tick hs next s res (fun r5 m31 m32 m33 m34 m35 m36 m37 m38 => K (o.2.2.2.2.getD r3.toNat 0) r5 true m31 m32 m33 m34 m35 m36 m37 m38)) ∧ L.deadline_machine_receive_h38 (o.2.2.2.2.getD r3.toNat 0) m caps sc tick hs next s res (fun r6 m39 m40 m41 m42 m43 m44 m45 m46 => (inB r3 o.2.2.2.2.length) ∧ K (o.2.2.2.2.getD r3.toNat 0) r6 true m39 m40 m41 m42 m43 m44 m45 m46)) ∧ L.deadline_machine_receive_h38 (o.2.2.2.2.getD r3.toNat 0) m caps sc tick hs next s res (fun r7 m47 m48 m49 m50 m51 m52 m53 m54 => (inB r3 o.2.2.2.2.length) ∧ K (o.2.2.2.2.getD r3.toNat 0) r7 true m47 m48 m49 m50 m51 m52 m53 m54) else K (-1) 0 (bif (o.2.2.2.1 != (-1)) then (decide (waited ≥ o.2.2.2.1)) else false) m caps sc tick hs next s res))
      (fun hp => by
        rw [hp] at hK
        refine cond_f (by decide) ?_
        have e : (bif (o.2.2.2.1 != (-1)) then (decide (waited ≥ o.2.2.2.1)) else false) = decide (o.2.2.2.1 ≠ -1 ∧ waited ≥ o.2.2.2.1) := by
          by_cases hw : o.2.2.2.1 = -1
          · simp [hw]
          · simp [hw]
        rw [e]
        exact hK m hs hS)
      (fun i hi hp => by
        obtain ⟨p1, p2⟩ := pick_some hp
        have hc := ho.chans _ p1
        rw [hp] at hK
        cases hq0 : qs.getD (o.2.2.2.2.getD i 0).toNat [] with
        | nil => exact absurd hq0 p2
        | cons x xs =>
          simp only [hq0] at hK
          have hb : inB (i : Int) o.2.2.2.2.length := ⟨by omega, by omega⟩
          refine cond_t (by simp) ?_
          rw [Int.toNat_natCast]
          have hr := receive_ok hS hc hq0 (caps := caps) (sc := sc) (tick := tick) (next := next) (s := s) (res := res) (K := fun r1 m6 m7 m8 m9 m10 m11 m12 m13 => K (o.2.2.2.2.getD i 0) r1 true m6 m7 m8 m9 m10 m11 m12 m13) fun hs' h => hK m hs' h
          have hr2 := receive_ok hS hc hq0 (caps := caps) (sc := sc) (tick := tick) (next := next) (s := s) (res := res) (K := fun r1 m6 m7 m8 m9 m10 m11 m12 m13 => (inB (i : Int) o.2.2.2.2.length) ∧ K (o.2.2.2.2.getD i 0) r1 true m6 m7 m8 m9 m10 m11 m12 m13) fun hs' h => ⟨hb, hK m hs' h⟩
          exact ⟨hb, ⟨⟨hb, hr, hr⟩, hr2⟩, hr2⟩) (o.2.2.2.2.length + 1) 0 (by omega) (by omega) (by rw [List.drop_zero])
    exact_mod_cast this
  rw [if_neg h3] at hK
  exact cond_f (beq_eq_false_iff_ne.2 h3) (hK m hs hS)

end Dl
end Go.Proofs.Ytfkhdfmnhkndeaa
