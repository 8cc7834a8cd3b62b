/-
  Part 7 of a proof of one law by a verified reader of the program: lifted functions, their plain specifications, the law. Conditions: none.
-/
import Derived.Test.YtnpjonhoihbaeaaGreatDoorQ6
import Derived.Test.YtnpjonhoihbaeaaGreatDoorCards
import Derived.Test.YtnpjonhoihbaeaaGreatDoorTie
import Derived.ProofKit
import Derived.LaidMore
import Derived.Lay
import Derived.SevenTiedAt
import Derived.Stop.Joined
namespace Go.Proofs.YtnpjonhoihbaeaaGreatDoor
open Eng
namespace Mq
def dea (c : Int) (e : Ent) : Ent := (e.1, (e.2.1, (e.2.2.1, (e.2.2.2.1, (e.2.2.2.2.1, del c e.2.2.2.2.2)))))
theorem get_md {α : Type} (l : List α) (f : α → α) (i : Nat) (hi : i < l.length) : ((l.take i).map f ++ l.drop i)[i]? = l[i]? := by
  have h1 : ((l.take i).map f).length = i := by simp; omega
  rw [List.getElem?_append_right (by omega), h1, Nat.sub_self, List.getElem?_drop, Nat.add_zero]
theorem set_md {α : Type} (l : List α) (f : α → α) (i : Nat) (x : α) (hx : l[i]? = some x) : ((l.take i).map f ++ l.drop i).set i (f x) = (l.take (i + 1)).map f ++ l.drop (i + 1) := by
  have hi := (List.getElem?_eq_some_iff.1 hx).1
  have h1 : ((l.take i).map f).length = i := by simp; omega
  have h2 : l[i] = x := (List.getElem?_eq_some_iff.1 hx).2
  rw [List.set_append, if_neg (by omega), h1, Nat.sub_self, List.drop_eq_getElem_cons hi, List.set_cons_zero, List.take_add_one, hx, List.map_append, List.append_assoc]
  rfl
def Bd (es : List Ent) : Prop := ∀ e, e ∈ es → e.2.2.2.2.2.length ≤ 1000
theorem dea_loop {c p : Int} {q r s : Bool} {g : Hd} {es : List Ent} (hb : es.length ≤ 1000) (hB : Bd es) {K : Pool → Int → Int → Bool → Bool → Bool → Hd → List HE → Prop}
    (hK : ∀ m hs, Lay m hs (es.map (dea c)) → K m c p q r s g hs) : ∀ (fu i : Nat) (m : Pool) (hs : List HE), Lay m hs ((es.take i).map (dea c) ++ es.drop i) → i ≤ es.length → es.length - i < fu →
    L.a0_L2_R (es.length : Int) fu i m c p q r s g hs K
  | 0, i, m, hs, _, _, h => by omega
  | fu + 1, i, m, hs, hS, hi, h => by
    show L.a0_L2_b (es.length : Int) i m c p q r s g hs _ K
    unfold L.a0_L2_b
    have hal : ((es.take i).map (dea c) ++ es.drop i).length = es.length := by simp; omega
    have hl : hs.length = es.length := by rw [hS.len, hal]
    rcases Nat.lt_or_ge i es.length with k | k
    · refine cond_t (by simp; omega) ⟨⟨by omega, by omega⟩, ?_⟩
      rw [Int.toNat_natCast, i64_succ (i := i) (by omega)]
      obtain ⟨x, e, h1, h2, h3, h4⟩ := hS.get (i := i) (by rw [hal]; exact k)
      rw [getD_of _ h1]
      rw [get_md _ _ _ k] at h2
      have hle : e.2.2.2.2.2.length ≤ 1000 := hB e (List.mem_of_getElem? h2)
      refine Delete_ok (xs := e.2.2.2.2.2) (by omega) h4 fun h' m' l1 l2 l3 => ?_
      have h6 := hS.upd (m' := m') (x' := (x.1, (x.2.1, (x.2.2.1, (x.2.2.2.1, (x.2.2.2.2.1, h')))))) (e' := dea c e) h1 ⟨by
        unfold dea wr; rw [h3]; rfl, l1⟩ (.inl l2) l3
      rw [set_md _ _ _ _ h2] at h6
      exact dea_loop hb hB hK fu (i + 1) m' _ h6 k (by omega)
    · obtain rfl : i = es.length := by omega
      rw [List.take_length, List.drop_length, List.append_nil] at hS
      exact cond_f (by simp) (hK m hs hS)
def stl : Nat → List Ent → List Int → List Int → List Ent × (List Int × List Int)
  | 0, es, ld, rj => (es, (ld, rj))
  | _ + 1, [], ld, rj => ([], (ld, rj))
  | n + 1, e :: r, ld, rj => bif (e.2.2.2.1 || e.2.2.2.2.1) then (bif e.2.2.2.2.1 then stl n (disc 0 r) ld (rj ++ [e.1]) else stl n (r.map (dea e.1)) (ld ++ [e.1]) rj) else (e :: r, (ld, rj))
theorem bd_disc {es : List Ent} (h : Bd es) (a : Nat) : Bd (disc a es) := fun e he => by
  obtain ⟨i, hi, rfl⟩ := List.getElem_of_mem he
  simp only [disc, List.getElem_mapIdx]
  split
  · simp [clrE]
  · exact h _ (List.getElem_mem _)
theorem bd_dea {es : List Ent} (h : Bd es) (c : Int) : Bd (es.map (dea c)) := fun e he => by
  obtain ⟨x, hx, rfl⟩ := List.mem_map.1 he
  exact Nat.le_trans (del_le _ _) (h x hx)
theorem settle_loop {q : Int} {K : Pool → Int → List HE → List Int → List Int → Prop} : ∀ (fu : Nat) (n : Nat) (es : List Ent) (ld rj : List Int) (m : Pool) (hs : List HE), Lay m hs es → Bd es → es.length ≤ n → n < fu → ld.length + rj.length + es.length ≤ 1000 →
    (∀ m' hs', Lay m' hs' (stl n es ld rj).1 → K m' q hs' (stl n es ld rj).2.1 (stl n es ld rj).2.2) → L.a0_L3_R fu m q hs ld rj K
  | 0, n, es, ld, rj, m, hs, _, _, _, h, _, _ => by omega
  | fu + 1, n, es, ld, rj, m, hs, hS, hB, hn, hf, hT, hK => by
    show L.a0_L3_b m q hs ld rj _ K
    unfold L.a0_L3_b
    have hl := hS.len
    cases es with
    | nil =>
      have h0 : hs = [] := List.length_eq_zero_iff.1 (by rw [hl]; rfl)
      subst h0
      refine ⟨fun h => by simp at h, fun h => by simp at h, cond_f (by simp) ?_⟩
      have e : stl n [] ld rj = ([], (ld, rj)) := by cases n <;> rfl
      rw [e] at hK
      exact hK m [] hS
    | cons e r =>
      obtain ⟨n, rfl⟩ : ∃ k, n = k + 1 := ⟨n - 1, by simp at hn; omega⟩
      simp only [List.length_cons] at hl hn hT
      obtain ⟨x, e', h1, h2, h3, h4⟩ := hS.get (i := 0) (by simp)
      simp only [List.getElem?_cons_zero, Option.some.injEq] at h2
      subst h2
      have hx : hs.getD ((0 : Int).toNat) L.ya = x := getD_of _ h1
      rw [hx]
      have f1 : e.1 = x.1 := by rw [h3]; rfl
      have f4 : e.2.2.2.1 = x.2.2.2.1 := by rw [h3]; rfl
      have f5 : e.2.2.2.2.1 = x.2.2.2.2.1 := by rw [h3]; rfl
      have hin : inB 0 hs.length := ⟨by omega, by omega⟩
      refine ⟨fun _ => hin, fun _ _ => hin, ?_⟩
      simp only [stl, f1, f4, f5] at hK
      have hgt : decide ((hs.length : Int) > 0) = true := by simp; omega
      rw [hgt]
      simp only [bor, cond_true]
      have hBr : Bd r := fun y hy => hB y (List.mem_cons_of_mem _ hy)
      cases hp : (x.2.2.2.1 || x.2.2.2.2.1) with
      | false =>
        rw [hp] at hK
        exact hK m hs hS
      | true =>
        rw [hp] at hK
        simp only [cond_true] at hK ⊢
        refine ⟨hin, remove_ok (i := 0) hS (by simp; omega) (by simp) fun hs1 hS1 => ?_⟩
        simp only [List.take_zero, List.nil_append, Nat.zero_add, List.drop_succ_cons, List.drop_zero] at hS1
        cases hfl : x.2.2.2.2.1 with
        | true =>
          rw [hfl] at hK
          simp only [cond_true] at hK ⊢
          refine ⟨by unfold fits; simp; omega, discard_ok (a := 0) hS1 (by omega) (by omega) fun hs2 hS2 => ?_⟩
          exact settle_loop fu n (disc 0 r) ld (rj ++ [x.1]) m hs2 hS2 (bd_disc hBr 0) (by rw [disc_len]; omega) (by omega) (by rw [disc_len]; simp; omega) hK
        | false =>
          rw [hfl] at hK
          simp only [cond_false] at hK ⊢
          refine ⟨by unfold fits; simp; omega, ⟨⟨r.length + 1, ?_⟩⟩⟩
          rw [hS1.len]
          refine dea_loop (es := r) (by omega) hBr (fun m' hs' hS' => ?_) (r.length + 1) 0 m hs1 (by simpa using hS1) (by omega) (by omega)
          exact settle_loop fu n (r.map (dea x.1)) (ld ++ [x.1]) rj m' hs' hS' (bd_dea hBr _) (by simp; omega) (by omega) (by simp; omega) hK
theorem Clone_ok {l : List Int} (hl : l.length ≤ 1000) {K : List Int → Prop} (hK : K l) : L.e3 l K := by
  refine ⟨fun b hb => ?_⟩
  cases b with
  | true =>
    have : l = [] := by
      cases l with
      | nil => rfl
      | cons x r => exact absurd (hb (by simp)) (by simp)
    subst this
    exact hK
  | false => exact ⟨by unfold fits; simp; omega, hK⟩
def srt : Nat → List Ent → List Int → List Ent
  | 0, es, _ => es
  | _ + 1, [], _ => []
  | n + 1, e :: r, a => (bif (!e.2.2.1 && (!e.2.2.2.1 && !e.2.2.2.2.1)) then (e.1, (e.2.1, (true, (e.2.2.2.1, (e.2.2.2.2.1, a))))) else e) :: srt n r (a ++ [e.1])
theorem getD_set_same {α} (l : List α) (i : Nat) (x d : α) (h : i < l.length) : (l.set i x).getD i d = x := by simp [List.getD, h]
set_option maxHeartbeats 1600000 in
theorem start_loop {n : Nat} {F : List Ent} {N : Nat} (hN : N ≤ 1000) {K : Pool → List HE → Prop} (hK : ∀ m hs, Lay m hs F → K m hs) : ∀ (fu i : Nat) (cs : List Ent) (a : List Int) (m : Pool) (hs : List HE), Lay m hs cs → cs.length = N → i ≤ min n N → min n N - i < fu → a.length ≤ i →
    cs.take i ++ srt (n - i) (cs.drop i) a = F → L.a0_L4_R ((min n N : Nat) : Int) fu i m hs a K
  | 0, i, cs, a, m, hs, _, _, _, h, _, _ => by omega
  | fu + 1, i, cs, a, m, hs, hS, hc, hi, h, ha, hF => by
    show L.a0_L4_b ((min n N : Nat) : Int) i m hs a _ K
    unfold L.a0_L4_b
    have hl := hS.len
    rcases Nat.lt_or_ge i (min n N) with k | k
    · have hiN : i < cs.length := by omega
      have hih : i < hs.length := by omega
      refine cond_t (by simp; omega) ⟨⟨by omega, by omega⟩, ?_⟩
      rw [Int.toNat_natCast, i64_succ (i := i) (by omega)]
      obtain ⟨x, e, h1, h2, h3, h4⟩ := hS.get hiN
      have hx : hs.getD i L.ya = x := getD_of _ h1
      simp only [hx, getD_set_same _ _ _ _ hih, List.set_set]
      have hd : cs.drop i = e :: cs.drop (i + 1) := by
        rw [List.drop_eq_getElem_cons hiN]
        rw [List.getElem?_eq_getElem hiN] at h2
        cases h2; rfl
      have hni : n - i = (n - (i + 1)) + 1 := by omega
      rw [hd, hni] at hF
      simp only [srt] at hF
      have f1 : e.1 = x.1 := by rw [h3]; rfl
      have f2 : e.2.1 = x.2.1 := by rw [h3]; rfl
      have f3 : e.2.2.1 = x.2.2.1 := by rw [h3]; rfl
      have f4 : e.2.2.2.1 = x.2.2.2.1 := by rw [h3]; rfl
      have f5 : e.2.2.2.2.1 = x.2.2.2.2.1 := by rw [h3]; rfl
      rw [f1, f2, f3, f4, f5] at hF
      simp only [band]
      have htk : ∀ y : Ent, (cs.set i y).take (i + 1) = cs.take i ++ [y] := fun y => by
        rw [List.take_add_one, List.getElem?_set, if_pos rfl, if_pos hiN, List.take_set_of_le (Nat.le_refl _)]
        rfl
      have hdk : ∀ y : Ent, (cs.set i y).drop (i + 1) = cs.drop (i + 1) := fun y => by rw [List.drop_set_of_lt (by omega)]
      have hfit : fits (a.length + ([x.1] : List Int).length) := by unfold fits; simp; omega
      cases hb : ((!x.2.2.1 && !x.2.2.2.1) && !x.2.2.2.2.1) with
      | false =>
        have hb2 : (!x.2.2.1 && (!x.2.2.2.1 && !x.2.2.2.2.1)) = false := by rw [← Bool.and_assoc]; exact hb
        rw [hb2] at hF
        simp only [cond_false] at hF ⊢
        refine ⟨hfit, start_loop hN hK fu (i + 1) cs (a ++ [x.1]) m hs hS hc (by omega) (by omega) (by simp; omega) ?_⟩
        rw [List.take_add_one, h2, ← hF]
        simp
      | true =>
        have hb2 : (!x.2.2.1 && (!x.2.2.2.1 && !x.2.2.2.2.1)) = true := by rw [← Bool.and_assoc]; exact hb
        rw [hb2] at hF
        simp only [cond_true] at hF ⊢
        refine Clone_ok (by omega) ⟨fun ha0 => ⟨hfit, ?_⟩, fun b cap hb0 hcap => ⟨hfit, ?_⟩⟩
        · subst ha0
          have h6 := hS.upd (m' := m) (x' := (x.1, (x.2.1, (true, (x.2.2.2.1, (x.2.2.2.2.1, Hd.nil)))))) (e' := (x.1, (x.2.1, (true, (x.2.2.2.1, (x.2.2.2.2.1, [])))))) h1 ⟨rfl, Lies.nil m⟩ (.inr fun b hb => by cases hb) (Keeps.refl _ _)
          refine start_loop hN hK fu (i + 1) _ ([] ++ [x.1]) m _ h6 (by simp [hc]) (by omega) (by omega) (by simp) ?_
          rw [htk, hdk, ← hF]
          simp
        · have h6 := hS.upd (m' := (b, (a, cap)) :: m) (x' := (x.1, (x.2.1, (true, (x.2.2.2.1, (x.2.2.2.2.1, Hd.mk (some (Addr.mk b 0 none)) a.length cap)))))) (e' := (x.1, (x.2.1, (true, (x.2.2.2.1, (x.2.2.2.2.1, a)))))) h1
            ⟨rfl, rfl, hcap, .inr ⟨b, [], cap, rfl, by simp [pfind], Nat.le_refl _⟩⟩ (.inr fun b' hb' => by
              simp only [blk] at hb'
              split at hb'
              · cases hb'
              · simp only [Option.map_some, Option.some.injEq] at hb'
                subst hb'
                exact hb0) (fun b' _ rr hrr => by
              simp only [pfind]
              rw [if_neg]
              · exact hrr
              · rintro rfl
                rw [hb0] at hrr
                cases hrr)
          refine start_loop hN hK fu (i + 1) _ (a ++ [x.1]) _ _ h6 (by simp [hc]) (by omega) (by omega) (by simp; omega) ?_
          rw [htk, hdk, ← hF]
          simp
    · refine cond_f (by simp; omega) (hK m hs ?_)
      have : cs.take i ++ srt (n - i) (cs.drop i) a = cs := by
        rcases Nat.lt_or_ge i cs.length with g | g
        · have : n - i = 0 := by omega
          rw [this]
          simp only [srt, List.take_append_drop]
        · rw [List.take_of_length_le g, List.drop_of_length_le g]
          cases n - i <;> simp [srt]
      rw [← hF, this]
      exact hS
end Mq
end Go.Proofs.YtnpjonhoihbaeaaGreatDoor
namespace Go.Proofs.YtnpjonhoihbaeaaGreatDoor
open Eng
namespace Mq
abbrev St := List Ent × (List Int × List Int)
abbrev Ev := Int × (Int × Int)
def set2 (w : Nat) (es : List Ent) (ld rj : List Int) : St := (srt w (stl es.length es ld rj).1 [], (stl es.length es ld rj).2)
theorem stl_tot : ∀ (n : Nat) (es : List Ent) (ld rj : List Int), (stl n es ld rj).1.length + (stl n es ld rj).2.1.length + (stl n es ld rj).2.2.length = es.length + ld.length + rj.length
  | 0, es, ld, rj => rfl
  | n + 1, [], ld, rj => rfl
  | n + 1, e :: r, ld, rj => by
    simp only [stl]
    cases (e.2.2.2.1 || e.2.2.2.2.1) with
    | false => simp
    | true =>
      simp only [cond_true]
      cases e.2.2.2.2.1 with
      | true =>
        have := stl_tot n (disc 0 r) ld (rj ++ [e.1])
        simp only [cond_true, disc_len, List.length_append, List.length_cons, List.length_nil] at this ⊢
        omega
      | false =>
        have := stl_tot n (r.map (dea e.1)) (ld ++ [e.1]) rj
        simp only [cond_false, List.length_map, List.length_append, List.length_cons, List.length_nil] at this ⊢
        omega
theorem stl_bd : ∀ (n : Nat) (es : List Ent) (ld rj : List Int), Bd es → Bd (stl n es ld rj).1
  | 0, es, ld, rj, h => h
  | n + 1, [], ld, rj, h => h
  | n + 1, e :: r, ld, rj, h => by
    simp only [stl]
    have hr : Bd r := fun y hy => h y (List.mem_cons_of_mem _ hy)
    cases (e.2.2.2.1 || e.2.2.2.2.1) with
    | false => exact h
    | true =>
      simp only [cond_true]
      cases e.2.2.2.2.1 with
      | true => exact stl_bd n _ _ _ (bd_disc hr 0)
      | false => exact stl_bd n _ _ _ (bd_dea hr _)
theorem srt_len : ∀ (n : Nat) (es : List Ent) (a : List Int), (srt n es a).length = es.length
  | 0, _, _ => rfl
  | _ + 1, [], _ => rfl
  | n + 1, e :: r, a => by simp [srt, srt_len n r]
theorem srt_bd : ∀ (n : Nat) (es : List Ent) (a : List Int), Bd es → a.length + es.length ≤ 1000 → Bd (srt n es a)
  | 0, _, _, h, _ => h
  | _ + 1, [], _, h, _ => h
  | n + 1, e :: r, a, h, hl => by
    simp only [srt]
    simp only [List.length_cons] at hl
    have hr : Bd r := fun y hy => h y (List.mem_cons_of_mem _ hy)
    intro y hy
    rcases List.mem_cons.1 hy with rfl | hy
    · cases (!e.2.2.1 && (!e.2.2.2.1 && !e.2.2.2.2.1)) with
      | true => show a.length ≤ 1000; omega
      | false => exact h e (by simp)
    · exact srt_bd n r _ hr (by simp; omega) y hy
def Inv (n : Nat) (s : St) : Prop := s.1.length + s.2.1.length + s.2.2.length ≤ n ∧ Bd s.1
theorem set2_inv {n w : Nat} {es : List Ent} {ld rj : List Int} (hn : n ≤ 1000) (h : Inv n (es, (ld, rj))) : Inv n (set2 w es ld rj) := by
  have h1 := h.1
  have h2 := stl_tot es.length es ld rj
  simp only at h1
  refine ⟨?_, srt_bd _ _ _ (stl_bd _ _ _ _ h.2) (by simp; omega)⟩
  simp only [set2, srt_len]
  omega
theorem amn_min (a b : Nat) : amn (a : Int) (b : Int) = ((min a b : Nat) : Int) := by
  unfold amn
  split <;> omega
theorem settle_ok {n w : Nat} {es : List Ent} {ld rj : List Int} {m : Pool} {hs : List HE} (hS : Lay m hs es) (hn : n ≤ 1000) (hI : Inv n (es, (ld, rj))) {K : Pool → Int → List HE → List Int → List Int → Prop}
    (hK : ∀ m' hs', Lay m' hs' (set2 w es ld rj).1 → K m' w hs' (set2 w es ld rj).2.1 (set2 w es ld rj).2.2) : L.a0 m w hs ld rj K := by
  have h1 := hI.1
  simp only at h1
  refine ⟨⟨⟨es.length + 1, ?_⟩⟩⟩
  refine settle_loop (es.length + 1) es.length es ld rj m hs hS hI.2 (Nat.le_refl _) (by omega) (by omega) fun m' hs' hS' => ⟨⟨(stl es.length es ld rj).1.length + 1, ?_⟩⟩
  have h2 := stl_tot es.length es ld rj
  rw [hS'.len, amn_min]
  exact start_loop (n := w) (F := srt w (stl es.length es ld rj).1 []) (N := (stl es.length es ld rj).1.length) (by omega) (fun m2 hs2 hS2 => hK m2 hs2 hS2) _ 0 _ [] m' hs' hS' rfl (by omega) (by omega) (by simp) (by simp)
def vrd (kd : Int) (e : Ent) : Ent := (e.1, (e.2.1, (false, (kd == 3, (kd == 4, e.2.2.2.2.2)))))
def step (w : Nat) (s : St) (e : Ev) : St :=
  if e.1 = 1 then set2 w (addE e.2.1 e.2.2 s.1) s.2.1 s.2.2
  else if e.1 = 2 then set2 w (disc (pos e.2.1 s.1).toNat (s.1.take (pos e.2.1 s.1).toNat ++ s.1.drop ((pos e.2.1 s.1).toNat + 1))) s.2.1 s.2.2
  else set2 w (s.1.set (pos e.2.1 s.1).toNat (vrd e.1 (s.1.getD (pos e.2.1 s.1).toNat e0))) s.2.1 s.2.2
theorem pos_nat {c : Int} {es : List Ent} (h : 0 ≤ pos c es) : ∃ (k : Nat) (e : Ent), pos c es = k ∧ es[k]? = some e ∧ e.1 = c := by
  rcases posA_or c es 0 with ⟨h1, _⟩ | ⟨k, e, h1, h2, h3⟩
  · unfold pos at h; omega
  · exact ⟨k, e, by unfold pos; rw [h1]; omega, h2, h3⟩
theorem addE_len (c p : Int) (es : List Ent) : (addE c p es).length = es.length + 1 := by
  have := plc_le p es 0 0 (Nat.le_refl _)
  simp only [addE, disc_len, List.length_append, List.length_take, List.length_drop, List.length_singleton]
  omega
theorem bd_app {a b : List Ent} (h1 : Bd a) (h2 : Bd b) : Bd (a ++ b) := fun e he => (List.mem_append.1 he).elim (h1 e) (h2 e)
theorem bd_take {a : List Ent} (h : Bd a) (k : Nat) : Bd (a.take k) := fun e he => h e (List.mem_of_mem_take he)
theorem bd_drop {a : List Ent} (h : Bd a) (k : Nat) : Bd (a.drop k) := fun e he => h e (List.mem_of_mem_drop he)
theorem addE_inv {n : Nat} {es : List Ent} {ld rj : List Int} {c p : Int} (h : Inv n (es, (ld, rj))) : Inv (n + 1) (addE c p es, (ld, rj)) := by
  have h1 := h.1
  simp only at h1
  refine ⟨by simp only [addE_len]; omega, bd_disc (bd_app (bd_app (bd_take h.2 _) ?_) (bd_drop h.2 _)) _⟩
  intro e he
  rw [List.mem_singleton.1 he]
  simp [new]
theorem cut_inv {n : Nat} {es : List Ent} {ld rj : List Int} {k : Nat} (h : Inv n (es, (ld, rj))) : Inv n (disc k (es.take k ++ es.drop (k + 1)), (ld, rj)) := by
  have h1 := h.1
  simp only at h1
  refine ⟨?_, bd_disc (bd_app (bd_take h.2 _) (bd_drop h.2 _)) _⟩
  simp only [disc_len, List.length_append, List.length_take, List.length_drop]
  omega
theorem vrd_inv {n : Nat} {es : List Ent} {ld rj : List Int} {k : Nat} {kd : Int} {e : Ent} (he : es[k]? = some e) (h : Inv n (es, (ld, rj))) : Inv n (es.set k (vrd kd e), (ld, rj)) := by
  have h1 := h.1
  simp only at h1
  refine ⟨by simpa using h1, fun y hy => ?_⟩
  rcases List.mem_or_eq_of_mem_set hy with g | g
  · exact h.2 y g
  · rw [g]; exact h.2 e (List.mem_of_getElem? he)
theorem step_inv {n w : Nat} {s : St} {e : Ev} (hn : n + 1 ≤ 1000) (h : Inv n s) (hc : e.1 ≠ 1 → 0 ≤ pos e.2.1 s.1) : Inv (n + 1) (step w s e) := by
  have up : ∀ t : St, Inv n t → Inv (n + 1) t := fun t ht => ⟨by have := ht.1; omega, ht.2⟩
  unfold step
  split
  · exact set2_inv hn (addE_inv h)
  · next h1 =>
    split
    · exact up _ (set2_inv (by omega) (cut_inv h))
    · obtain ⟨k, x, h2, h3, _⟩ := pos_nat (hc h1)
      rw [h2, Int.toNat_natCast, getD_of _ h3]
      exact up _ (set2_inv (by omega) (vrd_inv h3 h))
set_option maxHeartbeats 1600000 in
theorem step_ok {n w : Nat} {s : St} {e : Ev} {m : Pool} {hs : List HE} (hS : Lay m hs s.1) (hn : n + 1 ≤ 1000) (hI : Inv n s) (hc : e.1 ≠ 1 → 0 ≤ pos e.2.1 s.1) {K : Pool → Int → List HE → List Int → List Int → Prop}
    (hK : ∀ m' hs', Lay m' hs' (step w s e).1 → K m' w hs' (step w s e).2.1 (step w s e).2.2) : L.e0 e.1 e.2.1 e.2.2 m w hs s.2.1 s.2.2 K := by
  have h1 := hI.1
  refine ⟨⟨hS.okRows, ?_⟩⟩
  have hfz : (List.map (fz m L.yb) hs : List Ent) = s.1 := hS.fz
  rw [hfz]
  refine find_ok (by omega) ?_
  unfold step at hK
  by_cases k1 : e.1 = 1
  · rw [if_pos k1] at hK
    refine cond_t (by simpa using k1) (add_ok hS (by omega) fun hs' hS' => ⟨?_⟩)
    exact settle_ok hS' hn (addE_inv hI) hK
  rw [if_neg k1] at hK
  refine cond_f (by simpa using k1) ?_
  obtain ⟨k, x, p1, p2, _⟩ := pos_nat (hc k1)
  have hk := (List.getElem?_eq_some_iff.1 p2).1
  rw [p1] at hK ⊢
  rw [Int.toNat_natCast] at hK
  by_cases k2 : e.1 = 2
  · rw [if_pos k2] at hK
    refine cond_t (by simpa using k2) (remove_ok hS (by omega) hk fun hs' hS' => discard_ok hS' (by simp; omega) (by simp; omega) fun hs2 hS2 => ⟨?_⟩)
    exact settle_ok hS2 (by omega) (cut_inv hI) hK
  rw [if_neg k2] at hK
  refine cond_f (by simpa using k2) ⟨⟨by omega, by rw [hS.len]; omega⟩, ?_⟩
  rw [Int.toNat_natCast]
  obtain ⟨y, x', q1, q2, q3, q4⟩ := hS.get hk
  rw [p2] at q2
  cases q2
  have hy : hs.getD k L.ya = y := getD_of _ q1
  have hkh : k < hs.length := (List.getElem?_eq_some_iff.1 q1).1
  simp only [hy, getD_set_same _ _ _ _ hkh, List.set_set]
  have h6 := hS.upd (m' := m) (x' := (y.1, (y.2.1, (false, (e.1 == 3, (e.1 == 4, y.2.2.2.2.2)))))) (e' := vrd e.1 x) q1 ⟨by
    unfold vrd wr; rw [q3]; rfl, q4⟩ (.inl rfl) (Keeps.refl _ _)
  rw [getD_of _ p2] at hK
  have key := settle_ok h6 (by omega) (vrd_inv p2 hI) hK
  exact ⟨⟨key⟩, ⟨key⟩⟩
def chkE (s : St) (e : Ev) : Int := chk s.1 s.2.1 s.2.2 e.1 e.2.1 e.2.2
theorem chk_pos {s : St} {e : Ev} (h : chkE s e = 0) : e.1 ≠ 1 → 0 ≤ pos e.2.1 s.1 := by
  intro h1
  refine Int.not_lt.1 fun h3 => ?_
  unfold chkE chk at h
  by_cases a : e.1 < 1 ∨ e.1 > 4
  · rw [if_pos a] at h; exact absurd h (by decide)
  rw [if_neg a] at h
  by_cases b : e.2.1 < 1 ∨ e.2.1 > 1000000000 ∨ e.2.2 < 0 ∨ e.2.2 > 3
  · rw [if_pos b] at h; exact absurd h (by decide)
  rw [if_neg b] at h
  by_cases d : e.1 ≠ 1 ∧ e.2.2 ≠ 0
  · rw [if_pos d] at h; exact absurd h (by decide)
  rw [if_neg d, if_neg (fun g => h1 g.1), if_neg (fun g => h1 g.1), if_pos ⟨h1, h3⟩] at h
  exact absurd h (by decide)
def runL (w : Nat) : List Ev → Nat → St → (Int × Int) × St
  | [], _, s => ((0, 0), s)
  | e :: r, i, s => if chkE s e = 0 then runL w r (i + 1) (step w s e) else ((chkE s e, i), ([], ([], [])))
def runQ (w : Int) (evs : List Ev) : (Int × Int) × St :=
  if w < 1 ∨ w > 4 then ((3, -2), ([], ([], []))) else
  if evs.length > 40 then ((2, -1), ([], ([], []))) else runL w.toNat evs 0 ([], ([], []))
theorem run_loop {w : Nat} {evs : List Ev} (hl : evs.length ≤ 40) {Kx : Pool → Int → List HE → List Int → List Int → Prop} {Kr : Pool → Int → Int → Prop} {R : (Int × Int) × St}
    (hx : ∀ m hs, R.1 = (0, 0) → Lay m hs R.2.1 → Kx m w hs R.2.2.1 R.2.2.2) (hr : ∀ m, R.2 = ([], ([], [])) → Kr m R.1.1 R.1.2) : ∀ (fu i : Nat) (s : St) (m : Pool) (hs : List HE), Lay m hs s.1 → Inv i s → i ≤ evs.length → evs.length - i < fu →
    runL w (evs.drop i) i s = R → L.b3_L1_R evs (evs.length : Int) fu i m w hs s.2.1 s.2.2 Kx Kr
  | 0, i, s, m, hs, _, _, _, h, _ => by omega
  | fu + 1, i, s, m, hs, hS, hI, hi, h, he => by
    show L.b3_L1_b evs (evs.length : Int) i m w hs s.2.1 s.2.2 _ Kx Kr
    unfold L.b3_L1_b
    have h1 := hI.1
    rcases Nat.lt_or_ge i evs.length with g | g
    · refine cond_t (by simp; omega) ⟨⟨by omega, by omega⟩, hS.okRows, ?_⟩
      have hfz : (List.map (fz m L.yb) hs : List Ent) = s.1 := hS.fz
      rw [hfz, Int.toNat_natCast, i64_succ (i := i) (by omega), getD_get _ _ _ g]
      rw [List.drop_eq_getElem_cons g] at he
      simp only [runL] at he
      refine check_ok (by omega) (by omega) (by omega) ?_
      show bif (chkE s evs[i] != 0) then _ else _
      by_cases hc : chkE s evs[i] = 0
      · rw [if_pos hc] at he
        refine cond_f (by simpa using hc) (step_ok hS (n := i) (by omega) hI (chk_pos hc) fun m' hs' hS' => ?_)
        exact run_loop hl hx hr fu (i + 1) (step w s evs[i]) m' hs' hS' (step_inv (by omega) hI (chk_pos hc)) g (by omega) he
      · rw [if_neg hc] at he
        refine cond_t (by simpa using hc) ?_
        subst he
        exact hr m rfl
    · obtain rfl : i = evs.length := by omega
      rw [List.drop_length] at he
      simp only [runL] at he
      subst he
      exact cond_f (by simp) (hx m hs rfl hS)
theorem run_ok {w : Int} {evs : List Ev} {K : List Ent → List Int → List Int → Int → Int → Prop} (hK : K (runQ w evs).2.1 (runQ w evs).2.2.1 (runQ w evs).2.2.2 (runQ w evs).1.1 (runQ w evs).1.2) : L.b3 w evs K := by
  refine ⟨?_⟩
  unfold L.b3_B
  unfold runQ at hK
  by_cases a : w < 1 ∨ w > 4
  · rw [if_pos a] at hK
    exact cond_t (by simp only [bor, Bool.or_eq_true, decide_eq_true_eq]; exact a) hK
  rw [if_neg a] at hK
  refine cond_f (by simp only [bor, Bool.or_eq_false_iff, decide_eq_false_iff_not]; omega) ?_
  by_cases b : evs.length > 40
  · rw [if_pos b] at hK
    exact cond_t (by simp; omega) hK
  rw [if_neg b] at hK
  refine cond_f (by simp; omega) ⟨⟨evs.length + 1, ?_⟩⟩
  obtain ⟨w, rfl⟩ := Int.eq_ofNat_of_zero_le (show 0 ≤ w by omega)
  rw [Int.toNat_natCast] at hK
  have hx : ∀ (m : Pool) (hs : List HE), (runL w evs 0 ([], ([], []))).1 = (0, 0) → Lay m hs (runL w evs 0 ([], ([], []))).2.1 → okRows m TT hs ∧ K (List.map (fz m TT) hs : List Ent) (runL w evs 0 ([], ([], []))).2.2.1 (runL w evs 0 ([], ([], []))).2.2.2 0 0 := fun m hs h1 hS => by
    have hfz : (List.map (fz m TT) hs : List Ent) = _ := hS.fz
    rw [hfz]
    rw [h1] at hK
    exact ⟨hS.okRows, hK⟩
  have hr : ∀ m : Pool, (runL w evs 0 ([], ([], []))).2 = ([], ([], [])) → K [] [] [] (runL w evs 0 ([], ([], []))).1.1 (runL w evs 0 ([], ([], []))).1.2 := fun m h1 => by
    rw [h1] at hK
    exact hK
  exact run_loop (R := runL w evs 0 ([], ([], []))) (by omega) hx hr (evs.length + 1) 0 ([], ([], [])) [] [] (Lay.nil _) ⟨by simp, fun e he => by simp at he⟩ (by omega) (by omega) rfl
end Mq
end Go.Proofs.YtnpjonhoihbaeaaGreatDoor
set_option linter.unusedVariables false
set_option linter.unusedSimpArgs false
namespace Go.Proofs.YtnpjonhoihbaeaaGreatDoor
open Eng Bb
namespace Tp
abbrev exT : List ((Int × List Int) × Bool) := [((0, []), true)]
theorem Equal0_ok {K : Bool → Prop} (hK : K true) : L.a1 ([] : List Int) [] K := by
  constructor
  unfold L.a1_B
  refine cond_f (by decide) ⟨⟨1, ?_⟩⟩
  show L.a1_L1_b _ _ _ 0 _ _ _
  exact cond_f (by decide) hK
theorem decide_ex {K : List Int → List Int → Int → Int → Prop} (hK : K [0] [] 0 0) : L.a7 1 exT K := by
  constructor
  unfold L.a7_B
  refine ⟨cond_f (by decide) (cond_f (by decide) ⟨⟨2, ?_⟩⟩)⟩
  show L.a8_L1_b 1 exT exT 1 0 _ _ _
  refine cond_t (by decide) ⟨⟨by decide, by decide⟩, ⟨cond_f (by decide) ⟨⟨1, ?_⟩⟩⟩⟩
  show L.d9_L1_b [] 0 0 [] 0 _ _ _
  refine cond_f (by decide) (cond_f (by decide) ⟨⟨by decide, by decide⟩, ⟨⟨⟨⟨1, ?_⟩⟩⟩⟩⟩)
  show L.d8_L1_b [] 0 [] true 0 0 _ _ _
  refine cond_f (by decide) (cond_f (by decide) ?_)
  show L.a8_L1_b 1 exT exT 1 (i64 (0 + 1)) _ _ _
  refine cond_f (by decide +kernel) (cond_f (by decide) ⟨⟨2, ?_⟩⟩)
  show L.a7_L1_b exT 1 0 [] [] _ _ _
  refine cond_t (by decide) ⟨⟨⟨1, ?_⟩⟩⟩
  show L.d7_L1_b exT 0 [] 1 0 _ _ _
  refine cond_t (by decide) ⟨⟨by decide, by decide⟩, ⟨⟨cond_t (by decide) (Equal0_ok (cond_t rfl (cond_f (by decide) ⟨⟨by decide, by decide⟩, cond_t rfl ⟨fits_of (by decide), ?_⟩⟩)))⟩⟩⟩
  show L.a7_L1_b exT 1 (i64 (0 + 1)) [0] [] _ _ _
  exact cond_f (by decide +kernel) hK
theorem nLands_ok {K : Bool → Prop} (hK : K true) : L.g2 K := by
  constructor
  unfold L.g2_B
  have h1 : (Mq.runQ 1 [(1, (5, 0)), (3, (5, 0))]).1 = (0, 0) := by decide +kernel
  have h2 : (Mq.runQ 1 [(1, (5, 0)), (3, (5, 0))]).2.2.1 = [5] := by decide +kernel
  refine Mq.run_ok ?_
  rw [h1, h2]
  refine Greedy_ok (by intro s hs; rw [List.mem_singleton.1 hs]; unfold big; decide) (by decide) ?_
  have h3 : gr [[0]] 2 16 0 [] = [1] := by decide +kernel
  rw [h3]
  refine decide_ex (cond_t (by decide) (Equal_ok (by unfold big; decide) (cond_t (by decide) (Equal_ok (by unfold big; decide) (cond_t (by decide) (Equal_ok (by unfold big; decide) ?_))))))
  have : (bif true then decide (([0] : List Int) = [0]) else false) = true := by decide
  rw [this]
  exact hK
def pts (n : Nat) : List Patch := (List.range n).map pt
theorem pts_get {n k : Nat} (h : k < n) : (pts n).getD k [] = pt k := by
  unfold pts
  rw [List.getD_eq_getElem?_getD, List.getElem?_map, List.getElem?_range h]
  rfl
theorem patch_loop {n : Nat} (hn : n ≤ 12) {K : List Patch → Prop} (hK : K (pts n)) : ∀ (fu i : Nat), i ≤ n → n - i < fu → L.a3_L1_R (n : Int) fu (i : Int) (pts i) K
  | 0, i, _, h => by omega
  | fu + 1, i, hi, h => by
    show L.a3_L1_b _ _ _ _ _
    unfold L.a3_L1_b
    rcases Nat.lt_or_ge i n with g | g
    · have e : i64 ((i : Int) + 1) = ((i + 1 : Nat) : Int) := by rw [i64_id (by omega) (by omega)]; omega
      rw [e]
      simp only [Int.toNat_natCast]
      have hs : L.str1.size = 12 := by decide +kernel
      have hl : (pts i).length = i := by simp [pts]
      refine cond_t (by simp; omega) ⟨⟨by omega, by omega, by rw [hs]; omega⟩, fits_of (by rw [hl]; simp; omega), ?_⟩
      have ih := patch_loop hn hK fu (i + 1) g (by omega)
      have ep : pts (i + 1) = pts i ++ [pt i] := by unfold pts; rw [List.range_succ, List.map_append]; rfl
      rw [ep] at ih
      exact ih
    · obtain rfl : i = n := by omega
      exact cond_f (by simp) hK
theorem psL_pts : ∀ (l : List Nat) (i : Nat), (∀ k, k ∈ l → k < 12) → psL i (l.map pt) = (0, 0)
  | [], i, h => rfl
  | k :: l, i, h => by
    show psL i (pt k :: l.map pt) = _
    rw [psL, l_vP k (h k (by simp))]
    have c : ¬ (sec ((0, 0) : Int × Int) i ≠ (0, 0)) := by simp [sec]
    rw [if_neg c]
    exact psL_pts l (i + 1) fun j hj => h j (by simp [hj])
theorem open_pts {n : Nat} (hn : n ≤ 12) {cs : List (List Int)} (hv : vf n cs = (0, 0)) : openF (pts n) cs [] = (0, 0) := by
  unfold openF
  have hl : (pts n).length = n := by simp [pts]
  have c1 : ¬ (sec (val []) (-2) ≠ (0, 0)) := by decide +kernel
  have c2 : ¬ (12 < (pts n).length) := by omega
  have c3 : psL 0 (pts n) = (0, 0) := psL_pts _ _ fun k hk => by have := List.mem_range.1 hk; omega
  rw [if_neg c1, if_neg c2, c3, if_neg (by simp), hl, hv]
  rfl
theorem gr_ac {cs : List (List Int)} {n : Nat} (hg : good (n : Int) cs) : ∀ (fu k : Nat), n ≤ k + fu → k ≤ n → gr cs n fu (k : Int) ((ac cs k).map fun (i : Nat) => (i : Int)) = (ac cs n).map fun (i : Nat) => (i : Int)
  | 0, k, h, hk => by
    obtain rfl : k = n := by omega
    rfl
  | fu + 1, k, h, hk => by
    rw [gr]
    by_cases g : k < n
    · have em : ((ac cs k).map fun (i : Nat) => (i : Int)) ++ [(k : Int)] = (ac cs k ++ [k]).map fun (i : Nat) => (i : Int) := by simp
      rw [if_pos (by omega), em, failsB0 hg]
      have ih := gr_ac hg fu (k + 1) (by omega) g
      have ek : ((k + 1 : Nat) : Int) = (k : Int) + 1 := by omega
      rw [ac, ek] at ih
      cases hf : fails cs ((ac cs k ++ [k]).map fun (i : Nat) => (i : Int)) with
      | true =>
        rw [hf, if_neg (by simp)] at ih
        exact ih
      | false =>
        rw [hf, if_pos rfl] at ih
        exact ih
    · obtain rfl : k = n := by omega
      rw [if_neg (by omega)]
theorem out_loop {n : Nat} (hn : n ≤ 12) {cs : List (List Int)} {codes : List Int} (hu : Upto (pts n) cs [] n codes) {K0 : Prop} {Kr : Bool → Prop} (hK : K0) : ∀ (fu i : Nat), i ≤ n → n - i < fu →
    L.a3_L2_R (n : Int) ((ac cs n).map fun (i : Nat) => (i : Int)) codes fu (i : Int) K0 Kr
  | 0, i, _, h => by omega
  | fu + 1, i, hi, h => by
    show L.a3_L2_b _ _ _ _ _ _ _
    unfold L.a3_L2_b
    have hl : (pts n).length = n := by simp [pts]
    have hcl := hu.1
    have hal := (ac_up cs n).2
    rcases Nat.lt_or_ge i n with g | g
    · refine cond_t (by simp; omega) ⟨⟨by omega, by omega⟩, Has_ok (by unfold big; simp; omega) ?_⟩
      have hc := hu.2 i g
      rw [code_tr hn (fun k hk => pts_get hk) g] at hc
      have e : i64 ((i : Int) + 1) = ((i + 1 : Nat) : Int) := by rw [i64_id (by omega) (by omega)]; omega
      rw [Int.toNat_natCast, hc, e]
      have hm : Bb.has ((ac cs n).map fun (i : Nat) => (i : Int)) (i : Int) = decide (fails cs ((ac cs i ++ [i]).map fun (i : Nat) => (i : Int)) = false) := by
        unfold Bb.has
        apply decide_eq_decide.2
        rw [← ac_mem cs n g]
        constructor
        · intro h
          obtain ⟨j, hj, ej⟩ := List.mem_map.1 h
          have : j = i := by omega
          exact this ▸ hj
        · exact fun h => List.mem_map.2 ⟨i, h, rfl⟩
      rw [hm]
      refine cond_f ?_ (out_loop hn hu hK fu (i + 1) g (by omega))
      cases fails cs ((ac cs i ++ [i]).map fun (i : Nat) => (i : Int)) <;> decide
    · exact cond_f (by simp; omega) hK
theorem ind_true {n : Int} {cs : List (List Int)} (hs : ∀ s, s ∈ cs → big s.length) (K : Bool → Prop) (hK : K true) : L.a3 n cs K := by
  constructor
  unfold L.a3_B
  refine nLands_ok (cond_f rfl ?_)
  by_cases hv : vf n cs = (0, 0)
  · refine Greedy_ok hs hv ?_
    by_cases h12 : n > 12
    · exact cond_t (by rw [decide_eq_true h12]; rfl) hK
    · obtain ⟨h0, _, _⟩ := vf_len hv
      obtain ⟨m, rfl⟩ : ∃ m : Nat, n = m := ⟨n.toNat, by omega⟩
      have hm : m ≤ 12 := by omega
      have hg := gr_ac (n := m) (good_of hv) 16 0 (by omega) (by omega)
      have hg' : gr cs m 16 0 [] = (ac cs m).map fun (i : Nat) => (i : Int) := hg
      rw [hg']
      refine cond_f (by rw [decide_eq_false h12]; rfl) ⟨m + 1, patch_loop hm ?_ (m + 1) 0 (by omega) (by omega)⟩
      have ho := open_pts hm hv
      have hl : (pts m).length = m := by simp [pts]
      refine Land_ok hs (fun h => absurd ho h) fun _ _ _ _ codes hu => ?_
      rw [hl] at hu
      have hS := S_tr hm (cs := cs) (fun k hk => pts_get (n := m) hk) m (Nat.le_refl _)
      have hcl := hu.1
      refine cond_f ?_ ⟨m + 1, out_loop hm hu hK (m + 1) 0 (by omega) (by omega)⟩
      rw [hl] at hcl ⊢
      rw [hS, hcl, tr_len, List.length_map]
      simp
  · refine Greedy_bad hs hv (cond_t ?_ hK)
    have : (vf n cs).1 ≠ 0 := fun h => hv (vf_zero h)
    rw [bne_iff_ne.2 this]
    rfl
end Tp
theorem TopIndependentPatchesLandLikeChanges_true (xs : ArgDen [(false, (.int .i64)), (false, (.slice L.ye))]) (hw : WfAll _ xs) (K : Bool → Prop) (hK : K true) : L.a3 xs.1 xs.2.1 K :=
  Tp.ind_true (fun s hs => Bb.big_of (hw.2.1.2 s hs).1) K hK
end Go.Proofs.YtnpjonhoihbaeaaGreatDoor
set_option maxRecDepth 100000
namespace Go.Proofs.YtnpjonhoihbaeaaGreatDoor
open Eng Go.ChangeShapes Go.WideShapes Go.ChangeAt Go.RowKit
def TopIndependentPatchesLandLikeChanges_ps : List (Bool × Ty) := [(false, (.int .i64)), (false, (.slice L.ye))]
theorem TopIndependentPatchesLandLikeChanges_sem (xs : ArgDen TopIndependentPatchesLandLikeChanges_ps) (hw : WfAll TopIndependentPatchesLandLikeChanges_ps xs) (_ : false = true → bulkAll TopIndependentPatchesLandLikeChanges_ps xs ≤ 1048576) : L.a3_S (lawArgs TopIndependentPatchesLandLikeChanges_ps xs) isTrue := by
  have e : L.a3_S (lawArgs TopIndependentPatchesLandLikeChanges_ps xs) isTrue = L.a3 xs.1 xs.2.1 (fun r => isTrue (.x (.bool r)) []) := by kernel_rfl
  rw [e]
  exact TopIndependentPatchesLandLikeChanges_true xs hw _ rfl
theorem TopIndependentPatchesLandLikeChanges_own : ownKnob Tryz.prog.godebug = none := by kernel_rfl
theorem TopIndependentPatchesLandLikeChanges_laid : laidOutB Tryz.prog = true := by kernel_rfl
theorem TopIndependentPatchesLandLikeChanges_spec : LawSpec Rows.topIndependentPatchesLandLikeChangesSpec Tryz.f3.params.toList.length where
  vars := rfl
  res := fun H ds h => by
    match ds, h with
    | [d1, d2], _ => rfl
  args := fun H ds h => by
    match ds, h with
    | [d1, d2], _ => rfl
  left := fun H ds h => by
    match ds, h with
    | [d1, d2], _ => rfl
theorem TopIndependentPatchesLandLikeChanges_lifted (os : Os) (started : os.Started) (H : Type) (enc : TypeId × Value → H) :
    ReturnsInHanded {} Tryz.checked os 3 .any (fun w args => (Rows.topIndependentPatchesLandLikeChangesSpec.pre enc Tryz.prog Tryz.f3 Rows.topIndependentPatchesLandLikeChangesRow.domain false w args ∧ laidMetH Tryz.prog Rows.topIndependentPatchesLandLikeChangesRow.laid w) ∧ sizedMet enc Tryz.prog Tryz.f3 (OpenSpec.ofChange Rows.topIndependentPatchesLandLikeChangesSpec) false w args)
      (Rows.topIndependentPatchesLandLikeChangesSpec.post enc Tryz.prog Tryz.f3 false true false false) := by
  refine returnsInHanded_of_change_and (C := Tryz.checked) (X := fun w _ => laidMetH Tryz.prog Rows.topIndependentPatchesLandLikeChangesRow.laid w) (fun _ _ _ hh h => h.of_heap hh) TopIndependentPatchesLandLikeChanges_own started (by kernel_rfl) Tryz.func3
    (ChangeSpec.witness_shaped (enc := enc) (C := Tryz.checked) (os := os) (X := fun w _ => laidMetH Tryz.prog Rows.topIndependentPatchesLandLikeChangesRow.laid w) false (World.laidAll Tryz.prog os Rows.topIndependentPatchesLandLikeChangesRow.laid) #[.int .i64 0, .slice none 0 0] 8 (World.laidAll_os _ _ _)
      (World.shaped_of_ZipB (by kernel_rfl) (by kernel_rfl)) (by kernel_rfl) (by kernel_rfl) (by kernel_rfl)
      (by rw [MakeChecks.laidMetH_plain _ _ _ (by kernel_rfl)]; exact laidMet_laidAll _ (by kernel_rfl) (by kernel_rfl))) ?_
  intro W base args ds gs before hval hW _ _ _ _
  exact law_contract (small := false) TopIndependentPatchesLandLikeChanges_laid (ps := TopIndependentPatchesLandLikeChanges_ps) (tb := 4) (by kernel_rfl) (by kernel_rfl) Tryz.underlying4 TopIndependentPatchesLandLikeChanges_spec L.a3_ok TopIndependentPatchesLandLikeChanges_sem hval hW (fun h => by cases h)
theorem TopIndependentPatchesLandLikeChanges_row : Rows.TopIndependentPatchesLandLikeChangesSaid :=
  OpenClaim.holds_of_wide 3 Tryz.f3 rfl rfl rfl rfl rfl rfl rfl ⟨rfl, rfl, rfl, rfl, rfl⟩ rfl rfl rfl rfl rfl (by kernel_rfl) Tryz.func3 (by kernel_rfl)
    (of_decide_eq_true (by kernel_rfl)) (by unfold Func.isWrapper; first | (rw [if_pos (by decide +kernel)]; kernel_rfl) | (rw [if_neg (by decide +kernel)]; exact ⟨rfl, rfl⟩))
    (fun os started H enc _ => TopIndependentPatchesLandLikeChanges_lifted os started H enc)
theorem TopIndependentPatchesLandLikeChanges_holds : Rows.TopIndependentPatchesLandLikeChangesCardSaid :=
  Claim7.holds_tied_plain_at .later [] [.data, .pinned] true (true, "e5ae9fbcf8d33b5cfecd07b361ea4fd2a9e0dbadf743cb65d830734e604890a3") false TopIndependentPatchesLandLikeChanges_row (fun _ h => by cases h) (by kernel_rfl) (fun _ h => by cases h) topIndependentPatchesLandLikeChanges_row_tie rfl ⟨rfl, rfl⟩ (by kernel_rfl) rfl
    (fun f fn hf hfn => by
      obtain rfl : f = 3 := Option.some.inj ((show Tryz.prog.funcNamed "changeforge/changeforgetop.TopIndependentPatchesLandLikeChanges" = some 3 by kernel_rfl).symm.trans hf) |>.symm
      obtain rfl : fn = Tryz.f3 := (Option.some.inj (Tryz.func3.symm.trans hfn)).symm
      exact ⟨by kernel_rfl, fun j t ht => by
        rw [Tryz.params3] at ht
        have hm : t ∈ [3, 22] := by simpa using Array.mem_of_getElem? ht
        have hall : ([3, 22].all fun u => !Tryz.prog.wantsStandIn u) = true := by kernel_rfl
        exact (show Tryz.prog.wantsStandIn t = false by simpa using List.all_eq_true.1 hall t hm)⟩)
    (by kernel_rfl)
#print axioms TopIndependentPatchesLandLikeChanges_holds
end Go.Proofs.YtnpjonhoihbaeaaGreatDoor
