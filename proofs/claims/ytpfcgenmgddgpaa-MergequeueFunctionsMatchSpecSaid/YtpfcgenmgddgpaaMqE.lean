/-
  What settling computes. Conditions: none.
-/
import Derived.Test.YtpfcgenmgddgpaaMqD
namespace Go.Proofs.Ytpfcgenmgddgpaa
open Eng
namespace Mq

/-- A change has landed: it is no more ahead of the others. -/
def dea (c : Int) (e : Ent) : Ent := (e.1, (e.2.1, (e.2.2.1, (e.2.2.2.1, (e.2.2.2.2.1, del c e.2.2.2.2.2)))))

theorem get_md {α : Type} (l : List α) (f : α → α) (i : Nat) (hi : i < l.length) : ((l.take i).map f ++ l.drop i)[i]? = l[i]? := by
  have h1 : ((l.take i).map f).length = i := by simp; omega
  rw [List.getElem?_append_right (by omega), h1, Nat.sub_self, List.getElem?_drop, Nat.add_zero]

theorem set_md {α : Type} (l : List α) (f : α → α) (i : Nat) (x : α) (hx : l[i]? = some x) : ((l.take i).map f ++ l.drop i).set i (f x) = (l.take (i + 1)).map f ++ l.drop (i + 1) := by
  have hi := (List.getElem?_eq_some_iff.1 hx).1
  have h1 : ((l.take i).map f).length = i := by simp; omega
  have h2 : l[i] = x := (List.getElem?_eq_some_iff.1 hx).2
  rw [List.set_append, if_neg (by omega), h1, Nat.sub_self, List.drop_eq_getElem_cons hi, List.set_cons_zero, List.take_add_one, hx, List.map_append, List.append_assoc]
  rfl

/-- No row is great. -/
def Bd (es : List Ent) : Prop := ∀ e, e ∈ es → e.2.2.2.2.2.length ≤ 1000

theorem dea_loop {c p : Int} {q r s : Bool} {g : Hd} {es : List Ent} (hb : es.length ≤ 1000) (hB : Bd es) {K : Pool → Int → Int → Bool → Bool → Bool → Hd → List HE → Prop}
    (hK : ∀ m hs, Lay m hs (es.map (dea c)) → K m c p q r s g hs) : ∀ (fu i : Nat) (m : Pool) (hs : List HE), Lay m hs ((es.take i).map (dea c) ++ es.drop i) → i ≤ es.length → es.length - i < fu →
    L.mergequeue_queue_settle_h21_L2_R (es.length : Int) fu i m c p q r s g hs K
  | 0, i, m, hs, _, _, h => by omega
  | fu + 1, i, m, hs, hS, hi, h => by
    show L.mergequeue_queue_settle_h21_L2_b (es.length : Int) i m c p q r s g hs _ K
    unfold L.mergequeue_queue_settle_h21_L2_b
    have hal : ((es.take i).map (dea c) ++ es.drop i).length = es.length := by simp; omega
    have hl : hs.length = es.length := by rw [hS.len, hal]
    rcases Nat.lt_or_ge i es.length with k | k
    · refine cond_t (by simp; omega) ⟨⟨by omega, by omega⟩, ?_⟩
      rw [Int.toNat_natCast, i64_succ (i := i) (by omega)]
      obtain ⟨x, e, h1, h2, h3, h4⟩ := hS.get (i := i) (by rw [hal]; exact k)
      rw [getD_of _ h1]
      rw [get_md _ _ _ k] at h2
      have hle : e.2.2.2.2.2.length ≤ 1000 := hB e (List.mem_of_getElem? h2)
      refine Delete_ok (xs := e.2.2.2.2.2) (by omega) h4 fun h' m' l1 l2 l3 => ?_
      have h6 := hS.upd (m' := m') (x' := (x.1, (x.2.1, (x.2.2.1, (x.2.2.2.1, (x.2.2.2.2.1, h')))))) (e' := dea c e) h1 ⟨by
        unfold dea wr; rw [h3]; rfl, l1⟩ (.inl l2) l3
      rw [set_md _ _ _ _ h2] at h6
      exact dea_loop hb hB hK fu (i + 1) m' _ h6 k (by omega)
    · obtain rfl : i = es.length := by omega
      rw [List.take_length, List.drop_length, List.append_nil] at hS
      exact cond_f (by simp) (hK m hs hS)

/-- What has its result lands or is rejected. -/
def stl : Nat → List Ent → List Int → List Int → List Ent × (List Int × List Int)
  | 0, es, ld, rj => (es, (ld, rj))
  | _ + 1, [], ld, rj => ([], (ld, rj))
  | n + 1, e :: r, ld, rj => bif (e.2.2.2.1 || e.2.2.2.2.1) then (bif e.2.2.2.2.1 then stl n (disc 0 r) ld (rj ++ [e.1]) else stl n (r.map (dea e.1)) (ld ++ [e.1]) rj) else (e :: r, (ld, rj))

theorem disc0 (es : List Ent) : disc 0 es = es.map clrE := by
  apply List.ext_getElem?
  intro k
  unfold disc
  rw [List.getElem?_mapIdx, List.getElem?_map]
  cases es[k]? with
  | none => rfl
  | some e => show some (if 0 ≤ k then clrE e else e) = some (clrE e); rw [if_pos (Nat.zero_le k)]

theorem bd_disc {es : List Ent} (h : Bd es) (a : Nat) : Bd (disc a es) := fun e he => by
  obtain ⟨i, hi, rfl⟩ := List.getElem_of_mem he
  simp only [disc, List.getElem_mapIdx]
  split
  · simp [clrE]
  · exact h _ (List.getElem_mem _)

theorem bd_dea {es : List Ent} (h : Bd es) (c : Int) : Bd (es.map (dea c)) := fun e he => by
  obtain ⟨x, hx, rfl⟩ := List.mem_map.1 he
  exact Nat.le_trans (del_le _ _) (h x hx)

theorem settle_loop {q : Int} {K : Pool → Int → List HE → List Int → List Int → Prop} : ∀ (fu : Nat) (n : Nat) (es : List Ent) (ld rj : List Int) (m : Pool) (hs : List HE), Lay m hs es → Bd es → es.length ≤ n → n < fu → ld.length + rj.length + es.length ≤ 1000 →
    (∀ m' hs', Lay m' hs' (stl n es ld rj).1 → K m' q hs' (stl n es ld rj).2.1 (stl n es ld rj).2.2) → L.mergequeue_queue_settle_h21_L3_R fu m q hs ld rj K
  | 0, n, es, ld, rj, m, hs, _, _, _, h, _, _ => by omega
  | fu + 1, n, es, ld, rj, m, hs, hS, hB, hn, hf, hT, hK => by
    show L.mergequeue_queue_settle_h21_L3_b m q hs ld rj _ K
    unfold L.mergequeue_queue_settle_h21_L3_b
    have hl := hS.len
    cases es with
    | nil =>
      have h0 : hs = [] := List.length_eq_zero_iff.1 (by rw [hl]; rfl)
      subst h0
      refine ⟨fun h => by simp at h, fun h => by simp at h, cond_f (by simp) ?_⟩
      have e : stl n [] ld rj = ([], (ld, rj)) := by cases n <;> rfl
      rw [e] at hK
      exact hK m [] hS
    | cons e r =>
      obtain ⟨n, rfl⟩ : ∃ k, n = k + 1 := ⟨n - 1, by simp at hn; omega⟩
      simp only [List.length_cons] at hl hn hT
      obtain ⟨x, e', h1, h2, h3, h4⟩ := hS.get (i := 0) (by simp)
      simp only [List.getElem?_cons_zero, Option.some.injEq] at h2
      subst h2
      have hx : hs.getD ((0 : Int).toNat) (0, (0, (false, (false, (false, Hd.nil))))) = x := getD_of _ h1
      rw [hx]
      have f1 : e.1 = x.1 := by rw [h3]; rfl
      have f4 : e.2.2.2.1 = x.2.2.2.1 := by rw [h3]; rfl
      have f5 : e.2.2.2.2.1 = x.2.2.2.2.1 := by rw [h3]; rfl
      have hin : inB 0 hs.length := ⟨by omega, by omega⟩
      refine ⟨fun _ => hin, fun _ _ => hin, ?_⟩
      simp only [stl, f1, f4, f5] at hK
      have hgt : decide ((hs.length : Int) > 0) = true := by simp; omega
      rw [hgt]
      simp only [bor, cond_true]
      have hBr : Bd r := fun y hy => hB y (List.mem_cons_of_mem _ hy)
      cases hp : (x.2.2.2.1 || x.2.2.2.2.1) with
      | false =>
        rw [hp] at hK
        exact hK m hs hS
      | true =>
        rw [hp] at hK
        simp only [cond_true] at hK ⊢
        refine ⟨hin, remove_ok (i := 0) hS (by simp; omega) (by simp) fun hs1 hS1 => ?_⟩
        simp only [List.take_zero, List.nil_append, Nat.zero_add, List.drop_succ_cons, List.drop_zero] at hS1
        cases hfl : x.2.2.2.2.1 with
        | true =>
          rw [hfl] at hK
          simp only [cond_true] at hK ⊢
          refine ⟨by unfold fits; simp; omega, discard_ok (a := 0) hS1 (by omega) (by omega) fun hs2 hS2 => ?_⟩
          exact settle_loop fu n (disc 0 r) ld (rj ++ [x.1]) m hs2 hS2 (bd_disc hBr 0) (by rw [disc_len]; omega) (by omega) (by rw [disc_len]; simp; omega) hK
        | false =>
          rw [hfl] at hK
          simp only [cond_false] at hK ⊢
          refine ⟨by unfold fits; simp; omega, ⟨⟨r.length + 1, ?_⟩⟩⟩
          rw [hS1.len]
          refine dea_loop (es := r) (by omega) hBr (fun m' hs' hS' => ?_) (r.length + 1) 0 m hs1 (by simpa using hS1) (by omega) (by omega)
          exact settle_loop fu n (r.map (dea x.1)) (ld ++ [x.1]) rj m' hs' hS' (bd_dea hBr _) (by simp; omega) (by omega) (by simp; omega) hK

theorem Clone_ok {l : List Int} (hl : l.length ≤ 1000) {K : List Int → Prop} (hK : K l) : L.slices_Clone l K := by
  refine ⟨fun b hb => ?_⟩
  cases b with
  | true =>
    have : l = [] := by
      cases l with
      | nil => rfl
      | cons x r => exact absurd (hb (by simp)) (by simp)
    subst this
    exact hK
  | false => exact ⟨by unfold fits; simp; omega, hK⟩

/-- The first entries are tested. -/
def srt : Nat → List Ent → List Int → List Ent
  | 0, es, _ => es
  | _ + 1, [], _ => []
  | n + 1, e :: r, a => (bif (!e.2.2.1 && (!e.2.2.2.1 && !e.2.2.2.2.1)) then (e.1, (e.2.1, (true, (e.2.2.2.1, (e.2.2.2.2.1, a))))) else e) :: srt n r (a ++ [e.1])

theorem getD_set_same {α} (l : List α) (i : Nat) (x d : α) (h : i < l.length) : (l.set i x).getD i d = x := by simp [List.getD, h]

set_option maxHeartbeats 1600000 in
theorem start_loop {n : Nat} {F : List Ent} {N : Nat} (hN : N ≤ 1000) {K : Pool → List HE → Prop} (hK : ∀ m hs, Lay m hs F → K m hs) : ∀ (fu i : Nat) (cs : List Ent) (a : List Int) (m : Pool) (hs : List HE), Lay m hs cs → cs.length = N → i ≤ min n N → min n N - i < fu → a.length ≤ i →
    cs.take i ++ srt (n - i) (cs.drop i) a = F → L.mergequeue_queue_settle_h21_L4_R ((min n N : Nat) : Int) fu i m hs a K
  | 0, i, cs, a, m, hs, _, _, _, h, _, _ => by omega
  | fu + 1, i, cs, a, m, hs, hS, hc, hi, h, ha, hF => by
    show L.mergequeue_queue_settle_h21_L4_b ((min n N : Nat) : Int) i m hs a _ K
    unfold L.mergequeue_queue_settle_h21_L4_b
    have hl := hS.len
    rcases Nat.lt_or_ge i (min n N) with k | k
    · have hiN : i < cs.length := by omega
      have hih : i < hs.length := by omega
      refine cond_t (by simp; omega) ⟨⟨by omega, by omega⟩, ?_⟩
      rw [Int.toNat_natCast, i64_succ (i := i) (by omega)]
      obtain ⟨x, e, h1, h2, h3, h4⟩ := hS.get hiN
      have hx : hs.getD i (0, (0, (false, (false, (false, Hd.nil))))) = x := getD_of _ h1
      simp only [hx, getD_set_same _ _ _ _ hih, List.set_set]
      have hd : cs.drop i = e :: cs.drop (i + 1) := by
        rw [List.drop_eq_getElem_cons hiN]
        rw [List.getElem?_eq_getElem hiN] at h2
        cases h2; rfl
      have hni : n - i = (n - (i + 1)) + 1 := by omega
      rw [hd, hni] at hF
      simp only [srt] at hF
      have f1 : e.1 = x.1 := by rw [h3]; rfl
      have f2 : e.2.1 = x.2.1 := by rw [h3]; rfl
      have f3 : e.2.2.1 = x.2.2.1 := by rw [h3]; rfl
      have f4 : e.2.2.2.1 = x.2.2.2.1 := by rw [h3]; rfl
      have f5 : e.2.2.2.2.1 = x.2.2.2.2.1 := by rw [h3]; rfl
      rw [f1, f2, f3, f4, f5] at hF
      simp only [band]
      have htk : ∀ y : Ent, (cs.set i y).take (i + 1) = cs.take i ++ [y] := fun y => by
        rw [List.take_add_one, List.getElem?_set, if_pos rfl, if_pos hiN, List.take_set_of_le (Nat.le_refl _)]
        rfl
      have hdk : ∀ y : Ent, (cs.set i y).drop (i + 1) = cs.drop (i + 1) := fun y => by rw [List.drop_set_of_lt (by omega)]
      have hfit : fits (a.length + ([x.1] : List Int).length) := by unfold fits; simp; omega
      cases hb : ((!x.2.2.1 && !x.2.2.2.1) && !x.2.2.2.2.1) with
      | false =>
        have hb2 : (!x.2.2.1 && (!x.2.2.2.1 && !x.2.2.2.2.1)) = false := by rw [← Bool.and_assoc]; exact hb
        rw [hb2] at hF
        simp only [cond_false] at hF ⊢
        refine ⟨hfit, start_loop hN hK fu (i + 1) cs (a ++ [x.1]) m hs hS hc (by omega) (by omega) (by simp; omega) ?_⟩
        rw [List.take_add_one, h2, ← hF]
        simp
      | true =>
        have hb2 : (!x.2.2.1 && (!x.2.2.2.1 && !x.2.2.2.2.1)) = true := by rw [← Bool.and_assoc]; exact hb
        rw [hb2] at hF
        simp only [cond_true] at hF ⊢
        refine Clone_ok (by omega) ⟨fun ha0 => ⟨hfit, ?_⟩, fun b cap hb0 hcap => ⟨hfit, ?_⟩⟩
        · subst ha0
          have h6 := hS.upd (m' := m) (x' := (x.1, (x.2.1, (true, (x.2.2.2.1, (x.2.2.2.2.1, Hd.nil)))))) (e' := (x.1, (x.2.1, (true, (x.2.2.2.1, (x.2.2.2.2.1, [])))))) h1 ⟨rfl, Lies.nil m⟩ (.inr fun b hb => by cases hb) (Keeps.refl _ _)
          refine start_loop hN hK fu (i + 1) _ ([] ++ [x.1]) m _ h6 (by simp [hc]) (by omega) (by omega) (by simp) ?_
          rw [htk, hdk, ← hF]
          simp
        · have h6 := hS.upd (m' := (b, (a, cap)) :: m) (x' := (x.1, (x.2.1, (true, (x.2.2.2.1, (x.2.2.2.2.1, Hd.mk (some (Addr.mk b 0 none)) a.length cap)))))) (e' := (x.1, (x.2.1, (true, (x.2.2.2.1, (x.2.2.2.2.1, a)))))) h1
            ⟨rfl, rfl, hcap, .inr ⟨b, [], cap, rfl, by simp [pfind], Nat.le_refl _⟩⟩ (.inr fun b' hb' => by
              simp only [blk] at hb'
              split at hb'
              · cases hb'
              · simp only [Option.map_some, Option.some.injEq] at hb'
                subst hb'
                exact hb0) (fun b' _ rr hrr => by
              simp only [pfind]
              rw [if_neg]
              · exact hrr
              · rintro rfl
                rw [hb0] at hrr
                cases hrr)
          refine start_loop hN hK fu (i + 1) _ (a ++ [x.1]) _ _ h6 (by simp [hc]) (by omega) (by omega) (by simp; omega) ?_
          rw [htk, hdk, ← hF]
          simp
    · refine cond_f (by simp; omega) (hK m hs ?_)
      have : cs.take i ++ srt (n - i) (cs.drop i) a = cs := by
        rcases Nat.lt_or_ge i cs.length with g | g
        · have : n - i = 0 := by omega
          rw [this]
          simp only [srt, List.take_append_drop]
        · rw [List.take_of_length_le g, List.drop_of_length_le g]
          cases n - i <;> simp [srt]
      rw [← hF, this]
      exact hS

end Mq
end Go.Proofs.Ytpfcgenmgddgpaa
