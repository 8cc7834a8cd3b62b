/-
  The specification's tick. Conditions: none.
-/
import Derived.Test.YtfkhdfmnhkndeaaDmD
set_option linter.unusedVariables false
set_option linter.unusedSimpArgs false
namespace Go.Proofs.Ytfkhdfmnhkndeaa
open Eng
namespace Dl

theorem pj3 {p : Int} (hp : 0 ≤ p ∧ p < 5) {m : Pool} {h0 h1 h2 h3 : Hd} {t0 t1 t2 t3 n0 n1 n2 n3 n4 s0 s1 s2 s3 s4 tick : Int} {res : List Res} {c v : Int} (hn : 0 ≤ ([n0, n1, n2, n3, n4] : List Int).getD p.toNat 0 ∧ ([n0, n1, n2, n3, n4] : List Int).getD p.toNat 0 ≤ 1000) (ht : 0 ≤ tick ∧ tick ≤ 1000000) (hl : res.length ≤ 1000)
    {Kn : Pool → Hd → Hd → Hd → Hd → Int → Int → Int → Int → Int → Int → Int → Int → Int → Int → Int → Int → Int → Int → Int → List Res → Prop}
    (hK : ∀ n0' n1' n2' n3' n4' s0' s1' s2' s3' s4' : Int, [n0', n1', n2', n3', n4'] = ([n0, n1, n2, n3, n4] : List Int).set p.toNat (([n0, n1, n2, n3, n4] : List Int).getD p.toNat 0 + 1) → [s0', s1', s2', s3', s4'] = ([s0, s1, s2, s3, s4] : List Int).set p.toNat (tick + 1) →
      Kn m h0 h1 h2 h3 t0 t1 t2 t3 n0' n1' n2' n3' n4' s0' s1' s2' s3' s4' v (res ++ [(tick, (p, (c, v)))])) : L.ref8_World_Pass_h53_J3 p m h0 h1 h2 h3 t0 t1 t2 t3 n0 n1 n2 n3 n4 s0 s1 s2 s3 s4 tick res tick p c v Kn := by
  constructor
  unfold L.ref8_World_Pass_h53_J3_B
  have hp5 : p.toNat < 5 := by omega
  have b5 : inB p 5 := ⟨hp.1, by omega⟩
  rw [low10 _ _ _ _ _ _ _ _ _ _ hp5, i64_id (n := ([n0, n1, n2, n3, n4] : List Int).getD p.toNat 0 + 1) (by omega) (by omega), i64_id (n := tick + 1) (by omega) (by omega)]
  refine ⟨?_, b5, by omega, b5, by omega, b5, by omega, hK _ _ _ _ _ _ _ _ _ _ (set5 _ _ _ _ _ _ hp5) (set5n _ _ _ _ _ _ _ hp5)⟩
  simp only [fits, List.length_singleton]
  omega

abbrev KP := Pool → (List Int) → List (List Op) → Hd → Hd → Hd → Hd → Int → Int → Int → Int → Int → Int → Int → Int → Int → Int → Int → Int → Int → Int → Bool → Bool → Bool → Bool → Bool → Int → List Res → Prop

/-- Which processes are still to be considered. -/
def Due (sc : List (List Op)) (nx : List Int) (seen : List Bool) (d : List Int) : Prop := ∀ q : Nat, q < sc.length → due sc nx seen q = decide ((q : Int) ∈ d)

theorem pk_ok {caps : List Int} {sc : List (List Op)} {S : St} {snt : List (List Int)} {m : Pool} {hs : List Hd} {tk nx sn : List Int} (h : Rel caps sc S snt m hs tk nx sn) {seen : List Bool} {d : List Int} (hr : Rdy sc S d) (hd : Due sc nx seen d) (hs : d.Pairwise (Bef S.since)) :
    pk sc nx sn seen sc.length 0 (-1) = d.headD (-1) := by
  refine pk_head hr.inr hd (List.Pairwise.imp_of_mem (fun {a b} ha hb hab => ?_) hs)
  have h1 := hr.inr a ha
  have h2 := hr.inr b hb
  unfold Bef at *
  rw [h.sn _ (by omega), h.sn _ (by omega)]
  exact hab

theorem due_tail {sc : List (List Op)} {nx nx' : List Int} {seen : List Bool} (hl : seen.length = 5) (h5 : sc.length ≤ 5) {p : Int} (hp : 0 ≤ p ∧ p < sc.length) {d : List Int} (hnd : p ∉ d) (h : Due sc nx seen (p :: d)) (hx : ∀ i, i ≠ p.toNat → nx'.getD i 0 = nx.getD i 0) : Due sc nx' (seen.set p.toNat true) d := fun q hq => by
  have h0 := h q hq
  unfold due at *
  by_cases e : p.toNat = q
  · subst e
    rw [getD_set_same _ _ _ _ (by omega), show decide (((p.toNat : Nat) : Int) ∈ d) = false from decide_eq_false (by rw [show ((p.toNat : Nat) : Int) = p by omega]; exact hnd)]
    rfl
  · rw [getD_set_other _ _ _ _ _ e, hx q (fun g => e g.symm), h0]
    congr 1
    simp only [List.mem_cons, eq_iff_iff]
    constructor
    · rintro (g | g)
      · exact absurd (by omega) e
      · exact g
    · exact fun g => .inr g

theorem bef_tail {caps : List Int} {sc : List (List Op)} {S : St} {p : Int} {d : List Int} (hr : Rdy sc S (p :: d)) (hs : (p :: d).Pairwise (Bef S.since)) : d.Pairwise (Bef (stepP caps sc S p).since) := by
  have hp := hr.inr p (by simp)
  refine List.Pairwise.imp_of_mem (fun {a b} ha hb hab => ?_) (List.pairwise_cons.1 hs).2
  have hna : p ≠ a := fun e => (List.nodup_cons.1 hr.nd).1 (e ▸ ha)
  have hnb : p ≠ b := fun e => (List.nodup_cons.1 hr.nd).1 (e ▸ hb)
  have h1 := hr.inr a (by simp [ha])
  have h2 := hr.inr b (by simp [hb])
  unfold Bef at *
  rw [(stepP_next (caps := caps) (sc := sc) (S := S) (p := p) (q := a) (by omega)).2, (stepP_next (caps := caps) (sc := sc) (S := S) (p := p) (q := b) (by omega)).2]
  exact hab

theorem pass_loop {caps : List Int} {sc : List (List Op)} (hv : Valid caps sc) {K : KP} : ∀ (d : List Int) (S : St) (snt : List (List Int)) (m : Pool) (h0 h1 h2 h3 : Hd) (t0 t1 t2 t3 n0 n1 n2 n3 n4 s0 s1 s2 s3 s4 : Int) (e0 e1 e2 e3 e4 : Bool), Ok caps sc S → S.tick ≤ 1000000 → Rdy sc S d → d.Pairwise (Bef S.since) →
    Rel caps sc S snt m [h0, h1, h2, h3] [t0, t1, t2, t3] [n0, n1, n2, n3, n4] [s0, s1, s2, s3, s4] → Due sc [n0, n1, n2, n3, n4] [e0, e1, e2, e3, e4] d →
    (∀ (snt : List (List Int)) (m : Pool) (h0 h1 h2 h3 : Hd) (t0 t1 t2 t3 n0 n1 n2 n3 n4 s0 s1 s2 s3 s4 : Int) (e0 e1 e2 e3 e4 : Bool), Rel caps sc (d.foldl (stepP caps sc) S) snt m [h0, h1, h2, h3] [t0, t1, t2, t3] [n0, n1, n2, n3, n4] [s0, s1, s2, s3, s4] →
      K m caps sc h0 h1 h2 h3 t0 t1 t2 t3 n0 n1 n2 n3 n4 s0 s1 s2 s3 s4 e0 e1 e2 e3 e4 S.tick (d.foldl (stepP caps sc) S).res) →
    ∀ fu, d.length < fu → L.ref8_World_Pass_h53_L1_R fu (d.headD (-1)) m caps sc h0 h1 h2 h3 t0 t1 t2 t3 n0 n1 n2 n3 n4 s0 s1 s2 s3 s4 e0 e1 e2 e3 e4 S.tick S.res K
  | _, _, _, _, _, _, _, _, _, _, _, _, _, _, _, _, _, _, _, _, _, _, _, _, _, _, _, _, _, _, _, _, _, _, 0, h => by omega
  | [], S, snt, m, h0, h1, h2, h3, t0, t1, t2, t3, n0, n1, n2, n3, n4, s0, s1, s2, s3, s4, e0, e1, e2, e3, e4, hok, ht, hr, hb, hR, hD, hK, fu + 1, hfu => by
    show L.ref8_World_Pass_h53_L1_b (-1) m caps sc h0 h1 h2 h3 t0 t1 t2 t3 n0 n1 n2 n3 n4 s0 s1 s2 s3 s4 e0 e1 e2 e3 e4 S.tick S.res _ K
    unfold L.ref8_World_Pass_h53_L1_b
    exact cond_f rfl (hK _ _ _ _ _ _ _ _ _ _ _ _ _ _ _ _ _ _ _ _ _ _ _ _ _ hR)
  | p :: d, S, snt, m, h0, h1, h2, h3, t0, t1, t2, t3, n0, n1, n2, n3, n4, s0, s1, s2, s3, s4, e0, e1, e2, e3, e4, hok, ht, hr, hb, hR, hD, hK, fu + 1, hfu => by
    have hp := hr.inr p (by simp)
    have hleft := hr.left p (by simp)
    have hns := hv.ns
    have hnc := hv.nc
    have hpi : p.toNat < sc.length := by omega
    have hnb := hok.nb _ hpi
    have hsm := hok.sm _ hpi
    have htk := hok.tk
    have ho := op_ok hv hok hp hleft
    have hl8 : (sc.getD p.toNat []).length ≤ 8 := hv.len _ (by rw [getD_get _ _ _ hpi]; exact List.getElem_mem hpi)
    have hres := res_le hv hok
    have hnx := hR.nx _ hpi
    have hsn := hR.sn _ hpi
    have hch := hR.chs hv hok
    have hlay := hR.lay
    -- what is left to do after this process was considered
    have next : ∀ (snt' : List (List Int)) (m' : Pool) (h0' h1' h2' h3' : Hd) (t0' t1' t2' t3' n0' n1' n2' n3' n4' s0' s1' s2' s3' s4' : Int) (res' : List Res), Rel caps sc (stepP caps sc S p) snt' m' [h0', h1', h2', h3'] [t0', t1', t2', t3'] [n0', n1', n2', n3', n4'] [s0', s1', s2', s3', s4'] → (stepP caps sc S p).res = res' →
        (∀ i, i ≠ p.toNat → ([n0', n1', n2', n3', n4'] : List Int).getD i 0 = ([n0, n1, n2, n3, n4] : List Int).getD i 0) →
        L.ref8_World_Pass_h53_J4 m' caps sc h0' h1' h2' h3' t0' t1' t2' t3' n0' n1' n2' n3' n4' s0' s1' s2' s3' s4' (bif Nat.beq p.toNat 0 then true else e0) (bif Nat.beq p.toNat 1 then true else e1) (bif Nat.beq p.toNat 2 then true else e2) (bif Nat.beq p.toNat 3 then true else e3) (bif Nat.beq p.toNat 4 then true else e4) S.tick res' (fun p m01 w52 w53 w54 w55 w56 w57 w58 w59 w60 w61 w62 w63 w64 w65 w66 w67 w68 w69 w70 w71 w72 w73 w74 w75 w76 w77 m3 => L.ref8_World_Pass_h53_L1_R fu p m01 w52 w53 w54 w55 w56 w57 w58 w59 w60 w61 w62 w63 w64 w65 w66 w67 w68 w69 w70 w71 w72 w73 w74 w75 w76 w77 m3 K) := by
      rintro snt' m' h0' h1' h2' h3' t0' t1' t2' t3' n0' n1' n2' n3' n4' s0' s1' s2' s3' s4' res' hR' rfl hx
      have hr' := hr.tail (caps := caps)
      have hb' := bef_tail (caps := caps) hr hb
      have hD' : Due sc [n0', n1', n2', n3', n4'] [bif Nat.beq p.toNat 0 then true else e0, bif Nat.beq p.toNat 1 then true else e1, bif Nat.beq p.toNat 2 then true else e2, bif Nat.beq p.toNat 3 then true else e3, bif Nat.beq p.toNat 4 then true else e4] d := by
        rw [set5 _ _ _ _ _ _ (by omega)]
        exact due_tail rfl hns hp (List.nodup_cons.1 hr.nd).1 hD hx
      have hp' := pk_ok hR' hr' hD' hb'
      have et : (stepP caps sc S p).tick = S.tick := stepP_tick
      refine ⟨?_⟩
      unfold L.ref8_World_Pass_h53_J4_B
      refine pick_ok hns ?_
      rw [hp', ← et]
      refine pass_loop hv d _ snt' m' _ _ _ _ _ _ _ _ _ _ _ _ _ _ _ _ _ _ _ _ _ _ _ (stepP_ok hok hp hleft) (by omega) hr' hb' hR' hD' ?_ fu (by simp only [List.length_cons] at hfu; omega)
      intro a1 a2 a3 a4 a5 a6 a7 a8 a9 a10 a11 a12 a13 a14 a15 a16 a17 a18 a19 a20 a21 a22 a23 a24 a25 hR2
      rw [et]
      exact hK a1 a2 a3 a4 a5 a6 a7 a8 a9 a10 a11 a12 a13 a14 a15 a16 a17 a18 a19 a20 a21 a22 a23 a24 a25 hR2
    show L.ref8_World_Pass_h53_L1_b p m caps sc h0 h1 h2 h3 t0 t1 t2 t3 n0 n1 n2 n3 n4 s0 s1 s2 s3 s4 e0 e1 e2 e3 e4 S.tick S.res _ K
    unfold L.ref8_World_Pass_h53_L1_b
    refine cond_t (decide_eq_true hp.1) ⟨⟨hp.1, by omega⟩, by omega, choice_ok hns hnc hch hp (o := opAt sc S p) (by rw [hnx]) (by rw [hnx]; exact ⟨by omega, by omega⟩) ho ⟨htk, ht⟩ (by rw [hsn]; omega) ?_⟩
    rw [hsn]
    have eO : (sc.getD p.toNat []).getD (([n0, n1, n2, n3, n4, s0, s1, s2, s3, s4] : List Int).getD p.toNat 0).toNat (0, (0, (0, (0, [])))) = opAt sc S p := by rw [low10 _ _ _ _ _ _ _ _ _ _ (show p.toNat < 5 by omega), hnx]
    have eN : ([n0, n1, n2, n3, n4, s0, s1, s2, s3, s4] : List Int).getD p.toNat 0 = S.next.getD p.toNat 0 := by rw [low10 _ _ _ _ _ _ _ _ _ _ (show p.toNat < 5 by omega), hnx]
    have hb4 : inB (S.next.getD p.toNat 0) (sc.getD p.toNat []).length := ⟨by omega, by omega⟩
    simp only [eO, eN]
    cases hf : (tryS caps S.qs (opAt sc S p) (S.tick - S.since.getD p.toNat 0)).1.2.2 with
    | false =>
      have ec : chR caps S.qs (opAt sc S p) (S.tick - S.since.getD p.toNat 0) = -2 := by unfold chR; rw [hf]; rfl
      rw [ec]
      have en := stepP_no hf
      exact cond_t rfl (next snt m _ _ _ _ _ _ _ _ _ _ _ _ _ _ _ _ _ _ _ (by rw [en]; exact hR) (by rw [en]) (fun i _ => rfl))
    | true =>
      have ec : chR caps S.qs (opAt sc S p) (S.tick - S.since.getD p.toNat 0) = (tryS caps S.qs (opAt sc S p) (S.tick - S.since.getD p.toNat 0)).1.1 := by unfold chR; rw [hf]; rfl
      rw [ec]
      have tt := try_true hok.ql ho hf
      have go := fun {snt' : List (List Int)} {m' : Pool} {hs' : List Hd} {tk' : List Int} => hR.go (snt' := snt') (m' := m') (hs' := hs') (tk' := tk') hok rfl rfl hns hp hf
      have hx : ∀ {n0' n1' n2' n3' n4' : Int}, [n0', n1', n2', n3', n4'] = ([n0, n1, n2, n3, n4] : List Int).set p.toNat (([n0, n1, n2, n3, n4] : List Int).getD p.toNat 0 + 1) → ∀ i, i ≠ p.toNat → ([n0', n1', n2', n3', n4'] : List Int).getD i 0 = ([n0, n1, n2, n3, n4] : List Int).getD i 0 := fun e i hi => by
        rw [e, getD_set_other _ _ _ _ _ (fun g => hi g.symm)]
      have hn3 : 0 ≤ ([n0, n1, n2, n3, n4] : List Int).getD p.toNat 0 ∧ ([n0, n1, n2, n3, n4] : List Int).getD p.toNat 0 ≤ 1000 := by rw [hnx]; omega
      have b5 : inB p 5 := ⟨hp.1, by omega⟩
      have j3 := fun {m : Pool} {h0 h1 h2 h3 : Hd} {t0 t1 t2 t3 c v : Int} {Kn} => pj3 (m := m) (h0 := h0) (h1 := h1) (h2 := h2) (h3 := h3) (t0 := t0) (t1 := t1) (t2 := t2) (t3 := t3) (s0 := s0) (s1 := s1) (s2 := s2) (s3 := s3) (s4 := s4) (c := c) (v := v) (Kn := Kn) ⟨hp.1, by omega⟩ hn3 ⟨htk, ht⟩ (show S.res.length ≤ 1000 by omega)
      rcases tt with ⟨k1, hc, e1, e2, e3⟩ | ⟨k1, c, xs, hc, e1, e2, e3⟩ | ⟨k3, e1, e2, e3, e4, e5⟩
      · -- a value is sent
        have hvv : (tryS caps S.qs (opAt sc S p) (S.tick - S.since.getD p.toNat 0)).1.2.1 = (opAt sc S p).2.2.1 := by
          unfold tryS
          rw [if_pos k1, if_neg (by omega)]
        rw [hvv] at e2
        have hi : (opAt sc S p).2.1.toNat < snt.length := by rw [hR.four]; omega
        have hi4 : (opAt sc S p).2.1.toNat < 4 := by omega
        have hl := hlay.row _ hi
        have hok' := hl.ok
        have hb : inB (opAt sc S p).2.1 4 := ⟨hc.1, by omega⟩
        have hfew := hR.few _ hi4
        have hnl := hl.1
        rw [e1]
        generalize (opAt sc S p).2.2.1 = v at hvv e2 ⊢
        have fin : ∀ (m' : Pool) (h' : Hd), Lay m' (([h0, h1, h2, h3] : List Hd).set (opAt sc S p).2.1.toNat h') (snt.set (opAt sc S p).2.1.toNat (snt.getD (opAt sc S p).2.1.toNat [] ++ [v])) →
            ∀ n0' n1' n2' n3' n4' s0' s1' s2' s3' s4' : Int, [n0', n1', n2', n3', n4'] = ([n0, n1, n2, n3, n4] : List Int).set p.toNat (([n0, n1, n2, n3, n4] : List Int).getD p.toNat 0 + 1) → [s0', s1', s2', s3', s4'] = ([s0, s1, s2, s3, s4] : List Int).set p.toNat (S.tick + 1) →
            Rel caps sc (stepP caps sc S p) (snt.set (opAt sc S p).2.1.toNat (snt.getD (opAt sc S p).2.1.toNat [] ++ [v])) m' (([h0, h1, h2, h3] : List Hd).set (opAt sc S p).2.1.toNat h') [t0, t1, t2, t3] [n0', n1', n2', n3', n4'] [s0', s1', s2', s3', s4'] ∧ (stepP caps sc S p).res = S.res ++ [(S.tick, (p, ((opAt sc S p).2.1, v)))] := by
          intro m' h' hl' n0' n1' n2' n3' n4' s0' s1' s2' s3' s4' en es
          rw [en, es]
          have g := go (snt' := snt.set (opAt sc S p).2.1.toNat (snt.getD (opAt sc S p).2.1.toNat [] ++ [v])) (tk' := [t0, t1, t2, t3]) (by simp [hR.four]) hl' (fun c hc' => ?_) (fun c hc' => ?_) (fun c hc' => ?_)
          · rw [e1, hvv] at g
            exact g
          · have ht' := hR.tb c hc'
            by_cases e : (opAt sc S p).2.1.toNat = c
            · subst e
              rw [getD_set_same _ _ _ _ hi, List.length_append]
              omega
            · rw [getD_set_other _ _ _ _ _ e]
              exact ht'
          · have ht' := hR.tb c hc'
            rw [e2]
            by_cases e : (opAt sc S p).2.1.toNat = c
            · subst e
              rw [getD_set_same _ _ _ _ hi, getD_set_same _ _ _ _ (by rw [hok.ql]; exact hc'), hR.qs _ hc', List.drop_append_of_le_length (by omega)]
            · rw [getD_set_other _ _ _ _ _ e, getD_set_other _ _ _ _ _ e]
              exact hR.qs c hc'
          · have hf' := hR.few c hc'
            by_cases e : (opAt sc S p).2.1.toNat = c
            · subst e
              rw [getD_set_same _ _ _ _ hi, List.length_append, List.length_singleton]
              omega
            · rw [getD_set_other _ _ _ _ _ e]
              omega
        have hfit : fits ((([h0, h1, h2, h3] : List Hd).getD (opAt sc S p).2.1.toNat Hd.nil).n + ([v] : List Int).length) := by
          simp only [fits, List.length_singleton]
          omega
        refine cond_f (beq_eq_false_iff_ne.2 (by omega)) ⟨⟨hp.1, by omega⟩, b5, by omega, hb4, cond_t (beq_iff_eq.2 k1) ⟨hb, hi4, hok', hfit, ?_⟩⟩
        by_cases hcp : (([h0, h1, h2, h3] : List Hd).getD (opAt sc S p).2.1.toNat Hd.nil).n + 1 ≤ (([h0, h1, h2, h3] : List Hd).getD (opAt sc S p).2.1.toNat Hd.nil).c
        · obtain ⟨g1, g2⟩ := hl.more v hcp
          have hl' := hlay.upd hi g1 (fun b hb => .inl hb) g2
          refine cond_t (Nat.ble_eq_true_of_le hcp) ⟨hb, hi4, j3 ?_⟩
          intro n0' n1' n2' n3' n4' s0' s1' s2' s3' s4' en es
          obtain ⟨f1, f2⟩ := fin _ _ hl' _ _ _ _ _ _ _ _ _ _ en es
          rw [← set4 _ _ _ _ _ hi4] at f1
          exact next _ _ _ _ _ _ _ _ _ _ _ _ _ _ _ _ _ _ _ _ _ f1 f2 (hx en)
        · refine cond_f (by rw [Bool.eq_false_iff]; exact fun h => hcp (Nat.le_of_ble_eq_true h)) fun b cap hb1 hcap => ⟨hb, hi4, j3 ?_⟩
          intro n0' n1' n2' n3' n4' s0' s1' s2' s3' s4' en es
          obtain ⟨g1, g2⟩ := hl.moved v hb1 hcap
          have hl' := hlay.upd hi g1 (fun b' hb' => .inr (by
            simp only [blk] at hb'
            split at hb'
            · cases hb'
            · cases hb'
              exact hb1)) g2
          obtain ⟨f1, f2⟩ := fin _ _ hl' _ _ _ _ _ _ _ _ _ _ en es
          rw [← set4 _ _ _ _ _ hi4] at f1
          exact next _ _ _ _ _ _ _ _ _ _ _ _ _ _ _ _ _ _ _ _ _ f1 f2 (hx en)
      · -- a value is received
        have hcs : c.toNat < caps.length := by omega
        have hi : c.toNat < snt.length := by rw [hR.four]; omega
        have hi4 : c.toNat < 4 := by omega
        have hl := hlay.row _ hi
        have hok' := hl.ok
        have hb : inB c 4 := ⟨hc.1, by omega⟩
        have htb := hR.tb _ hcs
        have hfew := hR.few _ hi4
        have hnl := hl.1
        have e2' := e2
        rw [hR.qs _ hcs] at e2'
        obtain ⟨d1, d2, d3⟩ := drop_head e2'.symm
        obtain ⟨p1, p2⟩ := hl.cell d1
        rw [d2] at p2
        rw [e1]
        have et14 : ([t0, t1, t2, t3, n0, n1, n2, n3, n4, s0, s1, s2, s3, s4] : List Int).getD c.toNat 0 = ([t0, t1, t2, t3] : List Int).getD c.toNat 0 := low14 _ _ _ _ _ _ _ _ _ _ _ _ _ _ hi4
        have z : ∀ k, 4 ≤ k → Nat.beq c.toNat k = false := fun k hk => by
          rw [Bool.eq_false_iff]
          intro h
          have := Nat.eq_of_beq_eq_true h
          omega
        refine cond_f (beq_eq_false_iff_ne.2 (by omega)) ⟨⟨hp.1, by omega⟩, b5, by omega, hb4, cond_f (beq_eq_false_iff_ne.2 k1) (cond_t (decide_eq_true hc.1) ?_)⟩
        rw [et14, i64_id (n := ([t0, t1, t2, t3] : List Int).getD c.toNat 0 + 1) (by omega) (by omega), p2, z 4 (by omega), z 5 (by omega), z 6 (by omega), z 7 (by omega), z 8 (by omega), z 9 (by omega), z 10 (by omega), z 11 (by omega), z 12 (by omega), z 13 (by omega)]
        refine ⟨hb, hi4, hb, by omega, ⟨⟨by omega, by omega⟩, hok'⟩, p1, hb, by omega, hb, by omega, j3 ?_⟩
        intro n0' n1' n2' n3' n4' s0' s1' s2' s3' s4' en es
        obtain ⟨f1, f2⟩ := go (snt' := snt) (tk' := ([t0, t1, t2, t3] : List Int).set c.toNat (([t0, t1, t2, t3] : List Int).getD c.toNat 0 + 1)) hR.four hlay (fun c' hc' => by
            by_cases e : c.toNat = c'
            · subst e
              rw [getD_set_same _ _ _ _ hi4]
              omega
            · rw [getD_set_other _ _ _ _ _ e]
              exact hR.tb c' hc') (fun c' hc' => by
            rw [e3]
            by_cases e : c.toNat = c'
            · subst e
              rw [getD_set_same _ _ _ _ (by rw [hok.ql]; exact hc'), getD_set_same _ _ _ _ hi4, ← d3]
              congr 1
              omega
            · rw [getD_set_other _ _ _ _ _ e, getD_set_other _ _ _ _ _ e]
              exact hR.qs c' hc') (fun c' hc' => by have := hR.few c' hc'; omega)
        rw [e1] at f2
        rw [← en, ← es, ← set4 _ _ _ _ _ hi4] at f1
        exact next _ _ _ _ _ _ _ _ _ _ _ _ _ _ _ _ _ _ _ _ _ f1 f2 (hx en)
      · -- it has waited long enough
        have hvv : (opAt sc S p).2.2.1 = 0 := ho.val0 (by omega)
        have k1 : (opAt sc S p).1 ≠ 1 := by omega
        rw [e1, hvv]
        refine cond_f rfl ⟨⟨hp.1, by omega⟩, b5, by omega, hb4, cond_f (beq_eq_false_iff_ne.2 k1) (cond_f rfl (j3 ?_))⟩
        intro n0' n1' n2' n3' n4' s0' s1' s2' s3' s4' en es
        obtain ⟨f1, f2⟩ := go (snt' := snt) (tk' := [t0, t1, t2, t3]) hR.four hlay hR.tb (by rw [e3]; exact hR.qs) (fun c hc => by have := hR.few c hc; omega)
        rw [e1, e2] at f2
        rw [← en, ← es] at f1
        exact next _ _ _ _ _ _ _ _ _ _ _ _ _ _ _ _ _ _ _ _ _ f1 f2 (hx en)

end Dl
end Go.Proofs.Ytfkhdfmnhkndeaa
