/-
  Regions whose order is open: the check by reckoning, and the soundness over every order that the model may draw. Conditions: none.
-/
import Derived.Test.YtmfdikjeijnlmaaEngS
import Derived.Test.YtmfdikjeijnlmaaEngR
namespace Go.Proofs.Ytmfdikjeijnlmaa
namespace Eng
open Go.RowKit

/-- h is ahead of j by the edges. -/
inductive Path (ops : List Oper) : Nat → Nat → Prop
  | step {o : Oper} {j : Nat} {e : Edge} (ho : ops[j]? = some o) (he : e ∈ o.after.toList) (hb : Region.binds .any e = true) : Path ops e.on j
  | more {o : Oper} {h j : Nat} {e : Edge} (ho : ops[j]? = some o) (he : e ∈ o.after.toList) (hb : Region.binds .any e = true) (hp : Path ops h e.on) : Path ops h j

def befF (acc : List Nat) (o : Oper) : Nat := o.after.toList.foldl (fun s e => if Region.binds .any e = true then (s ||| 2 ^ e.on) ||| acc.getD e.on 0 else s) 0

def befG : List Oper → List Nat → List Nat
  | [], acc => acc
  | o :: r, acc => befG r (acc ++ [befF acc o])

theorem befF_sound {acc : List Nat} {h : Nat} : ∀ (l : List Edge) (s : Nat), (l.foldl (fun s e => if Region.binds .any e = true then (s ||| 2 ^ e.on) ||| acc.getD e.on 0 else s) s).testBit h = true →
    s.testBit h = true ∨ ∃ e, e ∈ l ∧ Region.binds .any e = true ∧ (h = e.on ∨ (acc.getD e.on 0).testBit h = true)
  | [], s, hb => .inl hb
  | e :: l, s, hb => by
    rw [List.foldl_cons] at hb
    rcases befF_sound l _ hb with h1 | ⟨e', h1, h2, h3⟩
    · split at h1
      · next hbe =>
        rw [Nat.testBit_or, Nat.testBit_or, Bool.or_eq_true, Bool.or_eq_true] at h1
        rcases h1 with (h1 | h1) | h1
        · exact .inl h1
        · rw [Nat.testBit_two_pow] at h1
          exact .inr ⟨e, by simp, hbe, .inl (by simpa using (of_decide_eq_true h1).symm)⟩
        · exact .inr ⟨e, by simp, hbe, .inr h1⟩
      · exact .inl h1
    · exact .inr ⟨e', by simp [h1], h2, h3⟩

theorem befG_sound {ops : List Oper} : ∀ (r : List Oper) (d : List Oper) (acc : List Nat), ops = d ++ r → acc.length = d.length → (∀ j h, (acc.getD j 0).testBit h = true → Path ops h j) →
    ∀ j h, ((befG r acc).getD j 0).testBit h = true → Path ops h j
  | [], d, acc, _, _, hi => hi
  | o :: r, d, acc, he, hl, hi => by
    refine befG_sound r (d ++ [o]) (acc ++ [befF acc o]) (by simp [he]) (by simp [hl]) fun j h hb => ?_
    rcases Nat.lt_trichotomy j acc.length with g | g | g
    · rw [List.getD_eq_getElem?_getD, List.getElem?_append_left g, ← List.getD_eq_getElem?_getD] at hb
      exact hi j h hb
    · subst g
      rw [List.getD_eq_getElem?_getD, List.getElem?_append_right (Nat.le_refl _)] at hb
      simp only [Nat.sub_self, List.getElem?_cons_zero, Option.getD_some] at hb
      have ho : ops[acc.length]? = some o := by rw [he, hl, List.getElem?_append_right (Nat.le_refl _)]; simp
      rcases befF_sound _ _ hb with h1 | ⟨e, h1, h2, h3⟩
      · simp at h1
      · rcases h3 with rfl | h3
        · exact .step ho h1 h2
        · exact .more ho h1 h2 (hi _ _ h3)
    · rw [List.getD_eq_getElem?_getD, List.getElem?_eq_none (by simp; omega)] at hb
      simp at hb

def apartB (ops : List Oper) (o1 o2 : Oper) : Bool :=
  (match o1.dst with | some d => !(LK ops 9 o2).contains d | none => true) &&
  (match o2.dst with | some d => !(LK ops 9 o1).contains d | none => true) &&
  (match o1.dst, o2.dst with | some d, some d' => !(Nat.beq d d') | _, _ => true)

theorem apartB_sound {ops : List Oper} {o1 o2 : Oper} (h : apartB ops o1 o2 = true) : Apart ops o1 o2 := by
  simp only [apartB, Bool.and_eq_true] at h
  obtain ⟨⟨h1, h2⟩, h3⟩ := h
  refine ⟨fun d hd => ?_, fun d hd => ?_, fun d hd hd2 => ?_⟩
  · rw [hd] at h1; simpa using h1
  · rw [hd] at h2; simpa using h2
  · rw [hd, hd2] at h3
    simp at h3

def drawOk (ops : List Oper) : Bool :=
  (List.range ops.length).all fun i => (match ops[i]? with
    | some o => o.after.toList.all (fun e => !Region.binds .any e || Nat.blt e.on i) &&
      (List.range i).all fun h => Nat.testBit ((befG ops []).getD i 0) h || (match ops[h]? with
        | some o' => kindOk o'.op o.op && apartB ops o' o
        | none => false)
    | none => false)

theorem drawOk_edge {ops : List Oper} (h : drawOk ops = true) {i : Nat} {o : Oper} (ho : ops[i]? = some o) {e : Edge} (he : e ∈ o.after.toList) (hb : Region.binds .any e = true) : e.on < i := by
  have hi : i < ops.length := (List.getElem?_eq_some_iff.1 ho).1
  simp only [drawOk, List.all_eq_true] at h
  have := h i (by simpa using hi)
  rw [ho] at this
  simp only [Bool.and_eq_true, List.all_eq_true] at this
  have := this.1 e he
  rw [hb] at this
  simp [Nat.blt] at this
  omega

theorem drawOk_pair {ops : List Oper} (h : drawOk ops = true) {i k : Nat} {o o' : Oper} (ho : ops[i]? = some o) (ho' : ops[k]? = some o') (hk : k < i) (hp : ¬ Path ops k i) : PairOk ops o' o := by
  have hi : i < ops.length := (List.getElem?_eq_some_iff.1 ho).1
  simp only [drawOk, List.all_eq_true] at h
  have := h i (by simpa using hi)
  rw [ho] at this
  simp only [Bool.and_eq_true, List.all_eq_true] at this
  have := this.2 k (by simpa using hk)
  rw [Bool.or_eq_true] at this
  rcases this with h1 | h1
  · exact absurd (befG_sound ops [] [] (by simp) rfl (fun j h hb => by simp at hb) i k h1) hp
  · rw [ho'] at h1
    simp only [Bool.and_eq_true] at h1
    exact ⟨apartB_sound h1.2, h1.1⟩

section
variable {P : Program} {Γ : Ctx}

theorem wp_exists {o : Oper} {a : Act} {w : World} {next : Act → World → Prop} {Q : Exit → Act → World → Prop} (h : o.wp P a w next Q) : (∃ a' w', next a' w') ∨ ∃ e a' w', Q e a' w' := by
  unfold Oper.wp at h
  generalize (execOp a.eval o).run P w = r at h
  cases r with
  | ok n w' =>
    cases n <;> simp only [Oper.upon] at h <;> first | exact .inl ⟨_, _, h⟩ | exact h.elim | skip
    · obtain ⟨e, w2, fr, hR, _⟩ := h []
      cases e with
      | returned v => exact .inl ⟨_, _, hR⟩
      | panicked ch => exact .inr ⟨_, _, _, hR⟩
      | outgrown => obtain ⟨a0, w0, hq⟩ := hR; exact .inr ⟨_, _, _, hq⟩
    · obtain ⟨v, w2, hR, _⟩ := h default []
      exact .inl ⟨_, _, hR⟩
  | halt x w' =>
    cases x <;> simp only [Oper.upon] at h <;> first | exact h.elim | exact .inr ⟨_, _, _, h⟩

theorem wpList_exists {ops : Array Oper} {Q : Exit → Act → World → Prop} : ∀ (l : List Oper) (a : Act) (w : World), wpList P ops Q l a w → ∃ e a' w', Q e a' w'
  | [], a, w, h => ⟨_, _, _, h⟩
  | o :: l, a, w, h => by
    unfold wpList at h
    split at h
    · rcases h with h | ⟨_, a0, w0, h⟩
      · rcases wp_exists h with ⟨a', w', h1⟩ | h1
        · exact wpList_exists l a' w' h1
        · exact h1
      · exact ⟨_, _, _, h⟩
    · exact wpList_exists l _ _ h

def remain (ops : Array Oper) (listed : Array Bool) : List Nat := (List.range ops.size).filter fun i => !listed.getD i true

def DownC (ops : Array Oper) (listed : Array Bool) : Prop := ∀ j o, ops.toList[j]? = some o → listed.getD j false = true → ∀ e, e ∈ o.after.toList → Region.binds .any e = true → listed.getD e.on false = true

theorem path_listed {ops : Array Oper} {listed : Array Bool} (hd : DownC ops listed) {h j : Nat} (hp : Path ops.toList h j) : (∀ o, ops.toList[j]? = some o → ∀ e, e ∈ o.after.toList → Region.binds .any e = true → listed.getD e.on false = true) → listed.getD h false = true := by
  induction hp with
  | step ho he hb => intro hj; exact hj _ ho _ he hb
  | more ho he hb hp ih =>
    intro hj
    have := hj _ ho _ he hb
    exact ih fun o' ho' e' he' hb' => hd _ _ ho' this e' he' hb'

theorem draw_any {w0 : Base} (hC : SoundC P (Cs Γ)) {opa : Array Oper} {G : List Nat} (hok : drawOk opa.toList = true) {Q : Exit → Act → World → Prop} {K : St} : ∀ (fuel : Nat) (listed : Array Bool) (a : Act) (c : Cfg) (sl : List V), listed.size = opa.size → DownC opa listed →
    (remain opa listed).length ≤ fuel → Rel w0 c → SlR c sl a.tmps → GdIn G sl → GdS opa.toList sl → aops P (Cs Γ) G opa.toList ((remain opa listed).filterMap (opa[·]?)) sl c.st K →
    (∀ sl' c' a', Rel w0 c' → Ext c c' → SlR c' sl' a'.tmps → GdIn G sl' → a'.defers = a.defers → K sl' c'.st → Q .normal a' c'.w) → wpAny P .any opa Q fuel listed a c.w := by
  intro fuel
  induction fuel with
  | zero =>
    intro listed a c sl hsz hd hlen hr hs hg hgs h hK
    have h0 : remain opa listed = [] := List.length_eq_zero_iff.1 (by omega)
    rw [h0] at h
    refine ⟨?_, hK sl c a hr (Ext.refl c) hs hg rfl h⟩
    rw [List.eq_nil_iff_forall_not_mem]
    intro i hi
    have : i ∈ remain opa listed := by
      unfold Region.ready at hi
      unfold remain
      rw [List.mem_filter] at hi ⊢
      simp only [Bool.and_eq_true] at hi
      exact ⟨hi.1, hi.2.1⟩
    rw [h0] at this
    simp at this
  | succ fuel ih =>
    intro listed a c sl hsz hd hlen hr hs hg hgs h hK
    refine ⟨fun hready => ?_, fun i hi => ?_⟩
    · -- nothing is ready: nothing remains
      have h0 : remain opa listed = [] := by
        rw [List.eq_nil_iff_forall_not_mem]
        intro i
        induction i using Nat.strongRecOn with
        | _ i ihi =>
          intro hi
          unfold remain at hi
          rw [List.mem_filter] at hi
          have hisz : i < opa.size := by simpa using hi.1
          have : i ∈ Region.ready .any opa listed := by
            unfold Region.ready
            rw [List.mem_filter]
            refine ⟨hi.1, ?_⟩
            simp only [Bool.and_eq_true]
            refine ⟨hi.2, ?_⟩
            rw [Array.getElem?_eq_getElem hisz]
            simp only [Option.map_some, Option.getD_some, Array.all_eq_true']
            intro e he
            rw [Bool.or_eq_true]
            by_cases hb : Region.binds .any e = true
            · right
              have ho : opa.toList[i]? = some opa[i] := by simp [hisz]
              have hlt := drawOk_edge hok ho (by simpa using he) hb
              have hn := ihi e.on hlt
              unfold remain at hn
              rw [List.mem_filter] at hn
              have hesz : e.on < listed.size := by omega
              have : listed.getD e.on true = true := by
                cases hq : listed.getD e.on true with
                | true => rfl
                | false => exact absurd ⟨by simp; omega, by rw [hq]; rfl⟩ hn
              simpa [Array.getD_eq_getD_getElem?, hesz] using this
            · left
              simpa using hb
          rw [hready] at this
          simp at this
      rw [h0] at h
      exact hK sl c a hr (Ext.refl c) hs hg rfl h
    · unfold Region.ready at hi
      rw [List.mem_filter] at hi
      simp only [Bool.and_eq_true] at hi
      obtain ⟨hir, hil, hia⟩ := hi
      have hisz : i < opa.size := by simpa using hir
      have ho : opa.toList[i]? = some opa[i] := by simp [hisz]
      have hai : ∀ e, e ∈ opa[i].after.toList → Region.binds .any e = true → listed.getD e.on false = true := by
        intro e he hb
        rw [Array.getElem?_eq_getElem hisz] at hia
        simp only [Option.map_some, Option.getD_some, Array.all_eq_true'] at hia
        have := hia e (by simpa using he)
        rw [hb] at this
        simpa using this
      have hm : i ∈ remain opa listed := by unfold remain; rw [List.mem_filter]; exact ⟨hir, hil⟩
      obtain ⟨s, t, hst⟩ := List.append_of_mem hm
      have hpw : (remain opa listed).Pairwise (· < ·) := List.Pairwise.filter _ List.pairwise_lt_range
      rw [hst] at hpw
      obtain ⟨_, hpt, hps⟩ := List.pairwise_append.1 hpw
      have hslt : ∀ x, x ∈ s → x < i := fun x hx => hps x hx i (by simp)
      have htlt : ∀ x, x ∈ t → i < x := fun x hx => (List.pairwise_cons.1 hpt).1 x hx
      have hfm : (remain opa listed).filterMap (opa[·]?) = s.filterMap (opa[·]?) ++ opa[i] :: t.filterMap (opa[·]?) := by
        rw [hst, List.filterMap_append, List.filterMap_cons, Array.getElem?_eq_getElem hisz]
      rw [hfm] at h
      have himem : opa[i] ∈ opa.toList := by simp
      have hpairs : ∀ x, x ∈ s.filterMap (opa[·]?) → x ∈ opa.toList ∧ PairOk opa.toList x opa[i] := by
        intro x hx
        obtain ⟨k, hk, hkx⟩ := List.mem_filterMap.1 hx
        have hko : opa.toList[k]? = some x := by simpa using hkx
        refine ⟨List.mem_of_getElem? hko, drawOk_pair hok ho hko (hslt k hk) fun hp => ?_⟩
        have hkl := path_listed hd hp fun o ho' e he hb => by
          rw [ho] at ho'; cases ho'
          exact hai e he hb
        have hkr : k ∈ remain opa listed := by rw [hst]; simp [hk]
        unfold remain at hkr
        rw [List.mem_filter] at hkr
        have hksz : k < listed.size := by have := hkr.1; simp at this; omega
        have h2 := hkr.2
        simp [Array.getD_eq_getD_getElem?, hksz] at hkl h2
        rw [hkl] at h2
        cases h2
      have howes : detK opa[i].op = true → Owes P Γ G opa.toList opa[i] sl c.st := by
        intro hdi
        have hb := owes_behind hdi _ _ sl c.st K hpairs hgs h
        have hw := aops_sound hC (Q := fun e _ _ => e = .normal ∧ Owes P Γ G opa.toList opa[i] sl c.st) _ c sl a _ hr hs hg hb fun _ _ _ _ _ _ _ _ ho => ⟨rfl, ho⟩
        obtain ⟨e, a', w', hq⟩ := wpList_exists _ _ _ hw
        exact hq.2
      have hfr := front himem _ _ sl c.st K hpairs hgs howes h
      rw [aops_cons] at hfr
      have hR : R P (Cs Γ) G opa.toList opa[i] sl c.st fun v st' => GdS opa.toList (putS G opa[i].dst v sl) ∧ aops P (Cs Γ) G opa.toList (s.filterMap (opa[·]?) ++ t.filterMap (opa[·]?)) (putS G opa[i].dst v sl) st' K :=
        R_mono (fun v st' g => ⟨gds_put himem hgs g.1, g.2⟩) (R_okv hfr)
      have hrem : remain opa (listed.setIfInBounds i true) = s ++ t := by
        have h1 : remain opa (listed.setIfInBounds i true) = (remain opa listed).filter fun j => !(j == i) := by
          unfold remain
          rw [List.filter_filter]
          apply List.filter_congr
          intro j hj
          have hjsz : j < listed.size := by simp at hj; omega
          by_cases hji : j = i
          · subst hji
            simp [Array.getD_eq_getD_getElem?, hjsz]
          · have : ¬ i = j := fun e => hji e.symm
            simp [Array.getD_eq_getD_getElem?, Array.getElem?_setIfInBounds, this, hji]
        rw [h1, hst, List.filter_append, List.filter_cons]
        simp only [beq_self_eq_true, Bool.not_true, Bool.false_eq_true, if_false]
        rw [List.filter_eq_self.2 (fun x hx => by have := hslt x hx; simp; omega), List.filter_eq_self.2 (fun x hx => by have := htlt x hx; simp; omega)]
      have hstep := astep_sound hC (Q := Q) (k := fun sl' st' => GdS opa.toList sl' ∧ aops P (Cs Γ) G opa.toList (s.filterMap (opa[·]?) ++ t.filterMap (opa[·]?)) sl' st' K) (next := wpAny P .any opa Q fuel (listed.setIfInBounds i true)) hr hs hg hR
        (fun sl' c' a' k1 k2 k3 k4 k5 k6 => by
          refine ih _ a' c' sl' (by simp [hsz]) ?_ ?_ k1 k3 k4 k6.1 ?_ fun sl'' c'' a'' m1 m2 m3 m4 m5 m6 => hK sl'' c'' a'' m1 (k2.trans m2) m3 m4 (m5.trans k5) m6
          · intro j o hoj hlj e he hb
            have hmono : ∀ x, listed.getD x false = true → (listed.setIfInBounds i true).getD x false = true := by
              intro x hx
              by_cases hxi : i = x
              · subst hxi
                have : i < listed.size := by omega
                simp [Array.getD_eq_getD_getElem?, this]
              · simp only [Array.getD_eq_getD_getElem?, Array.getElem?_setIfInBounds, if_neg hxi] at hx ⊢
                exact hx
            by_cases hji : i = j
            · subst hji
              rw [ho] at hoj; cases hoj
              exact hmono _ (hai e he hb)
            · simp only [Array.getD_eq_getD_getElem?, Array.getElem?_setIfInBounds, if_neg hji] at hlj
              exact hmono _ (hd j o hoj (by simpa [Array.getD_eq_getD_getElem?] using hlj) e he hb)
          · rw [hrem]
            have : (remain opa listed).length = s.length + (t.length + 1) := by rw [hst]; simp
            simp; omega
          · rw [hrem, List.filterMap_append]
            exact k6.2)
      unfold wpOp
      rw [Array.getElem?_eq_getElem hisz]
      simp only
      split
      · next hw => rw [if_pos hw] at hstep; exact .inl hstep
      · next hw => rw [if_neg hw] at hstep; exact hstep

/-- A region whose order is open. -/
def drawD (P : Program) (Γ : Ctx) (ops : List Oper) (sl : List V) (st : List Ob) (K : St) : Prop :=
  if ((P.follows .mixedOrders || !Region.departs ops.toArray) && drawOk ops) = true then aopsD P (Cs0 Γ) (guards ops ops) ops ops [] sl st (fun sl' st' => K (clr (guards ops ops) sl') st') else False

theorem drawD_sound (hG : SoundG P Γ) : SoundD P (drawD P Γ) := by
  intro w0 id ops c sl a K Q hr hs hg h hK
  unfold drawD at h
  split at h
  · next hok =>
    simp only [Bool.and_eq_true, Array.toArray_toList] at hok
    refine wp_region_draw fun t => ?_
    have hsch : Region.schedule (P.follows .mixedOrders) ops t = Region.linearise .any ops t := by
      unfold Region.schedule
      rw [if_pos hok.1]
    rw [hsch]
    obtain ⟨hr1, hx1⟩ := drew_rel hr
    have hrem : remain ops (Array.replicate ops.size false) = List.range ops.size := by
      unfold remain
      apply List.filter_eq_self.2
      intro i hi
      have : i < ops.size := by simpa using hi
      simp [Array.getD_eq_getD_getElem?, this]
    have hall : (List.range ops.size).filterMap (ops[·]?) = ops.toList := by
      have key : ∀ n, n ≤ ops.toList.length → (List.range n).filterMap (fun i => ops[i]?) = ops.toList.take n := by
        intro n
        induction n with
        | zero => intro _; simp
        | succ n ih =>
          intro hn
          rw [List.range_succ, List.filterMap_append, ih (by omega), List.take_add_one]
          congr 1
          have hn' : n < ops.size := by simp at hn; omega
          simp [hn']
      have := key ops.size (by simp)
      rw [this]
      exact List.take_of_length_le (by simp)
    refine wpAny_sound ops.size t _ a _ ?_
    refine draw_any (w0 := w0) (Γ := Γ) (Cs_sound hG) hok.2 (G := guards ops.toList ops.toList) (K := fun sl' st' => K (clr (guards ops.toList ops.toList) sl') st') ops.size _ a { c with w := c.w.drew } sl (by simp) ?_ (by rw [hrem]; simp) hr1 (SlR.ext hx1 hs) hg.mono ?_ ?_ ?_
    · intro j o _ hl
      rw [Array.getD_eq_getD_getElem?, Array.getElem?_replicate] at hl
      split at hl <;> cases hl
    · intro t' g w v e
      exact absurd (hg t' g w v e) (by simp)
    · rw [hrem, hall]
      exact aopsD_aops _ [] _ _ _ hg.mono (fun p hp => by simp at hp) h
    · intro sl' c' a' h1 h2 h3 h4 h5 h6
      obtain ⟨g1, g2⟩ := clr_rel h3 h4
      exact hK _ c' a' h1 (hx1.trans h2) g1 g2 h5 h6
  · exact h.elim

end

end Eng
end Go.Proofs.Ytmfdikjeijnlmaa
