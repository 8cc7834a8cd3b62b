/-
  Regions whose order is open: the check by reckoning, and the soundness over every order that the model may draw. Conditions: none.
-/
import Derived.Test.YtkpplfghhciacaaDoorEngS
import Derived.Test.YtkpplfghhciacaaDoorEngR
set_option linter.unusedVariables false
set_option linter.unusedSimpArgs false
namespace Go.Proofs.YtkpplfghhciacaaDoor
namespace Eng
open Go.RowKit

/-- h is ahead of j by the edges. -/
inductive Path (ops : List Oper) : Nat → Nat → Prop
  | step {o : Oper} {j : Nat} {e : Edge} (ho : ops[j]? = some o) (he : e ∈ o.after.toList) (hb : Region.binds .any e = true) : Path ops e.on j
  | more {o : Oper} {h j : Nat} {e : Edge} (ho : ops[j]? = some o) (he : e ∈ o.after.toList) (hb : Region.binds .any e = true) (hp : Path ops h e.on) : Path ops h j

def befF (acc : List Nat) (o : Oper) : Nat := o.after.toList.foldl (fun s e => if Region.binds .any e = true then (s ||| 2 ^ e.on) ||| acc.getD e.on 0 else s) 0

def befG : List Oper → List Nat → List Nat
  | [], acc => acc
  | o :: r, acc => befG r (acc ++ [befF acc o])

theorem befF_sound {acc : List Nat} {h : Nat} : ∀ (l : List Edge) (s : Nat), (l.foldl (fun s e => if Region.binds .any e = true then (s ||| 2 ^ e.on) ||| acc.getD e.on 0 else s) s).testBit h = true →
    s.testBit h = true ∨ ∃ e, e ∈ l ∧ Region.binds .any e = true ∧ (h = e.on ∨ (acc.getD e.on 0).testBit h = true)
  | [], s, hb => .inl hb
  | e :: l, s, hb => by
    rw [List.foldl_cons] at hb
    rcases befF_sound l _ hb with h1 | ⟨e', h1, h2, h3⟩
    · split at h1
      · next hbe =>
        rw [Nat.testBit_or, Nat.testBit_or, Bool.or_eq_true, Bool.or_eq_true] at h1
        rcases h1 with (h1 | h1) | h1
        · exact .inl h1
        · rw [Nat.testBit_two_pow] at h1
          exact .inr ⟨e, by simp, hbe, .inl (by simpa using (of_decide_eq_true h1).symm)⟩
        · exact .inr ⟨e, by simp, hbe, .inr h1⟩
      · exact .inl h1
    · exact .inr ⟨e', by simp [h1], h2, h3⟩

theorem befG_sound {ops : List Oper} : ∀ (r : List Oper) (d : List Oper) (acc : List Nat), ops = d ++ r → acc.length = d.length → (∀ j h, (acc.getD j 0).testBit h = true → Path ops h j) →
    ∀ j h, ((befG r acc).getD j 0).testBit h = true → Path ops h j
  | [], d, acc, _, _, hi => hi
  | o :: r, d, acc, he, hl, hi => by
    refine befG_sound r (d ++ [o]) (acc ++ [befF acc o]) (by simp [he]) (by simp [hl]) fun j h hb => ?_
    rcases Nat.lt_trichotomy j acc.length with g | g | g
    · rw [List.getD_eq_getElem?_getD, List.getElem?_append_left g, ← List.getD_eq_getElem?_getD] at hb
      exact hi j h hb
    · subst g
      rw [List.getD_eq_getElem?_getD, List.getElem?_append_right (Nat.le_refl _)] at hb
      simp only [Nat.sub_self, List.getElem?_cons_zero, Option.getD_some] at hb
      have ho : ops[acc.length]? = some o := by rw [he, hl, List.getElem?_append_right (Nat.le_refl _)]; simp
      rcases befF_sound _ _ hb with h1 | ⟨e, h1, h2, h3⟩
      · simp at h1
      · rcases h3 with rfl | h3
        · exact .step ho h1 h2
        · exact .more ho h1 h2 (hi _ _ h3)
    · rw [List.getD_eq_getElem?_getD, List.getElem?_eq_none (by simp; omega)] at hb
      simp at hb

def apartB (ops : List Oper) (o1 o2 : Oper) : Bool :=
  (match o1.dst with | some d => !(LK ops 9 o2).contains d | none => true) &&
  (match o2.dst with | some d => !(LK ops 9 o1).contains d | none => true) &&
  (match o1.dst, o2.dst with | some d, some d' => !(Nat.beq d d') | _, _ => true)

theorem apartB_sound {ops : List Oper} {o1 o2 : Oper} (h : apartB ops o1 o2 = true) : Apart ops o1 o2 := by
  simp only [apartB, Bool.and_eq_true] at h
  obtain ⟨⟨h1, h2⟩, h3⟩ := h
  refine ⟨fun d hd => ?_, fun d hd => ?_, fun d hd hd2 => ?_⟩
  · rw [hd] at h1; simpa using h1
  · rw [hd] at h2; simpa using h2
  · rw [hd, hd2] at h3
    simp at h3

/-- These two may change places. -/
def commB (P : Program) (Γ : Ctx) (ops : List Oper) (h i : Nat) : Bool := match ops[h]?, ops[i]? with
  | some o', some o => kindOk2 P Γ o' o && apartB ops o' o
  | _, _ => false

/-- The operations whose order among each other matters and is open. -/
def confl0 (P : Program) (Γ : Ctx) (ops : List Oper) : List Nat :=
  (List.range ops.length).filter fun i => (List.range ops.length).any fun h =>
    !(Nat.beq h i) && !(bif Nat.blt h i then Nat.testBit ((befG ops []).getD i 0) h || commB P Γ ops h i else Nat.testBit ((befG ops []).getD h 0) i || commB P Γ ops i h)

/-- These, and what adds an object ahead of them. -/
def confl (P : Program) (Γ : Ctx) (ops : List Oper) : List Nat :=
  (List.range ops.length).filter fun i => (confl0 P Γ ops).contains i || ((match ops[i]? with
    | some o => growP P o.op
    | none => false) && (confl0 P Γ ops).any fun k => Nat.testBit ((befG ops []).getD k 0) i)

/-- Who may come next of them. -/
def elig (ops : List Oper) (K p : List Nat) : List Nat :=
  K.filter fun j => !(p.contains j) && K.all fun k => p.contains k || !(Nat.testBit ((befG ops []).getD j 0) k)

def leaves (ops : List Oper) (K : List Nat) : Nat → List Nat → List (List Nat)
  | 0, p => [p]
  | n + 1, p => (elig ops K p).flatMap fun j => leaves ops K n (p ++ [j])

def readyB (ops : List Oper) (rem : List Nat) (i : Nat) : Bool := match ops[i]? with
  | some o => o.after.toList.all fun e => !Region.binds .any e || !(rem.contains e.on)
  | none => false

/-- An order of all in which these come in this order. -/
def ordGo (ops : List Oper) (K : List Nat) : Nat → List Nat → List Nat → List Nat
  | 0, _, _ => []
  | n + 1, rem, q => match rem.find? fun i => readyB ops rem i && (!(K.contains i) || (match q with | j :: _ => Nat.beq i j | [] => false)) with
    | some i => i :: ordGo ops K n (rem.filter fun j => !(Nat.beq j i)) (bif K.contains i then q.tail else q)
    | none => []

def ordOf (ops : List Oper) (K p : List Nat) : List Nat := ordGo ops K ops.length (List.range ops.length) p

/-- What stands ahead of another is ahead of it by the edges, or may change places with it, or both are of those whose order is given. -/
def ordOk (P : Program) (Γ : Ctx) (ops : List Oper) (K q : List Nat) : List Nat → Bool
  | [] => true
  | h :: r => (r.all fun i => !(Nat.beq h i) && (Nat.testBit ((befG ops []).getD i 0) h || (commB P Γ ops h i || ((K.contains h && K.contains i) || K.any fun j => q.contains j && Nat.testBit ((befG ops []).getD j 0) h)))) && ordOk P Γ ops K q r

def eqL : List Nat → List Nat → Bool
  | [], [] => true
  | a :: r, b :: s => Nat.beq a b && eqL r s
  | _, _ => false

theorem eqL_eq : ∀ {a b : List Nat}, eqL a b = true → a = b
  | [], [], _ => rfl
  | a :: r, b :: s, h => by
    simp only [eqL, Bool.and_eq_true] at h
    rw [Nat.eq_of_beq_eq_true h.1, eqL_eq h.2]
  | [], _ :: _, h | _ :: _, [], h => by simp [eqL] at h

/-- All that is asked of an order. -/
def orderOk (P : Program) (Γ : Ctx) (ops : List Oper) (K p l : List Nat) : Bool :=
  ordOk P Γ ops K p l && (Nat.beq l.length ops.length && ((List.range ops.length).all fun i => l.contains i) && eqL (l.filter fun i => K.contains i) p)

/-- Edges lead back in the text. -/
def edgesOk (ops : List Oper) : Bool :=
  (List.range ops.length).all fun i => (match ops[i]? with
    | some o => o.after.toList.all (fun e => !Region.binds .any e || Nat.blt e.on i)
    | none => false)

theorem edgesOk_edge {ops : List Oper} (h : edgesOk ops = true) {i : Nat} {o : Oper} (ho : ops[i]? = some o) {e : Edge} (he : e ∈ o.after.toList) (hb : Region.binds .any e = true) : e.on < i := by
  have hi : i < ops.length := (List.getElem?_eq_some_iff.1 ho).1
  simp only [edgesOk, List.all_eq_true] at h
  have := h i (by simpa using hi)
  rw [ho] at this
  simp only [List.all_eq_true] at this
  have := this e he
  rw [hb] at this
  simp [Nat.blt] at this
  omega

theorem bef_path {ops : List Oper} {i h : Nat} (hb : Nat.testBit ((befG ops []).getD i 0) h = true) : Path ops h i :=
  befG_sound ops [] [] (by simp) rfl (fun j h hb => by simp at hb) i h hb

theorem commB_pair {P : Program} {Γ : Ctx} {ops : List Oper} {h i : Nat} {o' o : Oper} (ho' : ops[h]? = some o') (ho : ops[i]? = some o) (hc : commB P Γ ops h i = true) : PairOk P Γ ops o' o := by
  unfold commB at hc
  rw [ho', ho] at hc
  simp only [Bool.and_eq_true] at hc
  exact ⟨apartB_sound hc.2, hc.1⟩

theorem ordOk_pair {P : Program} {Γ : Ctx} {ops : List Oper} {K q : List Nat} : ∀ {l s t : List Nat} {i : Nat}, ordOk P Γ ops K q l = true → l = s ++ i :: t → ∀ h, h ∈ s → h ≠ i ∧ (Path ops h i ∨ commB P Γ ops h i = true ∨ (K.contains h = true ∧ K.contains i = true) ∨ ∃ j, j ∈ K ∧ j ∈ q ∧ Path ops h j)
  | _, [], t, i, _, _, h, hh => by simp at hh
  | _, x :: s, t, i, ho, e, h, hh => by
    subst e
    simp only [List.cons_append, ordOk, Bool.and_eq_true, List.all_eq_true] at ho
    rcases List.mem_cons.1 hh with rfl | hh
    · have := ho.1 i (by simp)
      simp only [Bool.or_eq_true, Bool.and_eq_true] at this
      refine ⟨fun e => by subst e; simp at this, ?_⟩
      rcases this.2 with h1 | h1 | h1 | h1
      · exact .inl (bef_path h1)
      · exact .inr (.inl h1)
      · exact .inr (.inr (.inl h1))
      · simp only [List.any_eq_true, Bool.and_eq_true] at h1
        obtain ⟨j, hj, hjq, hjb⟩ := h1
        exact .inr (.inr (.inr ⟨j, hj, by simpa using hjq, bef_path hjb⟩))
    · exact ordOk_pair (s := s) ho.2 rfl h hh

section
variable {P : Program} {C : Caller} {Γ : Ctx}

theorem wp_exists {o : Oper} {a : Act} {w : World} {next : Act → World → Prop} {Q : Exit → Act → World → Prop} (h : o.wp P a w next Q) : (∃ a' w', next a' w') ∨ ∃ e a' w', Q e a' w' := by
  unfold Oper.wp at h
  generalize (execOp a.eval o).run P w = r at h
  cases r with
  | ok n w' =>
    cases n <;> simp only [Oper.upon] at h <;> first | exact .inl ⟨_, _, h⟩ | exact h.elim | skip
    · obtain ⟨e, w2, fr, hR, _⟩ := h []
      cases e with
      | returned v => exact .inl ⟨_, _, hR⟩
      | panicked ch => exact .inr ⟨_, _, _, hR⟩
      | outgrown => obtain ⟨a0, w0, hq⟩ := hR; exact .inr ⟨_, _, _, hq⟩
    · obtain ⟨v, w2, hR, _⟩ := h default []
      exact .inl ⟨_, _, hR⟩
  | halt x w' =>
    cases x <;> simp only [Oper.upon] at h <;> first | exact h.elim | exact .inr ⟨_, _, _, h⟩

theorem wpList_exists {ops : Array Oper} {Q : Exit → Act → World → Prop} : ∀ (l : List Oper) (a : Act) (w : World), wpList P ops Q l a w → ∃ e a' w', Q e a' w'
  | [], a, w, h => ⟨_, _, _, h⟩
  | o :: l, a, w, h => by
    unfold wpList at h
    split at h
    · rcases h with h | ⟨_, a0, w0, h⟩
      · rcases wp_exists h with ⟨a', w', h1⟩ | h1
        · exact wpList_exists l a' w' h1
        · exact h1
      · exact ⟨_, _, _, h⟩
    · exact wpList_exists l _ _ h

def remain (ops : Array Oper) (listed : Array Bool) : List Nat := (List.range ops.size).filter fun i => !listed.getD i true

def DownC (ops : Array Oper) (listed : Array Bool) : Prop := ∀ j o, ops.toList[j]? = some o → listed.getD j false = true → ∀ e, e ∈ o.after.toList → Region.binds .any e = true → listed.getD e.on false = true

theorem path_listed {ops : Array Oper} {listed : Array Bool} (hd : DownC ops listed) {h j : Nat} (hp : Path ops.toList h j) : (∀ o, ops.toList[j]? = some o → ∀ e, e ∈ o.after.toList → Region.binds .any e = true → listed.getD e.on false = true) → listed.getD h false = true := by
  induction hp with
  | step ho he hb => intro hj; exact hj _ ho _ he hb
  | more ho he hb hp ih =>
    intro hj
    have := hj _ ho _ he hb
    exact ih fun o' ho' e' he' hb' => hd _ _ ho' this e' he' hb'

theorem aops_append {G : List Nat} {ops : List Oper} {C : Caller} : ∀ (l1 l2 : List Oper) (sl : List V) (st : List Ob) (K : St), aops P C G ops (l1 ++ l2) sl st K = aops P C G ops l1 sl st fun sl st => aops P C G ops l2 sl st K
  | [], l2, sl, st, K => rfl
  | o :: l1, l2, sl, st, K => by
    rw [List.cons_append, aops_cons, aops_cons]
    congr 1
    funext v st'
    exact aops_append l1 l2 _ _ _

/-- The next operation, moved ahead of what stands before it. -/
theorem draw_step {w0 : Base} (hC : SoundC P (Cx P C Γ)) {opa : Array Oper} {G : List Nat} {Q : Exit → Act → World → Prop} {Kt : St} {i : Nat} (hisz : i < opa.size) {a : Act} {c : Cfg} {sl : List V} {l1 l2 : List Oper}
    (hr : Rel w0 c) (hs : SlR c sl a.tmps) (hg : GdIn G sl) (hgs : GdS opa.toList sl) (hpairs : ∀ x, x ∈ l1 → x ∈ opa.toList ∧ PairOk P Γ opa.toList x opa[i])
    (h : aops P (Cx P C Γ) G opa.toList (l1 ++ opa[i] :: l2) sl c.st Kt) {next : Act → World → Prop}
    (hn : ∀ sl' c' a', Rel w0 c' → Ext c c' → SlR c' sl' a'.tmps → GdIn G sl' → a'.defers = a.defers → GdS opa.toList sl' → aops P (Cx P C Γ) G opa.toList (l1 ++ l2) sl' c'.st Kt → next a' c'.w) :
    wpOp P opa Q i next a c.w := by
  have himem : opa[i] ∈ opa.toList := by simp
  have howes : detK opa[i].op = true → Owes P C Γ G opa.toList opa[i] sl c.st := by
    intro hdi
    have hb := owes_behind hdi _ _ sl c.st Kt hpairs hgs h
    have hw := aops_sound hC (Q := fun e _ _ => e = .normal ∧ Owes P C Γ G opa.toList opa[i] sl c.st) _ c sl a _ hr hs hg hb fun _ _ _ _ _ _ _ _ ho => ⟨rfl, ho⟩
    obtain ⟨e, a', w', hq⟩ := wpList_exists _ _ _ hw
    exact hq.2
  have hfr := front himem _ _ sl c.st Kt hpairs hgs howes h
  rw [aops_cons] at hfr
  have hR : R P (Cx P C Γ) G opa.toList opa[i] sl c.st fun v st' => GdS opa.toList (putS G opa[i].dst v sl) ∧ aops P (Cx P C Γ) G opa.toList (l1 ++ l2) (putS G opa[i].dst v sl) st' Kt :=
    R_mono (fun v st' g => ⟨gds_put himem hgs g.1, g.2⟩) (R_okv hfr)
  have hstep := astep_sound hC (Q := Q) (k := fun sl' st' => GdS opa.toList sl' ∧ aops P (Cx P C Γ) G opa.toList (l1 ++ l2) sl' st' Kt) (next := next) hr hs hg hR
    (fun sl' c' a' k1 k2 k3 k4 k5 k6 => hn sl' c' a' k1 k2 k3 k4 k5 k6.1 k6.2)
  unfold wpOp
  rw [Array.getElem?_eq_getElem hisz]
  simp only
  split
  · next hw => rw [if_pos hw] at hstep; exact .inl hstep
  · next hw => rw [if_neg hw] at hstep; exact hstep

/-- The operations that may come once these are done, and not before. -/
def blockOf (ops : List Oper) (K p : List Nat) : List Nat :=
  (List.range ops.length).filter fun i => !(K.contains i) && (K.all fun k => !(Nat.testBit ((befG ops []).getD i 0) k) || p.contains k) && (match p.getLast? with
    | some j => Nat.testBit ((befG ops []).getD i 0) j
    | none => true)

/-- What is asked where these are done. -/
def nodeOk (P : Program) (Γ : Ctx) (ops : List Oper) (K p F : List Nat) : Bool :=
  ordOk P Γ ops K p F && (eqL (F.filter fun i => K.contains i) p && ((List.range ops.length).all fun i => K.contains i || (F.contains i || K.any fun k => Nat.testBit ((befG ops []).getD i 0) k && !(p.contains k))))

/-- All that may come. -/
def tailX (P : Program) (C : Caller) (Γ : Ctx) (G : List Nat) (ops : List Oper) (K : List Nat) : Nat → List Nat → List Nat → St → St
  | 0, _, _, Kc, sl, st => Kc sl st
  | n + 1, p, F, Kc, sl, st => ∀ j, j ∈ elig ops K p → nodeOk P Γ ops K (p ++ [j]) (F ++ j :: blockOf ops K (p ++ [j])) = true ∧ ∃ o, ops[j]? = some o ∧
      aops P C G ops (o :: (blockOf ops K (p ++ [j])).filterMap (ops[·]?)) sl st fun sl st => tailX P C Γ G ops K n (p ++ [j]) (F ++ j :: blockOf ops K (p ++ [j])) Kc sl st

def remL (l : List Nat) (listed : Array Bool) : List Nat := l.filter fun i => !listed.getD i true

theorem ordOk_nodup {ops : List Oper} {K q : List Nat} : ∀ {l : List Nat}, ordOk P Γ ops K q l = true → l.Nodup
  | [], _ => List.nodup_nil
  | x :: l, h => by
    simp only [ordOk, Bool.and_eq_true, List.all_eq_true] at h
    refine List.nodup_cons.2 ⟨fun hx => ?_, ordOk_nodup h.2⟩
    have := (h.1 x hx).1
    simp at this

theorem getD_tf {listed : Array Bool} {i : Nat} (hi : i < listed.size) : listed.getD i true = listed.getD i false := by
  simp [Array.getD_eq_getD_getElem?, hi]

theorem getD_set' {listed : Array Bool} {i j : Nat} (d : Bool) : (listed.setIfInBounds i true).getD j d = if i = j ∧ i < listed.size then true else listed.getD j d := by
  simp only [Array.getD_eq_getD_getElem?, Array.getElem?_setIfInBounds]
  by_cases hij : i = j
  · subst hij
    by_cases hl : i < listed.size
    · simp [hl]
    · simp [hl]
  · simp [hij]

theorem remL_set {l : List Nat} {listed : Array Bool} {i : Nat} (hi : i ∉ l) : remL l (listed.setIfInBounds i true) = remL l listed := by
  unfold remL
  apply List.filter_congr
  intro j hj
  rw [getD_set', if_neg (fun e => hi (by rw [e.1]; exact hj))]

theorem draw_tree {w0 : Base} (hC : SoundC P (Cx P C Γ)) {opa : Array Oper} {G : List Nat} {K : List Nat} (hKn : K.Nodup) (hKs : ∀ k, k ∈ K → k < opa.size) (hedge : edgesOk opa.toList = true) {Q : Exit → Act → World → Prop} {Kc : St} :
    ∀ (fuel : Nat) (listed : Array Bool) (a : Act) (c : Cfg) (sl : List V) (p F : List Nat) (n : Nat), listed.size = opa.size → DownC opa listed → (remain opa listed).length ≤ fuel →
    (∀ k, k ∈ K → (k ∈ p ↔ listed.getD k false = true)) → (K.filter fun k => !(p.contains k)).length = n → nodeOk P Γ opa.toList K p F = true →
    Rel w0 c → SlR c sl a.tmps → GdIn G sl → GdS opa.toList sl → aops P (Cx P C Γ) G opa.toList ((remL F listed).filterMap (opa.toList[·]?)) sl c.st (tailX P (Cx P C Γ) Γ G opa.toList K n p F Kc) →
    (∀ sl' c' a', Rel w0 c' → Ext c c' → SlR c' sl' a'.tmps → GdIn G sl' → a'.defers = a.defers → Kc sl' c'.st → Q .normal a' c'.w) → wpAny P .any opa Q fuel listed a c.w := by
  intro fuel
  -- at the end
  have fin : ∀ (listed : Array Bool) (a : Act) (c : Cfg) (sl : List V) (p F : List Nat) (n : Nat), listed.size = opa.size → remain opa listed = [] →
      (∀ k, k ∈ K → (k ∈ p ↔ listed.getD k false = true)) → (K.filter fun k => !(p.contains k)).length = n → Rel w0 c → SlR c sl a.tmps → GdIn G sl →
      aops P (Cx P C Γ) G opa.toList ((remL F listed).filterMap (opa.toList[·]?)) sl c.st (tailX P (Cx P C Γ) Γ G opa.toList K n p F Kc) →
      (∀ sl' c' a', Rel w0 c' → Ext c c' → SlR c' sl' a'.tmps → GdIn G sl' → a'.defers = a.defers → Kc sl' c'.st → Q .normal a' c'.w) → Q .normal a c.w := by
    intro listed a c sl p F n hsz h0 hkp hn hr hs hg h hK
    have hall : ∀ i, i < opa.size → listed.getD i false = true := by
      intro i hi
      cases hq : listed.getD i false with
      | true => rfl
      | false =>
        have : i ∈ remain opa listed := by
          unfold remain
          rw [List.mem_filter]
          exact ⟨by simpa using hi, by rw [getD_tf (by omega), hq]; rfl⟩
        rw [h0] at this; simp at this
    have hrl : remL F listed = [] := by
      unfold remL
      rw [List.filter_eq_nil_iff]
      intro i _
      rcases Nat.lt_or_ge i opa.size with g | g
      · rw [getD_tf (by omega), hall i g]; simp
      · simp [Array.getD_eq_getD_getElem?, show ¬ i < listed.size by omega]
    have hn0 : n = 0 := by
      rw [← hn]
      apply List.length_eq_zero_iff.2
      rw [List.filter_eq_nil_iff]
      intro k hk
      have := (hkp k hk).2 (hall k (hKs k hk))
      simpa using this
    subst hn0
    rw [hrl] at h
    exact hK sl c a hr (Ext.refl c) hs hg rfl h
  induction fuel with
  | zero =>
    intro listed a c sl p F n hsz hd hlen hkp hn hnode hr hs hg hgs h hK
    have h0 : remain opa listed = [] := List.length_eq_zero_iff.1 (by omega)
    refine ⟨?_, fin listed a c sl p F n hsz h0 hkp hn hr hs hg h hK⟩
    rw [List.eq_nil_iff_forall_not_mem]
    intro i hi
    have : i ∈ remain opa listed := by
      unfold Region.ready at hi
      unfold remain
      rw [List.mem_filter] at hi ⊢
      simp only [Bool.and_eq_true] at hi
      exact ⟨hi.1, hi.2.1⟩
    rw [h0] at this
    simp at this
  | succ fuel ih =>
    intro listed a c sl p F n hsz hd hlen hkp hn hnode hr hs hg hgs h hK
    refine ⟨fun hready => ?_, fun i hi => ?_⟩
    · -- nothing is ready: nothing remains
      have h0 : remain opa listed = [] := by
        rw [List.eq_nil_iff_forall_not_mem]
        intro i
        induction i using Nat.strongRecOn with
        | _ i ihi =>
          intro hi
          unfold remain at hi
          rw [List.mem_filter] at hi
          have hisz : i < opa.size := by simpa using hi.1
          have : i ∈ Region.ready .any opa listed := by
            unfold Region.ready
            rw [List.mem_filter]
            refine ⟨hi.1, ?_⟩
            simp only [Bool.and_eq_true]
            refine ⟨hi.2, ?_⟩
            rw [Array.getElem?_eq_getElem hisz]
            simp only [Option.map_some, Option.getD_some, Array.all_eq_true']
            intro e he
            rw [Bool.or_eq_true]
            by_cases hb : Region.binds .any e = true
            · right
              have ho : opa.toList[i]? = some opa[i] := by simp [hisz]
              have hlt := edgesOk_edge hedge ho (by simpa using he) hb
              have hn := ihi e.on hlt
              unfold remain at hn
              rw [List.mem_filter] at hn
              have hesz : e.on < listed.size := by omega
              have : listed.getD e.on true = true := by
                cases hq : listed.getD e.on true with
                | true => rfl
                | false => exact absurd ⟨by simp; omega, by rw [hq]; rfl⟩ hn
              simpa [Array.getD_eq_getD_getElem?, hesz] using this
            · left
              simpa using hb
          rw [hready] at this
          simp at this
      exact fin listed a c sl p F n hsz h0 hkp hn hr hs hg h hK
    · unfold Region.ready at hi
      rw [List.mem_filter] at hi
      simp only [Bool.and_eq_true] at hi
      obtain ⟨hir, hil, hia⟩ := hi
      have hisz : i < opa.size := by simpa using hir
      have hilf : listed.getD i false = false := by
        rw [← getD_tf (by omega)]
        simpa using hil
      have ho : opa.toList[i]? = some opa[i] := by simp [hisz]
      have hai : ∀ e, e ∈ opa[i].after.toList → Region.binds .any e = true → listed.getD e.on false = true := by
        intro e he hb
        rw [Array.getElem?_eq_getElem hisz] at hia
        simp only [Option.map_some, Option.getD_some, Array.all_eq_true'] at hia
        have := hia e (by simpa using he)
        rw [hb] at this
        simpa using this
      have hpl : ∀ h, Path opa.toList h i → listed.getD h false = true := fun h hp => path_listed hd hp fun o ho' e he hb => by
        rw [ho] at ho'; cases ho'
        exact hai e he hb
      have hm : i ∈ remain opa listed := by unfold remain; rw [List.mem_filter]; exact ⟨hir, hil⟩
      have hdown : DownC opa (listed.setIfInBounds i true) := by
        intro j o hoj hlj e he hb
        have hmono : ∀ x, listed.getD x false = true → (listed.setIfInBounds i true).getD x false = true := by
          intro x hx
          rw [getD_set']
          split
          · rfl
          · exact hx
        by_cases hji : i = j
        · subst hji
          rw [ho] at hoj; cases hoj
          exact hmono _ (hai e he hb)
        · rw [getD_set', if_neg (fun e => hji e.1)] at hlj
          exact hmono _ (hd j o hoj hlj e he hb)
      have hrem : (remain opa (listed.setIfInBounds i true)).length ≤ fuel := by
        obtain ⟨s, t, hst⟩ := List.append_of_mem hm
        have hpw : (remain opa listed).Pairwise (· < ·) := List.Pairwise.filter _ List.pairwise_lt_range
        have hnd : (remain opa listed).Nodup := hpw.imp fun h => Nat.ne_of_lt h
        have h1 : remain opa (listed.setIfInBounds i true) = (remain opa listed).filter fun j => !(j == i) := by
          unfold remain
          rw [List.filter_filter]
          apply List.filter_congr
          intro j hj
          have hjsz : j < listed.size := by simp at hj; omega
          by_cases hji : j = i
          · subst hji
            simp [Array.getD_eq_getD_getElem?, hjsz]
          · have : ¬ i = j := fun e => hji e.symm
            simp [Array.getD_eq_getD_getElem?, Array.getElem?_setIfInBounds, this, hji]
        rw [h1]
        have h2 : ((remain opa listed).filter fun j => !(j == i)).length < (remain opa listed).length := by
          apply List.length_filter_lt_length_iff_exists.2
          exact ⟨i, hm, by simp⟩
        omega
      have hnode' := hnode
      simp only [nodeOk, Bool.and_eq_true, List.all_eq_true] at hnode'
      obtain ⟨hord, hKF, hcomp⟩ := hnode'
      have hKF := eqL_eq hKF
      have hFn := ordOk_nodup hord
      have unl : ∀ x, (!listed.getD x true) = true → ¬ listed.getD x false = true := by
        intro x hx hx2
        rcases Nat.lt_or_ge x listed.size with g | g
        · rw [getD_tf g, hx2] at hx; cases hx
        · simp [Array.getD_eq_getD_getElem?, show ¬ x < listed.size by omega] at hx2
      have some_of : ∀ {x : Nat}, commB P Γ opa.toList x i = true → ∃ o, opa.toList[x]? = some o := by
        intro x hx
        unfold commB at hx
        split at hx
        · next o' o h1 h2 => exact ⟨_, h1⟩
        · cases hx
      by_cases hiK : i ∈ K
      · -- one of those whose order matters
        have hip : i ∉ p := fun hh => by rw [(hkp i hiK).1 hh] at hilf; cases hilf
        have hiF : i ∉ F := fun hh => hip (by rw [← hKF]; exact List.mem_filter.2 ⟨hh, by simpa using hiK⟩)
        have hel : i ∈ elig opa.toList K p := by
          unfold elig
          rw [List.mem_filter]
          refine ⟨hiK, ?_⟩
          simp only [Bool.and_eq_true, List.all_eq_true, Bool.not_eq_true']
          refine ⟨by simpa using hip, fun k hk => ?_⟩
          rw [Bool.or_eq_true]
          cases hb : Nat.testBit ((befG opa.toList []).getD i 0) k with
          | false => exact .inr rfl
          | true =>
            left
            have := (hkp k hk).2 (hpl k (bef_path hb))
            simpa using this
        obtain ⟨m, rfl⟩ : ∃ m, n = m + 1 := by
          have : 0 < n := by
            rw [← hn]
            exact List.length_pos_of_mem (List.mem_filter.2 ⟨hiK, by simpa using hip⟩)
          exact ⟨n - 1, by omega⟩
        have h1 : nodeOk P Γ opa.toList K (p ++ [i]) (F ++ i :: blockOf opa.toList K (p ++ [i])) = true ∧ aops P (Cx P C Γ) G opa.toList ((remL F listed).filterMap (opa.toList[·]?) ++ opa[i] :: (blockOf opa.toList K (p ++ [i])).filterMap (opa.toList[·]?)) sl c.st
            (tailX P (Cx P C Γ) Γ G opa.toList K m (p ++ [i]) (F ++ i :: blockOf opa.toList K (p ++ [i])) Kc) := by
          have hw := aops_sound hC (Q := fun e _ _ => e = .normal ∧ nodeOk P Γ opa.toList K (p ++ [i]) (F ++ i :: blockOf opa.toList K (p ++ [i])) = true) _ c sl a _ hr hs hg h fun _ _ _ _ _ _ _ _ hk => ⟨rfl, (hk i hel).1⟩
          obtain ⟨e, a', w', hq⟩ := wpList_exists _ _ _ hw
          refine ⟨hq.2, ?_⟩
          rw [aops_append]
          refine aops_mono _ _ _ _ _ (fun sl st hk => ?_) h
          obtain ⟨_, o, ho', hk⟩ := hk i hel
          rw [ho] at ho'; cases ho'
          exact hk
        obtain ⟨hnode2, h1⟩ := h1
        have hord2 : ordOk P Γ opa.toList K (p ++ [i]) (F ++ i :: blockOf opa.toList K (p ++ [i])) = true := by
          simp only [nodeOk, Bool.and_eq_true] at hnode2
          exact hnode2.1
        refine draw_step hC hisz hr hs hg hgs (fun x hx => ?_) h1 fun sl' c' a' k1 k2 k3 k4 k5 k6 k7 => ?_
        · obtain ⟨k, hk, hkx⟩ := List.mem_filterMap.1 hx
          unfold remL at hk
          rw [List.mem_filter] at hk
          refine ⟨List.mem_of_getElem? hkx, ?_⟩
          rcases ordOk_pair hord2 rfl k hk.1 with ⟨_, h2 | h2 | h2 | ⟨j, hj, hjq, h2⟩⟩
          rotate_left 3
          · rcases List.mem_append.1 hjq with hjq | hjq
            · have hlj := (hkp j hj).1 hjq
              exact absurd (path_listed hd h2 fun o ho' e he hb => hd j o ho' hlj e he hb) (unl k hk.2)
            · rw [List.mem_singleton.1 hjq] at h2
              exact absurd (hpl k h2) (unl k hk.2)
          · exact absurd (hpl k h2) (unl k hk.2)
          · exact commB_pair hkx ho h2
          · have hkK : k ∈ K := by simpa using h2.1
            have : k ∈ p := by rw [← hKF]; exact List.mem_filter.2 ⟨hk.1, h2.1⟩
            exact absurd ((hkp k hkK).1 this) (unl k hk.2)
        · refine ih _ a' c' sl' (p ++ [i]) _ m (by simp [hsz]) hdown hrem ?_ ?_ hnode2 k1 k3 k4 k6 ?_ fun sl'' c'' a'' m1 m2 m3 m4 m5 m6 => hK sl'' c'' a'' m1 (k2.trans m2) m3 m4 (m5.trans k5) m6
          · intro k hk
            rw [getD_set', List.mem_append, List.mem_singleton]
            by_cases hik : i = k
            · rw [if_pos ⟨hik, by omega⟩]
              exact ⟨fun _ => rfl, fun _ => .inr hik.symm⟩
            · rw [if_neg (fun e => hik e.1), ← hkp k hk]
              exact ⟨fun e => e.elim id fun e => absurd e.symm hik, .inl⟩
          · have e1 : (K.filter fun k => !((p ++ [i]).contains k)) = (K.filter fun k => !(p.contains k)).filter fun k => !(k == i) := by
              rw [List.filter_filter]
              apply List.filter_congr
              intro k _
              simp only [List.contains_eq_mem, List.mem_append, List.mem_singleton]
              by_cases a1 : k ∈ p <;> by_cases a2 : k = i <;> simp [a1, a2]
            rw [e1]
            have hnd : (K.filter fun k => !(p.contains k)).Nodup := hKn.filter _
            have e2 : ((K.filter fun k => !(p.contains k)).filter fun k => !(k == i)) = (K.filter fun k => !(p.contains k)).erase i := by
              rw [List.Nodup.erase_eq_filter hnd]
              rfl
            rw [e2, List.length_erase_of_mem (List.mem_filter.2 ⟨hiK, by simpa using hip⟩)]
            omega
          · have e1 : remL (F ++ i :: blockOf opa.toList K (p ++ [i])) (listed.setIfInBounds i true) = remL F listed ++ blockOf opa.toList K (p ++ [i]) := by
              unfold remL
              rw [List.filter_append, List.filter_cons]
              have : (listed.setIfInBounds i true).getD i true = true := by rw [getD_set', if_pos ⟨rfl, by omega⟩]
              simp only [this, Bool.not_true, Bool.false_eq_true, if_false]
              congr 1
              · exact remL_set hiF
              · apply List.filter_eq_self.2
                intro b hb
                unfold blockOf at hb
                rw [List.mem_filter] at hb
                have hbs : b < opa.size := by simpa using hb.1
                have hb2 := hb.2
                simp only [List.getLast?_append, List.getLast?_singleton, Option.some_or, Bool.and_eq_true] at hb2
                have hbi : b ≠ i := fun e => by
                  have := hb2.1.1
                  rw [e] at this
                  simp [hiK] at this
                rw [getD_set', if_neg (fun e => hbi e.1.symm)]
                cases hq : listed.getD b true with
                | false => rfl
                | true =>
                  rw [getD_tf (by omega)] at hq
                  have hpi := bef_path hb2.2
                  have := path_listed hd hpi fun o ho' e he hbd => hd b o ho' hq e he hbd
                  rw [hilf] at this
                  cases this
            rw [e1, List.filterMap_append]
            exact k7
      · -- one that may change places with all
        have hiF : i ∈ F := by
          have := hcomp i (by simpa using hisz)
          simp only [Bool.or_eq_true, List.any_eq_true, Bool.and_eq_true] at this
          rcases this with h1 | h1 | ⟨k, hk, h1, h2⟩
          · exact absurd (by simpa using h1) hiK
          · simpa using h1
          · have := (hkp k hk).2 (hpl k (bef_path h1))
            simp [this] at h2
        obtain ⟨s, t, hst⟩ := List.append_of_mem hiF
        have hrl : remL F listed = remL s listed ++ i :: remL t listed := by
          rw [hst]
          unfold remL
          rw [List.filter_append, List.filter_cons, if_pos hil]
        rw [hrl, List.filterMap_append, List.filterMap_cons, ho] at h
        rw [hst] at hFn
        have hns : i ∉ s := fun hh => (List.nodup_append.1 hFn).2.2 i hh i (by simp) rfl
        have hnt : i ∉ t := (List.nodup_cons.1 (List.nodup_append.1 hFn).2.1).1
        refine draw_step hC hisz hr hs hg hgs (fun x hx => ?_) h fun sl' c' a' k1 k2 k3 k4 k5 k6 k7 => ?_
        · obtain ⟨k, hk, hkx⟩ := List.mem_filterMap.1 hx
          unfold remL at hk
          rw [List.mem_filter] at hk
          refine ⟨List.mem_of_getElem? hkx, ?_⟩
          rcases ordOk_pair hord hst k hk.1 with ⟨_, h2 | h2 | h2 | ⟨j, hj, hjq, h2⟩⟩
          · exact absurd (hpl k h2) (unl k hk.2)
          · exact commB_pair hkx ho h2
          · exact absurd (by simpa using h2.2) hiK
          · have hlj := (hkp j hj).1 hjq
            exact absurd (path_listed hd h2 fun o ho' e he hb => hd j o ho' hlj e he hb) (unl k hk.2)
        · refine ih _ a' c' sl' p F n (by simp [hsz]) hdown hrem ?_ hn hnode k1 k3 k4 k6 ?_ fun sl'' c'' a'' m1 m2 m3 m4 m5 m6 => hK sl'' c'' a'' m1 (k2.trans m2) m3 m4 (m5.trans k5) m6
          · intro k hk
            rw [getD_set', if_neg (fun e => hiK (by rw [e.1]; exact hk))]
            exact hkp k hk
          · have e1 : remL F (listed.setIfInBounds i true) = remL s listed ++ remL t listed := by
              rw [hst]
              have : remL (s ++ i :: t) (listed.setIfInBounds i true) = remL s (listed.setIfInBounds i true) ++ remL t (listed.setIfInBounds i true) := by
                unfold remL
                rw [List.filter_append, List.filter_cons]
                have : (listed.setIfInBounds i true).getD i true = true := by rw [getD_set', if_pos ⟨rfl, by omega⟩]
                simp only [this, Bool.not_true, Bool.false_eq_true, if_false]
              rw [this, remL_set hns, remL_set hnt]
            rw [e1, List.filterMap_append]
            exact k7

/-- The caller without regions of open order. -/
def C00 (P : Program) (Γ : Ctx) (Δ : CtxO) : Caller := mkC P Γ Δ (fun _ _ _ _ _ => False) (fun _ => .leaf) 0

theorem C00_ok {Γ : Ctx} (h : SoundG P Γ) {Δ : CtxO} (hΔ : SoundGO P Δ) : SoundC P (C00 P Γ Δ) :=
  mkC_sound h hΔ (fun _ _ _ _ _ _ _ _ _ _ _ _ _ hf _ => hf.elim) (fun _ _ _ _ _ _ _ => annOk_leaf _) 0

def allL (f : Nat → Prop) : List Nat → Prop
  | [] => True
  | [i] => f i
  | i :: r => f i ∧ allL f r

theorem allL_out {f : Nat → Prop} : ∀ {l : List Nat}, allL f l → ∀ i, i ∈ l → f i
  | [], _, i, hi => by simp at hi
  | [j], h, i, hi => by simp at hi; subst hi; exact h
  | j :: k :: r, h, i, hi => by
    rcases List.mem_cons.1 hi with rfl | hi
    · exact h.1
    · exact allL_out (l := k :: r) h.2 i hi

/-- Of all that may come, for reckoning. -/
def tailD (P : Program) (C : Caller) (Γ : Ctx) (G : List Nat) (ops : List Oper) (K : List Nat) : Nat → List Nat → List Nat → St → Kd → St
  | 0, _, _, Kc, _, sl, st => Kc sl st
  | n + 1, p, F, Kc, kn, sl, st => allL (fun j => bif nodeOk P Γ ops K (p ++ [j]) (F ++ j :: blockOf ops K (p ++ [j])) then (match ops[j]? with
      | some o => aopsD P C G ops (o :: (blockOf ops K (p ++ [j])).filterMap (ops[·]?)) kn sl st fun kn sl st => tailD P C Γ G ops K n (p ++ [j]) (F ++ j :: blockOf ops K (p ++ [j])) Kc kn sl st
      | none => False) else False) (elig ops K p)

theorem tailD_tailX {G : List Nat} {ops : List Oper} {K : List Nat} {Kc : St} : ∀ (n : Nat) (p F : List Nat) (kn : Kd) (sl : List V) (st : List Ob), GdIn G sl → KdR kn sl → tailD P (Cx0 P C Γ) Γ G ops K n p F Kc kn sl st → tailX P (Cx P C Γ) Γ G ops K n p F (fun sl st => GdIn G sl ∧ Kc sl st) sl st
  | 0, _, _, kn, sl, st, hg, hk, h => ⟨hg, h⟩
  | n + 1, p, F, kn, sl, st, hg, hk, h => by
    intro j hj
    have hj := allL_out h j hj
    cases hn : nodeOk P Γ ops K (p ++ [j]) (F ++ j :: blockOf ops K (p ++ [j])) with
    | false => rw [hn] at hj; exact hj.elim
    | true =>
      rw [hn] at hj
      simp only [cond_true] at hj
      split at hj
      · next o ho =>
        exact ⟨rfl, o, ho, aopsD_aops _ kn _ _ _ _ (fun kn sl st hg hk h => tailD_tailX n _ _ kn sl st hg hk h) hg hk hj⟩
      · exact hj.elim

/-- A region whose order is open. -/
def drawD (P : Program) (Γ : Ctx) (Δ : CtxO) (ops : List Oper) (sl : List V) (st : List Ob) (K : St) : Prop :=
  if ((P.follows .mixedOrders || !Region.departs ops.toArray) && (edgesOk ops && nodeOk P Γ ops (confl P Γ ops) [] (blockOf ops (confl P Γ ops) []))) = true then
    aopsD P (Cx0 P (C00 P Γ Δ) Γ) (guards ops ops) ops ((blockOf ops (confl P Γ ops) []).filterMap (ops[·]?)) [] sl st
      (tailD P (Cx0 P (C00 P Γ Δ) Γ) Γ (guards ops ops) ops (confl P Γ ops) (confl P Γ ops).length [] (blockOf ops (confl P Γ ops) []) fun sl' st' => K (clr (guards ops ops) sl') st')
  else False

theorem drawD_sound (hG : SoundG P Γ) {Δ : CtxO} (hΔ : SoundGO P Δ) : SoundD P (drawD P Γ Δ) := by
  intro w0 id ops c sl a K Q hr hs hg h hK
  unfold drawD at h
  split at h
  · next hok =>
    simp only [Bool.and_eq_true, Array.toArray_toList] at hok
    obtain ⟨hok1, hok2, hok3⟩ := hok
    refine wp_region_draw fun t => ?_
    have hsch : Region.schedule (P.follows .mixedOrders) ops t = Region.linearise .any ops t := by
      unfold Region.schedule
      rw [if_pos hok1]
    rw [hsch]
    obtain ⟨hr1, hx1⟩ := drew_rel hr
    refine wpAny_sound ops.size t _ a _ ?_
    have hno : ∀ k d, (Array.replicate ops.size false).getD k d = true → d = true ∧ ops.size ≤ k := by
      intro k d hl
      rw [Array.getD_eq_getD_getElem?, Array.getElem?_replicate] at hl
      split at hl
      · simp at hl
      · simp at hl; exact ⟨hl, by omega⟩
    refine draw_tree (w0 := w0) (C := C00 P Γ Δ) (Γ := Γ) (K := confl P Γ ops.toList) (Cx_sound (C00_ok hG hΔ) hG) ?_ ?_ hok2 (G := guards ops.toList ops.toList)
      (Kc := fun sl st => GdIn (guards ops.toList ops.toList) sl ∧ K (clr (guards ops.toList ops.toList) sl) st) ops.size _ a { c with w := c.w.drew } sl [] (blockOf ops.toList (confl P Γ ops.toList) []) (confl P Γ ops.toList).length (by simp) ?_ ?_ ?_ ?_ hok3 hr1 (SlR.ext hx1 hs) hg.mono ?_ ?_ ?_
    · exact (List.pairwise_lt_range.imp fun h => Nat.ne_of_lt h).filter _
    · intro k hk
      unfold confl at hk
      rw [List.mem_filter] at hk
      simpa using hk.1
    · intro j o _ hl
      have := (hno j false hl).1
      cases this
    · exact Nat.le_trans (List.length_filter_le _ _) (by simp)
    · intro k _
      constructor
      · intro hh; simp at hh
      · intro hh
        have := (hno k false hh).1
        cases this
    · rw [List.filter_eq_self.2 fun k _ => by simp]
    · intro t' g w v e
      exact absurd (hg t' g w v e) (by simp)
    · have hall : remL (blockOf ops.toList (confl P Γ ops.toList) []) (Array.replicate ops.size false) = blockOf ops.toList (confl P Γ ops.toList) [] := by
        unfold remL
        apply List.filter_eq_self.2
        intro b hb
        unfold blockOf at hb
        rw [List.mem_filter] at hb
        have hbs : b < ops.size := by simpa using hb.1
        cases hq : (Array.replicate ops.size false).getD b true with
        | false => rfl
        | true => have := (hno b true hq).2; omega
      rw [hall]
      exact aopsD_aops _ [] _ _ _ _ (fun kn sl st hg hk h => tailD_tailX _ _ _ kn sl st hg hk h) hg.mono (fun p hp => by simp at hp) h
    · intro sl' c' a' h1 h2 h3 h4 h5 h6
      obtain ⟨g1, g2⟩ := clr_rel h3 h4
      exact hK _ c' a' h1 (hx1.trans h2) g1 g2 h5 h6.2
  · exact h.elim

end

end Eng
end Go.Proofs.YtkpplfghhciacaaDoor
