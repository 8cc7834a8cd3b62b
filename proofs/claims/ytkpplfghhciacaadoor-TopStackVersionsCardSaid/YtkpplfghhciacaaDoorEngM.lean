/-
  The code of a function on abstract values: sequences, branches, blocks, loops, calls. Conditions: none.
-/
import Derived.Test.YtkpplfghhciacaaDoorEngLb
set_option linter.unusedVariables false
set_option linter.unusedSimpArgs false
namespace Go.Proofs.YtkpplfghhciacaaDoor
namespace Eng
open Go.RowKit

/-- Of a loop: how many objects there were ahead of it, the slots and cells whose form is changed on the way in, the slots that are kept at the head, at its exits and at a return. -/
structure LoopD where
  base : Nat
  vecs : List (Nat × Rs)
  flds : List (Nat × Nat × Rs)
  keep : List Nat
  out : List Nat
  rets : List Nat
  rv : List (Nat × Rs)
  rbase : Nat

/-- The same where ways meet again. -/
structure CutD where
  base : Nat
  vecs : List (Nat × Rs)
  flds : List (Nat × Nat × Rs)
  keep : List Nat
  out : List Nat
  rets : List Nat
  ovecs : List (Nat × Rs)
  oflds : List (Nat × Nat × Rs)
  rv : List (Nat × Rs)
  rbase : Nat

inductive Ex where
  | normal
  | exit (id : Nat)
  | ret

/-- What is noted beside the code: of a loop what is kept, or what it comes to. -/
inductive Ann where
  | leaf
  | node (a b : Ann)
  | loop (d : LoopD) (a : Ann)
  | lift (d : LoopD) (len : Nat) (F : List V → List Ob → (Ex → St) → Prop)
  | cut (a : Ann) (d : CutD) (len : Nat) (F : List V → List Ob → (Ex → St) → Prop)

def Ann.l : Ann → Ann
  | .node a _ => a
  | _ => .leaf
def Ann.r : Ann → Ann
  | .node _ b => b
  | _ => .leaf

def iterL (step : St → St) : Nat → St
  | 0 => fun _ _ => False
  | n + 1 => step (iterL step n)

def region (P : Program) (C : Caller) (ops : List Oper) (sl : List V) (st : List Ob) (K : St) : Prop :=
  aopsK P C (guards ops ops) ops ops [] sl st fun sl' st' => K (clr (guards ops ops) sl') st'

/-- A round of a loop. -/
def stepL (E : List V → List Ob → (Ex → St) → Prop) (L0 : Nat) (d : LoopD) (K : Ex → St) (self : St) : St := fun sl' st' => E sl' st' fun e sl'' st'' => match e with
  | .normal => norm? (form ownR d.vecs d.flds L0 d.keep sl'' st'') self
  | .exit i => norm? (form ownR d.vecs d.flds L0 d.out sl'' st'') (K (.exit i))
  | .ret => norm? (form ownR d.rv d.flds d.rbase d.rets sl'' st'') (K .ret)

/-- What is left of the slots and objects behind ways that have met. -/
def cutK (d : CutD) (K : Ex → St) : Ex → St := fun e sl st => match e with
  | .normal => norm? (form ownR d.ovecs d.oflds d.base d.out sl st) (K .normal)
  | .exit i => norm? (form ownR d.ovecs d.oflds d.base d.out sl st) (K (.exit i))
  | .ret => norm? (form ownR d.rv d.oflds d.rbase d.rets sl st) (K .ret)

def exec (P : Program) (C : Caller) (D : List Oper → List V → List Ob → St → Prop) : Ann → Code → List V → List Ob → (Ex → St) → Prop
  | _, .skip, sl, st, K => K .normal sl st
  | _, .region _ ops draw, sl, st, K => forceL sl fun sl => if draw = true then D ops.toList sl st (K .normal) else region P C ops.toList sl st (K .normal)
  | .cut a d len F, .seq x _, sl, st, K => exec P C D a x sl st fun e sl' st' => match e with
    | .normal => norm? (form mvR d.vecs d.flds d.base d.keep sl' st') fun sl1 st1 => bif Nat.beq sl1.length len then F (d.keep.map fun k => sl1.getD k .any) st1 K else False
    | .exit i => K (.exit i) sl' st'
    | .ret => K .ret sl' st'
  | a, .seq x y, sl, st, K => exec P C D a.l x sl st fun e sl' st' => match e with
    | .normal => exec P C D a.r y sl' st' K
    | .exit i => K (.exit i) sl' st'
    | .ret => K .ret sl' st'
  | a, .cond c x y, sl, st, K => match rdv sl [] c with
    | .x (.bool b) => bif b then exec P C D a.l x sl st K else exec P C D a.r y sl st K
    | _ => False
  | a, .block id b, sl, st, K => exec P C D a b sl st fun e sl' st' => match e with
    | .normal => K .normal sl' st'
    | .exit i => if i = id then K .normal sl' st' else K (.exit i) sl' st'
    | .ret => K .ret sl' st'
  | .loop d a, .loop b, sl, st, K => bif Nat.beq st.length d.base then norm? (form mvR d.vecs d.flds d.base d.keep sl st) fun sl2 st2 => ∃ n, iterL (stepL (exec P C D a b) d.base d K) n sl2 st2 else False
  | .lift d len F, .loop _, sl, st, K => bif Nat.beq st.length d.base then norm? (form mvR d.vecs d.flds d.base d.keep sl st) fun sl1 st1 =>
      bif Nat.beq sl1.length len then F (d.keep.map fun k => sl1.getD k .any) st1 K else False else False
  | _, .exit i, sl, st, K => K (.exit i) sl st
  | _, .ret, sl, st, K => K .ret sl st
  | _, _, _, _, _ => False

/-- What is noted of the loops is so. -/
def AnnOk (P : Program) (C : Caller) (D : List Oper → List V → List Ob → St → Prop) (N : Nat) : Ann → Code → Prop
  | .cut a d len F, .seq x y => AnnOk P C D N a x ∧ N ≤ d.base ∧ N ≤ d.rbase ∧ rising 0 d.keep = true ∧ ∃ b, AnnOk P C D N b y ∧ ∀ vs st K, F vs st K →
      exec P C D b y (bld d.keep vs 0 len) st (cutK d K)
  | a, .seq x y => AnnOk P C D N a.l x ∧ AnnOk P C D N a.r y
  | a, .cond _ x y => AnnOk P C D N a.l x ∧ AnnOk P C D N a.r y
  | a, .block _ b => AnnOk P C D N a b
  | .loop d a, .loop b => N ≤ d.rbase ∧ AnnOk P C D N a b
  | .lift d len F, .loop b => N ≤ d.rbase ∧ rising 0 d.keep = true ∧ ∃ a, AnnOk P C D N a b ∧ ∀ vs st K, F vs st K →
      ∃ n, iterL (stepL (exec P C D a b) d.base d K) n (bld d.keep vs 0 len) st
  | _, _ => True

/-- The region that draws its order goes as this describes. -/
def SoundD (P : Program) (D : List Oper → List V → List Ob → St → Prop) : Prop :=
  ∀ (w0 : Base) (id : Nat) (ops : Array Oper) (c : Cfg) (sl : List V) (a : Act) (K : St) (Q : Exit → Act → World → Prop), Rel w0 c → SlR c sl a.tmps → GdIn [] sl → D ops.toList sl c.st K →
    (∀ sl' c' a', Rel w0 c' → Ext c c' → SlR c' sl' a'.tmps → GdIn [] sl' → a'.defers = a.defers → K sl' c'.st → Q .normal a' c'.w) → (Code.region id ops true).wp P Q a c.w

def ExR : Ex → Exit → Prop
  | .normal, .normal => True
  | .exit i, .exit j => i = j
  | .ret, .ret => True
  | _, _ => False

/-- What has been reached. -/
def Done (w0 : Base) (cb : Cfg) (K : Ex → St) (e : Exit) (a : Act) (w : World) : Prop :=
  ∃ ex sl c, ExR ex e ∧ c.w = w ∧ Rel w0 c ∧ Ext cb c ∧ SlR c sl a.tmps ∧ GdIn [] sl ∧ a.defers = [] ∧ K ex sl c.st

theorem GdIn.mono {G : List Nat} {sl : List V} (h : GdIn [] sl) : GdIn G sl := fun t g w v e => absurd (h t g w v e) (by simp)

set_option maxHeartbeats 2000000 in
theorem exec_sound {P : Program} {w0 : Base} {C : Caller} {D : List Oper → List V → List Ob → St → Prop} (hC : SoundC P C) (hD : SoundD P D) {N : Nat} : ∀ (code : Code) (ann : Ann) (c cb : Cfg) (sl : List V) (a : Act) (K : Ex → St),
    cb.st.length ≤ N → AnnOk P C D N ann code → Rel w0 c → Ext cb c → SlR c sl a.tmps → GdIn [] sl → a.defers = [] → exec P C D ann code sl c.st K → code.wp P (Done w0 cb K) a c.w
  | .skip, ann, c, cb, sl, a, K, hn, hk, hr, hx, hs, hg, hd, h => wp_skip ⟨.normal, sl, c, trivial, rfl, hr, hx, hs, hg, hd, h⟩
  | .region id ops draw, ann, c, cb, sl, a, K, hn, hk, hr, hx, hs, hg, hd, h => by
    simp only [exec, forceL_eq] at h
    cases draw with
    | true =>
      simp only [if_true] at h
      exact hD w0 id ops c sl a (K .normal) _ hr hs hg h fun sl' c' a' h1 h2 h3 h4 h5 h6 => ⟨.normal, sl', c', trivial, rfl, h1, hx.trans h2, h3, h4, h5.trans hd, h6⟩
    | false =>
      simp only [Bool.false_eq_true, if_false] at h
      refine wp_region_list ?_
      refine aopsK_sound hC ops.toList c [] sl a _ hr hs hg.mono (fun p hp => by simp at hp) h fun sl' c' a' h1 h2 h3 h4 h5 h6 => ?_
      obtain ⟨g1, g2⟩ := clr_rel h3 h4
      exact ⟨.normal, _, c', trivial, rfl, h1, hx.trans h2, g1, g2, h5.trans hd, h6⟩
  | .seq x y, ann, c, cb, sl, a, K, hn, hk, hr, hx, hs, hg, hd, h => by
    have plain : AnnOk P C D N ann.l x → AnnOk P C D N ann.r y → (exec P C D ann.l x sl c.st fun e sl' st' => match e with
        | .normal => exec P C D ann.r y sl' st' K
        | .exit i => K (.exit i) sl' st'
        | .ret => K .ret sl' st') → (Code.seq x y).wp P (Done w0 cb K) a c.w := by
      intro hk1 hk2 h
      refine wp_seq (wp_mono (exec_sound hC hD x ann.l c cb sl a _ hn hk1 hr hx hs hg hd h) fun e a' w' hq => ?_)
      obtain ⟨ex, sl', c', h1, rfl, h2, h3, h4, h5, h6, h7⟩ := hq
      cases ex with
      | normal =>
        cases e <;> first | exact h1.elim | skip
        exact exec_sound hC hD y ann.r c' cb sl' a' K hn hk2 h2 h3 h4 h5 h6 h7
      | exit i =>
        cases e <;> first | exact h1.elim | skip
        exact ⟨.exit i, sl', c', h1, rfl, h2, h3, h4, h5, h6, h7⟩
      | ret =>
        cases e <;> first | exact h1.elim | skip
        exact ⟨.ret, sl', c', trivial, rfl, h2, h3, h4, h5, h6, h7⟩
    cases ann with
    | cut an d len F =>
      simp only [exec] at h
      simp only [AnnOk] at hk
      obtain ⟨hk1, hbase, hrb, hris, b, hk2, hF⟩ := hk
      refine wp_seq (wp_mono (exec_sound hC hD x an c cb sl a _ hn hk1 hr hx hs hg hd h) fun e a' w' hq => ?_)
      obtain ⟨ex, sl', c', h1, rfl, h2, h3, h4, h5, h6, h7⟩ := hq
      cases ex with
      | normal =>
        cases e <;> first | exact h1.elim | skip
        simp only at h7
        obtain ⟨sl1, st1, hnn, h7⟩ := norm_out h7
        obtain ⟨c2, hw2, hst2, hr2, hx2, hs2, hg2⟩ := form_sound mvR_ms h2 h3 h4 h5 (by omega) hnn
        cases hlen : Nat.beq sl1.length len with
        | false => rw [hlen] at h7; exact h7.elim
        | true =>
          rw [hlen] at h7
          simp only [cond_true] at h7
          have h8 := hF _ _ K h7
          rw [← hst2] at h8
          rw [form_form hris hnn, Nat.eq_of_beq_eq_true hlen] at hs2 hg2
          rw [← hw2]
          refine wp_mono (exec_sound hC hD y b c2 cb _ a' _ hn hk2 hr2 hx2 hs2 hg2 h6 h8) fun e a' w' hq => ?_
          obtain ⟨ex, sl', c', h1, rfl, h2, h3, h4, h5, h6, h7⟩ := hq
          have fin : ∀ (bs : Nat) (vs : List (Nat × Rs)) (ks : List Nat) (ex : Ex), cb.st.length ≤ bs → ExR ex e → norm? (form ownR vs d.oflds bs ks sl' c'.st) (K ex) → Done w0 cb K e a' c'.w := by
            intro bs vs ks ex hbs hex h7
            obtain ⟨sl3, st3, hn, h7⟩ := norm_out h7
            obtain ⟨c3, hw3, hst3, hr3, hx3, hs3, hg3⟩ := form_sound ownR_ms h2 h3 h4 h5 hbs hn
            rw [← hst3] at h7
            exact ⟨ex, sl3, c3, hex, hw3, hr3, hx3, hs3, hg3, h6, h7⟩
          cases ex with
          | normal => exact fin d.base d.ovecs d.out .normal (by omega) h1 h7
          | exit i => exact fin d.base d.ovecs d.out (.exit i) (by omega) h1 h7
          | ret => exact fin d.rbase d.rv d.rets .ret (by omega) h1 h7
      | exit i =>
        cases e <;> first | exact h1.elim | skip
        exact ⟨.exit i, sl', c', h1, rfl, h2, h3, h4, h5, h6, h7⟩
      | ret =>
        cases e <;> first | exact h1.elim | skip
        exact ⟨.ret, sl', c', trivial, rfl, h2, h3, h4, h5, h6, h7⟩
    | node al ar =>
      simp only [exec] at h
      simp only [AnnOk] at hk
      refine plain hk.1 hk.2 h
    | _ =>
      simp only [exec] at h
      simp only [AnnOk] at hk
      exact plain hk.1 hk.2 h
  | .cond cnd x y, ann, c, cb, sl, a, K, hn, hk, hr, hx, hs, hg, hd, h => by
    simp only [exec] at h
    simp only [AnnOk] at hk
    split at h
    · next b e =>
      have hb := rdv_rel hs [] cnd (fun g hh => by simp at hh)
      rw [e] at hb
      simp only [RelV] at hb
      cases b with
      | true => exact wp_cond_true hb (exec_sound hC hD x ann.l c cb sl a K hn hk.1 hr hx hs hg hd h)
      | false => exact wp_cond_false hb (exec_sound hC hD y ann.r c cb sl a K hn hk.2 hr hx hs hg hd h)
    · exact h.elim
  | .block id b, ann, c, cb, sl, a, K, hn, hk, hr, hx, hs, hg, hd, h => by
    simp only [exec] at h
    refine wp_block (wp_mono (exec_sound hC hD b ann c cb sl a _ hn (by simpa only [AnnOk] using hk) hr hx hs hg hd h) fun e a' w' hq => ?_)
    obtain ⟨ex, sl', c', h1, rfl, h2, h3, h4, h5, h6, h7⟩ := hq
    cases ex with
    | normal =>
      cases e <;> first | exact h1.elim | skip
      exact ⟨.normal, sl', c', trivial, rfl, h2, h3, h4, h5, h6, h7⟩
    | exit i =>
      cases e <;> first | exact h1.elim | skip
      next j =>
      simp only [ExR] at h1
      subst h1
      simp only [Exit.inBlock]
      simp only at h7
      split
      · next hij =>
        rw [if_pos hij] at h7
        exact ⟨.normal, sl', c', trivial, rfl, h2, h3, h4, h5, h6, h7⟩
      · next hij =>
        rw [if_neg hij] at h7
        exact ⟨.exit i, sl', c', rfl, rfl, h2, h3, h4, h5, h6, h7⟩
    | ret =>
      cases e <;> first | exact h1.elim | skip
      exact ⟨.ret, sl', c', trivial, rfl, h2, h3, h4, h5, h6, h7⟩
  | .loop b, ann, c, cb, sl, a, K, hn, hk, hr, hx, hs, hg, hd, h => by
    -- rounds from a head
    have rounds : ∀ (an : Ann) (d : LoopD) (L0 : Nat), AnnOk P C D N an b → cb.st.length ≤ L0 → N ≤ d.rbase → ∀ (n : Nat) (a : Act) (sl2 : List V) (c2 : Cfg), a.defers = [] → Rel w0 c2 → Ext cb c2 → SlR c2 sl2 a.tmps → GdIn [] sl2 →
        iterL (stepL (exec P C D an b) L0 d K) n sl2 c2.st → (Code.loop b).wp P (Done w0 cb K) a c2.w := by
      intro an d L0 hkb hL hrb n a sl2 c2 hd hr2 hx2 hs2 hg2 h
      refine wp_loop_rounds n ?_
      induction n generalizing c2 sl2 a with
      | zero => exact h.elim
      | succ n ih =>
        rw [rounds_succ]
        simp only [iterL] at h
        refine wp_mono (exec_sound hC hD b an c2 cb sl2 a _ hn hkb hr2 hx2 hs2 hg2 hd h) fun e a' w' hq => ?_
        obtain ⟨ex, sl', c', h1, rfl, h2, h3, h4, h5, h6, h7⟩ := hq
        cases ex with
        | normal =>
          cases e <;> first | exact h1.elim | skip
          simp only at h7
          obtain ⟨sl3, st3, hn, h7⟩ := norm_out h7
          obtain ⟨c3, hw3, hst3, hr3, hx3, hs3, hg3⟩ := form_sound ownR_ms h2 h3 h4 h5 hL hn
          rw [← hst3] at h7
          simp only [Exit.then]
          rw [← hw3]
          exact ih (a := a') (sl2 := sl3) (c2 := c3) h6 hr3 hx3 hs3 hg3 h7
        | exit i =>
          cases e <;> first | exact h1.elim | skip
          simp only at h7
          obtain ⟨sl3, st3, hn, h7⟩ := norm_out h7
          obtain ⟨c3, hw3, hst3, hr3, hx3, hs3, hg3⟩ := form_sound ownR_ms h2 h3 h4 h5 hL hn
          rw [← hst3] at h7
          exact ⟨.exit i, sl3, c3, h1, hw3, hr3, hx3, hs3, hg3, h6, h7⟩
        | ret =>
          cases e <;> first | exact h1.elim | skip
          simp only at h7
          obtain ⟨sl3, st3, hn, h7⟩ := norm_out h7
          obtain ⟨c3, hw3, hst3, hr3, hx3, hs3, hg3⟩ := form_sound ownR_ms h2 h3 h4 h5 (by omega) hn
          rw [← hst3] at h7
          exact ⟨.ret, sl3, c3, trivial, hw3, hr3, hx3, hs3, hg3, h6, h7⟩
    have enter : ∀ (d : LoopD) (F : List V → List Ob → Prop), (bif Nat.beq c.st.length d.base then norm? (form mvR d.vecs d.flds d.base d.keep sl c.st) F else False) →
        ∃ sl2 c2, cb.st.length ≤ d.base ∧ c2.w = c.w ∧ Rel w0 c2 ∧ Ext cb c2 ∧ SlR c2 sl2 a.tmps ∧ GdIn [] sl2 ∧ F sl2 c2.st ∧ (rising 0 d.keep = true → sl2 = bld d.keep (d.keep.map fun k => sl2.getD k .any) 0 sl2.length) := by
      intro d F h
      cases hb : Nat.beq c.st.length d.base with
      | false => rw [hb] at h; exact h.elim
      | true =>
        rw [hb] at h
        simp only [cond_true] at h
        have hle : cb.st.length ≤ d.base := by rw [← Nat.eq_of_beq_eq_true hb]; exact hx.len
        obtain ⟨sl2, st2, hn, h⟩ := norm_out h
        obtain ⟨c2, hw2, hst2, hr2, hx2, hs2, hg2⟩ := form_sound mvR_ms hr hx hs hg hle hn
        exact ⟨sl2, c2, hle, hw2, hr2, hx2, hs2, hg2, by rw [hst2]; exact h, fun hris => form_form hris hn⟩
    cases ann with
    | loop d an =>
      simp only [exec] at h
      simp only [AnnOk] at hk
      obtain ⟨sl2, c2, hle, hw, hr2, hx2, hs2, hg2, ⟨n, h⟩, _⟩ := enter d (fun sl2 st2 => ∃ n, iterL (stepL (exec P C D an b) d.base d K) n sl2 st2) h
      rw [← hw]
      exact rounds an d d.base hk.2 hle hk.1 n a sl2 c2 hd hr2 hx2 hs2 hg2 h
    | lift d len F =>
      simp only [exec] at h
      simp only [AnnOk] at hk
      obtain ⟨hrb, hris, an, hkb, hF⟩ := hk
      obtain ⟨sl2, c2, hle, hw, hr2, hx2, hs2, hg2, h, f1⟩ := enter d (fun sl1 st1 => bif Nat.beq sl1.length len then F (d.keep.map fun k => sl1.getD k .any) st1 K else False) h
      cases hlen : Nat.beq sl2.length len with
      | false => rw [hlen] at h; exact h.elim
      | true =>
        rw [hlen] at h
        simp only [cond_true] at h
        obtain ⟨n, h⟩ := hF _ _ K h
        rw [← hw]
        refine rounds an d d.base hkb hle hrb n a sl2 c2 hd hr2 hx2 hs2 hg2 ?_
        rw [f1 hris, Nat.eq_of_beq_eq_true hlen]
        exact h
    | _ => simp [exec] at h
  | .exit i, ann, c, cb, sl, a, K, hn, hk, hr, hx, hs, hg, hd, h => by
    simp only [exec] at h
    exact wp_exit ⟨.exit i, sl, c, rfl, rfl, hr, hx, hs, hg, hd, h⟩
  | .ret, ann, c, cb, sl, a, K, hn, hk, hr, hx, hs, hg, hd, h => by
    simp only [exec] at h
    exact wp_ret ⟨.ret, sl, c, trivial, rfl, hr, hx, hs, hg, hd, h⟩
  | .rangeFunc .., ann, c, cb, sl, a, K, hn, hk, hr, hx, hs, hg, hd, h => by simp [exec] at h
  | .scope _, ann, c, cb, sl, a, K, hn, hk, hr, hx, hs, hg, hd, h => by simp [exec] at h
  | .label _, ann, c, cb, sl, a, K, hn, hk, hr, hx, hs, hg, hd, h => by simp [exec] at h
  | .goto _, ann, c, cb, sl, a, K, hn, hk, hr, hx, hs, hg, hd, h => by simp [exec] at h
  | .refuse _, ann, c, cb, sl, a, K, hn, hk, hr, hx, hs, hg, hd, h => by simp [exec] at h

end Eng
end Go.Proofs.YtkpplfghhciacaaDoor
