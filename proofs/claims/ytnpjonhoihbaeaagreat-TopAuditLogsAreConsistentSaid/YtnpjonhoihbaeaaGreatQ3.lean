/-
 Part 3 of the proof of a law. Conditions: none.
-/
import Derived.Test.YtnpjonhoihbaeaaGreatQ2
import Derived.Orders
import Derived.KernelRfl
import Derived.Test.YtnpjonhoihbaeaaGreatRows
import Derived.ProofKit
import Derived.OpenShut
import Derived.ChangeSame
import Derived.Carry
import Derived.JoinedCond
import Derived.Conc.HoldsTime
set_option linter.unusedVariables false
set_option linter.unusedSimpArgs false
namespace Go.Proofs.YtnpjonhoihbaeaaGreat
namespace Eng
open Go.RowKit
open Wp
structure LoopD where
 base : Nat
 vecs : List (Nat × Rs)
 flds : List (Nat × Nat × Rs)
 keep : List Nat
 out : List Nat
 rets : List Nat
 rv : List (Nat × Rs)
 rbase : Nat
structure CutD where
 base : Nat
 vecs : List (Nat × Rs)
 flds : List (Nat × Nat × Rs)
 keep : List Nat
 out : List Nat
 rets : List Nat
 ovecs : List (Nat × Rs)
 oflds : List (Nat × Nat × Rs)
 rv : List (Nat × Rs)
 rbase : Nat
inductive Ex where
 | normal
 | exit (id : Nat)
 | ret
inductive Ann where
 | leaf
 | node (a b : Ann)
 | loop (d : LoopD) (a : Ann)
 | lift (d : LoopD) (len : Nat) (F : List V -> List Ob -> (Ex -> St) -> Prop)
 | cut (a : Ann) (d : CutD) (len : Nat) (F : List V -> List Ob -> (Ex -> St) -> Prop)
def Ann.l : Ann -> Ann
 | .node a _ => a
 | _ => .leaf
def Ann.r : Ann -> Ann
 | .node _ b => b
 | _ => .leaf
def iterL (step : St -> St) : Nat -> St
 | 0 => fun _ _ => False
 | n + 1 => step (iterL step n)
def region (P : Program) (C : Caller) (ops : List Oper) (sl : List V) (st : List Ob) (K : St) : Prop :=
 aopsK P C (guards ops ops) ops ops [] sl st fun sl' st' => K (clr (guards ops ops) sl') st'
def stepL (E : List V -> List Ob -> (Ex -> St) -> Prop) (L0 : Nat) (d : LoopD) (K : Ex -> St) (self : St) : St := fun sl' st' => E sl' st' fun e sl'' st'' => match e with
 | .normal => norm? (form ownR d.vecs d.flds L0 d.keep sl'' st'') self
 | .exit i => norm? (form ownR d.vecs d.flds L0 d.out sl'' st'') (K (.exit i))
 | .ret => norm? (form ownR d.rv d.flds d.rbase d.rets sl'' st'') (K .ret)
def cutK (d : CutD) (K : Ex -> St) : Ex -> St := fun e sl st => match e with
 | .normal => norm? (form ownR d.ovecs d.oflds d.base d.out sl st) (K .normal)
 | .exit i => norm? (form ownR d.ovecs d.oflds d.base d.out sl st) (K (.exit i))
 | .ret => norm? (form ownR d.rv d.oflds d.rbase d.rets sl st) (K .ret)
def exec (P : Program) (C : Caller) (D : List Oper -> List V -> List Ob -> St -> Prop) : Ann -> Code -> List V -> List Ob -> (Ex -> St) -> Prop
 | _, .skip, sl, st, K => K .normal sl st
 | _, .region _ ops draw, sl, st, K => forceL sl fun sl => bif okOps P ops.toList then (if draw = true then D ops.toList sl st (K .normal) else region P C ops.toList sl st (K .normal)) else False
 | .cut a d len F, .seq x _, sl, st, K => exec P C D a x sl st fun e sl' st' => match e with
  | .normal => norm? (form mvR d.vecs d.flds d.base d.keep sl' st') fun sl1 st1 => bif Nat.beq sl1.length len then F (d.keep.map fun k => sl1.getD k .any) st1 K else False
  | .exit i => K (.exit i) sl' st'
  | .ret => K .ret sl' st'
 | a, .seq x y, sl, st, K => exec P C D a.l x sl st fun e sl' st' => match e with
  | .normal => exec P C D a.r y sl' st' K
  | .exit i => K (.exit i) sl' st'
  | .ret => K .ret sl' st'
 | a, .cond c x y, sl, st, K => match rdv sl [] c with
  | .x (.bool b) => bif b then exec P C D a.l x sl st K else exec P C D a.r y sl st K
  | _ => False
 | a, .block id b, sl, st, K => exec P C D a b sl st fun e sl' st' => match e with
  | .normal => K .normal sl' st'
  | .exit i => if i = id then K .normal sl' st' else K (.exit i) sl' st'
  | .ret => K .ret sl' st'
 | .loop d a, .loop b, sl, st, K => bif Nat.beq st.length d.base then norm? (form mvR d.vecs d.flds d.base d.keep sl st) fun sl2 st2 => ∃ n, iterL (stepL (exec P C D a b) d.base d K) n sl2 st2 else False
 | .lift d len F, .loop _, sl, st, K => bif Nat.beq st.length d.base then norm? (form mvR d.vecs d.flds d.base d.keep sl st) fun sl1 st1 =>
   bif Nat.beq sl1.length len then F (d.keep.map fun k => sl1.getD k .any) st1 K else False else False
 | _, .exit i, sl, st, K => K (.exit i) sl st
 | _, .ret, sl, st, K => K .ret sl st
 | _, _, _, _, _ => False
def AnnOk (P : Program) (C : Caller) (D : List Oper -> List V -> List Ob -> St -> Prop) (N : Nat) : Ann -> Code -> Prop
 | .cut a d len F, .seq x y => AnnOk P C D N a x /\ N <= d.base /\ N <= d.rbase /\ rising 0 d.keep = true /\ ∃ b, AnnOk P C D N b y /\ ∀ vs st K, F vs st K ->
   exec P C D b y (bld d.keep vs 0 len) st (cutK d K)
 | a, .seq x y => AnnOk P C D N a.l x /\ AnnOk P C D N a.r y
 | a, .cond _ x y => AnnOk P C D N a.l x /\ AnnOk P C D N a.r y
 | a, .block _ b => AnnOk P C D N a b
 | .loop d a, .loop b => N <= d.rbase /\ AnnOk P C D N a b
 | .lift d len F, .loop b => N <= d.rbase /\ rising 0 d.keep = true /\ ∃ a, AnnOk P C D N a b /\ ∀ vs st K, F vs st K ->
   ∃ n, iterL (stepL (exec P C D a b) d.base d K) n (bld d.keep vs 0 len) st
 | _, _ => True
def SoundD (P : Program) (D : List Oper -> List V -> List Ob -> St -> Prop) : Prop :=
 ∀ (w0 : Base) (id : Nat) (ops : Array Oper) (c : Cfg) (sl : List V) (a : Act) (K : St) (Q : Exit -> Act -> World -> Prop), P.info? badT = none -> okOps P ops.toList = true -> Rel w0 c -> SlR c sl a.tmps -> GdIn [] sl -> D ops.toList sl c.st K ->
  (∀ sl' c' a', Rel w0 c' -> Ext c c' -> SlR c' sl' a'.tmps -> GdIn [] sl' -> a'.defers = a.defers -> K sl' c'.st -> Q .normal a' c'.w) -> (Code.region id ops true).wpK P Q a c.w
def ExR : Ex -> Exit -> Prop
 | .normal, .normal => True
 | .exit i, .exit j => i = j
 | .ret, .ret => True
 | _, _ => False
def Done (w0 : Base) (cb : Cfg) (K : Ex -> St) (e : Exit) (a : Act) (w : World) : Prop :=
 ∃ ex sl c, ExR ex e /\ c.w = w /\ Rel w0 c /\ Ext cb c /\ SlR c sl a.tmps /\ GdIn [] sl /\ a.defers = [] /\ K ex sl c.st
theorem GdIn.mono {G : List Nat} {sl : List V} (h : GdIn [] sl) : GdIn G sl := fun t g w v e => absurd (h t g w v e) (by simp)
set_option maxHeartbeats 2000000 in
theorem exec_sound {P : Program} {w0 : Base} {C : Caller} {D : List Oper -> List V -> List Ob -> St -> Prop} (hC : SoundC P C) (hD : SoundD P D) (hB : P.info? badT = none) {N : Nat} : ∀ (code : Code) (ann : Ann) (c cb : Cfg) (sl : List V) (a : Act) (K : Ex -> St),
  cb.st.length <= N -> AnnOk P C D N ann code -> Rel w0 c -> Ext cb c -> SlR c sl a.tmps -> GdIn [] sl -> a.defers = [] -> exec P C D ann code sl c.st K -> code.wpK P (Done w0 cb K) a c.w
 | .skip, ann, c, cb, sl, a, K, hn, hk, hr, hx, hs, hg, hd, h => wpK_skip ⟨.normal, sl, c, trivial, rfl, hr, hx, hs, hg, hd, h⟩
 | .region id ops draw, ann, c, cb, sl, a, K, hn, hk, hr, hx, hs, hg, hd, h => by
  simp only [exec, forceL_eq] at h
  cases hok : okOps P ops.toList with
  | false => rw [hok] at h; exact h.elim
  | true =>
  rw [hok] at h
  simp only [cond_true] at h
  cases draw with
  | true =>
   simp only [if_true] at h
   exact hD w0 id ops c sl a (K .normal) _ hB hok hr hs hg h fun sl' c' a' h1 h2 h3 h4 h5 h6 => ⟨.normal, sl', c', trivial, rfl, h1, hx.trans h2, h3, h4, h5.trans hd, h6⟩
  | false =>
   simp only [Bool.false_eq_true, if_false] at h
   refine wpK_region_list hB ?_
   refine aopsK_sound hC ops.toList hok c [] sl a _ hr hs hg.mono (fun p hp => by simp at hp) h fun sl' c' a' h1 h2 h3 h4 h5 h6 => ?_
   obtain ⟨g1, g2⟩ := clr_rel h3 h4
   exact ⟨.normal, _, c', trivial, rfl, h1, hx.trans h2, g1, g2, h5.trans hd, h6⟩
 | .seq x y, ann, c, cb, sl, a, K, hn, hk, hr, hx, hs, hg, hd, h => by
  have plain : AnnOk P C D N ann.l x -> AnnOk P C D N ann.r y -> (exec P C D ann.l x sl c.st fun e sl' st' => match e with
    | .normal => exec P C D ann.r y sl' st' K
    | .exit i => K (.exit i) sl' st'
    | .ret => K .ret sl' st') -> (Code.seq x y).wpK P (Done w0 cb K) a c.w := by
   intro hk1 hk2 h
   refine wpK_seq (wpK_mono (exec_sound hC hD hB x ann.l c cb sl a _ hn hk1 hr hx hs hg hd h) fun e a' w' hq => ?_)
   obtain ⟨ex, sl', c', h1, rfl, h2, h3, h4, h5, h6, h7⟩ := hq
   cases ex with
   | normal =>
    cases e <;> first | exact h1.elim | skip
    exact exec_sound hC hD hB y ann.r c' cb sl' a' K hn hk2 h2 h3 h4 h5 h6 h7
   | exit i =>
    cases e <;> first | exact h1.elim | skip
    exact ⟨.exit i, sl', c', h1, rfl, h2, h3, h4, h5, h6, h7⟩
   | ret =>
    cases e <;> first | exact h1.elim | skip
    exact ⟨.ret, sl', c', trivial, rfl, h2, h3, h4, h5, h6, h7⟩
  cases ann with
  | cut an d len F =>
   simp only [exec] at h
   simp only [AnnOk] at hk
   obtain ⟨hk1, hbase, hrb, hris, b, hk2, hF⟩ := hk
   refine wpK_seq (wpK_mono (exec_sound hC hD hB x an c cb sl a _ hn hk1 hr hx hs hg hd h) fun e a' w' hq => ?_)
   obtain ⟨ex, sl', c', h1, rfl, h2, h3, h4, h5, h6, h7⟩ := hq
   cases ex with
   | normal =>
    cases e <;> first | exact h1.elim | skip
    simp only at h7
    obtain ⟨sl1, st1, hnn, h7⟩ := norm_out h7
    obtain ⟨c2, hw2, hst2, hr2, hx2, hs2, hg2⟩ := form_sound mvR_ms h2 h3 h4 h5 (by omega) hnn
    cases hlen : Nat.beq sl1.length len with
    | false => rw [hlen] at h7; exact h7.elim
    | true =>
     rw [hlen] at h7
     simp only [cond_true] at h7
     have h8 := hF _ _ K h7
     rw [<- hst2] at h8
     rw [form_form hris hnn, Nat.eq_of_beq_eq_true hlen] at hs2 hg2
     rw [<- hw2]
     refine wpK_mono (exec_sound hC hD hB y b c2 cb _ a' _ hn hk2 hr2 hx2 hs2 hg2 h6 h8) fun e a' w' hq => ?_
     obtain ⟨ex, sl', c', h1, rfl, h2, h3, h4, h5, h6, h7⟩ := hq
     have fin : ∀ (bs : Nat) (vs : List (Nat × Rs)) (ks : List Nat) (ex : Ex), cb.st.length <= bs -> ExR ex e -> norm? (form ownR vs d.oflds bs ks sl' c'.st) (K ex) -> Done w0 cb K e a' c'.w := by
      intro bs vs ks ex hbs hex h7
      obtain ⟨sl3, st3, hn, h7⟩ := norm_out h7
      obtain ⟨c3, hw3, hst3, hr3, hx3, hs3, hg3⟩ := form_sound ownR_ms h2 h3 h4 h5 hbs hn
      rw [<- hst3] at h7
      exact ⟨ex, sl3, c3, hex, hw3, hr3, hx3, hs3, hg3, h6, h7⟩
     cases ex with
     | normal => exact fin d.base d.ovecs d.out .normal (by omega) h1 h7
     | exit i => exact fin d.base d.ovecs d.out (.exit i) (by omega) h1 h7
     | ret => exact fin d.rbase d.rv d.rets .ret (by omega) h1 h7
   | exit i =>
    cases e <;> first | exact h1.elim | skip
    exact ⟨.exit i, sl', c', h1, rfl, h2, h3, h4, h5, h6, h7⟩
   | ret =>
    cases e <;> first | exact h1.elim | skip
    exact ⟨.ret, sl', c', trivial, rfl, h2, h3, h4, h5, h6, h7⟩
  | node al ar =>
   simp only [exec] at h
   simp only [AnnOk] at hk
   refine plain hk.1 hk.2 h
  | _ =>
   simp only [exec] at h
   simp only [AnnOk] at hk
   exact plain hk.1 hk.2 h
 | .cond cnd x y, ann, c, cb, sl, a, K, hn, hk, hr, hx, hs, hg, hd, h => by
  simp only [exec] at h
  simp only [AnnOk] at hk
  split at h
  · next b e =>
    have hb := rdv_rel hs [] cnd (fun g hh => by simp at hh)
    rw [e] at hb
    simp only [RelV] at hb
    cases b with
    | true => exact wpK_cond_true hb (exec_sound hC hD hB x ann.l c cb sl a K hn hk.1 hr hx hs hg hd h)
    | false => exact wpK_cond_false hb (exec_sound hC hD hB y ann.r c cb sl a K hn hk.2 hr hx hs hg hd h)
  · exact h.elim
 | .block id b, ann, c, cb, sl, a, K, hn, hk, hr, hx, hs, hg, hd, h => by
  simp only [exec] at h
  refine wpK_block (wpK_mono (exec_sound hC hD hB b ann c cb sl a _ hn (by simpa only [AnnOk] using hk) hr hx hs hg hd h) fun e a' w' hq => ?_)
  obtain ⟨ex, sl', c', h1, rfl, h2, h3, h4, h5, h6, h7⟩ := hq
  cases ex with
  | normal =>
   cases e <;> first | exact h1.elim | skip
   exact ⟨.normal, sl', c', trivial, rfl, h2, h3, h4, h5, h6, h7⟩
  | exit i =>
   cases e <;> first | exact h1.elim | skip
   next j =>
   simp only [ExR] at h1
   subst h1
   simp only [Exit.inBlock]
   simp only at h7
   split
   · next hij =>
     rw [if_pos hij] at h7
     exact ⟨.normal, sl', c', trivial, rfl, h2, h3, h4, h5, h6, h7⟩
   · next hij =>
     rw [if_neg hij] at h7
     exact ⟨.exit i, sl', c', rfl, rfl, h2, h3, h4, h5, h6, h7⟩
  | ret =>
   cases e <;> first | exact h1.elim | skip
   exact ⟨.ret, sl', c', trivial, rfl, h2, h3, h4, h5, h6, h7⟩
 | .loop b, ann, c, cb, sl, a, K, hn, hk, hr, hx, hs, hg, hd, h => by
  have rounds : ∀ (an : Ann) (d : LoopD) (L0 : Nat), AnnOk P C D N an b -> cb.st.length <= L0 -> N <= d.rbase -> ∀ (n : Nat) (a : Act) (sl2 : List V) (c2 : Cfg), a.defers = [] -> Rel w0 c2 -> Ext cb c2 -> SlR c2 sl2 a.tmps -> GdIn [] sl2 ->
    iterL (stepL (exec P C D an b) L0 d K) n sl2 c2.st -> (Code.loop b).wpK P (Done w0 cb K) a c2.w := by
   intro an d L0 hkb hL hrb n a sl2 c2 hd hr2 hx2 hs2 hg2 h
   refine wpK_loop_rounds n ?_
   induction n generalizing c2 sl2 a with
   | zero => exact h.elim
   | succ n ih =>
    rw [roundsK_succ]
    simp only [iterL] at h
    refine wpK_mono (exec_sound hC hD hB b an c2 cb sl2 a _ hn hkb hr2 hx2 hs2 hg2 hd h) fun e a' w' hq => ?_
    obtain ⟨ex, sl', c', h1, rfl, h2, h3, h4, h5, h6, h7⟩ := hq
    cases ex with
    | normal =>
     cases e <;> first | exact h1.elim | skip
     simp only at h7
     obtain ⟨sl3, st3, hn, h7⟩ := norm_out h7
     obtain ⟨c3, hw3, hst3, hr3, hx3, hs3, hg3⟩ := form_sound ownR_ms h2 h3 h4 h5 hL hn
     rw [<- hst3] at h7
     simp only [Exit.then]
     rw [<- hw3]
     exact ih (a := a') (sl2 := sl3) (c2 := c3) h6 hr3 hx3 hs3 hg3 h7
    | exit i =>
     cases e <;> first | exact h1.elim | skip
     simp only at h7
     obtain ⟨sl3, st3, hn, h7⟩ := norm_out h7
     obtain ⟨c3, hw3, hst3, hr3, hx3, hs3, hg3⟩ := form_sound ownR_ms h2 h3 h4 h5 hL hn
     rw [<- hst3] at h7
     exact ⟨.exit i, sl3, c3, h1, hw3, hr3, hx3, hs3, hg3, h6, h7⟩
    | ret =>
     cases e <;> first | exact h1.elim | skip
     simp only at h7
     obtain ⟨sl3, st3, hn, h7⟩ := norm_out h7
     obtain ⟨c3, hw3, hst3, hr3, hx3, hs3, hg3⟩ := form_sound ownR_ms h2 h3 h4 h5 (by omega) hn
     rw [<- hst3] at h7
     exact ⟨.ret, sl3, c3, trivial, hw3, hr3, hx3, hs3, hg3, h6, h7⟩
  have enter : ∀ (d : LoopD) (F : List V -> List Ob -> Prop), (bif Nat.beq c.st.length d.base then norm? (form mvR d.vecs d.flds d.base d.keep sl c.st) F else False) ->
    ∃ sl2 c2, cb.st.length <= d.base /\ c2.w = c.w /\ Rel w0 c2 /\ Ext cb c2 /\ SlR c2 sl2 a.tmps /\ GdIn [] sl2 /\ F sl2 c2.st /\ (rising 0 d.keep = true -> sl2 = bld d.keep (d.keep.map fun k => sl2.getD k .any) 0 sl2.length) := by
   intro d F h
   cases hb : Nat.beq c.st.length d.base with
   | false => rw [hb] at h; exact h.elim
   | true =>
    rw [hb] at h
    simp only [cond_true] at h
    have hle : cb.st.length <= d.base := by rw [<- Nat.eq_of_beq_eq_true hb]; exact hx.len
    obtain ⟨sl2, st2, hn, h⟩ := norm_out h
    obtain ⟨c2, hw2, hst2, hr2, hx2, hs2, hg2⟩ := form_sound mvR_ms hr hx hs hg hle hn
    exact ⟨sl2, c2, hle, hw2, hr2, hx2, hs2, hg2, by rw [hst2]; exact h, fun hris => form_form hris hn⟩
  cases ann with
  | loop d an =>
   simp only [exec] at h
   simp only [AnnOk] at hk
   obtain ⟨sl2, c2, hle, hw, hr2, hx2, hs2, hg2, ⟨n, h⟩, _⟩ := enter d (fun sl2 st2 => ∃ n, iterL (stepL (exec P C D an b) d.base d K) n sl2 st2) h
   rw [<- hw]
   exact rounds an d d.base hk.2 hle hk.1 n a sl2 c2 hd hr2 hx2 hs2 hg2 h
  | lift d len F =>
   simp only [exec] at h
   simp only [AnnOk] at hk
   obtain ⟨hrb, hris, an, hkb, hF⟩ := hk
   obtain ⟨sl2, c2, hle, hw, hr2, hx2, hs2, hg2, h, f1⟩ := enter d (fun sl1 st1 => bif Nat.beq sl1.length len then F (d.keep.map fun k => sl1.getD k .any) st1 K else False) h
   cases hlen : Nat.beq sl2.length len with
   | false => rw [hlen] at h; exact h.elim
   | true =>
    rw [hlen] at h
    simp only [cond_true] at h
    obtain ⟨n, h⟩ := hF _ _ K h
    rw [<- hw]
    refine rounds an d d.base hkb hle hrb n a sl2 c2 hd hr2 hx2 hs2 hg2 ?_
    rw [f1 hris, Nat.eq_of_beq_eq_true hlen]
    exact h
  | _ => simp [exec] at h
 | .exit i, ann, c, cb, sl, a, K, hn, hk, hr, hx, hs, hg, hd, h => by
  simp only [exec] at h
  exact wpK_exit ⟨.exit i, sl, c, rfl, rfl, hr, hx, hs, hg, hd, h⟩
 | .ret, ann, c, cb, sl, a, K, hn, hk, hr, hx, hs, hg, hd, h => by
  simp only [exec] at h
  exact wpK_ret ⟨.ret, sl, c, trivial, rfl, hr, hx, hs, hg, hd, h⟩
 | .rangeFunc .., ann, c, cb, sl, a, K, hn, hk, hr, hx, hs, hg, hd, h => by simp [exec] at h
 | .scope _, ann, c, cb, sl, a, K, hn, hk, hr, hx, hs, hg, hd, h => by simp [exec] at h
 | .label _, ann, c, cb, sl, a, K, hn, hk, hr, hx, hs, hg, hd, h => by simp [exec] at h
 | .goto _, ann, c, cb, sl, a, K, hn, hk, hr, hx, hs, hg, hd, h => by simp [exec] at h
 | .refuse _, ann, c, cb, sl, a, K, hn, hk, hr, hx, hs, hg, hd, h => by simp [exec] at h
def resV1 (P : Program) (sl : List V) (st : List Ob) : ResultVar -> Option V
 | .tmp t => some (rdv sl [] (.tmp t))
 | .cell a t => aload P st t (rdv sl [] (.tmp a))
def resVs (P : Program) (sl : List V) (st : List Ob) : List ResultVar -> Option (List V)
 | [] => some []
 | r :: rs => match resV1 P sl st r, resVs P sl st rs with
  | some v, some vs => some (v :: vs)
  | _, _ => none
def resV (P : Program) (sl : List V) (st : List Ob) (rs : List ResultVar) : Option V :=
 match resVs P sl st rs with
 | some [v] => some v
 | some vs => some (.tup vs)
 | none => none
def resSem (tmps : Array Value) : ResultVar -> Sem Value
 | .tmp t => pure (tmps.getD t undef)
 | .cell a t => do loadVar t (<- asAddr (tmps.getD a undef))
theorem resV1_sound {P : Program} {w0 : Base} {c : Cfg} (hr : Rel w0 c) {sl : List V} {a : Act} (hs : SlR c sl a.tmps) {r : ResultVar} {v : V} (h : resV1 P sl c.st r = some v) :
  ∃ u, (resSem a.tmps r).run P c.w = .ok u c.w /\ RelV c v u := by
 cases r with
 | tmp t =>
  simp only [resV1, Option.some.injEq] at h
  subst h
  exact ⟨_, rfl, rdv_rel hs [] (.tmp t) (fun g hg => by simp at hg)⟩
 | cell ad t =>
  simp only [resV1, aload] at h
  have hv := rdv_rel hs [] (.tmp ad) (fun g hg => by simp at hg)
  split at h
  · next vs e =>
    obtain ⟨b, o, us, hu, h1, h2⟩ := cellsAt_sound hr e hv
    obtain ⟨x, h3, h4⟩ := getV_sound (P := P) h h1 h2
    refine ⟨x, ?_, h4⟩
    simp only [Act.eval] at hu
    simp only [resSem, hu, asAddr, Sem.run_bind, Sem.run_pure, Result.andThen_ok, h3]
  · cases h
theorem resVs_sound {P : Program} {w0 : Base} {c : Cfg} (hr : Rel w0 c) {sl : List V} {a : Act} (hs : SlR c sl a.tmps) : ∀ {rs : List ResultVar} {vs : List V}, resVs P sl c.st rs = some vs ->
  ∃ us, (rs.mapM (resSem a.tmps)).run P c.w = .ok us c.w /\ RelVs c vs us
 | [], vs, h => by
  simp only [resVs, Option.some.injEq] at h
  subst h
  exact ⟨[], rfl, RelVs.nil⟩
 | r :: rs, vs, h => by
  simp only [resVs] at h
  split at h
  · next v vs' h1 h2 =>
    cases h
    obtain ⟨u, g1, g2⟩ := resV1_sound (P := P) hr hs h1
    obtain ⟨us, g3, g4⟩ := resVs_sound hr hs h2
    exact ⟨u :: us, by simp only [List.mapM_cons, Sem.run_bind, g1, Result.andThen_ok, g3, Sem.run_pure], RelVs.cons g2 g4⟩
  · cases h
theorem results_eq (fn : Func) (tmps : Array Value) : results fn tmps = (do let vs <- fn.results.mapM (resSem tmps); pure (if h : vs.size = 1 then vs[0] else .tuple vs)) := by
 unfold results
 congr 1
theorem resV_sound {P : Program} {w0 : Base} {c : Cfg} (hr : Rel w0 c) {sl : List V} {a : Act} (hs : SlR c sl a.tmps) {fn : Func} {v : V} (h : resV P sl c.st fn.results.toList = some v) :
  ∃ u, (results fn a.tmps).run P c.w = .ok u c.w /\ RelV c v u := by
 have key : ∀ vs, resVs P sl c.st fn.results.toList = some vs -> ∃ us, (results fn a.tmps).run P c.w = .ok (if h : us.length = 1 then us[0] else .tuple us.toArray) c.w /\ RelVs c vs us := by
  intro vs hvs
  obtain ⟨us, h1, h2⟩ := resVs_sound (P := P) hr hs hvs
  refine ⟨us, ?_, h2⟩
  rw [results_eq, Sem.run_bind, <- Array.toArray_toList (xs := fn.results), List.mapM_toArray, Sem.run_map, h1]
  simp
 unfold resV at h
 split at h
 · next v' e =>
   cases h
   obtain ⟨us, h1, h2⟩ := key _ e
   simp only [RelVs] at h2
   obtain ⟨u, us', rfl, h3, rfl⟩ := h2
   exact ⟨u, by simpa using h1, h3⟩
 · next vs hne e =>
   cases h
   obtain ⟨us, h1, h2⟩ := key _ e
   have hl := h2.length
   have hn : ¬ us.length = 1 := by
    intro hh
    rw [hh] at hl
    match vs, hl with
    | [x], _ => exact hne x rfl
   rw [dif_neg hn] at h1
   exact ⟨_, h1, by simp only [RelV]; exact ⟨_, rfl, by simpa using h2⟩⟩
 · cases h
def execF (P : Program) (C : Caller) (D : List Oper -> List V -> List Ob -> St -> Prop) (ann : Ann) (fn : Func) (args : List V) (st : List Ob) (K : V -> List Ob -> Prop) : Prop :=
 bif (P.info? badT).isNone then (match fn.body with
 | some code => exec P C D ann code (args.map nogd ++ List.replicate (fn.ntmps - args.length) .any) st fun e sl' st' => match e with
  | .exit _ => False
  | _ => match resV P sl' st' fn.results.toList with
   | some v => K v st'
   | none => False
 | none => False) else False
theorem fn_sound {P : Program} {w0 : Base} {C : Caller} {D : List Oper -> List V -> List Ob -> St -> Prop} (hC : SoundC P C) (hD : SoundD P D) {f : FuncId} {fn : Func} (hf : P.funcs[f]? = some fn) {ann : Ann} {N : Nat} (hk : ∀ code, fn.body = some code -> AnnOk P C D N ann code) {c : Cfg} (hn : c.st.length <= N) {args : List V} {us : Array Value} {K : V -> List Ob -> Prop}
  (hr : Rel w0 c) (ha : RelVs c args us.toList) (h : execF P C D ann fn args c.st K) :
  CallsK P f us c.w fun e w' => ∃ u v c', e = .returned u /\ c'.w = w' /\ Rel w0 c' /\ Ext c c' /\ RelV c' v u /\ K v c'.st := by
 unfold execF at h
 cases hB0 : (P.info? badT).isNone with
 | false => rw [hB0] at h; exact h.elim
 | true =>
 rw [hB0] at h
 simp only [cond_true] at h
 have hB : P.info? badT = none := by simpa using hB0
 cases hb : fn.body with
 | none => rw [hb] at h; exact h.elim
 | some code =>
  rw [hb] at h
  simp only at h
  refine calls_of_wpK hB hf hb ?_
  have hlen := ha.length
  simp only [Array.length_toList] at hlen
  have hget : ∀ t, (args.map nogd ++ List.replicate (fn.ntmps - args.length) V.any).getD t .any = nogd (args.getD t .any) := by
   intro t
   simp only [List.getD_eq_getElem?_getD, List.getElem?_append, List.length_map, List.getElem?_map, List.getElem?_replicate]
   split
   · next h => rw [List.getElem?_eq_getElem h]; rfl
   · next h =>
     rw [List.getElem?_eq_none (by omega)]
     split <;> rfl
  have hs : SlR c (args.map nogd ++ List.replicate (fn.ntmps - args.length) .any) (us ++ Array.replicate (fn.ntmps - us.size) undef) := by
   refine ⟨by simp; omega, fun t => ?_⟩
   unfold SlotR
   rw [hget]
   split
   · next g w x e => exact absurd e nogd_ne
   · cases hav : args[t]? with
     | none => simp only [List.getD_eq_getElem?_getD, hav, Option.getD_none, nogd, RelV]
     | some v =>
      obtain ⟨u, h1, h2⟩ := ha.get hav
      simp only [Array.getElem?_toList] at h1
      have hlt : t < us.size := (Array.getElem?_eq_some_iff.1 h1).1
      simp only [List.getD_eq_getElem?_getD, hav, Option.getD_some, Array.getD_eq_getD_getElem?, Array.getElem?_append, hlt, if_true, h1]
      exact nogd_rel h2
  refine wpK_mono (exec_sound hC hD hB code ann c c _ { tmps := us ++ Array.replicate (fn.ntmps - us.size) undef, defers := [] } _ hn (hk code hb) hr (Ext.refl c) hs (fun t g w x e => by rw [hget] at e; exact absurd e nogd_ne) rfl h) fun e a' w' hq => ?_
  obtain ⟨ex, sl', c', h1, rfl, h2, h3, h4, h5, h6, h7⟩ := hq
  have fin : (match resV P sl' c'.st fn.results.toList with | some v => K v c'.st | none => False) ->
    a'.defers = [] /\ Wl P (results fn a'.tmps) /\ ∀ d, ∃ v, (results fn a'.tmps).run P (c'.w.at d) = .ok v (c'.w.at d) /\ ∃ u v2 c'', (Ending.returned v) = .returned u /\ c''.w = c'.w /\ Rel w0 c'' /\ Ext c c'' /\ RelV c'' v2 u /\ K v2 c''.st := by
   intro hk
   split at hk
   · next v e =>
     refine ⟨h6, wl_results, fun d => ?_⟩
     obtain ⟨hr1, hx1⟩ := at_rel h2 d
     obtain ⟨u, g1, g2⟩ := resV_sound (P := P) (c := c'.at d) hr1 (SlR.ext hx1 h4) e
     have g3 : RelV ((c'.at d).at c'.w.drawn) v u := RelV.ext (at_rel hr1 c'.w.drawn).2 _ _ g2
     exact ⟨u, g1, u, v, c', rfl, rfl, h2, h3, g3, hk⟩
   · exact hk.elim
  cases ex with
  | normal =>
   cases e <;> first | exact h1.elim | skip
   exact fin h7
  | exit i => exact h7.elim
  | ret =>
   cases e <;> first | exact h1.elim | skip
   exact fin h7
abbrev SemF := List V -> (V -> List Ob -> Prop) -> Prop
def cfg0 (w : World) (A : Nat -> Nat -> Prop) : Cfg := { w := w, bl := fun _ => none, st := [], A := A }
def SoundFn (P : Program) (f : FuncId) (sem : SemF) : Prop :=
 ∀ (w : World) (A : Nat -> Nat -> Prop) (args : List V) (us : Array Value) (K : V -> List Ob -> Prop), (∀ b o, A b o -> b < w.heap.size) -> RelVs (cfg0 w A) args us.toList -> sem args K ->
  CallsK P f us w fun e w' => ∃ u v c', e = .returned u /\ c'.w = w' /\ Rel ⟨w, A, fun _ => False⟩ c' /\ Ext (cfg0 w A) c' /\ RelV c' v u /\ K v c'.st
theorem rel0 {w : World} {A : Nat -> Nat -> Prop} (h : ∀ b o, A b o -> b < w.heap.size) : Rel ⟨w, A, fun _ => False⟩ (cfg0 w A) where
 below := Kept.refl _ _ _
 inj := fun r r' b hl => by simp [live, cfg0] at hl
 fresh := fun r b hl => by simp [live, cfg0] at hl
 bound := h
 newA := fun b o h => .inl h
 obj := fun r ob h => by simp [cfg0] at h
 pl := PoolOk.none fun r m h => by simp [cfg0] at h
def runF (P : Program) (C : Caller) (D : List Oper -> List V -> List Ob -> St -> Prop) (ann : Ann) (rs : Rs) (fn : Func) : SemF := fun args K =>
 execF P C D ann fn args [] fun v0 st0 => match ownR rs v0 st0 with
  | (v, st) => match ren (vrefs v) v with
   | some v' => if distinct (vrefs v) = true then if okObs (vrefs v) ((vrefs v).map fun i => st.getD i .dead) = true then K v' ((vrefs v).map fun i => st.getD i .dead) else False else False
   | none => False
theorem runF_sound {P : Program} {C : Caller} {D : List Oper -> List V -> List Ob -> St -> Prop} (hC : SoundC P C) (hD : SoundD P D) {f : FuncId} {fn : Func} (hf : P.funcs[f]? = some fn) (ann : Ann) (rs : Rs) (hk : ∀ code, fn.body = some code -> AnnOk P C D 0 ann code) : SoundFn P f (runF P C D ann rs fn) := by
 intro w A args us K hA ha h
 refine (fn_sound hC hD hf hk (c := cfg0 w A) (Nat.le_refl 0) (w0 := ⟨w, A, fun _ => False⟩) (rel0 hA) ha h).mono fun e w' hh => ?_
 obtain ⟨u, v0, c0, rfl, rfl, h1, h2, h3, h4⟩ := hh
 obtain ⟨c', e1, e2, g1, g2, g3⟩ := ownR_sound rs v0 c0 h1
 have g4 := g3 u h3
 have h5 := h2.trans g2
 rw [<- e1]
 generalize hv : (ownR rs v0 c0.st).1 = v at *
 split at h4
 next v1 st1 heq =>
 have ev : v1 = v := by rw [<- hv, heq]
 have es : st1 = c'.st := by rw [e2, heq]
 subst ev es
 split at h4
 · next v' hv' =>
   split at h4
   · next hd =>
     split at h4
     · next hk =>
       exact ⟨u, v', reC c' (vrefs v1), rfl, rfl, re_rel g1 hd hk, re_ext h5 (fun r hr => by simp [cfg0] at hr), ren_rel v1 v' u hv' g4, h4⟩
     · exact h4.elim
   · exact h4.elim
 · exact h4.elim
theorem annOk_leaf {P : Program} {C : Caller} {D : List Oper -> List V -> List Ob -> St -> Prop} {N : Nat} : ∀ (code : Code), AnnOk P C D N .leaf code
 | .seq x y => ⟨annOk_leaf x, annOk_leaf y⟩
 | .cond _ x y => ⟨annOk_leaf x, annOk_leaf y⟩
 | .block _ b => by simp only [AnnOk]; exact annOk_leaf b
 | .loop b => by simp only [AnnOk]
 | .skip | .region _ _ _ | .rangeFunc _ _ _ _ | .exit _ | .scope _ | .label _ | .goto _ | .ret | .refuse _ => by simp only [AnnOk]
theorem SoundFn.of_imp {P : Program} {f : FuncId} {sem sem' : SemF} (h : SoundFn P f sem') (hi : ∀ args K, sem args K -> sem' args K) : SoundFn P f sem :=
 fun w A args us K hA ha hs => h w A args us K hA ha (hi args K hs)
abbrev SemO := List V -> List Ob -> (V -> List Ob -> Prop) -> Prop
def SoundO (P : Program) (f : FuncId) (sem : SemO) : Prop :=
 ∀ (w0 : Base) (c : Cfg) (args : List V) (us : Array Value) (K : V -> List Ob -> Prop), Rel w0 c -> RelVs c args us.toList -> sem args c.st K ->
  CallsK P f us c.w fun e w' => ∃ u v c', e = .returned u /\ c'.w = w' /\ Rel w0 c' /\ Ext c c' /\ RelV c' v u /\ K v c'.st
def packO (k : Nat) (v : V) (st : List Ob) (K : V -> List Ob -> Prop) : Prop :=
 match reach st 4 (addN (List.range k) (names v)) with
 | g => bif distinct g && Nat.ble k g.length && (List.range k).all (fun r => match g[r]? with | some i => Nat.beq i r | none => false) then
   match renD g v with
   | some v' => K v' (g.map fun i => renO g (st.getD i .dead))
   | none => False
  else False
theorem packO_sound {w0 : Base} {cb c : Cfg} (hr : Rel w0 c) (hx : Ext cb c) {k : Nat} (hk : cb.st.length <= k) {v : V} {u : Value} (hv : RelV c v u) {K : V -> List Ob -> Prop} (h : packO k v c.st K) :
  ∃ v' c', c'.w = c.w /\ Rel w0 c' /\ Ext cb c' /\ RelV c' v' u /\ K v' c'.st := by
 unfold packO at h
 simp only at h
 generalize reach c.st 4 (addN (List.range k) (names v)) = g at h
 cases hc : distinct g && Nat.ble k g.length && (List.range k).all (fun r => match g[r]? with | some i => Nat.beq i r | none => false) with
 | false => rw [hc] at h; exact h.elim
 | true =>
  rw [hc] at h
  simp only [cond_true] at h
  simp only [Bool.and_eq_true, List.all_eq_true] at hc
  obtain ⟨⟨hd, hl⟩, ha⟩ := hc
  split at h
  · next v' hv' =>
    refine ⟨v', reD c g, rfl, reD_rel hr hd, reD_ext hx (fun r hrl => ?_), renD_rel v v' u hv' hv, h⟩
    have := ha r (by simp; omega)
    split at this
    · next i hi => rw [hi, Nat.eq_of_beq_eq_true this]
    · cases this
  · exact h.elim
def endO (rs : Rs) (flds : List (Nat × Nat × Rs)) (k : Nat) (K : V -> List Ob -> Prop) (v0 : V) (st0 : List Ob) : Prop := match ownR rs v0 st0 with
 | (v, st1) => packO k v (coF ownR flds st1) K
theorem endO_sound {w0 : Base} {c c0 : Cfg} {rs : Rs} {flds : List (Nat × Nat × Rs)} {k : Nat} {K : V -> List Ob -> Prop} {v0 : V} {u : Value} (hlen : c.st.length <= k) (h1 : Rel w0 c0) (h2 : Ext c c0) (h3 : RelV c0 v0 u) (h4 : endO rs flds k K v0 c0.st) :
  ∃ v' c', c'.w = c0.w /\ Rel w0 c' /\ Ext c c' /\ RelV c' v' u /\ K v' c'.st := by
 unfold endO at h4
 obtain ⟨c1, e1, e2, g1, g2, g3⟩ := ownR_sound rs v0 c0 h1
 have g4 := g3 u h3
 split at h4
 next v1 st1 heq =>
 have ev : (ownR rs v0 c0.st).1 = v1 := by rw [heq]
 have es : st1 = c1.st := by rw [e2, heq]
 rw [ev] at g4
 rw [es] at h4
 obtain ⟨c2, j1, j2, j3, j4⟩ := coF_sound ownR_ms flds c1 g1
 rw [<- j2] at h4
 obtain ⟨v', c', k1, k2, k3, k4, k5⟩ := packO_sound j3 ((h2.trans g2).trans j4) hlen (RelV.ext j4 _ _ g4) h4
 exact ⟨v', c', k1.trans (j1.trans e1), k2, k3, k4, k5⟩
def runO (P : Program) (C : Caller) (D : List Oper -> List V -> List Ob -> St -> Prop) (ann : Ann) (rs : Rs) (flds : List (Nat × Nat × Rs)) (fn : Func) (pl : Bool) (k : Nat) : SemO := fun args st K =>
 bif Nat.beq st.length k then (match pl with
  | false => execF P C D ann fn args st (endO rs flds k K)
  | true => match poolAt 0 st with
   | some _ => False
   | none => execF P C D ann fn args (st ++ [.pool []]) fun v0 st0 => settleP k st0 (endO rs flds k K v0)) else False
theorem poolAt_none : ∀ {st : List Ob} {i r : Nat} {m : Pool}, poolAt i st = none -> st[r]? ≠ some (.pool m)
 | ob :: st, i, 0, m, h, e => by
  simp only [List.getElem?_cons_zero, Option.some.injEq] at e
  subst e
  simp [poolAt] at h
 | ob :: st, i, r + 1, m, h, e => by
  refine poolAt_none (st := st) (i := i + 1) (r := r) (m := m) ?_ (by simpa using e)
  cases ob <;> first | exact h | simp [poolAt] at h
theorem newpool_rel {w0 : Base} {c : Cfg} (hr : Rel w0 c) (hn : poolAt 0 c.st = none) : Rel w0 { c with st := c.st ++ [.pool []], bl := fun r => if r = c.st.length then none else c.bl r } /\ Ext c { c with st := c.st ++ [.pool []], bl := fun r => if r = c.st.length then none else c.bl r } := by
 have hblr : ∀ r, r < c.st.length -> (if r = c.st.length then none else c.bl r) = c.bl r := fun r h => by rw [if_neg (by omega)]
 have hx : Ext c { c with st := c.st ++ [.pool []], bl := fun r => if r = c.st.length then none else c.bl r } := {
  size := Nat.le_refl _
  sub := fun _ _ h => h
  cells := fun _ _ _ => rfl
  len := by simp
  keep := fun r ob' hrl h => by
   simp only at h
   rw [List.getElem?_append_left hrl] at h
   cases ob' with
   | dead => trivial
   | cells cs => exact ⟨⟨cs, h⟩, hblr r hrl⟩
   | pool m => exact ⟨m, h⟩
   | vec t f xs => exact ⟨f, xs, h, rfl, hblr r hrl, fun _ _ _ h => h⟩ }
 have hlive : ∀ r b, live (c.st ++ [Ob.pool []]) r -> (if r = c.st.length then none else c.bl r) = some b -> live c.st r /\ c.bl r = some b := by
  intro r b h hb
  have h1 := live_lt h
  simp only [List.length_append, List.length_singleton] at h1
  rcases Nat.lt_or_ge r c.st.length with g | g
  · rw [hblr r g] at hb
    refine ⟨?_, hb⟩
    unfold live at h ⊢
    rw [List.getElem?_append_left g] at h
    exact h
  · obtain rfl : r = c.st.length := by omega
    simp at hb
 refine ⟨?_, hx⟩
 exact {
  below := hr.below
  inj := fun r r' b h h' hb hb' => hr.inj r r' b (hlive r b h hb).1 (hlive r' b h' hb').1 (hlive r b h hb).2 (hlive r' b h' hb').2
  fresh := fun r b h hb => hr.fresh r b (hlive r b h hb).1 (hlive r b h hb).2
  bound := hr.bound
  newA := hr.newA
  obj := fun r ob' h => by
   rcases get_push h with ⟨g, h1⟩ | ⟨rfl, rfl⟩
   · exact OkOb.keep hx (hblr r g) (fun _ _ => rfl) (fun _ _ _ h => h) (hr.obj r _ h1)
   · show (if c.st.length = c.st.length then none else _) = none
     simp
  pl := by
   have hq : ∀ (r : Nat) (m : Pool), (c.st ++ [Ob.pool []])[r]? = some (.pool m) -> r = c.st.length /\ m = [] := fun r m h => by
    rcases get_push h with ⟨_, h1⟩ | ⟨g, h1⟩
    · exact absurd h1 (poolAt_none hn)
    · cases h1; exact ⟨g, rfl⟩
   exact ⟨fun r r' m m' h h' => by rw [(hq r m h).1, (hq r' m' h').1], fun r m h => by
    rw [(hq r m h).2]
    exact ⟨by simp, fun b row hb => by simp at hb⟩⟩ }
set_option maxHeartbeats 1600000 in
theorem runO_sound {P : Program} {C : Caller} {D : List Oper -> List V -> List Ob -> St -> Prop} (hC : SoundC P C) (hD : SoundD P D) {f : FuncId} {fn : Func} (hf : P.funcs[f]? = some fn) (ann : Ann) (rs : Rs) (flds : List (Nat × Nat × Rs)) (pl : Bool) (k N : Nat) (hN : N = bif pl then k + 1 else k) (hk : ∀ code, fn.body = some code -> AnnOk P C D N ann code) : SoundO P f (runO P C D ann rs flds fn pl k) := by
 intro w0 c args us K hr ha h
 unfold runO at h
 cases hl : Nat.beq c.st.length k with
 | false => rw [hl] at h; exact h.elim
 | true =>
  rw [hl] at h
  simp only [cond_true] at h
  have hlen : c.st.length <= k := by rw [Nat.eq_of_beq_eq_true hl]; exact Nat.le_refl _
  cases pl with
  | false =>
   simp only [cond_false] at hN
   subst hN
   refine (fn_sound hC hD hf hk (c := c) hlen hr ha h).mono fun e w' hh => ?_
   obtain ⟨u, v0, c0, rfl, rfl, h1, h2, h3, h4⟩ := hh
   obtain ⟨v', c', k1, k2, k3, k4, k5⟩ := endO_sound hlen h1 h2 h3 h4
   exact ⟨u, v', c', rfl, k1, k2, k3, k4, k5⟩
  | true =>
   simp only [cond_true] at hN
   subst hN
   simp only at h
   split at h
   · exact h.elim
   · next hno =>
     obtain ⟨cp, q1, q2, p1, p2⟩ : ∃ cp : Cfg, cp.w = c.w /\ cp.st = c.st ++ [.pool []] /\ Rel w0 cp /\ Ext c cp :=
      ⟨{ c with st := c.st ++ [.pool []], bl := fun r => if r = c.st.length then none else c.bl r }, rfl, rfl, newpool_rel hr hno⟩
     rw [<- q2] at h
     have hl2 : cp.st.length <= k + 1 := by rw [q2, List.length_append]; simp only [List.length_singleton]; omega
     rw [<- q1]
     refine (fn_sound hC hD hf hk (c := cp) hl2 p1 (RelVs.ext p2 _ _ ha) h).mono fun e w' hh => ?_
     obtain ⟨u, v0, c0, rfl, rfl, h1, h2, h3, h4⟩ := hh
     obtain ⟨c1, s1, s2, s3, s4, s5⟩ := settle_sound h1 (p2.trans h2) hlen h4
     have s6 : RelV c1 v0 u := s4 v0 u h3
     have s7 : endO rs flds k K v0 c1.st := s5
     obtain ⟨v', c', k1, k2, k3, k4, k5⟩ := endO_sound (c := c) (c0 := c1) (v0 := v0) (u := u) hlen s2 s3 s6 s7
     exact ⟨u, v', c', rfl, k1.trans s1, k2, k3, k4, k5⟩
mutual
def mapV (h : Nat -> Nat) : V -> V
 | .rc cs j => .rc (mapVs h cs) j
 | .cl r i => .cl (h r) i
 | .el r i j => .el (h r) i j
 | .vec r => .vec (h r)
 | .vw r lo n => .vw (h r) lo n
 | .agg cs => .agg (mapVs h cs)
 | .tup cs => .tup (mapVs h cs)
 | .fn f a b => .fn f (mapVs h a) (mapVs h b)
 | v => v
def mapVs (h : Nat -> Nat) : List V -> List V
 | [] => []
 | v :: vs => mapV h v :: mapVs h vs
end
def mapO (h : Nat -> Nat) : Ob -> Ob
 | .cells cs => .cells (mapVs h cs)
 | ob => ob
mutual
theorem mapV_rel {c c' : Cfg} {h : Nat -> Nat} (hA : ∀ b o, c.A b o -> c'.A b o) (hw : c'.w = c.w) (hs : ∀ j ob, c.st[j]? = some ob -> c'.st[h j]? = some (mapO h ob)) (hb : ∀ j ob, c.st[j]? = some ob -> c'.bl (h j) = c.bl j) :
  ∀ (v : V) (u : Value), RelV c v u -> RelV c' (mapV h v) u
 | .any, u, _ => by simp only [mapV, RelV]
 | .x v, u, hv => by simpa only [mapV, RelV] using hv
 | .ro t xs, u, hv => by
  simp only [mapV, RelV] at *
  exact RoV.ext hA (fun b o _ => by rw [hw]) hv
 | .rc cs j, u, hv => by
  simp only [mapV, RelV] at *
  obtain ⟨b, o, e, hc⟩ := hv
  obtain ⟨us, h1, h2⟩ := RelC.list hc
  exact ⟨b, o, e, RelC.mk (mapVs_rel hA hw hs hb cs us h1) fun k x hk => ⟨by rw [hw]; exact (h2 k x hk).1, hA _ _ (h2 k x hk).2⟩⟩
 | .cl r i, u, hv => by
  have hsh := cl_shape hv
  simp only [mapV, RelV] at *
  cases he : c.st[r]? with
  | none => rw [he] at hv; exact hv.elim
  | some ob =>
   rw [he] at hv
   rw [hs r ob he, hb r ob he]
   cases ob <;> first | exact hv | exact hsh
 | .el r i j, u, hv => by
  have hsh := el_shape hv
  simp only [mapV, RelV] at *
  cases he : c.st[r]? with
  | none => rw [he] at hv; exact hv.elim
  | some ob =>
   rw [he] at hv
   rw [hs r ob he, hb r ob he]
   cases ob <;> first | exact hv | exact hsh
 | .vec r, u, hv => by
  have hsh := vec_shape hv
  simp only [mapV, RelV] at *
  cases he : c.st[r]? with
  | none => rw [he] at hv; exact hv.elim
  | some ob =>
   rw [he] at hv
   rw [hs r ob he, hb r ob he]
   cases ob with
   | vec t f xs => simp only [mapO]; rw [hw]; exact hv
   | _ => exact hsh
 | .vw r lo n, u, hv => by
  have hsh := vw_shape hv
  simp only [mapV, RelV] at *
  cases he : c.st[r]? with
  | none => rw [he] at hv; exact hv.elim
  | some ob =>
   rw [he] at hv
   rw [hs r ob he, hb r ob he]
   cases ob with
   | vec t f xs => simp only [mapO]; rw [hw]; exact hv
   | _ => exact hsh
 | .agg cs, u, hv => by
  simp only [mapV, RelV] at *
  obtain ⟨us, e, h1⟩ := hv
  exact ⟨us, e, mapVs_rel hA hw hs hb cs _ h1⟩
 | .tup cs, u, hv => by
  simp only [mapV, RelV] at *
  obtain ⟨us, e, h1⟩ := hv
  exact ⟨us, e, mapVs_rel hA hw hs hb cs _ h1⟩
 | .fn f a b, u, hv => by
  simp only [mapV, RelV] at *
  obtain ⟨us1, us2, e, h1, h2⟩ := hv
  exact ⟨us1, us2, e, mapVs_rel hA hw hs hb a _ h1, mapVs_rel hA hw hs hb b _ h2⟩
 | .gd _ _ _, u, _ => by simp only [mapV, RelV]
 | .hd x, u, hv => by simpa only [mapV, RelV] using hv
 | .pt a i, u, hv => by simpa only [mapV, RelV] using hv
theorem mapVs_rel {c c' : Cfg} {h : Nat -> Nat} (hA : ∀ b o, c.A b o -> c'.A b o) (hw : c'.w = c.w) (hs : ∀ j ob, c.st[j]? = some ob -> c'.st[h j]? = some (mapO h ob)) (hb : ∀ j ob, c.st[j]? = some ob -> c'.bl (h j) = c.bl j) :
  ∀ (vs : List V) (us : List Value), RelVs c vs us -> RelVs c' (mapVs h vs) us
 | [], us, hv => by simpa only [mapVs, RelVs] using hv
 | v :: vs, us, hv => by
  simp only [mapVs, RelVs] at *
  obtain ⟨u, us', e, h1, h2⟩ := hv
  exact ⟨u, us', e, mapV_rel hA hw hs hb v u h1, mapVs_rel hA hw hs hb vs us' h2⟩
end
def home (g : List Nat) (n j : Nat) : Nat := match g[j]? with
 | some i => i
 | none => n + (j - g.length)
def backO (g : List Nat) (st st1 : List Ob) : List Ob :=
 ((List.range st.length).map fun r => match pos g r with
  | some j => mapO (home g st.length) (st1.getD j .dead)
  | none => st.getD r .dead) ++ (st1.drop g.length).map (mapO (home g st.length))
def pools : Nat -> List Ob -> List Nat
 | _, [] => []
 | i, .pool _ :: r => i :: pools (i + 1) r
 | i, _ :: r => pools (i + 1) r
theorem pools_mem : ∀ {st : List Ob} {r : Nat} {m : Pool}, st[r]? = some (.pool m) -> ∀ i, i + r ∈ pools i st
 | ob :: st, 0, m, h, i => by
  simp only [List.getElem?_cons_zero, Option.some.injEq] at h
  subst h
  simp [pools]
 | ob :: st, r + 1, m, h, i => by
  have := pools_mem (st := st) (by simpa using h) (i + 1)
  rw [show i + (r + 1) = i + 1 + r from by omega]
  cases ob <;> simp only [pools] <;> first | exact this | exact List.mem_cons_of_mem _ this
theorem has_mem : ∀ {l : List Nat} {x : Nat}, has l x = true -> x ∈ l
 | y :: r, x, h => by
  simp only [has, Bool.or_eq_true] at h
  rcases h with h | h
  · rw [Nat.eq_of_beq_eq_true h]; simp
  · exact List.mem_cons_of_mem _ (has_mem h)
def callO (sem : SemO) (args : List V) (st : List Ob) (K : V -> List Ob -> Prop) : Prop :=
 match reach st 4 (addN (pools 0 st) (namesL args)) with
 | g => bif distinct g && g.all (fun i => Nat.blt i st.length) && (pools 0 st).all (fun i => has g i) then
   match renDL g args with
   | some args' => sem args' (g.map fun i => renO g (st.getD i .dead)) fun v st1 => K (mapV (home g st.length) v) (backO g st st1)
   | none => False
  else False
theorem pos_of_get : ∀ {l : List Nat} {j i : Nat}, distinct l = true -> l[j]? = some i -> pos l i = some j
 | [], j, i, _, h => by simp at h
 | y :: r, 0, i, _, h => by
  simp only [List.getElem?_cons_zero, Option.some.injEq] at h
  simp [pos, h]
 | y :: r, j + 1, i, hd, h => by
  simp only [distinct, Bool.and_eq_true, Bool.not_eq_true'] at hd
  simp only [List.getElem?_cons_succ] at h
  have hm := List.mem_of_getElem? h
  have hne : ¬ y = i := by
   rintro rfl
   have := hd.1
   simp at this
   exact this hm
  simp only [pos, if_neg hne, pos_of_get hd.2 h]
def backC (c : Cfg) (g : List Nat) (c1 : Cfg) : Cfg :=
 { w := c1.w, A := c1.A, st := backO g c.st c1.st, bl := fun r => if r < c.st.length then (match pos g r with | some j => c1.bl j | none => c.bl r) else c1.bl (g.length + (r - c.st.length)) }
theorem callO_sound {P : Program} {f : FuncId} {sem : SemO} (h : SoundO P f sem) {w0 : Base} {c : Cfg} {args : List V} {us : Array Value} {K : V -> List Ob -> Prop} (hr : Rel w0 c) (ha : RelVs c args us.toList) (hc : callO sem args c.st K) :
  CallsK P f us c.w fun e w' => ∃ u v c', e = .returned u /\ c'.w = w' /\ Rel w0 c' /\ Ext c c' /\ RelV c' v u /\ K v c'.st := by
 unfold callO at hc
 simp only at hc
 generalize reach c.st 4 (addN (pools 0 c.st) (namesL args)) = g at hc
 cases hcc : distinct g && g.all (fun i => Nat.blt i c.st.length) && (pools 0 c.st).all (fun i => has g i) with
 | false => rw [hcc] at hc; exact hc.elim
 | true =>
  rw [hcc] at hc
  simp only [cond_true] at hc
  simp only [Bool.and_eq_true, List.all_eq_true] at hcc
  obtain ⟨⟨hd, hall⟩, hpl⟩ := hcc
  split at hc
  · next args' hargs =>
    have hsub : Rel ⟨c.w, c.A, fun b => (∃ i, i ∈ g /\ live c.st i /\ c.bl i = some b) \/ ∃ (i : Nat) (m : Pool) (row : List Int × Nat), i ∈ g /\ c.st[i]? = some (Ob.pool m) /\ (b, row) ∈ m⟩ (reD c g) := {
     below := Kept.refl _ _ _
     inj := fun r r' b h h' hb hb' => by
      obtain ⟨i, g1, g2, g3⟩ := reD_live h
      obtain ⟨i', k1, k2, k3⟩ := reD_live h'
      have := hr.inj i i' b g2 k2 (g3 ▸ hb) (k3 ▸ hb')
      subst this
      exact distinct_inj hd g1 k1
     fresh := fun r b h hb => by
      obtain ⟨i, g1, g2, g3⟩ := reD_live h
      exact .inr (.inl ⟨i, List.mem_of_getElem? g1, g2, g3 ▸ hb⟩)
     bound := hr.bound
     newA := fun b o h => .inl h
     obj := reD_obj hr.obj
     pl := by
      have hpool : ∀ (r : Nat) (m : Pool), (reD c g).st[r]? = some (Ob.pool m) -> ∃ i, g[r]? = some i /\ c.st[i]? = some (Ob.pool m) := fun r m hm => by
       cases hg : g[r]? with
       | none => simp [reD, hg] at hm
       | some i =>
        rw [reD_st hg] at hm
        refine ⟨i, rfl, ?_⟩
        cases hs : c.st[i]? with
        | none => simp [List.getD, hs, renO] at hm
        | some ob' =>
         rw [getD_of hs] at hm
         rw [renO_pool (Option.some.inj hm)]
      refine ⟨fun r r' m m' h1 h2 => ?_, fun r m hm => ?_⟩
      · obtain ⟨i, g1, g2⟩ := hpool r m h1
        obtain ⟨i', k1, k2⟩ := hpool r' m' h2
        have := hr.pl.1 i i' m m' g2 k2
        subst this
        exact distinct_inj hd g1 k1
      · obtain ⟨i, g1, g2⟩ := hpool r m hm
        obtain ⟨hn, hp⟩ := hr.pl.2 i m g2
        refine ⟨hn, fun b row hb => ?_⟩
        obtain ⟨_, h2, h3, h4⟩ := hp b row hb
        refine ⟨.inr (.inr ⟨i, m, row, List.mem_of_getElem? g1, g2, hb⟩), fun r0 k1 k2 => ?_, h3, h4⟩
        obtain ⟨i0, _, q2, q3⟩ := reD_live k1
        exact h2 i0 q2 (q3 ▸ k2) }
    refine (h _ (reD c g) args' us _ hsub (renDL_rel args args' _ hargs ha) hc).mono fun e w' hh => ?_
    obtain ⟨u, v, c1, rfl, rfl, h1, h2, h3, h4⟩ := hh
    have hglen : g.length <= c1.st.length := by
     have := h2.len
     simpa [reD] using this
    have hpos : ∀ {r j : Nat}, pos g r = some j -> g[j]? = some r /\ r < c.st.length /\ j < g.length := fun {r j} hp => by
     have hg := pos_get hp
     have hlt := hall r (List.mem_of_getElem? hg)
     exact ⟨hg, by simpa using hlt, (List.getElem?_eq_some_iff.1 hg).1⟩
    have hst_old : ∀ r, r < c.st.length -> (backC c g c1).st[r]? = some (match pos g r with | some j => mapO (home g c.st.length) (c1.st.getD j .dead) | none => c.st.getD r .dead) := fun r hrl => by
     simp only [backC, backO]
     rw [List.getElem?_append_left (by simpa using hrl), List.getElem?_map, List.getElem?_range hrl]
     rfl
    have hst_new : ∀ m, (backC c g c1).st[c.st.length + m]? = (c1.st[g.length + m]?).map (mapO (home g c.st.length)) := fun m => by
     simp only [backC, backO]
     rw [List.getElem?_append_right (by simp)]
     simp
    have hbl_pass : ∀ {r j}, pos g r = some j -> (backC c g c1).bl r = c1.bl j := fun {r j} hp => by
     simp only [backC]
     rw [if_pos (hpos hp).2.1, hp]
    have hbl_old : ∀ {r}, r < c.st.length -> pos g r = none -> (backC c g c1).bl r = c.bl r := fun {r} hrl hp => by
     simp only [backC]
     rw [if_pos hrl, hp]
    have hbl_new : ∀ m, (backC c g c1).bl (c.st.length + m) = c1.bl (g.length + m) := fun m => by
     simp only [backC]
     rw [if_neg (by omega)]
     congr 1; omega
    have hhome : ∀ j ob, c1.st[j]? = some ob -> (backC c g c1).st[home g c.st.length j]? = some (mapO (home g c.st.length) ob) /\ (backC c g c1).bl (home g c.st.length j) = c1.bl j := fun j ob hj => by
     unfold home
     cases hg : g[j]? with
     | some i =>
      have hp := pos_of_get hd hg
      refine ⟨?_, hbl_pass hp⟩
      simp only
      rw [hst_old i (hpos hp).2.1, hp]
      simp only [getD_of hj]
      rfl
     | none =>
      have hge : g.length <= j := by
       rcases Nat.lt_or_ge j g.length with q | q
       · rw [List.getElem?_eq_getElem q] at hg; cases hg
       · exact q
      refine ⟨?_, ?_⟩
      · simp only
        rw [hst_new (j - g.length), show g.length + (j - g.length) = j from by omega, hj]
        rfl
      · simp only
        rw [hbl_new (j - g.length), show g.length + (j - g.length) = j from by omega]
    have hlive : ∀ r, live (backC c g c1).st r -> (∃ j, home g c.st.length j = r /\ live c1.st j /\ (backC c g c1).bl r = c1.bl j) \/ (r < c.st.length /\ pos g r = none /\ live c.st r /\ (backC c g c1).bl r = c.bl r) := by
     intro r hl
     obtain ⟨ob, k1, k2⟩ := live_of' hl
     rcases Nat.lt_or_ge r c.st.length with q | q
     · rw [hst_old r q] at k1
       cases hp : pos g r with
       | some j =>
        rw [hp] at k1
        simp only [Option.some.injEq] at k1
        obtain ⟨hg, _, hjl⟩ := hpos hp
        have hj : c1.st[j]? = some (c1.st[j]'(by omega)) := List.getElem?_eq_getElem (by omega)
        rw [getD_of hj] at k1
        refine .inl ⟨j, by unfold home; rw [hg], live_of hj (fun e => k2 ?_), hbl_pass hp⟩
        rw [<- k1, e]; rfl
       | none =>
        rw [hp] at k1
        simp only [Option.some.injEq] at k1
        have hs : c.st[r]? = some (c.st[r]'q) := List.getElem?_eq_getElem q
        rw [getD_of hs] at k1
        exact .inr ⟨q, rfl, live_of hs (fun e => k2 (by rw [<- k1, e])), hbl_old q hp⟩
     · obtain ⟨m, rfl⟩ : ∃ m, r = c.st.length + m := ⟨r - c.st.length, by omega⟩
       rw [hst_new m] at k1
       cases hj : c1.st[g.length + m]? with
       | none => rw [hj] at k1; cases k1
       | some ob1 =>
        rw [hj] at k1
        simp only [Option.map_some, Option.some.injEq] at k1
        refine .inl ⟨g.length + m, ?_, live_of hj (fun e => k2 (by rw [<- k1, e]; rfl)), hbl_new m⟩
        unfold home
        rw [List.getElem?_eq_none (by omega)]
        simp only
        omega
    have hown : ∀ {b}, Base.may ⟨c.w, c.A, fun b => (∃ i, i ∈ g /\ live c.st i /\ c.bl i = some b) \/ ∃ (i : Nat) (m : Pool) (row : List Int × Nat), i ∈ g /\ c.st[i]? = some (Ob.pool m) /\ (b, row) ∈ m⟩ b -> w0.may b := fun {b} hm => by
     rcases hm with q | ⟨i, _, k2, k3⟩ | ⟨i, m, row, _, k2, k3⟩
     · have := hr.below.size
       simp only at q
       exact .inl (by omega)
     · exact hr.fresh i b k2 k3
     · exact ((hr.pl.2 i m k2).2 b row k3).1
    have hnot : ∀ {r b}, r < c.st.length -> pos g r = none -> live c.st r -> c.bl r = some b -> ¬ Base.may ⟨c.w, c.A, fun b => (∃ i, i ∈ g /\ live c.st i /\ c.bl i = some b) \/ ∃ (i : Nat) (m : Pool) (row : List Int × Nat), i ∈ g /\ c.st[i]? = some (Ob.pool m) /\ (b, row) ∈ m⟩ b := fun {r b} hrl hp hl hb hm => by
     rcases hm with q | ⟨i, k1, k2, k3⟩ | ⟨i, m, row, k1, k2, k3⟩
     · have := bl_lt hr hl hb
       simp only at q; omega
     · have := hr.inj i r b k2 hl k3 hb
       subst this
       obtain ⟨j, hj⟩ := List.getElem?_of_mem k1
       rw [pos_of_get hd hj] at hp
       cases hp
     · exact ((hr.pl.2 i m k2).2 b row k3).2.1 r hl hb
    have hx : Ext c (backC c g c1) := {
     size := h2.size
     sub := h2.sub
     cells := h2.cells
     len := by simp [backC, backO]
     keep := fun r ob hrl ho => by
      rw [hst_old r hrl] at ho
      simp only [Option.some.injEq] at ho
      cases hp : pos g r with
      | some j =>
       rw [hp] at ho
       simp only at ho
       obtain ⟨hg, _, hjl⟩ := hpos hp
       have hj : c1.st[j]? = some (c1.st[j]'(by omega)) := List.getElem?_eq_getElem (by omega)
       rw [getD_of hj] at ho
       have hk := h2.keep j _ (by simpa [reD] using hjl) hj
       have hsr : (reD c g).st[j]? = some (renO g (c.st.getD r .dead)) := reD_st hg
       have hrs : c.st[r]? = some (c.st[r]'hrl) := List.getElem?_eq_getElem hrl
       rw [getD_of hrs] at hsr
       cases hob : c1.st[j]'(by omega) with
       | dead => rw [hob] at ho; simp only [mapO] at ho; subst ho; trivial
       | cells cs =>
        rw [hob] at ho hk
        simp only [mapO] at ho
        subst ho
        obtain ⟨⟨cs0, e0⟩, hb0⟩ := hk
        rw [hsr] at e0
        simp only [Option.some.injEq] at e0
        obtain ⟨cs', e'⟩ := renO_cells e0
        exact ⟨⟨cs', by rw [hrs, e']⟩, by rw [hbl_pass hp, hb0, reD_bl hg]⟩
       | pool m =>
        rw [hob] at ho hk
        simp only [mapO] at ho
        subst ho
        obtain ⟨m0, e0⟩ := hk
        rw [hsr] at e0
        simp only [Option.some.injEq] at e0
        exact ⟨m0, by rw [hrs, renO_pool e0]⟩
       | vec t f xs =>
        rw [hob] at ho hk
        simp only [mapO] at ho
        subst ho
        obtain ⟨f0, xs0, e0, hl0, hb0, hrows⟩ := hk
        rw [hsr] at e0
        simp only [Option.some.injEq] at e0
        have e' := renO_vec e0
        refine ⟨f0, xs0, by rw [hrs, e'], hl0, by rw [hbl_pass hp, hb0, reD_bl hg], fun b n hb hrw => hrows b n (by rw [reD_bl hg]; exact hb) hrw⟩
      | none =>
       rw [hp] at ho
       simp only at ho
       have hrs : c.st[r]? = some (c.st[r]'hrl) := List.getElem?_eq_getElem hrl
       rw [getD_of hrs] at ho
       cases ob with
       | dead => trivial
       | cells cs => exact ⟨⟨cs, by rw [hrs, ho]⟩, hbl_old hrl hp⟩
       | pool m => exact ⟨m, by rw [hrs, ho]⟩
       | vec t f xs =>
        refine ⟨f, xs, by rw [hrs, ho], rfl, hbl_old hrl hp, fun b n hb hrw => ?_⟩
        obtain ⟨ce, e, fz, q1, q2⟩ := hrw
        have hl : live c.st r := live_of (hrs.trans (by rw [ho])) (by simp)
        exact ⟨ce, e, fz, (h1.below.block b (hnot hrl hp hl hb)).trans q1, q2⟩ }
    refine ⟨u, mapV (home g c.st.length) v, backC c g c1, rfl, rfl, ?_, hx, mapV_rel (c := c1) (c' := backC c g c1) (h := home g c.st.length) (fun _ _ h => h) rfl (fun j ob hj => (hhome j ob hj).1) (fun j ob hj => (hhome j ob hj).2) v u h3, h4⟩
    exact {
     below := ⟨hr.below.b0.trans h1.below.b0, fun k hk => (h1.below.block k (fun hm => hk (hown hm))).trans (hr.below.block k hk)⟩
     inj := fun r r' b hl hl' hb hb' => by
      rcases hlive r hl with ⟨j, q1, q2, q3⟩ | ⟨q1, q2, q3, q4⟩ <;> rcases hlive r' hl' with ⟨j', s1, s2, s3⟩ | ⟨s1, s2, s3, s4⟩
      · rw [<- q1, <- s1, h1.inj j j' b q2 s2 (q3 ▸ hb) (s3 ▸ hb')]
      · exact absurd (h1.fresh j b q2 (q3 ▸ hb)) (hnot s1 s2 s3 (s4 ▸ hb'))
      · exact absurd (h1.fresh j' b s2 (s3 ▸ hb')) (hnot q1 q2 q3 (q4 ▸ hb))
      · exact hr.inj r r' b q3 s3 (q4 ▸ hb) (s4 ▸ hb')
     fresh := fun r b hl hb => by
      rcases hlive r hl with ⟨j, q1, q2, q3⟩ | ⟨q1, q2, q3, q4⟩
      · exact hown (h1.fresh j b q2 (q3 ▸ hb))
      · exact hr.fresh r b q3 (q4 ▸ hb)
     bound := h1.bound
     newA := fun b o hA => by
      rcases h1.newA b o hA with q | q
      · exact hr.newA b o q
      · exact .inr (hown q)
     obj := fun r ob ho => by
      by_cases hdead : ob = .dead
      · subst hdead; trivial
      rcases hlive r (live_of ho hdead) with ⟨j, q1, q2, q3⟩ | ⟨q1, q2, q3, q4⟩
      · obtain ⟨ob1, k1, k2⟩ := live_of' q2
        have hh := (hhome j ob1 k1).1
        rw [q1, ho] at hh
        simp only [Option.some.injEq] at hh
        have hob := h1.obj j ob1 k1
        subst hh
        cases ob1 with
        | dead => trivial
        | cells cs =>
         obtain ⟨b, ce, e, m1, m2, m3, m4⟩ := hob
         exact ⟨b, ce, e, q3.trans m1, m2, mapVs_rel (c := c1) (c' := backC c g c1) (h := home g c.st.length) (fun _ _ h => h) rfl (fun j ob hj => (hhome j ob hj).1) (fun j ob hj => (hhome j ob hj).2) cs _ m3, m4⟩
        | vec t f xs =>
         obtain ⟨m1, m2, m3⟩ := hob
         refine ⟨m1, m2, ?_⟩
         rw [q3]
         exact m3
        | pool m => exact q3.trans hob
      · rw [hst_old r q1, q2] at ho
        simp only [Option.some.injEq] at ho
        have hrs : c.st[r]? = some (c.st[r]'q1) := List.getElem?_eq_getElem q1
        rw [getD_of hrs] at ho
        refine OkOb.keep hx q4 (fun b hb => h1.below.block b (hnot q1 q2 q3 hb)) (fun b o hb hA => ?_) (hr.obj r ob (by rw [hrs, ho]))
        rcases h1.newA b o hA with k | k
        · exact k
        · exact absurd k (hnot q1 q2 q3 hb)
     pl := by
      have hmap : ∀ {f : Nat -> Nat} {ob : Ob} {m : Pool}, mapO f ob = .pool m -> ob = .pool m := fun {f ob m} e => by
       cases ob <;> simp only [mapO] at e <;> first | exact e | cases e
      have hpool : ∀ (r : Nat) (m : Pool), (backC c g c1).st[r]? = some (Ob.pool m) -> ∃ j, home g c.st.length j = r /\ c1.st[j]? = some (Ob.pool m) := fun r m hm => by
       rcases hlive r (live_of hm (by simp)) with ⟨j, q1, q2, q3⟩ | ⟨q1, q2, q3, q4⟩
       · obtain ⟨ob1, k1, k2⟩ := live_of' q2
         have hh := (hhome j ob1 k1).1
         rw [q1, hm] at hh
         exact ⟨j, q1, by rw [k1, hmap (Option.some.inj hh).symm]⟩
       · rw [hst_old r q1, q2] at hm
         simp only [Option.some.injEq] at hm
         have hrs : c.st[r]? = some (c.st[r]'q1) := List.getElem?_eq_getElem q1
         rw [getD_of hrs] at hm
         have hmem := pools_mem (m := m) (hrs.trans (by rw [hm])) 0
         rw [Nat.zero_add] at hmem
         have hin := hpl r hmem
         obtain ⟨j, hj⟩ := List.getElem?_of_mem (has_mem hin)
         rw [pos_of_get hd hj] at q2
         cases q2
      refine ⟨fun r r' m m' k1 k2 => ?_, fun r m hm => ?_⟩
      · obtain ⟨j, e1, e2⟩ := hpool r m k1
        obtain ⟨j', e1', e2'⟩ := hpool r' m' k2
        rw [<- e1, <- e1', h1.pl.1 j j' m m' e2 e2']
      · obtain ⟨j, e1, e2⟩ := hpool r m hm
        obtain ⟨hn, hp⟩ := h1.pl.2 j m e2
        refine ⟨hn, fun b row hb => ?_⟩
        obtain ⟨k1, k2, k3, k4⟩ := hp b row hb
        refine ⟨hown k1, fun r0 l1 l2 => ?_, k3, k4⟩
        rcases hlive r0 l1 with ⟨j0, q1, q2, q3⟩ | ⟨q1, q2, q3, q4⟩
        · exact k2 j0 q2 (q3 ▸ l2)
        · exact hnot q1 q2 q3 (q4 ▸ l2) k1 }
  · exact hc.elim
def closeL (f : V -> Option V) : List V -> Option (List V)
 | [] => some []
 | v :: vs => match f v, closeL f vs with
  | some v', some vs' => some (v' :: vs')
  | _, _ => none
def closeB (st : List Ob) : Nat -> V -> Option V
 | 0, _ => none
 | n + 1, v => match v with
  | .any => some .any
  | .x v => some (.x v)
  | .ro t xs => some (.ro t xs)
  | .rc cs j => match closeL (closeB st n) cs with
   | some cs' => some (.rc cs' j)
   | none => none
  | .vec r => match st[r]? with
   | some (.vec t _ xs) => some (.ro t xs)
   | _ => none
  | .vw r lo n => match st[r]? with
   | some (.vec t _ xs) => some (.ro t ((xs.drop lo).take n))
   | _ => none
  | .cl r i => match st[r]? with
   | some (.cells cs) => match closeL (closeB st n) cs with
    | some cs' => some (.rc cs' i)
    | none => none
   | _ => none
  | .el r i j => match st[r]? with
   | some (.vec t _ xs) => some (.rc (enc t (xs.getD i t.dflt)) j)
   | _ => none
  | .agg cs => match closeL (closeB st n) cs with
   | some cs' => some (.agg cs')
   | none => none
  | .tup cs => match closeL (closeB st n) cs with
   | some cs' => some (.tup cs')
   | none => none
  | .fn f a b => match closeL (closeB st n) a, closeL (closeB st n) b with
   | some a', some b' => some (.fn f a' b')
   | _, _ => none
  | .gd _ _ _ => none
  | .hd _ => some .any
  | .pt _ _ => some .any
def lent (w : World) : Cfg := cfg0 w fun b _ => b < w.heap.size
theorem RoV.lend {w : World} {A : Nat -> Nat -> Prop} (h : ∀ b o, A b o -> b < w.heap.size) {t : Ty} {x : t.den} {us : List Value} (hr : RoV w A t x us) : RoV w (fun b _ => b < w.heap.size) t x us :=
 RoV.ext (fun b o ha => h b o ha) (fun _ _ _ => rfl) hr
theorem closeB_sound {w0 : Base} {c : Cfg} (hr : Rel w0 c) : ∀ (n : Nat) (v v' : V) (u : Value), closeB c.st n v = some v' -> RelV c v u -> RelV (lent c.w) v' u := by
 intro n
 induction n with
 | zero => intro v v' u h; simp [closeB] at h
 | succ n ih =>
  have ihL : ∀ (vs vs' : List V) (us : List Value), closeL (closeB c.st n) vs = some vs' -> RelVs c vs us -> RelVs (lent c.w) vs' us := by
   intro vs
   induction vs with
   | nil =>
    intro vs' us h hr
    simp only [closeL, Option.some.injEq] at h
    subst h
    simpa only [RelVs] using hr
   | cons v vs ihv =>
    intro vs' us h hr
    simp only [closeL] at h
    split at h
    · next v1 vs1 e1 e2 =>
      cases h
      simp only [RelVs] at *
      obtain ⟨u, us', e, h1, h2⟩ := hr
      exact ⟨u, us', e, ih v v1 u e1 h1, ihv vs1 us' e2 h2⟩
    · cases h
  intro v v' u h hv
  simp only [closeB] at h
  split at h
  · cases h; simp only [RelV]
  · cases h; simpa only [RelV] using hv
  · cases h
    simp only [RelV] at *
    exact RoV.lend (fun b o ha => hr.bound b o ha) hv
  · next cs j =>
    split at h
    · next cs' hcs =>
      cases h
      simp only [RelV] at *
      obtain ⟨b, o, e, hc⟩ := hv
      obtain ⟨us, h1, h2⟩ := RelC.list hc
      exact ⟨b, o, e, RelC.mk (ihL _ _ _ hcs h1) fun j u hj => ⟨(h2 j u hj).1, hr.bound _ _ (h2 j u hj).2⟩⟩
    · cases h
  · next r =>
    split at h
    · next t f xs hst =>
      cases h
      obtain ⟨g1, g2, g3⟩ := frz_rel hr hst
      have := g3 u hv
      simp only [RelV] at this ⊢
      exact RoV.lend (w := c.w) (fun b o ha => g1.bound b o ha) this
    · cases h
  · next r lo n =>
    split at h
    · next t f xs hst =>
      cases h
      obtain ⟨g1, g2, g3⟩ := frz_rel hr hst
      have := vw_frz hr hst hv
      simp only [RelV] at this ⊢
      exact RoV.lend (w := c.w) (fun b o ha => g1.bound b o ha) this
    · cases h
  · next r i =>
    split at h
    · next cs hst =>
      split at h
      · next cs' hcs =>
        cases h
        simp only [RelV, hst] at hv
        obtain ⟨b, hb, rfl⟩ := hv
        obtain ⟨b', ce, e, hb', hheap, hvs, _⟩ := hr.obj r _ hst
        rw [hb] at hb'; cases hb'
        simp only [RelV]
        have hlt : b < c.w.heap.size := (Array.getElem?_eq_some_iff.1 hheap).1
        refine ⟨b, 0, by rw [Nat.zero_add], RelC.mk (ihL _ _ _ hcs hvs) fun j x hj => ⟨?_, hlt⟩⟩
        show c.w.cell? _ = _
        rw [cell_of_row _ _ _ _ _ _ hheap, Nat.zero_add]
        simpa using hj
      · cases h
    · cases h
  · next r i j =>
    split at h
    · next t f xs hst =>
      cases h
      simp only [RelV, hst] at hv
      obtain ⟨b, hb, rfl, hi⟩ := hv
      obtain ⟨hp, _, ⟨hn, _⟩ | ⟨b', ce, e, cap, hb', hheap, hsz, hcap, hrow, _⟩⟩ := hr.obj r _ hst
      · rw [hb] at hn; cases hn
      rw [hb] at hb'; cases hb'
      have hlt : b < c.w.heap.size := (Array.getElem?_eq_some_iff.1 hheap).1
      have hy : xs[i]? = some (xs.getD i t.dflt) := by simp [List.getD, List.getElem?_eq_getElem hi]
      have h1 := RoV.lend (w := c.w) (fun b o ha => hr.bound b o ha) (hrow i _ hy)
      simp only [RelV]
      refine ⟨b, i * t.size, rfl, RelC.mk (RoV.rel (c := lent c.w) h1) fun k x hk => ⟨?_, hlt⟩⟩
      show c.w.cell? _ = _
      rw [List.getElem?_take] at hk
      split at hk
      · rw [List.getElem?_drop] at hk
        rw [cell_of_row _ _ _ _ _ _ hheap]
        simpa using hk
      · cases hk
    · cases h
  · next cs =>
    split at h
    · next cs' hcs =>
      cases h
      simp only [RelV] at *
      obtain ⟨us, e, h1⟩ := hv
      exact ⟨us, e, ihL _ _ _ hcs h1⟩
    · cases h
  · next cs =>
    split at h
    · next cs' hcs =>
      cases h
      simp only [RelV] at *
      obtain ⟨us, e, h1⟩ := hv
      exact ⟨us, e, ihL _ _ _ hcs h1⟩
    · cases h
  · next f a b =>
    split at h
    · next a' b' ha hb =>
      cases h
      simp only [RelV] at *
      obtain ⟨us1, us2, e, h1, h2⟩ := hv
      exact ⟨us1, us2, e, ihL _ _ _ ha h1, ihL _ _ _ hb h2⟩
    · cases h
  · cases h
  · cases h; simp only [RelV]
  · cases h; simp only [RelV]
theorem closeL_sound {w0 : Base} {c : Cfg} (hr : Rel w0 c) {n : Nat} : ∀ {vs vs' : List V} {us : List Value}, closeL (closeB c.st n) vs = some vs' -> RelVs c vs us -> RelVs (lent c.w) vs' us
 | [], vs', us, h, hv => by
  simp only [closeL, Option.some.injEq] at h
  subst h
  simpa only [RelVs] using hv
 | v :: vs, vs', us, h, hv => by
  simp only [closeL] at h
  split at h
  · next v1 vs1 e1 e2 =>
    cases h
    simp only [RelVs] at *
    obtain ⟨u, us', e, h1, h2⟩ := hv
    exact ⟨u, us', e, closeB_sound hr n v v1 u e1 h1, closeL_sound hr e2 h2⟩
  · cases h
def isHd : V -> Bool
 | .hd _ => true
 | .agg cs => cs.any fun v => match v with
  | .hd _ => true
  | _ => false
 | _ => false
def isHr : Ob -> Bool
 | .vec t _ _ => hasH t
 | _ => false
def needH (st : List Ob) (args : List V) : Bool := args.any isHd || (reach st 4 (addN [] (namesL args))).any fun i => isHr (st.getD i .dead)
def lendP (args : List V) (st : List Ob) (k : List V -> Prop) : Prop := match closeL (closeB st 8) args with
 | some args' => k args'
 | none => False
def lendK (args : List V) (st : List Ob) (k : List V -> Prop) : Prop := match poolAt 0 st with
 | some (_, m) => bif needH st args then andL (condS m st) (andL (condVs m args) (lendP (hdVs m args) (st.map (stl m)) k)) else lendP args st k
 | none => lendP args st k
theorem lendP_sound {w0 : Base} {c : Cfg} (hr : Rel w0 c) {args : List V} {us : List Value} {k : List V -> Prop} (ha : RelVs c args us) (h : lendP args c.st k) : ∃ args', RelVs (lent c.w) args' us /\ k args' := by
 unfold lendP at h
 split at h
 · next args' he => exact ⟨args', closeL_sound hr he ha, h⟩
 · exact h.elim
theorem lendK_sound {w0 : Base} {c : Cfg} (hr : Rel w0 c) {args : List V} {us : List Value} {k : List V -> Prop} (ha : RelVs c args us) (h : lendK args c.st k) : ∃ args', RelVs (lent c.w) args' us /\ k args' := by
 unfold lendK at h
 split at h
 · next p m hm =>
   cases hn : needH c.st args with
   | false => rw [hn] at h; exact lendP_sound hr ha h
   | true =>
    rw [hn] at h
    obtain ⟨h1, h⟩ := andL_out h
    obtain ⟨h2, h⟩ := andL_out h
    exact lendP_sound (c := stlC c m) (stlC_rel hr hm h1) (hdVs_rel hr hm args us h2 ha) h
 · exact lendP_sound hr ha h
def flatT : Ty -> Bool
 | .slice _ => false
 | .pair a b => flatT a && flatT b
 | _ => true
theorem flatT_rel {w w' : World} {A A' : Nat -> Nat -> Prop} : ∀ {t : Ty} {x : t.den} {us : List Value}, flatT t = true -> RoV w A t x us -> RoV w' A' t x us
 | .int _, _, _, _, h | .bool, _, _, _, h | .str, _, _, _, h | .unit, _, _, _, h | .hnd, _, _, _, h => h
 | .pair a b, p, us, hf, h => by
  simp only [flatT, Bool.and_eq_true] at hf
  obtain ⟨us1, us2, e, h1, h2⟩ := h
  exact ⟨us1, us2, e, flatT_rel hf.1 h1, flatT_rel hf.2 h2⟩
 | .slice _, _, _, hf, _ => by simp [flatT] at hf
mutual
def flatV : V -> Bool
 | .any => true
 | .x _ => true
 | .vec _ => true
 | .agg cs => flatVs cs
 | .tup cs => flatVs cs
 | _ => false
def flatVs : List V -> Bool
 | [] => true
 | v :: vs => flatV v && flatVs vs
end
mutual
def shiftV (n : Nat) : V -> V
 | .vec r => .vec (n + r)
 | .agg cs => .agg (shiftVs n cs)
 | .tup cs => .tup (shiftVs n cs)
 | v => v
def shiftVs (n : Nat) : List V -> List V
 | [] => []
 | v :: vs => shiftV n v :: shiftVs n vs
end
def flatOb : Ob -> Bool
 | .vec t _ _ => flatT t
 | .dead => true
 | .cells _ => false
 | .pool _ => false
def joinC (c c1 : Cfg) : Cfg :=
 { w := c1.w, bl := fun r => if r < c.st.length then c.bl r else c1.bl (r - c.st.length), st := c.st ++ c1.st, A := c.A }
theorem join_rel {w0 : Base} {c c1 : Cfg} (hr : Rel w0 c) (h1 : Rel ⟨c.w, fun b _ => b < c.w.heap.size, fun _ => False⟩ c1) (hf : c1.st.all flatOb = true) : Rel w0 (joinC c c1) /\ Ext c (joinC c c1) := by
 have hbl1 : ∀ r, r < c.st.length -> (joinC c c1).bl r = c.bl r := fun r h => by simp only [joinC]; rw [if_pos h]
 have hbl2 : ∀ k, (joinC c c1).bl (c.st.length + k) = c1.bl k := fun k => by simp only [joinC]; rw [if_neg (by omega)]; congr 1; omega
 have hcell : ∀ b o, b < c.w.heap.size -> c1.w.cell? ⟨b, o, none⟩ = c.w.cell? ⟨b, o, none⟩ := fun b o h => World.cell?_of_block (w := c.w) (h1.below.block b (noOwn h))
 have hx : Ext c (joinC c c1) := {
  size := h1.below.size
  sub := fun _ _ h => h
  cells := fun b o h => hcell b o (hr.bound b o h)
  len := by simp [joinC]
  keep := fun r ob hrl h => by
   simp only [joinC] at h
   rw [List.getElem?_append_left hrl] at h
   cases ob with
   | dead => trivial
   | cells cs => exact ⟨⟨cs, h⟩, hbl1 r hrl⟩
   | pool m => exact ⟨m, h⟩
   | vec t f xs =>
    refine ⟨f, xs, h, rfl, hbl1 r hrl, fun b n hb hrows => ?_⟩
    obtain ⟨ce, e, fz, g1, g2⟩ := hrows
    have hlt := bl_lt hr (live_of h (by simp)) hb
    exact ⟨ce, e, fz, by show c1.w.heap[b]? = _; rw [h1.below.block b (noOwn hlt)]; exact g1, g2⟩ }
 refine ⟨?_, hx⟩
 have hlive : ∀ r, live (joinC c c1).st r -> (r < c.st.length /\ live c.st r /\ (joinC c c1).bl r = c.bl r) \/ (∃ k, r = c.st.length + k /\ live c1.st k /\ (joinC c c1).bl r = c1.bl k) := by
  intro r h
  obtain ⟨ob, h2, h3⟩ := live_of' h
  simp only [joinC] at h2
  rcases Nat.lt_or_ge r c.st.length with g | g
  · rw [List.getElem?_append_left g] at h2
    exact .inl ⟨g, live_of h2 h3, hbl1 r g⟩
  · rw [List.getElem?_append_right g] at h2
    refine .inr ⟨r - c.st.length, by omega, live_of h2 h3, ?_⟩
    have := hbl2 (r - c.st.length)
    rwa [show c.st.length + (r - c.st.length) = r from by omega] at this
 exact {
  below := ⟨hr.below.b0.trans h1.below.b0, fun k hk => by
   have hs := hr.below.size
   have hk2 : k < c.w.heap.size := by
    rcases Nat.lt_or_ge k w0.w.heap.size with g | g
    · omega
    · exact absurd (.inl g) hk
   exact (h1.below.block k (noOwn hk2)).trans (hr.below.block k hk)⟩
  inj := fun r r' b h h' hb hb' => by
   rcases hlive r h with ⟨g, g1, g2⟩ | ⟨k, rfl, g1, g2⟩ <;> rcases hlive r' h' with ⟨g', k1, k2⟩ | ⟨k', rfl, k1, k2⟩
   · exact hr.inj r r' b g1 k1 (g2 ▸ hb) (k2 ▸ hb')
   · have a1 := bl_lt hr g1 (g2 ▸ hb)
     rcases h1.fresh _ b k1 (k2 ▸ hb') with a2 | a2
     · simp only at a2; omega
     · exact a2.elim
   · have a1 := bl_lt hr k1 (k2 ▸ hb')
     rcases h1.fresh _ b g1 (g2 ▸ hb) with a2 | a2
     · simp only at a2; omega
     · exact a2.elim
   · rw [h1.inj k k' b g1 k1 (g2 ▸ hb) (k2 ▸ hb')]
  fresh := fun r b h hb => by
   rcases hlive r h with ⟨g, g1, g2⟩ | ⟨k, rfl, g1, g2⟩
   · exact hr.fresh r b g1 (g2 ▸ hb)
   · have a2 := hr.below.size
     rcases h1.fresh _ b g1 (g2 ▸ hb) with a1 | a1
     · simp only at a1
       exact .inl (by omega)
     · exact a1.elim
  bound := fun b o h => by
   have := hr.bound b o h
   have := h1.below.size
   show b < c1.w.heap.size
   simp only at this; omega
  newA := hr.newA
  obj := fun r ob h => by
   have h0 := h
   simp only [joinC] at h
   rcases Nat.lt_or_ge r c.st.length with g | g
   · rw [List.getElem?_append_left g] at h
     cases ob with
     | dead => trivial
     | _ =>
      refine OkOb.keep hx (hbl1 r g) (fun b hb => ?_) (fun _ _ _ h => h) (hr.obj r _ h)
      exact h1.below.block b (noOwn (bl_lt hr (live_of h (by simp)) hb))
   · rw [List.getElem?_append_right g] at h
     have hfo : flatOb ob = true := by
      rw [List.all_eq_true] at hf
      exact hf _ (List.mem_of_getElem? h)
     cases ob with
     | dead => trivial
     | cells cs => simp [flatOb] at hfo
     | pool m => simp [flatOb] at hfo
     | vec t f xs =>
      simp only [flatOb] at hfo
      have hbr : (joinC c c1).bl r = c1.bl (r - c.st.length) := by
       have := hbl2 (r - c.st.length)
       rwa [show c.st.length + (r - c.st.length) = r from by omega] at this
      obtain ⟨a1, a2, ⟨a3, a4⟩ | ⟨b, ce, e, cap, a3, a4, a5, a6, a7, a8⟩⟩ := h1.obj _ _ h
      · exact ⟨a1, a2, .inl ⟨hbr.trans a3, a4⟩⟩
      · refine ⟨a1, a2, .inr ⟨b, ce, e, cap, hbr.trans a3, a4, a5, a6, fun i y hy => flatT_rel hfo (a7 i y hy), fun o _ hn => ?_⟩⟩
        have k1 := hr.bound b o hn
        rcases h1.fresh _ b (live_of h (by simp)) a3 with k2 | k2
        · simp only at k2; omega
        · exact k2.elim
  pl := PoolOk.keep hr.pl (fun r m h => by
    simp only [joinC] at h
    rcases Nat.lt_or_ge r c.st.length with g | g
    · rwa [List.getElem?_append_left g] at h
    · rw [List.getElem?_append_right g] at h
      rw [List.all_eq_true] at hf
      have := hf _ (List.mem_of_getElem? h)
      simp [flatOb] at this) (fun r b h hb => by
    rcases hlive r h with ⟨g, g1, g2⟩ | ⟨k, rfl, g1, g2⟩
    · exact .inl ⟨r, g1, g2 ▸ hb⟩
    · rcases h1.fresh _ b g1 (g2 ▸ hb) with a1 | a1
      · exact .inr (.inl a1)
      · exact a1.elim) (fun _ _ h => .inl h) (fun b hb _ _ => h1.below.block b (noOwn hb)) }
mutual
theorem shiftV_rel {c c1 : Cfg} : ∀ (v : V) (u : Value), flatV v = true -> RelV c1 v u -> RelV (joinC c c1) (shiftV c.st.length v) u
 | .any, u, _, _ => by simp only [shiftV, RelV]
 | .x x, u, _, h => by simpa only [shiftV, RelV] using h
 | .vec r, u, _, h => by
  simp only [shiftV, RelV] at *
  have hst : (joinC c c1).st[c.st.length + r]? = c1.st[r]? := by
   simp only [joinC]
   rw [List.getElem?_append_right (by omega)]
   congr 1; omega
  have hbl : (joinC c c1).bl (c.st.length + r) = c1.bl r := by simp only [joinC]; rw [if_neg (by omega)]; congr 1; omega
  rw [hst, hbl]
  exact h
 | .agg cs, u, hf, h => by
  simp only [flatV] at hf
  simp only [shiftV, RelV] at *
  obtain ⟨us, e, h1⟩ := h
  exact ⟨us, e, shiftVs_rel cs _ hf h1⟩
 | .tup cs, u, hf, h => by
  simp only [flatV] at hf
  simp only [shiftV, RelV] at *
  obtain ⟨us, e, h1⟩ := h
  exact ⟨us, e, shiftVs_rel cs _ hf h1⟩
 | .ro _ _, _, hf, _ | .rc _ _, _, hf, _ | .cl _ _, _, hf, _ | .el _ _ _, _, hf, _ | .vw _ _ _, _, hf, _ | .fn _ _ _, _, hf, _ | .gd _ _ _, _, hf, _ | .hd _, _, hf, _ | .pt _ _, _, hf, _ => by simp [flatV] at hf
theorem shiftVs_rel {c c1 : Cfg} : ∀ (vs : List V) (us : List Value), flatVs vs = true -> RelVs c1 vs us -> RelVs (joinC c c1) (shiftVs c.st.length vs) us
 | [], us, _, h => by simpa only [shiftVs, RelVs] using h
 | v :: vs, us, hf, h => by
  simp only [flatVs, Bool.and_eq_true] at hf
  simp only [shiftVs, RelVs] at *
  obtain ⟨u, us', e, h1, h2⟩ := h
  exact ⟨u, us', e, shiftV_rel v u hf.1 h1, shiftVs_rel vs us' hf.2 h2⟩
end
def callB (sem : SemF) (args : List V) (st : List Ob) (K : V -> List Ob -> Prop) : Prop :=
 lendK args st fun args' => sem args' fun v obs => bif flatV v && obs.all flatOb then K (shiftV st.length v) (st ++ obs) else False
theorem callB_sound {P : Program} {f : FuncId} {sem : SemF} (h : SoundFn P f sem) {w0 : Base} {c : Cfg} {args : List V} {us : Array Value} {K : V -> List Ob -> Prop} (hr : Rel w0 c) (ha : RelVs c args us.toList) (hc : callB sem args c.st K) :
  CallsK P f us c.w fun e w' => ∃ u v c', e = .returned u /\ c'.w = w' /\ Rel w0 c' /\ Ext c c' /\ RelV c' v u /\ K v c'.st := by
 unfold callB at hc
 obtain ⟨args', he, hc⟩ := lendK_sound hr ha hc
 refine (h c.w _ args' us _ (fun b o hb => hb) he hc).mono fun e w' hh => ?_
 obtain ⟨u, v, c1, rfl, rfl, h1, h2, h3, h4⟩ := hh
 cases hfl : flatV v && c1.st.all flatOb with
 | false => rw [hfl] at h4; exact h4.elim
 | true =>
  rw [hfl] at h4
  simp only [Bool.and_eq_true] at hfl
  obtain ⟨g1, g2⟩ := join_rel hr h1 hfl.2
  exact ⟨u, _, joinC c c1, rfl, rfl, g1, g2, shiftV_rel v u hfl.1 h3, h4⟩
abbrev Ctx := FuncId -> Option SemF
def SoundG (P : Program) (Γ : Ctx) : Prop := ∀ f sem, Γ f = some sem -> SoundFn P f sem
abbrev CtxO := FuncId -> Option (List Rs × SemO)
def SoundGO (P : Program) (Δ : CtxO) : Prop := ∀ f x, Δ f = some x -> SoundO P f x.2
def callH (x : List Rs × SemO) (args : List V) (st : List Ob) (K : V -> List Ob -> Prop) : Prop :=
 match ownRs x.1 args st with
 | (args', st') => callO x.2 args' st' K
theorem callH_sound {P : Program} {f : FuncId} {x : List Rs × SemO} (h : SoundO P f x.2) {w0 : Base} {c : Cfg} {args : List V} {us : Array Value} {K : V -> List Ob -> Prop} (hr : Rel w0 c) (ha : RelVs c args us.toList) (hc : callH x args c.st K) :
  CallsK P f us c.w fun e w' => ∃ u v c', e = .returned u /\ c'.w = w' /\ Rel w0 c' /\ Ext c c' /\ RelV c' v u /\ K v c'.st := by
 unfold callH at hc
 obtain ⟨c1, e1, e2, g1, g2, g3⟩ := ownRs_sound x.1 args c hr
 have g4 := g3 _ ha
 split at hc
 next args' st' heq =>
 have ea : (ownRs x.1 args c.st).1 = args' := by rw [heq]
 have es : st' = c1.st := by rw [e2, heq]
 rw [ea] at g4
 rw [es] at hc
 rw [<- e1]
 refine (callO_sound h g1 g4 hc).mono fun e w' hh => ?_
 obtain ⟨u, v, c', k1, k2, k3, k4, k5, k6⟩ := hh
 exact ⟨u, v, c', k1, k2, k3, g2.trans k4, k5, k6⟩
def mkC (P : Program) (Γ : Ctx) (Δ : CtxO) (D : Caller -> List Oper -> List V -> List Ob -> St -> Prop) (anns : FuncId -> Ann) : Nat -> Caller
 | 0, f, args, st, K => match Γ f with
  | some sem => callB sem args st K
  | none => match Δ f with
   | some x => callH x args st K
   | none => False
 | n + 1, f, args, st, K => match Γ f with
  | some sem => callB sem args st K
  | none => match Δ f with
   | some x => callH x args st K
   | none => match P.funcs[f]? with
    | some fn => execF P (mkC P Γ Δ D anns n) (D (mkC P Γ Δ D anns n)) (anns f) fn args st K
    | none => False
theorem mkC_sound {P : Program} {Γ : Ctx} (hG : SoundG P Γ) {Δ : CtxO} (hΔ : SoundGO P Δ) {D : Caller -> List Oper -> List V -> List Ob -> St -> Prop} (hD : ∀ C, SoundC P C -> SoundD P (D C)) {anns : FuncId -> Ann} (hk : ∀ N n f fn code, P.funcs[f]? = some fn -> fn.body = some code -> AnnOk P (mkC P Γ Δ D anns n) (D (mkC P Γ Δ D anns n)) N (anns f) code) : ∀ n, SoundC P (mkC P Γ Δ D anns n)
 | 0 => by
  intro w0 c f args us K hr ha h
  simp only [mkC] at h
  split at h
  · next sem hs => exact callB_sound (hG f sem hs) hr ha h
  · split at h
    · next x hx => exact callH_sound (hΔ f x hx) hr ha h
    · exact h.elim
 | n + 1 => by
  intro w0 c f args us K hr ha h
  simp only [mkC] at h
  split at h
  · next sem hs => exact callB_sound (hG f sem hs) hr ha h
  · split at h
    · next x hx => exact callH_sound (hΔ f x hx) hr ha h
    · split at h
      · next fn hf => exact fn_sound (mkC_sound hG hΔ hD hk n) (hD _ (mkC_sound hG hΔ hD hk n)) hf (fun code hb => hk c.st.length n f fn code hf hb) (Nat.le_refl _) hr ha h
      · exact h.elim
def R (P : Program) (C : Caller) (G : List Nat) (ops : List Oper) (o : Oper) (sl : List V) (st : List Ob) (kk : V -> List Ob -> Prop) : Prop :=
 match o.guard with
 | none => aop P C st [] (rdv sl) o.op fun v st' => kk (nogd v) st'
 | some (j, w) => match gslot ops j with
  | none => False
  | some g => match conds sl 8 g w with
   | none => False
   | some (fs, bs) =>
    if G.contains g = true then
     match aval P st fs (rdv sl) o.op, o.dst with
     | some (p, v), some d => if d = g then False else andG bs p (kk (.gd g w (nogd v)) st)
     | _, _ => bif okAll bs then aop P C st fs (rdv sl) o.op fun v st' => kk (nogd v) st' else kk (.x undef) st
    else False
section
variable {P : Program} {C : Caller} {G : List Nat} {ops : List Oper}
theorem aops_cons (o : Oper) (rest : List Oper) (sl : List V) (st : List Ob) (K : St) :
  aops P C G ops (o :: rest) sl st K = R P C G ops o sl st fun v st' => aops P C G ops rest (putS G o.dst v sl) st' K := by
 simp only [aops, R]
 cases hg : o.guard with
 | none => rfl
 | some jw =>
  obtain ⟨j, w⟩ := jw
  simp only
  cases gslot ops j with
  | none => rfl
  | some g =>
   simp only
   cases conds sl 8 g w with
   | none => rfl
   | some fb =>
    obtain ⟨fs, bs⟩ := fb
    simp only
    split
    · cases hd : o.dst with
      | none =>
       cases aval P st fs (rdv sl) o.op with
       | none => simp only
       | some pv => simp only
      | some d =>
       cases aval P st fs (rdv sl) o.op with
       | none => simp only
       | some pv => simp only
    · rfl
theorem astep_sound {w0 : Base} (hC : SoundC P C) {opa : Array Oper} {Q : Exit -> Act -> World -> Prop} {o : Oper} {c : Cfg} {sl : List V} {a : Act} {k : St} (hl : WlO P a o) (hr : Rel w0 c) (hs : SlR c sl a.tmps) (hg : GdIn G sl)
  (h : R P C G opa.toList o sl c.st fun v st' => k (putS G o.dst v sl) st') {next : Act -> World -> Prop}
  (hn : ∀ sl' c' a', Rel w0 c' -> Ext c c' -> SlR c' sl' a'.tmps -> GdIn G sl' -> a'.defers = a.defers -> k sl' c'.st -> next a' c'.w) :
  if Region.wanted o (yielded opa a.tmps) = true then o.wpK P a c.w next Q else next (a.put o.dst undef) c.w := by
 have hput : ∀ (d : Option Nat) (u : Value), (a.put d u).defers = a.defers := fun d u => by cases d <;> rfl
 have hρ : ∀ gs x, (∀ g, g ∈ gs -> a.eval (.tmp g.1) = .bool g.2) -> RelV c (rdv sl gs x) (a.eval x) := fun gs x hgs => rdv_rel hs gs x hgs
 have run : ∀ fs : Facts, (∀ g, g ∈ fs -> a.eval (.tmp g.1) = .bool g.2) -> (aop P C c.st fs (rdv sl) o.op fun v st' => k (putS G o.dst (nogd v) sl) st') -> o.wpK P a c.w next Q := fun fs hfs h => by
  refine aop_sound hC hr hρ hfs hl h (fun v c' u h1 h2 h3 h4 => ?_)
  obtain ⟨g1, g2⟩ := putS_rel (a := a) (d := o.dst) (SlR.ext h2 hs) hg (nogd_hv h3)
  exact hn _ c' _ h1 h2 g1 g2 (hput _ _) h4
 simp only [R] at h
 split at h
 · next hgd =>
   have hw : Region.wanted o (yielded opa a.tmps) = true := by simp [Region.wanted, hgd]
   rw [if_pos hw]
   exact run [] (fun g hh => by simp at hh) h
 · next j w hgd =>
   split at h
   · exact h.elim
   · next g hgs =>
     have hwi := wanted_iff (tmps := a.tmps) hgd hgs
     split at h
     · exact h.elim
     · next fs bs hc =>
       obtain ⟨c1, c2⟩ := conds_sound hs 8 g w fs bs hc
       split at h
       · next hG =>
         have hGm : g ∈ G := by simpa using hG
         split at h
         · next p v d hv hd =>
           split at h
           · exact h.elim
           · next hne =>
             obtain ⟨hp, hk⟩ := andG_out h
             have next' : ∀ u, (a.tmps.getD g undef = .bool w -> RelV c v u) -> (a.tmps.getD g undef ≠ .bool w -> u = undef) -> next (a.put o.dst u) c.w := by
              intro u hu1 hu2
              obtain ⟨g1, g2⟩ := putS_rel (a := a) (d := some d) (v := .gd g w (nogd v)) (u := u) hs hg ⟨hGm, fun e => hne (by cases e; rfl), fun e => nogd_rel (hu1 e), hu2⟩
              rw [hd] at hk ⊢
              exact hn _ c _ hr (Ext.refl c) g1 g2 (hput _ _) hk
             by_cases hw : Region.wanted o (yielded opa a.tmps) = true
             · rw [if_pos hw]
               have hgw := hwi.1 hw
               obtain ⟨u, h1, h2⟩ := aval_sound (P := P) hr hρ (c2 hgw) hv (hp (c1.1 hgw))
               exact wp_valueW h1 (next' u (fun _ => h2) (fun e => absurd hgw e)) (aval_wl hl hρ (c2 hgw) hv)
             · rw [if_neg hw]
               exact next' undef (fun e => absurd (hwi.2 e) hw) (fun _ => rfl)
         · by_cases hw : Region.wanted o (yielded opa a.tmps) = true
           · rw [if_pos hw]
             have hgw := hwi.1 hw
             rw [c1.1 hgw] at h
             exact run fs (c2 hgw) h
           · rw [if_neg hw]
             have hall : okAll bs = false := by
              cases hb : okAll bs with
              | false => rfl
              | true => exact absurd (hwi.2 (c1.2 hb)) hw
             rw [hall] at h
             obtain ⟨g1, g2⟩ := putS_rel (a := a) (d := o.dst) (v := .x undef) (u := undef) hs hg (by simp only [RelV])
             exact hn _ c _ hr (Ext.refl c) g1 g2 (hput _ _) h
       · exact h.elim
end
def callS (sem : SemF) (args : List V) (st : List Ob) (K : V -> List Ob -> Prop) : Prop :=
 lendK args st fun args' => sem args' fun v obs => match obs with
  | [] => bif flatV v then K (shiftV st.length v) st else False
  | _ => False
def Cs (Γ : Ctx) : Caller := fun f args st K => match Γ f with
 | some sem => ∃ k0 : V -> Prop, (∀ v, k0 v -> K v st) /\ callS sem args st fun v _ => k0 v
 | none => False
theorem Cs_sound {P : Program} {Γ : Ctx} (hG : SoundG P Γ) : SoundC P (Cs Γ) := by
 intro w0 c f args us K hr ha h
 simp only [Cs] at h
 split at h
 · next sem hs =>
   obtain ⟨k0, hk, h⟩ := h
   unfold callS at h
   obtain ⟨args', he, h⟩ := lendK_sound hr ha h
   refine (hG f sem hs c.w _ args' us _ (fun b o hb => hb) he h).mono fun e w' hh => ?_
   obtain ⟨u, v, c1, rfl, rfl, h1, h2, h3, h4⟩ := hh
   split at h4
   · next hobs =>
     cases hfl : flatV v with
     | false => rw [hfl] at h4; exact h4.elim
     | true =>
      rw [hfl] at h4
      obtain ⟨g1, g2⟩ := join_rel hr h1 (by rw [hobs]; rfl)
      exact ⟨u, _, joinC c c1, rfl, rfl, g1, g2, shiftV_rel v u hfl h3, by simp only [joinC, hobs, List.append_nil]; exact hk _ h4⟩
   · exact h4.elim
 · exact h.elim
theorem Cs_mono {Γ : Ctx} {f : FuncId} {args : List V} {st : List Ob} {K K' : V -> List Ob -> Prop} (hk : ∀ v st', K v st' -> K' v st') (h : Cs Γ f args st K) : Cs Γ f args st K' := by
 simp only [Cs] at *
 split at h
 · obtain ⟨k0, h1, h2⟩ := h
   exact ⟨k0, fun v hv => hk _ _ (h1 v hv), h2⟩
 · exact h
theorem Cs_still {Γ : Ctx} {f : FuncId} {args : List V} {st : List Ob} {K : V -> List Ob -> Prop} (h : Cs Γ f args st K) : Cs Γ f args st fun v st' => st' = st /\ K v st' := by
 simp only [Cs] at *
 split at h
 · obtain ⟨k0, h1, h2⟩ := h
   exact ⟨k0, fun v hv => ⟨trivial, h1 v hv⟩, h2⟩
 · exact h
def up (C : Caller) : Caller := fun f args st K => ∃ k0 : V -> List Ob -> Prop, (∀ v st', k0 v st' -> K v st') /\ C f args st k0
theorem up_sound {P : Program} {C : Caller} (hC : SoundC P C) : SoundC P (up C) := by
 intro w0 c f args us K hr ha h
 obtain ⟨k0, hk, h⟩ := h
 refine (hC w0 c f args us k0 hr ha h).mono fun e w' hh => ?_
 obtain ⟨u, v, c', h1, h2, h3, h4, h5, h6⟩ := hh
 exact ⟨u, v, c', h1, h2, h3, h4, h5, hk _ _ h6⟩
def flatTy (P : Program) : Nat -> TypeId -> Bool
 | 0, _ => false
 | n + 1, t => match P.underlying t with
  | some (.int _) => true
  | some .bool => true
  | some .string => true
  | some (.struct fs) => fs.toList.all fun f => flatTy P n f.type
  | some (.array _ e) => flatTy P n e
  | _ => false
def stillF (P : Program) (Γ : Ctx) (f : FuncId) : Bool := (Γ f).isSome && (match P.funcs[f]? with
 | some fn => fn.resultTypes.toList.all (flatTy P 12)
 | none => false)
def Cx (P : Program) (C : Caller) (Γ : Ctx) : Caller := fun f args st K => if stillF P Γ f = true then Cs Γ f args st K else up C f args st K
theorem Cx_sound {P : Program} {C : Caller} (hC : SoundC P C) {Γ : Ctx} (hG : SoundG P Γ) : SoundC P (Cx P C Γ) := by
 intro w0 c f args us K hr ha h
 unfold Cx at h
 split at h
 · exact Cs_sound hG w0 c f args us K hr ha h
 · exact up_sound hC w0 c f args us K hr ha h
theorem Cx_mono {P : Program} {C : Caller} {Γ : Ctx} {f : FuncId} {args : List V} {st : List Ob} {K K' : V -> List Ob -> Prop} (hk : ∀ v st', K v st' -> K' v st') (h : Cx P C Γ f args st K) : Cx P C Γ f args st K' := by
 unfold Cx at *
 split
 · next e => rw [if_pos e] at h; exact Cs_mono hk h
 · next e =>
   rw [if_neg e] at h
   obtain ⟨k0, h1, h2⟩ := h
   exact ⟨k0, fun v st' hv => hk _ _ (h1 v st' hv), h2⟩
theorem Cx_still {P : Program} {C : Caller} {Γ : Ctx} {f : FuncId} {args : List V} {st : List Ob} {K : V -> List Ob -> Prop} (hf : stillF P Γ f = true) (h : Cx P C Γ f args st K) : Cx P C Γ f args st fun v st' => st' = st /\ K v st' := by
 unfold Cx at *
 rw [if_pos hf] at *
 exact Cs_still h
def pureK : Op -> Bool
 | .slice _ _ _ _ none => true
 | .build _ _ | .nilCheck _ | .fieldAddr _ _ _ => true
 | .move _ | .assign _ | .binOp _ _ _ _ _ | .unOp _ _ _ | .convert _ _ _ | .makeFunc _ _ _ | .field _ _ _ | .index _ _ _ | .extract _ _ => true
 | .pick (.tmp _) _ _ => true
 | _ => false
def detK (o : Op) : Bool := pureK o || match o with
 | .load _ _ | .indexAddr _ _ _ => true
 | .call { callee := .builtin .len, .. } => true
 | .call { callee := .builtin .max, .. } => true
 | .call { callee := .builtin .min, .. } => true
 | _ => false
def stillK (P : Program) (Γ : Ctx) (o : Op) : Bool := detK o || match o with
 | .call { callee := .value (.func f), .. } => stillF P Γ f
 | _ => false
section
variable {P : Program} {C : Caller} {Γ : Ctx} {G : List Nat} {ops : List Oper}
def CLe (C1 C2 : Caller) : Prop := ∀ f args st (K K' : V -> List Ob -> Prop), (∀ v st', K v st' -> K' v st') -> C1 f args st K -> C2 f args st K'
theorem aeff_le {C1 C2 : Caller} (hC : CLe C1 C2) {st : List Ob} {fs : Facts} {ρ : Facts -> Operand -> V} {o : Op} {k k' : V -> List Ob -> Prop} (hk : ∀ v st', k v st' -> k' v st') (h : aeff P C1 st fs ρ o k) : aeff P C2 st fs ρ o k' := by
 have handO : ∀ (p : Option Prop) v st', andO p (k v st') -> andO p (k' v st') := fun p v st' h => by
  cases p with
  | none => exact hk _ _ h
  | some p => exact ⟨h.1, hk _ _ h.2⟩
 cases o with
 | pick c a b =>
  cases c with
  | tmp s =>
   simp only [aeff] at *
   split at h
   · next t _ => cases t <;> exact hk _ _ h
   · exact h
  | _ => simp [aeff] at h
 | alloc t => simp only [aeff] at *; split at h <;> first | exact hk _ _ h | exact h
 | box t x => simp only [aeff] at *; split at h <;> first | exact hk _ _ h | exact h
 | buildSlice t l p => simp only [aeff] at *; split at h <;> first | exact hk _ _ h | exact h
 | makeSlice t l c => simp only [aeff] at *; split at h <;> first | exact handO _ _ _ h | exact h
 | store t a x =>
  simp only [aeff] at *
  split at h
  · exact hk _ _ h
  · split at h
    · exact handO _ _ _ h
    · exact h
 | call cl =>
  obtain ⟨callee, args, ts⟩ := cl
  cases callee with
  | builtin b =>
   cases b <;> first | (simp [aeff] at h; done) | skip
   all_goals
    simp only [aeff] at *
    split at h
    · split at h <;> first | exact handO _ _ _ h | exact hk _ _ h | exact h
    · exact h
  | value f =>
   simp only [aeff] at *
   split at h
   · next g first captured e =>
     split at h
     · next hc => rw [if_pos hc]; exact hC _ _ _ _ _ hk h
     · exact h.elim
   · exact h.elim
  | _ => simp [aeff] at h
 | _ => simp [aeff] at h
theorem aop_le {C1 C2 : Caller} (hC : CLe C1 C2) {st : List Ob} {fs : Facts} {ρ : Facts -> Operand -> V} {o : Op} {k k' : V -> List Ob -> Prop} (hk : ∀ v st', k v st' -> k' v st') (h : aop P C1 st fs ρ o k) : aop P C2 st fs ρ o k' := by
 unfold aop at *
 split at h
 · next p v _ =>
   cases p with
   | none => exact hk _ _ h
   | some p => exact ⟨h.1, hk _ _ h.2⟩
 · exact aeff_le hC hk h
theorem R_le {C1 C2 : Caller} (hC : CLe C1 C2) {o : Oper} {sl : List V} {st : List Ob} {k k' : V -> List Ob -> Prop} (hk : ∀ v st', k v st' -> k' v st') (h : R P C1 G ops o sl st k) : R P C2 G ops o sl st k' := by
 cases hg : o.guard with
 | none => simp only [R, hg] at *; exact aop_le hC (fun v st' h => hk _ _ h) h
 | some jw =>
  obtain ⟨j, w⟩ := jw
  cases hgs : gslot ops j with
  | none => simp [R, hg, hgs] at h
  | some g =>
   cases hc : conds sl 8 g w with
   | none => simp [R, hg, hgs, hc] at h
   | some fb =>
    obtain ⟨fs, bs⟩ := fb
    by_cases hG : G.contains g = true
    · have alt : (bif okAll bs then aop P C1 st fs (rdv sl) o.op (fun v st' => k (nogd v) st') else k (.x undef) st) ->
        (bif okAll bs then aop P C2 st fs (rdv sl) o.op (fun v st' => k' (nogd v) st') else k' (.x undef) st) := by
       cases okAll bs with
       | true => exact aop_le hC (fun v st' h => hk _ _ h)
       | false => exact hk _ _
      cases hd : o.dst with
      | none =>
       cases hv : aval P st fs (rdv sl) o.op with
       | none => simp only [R, hg, hgs, hc, hG, if_true, hd, hv] at *; exact alt h
       | some pv => simp only [R, hg, hgs, hc, hG, if_true, hd, hv] at *; exact alt h
      | some d =>
       cases hv : aval P st fs (rdv sl) o.op with
       | none => simp only [R, hg, hgs, hc, hG, if_true, hd, hv] at *; exact alt h
       | some pv =>
        obtain ⟨p, v⟩ := pv
        by_cases hdg : d = g
        · simp [R, hg, hgs, hc, hG, hd, hv, hdg] at h
        · simp only [R, hg, hgs, hc, hG, if_true, hd, hv, if_neg hdg] at *
          cases p with
          | none => exact hk _ _ h
          | some p => exact ⟨h.1, hk _ _ h.2⟩
    · simp only [R, hg, hgs, hc, if_neg hG] at h
theorem Cs_le : CLe (Cx P C Γ) (Cx P C Γ) := fun _ _ _ _ _ hk h => Cx_mono hk h
theorem aop_mono {st : List Ob} {fs : Facts} {ρ : Facts -> Operand -> V} {o : Op} {k k' : V -> List Ob -> Prop} (hk : ∀ v st', k v st' -> k' v st') (h : aop P (Cx P C Γ) st fs ρ o k) : aop P (Cx P C Γ) st fs ρ o k' := aop_le Cs_le hk h
theorem R_mono {o : Oper} {sl : List V} {st : List Ob} {k k' : V -> List Ob -> Prop} (hk : ∀ v st', k v st' -> k' v st') (h : R P (Cx P C Γ) G ops o sl st k) : R P (Cx P C Γ) G ops o sl st k' := R_le Cs_le hk h
def Cs0 (Γ : Ctx) : Caller := fun f args st K => match Γ f with
 | some sem => callS sem args st K
 | none => False
def Cx0 (P : Program) (C : Caller) (Γ : Ctx) : Caller := fun f args st K => if stillF P Γ f = true then Cs0 Γ f args st K else C f args st K
theorem Cs0_le : CLe (Cs0 Γ) (Cs Γ) := by
 intro f args st K K' hk h
 simp only [Cs0, Cs] at *
 split at h
 · exact ⟨fun v => K v st, fun v hv => hk v st hv, h⟩
 · exact h.elim
theorem Cx0_le : CLe (Cx0 P C Γ) (Cx P C Γ) := by
 intro f args st K K' hk h
 unfold Cx0 at h
 unfold Cx
 split
 · next e => rw [if_pos e] at h; exact Cs0_le f args st K K' hk h
 · next e => rw [if_neg e] at h; exact ⟨K, hk, h⟩
theorem aops_mono : ∀ (l : List Oper) (sl : List V) (st : List Ob) (K K' : St), (∀ sl st, K sl st -> K' sl st) -> aops P (Cx P C Γ) G ops l sl st K -> aops P (Cx P C Γ) G ops l sl st K'
 | [], _, _, _, _, hk, h => hk _ _ h
 | o :: l, sl, st, K, K', hk, h => by
  rw [aops_cons] at *
  exact R_mono (fun v st' h => aops_mono l _ _ K K' hk h) h
def Det (P : Program) (C : Caller) (Γ : Ctx) (G : List Nat) (ops : List Oper) (o : Oper) (sl : List V) (st : List Ob) (p : Prop) (v : V) : Prop :=
 ∀ kk, R P (Cx P C Γ) G ops o sl st kk ↔ (p /\ kk v st)
theorem aop_det {st : List Ob} {fs : Facts} {ρ : Facts -> Operand -> V} {o : Op} (h : detK o = true) : ∃ (p : Prop) (v : V), ∀ kk : V -> List Ob -> Prop, aop P (Cx P C Γ) st fs ρ o kk ↔ (p /\ kk v st) := by
 cases hv : aval P st fs ρ o with
 | some pv =>
  obtain ⟨p, v⟩ := pv
  refine ⟨vc p, v, fun kk => ?_⟩
  unfold aop
  rw [hv]
  cases p with
  | none => simp [andO, vc]
  | some p => simp [andO, vc]
 | none =>
  have hf : ∀ kk : V -> List Ob -> Prop, aop P (Cx P C Γ) st fs ρ o kk = aeff P (Cx P C Γ) st fs ρ o kk := fun kk => by unfold aop; rw [hv]
  simp only [hf]
  cases o with
  | pick c a b =>
   cases c with
   | tmp s =>
    simp only [aeff]
    split
    · next t _ =>
      cases t
      · exact ⟨True, _, fun kk => by simp; rfl⟩
      · exact ⟨True, _, fun kk => by simp; rfl⟩
    · exact ⟨False, .any, fun kk => by simp⟩
   | _ => simp [detK, pureK] at h
  | call cl =>
   obtain ⟨callee, args, ts⟩ := cl
   cases callee with
   | builtin b => cases b <;> first | (simp [detK, pureK] at h; done) | exact ⟨False, .any, fun kk => by simp [aeff]⟩
   | _ => simp [detK, pureK] at h
  | _ => first | (simp [detK, pureK] at h; done) | exact ⟨False, .any, fun kk => by simp [aeff]⟩
theorem R_det {o : Oper} (h : detK o.op = true) (sl : List V) (st : List Ob) : ∃ p v, Det P C Γ G ops o sl st p v := by
 unfold Det
 cases hg : o.guard with
 | none =>
  obtain ⟨p, v, hpv⟩ := aop_det (P := P) (C := C) (Γ := Γ) (st := st) (fs := []) (ρ := rdv sl) h
  exact ⟨p, nogd v, fun kk => by simp only [R, hg]; exact hpv _⟩
 | some jw =>
  obtain ⟨j, w⟩ := jw
  cases hgs : gslot ops j with
  | none => exact ⟨False, .any, fun kk => by simp [R, hg, hgs]⟩
  | some g =>
   cases hc : conds sl 8 g w with
   | none => exact ⟨False, .any, fun kk => by simp [R, hg, hgs, hc]⟩
   | some fb =>
    obtain ⟨fs, bs⟩ := fb
    by_cases hG : G.contains g = true
    · have alt : ∃ (p : Prop) (v : V), ∀ kk : V -> List Ob -> Prop, (bif okAll bs then aop P (Cx P C Γ) st fs (rdv sl) o.op (fun v st' => kk (nogd v) st') else kk (.x undef) st) ↔ (p /\ kk v st) := by
       cases okAll bs with
       | true =>
        obtain ⟨p, v, hpv⟩ := aop_det (P := P) (C := C) (Γ := Γ) (st := st) (fs := fs) (ρ := rdv sl) h
        exact ⟨p, nogd v, fun kk => hpv _⟩
       | false => exact ⟨True, .x undef, fun kk => by simp⟩
      cases hd : o.dst with
      | none =>
       obtain ⟨p, v, hpv⟩ := alt
       refine ⟨p, v, fun kk => ?_⟩
       rw [<- hpv kk]
       cases hv : aval P st fs (rdv sl) o.op with
       | none => simp only [R, hg, hgs, hc, hG, if_true, hd, hv]
       | some pv => simp only [R, hg, hgs, hc, hG, if_true, hd, hv]
      | some d =>
       cases hv : aval P st fs (rdv sl) o.op with
       | none =>
        obtain ⟨p, v, hpv⟩ := alt
        refine ⟨p, v, fun kk => ?_⟩
        rw [<- hpv kk]
        simp only [R, hg, hgs, hc, hG, if_true, hd, hv]
       | some pv =>
        obtain ⟨p, v⟩ := pv
        by_cases hdg : d = g
        · exact ⟨False, .any, fun kk => by simp [R, hg, hgs, hc, hG, hd, hv, hdg]⟩
        · cases p with
          | none => exact ⟨True, .gd g w (nogd v), fun kk => by simp only [R, hg, hgs, hc, hG, if_true, hd, hv, if_neg hdg, andG, true_and]⟩
          | some p => exact ⟨imps bs p, .gd g w (nogd v), fun kk => by simp only [R, hg, hgs, hc, hG, if_true, hd, hv, if_neg hdg, andG]⟩
    · exact ⟨False, .any, fun kk => by simp only [R, hg, hgs, hc, if_neg hG, false_and]⟩
end
def gch (ops : List Oper) : Nat -> Nat -> List Nat
 | 0, t => [t]
 | n + 1, t => t :: ops.flatMap fun o => if o.dst = some t then (match o.guard with
  | some (j, _) => (match gslot ops j with
   | some g => gch ops n g
   | none => [])
  | none => []) else []
def tmpsOf (o : Op) : List Nat := o.operands.toList.filterMap fun | .tmp t => some t | _ => none
def gsOf (ops : List Oper) (o : Oper) : List Nat := match o.guard with
 | some (j, _) => (match gslot ops j with
  | some g => [g]
  | none => [])
 | none => []
def LK (ops : List Oper) (n : Nat) (o : Oper) : List Nat := (tmpsOf o.op ++ gsOf ops o).flatMap (gch ops n)
def GdS (ops : List Oper) (sl : List V) : Prop := ∀ t g w v, sl.getD t .any = .gd g w v -> ∃ o, o ∈ ops /\ o.dst = some t /\ g ∈ gsOf ops o
theorem gch_self (ops : List Oper) (n t : Nat) : t ∈ gch ops n t := by cases n <;> simp [gch]
theorem gch_next {ops : List Oper} {o : Oper} {t g : Nat} (ho : o ∈ ops) (hd : o.dst = some t) (hg : g ∈ gsOf ops o) (n : Nat) : ∀ x, x ∈ gch ops n g -> x ∈ gch ops (n + 1) t := by
 intro x hx
 simp only [gch, List.mem_cons, List.mem_flatMap]
 refine .inr ⟨o, ho, ?_⟩
 rw [if_pos hd]
 cases hgd : o.guard with
 | none => simp [gsOf, hgd] at hg
 | some jw =>
  obtain ⟨j, w⟩ := jw
  cases hgs : gslot ops j with
  | none => simp [gsOf, hgd, hgs] at hg
  | some g' =>
   simp only [gsOf, hgd, hgs, List.mem_singleton] at hg
   subst hg
   simp only [hgs]
   exact hx
theorem gch_mono {ops : List Oper} : ∀ (n t x : Nat), x ∈ gch ops n t -> x ∈ gch ops (n + 1) t
 | 0, t, x, h => by simp only [gch, List.mem_singleton] at h; subst h; exact gch_self _ _ _
 | n + 1, t, x, h => by
  rw [gch] at h ⊢
  simp only [List.mem_cons, List.mem_flatMap] at h ⊢
  rcases h with h | ⟨o, ho, h⟩
  · exact .inl h
  · refine .inr ⟨o, ho, ?_⟩
    split at h
    · next hd =>
      rw [if_pos hd]
      cases hgd : o.guard with
      | none => simp [hgd] at h
      | some jw =>
       obtain ⟨j, w⟩ := jw
       cases hgs : gslot ops j with
       | none => simp [hgd, hgs] at h
       | some g =>
        simp only [hgd, hgs] at h ⊢
        exact gch_mono n g x h
    · simp at h
theorem gch_step {ops : List Oper} : ∀ (n t x : Nat) (o : Oper) (g : Nat), x ∈ gch ops n t -> o ∈ ops -> o.dst = some x -> g ∈ gsOf ops o -> g ∈ gch ops (n + 1) t
 | 0, t, x, o, g, h, ho, hd, hg => by
  simp only [gch, List.mem_singleton] at h
  subst h
  exact gch_next ho hd hg 0 g (gch_self _ _ _)
 | n + 1, t, x, o, g, h, ho, hd, hg => by
  have h0 := h
  rw [gch] at h
  simp only [List.mem_cons, List.mem_flatMap] at h
  rcases h with rfl | ⟨o', ho', h⟩
  · exact gch_next ho hd hg _ g (gch_self _ _ _)
  · rw [gch]
    simp only [List.mem_cons, List.mem_flatMap]
    refine .inr ⟨o', ho', ?_⟩
    split at h
    · next hd' =>
      rw [if_pos hd']
      cases hgd : o'.guard with
      | none => simp [hgd] at h
      | some jw =>
       obtain ⟨j, w⟩ := jw
       cases hgs : gslot ops j with
       | none => simp [hgd, hgs] at h
       | some g' =>
        simp only [hgd, hgs] at h ⊢
        exact gch_step n g' x o g h ho hd hg
    · simp at h
def Alike (ops : List Oper) (o : Oper) (sl1 sl2 : List V) : Prop := ∀ t, t ∈ LK ops 8 o -> sl1.getD t .any = sl2.getD t .any
theorem conds_congr {ops : List Oper} {sl1 sl2 : List V} (hs : GdS ops sl1) : ∀ (n g : Nat) (w : Bool), (∀ t, t ∈ gch ops n g -> sl1.getD t .any = sl2.getD t .any) -> conds sl1 n g w = conds sl2 n g w
 | 0, _, _, _ => rfl
 | n + 1, g, w, h => by
  have h0 := h g (gch_self _ _ _)
  simp only [conds]
  rw [<- h0]
  split
  · rfl
  · rfl
  · next g' w' b e =>
    obtain ⟨o, ho, hd, hg⟩ := hs g g' w' _ e
    rw [conds_congr hs n g' w' fun t ht => h t (gch_next ho hd hg n t ht)]
  · next g' w' b e =>
    obtain ⟨o, ho, hd, hg⟩ := hs g g' w' _ e
    rw [conds_congr hs n g' w' fun t ht => h t (gch_next ho hd hg n t ht)]
  · rfl
theorem mem_LK {ops : List Oper} {o : Oper} {t : Nat} (h : t ∈ tmpsOf o.op ++ gsOf ops o) (n : Nat) : ∀ x, x ∈ gch ops n t -> x ∈ LK ops n o := fun x hx => List.mem_flatMap.2 ⟨t, h, hx⟩
section
variable {P : Program} {C : Caller} {Γ : Ctx} {G : List Nat} {ops : List Oper}
theorem aval_congr {st : List Ob} {fs : Facts} {ρ1 ρ2 : Facts -> Operand -> V} {o : Op} (h : ∀ gs x, x ∈ o.operands.toList -> ρ1 gs x = ρ2 gs x) : aval P st fs ρ1 o = aval P st fs ρ2 o := by
 have hmap : ∀ (l : List Operand), (∀ x, x ∈ l -> x ∈ o.operands.toList) -> l.map (ρ1 fs) = l.map (ρ2 fs) := fun l hl => List.map_congr_left fun x hx => h fs x (hl x hx)
 cases o with
 | pick c a b =>
  cases c <;> first | rfl | skip
  next s => simp only [aval]; rw [h fs (.tmp s) (by simp [Op.operands]), h ((s, true) :: fs) a (by simp [Op.operands]), h ((s, false) :: fs) b (by simp [Op.operands])]
 | makeFunc f a b => simp only [aval]; rw [hmap a.toList (by simp [Op.operands]; intro x hx; exact .inl hx), hmap b.toList (by simp [Op.operands]; intro x hx; exact .inr hx)]
 | build t parts =>
  simp only [aval]
  have : (parts.toList.map fun p => (p.1, ρ1 fs p.2)) = parts.toList.map fun p => (p.1, ρ2 fs p.2) := List.map_congr_left fun p hp => by
   rw [h fs p.2 (by simp only [Op.operands]; exact List.mem_map.2 ⟨p, hp, rfl⟩)]
  rw [this]
 | slice t x lo hi mx =>
  cases mx <;> first | rfl | skip
  simp only [aval]
  have h1 : lo.map (ρ1 fs) = lo.map (ρ2 fs) := by cases lo with
   | none => rfl
   | some v => simp only [Option.map_some]; rw [h fs v (by simp [Op.operands])]
  have h2 : hi.map (ρ1 fs) = hi.map (ρ2 fs) := by cases hi with
   | none => rfl
   | some v => simp only [Option.map_some]; rw [h fs v (by simp [Op.operands])]
  rw [h1, h2, h fs x (by simp [Op.operands])]
 | call cl =>
  obtain ⟨callee, args, ts⟩ := cl
  cases callee <;> first | rfl | skip
  simp only [aval]
  rw [hmap args.toList (by simp [Op.operands, Call.operands])]
 | move x | assign x | load t x | nilCheck x | unOp _ _ x | convert _ _ x | fieldAddr _ x _ | field _ x _ | extract x _ => simp only [aval]; rw [h fs x (by simp [Op.operands])]
 | binOp _ _ x y _ | indexAddr _ x y | index _ x y => simp only [aval]; rw [h fs x (by simp [Op.operands]), h fs y (by simp [Op.operands])]
 | _ => rfl
theorem aeff_congr {C : Caller} {st : List Ob} {fs : Facts} {ρ1 ρ2 : Facts -> Operand -> V} {o : Op} (h : ∀ gs x, x ∈ o.operands.toList -> ρ1 gs x = ρ2 gs x) (k : V -> List Ob -> Prop) : aeff P C st fs ρ1 o k = aeff P C st fs ρ2 o k := by
 have hmap : ∀ (l : List Operand), (∀ x, x ∈ l -> x ∈ o.operands.toList) -> l.map (ρ1 fs) = l.map (ρ2 fs) := fun l hl => List.map_congr_left fun x hx => h fs x (hl x hx)
 cases o with
 | pick c a b =>
  cases c <;> first | rfl | skip
  next s => simp only [aeff]; rw [h fs (.tmp s) (by simp [Op.operands]), h ((s, true) :: fs) a (by simp [Op.operands]), h ((s, false) :: fs) b (by simp [Op.operands])]
 | buildSlice t n parts =>
  simp only [aeff]
  have : (parts.toList.map fun p => (p.1, ρ1 fs p.2)) = parts.toList.map fun p => (p.1, ρ2 fs p.2) := List.map_congr_left fun p hp => by
   rw [h fs p.2 (by simp only [Op.operands]; exact List.mem_map.2 ⟨p, hp, rfl⟩)]
  rw [this]
 | call cl =>
  obtain ⟨callee, args, ts⟩ := cl
  cases callee with
  | builtin b =>
   cases b <;> first | rfl | skip
   rotate_left
   · simp only [aeff]
     cases ha : args.toList with
     | nil => rfl
     | cons x r =>
      cases r with
      | nil =>
       have hx : x ∈ args.toList := by rw [ha]; simp
       have e := h fs x (by simpa [Op.operands, Call.operands] using hx)
       cases ts.toList with
       | nil => rfl
       | cons t q =>
        cases q with
        | nil => simp only; rw [e]
        | cons t' q' => rfl
      | cons y r' => rfl
   simp only [aeff]
   cases ha : args.toList with
   | nil => rfl
   | cons x r =>
    cases r with
    | nil => rfl
    | cons y r' =>
     cases r' with
     | nil =>
      have hx : x ∈ args.toList := by rw [ha]; simp
      have hy : y ∈ args.toList := by rw [ha]; simp
      simp only
      rw [h fs x (by simpa [Op.operands, Call.operands] using hx), h fs y (by simpa [Op.operands, Call.operands] using hy)]
     | cons z r'' => rfl
  | value f =>
   simp only [aeff]
   rw [hmap args.toList (by simp [Op.operands, Call.operands]; intro x hx; exact .inr hx), h fs f (by simp [Op.operands, Call.operands])]
  | _ => rfl
 | alloc t => rfl
 | box t x => simp only [aeff]; rw [h fs x (by simp [Op.operands])]
 | makeSlice _ x y | store _ x y => simp only [aeff]; rw [h fs x (by simp [Op.operands]), h fs y (by simp [Op.operands])]
 | _ => rfl
theorem aop_congr {C : Caller} {st : List Ob} {fs : Facts} {ρ1 ρ2 : Facts -> Operand -> V} {o : Op} (h : ∀ gs x, x ∈ o.operands.toList -> ρ1 gs x = ρ2 gs x) (k : V -> List Ob -> Prop) : aop P C st fs ρ1 o k = aop P C st fs ρ2 o k := by
 unfold aop
 rw [aval_congr h, aeff_congr h]
theorem rdv_congr {o : Oper} {sl1 sl2 : List V} (h : Alike ops o sl1 sl2) (gs : Facts) (x : Operand) (hx : x ∈ o.op.operands.toList) : rdv sl1 gs x = rdv sl2 gs x := by
 cases x with
 | tmp t =>
  have ht : t ∈ tmpsOf o.op := List.mem_filterMap.2 ⟨.tmp t, hx, rfl⟩
  have := h t (mem_LK (List.mem_append_left _ ht) 8 t (gch_self _ _ _))
  simp only [rdv]
  rw [this]
 | _ => rfl
theorem R_congr {C : Caller} {o : Oper} {sl1 sl2 : List V} {st : List Ob} (h : Alike ops o sl1 sl2) (hs : GdS ops sl1) (kk : V -> List Ob -> Prop) : R P C G ops o sl1 st kk = R P C G ops o sl2 st kk := by
 have hr := rdv_congr h
 unfold R
 cases hg : o.guard with
 | none => exact aop_congr hr _
 | some jw =>
  obtain ⟨j, w⟩ := jw
  simp only
  cases hgs : gslot ops j with
  | none => rfl
  | some g =>
   have hgm : g ∈ tmpsOf o.op ++ gsOf ops o := List.mem_append_right _ (by simp [gsOf, hg, hgs])
   have hc := conds_congr hs 8 g w fun t ht => h t (mem_LK hgm 8 t ht)
   simp only
   rw [hc]
   cases conds sl2 8 g w with
   | none => rfl
   | some fb =>
    obtain ⟨fs, bs⟩ := fb
    simp only
    rw [aval_congr hr, aop_congr hr]
def okv (ops : List Oper) (o : Oper) (v : V) : Prop := ∀ g w x, v = .gd g w x -> g ∈ gsOf ops o
theorem R_okv {o : Oper} {sl : List V} {st : List Ob} {kk : V -> List Ob -> Prop} (h : R P (Cx P C Γ) G ops o sl st kk) : R P (Cx P C Γ) G ops o sl st fun v st' => okv ops o v /\ kk v st' := by
 have hn : ∀ v : V, okv ops o (nogd v) := fun v g w x e => absurd e nogd_ne
 cases hg : o.guard with
 | none => simp only [R, hg] at *; exact aop_mono (fun v st' h => ⟨hn v, h⟩) h
 | some jw =>
  obtain ⟨j, w⟩ := jw
  cases hgs : gslot ops j with
  | none => simp [R, hg, hgs] at h
  | some g =>
   have hgd : ∀ x, okv ops o (.gd g w x) := fun x g' w' x' e => by cases e; simp [gsOf, hg, hgs]
   cases hc : conds sl 8 g w with
   | none => simp [R, hg, hgs, hc] at h
   | some fb =>
    obtain ⟨fs, bs⟩ := fb
    by_cases hG : G.contains g = true
    · have alt : (bif okAll bs then aop P (Cx P C Γ) st fs (rdv sl) o.op (fun v st' => kk (nogd v) st') else kk (.x undef) st) ->
        (bif okAll bs then aop P (Cx P C Γ) st fs (rdv sl) o.op (fun v st' => okv ops o (nogd v) /\ kk (nogd v) st') else okv ops o (.x undef) /\ kk (.x undef) st) := by
       cases okAll bs with
       | true => intro h; simp only [cond_true] at h ⊢; exact aop_mono (fun v st' h => ⟨hn v, h⟩) h
       | false =>
        intro h
        refine ⟨?_, h⟩
        intro g' w' x e
        cases e
      cases hd : o.dst with
      | none =>
       cases hv : aval P st fs (rdv sl) o.op with
       | none => simp only [R, hg, hgs, hc, hG, if_true, hd, hv] at *; exact alt h
       | some pv => simp only [R, hg, hgs, hc, hG, if_true, hd, hv] at *; exact alt h
      | some d =>
       cases hv : aval P st fs (rdv sl) o.op with
       | none => simp only [R, hg, hgs, hc, hG, if_true, hd, hv] at *; exact alt h
       | some pv =>
        obtain ⟨p, v⟩ := pv
        by_cases hdg : d = g
        · simp [R, hg, hgs, hc, hG, hd, hv, hdg] at h
        · simp only [R, hg, hgs, hc, hG, if_true, hd, hv, if_neg hdg] at *
          cases p with
          | none => exact ⟨hgd _, h⟩
          | some p => exact ⟨h.1, hgd _, h.2⟩
    · simp only [R, hg, hgs, hc, if_neg hG] at h
theorem aop_still {st : List Ob} {fs : Facts} {sl : List V} {o : Op} (hk : stillK P Γ o = true) {k : V -> List Ob -> Prop} (h : aop P (Cx P C Γ) st fs (rdv sl) o k) : aop P (Cx P C Γ) st fs (rdv sl) o fun v st' => st' = st /\ k v st' := by
 by_cases hd : detK o = true
 · obtain ⟨p, v, hpv⟩ := aop_det (P := P) (C := C) (Γ := Γ) (st := st) (fs := fs) (ρ := rdv sl) hd
   exact (hpv _).2 ⟨((hpv _).1 h).1, rfl, ((hpv _).1 h).2⟩
 · simp only [stillK, Bool.or_eq_true] at hk
   rcases hk with hk | hk
   · exact absurd hk hd
   · cases o with
     | call cl =>
      obtain ⟨callee, args, ts⟩ := cl
      cases callee with
      | value f =>
       cases f with
       | func f =>
        simp only at hk
        simp only [aop, aval, aeff, rdv] at h ⊢
        split at h
        · next hc => simp only [hc, if_true]; exact Cx_still hk h
        · exact h.elim
       | _ => simp at hk
      | _ => simp at hk
     | _ => simp at hk
theorem R_still {o : Oper} (hk : stillK P Γ o.op = true) {sl : List V} {st : List Ob} {kk : V -> List Ob -> Prop} (h : R P (Cx P C Γ) G ops o sl st kk) : R P (Cx P C Γ) G ops o sl st fun v st' => st' = st /\ kk v st' := by
 cases hg : o.guard with
 | none => simp only [R, hg] at *; exact aop_still hk h
 | some jw =>
  obtain ⟨j, w⟩ := jw
  cases hgs : gslot ops j with
  | none => simp [R, hg, hgs] at h
  | some g =>
   cases hc : conds sl 8 g w with
   | none => simp [R, hg, hgs, hc] at h
   | some fb =>
    obtain ⟨fs, bs⟩ := fb
    by_cases hG : G.contains g = true
    · have alt : (bif okAll bs then aop P (Cx P C Γ) st fs (rdv sl) o.op (fun v st' => kk (nogd v) st') else kk (.x undef) st) ->
        (bif okAll bs then aop P (Cx P C Γ) st fs (rdv sl) o.op (fun v st' => st' = st /\ kk (nogd v) st') else st = st /\ kk (.x undef) st) := by
       cases okAll bs with
       | true => exact aop_still hk
       | false => exact fun h => ⟨rfl, h⟩
      cases hd : o.dst with
      | none =>
       cases hv : aval P st fs (rdv sl) o.op with
       | none => simp only [R, hg, hgs, hc, hG, if_true, hd, hv] at *; exact alt h
       | some pv => simp only [R, hg, hgs, hc, hG, if_true, hd, hv] at *; exact alt h
      | some d =>
       cases hv : aval P st fs (rdv sl) o.op with
       | none => simp only [R, hg, hgs, hc, hG, if_true, hd, hv] at *; exact alt h
       | some pv =>
        obtain ⟨p, v⟩ := pv
        by_cases hdg : d = g
        · simp [R, hg, hgs, hc, hG, hd, hv, hdg] at h
        · simp only [R, hg, hgs, hc, hG, if_true, hd, hv, if_neg hdg] at *
          cases p with
          | none => exact ⟨trivial, h⟩
          | some p => exact ⟨h.1, trivial, h.2⟩
    · simp only [R, hg, hgs, hc, if_neg hG] at h
theorem aval_pure {st st2 : List Ob} {fs : Facts} {ρ : Facts -> Operand -> V} {o : Op} (hk : pureK o = true) : aval P st fs ρ o = aval P st2 fs ρ o := by
 cases o <;> first | (simp [pureK] at hk; done) | rfl | skip
 · next c a b => cases c <;> first | (simp [pureK] at hk; done) | rfl
 · next x t lo hi mx => cases mx <;> first | (simp [pureK] at hk; done) | rfl
theorem aop_pure {C : Caller} {st st2 : List Ob} {fs : Facts} {ρ : Facts -> Operand -> V} {o : Op} (hk : pureK o = true) (k : V -> List Ob -> Prop) : aop P C st2 fs ρ o k ↔ aop P C st fs ρ o fun v _ => k v st2 := by
 unfold aop
 rw [aval_pure (st := st2) (st2 := st) hk]
 cases aval P st fs ρ o with
 | some pv => exact Iff.rfl
 | none =>
  cases o <;> first | (simp [pureK] at hk; done) | exact Iff.rfl | skip
  · next c a b => cases c <;> first | (simp [pureK] at hk; done) | exact Iff.rfl
theorem R_pure {C : Caller} {o : Oper} (hk : pureK o.op = true) (sl : List V) (st st2 : List Ob) (kk : V -> List Ob -> Prop) : R P C G ops o sl st2 kk ↔ R P C G ops o sl st fun v _ => kk v st2 := by
 unfold R
 cases hg : o.guard with
 | none => exact aop_pure hk _
 | some jw =>
  obtain ⟨j, w⟩ := jw
  simp only
  cases hgs : gslot ops j with
  | none => exact Iff.rfl
  | some g =>
   simp only
   cases hc : conds sl 8 g w with
   | none => exact Iff.rfl
   | some fb =>
    obtain ⟨fs, bs⟩ := fb
    simp only
    rw [aval_pure (st := st2) (st2 := st) hk]
    split
    · split
      · exact Iff.rfl
      · cases okAll bs with
        | true => exact aop_pure hk _
        | false => exact Iff.rfl
    · exact Iff.rfl
theorem putS_get (d : Option Nat) (v : V) (sl : List V) (t : Nat) : (putS G d v sl).getD t .any = if d = some t /\ t < sl.length then v else (match d with | some d => if G.contains d = true then ungd d (sl.getD t .any) else sl.getD t .any | none => sl.getD t .any) := by
 cases d with
 | none => simp [putS]
 | some d =>
  simp only [putS]
  split
  · next hG =>
    rw [getD_set, getD_map_ungd]
    by_cases h : d = t
    · subst h; simp
    · have : ¬ (some d = some t /\ t < sl.length) := fun e => h (by cases e.1; rfl)
      rw [if_neg this, if_neg (fun e => h e.1)]
  · rw [getD_set]
    by_cases h : d = t
    · subst h; simp
    · have : ¬ (some d = some t /\ t < sl.length) := fun e => h (by cases e.1; rfl)
      rw [if_neg this, if_neg (fun e => h e.1)]
theorem putS_len (d : Option Nat) (v : V) (sl : List V) : (putS G d v sl).length = sl.length := by
 cases d with
 | none => rfl
 | some d => simp only [putS]; split <;> simp
theorem list_ext {a b : List V} (hl : a.length = b.length) (h : ∀ t, a.getD t .any = b.getD t .any) : a = b := by
 apply List.ext_getElem hl
 intro i h1 h2
 have := h i
 simpa [List.getD, List.getElem?_eq_getElem h1, List.getElem?_eq_getElem h2] using this
structure Apart (ops : List Oper) (o1 o2 : Oper) : Prop where
 h1 : ∀ d, o1.dst = some d -> d ∉ LK ops 9 o2
 h2 : ∀ d, o2.dst = some d -> d ∉ LK ops 9 o1
 h3 : ∀ d, o1.dst = some d -> o2.dst ≠ some d
theorem LK_mono {o : Oper} {t : Nat} (h : t ∈ LK ops 8 o) : t ∈ LK ops 9 o := by
 obtain ⟨x, hx, ht⟩ := List.mem_flatMap.1 h
 exact List.mem_flatMap.2 ⟨x, hx, gch_mono 8 x t ht⟩
theorem LK_step {o o' : Oper} {t g : Nat} (h : t ∈ LK ops 8 o) (ho : o' ∈ ops) (hd : o'.dst = some t) (hg : g ∈ gsOf ops o') : g ∈ LK ops 9 o := by
 obtain ⟨x, hx, ht⟩ := List.mem_flatMap.1 h
 exact List.mem_flatMap.2 ⟨x, hx, gch_step 8 x t o' g ht ho hd hg⟩
theorem gs_LK {o : Oper} {g : Nat} (h : g ∈ gsOf ops o) : g ∈ LK ops 9 o := List.mem_flatMap.2 ⟨g, List.mem_append_right _ h, gch_self _ _ _⟩
theorem alike_put {o1 o2 : Oper} (ha : Apart ops o1 o2) {sl : List V} (hs : GdS ops sl) (v : V) : Alike ops o2 (putS G o1.dst v sl) sl := by
 intro t ht
 rw [putS_get]
 cases hd : o1.dst with
 | none => simp
 | some d =>
  have hne : d ≠ t := fun e => ha.h1 d hd (e ▸ LK_mono ht)
  have : ¬ (some d = some t /\ t < sl.length) := fun e => hne (by cases e.1; rfl)
  rw [if_neg this]
  simp only
  split
  · cases hst : sl.getD t .any with
    | gd g w x =>
     obtain ⟨o', ho, hd', hg⟩ := hs t g w x hst
     have hg9 := LK_step ht ho hd' hg
     have : g ≠ d := fun e => ha.h1 d hd (e ▸ hg9)
     simp only [ungd, if_neg this]
    | _ => rfl
  · rfl
theorem gds_put {o : Oper} (ho : o ∈ ops) {sl : List V} (hs : GdS ops sl) {v : V} (hv : okv ops o v) : GdS ops (putS G o.dst v sl) := by
 intro t g w x e
 rw [putS_get] at e
 split at e
 · next h => exact ⟨o, ho, h.1, hv g w x e⟩
 · split at e
   · split at e
     · cases hst : sl.getD t .any with
       | gd g' w' x' =>
        rw [hst] at e
        simp only [ungd] at e
        split at e
        · cases e
        · cases e; exact hs t g w x hst
       | _ => rw [hst] at e; simp [ungd] at e
     · exact hs t g w x e
   · exact hs t g w x e
theorem ungd_ungd (d d' : Nat) (v : V) : ungd d (ungd d' v) = ungd d' (ungd d v) := by
 cases v with
 | gd g w x =>
  have e : ∀ (a : Nat), ungd a (.gd g w x) = if g = a then .any else .gd g w x := fun _ => rfl
  have e0 : ∀ (a : Nat), ungd a .any = .any := fun _ => rfl
  rw [e, e]
  by_cases h : g = d <;> by_cases h' : g = d'
  · rw [if_pos h, if_pos h', e0, e0]
  · rw [if_pos h, if_neg h', e0, e, if_pos h]
  · rw [if_neg h, if_pos h', e0, e, if_pos h']
  · rw [if_neg h, if_neg h', e, e, if_neg h, if_neg h']
 | _ => rfl
theorem ungd_ok {o : Oper} {v : V} (hv : okv ops o v) {d : Nat} (hd : d ∉ LK ops 9 o) : ungd d v = v := by
 cases v with
 | gd g w x =>
  have := gs_LK (hv g w x rfl)
  have hne : g ≠ d := fun e => hd (e ▸ this)
  simp only [ungd, if_neg hne]
 | _ => rfl
theorem put_comm {o1 o2 : Oper} (ha : Apart ops o1 o2) {v1 v2 : V} (h1 : okv ops o1 v1) (h2 : okv ops o2 v2) (sl : List V) : putS G o2.dst v2 (putS G o1.dst v1 sl) = putS G o1.dst v1 (putS G o2.dst v2 sl) := by
 refine list_ext (by simp [putS_len]) fun t => ?_
 rw [putS_get, putS_get, putS_get, putS_get]
 simp only [putS_len]
 cases hd1 : o1.dst with
 | none => simp
 | some d1 =>
  cases hd2 : o2.dst with
  | none => simp
  | some d2 =>
   have hne : d1 ≠ d2 := fun e => ha.h3 d1 hd1 (by rw [hd2, e])
   have e1 := ungd_ok h1 (ha.h2 d2 hd2)
   have e2 := ungd_ok h2 (ha.h1 d1 hd1)
   by_cases ht1 : some d1 = some t /\ t < sl.length
   · have hn2 : ¬ (some d2 = some t /\ t < sl.length) := fun e => hne (by have := ht1.1; have := e.1; simp_all)
     simp only [if_pos ht1, if_neg hn2, e1]
     split <;> rfl
   · by_cases ht2 : some d2 = some t /\ t < sl.length
     · simp only [if_pos ht2, if_neg ht1, e2]
       split <;> rfl
     · simp only [if_neg ht1, if_neg ht2]
       split <;> split <;> first | rfl | exact ungd_ungd _ _ _
end
abbrev Kd := List (Nat × Bool × Bool)
def kT (kn : Kd) (g : Nat) (w : Bool) : Bool := kn.any fun p => Nat.beq p.1 g && (p.2.1 == w && p.2.2)
def kF0 (kn : Kd) (g : Nat) (w : Bool) : Bool := kn.any fun p => Nat.beq p.1 g && (p.2.1 == w && !p.2.2)
def kF (kn : Kd) (g : Nat) (w : Bool) : Bool := kF0 kn g w || kT kn g (!w)
def kst (kn : Kd) (fs : Facts) (g : Nat) (w : Bool) : Option Bool := match kT kn g w with
 | true => some true
 | false => match fs.any fun f => kF kn f.1 f.2 with
  | true => some false
  | false => none
def kc (kn : Kd) (c : Nat) : Option Bool := match kT kn c true || kF0 kn c false with
 | true => some true
 | false => match kT kn c false || kF0 kn c true with
  | true => some false
  | false => none
def kforget (d : Option Nat) (kn : Kd) : Kd := match d with
 | none => kn
 | some d => kn.filter fun p => !(Nat.beq p.1 d)
def kthen (fs : Facts) (kn : Kd) : Kd := fs.map (fun f => (f.1, f.2, true)) ++ kn
def isB (sl : List V) (g : Nat) : Bool := match sl.getD g .any with
 | .x (.bool _) => true
 | .gd _ _ (.x (.bool _)) => true
 | _ => false
def kelse (sl : List V) (fs : Facts) (g : Nat) (w : Bool) (kn : Kd) : Kd := match isB sl g && fs.tail.all fun f => kT kn f.1 f.2 with
 | true => (g, !w, true) :: (g, w, false) :: kn
 | false => (g, w, false) :: kn
def KdR (kn : Kd) (sl : List V) : Prop := ∀ p, p ∈ kn -> ∀ n fs bs, conds sl n p.1 p.2.1 = some (fs, bs) -> okAll bs = p.2.2
theorem kT_out {kn : Kd} {g : Nat} {w : Bool} (h : kT kn g w = true) : (g, w, true) ∈ kn := by
 simp only [kT, List.any_eq_true, Bool.and_eq_true, beq_iff_eq] at h
 obtain ⟨⟨a, b, c⟩, h1, h2, h3, h4⟩ := h
 have h2 := Nat.eq_of_beq_eq_true h2
 simp only at h2 h3 h4
 subst h2 h3 h4
 exact h1
theorem kF0_out {kn : Kd} {g : Nat} {w : Bool} (h : kF0 kn g w = true) : (g, w, false) ∈ kn := by
 simp only [kF0, List.any_eq_true, Bool.and_eq_true, beq_iff_eq] at h
 obtain ⟨⟨a, b, c⟩, h1, h2, h3, h4⟩ := h
 have h2 := Nat.eq_of_beq_eq_true h2
 simp only [Bool.not_eq_true'] at h2 h3 h4
 subst h2 h3 h4
 exact h1
theorem okAll_snoc (bs : List (Bool × Bool)) (b w : Bool) : okAll (bs ++ [(b, w)]) = (okAll bs && (b == w)) := by
 simp [okAll, List.all_append]
theorem conds_chain {sl : List V} : ∀ (n g : Nat) (w : Bool) (fs : Facts) (bs : List (Bool × Bool)), conds sl n g w = some (fs, bs) -> ∀ f, f ∈ fs -> ∃ m fs' bs', conds sl m f.1 f.2 = some (fs', bs') /\ (okAll bs = true -> okAll bs' = true)
 | 0, g, w, fs, bs, h => by simp [conds] at h
 | n + 1, g, w, fs, bs, h => by
  intro f hf
  have h0 := h
  simp only [conds] at h
  split at h
  · cases h
    simp only [List.mem_singleton] at hf
    subst hf
    exact ⟨n + 1, _, _, h0, id⟩
  · cases h
    simp only [List.mem_singleton] at hf
    subst hf
    exact ⟨n + 1, _, _, h0, id⟩
  · split at h
    · next fs' bs' hc =>
      cases h
      rcases List.mem_cons.1 hf with rfl | hf
      · exact ⟨n + 1, _, _, h0, id⟩
      · obtain ⟨m, a, b, h1, h2⟩ := conds_chain n _ _ _ _ hc f hf
        exact ⟨m, a, b, h1, fun ho => h2 (by rw [okAll_snoc, Bool.and_eq_true] at ho; exact ho.1)⟩
    · cases h
  · split at h
    · next fs' bs' hc =>
      cases h
      rcases List.mem_cons.1 hf with rfl | hf
      · exact ⟨n + 1, _, _, h0, id⟩
      · obtain ⟨m, a, b, h1, h2⟩ := conds_chain n _ _ _ _ hc f hf
        exact ⟨m, a, b, h1, fun ho => h2 (by rw [okAll_snoc, Bool.and_eq_true] at ho; exact ho.1)⟩
    · cases h
  · cases h
theorem conds_flip {sl : List V} {n m g : Nat} {w : Bool} {fs fs2 : Facts} {bs bs2 : List (Bool × Bool)} (h : conds sl n g w = some (fs, bs)) (h2 : conds sl m g (!w) = some (fs2, bs2)) (ho : okAll bs2 = true) : okAll bs = false := by
 cases n with
 | zero => simp [conds] at h
 | succ n =>
  cases m with
  | zero => simp [conds] at h2
  | succ m =>
   simp only [conds] at h h2
   split at h
   · next b e =>
     cases h
     rw [e] at h2
     cases h2
     simp only [okAll, List.all_cons, List.all_nil, Bool.and_true] at ho ⊢
     cases b <;> cases w <;> simp_all
   · cases h; rfl
   · next g' w' b e =>
     rw [e] at h2
     simp only at h2
     split at h
     · cases h
       split at h2
       · cases h2
         rw [okAll_snoc, Bool.and_eq_true] at ho
         rw [okAll_snoc]
         have := ho.2
         cases b <;> cases w <;> simp_all
       · cases h2
     · cases h
   · split at h
     · cases h
       rw [okAll_snoc]
       simp
     · cases h
   · cases h
theorem kst_sound {kn : Kd} {sl : List V} (hk : KdR kn sl) {n g : Nat} {w t : Bool} {fs : Facts} {bs : List (Bool × Bool)} (hc : conds sl n g w = some (fs, bs)) (h : kst kn fs g w = some t) : okAll bs = t := by
 unfold kst at h
 split at h
 · next e => cases h; exact hk _ (kT_out e) n fs bs hc
 · split at h
   · next e =>
     cases h
     rw [List.any_eq_true] at e
     obtain ⟨f, hf, he⟩ := e
     obtain ⟨m, fs', bs', h1, h2⟩ := conds_chain n g w fs bs hc f hf
     have hfalse : okAll bs' = false := by
      simp only [kF, Bool.or_eq_true] at he
      rcases he with he | he
      · exact hk _ (kF0_out he) m fs' bs' h1
      ·
       cases m with
       | zero => simp [conds] at h1
       | succ m =>
        have : ∃ fs2 bs2, conds sl (m + 1) f.1 (!f.2) = some (fs2, bs2) := by
         simp only [conds] at h1 ⊢
         split at h1
         · exact ⟨_, _, rfl⟩
         · exact ⟨_, _, rfl⟩
         · split at h1
           · exact ⟨_, _, rfl⟩
           · cases h1
         · split at h1
           · exact ⟨_, _, rfl⟩
           · cases h1
         · cases h1
        obtain ⟨fs2, bs2, h3⟩ := this
        exact conds_flip h1 h3 (hk _ (kT_out he) _ _ _ h3)
     cases hb : okAll bs with
     | false => rfl
     | true => rw [h2 hb] at hfalse; cases hfalse
   · cases h
theorem kd_cons {kn : Kd} {sl : List V} (h : KdR kn sl) {p : Nat × Bool × Bool} (hp : ∀ n fs bs, conds sl n p.1 p.2.1 = some (fs, bs) -> okAll bs = p.2.2) : KdR (p :: kn) sl := fun q hq => by
 rcases List.mem_cons.1 hq with rfl | hq
 · exact hp
 · exact h q hq
theorem conds_fuel {sl : List V} : ∀ (n m g : Nat) (w : Bool) (x y : Facts × List (Bool × Bool)), conds sl n g w = some x -> conds sl m g w = some y -> x = y
 | 0, m, g, w, x, y, h, _ => by simp [conds] at h
 | n + 1, 0, g, w, x, y, _, h => by simp [conds] at h
 | n + 1, m + 1, g, w, x, y, h1, h2 => by
  simp only [conds] at h1 h2
  split at h1
  · next e => rw [e] at h2; cases h1; cases h2; rfl
  · next e => rw [e] at h2; cases h1; cases h2; rfl
  · next e =>
    rw [e] at h2
    simp only at h2
    split at h1
    · next h3 =>
      split at h2
      · next h4 => cases h1; cases h2; cases conds_fuel n m _ _ _ _ h3 h4; rfl
      · cases h2
    · cases h1
  · next e =>
    rw [e] at h2
    simp only at h2
    split at h1
    · next h3 =>
      split at h2
      · next h4 => cases h1; cases h2; cases conds_fuel n m _ _ _ _ h3 h4; rfl
      · cases h2
    · cases h1
  · cases h1
theorem kthen_ok {kn : Kd} {sl : List V} (hk : KdR kn sl) {n g : Nat} {w : Bool} {fs : Facts} {bs : List (Bool × Bool)} (hc : conds sl n g w = some (fs, bs)) (ho : okAll bs = true) : KdR (kthen fs kn) sl := by
 intro p hp
 unfold kthen at hp
 rw [List.mem_append, List.mem_map] at hp
 rcases hp with ⟨f, hf, rfl⟩ | hp
 · obtain ⟨m, fs', bs', h1, h2⟩ := conds_chain n g w fs bs hc f hf
   intro n' fs2 bs2 h3
   cases conds_fuel m n' _ _ _ _ h1 h3
   exact h2 ho
 · exact hk p hp
theorem kelse_ok {kn : Kd} {sl : List V} (hk : KdR kn sl) {n g : Nat} {w : Bool} {fs : Facts} {bs : List (Bool × Bool)} (hc : conds sl n g w = some (fs, bs)) (ho : okAll bs = false) : KdR (kelse sl fs g w kn) sl := by
 have h1 : KdR ((g, w, false) :: kn) sl := kd_cons hk fun m fs2 bs2 h3 => by cases conds_fuel n m _ _ _ _ hc h3; exact ho
 unfold kelse
 split
 · next hall =>
   rw [Bool.and_eq_true] at hall
   obtain ⟨hB, hall⟩ := hall
   refine kd_cons h1 fun m fs2 bs2 h3 => ?_
   cases n with
   | zero => simp [conds] at hc
   | succ n =>
    cases m with
    | zero => simp [conds] at h3
    | succ m =>
     simp only [conds] at hc h3
     split at hc
     · next b e =>
       cases hc
       rw [e] at h3
       cases h3
       simp only [okAll, List.all_cons, List.all_nil, Bool.and_true] at ho ⊢
       cases b <;> cases w <;> simp_all
     · next u e => (unfold isB at hB; rw [e] at hB; cases hB)
     · next g' w' b e =>
       rw [e] at h3
       simp only at h3
       split at hc
       · next fs0 bs0 hc' =>
         cases hc
         split at h3
         · next hc2 =>
           cases conds_fuel n m _ _ _ _ hc' hc2
           cases h3
           have hin : okAll bs0 = true := by
            cases n with
            | zero => simp [conds] at hc'
            | succ n =>
             have hh := hc'
             have hm : (g', w') ∈ fs0 := by
              simp only [conds] at hh
              split at hh
              · cases hh; exact List.mem_singleton.2 rfl
              · cases hh; exact List.mem_singleton.2 rfl
              · split at hh
                · cases hh; exact List.mem_cons_self
                · cases hh
              · split at hh
                · cases hh; exact List.mem_cons_self
                · cases hh
              · cases hh
             rw [List.tail_cons, List.all_eq_true] at hall
             exact hk _ (kT_out (hall _ hm)) _ _ _ hc'
           rw [okAll_snoc, hin] at ho ⊢
           cases b <;> cases w <;> simp_all
         · cases h3
       · cases hc
     · next e => (unfold isB at hB; rw [e] at hB; cases hB)
     · cases hc
 · exact h1
theorem conds_put {G : List Nat} {sl : List V} (hg : GdIn G sl) (d : Option Nat) (v : V) : ∀ (n g : Nat) (w : Bool) (x : Facts × List (Bool × Bool)), d ≠ some g -> conds (putS G d v sl) n g w = some x -> conds sl n g w = some x
 | 0, g, w, x, _, h => by simp [conds] at h
 | n + 1, g, w, x, hne, h => by
  cases d with
  | none => exact h
  | some d =>
   have hdg : d ≠ g := fun e => hne (by rw [e])
   have hslot : (putS G (some d) v sl).getD g .any = if G.contains d = true then ungd d (sl.getD g .any) else sl.getD g .any := by
    simp only [putS]
    split
    · rw [getD_set, if_neg (fun e => hdg e.1), getD_map_ungd]
    · rw [getD_set, if_neg (fun e => hdg e.1)]
   have hslot2 : (putS G (some d) v sl).getD g .any = sl.getD g .any /\ (∀ g' w' y, sl.getD g .any = .gd g' w' y -> g' ≠ d) \/ (putS G (some d) v sl).getD g .any = .any := by
    rw [hslot]
    split
    · cases hh : sl.getD g .any with
      | gd g' w' y =>
       simp only [ungd]
       split
       · exact .inr rfl
       · next e => exact .inl ⟨rfl, fun g'' w'' y' e2 => by cases e2; exact e⟩
      | _ => exact .inl ⟨rfl, fun _ _ _ e => by cases e⟩
    · next hG => exact .inl ⟨rfl, fun g' w' y e e2 => hG (by subst e2; simpa using hg g g' w' y e)⟩
   rcases hslot2 with ⟨e, hgd⟩ | e
   · simp only [conds] at h ⊢
     rw [e] at h
     split at h
     · exact h
     · exact h
     · next g' w' b e2 =>
       split at h
       · next hc =>
         rw [conds_put hg (some d) v n g' w' _ (fun e3 => hgd g' w' _ e2 (by cases e3; rfl)) hc]
         exact h
       · cases h
     · next g' w' b e2 =>
       split at h
       · next hc =>
         rw [conds_put hg (some d) v n g' w' _ (fun e3 => hgd g' w' _ e2 (by cases e3; rfl)) hc]
         exact h
       · cases h
     · cases h
   · simp only [conds] at h
     rw [e] at h
     cases h
theorem kd_put {G : List Nat} {kn : Kd} {sl : List V} (hk : KdR kn sl) (hg : GdIn G sl) (d : Option Nat) (v : V) : KdR (kforget d kn) (putS G d v sl) := by
 intro p hp n fs bs hc
 cases d with
 | none => exact hk p hp n fs bs hc
 | some d =>
  simp only [kforget, List.mem_filter] at hp
  refine hk p hp.1 n fs bs (conds_put hg (some d) v n _ _ _ (fun e => ?_) hc)
  cases e
  have := hp.2
  simp at this
theorem gdin_put {G : List Nat} {sl : List V} (hg : GdIn G sl) (d : Option Nat) {v : V} (hv : ∀ g w x, v = .gd g w x -> g ∈ G) : GdIn G (putS G d v sl) := by
 intro t g w x e
 cases d with
 | none => exact hg t g w x e
 | some d =>
  simp only [putS] at e
  split at e
  · rw [getD_set] at e
    split at e
    · exact hv g w x e
    · rw [getD_map_ungd] at e
      cases hh : sl.getD t .any with
      | gd g' w' x' =>
       rw [hh] at e
       simp only [ungd] at e
       split at e
       · cases e
       · cases e; exact hg t _ _ _ hh
      | _ => rw [hh] at e; simp [ungd] at e
  · rw [getD_set] at e
    split at e
    · exact hv g w x e
    · exact hg t g w x e
def aopD (P : Program) (C : Caller) (kn : Kd) (st : List Ob) (fs : Facts) (sl : List V) (op : Op) (k : V -> List Ob -> Prop) : Prop := match op with
 | .pick (.tmp c) x y => match kc kn c with
  | some t => match rdv sl fs (.tmp c) with
   | .x (.bool _) => match t with
    | true => k (rdv sl ((c, true) :: fs) x) st
    | false => k (rdv sl ((c, false) :: fs) y) st
   | _ => False
  | none => aop P C st fs (rdv sl) op k
 | _ => aop P C st fs (rdv sl) op k
theorem kc_sound {kn : Kd} {sl : List V} (hk : KdR kn sl) {fs : Facts} (hfs : ∀ f, f ∈ fs -> ∃ m fs' bs', conds sl m f.1 f.2 = some (fs', bs') /\ okAll bs' = true) {c : Nat} {b t : Bool} (hc : kc kn c = some t) (hr : rdv sl fs (.tmp c) = .x (.bool b)) : b = t := by
 have key : ∃ (n : Nat) (fs1 : Bool -> Facts) (bs1 : List (Bool × Bool)), okAll bs1 = true /\ ∀ w, conds sl n c w = some (fs1 w, bs1 ++ [(b, w)]) := by
  simp only [rdv] at hr
  split at hr
  · next g w v e =>
    split at hr
    · next hany =>
      subst hr
      rw [List.any_eq_true] at hany
      obtain ⟨f, hf, he⟩ := hany
      simp only [Bool.and_eq_true, beq_iff_eq] at he
      obtain ⟨m, fs', bs', h1, h2⟩ := hfs f hf
      rw [he.1, he.2] at h1
      exact ⟨m + 1, fun w' => (c, w') :: fs', bs', h2, fun w' => by simp only [conds, e, h1]⟩
    · cases hr
  · exact ⟨1, fun w' => [(c, w')], [], rfl, fun w' => by simp only [conds, hr]; rfl⟩
 obtain ⟨n, fs1, bs1, h1, h2⟩ := key
 have hT : ∀ w, kT kn c w = true -> b = w := fun w h => by
  have := hk _ (kT_out h) n _ _ (h2 w)
  rw [okAll_snoc, h1] at this
  simpa using this
 have hF : ∀ w, kF0 kn c w = true -> b = !w := fun w h => by
  have := hk _ (kF0_out h) n _ _ (h2 w)
  rw [okAll_snoc, h1] at this
  cases b <;> cases w <;> simp_all
 unfold kc at hc
 split at hc
 · next e =>
   cases hc
   rw [Bool.or_eq_true] at e
   rcases e with e | e
   · exact hT _ e
   · exact hF _ e
 · split at hc
   · next e =>
     cases hc
     rw [Bool.or_eq_true] at e
     rcases e with e | e
     · exact hT _ e
     · exact hF _ e
   · cases hc
theorem aopD_aop {P : Program} {C : Caller} {kn : Kd} {sl : List V} (hk : KdR kn sl) {st : List Ob} {fs : Facts} (hfs : ∀ f, f ∈ fs -> ∃ m fs' bs', conds sl m f.1 f.2 = some (fs', bs') /\ okAll bs' = true) {op : Op} {k : V -> List Ob -> Prop} (h : aopD P C kn st fs sl op k) : aop P C st fs (rdv sl) op k := by
 unfold aopD at h
 split at h
 · next c x y =>
   split at h
   · next t hc =>
     split at h
     · next b hr =>
       have hb := kc_sound hk hfs hc hr
       subst hb
       unfold aop
       simp only [aval, hr]
       cases hp : apick b (rdv sl ((c, true) :: fs) x) (rdv sl ((c, false) :: fs) y) with
       | none =>
        simp only [aeff, hr]
        cases b <;> exact h
       | some v =>
        simp only [andO]
        have : v = bif b then rdv sl ((c, true) :: fs) x else rdv sl ((c, false) :: fs) y := by
         unfold apick at hp
         split at hp
         · next e1 e2 => cases hp; rw [e1, e2]; cases b <;> rfl
         · next e1 e2 =>
           split at hp
           · next hkk => cases hp; subst hkk; rw [e1, e2]; cases b <;> rfl
           · cases hp
         · cases hp
        rw [this]
        cases b <;> exact h
     · exact h.elim
   · exact h
 · exact h
def aopsD (P : Program) (C : Caller) (G : List Nat) (ops : List Oper) : List Oper -> Kd -> List V -> List Ob -> (Kd -> List V -> List Ob -> Prop) -> Prop
 | [], kn, sl, st, K => K kn sl st
 | o :: rest, kn, sl, st, K => forceL sl fun sl =>
  match o.guard with
  | none => aopD P C kn st [] sl o.op fun v st' => aopsD P C G ops rest (kforget o.dst kn) (putS G o.dst (nogd v) sl) st' K
  | some (j, w) => match gslot ops j with
   | none => False
   | some g => match conds sl 8 g w with
    | none => False
    | some (fs, bs) =>
     if G.contains g = true then
      match aval P st fs (rdv sl) o.op, o.dst with
      | some (p, v), some d => if d = g then False else match kst kn fs g w with
       | none => andG bs p (aopsD P C G ops rest (kforget (some d) kn) (putS G (some d) (.gd g w (nogd v)) sl) st K)
       | some true => andO p (aopsD P C G ops rest (kforget (some d) kn) (putS G (some d) (.gd g w (nogd v)) sl) st K)
       | some false => aopsD P C G ops rest (kforget (some d) kn) (putS G (some d) (.gd g w (nogd v)) sl) st K
      | _, _ => match kst kn fs g w with
       | none => bif okAll bs then aopD P C (kthen fs kn) st fs sl o.op fun v st' => aopsD P C G ops rest (kforget o.dst (kthen fs kn)) (putS G o.dst (nogd v) sl) st' K
        else aopsD P C G ops rest (kforget o.dst (kelse sl fs g w kn)) (putS G o.dst (.x undef) sl) st K
       | some true => aopD P C kn st fs sl o.op fun v st' => aopsD P C G ops rest (kforget o.dst kn) (putS G o.dst (nogd v) sl) st' K
       | some false => aopsD P C G ops rest (kforget o.dst kn) (putS G o.dst (.x undef) sl) st K
     else False
theorem aopsD_aops {P : Program} {C : Caller} {Γ : Ctx} {G : List Nat} {ops : List Oper} : ∀ (l : List Oper) (kn : Kd) (sl : List V) (st : List Ob) (K : Kd -> St) (K' : St), (∀ kn sl st, GdIn G sl -> KdR kn sl -> K kn sl st -> K' sl st) -> GdIn G sl -> KdR kn sl -> aopsD P (Cx0 P C Γ) G ops l kn sl st K -> aops P (Cx P C Γ) G ops l sl st K'
 | [], kn, sl, st, K, K', hK, hg, hk, h => hK _ _ _ hg hk h
 | o :: rest, kn, sl, st, K, K', hK, hg, hk, h => by
  have hno : ∀ v : V, ∀ g w x, nogd v = .gd g w x -> g ∈ G := fun v g w x e => absurd e nogd_ne
  have step : ∀ (kn' : Kd) (fs : Facts), KdR kn' sl -> (∀ f, f ∈ fs -> ∃ m fs' bs', conds sl m f.1 f.2 = some (fs', bs') /\ okAll bs' = true) ->
    (aopD P (Cx0 P C Γ) kn' st fs sl o.op fun v st' => aopsD P (Cx0 P C Γ) G ops rest (kforget o.dst kn') (putS G o.dst (nogd v) sl) st' K) ->
    aop P (Cx P C Γ) st fs (rdv sl) o.op fun v st' => aops P (Cx P C Γ) G ops rest (putS G o.dst (nogd v) sl) st' K' := fun kn' fs hk' hfs h =>
   aop_le Cx0_le (fun v st' h => aopsD_aops rest _ _ st' K K' hK (gdin_put hg _ (hno v)) (kd_put hk' hg _ _) h) (aopD_aop hk' hfs h)
  have skip : ∀ (kn' : Kd), KdR kn' sl -> aopsD P (Cx0 P C Γ) G ops rest (kforget o.dst kn') (putS G o.dst (.x undef) sl) st K -> aops P (Cx P C Γ) G ops rest (putS G o.dst (.x undef) sl) st K' := fun kn' hk' h =>
   aopsD_aops rest _ _ st K K' hK (gdin_put hg _ (fun g w x e => by cases e)) (kd_put hk' hg _ _) h
  simp only [aopsD, forceL_eq] at h
  simp only [aops]
  split at h
  · next hgd => rw [hgd]; exact step kn [] hk (fun f hf => by simp at hf) h
  · next j w hgd =>
    rw [hgd]
    simp only
    split at h
    · exact h.elim
    · next g hgs =>
      rw [hgs]
      simp only
      split at h
      · exact h.elim
      · next fs bs hc =>
        rw [hc]
        simp only
        have hfs : okAll bs = true -> ∀ f, f ∈ fs -> ∃ m fs' bs', conds sl m f.1 f.2 = some (fs', bs') /\ okAll bs' = true := fun ho f hf => by
         obtain ⟨m, a, b, h1, h2⟩ := conds_chain 8 g w fs bs hc f hf
         exact ⟨m, a, b, h1, h2 ho⟩
        split at h
        · next hG =>
          have hGm : g ∈ G := by simpa using hG
          split at h
          · next p v d hv hd =>
            split at h
            · exact h.elim
            · next hne =>
              have go : ∀ {q : Prop}, q = aopsD P (Cx0 P C Γ) G ops rest (kforget (some d) kn) (putS G (some d) (.gd g w (nogd v)) sl) st K -> q -> aops P (Cx P C Γ) G ops rest (putS G (some d) (.gd g w (nogd v)) sl) st K' := fun e hq => by
               subst e
               exact aopsD_aops rest _ _ st K K' hK (gdin_put hg _ (fun g' w' x' e => by cases e; exact hGm)) (kd_put hk hg _ _) hq
              simp only [if_pos hG, hv, hd, if_neg hne]
              split at h
              · cases p with
                | none => exact go rfl h
                | some p => exact ⟨h.1, go rfl h.2⟩
              · next hk' =>
                cases p with
                | none => exact go rfl h
                | some p =>
                 refine ⟨?_, go rfl h.2⟩
                 have hp := h.1
                 clear h
                 have : ∀ (l : List (Bool × Bool)), imps l p := fun l => by
                  induction l with
                  | nil => exact hp
                  | cons x l ih => exact fun _ => ih
                 exact this bs
              · next hk' =>
                have hb := kst_sound hk hc hk'
                cases p with
                | none => exact go rfl h
                | some p =>
                 refine ⟨?_, go rfl h⟩
                 have : ∀ (l : List (Bool × Bool)), okAll l = false -> imps l p := fun l => by
                  induction l with
                  | nil => intro e; simp [okAll] at e
                  | cons x l ih =>
                   intro e hx
                   refine ih ?_
                   simp only [okAll, List.all_cons] at e ⊢
                   rw [hx] at e
                   simpa using e
                 exact this bs hb
          · next hnv =>
            have h2 : (match kst kn fs g w with
              | none => bif okAll bs then aopD P (Cx0 P C Γ) (kthen fs kn) st fs sl o.op fun v st' => aopsD P (Cx0 P C Γ) G ops rest (kforget o.dst (kthen fs kn)) (putS G o.dst (nogd v) sl) st' K
               else aopsD P (Cx0 P C Γ) G ops rest (kforget o.dst (kelse sl fs g w kn)) (putS G o.dst (.x undef) sl) st K
              | some true => aopD P (Cx0 P C Γ) kn st fs sl o.op fun v st' => aopsD P (Cx0 P C Γ) G ops rest (kforget o.dst kn) (putS G o.dst (nogd v) sl) st' K
              | some false => aopsD P (Cx0 P C Γ) G ops rest (kforget o.dst kn) (putS G o.dst (.x undef) sl) st K) ->
              bif okAll bs then aop P (Cx P C Γ) st fs (rdv sl) o.op fun v st' => aops P (Cx P C Γ) G ops rest (putS G o.dst (nogd v) sl) st' K' else aops P (Cx P C Γ) G ops rest (putS G o.dst (.x undef) sl) st K' := by
             intro h
             cases hb : okAll bs with
             | true =>
              cases hks : kst kn fs g w with
              | none => rw [hks, hb] at h; exact step _ fs (kthen_ok hk hc hb) (hfs hb) h
              | some t =>
               have := kst_sound hk hc hks
               rw [hb] at this
               subst this
               rw [hks] at h
               exact step _ fs hk (hfs hb) h
             | false =>
              cases hks : kst kn fs g w with
              | none => rw [hks, hb] at h; exact skip _ (kelse_ok hk hc hb) h
              | some t =>
               have := kst_sound hk hc hks
               rw [hb] at this
               subst this
               rw [hks] at h
               exact skip _ hk h
            simp only [if_pos hG]
            have h3 := h2 h
            exact h3
        · exact h.elim
def kindOk (P : Program) (Γ : Ctx) (h i : Op) : Bool := (detK h && stillK P Γ i) || (stillK P Γ h && detK i) || pureK h || pureK i
def growK : Op -> Bool
 | .alloc _ | .box _ _ | .makeSlice _ _ _ => true
 | _ => false
def flatB (P : Program) (t : TypeId) : Bool := match P.underlying t with
 | some (.slice e) => match tyOf P 20 e with
  | some τ => flatT τ
  | none => false
 | _ => false
def growP (P : Program) (o : Op) : Bool := growK o || (match o with
 | .buildSlice t _ _ => flatB P t
 | _ => false)
def kindOk2 (P : Program) (Γ : Ctx) (h i : Oper) : Bool := kindOk P Γ h.op i.op || (detK h.op && (growP P i.op && h.guard.isNone))
structure PairOk (P : Program) (Γ : Ctx) (ops : List Oper) (h i : Oper) : Prop where
 apart : Apart ops h i
 kind : kindOk2 P Γ h i = true
section
variable {P : Program} {C : Caller} {Γ : Ctx} {G : List Nat} {ops : List Oper}
def Owes (P : Program) (C : Caller) (Γ : Ctx) (G : List Nat) (ops : List Oper) (i : Oper) (sl : List V) (st : List Ob) : Prop := R P (Cx P C Γ) G ops i sl st fun _ _ => True
theorem R_owes {i : Oper} {sl : List V} {st : List Ob} {kk : V -> List Ob -> Prop} (h : R P (Cx P C Γ) G ops i sl st kk) : Owes P C Γ G ops i sl st := R_mono (fun _ _ _ => trivial) h
theorem det_val {i : Oper} {sl : List V} {st : List Ob} (hi : detK i.op = true) (ho : Owes P C Γ G ops i sl st) : ∃ v, okv ops i v /\ ∀ kk, R P (Cx P C Γ) G ops i sl st kk ↔ kk v st := by
 obtain ⟨p, v, hv⟩ := R_det (P := P) (Γ := Γ) (G := G) (ops := ops) hi sl st
 have hp : p := ((hv _).1 ho).1
 refine ⟨v, ((hv _).1 (R_okv ho)).2.1, fun kk => ?_⟩
 rw [hv]
 exact ⟨fun h => h.2, fun h => ⟨hp, h⟩⟩
def Grown (st st' : List Ob) : Prop := st' = st \/ ∃ ob, st' = st ++ [ob]
theorem get_grown {st : List Ob} {ob x : Ob} {r : Nat} (h : st[r]? = some x) : (st ++ [ob])[r]? = some x := by
 rw [List.getElem?_append_left (List.getElem?_eq_some_iff.1 h).1]
 exact h
theorem cellsAt_grown {st : List Ob} {ob : Ob} {v : V} {vs : List V} (h : cellsAt st v = some vs) : cellsAt (st ++ [ob]) v = some vs := by
 cases v with
 | cl r i =>
  simp only [cellsAt] at h ⊢
  split at h
  · next cs e => rw [get_grown e]; exact h
  · cases h
 | el r i j =>
  simp only [cellsAt] at h ⊢
  split at h
  · next t f xs e => rw [get_grown e]; exact h
  · cases h
 | _ => first | exact h | (simp [cellsAt] at h; done)
theorem poolAt_grown {ob : Ob} : ∀ {st : List Ob} {i : Nat} {pm : Nat × Pool}, poolAt i st = some pm -> poolAt i (st ++ [ob]) = some pm
 | x :: st, i, pm, h => by
  cases x with
  | pool m => exact h
  | _ => exact poolAt_grown (st := st) h
theorem alen_grown {st : List Ob} {ob : Ob} {t : TypeId} {x : V} {n : Int} (h : alen P st t x = some n) : alen P (st ++ [ob]) t x = some n := by
 unfold alen at h ⊢
 split at h
 · next e => (try simp only [e]); exact h
 · next r e =>
   try simp only [e]
   split at h
   · next e2 => rw [get_grown e2]; exact h
   · cases h
 · next r _ n e =>
   try simp only [e]
   split at h
   · next e2 => rw [get_grown e2]; exact h
   · cases h
 · next e => (try simp only [e]); exact h
 · next e => (try simp only [e]); exact h
 · next e => (try simp only [e]); exact h
 · next e => (try simp only [e]); exact h
 · cases h
theorem aload_grown {st : List Ob} {ob : Ob} {t : TypeId} {a v : V} (h : aload P st t a = some v) : aload P (st ++ [ob]) t a = some v := by
 unfold aload at h ⊢
 split at h
 · next e => rw [cellsAt_grown e]; exact h
 · cases h
theorem load_grown {st : List Ob} {ob : Ob} {t : TypeId} {a : V} {r : Option Prop × V}
  (h : (match aload P st t a with | some v => some (none, v) | none => pload P st t a) = some r) : (match aload P (st ++ [ob]) t a with | some v => some (none, v) | none => pload P (st ++ [ob]) t a) = some r := by
 cases hl : aload P st t a with
 | some v => rw [hl] at h; rw [aload_grown hl]; exact h
 | none =>
  rw [hl] at h
  cases a with
  | pt a i =>
   have : aload P (st ++ [ob]) t (.pt a i) = none := rfl
   rw [this]
   simp only [pload] at h ⊢
   split at h
   · next q m e => rw [poolAt_grown e]; exact h
   · cases h
  | el r i j =>
   simp only [pload] at h
   split at h
   · next cs e =>
     have e' := get_grown (ob := ob) e
     have hz : aload P (st ++ [ob]) t (.el r i j) = none := by simp [aload, cellsAt, e']
     rw [hz]
     simp only [pload, e']
     exact h
   · cases h
  | _ => simp [pload] at h
theorem aelt_grown {st : List Ob} {ob : Ob} {s : Nat} {n : Int} {x v : V} (h : aelt st s n x = some v) : aelt (st ++ [ob]) s n x = some v := by
 cases x with
 | cl r k =>
  simp only [aelt] at h ⊢
  split at h
  · next cs e => simp only [get_grown e]; exact h
  · cases h
 | _ => exact h
theorem aindexAddr_grown {st : List Ob} {ob : Ob} {t : TypeId} {x i : V} {r : Option Prop × V} (h : aindexAddr P st t x i = some r) : aindexAddr P (st ++ [ob]) t x i = some r := by
 unfold aindexAddr at h ⊢
 split at h
 · next k n =>
   try simp only
   split at h
   · next e hu =>
     try simp only [hu]
     split at h
     · next inf hi =>
       try simp only [hi]
       split at h
       · exact h
       · next rr =>
         split at h
         · next e2 => simp only [get_grown e2]; exact h
         · cases h
       · next rr lo m =>
         split at h
         · next e2 => simp only [get_grown e2]; exact h
         · cases h
       · exact h
       · cases h
     · cases h
   · next len e hu =>
     try simp only [hu]
     split at h
     · next inf hi =>
       try simp only [hi]
       split at h
       · exact h
       · split at h
         · next v hv => simp only [aelt_grown hv]; exact h
         · cases h
     · cases h
   · cases h
 · cases h
theorem indexAddr_grown {st : List Ob} {ob : Ob} {t : TypeId} {x i : V} {r : Option Prop × V}
  (h : (match aindexAddr P st t x i with | some r => some r | none => pindexAddr P st t x i) = some r) : (match aindexAddr P (st ++ [ob]) t x i with | some r => some r | none => pindexAddr P (st ++ [ob]) t x i) = some r := by
 cases hl : aindexAddr P st t x i with
 | some v => rw [hl] at h; rw [aindexAddr_grown hl]; exact h
 | none =>
  rw [hl] at h
  simp only at h
  have hn : aindexAddr P (st ++ [ob]) t x i = none := by
   unfold pindexAddr at h
   split at h
   · next hd k n =>
     split at h
     · next e hu =>
       split at h
       · next inf _ _ hi _ => simp [aindexAddr, hu, hi]
       · cases h
     · cases h
   · cases h
  rw [hn]
  simp only
  unfold pindexAddr at h ⊢
  split at h
  · next hd k n =>
    try simp only
    split at h
    · next e hu =>
      try simp only [hu]
      split at h
      · next inf q m hi hm => simp only [hi, poolAt_grown hm]; exact h
      · cases h
    · cases h
  · cases h
theorem aval_grown {st : List Ob} {ob : Ob} {fs : Facts} {ρ : Facts -> Operand -> V} {o : Op} {r : Option Prop × V} (hd : detK o = true) (h : aval P st fs ρ o = some r) : aval P (st ++ [ob]) fs ρ o = some r := by
 cases o with
 | load t a => exact load_grown h
 | indexAddr t x i => exact indexAddr_grown h
 | call cl =>
  obtain ⟨callee, args, ts⟩ := cl
  cases callee with
  | builtin b =>
   cases b <;> first | (simp [detK, pureK] at hd; done) | skip
   all_goals
    simp only [aval] at h ⊢
    split at h
    · next v e =>
      have e2 : ∀ b, abi P st b ts.toList (args.toList.map (ρ fs)) = some v -> abi P (st ++ [ob]) b ts.toList (args.toList.map (ρ fs)) = some v := fun b e => by
       unfold abi at e ⊢
       split at e
       · next t r x r' e1 e2 =>
         split at e
         · next n hn => simp only [e1, e2, alen_grown hn]; exact e
         · cases e
       · next e1 => (try simp only [e1]); exact e
       · next e1 => (try simp only [e1]); exact e
       · next e1 => (try simp only [e1]); exact e
       · cases e
      rw [e2 _ e]
      exact h
    · cases h
  | _ => simp [detK, pureK] at hd
 | slice t x lo hi mx =>
  cases mx with
  | none => exact h
  | some m => simp [detK, pureK] at hd
 | pick c a b =>
  cases c <;> exact h
 | _ => exact h
theorem det_grown {h : Oper} {sl : List V} {st : List Ob} (hd : detK h.op = true) (hg : h.guard = none) (ho : Owes P C Γ G ops h sl st) :
  ∃ v, okv ops h v /\ ∀ st2, Grown st st2 -> ∀ kk, R P (Cx P C Γ) G ops h sl st2 kk ↔ kk v st2 := by
 unfold Owes at ho
 simp only [R, hg] at ho
 cases hv : aval P st [] (rdv sl) h.op with
 | some pv =>
  obtain ⟨p, v⟩ := pv
  refine ⟨nogd v, fun g w x e => absurd e nogd_ne, fun st2 hst kk => ?_⟩
  have hv2 : aval P st2 [] (rdv sl) h.op = some (p, v) := by
   rcases hst with rfl | ⟨ob, rfl⟩
   · exact hv
   · exact aval_grown hd hv
  simp only [R, hg]
  unfold aop at ho ⊢
  rw [hv] at ho
  rw [hv2]
  cases p with
  | none => exact Iff.rfl
  | some p => exact ⟨fun g => g.2, fun g => ⟨ho.1, g⟩⟩
 | none =>
  unfold aop at ho
  rw [hv] at ho
  simp only at ho
  cases hop : h.op with
  | pick c a b =>
   rw [hop] at ho hv
   cases c with
   | tmp s =>
    simp only [aeff] at ho
    split at ho
    · next t e =>
      have key : ∀ st2 kk, R P (Cx P C Γ) G ops h sl st2 kk ↔ kk (nogd (bif t then rdv sl [(s, true)] a else rdv sl [(s, false)] b)) st2 := fun st2 kk => by
       have hv2 : aval P st2 [] (rdv sl) (.pick (.tmp s) a b) = none := hv
       simp only [R, hg, hop]
       unfold aop
       rw [hv2]
       simp only [aeff, e]
       cases t <;> exact Iff.rfl
      exact ⟨_, fun g w x e => absurd e nogd_ne, fun st2 _ kk => key st2 kk⟩
    · exact ho.elim
   | _ => rw [hop] at hd; simp [detK, pureK] at hd
  | call cl =>
   rw [hop] at ho hd
   obtain ⟨callee, args, ts⟩ := cl
   cases callee with
   | builtin b => cases b <;> first | (simp [detK, pureK] at hd; done) | (simp [aeff] at ho; done)
   | _ => simp [detK, pureK] at hd
  | _ => rw [hop] at ho hd; first | (simp [detK, pureK] at hd; done) | (simp [aeff] at ho; done)
def notRo : V -> Prop
 | .ro _ _ => False
 | _ => True
theorem frzs_none : ∀ (cs : List V) (st : List Ob), (∀ v, v ∈ (frzs cs st).1 -> notRo v) -> (frzs cs st).2 = st
 | [], _, _ => rfl
 | v :: cs, st, h => by
  have plain : ∀ w, frzs (v :: cs) st = (w :: (frzs cs st).1, (frzs cs st).2) -> (frzs (v :: cs) st).2 = st := by
   intro w e
   rw [e] at h ⊢
   exact frzs_none cs st fun x hx => h x (List.mem_cons_of_mem _ hx)
  cases v with
  | vec r =>
   cases hr : st[r]? with
   | none => exact plain .any (by simp only [frzs, hr])
   | some ob =>
    cases ob with
    | vec t f xs =>
     simp only [frzs, hr] at h
     exact (h (.ro t xs) (by simp)).elim
    | _ => exact plain .any (by simp only [frzs, hr])
  | vw r lo n =>
   cases hr : st[r]? with
   | none => exact plain .any (by simp only [frzs, hr])
   | some ob =>
    cases ob with
    | vec t f xs =>
     simp only [frzs, hr] at h
     exact (h (.ro t ((xs.drop lo).take n)) (by simp)).elim
    | _ => exact plain .any (by simp only [frzs, hr])
  | _ => exact plain _ rfl
theorem dec_flat : ∀ {t : Ty}, flatT t = true -> ∀ {l : List V} {y : t.den} {r : List V}, dec t l = some (y, r) -> ∃ l1, l = l1 ++ r /\ ∀ v, v ∈ l1 -> notRo v
 | .int k, _, l, y, r, h => by
  simp only [dec] at h
  split at h
  · split at h
    · cases h; exact ⟨[_], rfl, fun v hv => by rw [List.mem_singleton.1 hv]; trivial⟩
    · cases h
  · cases h
 | .bool, _, l, y, r, h => by
  simp only [dec] at h
  split at h
  · cases h; exact ⟨[_], rfl, fun v hv => by rw [List.mem_singleton.1 hv]; trivial⟩
  · cases h
 | .str, _, l, y, r, h => by
  simp only [dec] at h
  split at h
  · cases h; exact ⟨[_], rfl, fun v hv => by rw [List.mem_singleton.1 hv]; trivial⟩
  · cases h
 | .unit, _, l, y, r, h => by
  simp only [dec, Option.some.injEq, Prod.mk.injEq] at h
  obtain ⟨_, rfl⟩ := h
  exact ⟨[], rfl, fun v hv => by cases hv⟩
 | .pair a b, hf, l, y, r, h => by
  simp only [flatT, Bool.and_eq_true] at hf
  simp only [dec] at h
  split at h
  · next x r1 e1 =>
    split at h
    · next y2 r2 e2 =>
      simp only [Option.some.injEq, Prod.mk.injEq] at h
      obtain ⟨_, rfl⟩ := h
      obtain ⟨l1, rfl, h1⟩ := dec_flat hf.1 e1
      obtain ⟨l2, rfl, h2⟩ := dec_flat hf.2 e2
      refine ⟨l1 ++ l2, by simp, fun v hv => ?_⟩
      rcases List.mem_append.1 hv with hv | hv
      · exact h1 v hv
      · exact h2 v hv
    · cases h
  · cases h
 | .slice e, hf, _, _, _, _ => by simp [flatT] at hf
 | .hnd, _, l, y, r, h => by
  simp only [dec] at h
  split at h
  · cases h; exact ⟨[_], rfl, fun v hv => by rw [List.mem_singleton.1 hv]; trivial⟩
  · cases h; exact ⟨[_], rfl, fun v hv => by rw [List.mem_singleton.1 hv]; trivial⟩
  · cases h
theorem decRows_flat {t : Ty} (hf : flatT t = true) : ∀ {n : Nat} {l : List V} {ys : List t.den}, decRows t n l = some ys -> ∀ v, v ∈ l -> notRo v
 | 0, [], _, _, v, hv => by cases hv
 | 0, _ :: _, _, h, _, _ => by simp [decRows] at h
 | n + 1, l, ys, h, v, hv => by
  simp only [decRows] at h
  split at h
  · next y r e =>
    split at h
    · next ys' hys =>
      obtain ⟨l1, rfl, h1⟩ := dec_flat hf e
      rcases List.mem_append.1 hv with hv | hv
      · exact h1 v hv
      · exact decRows_flat hf hys v hv
    · cases h
  · cases h
theorem hndT_flat : ∀ {t : Ty}, flatT t = true -> hndT t = t
 | .int _, _ => rfl
 | .bool, _ => rfl
 | .str, _ => rfl
 | .unit, _ => rfl
 | .pair a b, h => by
  simp only [flatT, Bool.and_eq_true] at h
  simp only [hndT, hndT_flat h.1, hndT_flat h.2]
 | .slice e, h => by simp [flatT] at h
 | .hnd, _ => rfl
theorem abuild_grown {st : List Ob} {t : TypeId} {n : Nat} {parts : List (Nat × V)} {v : V} {st' : List Ob} (hf : flatB P t = true) (h : abuildSlice P st t n parts = some (v, st')) : Grown st st' := by
 unfold flatB at hf
 unfold abuildSlice at h
 cases hu : P.underlying t with
 | none => rw [hu] at hf; cases hf
 | some u =>
  rw [hu] at hf h
  cases u with
  | slice e =>
   simp only at hf h
   cases ht : tyOf P 20 e with
   | none => rw [ht] at hf; cases hf
   | some τ =>
    rw [ht] at hf
    simp only at hf
    have hty : tyP P st e = some τ := by
     unfold tyP
     rw [ht]
     cases poolAt 0 st with
     | none => rfl
     | some p => simp only [hndT_flat hf]
    rw [hty] at h
    cases hz : zeroV P e with
    | none => rw [hz] at h; simp only at h; cases h
    | some zs =>
     rw [hz] at h
     simp only at h
     split at h
     · split at h
       · split at h
         · next cs _ =>
           split at h
           · next ys hys =>
             have hfr := frzs_none cs st (decRows_flat hf hys)
             rw [hfr] at h
             cases h
             exact .inr ⟨_, rfl⟩
           · cases h
         · cases h
       · cases h
     · cases h
  | _ => simp at hf
theorem aop_grown {st : List Ob} {fs : Facts} {sl : List V} {o : Op} (hk : growP P o = true) {k : V -> List Ob -> Prop} (h : aop P (Cx P C Γ) st fs (rdv sl) o k) : aop P (Cx P C Γ) st fs (rdv sl) o fun v st' => Grown st st' /\ k v st' := by
 cases o with
 | alloc t =>
  simp only [aop, aval, aeff] at h ⊢
  split at h
  · exact ⟨.inr ⟨_, rfl⟩, h⟩
  · exact h.elim
 | box t x =>
  simp only [aop, aval, aeff] at h ⊢
  split at h
  · exact ⟨.inr ⟨_, rfl⟩, h⟩
  · exact h.elim
 | makeSlice t l c =>
  simp only [aop, aval, aeff] at h ⊢
  split at h
  · next p v st' e =>
    have hg : Grown st st' := by
     unfold amake at e
     split at e
     · split at e
       · split at e
         · split at e
           · cases e; exact .inr ⟨_, rfl⟩
           · cases e
         · cases e
       · cases e
     · cases e
    cases p with
    | none => exact ⟨hg, h⟩
    | some p => exact ⟨h.1, hg, h.2⟩
  · exact h.elim
 | buildSlice t n parts =>
  simp only [aop, aval, aeff] at h ⊢
  split at h
  · next v st' e => exact ⟨abuild_grown (by simpa [growP, growK] using hk) e, h⟩
  · exact h.elim
 | _ => simp [growP, growK] at hk
theorem R_grown {o : Oper} (hk : growP P o.op = true) {sl : List V} {st : List Ob} {kk : V -> List Ob -> Prop} (h : R P (Cx P C Γ) G ops o sl st kk) : R P (Cx P C Γ) G ops o sl st fun v st' => Grown st st' /\ kk v st' := by
 cases hg : o.guard with
 | none => simp only [R, hg] at *; exact aop_grown hk h
 | some jw =>
  obtain ⟨j, w⟩ := jw
  cases hgs : gslot ops j with
  | none => simp [R, hg, hgs] at h
  | some g =>
   cases hc : conds sl 8 g w with
   | none => simp [R, hg, hgs, hc] at h
   | some fb =>
    obtain ⟨fs, bs⟩ := fb
    by_cases hG : G.contains g = true
    · have alt : (bif okAll bs then aop P (Cx P C Γ) st fs (rdv sl) o.op (fun v st' => kk (nogd v) st') else kk (.x undef) st) ->
        (bif okAll bs then aop P (Cx P C Γ) st fs (rdv sl) o.op (fun v st' => Grown st st' /\ kk (nogd v) st') else Grown st st /\ kk (.x undef) st) := by
       cases okAll bs with
       | true => exact aop_grown hk
       | false => exact fun h => ⟨.inl rfl, h⟩
      have hv : aval P st fs (rdv sl) o.op = none := by
       cases ho : o.op with
       | alloc t => rfl
       | box t x => rfl
       | makeSlice t l c => rfl
       | buildSlice t n parts => rfl
       | _ => rw [ho] at hk; simp [growP, growK] at hk
      cases hd : o.dst with
      | none => simp only [R, hg, hgs, hc, hG, if_true, hd, hv] at *; exact alt h
      | some d => simp only [R, hg, hgs, hc, hG, if_true, hd, hv] at *; exact alt h
    · simp only [R, hg, hgs, hc, if_neg hG] at h
theorem swap {h i : Oper} (hm : h ∈ ops) (hp : PairOk P Γ ops h i) {rest : List Oper} {sl : List V} {st : List Ob} {K : St} (hs : GdS ops sl)
  (ho : detK i.op = true -> Owes P C Γ G ops i sl st) (hx : aops P (Cx P C Γ) G ops (h :: i :: rest) sl st K) : aops P (Cx P C Γ) G ops (i :: h :: rest) sl st K := by
 rw [aops_cons] at *
 have ha := hp.apart
 have hai : Apart ops i h := ⟨ha.h2, ha.h1, fun d e1 e2 => ha.h3 d e2 e1⟩
 have ci : ∀ v, okv ops h v -> ∀ st1 kk, R P (Cx P C Γ) G ops i (putS G h.dst v sl) st1 kk = R P (Cx P C Γ) G ops i sl st1 kk := fun v hv st1 kk => R_congr (alike_put ha hs v) (gds_put hm hs hv) kk
 by_cases hgr : detK h.op = true /\ growP P i.op = true /\ h.guard = none
 · obtain ⟨hd, hki, hgn⟩ := hgr
   obtain ⟨vh, hvh, hval⟩ := det_grown (h := h) hd hgn (R_owes hx)
   have h1 := (hval _ (.inl rfl) _).1 hx
   rw [aops_cons, ci vh hvh] at h1
   refine R_mono (fun vi st2 g => ?_) (R_grown hki (R_okv h1))
   obtain ⟨hgro, hvi, g⟩ := g
   rw [aops_cons]
   have ch : R P (Cx P C Γ) G ops h sl st2 (fun v st' => aops P (Cx P C Γ) G ops rest (putS G h.dst v (putS G i.dst vi sl)) st' K) = R P (Cx P C Γ) G ops h (putS G i.dst vi sl) st2 (fun v st' => aops P (Cx P C Γ) G ops rest (putS G h.dst v (putS G i.dst vi sl)) st' K) :=
    R_congr (fun t ht => (alike_put hai hs vi t ht).symm) hs _
   rw [<- ch, hval st2 hgro]
   rw [<- put_comm ha hvh hvi sl]
   exact g
 have hkind : kindOk P Γ h.op i.op = true := by
  have hk := hp.kind
  simp only [kindOk2, Bool.or_eq_true, Bool.and_eq_true, Option.isNone_iff_eq_none] at hk
  exact hk.resolve_right hgr
 by_cases hhd : detK h.op = true /\ (stillK P Γ i.op = true \/ pureK h.op = true)
 · obtain ⟨hd, hsi⟩ := hhd
   obtain ⟨vh, hvh, hval⟩ := det_val (i := h) hd (R_owes hx)
   have h1 := (hval _).1 hx
   rw [aops_cons, ci vh hvh] at h1
   have h2 : R P (Cx P C Γ) G ops i sl st fun vi st2 => okv ops i vi /\ (pureK h.op = true \/ st2 = st) /\ aops P (Cx P C Γ) G ops rest (putS G i.dst vi (putS G h.dst vh sl)) st2 K := by
    have h3 := R_okv h1
    rcases hsi with hst | hpu
    · exact R_mono (fun v st' g => ⟨g.2.1, .inr g.1, g.2.2⟩) (R_still hst h3)
    · exact R_mono (fun v st' g => ⟨g.1, .inl hpu, g.2⟩) h3
   refine R_mono (fun vi st2 g => ?_) h2
   obtain ⟨hvi, hst, g⟩ := g
   rw [aops_cons]
   have ch : R P (Cx P C Γ) G ops h sl st2 (fun v st' => aops P (Cx P C Γ) G ops rest (putS G h.dst v (putS G i.dst vi sl)) st' K) = R P (Cx P C Γ) G ops h (putS G i.dst vi sl) st2 (fun v st' => aops P (Cx P C Γ) G ops rest (putS G h.dst v (putS G i.dst vi sl)) st' K) :=
    R_congr (fun t ht => (alike_put hai hs vi t ht).symm) hs _
   rw [<- ch]
   have hb : R P (Cx P C Γ) G ops h sl st fun vh' _ => aops P (Cx P C Γ) G ops rest (putS G h.dst vh' (putS G i.dst vi sl)) st2 K := by
    rw [hval]
    rw [<- put_comm ha hvh hvi sl]
    exact g
   rcases hst with hpu | rfl
   · exact (R_pure hpu sl st st2 _).2 hb
   · rw [hval] at hb ⊢
     exact hb
 · have hki : detK i.op = true /\ (stillK P Γ h.op = true \/ pureK i.op = true) := by
    have hk := hkind
    have pd : ∀ o, pureK o = true -> detK o = true := fun o ho => by simp [detK, ho]
    have ds : ∀ o, detK o = true -> stillK P Γ o = true := fun o ho => by simp [stillK, ho]
    simp only [kindOk, Bool.or_eq_true, Bool.and_eq_true] at hk
    rcases hk with ((⟨a, b⟩ | ⟨a, b⟩) | a) | a
    · exact absurd ⟨a, .inl b⟩ hhd
    · exact ⟨b, .inl a⟩
    · exact absurd ⟨pd _ a, .inr a⟩ hhd
    · exact ⟨pd _ a, .inr a⟩
   obtain ⟨hdi, hsh⟩ := hki
   obtain ⟨vi, hvi, hval⟩ := det_val (i := i) hdi (ho hdi)
   rw [hval, aops_cons]
   have h1 : R P (Cx P C Γ) G ops h sl st fun vh st1 => okv ops h vh /\ (pureK i.op = true \/ st1 = st) /\ aops P (Cx P C Γ) G ops (i :: rest) (putS G h.dst vh sl) st1 K := by
    have h3 := R_okv hx
    rcases hsh with hst | hpu
    · exact R_mono (fun v st' g => ⟨g.2.1, .inr g.1, g.2.2⟩) (R_still hst h3)
    · exact R_mono (fun v st' g => ⟨g.1, .inl hpu, g.2⟩) h3
   have h2 : R P (Cx P C Γ) G ops h sl st fun vh st1 => aops P (Cx P C Γ) G ops rest (putS G h.dst vh (putS G i.dst vi sl)) st1 K := by
    refine R_mono (fun vh st1 g => ?_) h1
    obtain ⟨hvh, hst, g⟩ := g
    rw [aops_cons, ci vh hvh] at g
    rw [<- put_comm ha hvh hvi sl]
    rcases hst with hpu | rfl
    · exact (hval _).1 ((R_pure hpu sl st st1 _).1 g)
    · exact (hval _).1 g
   rw [<- R_congr (P := P) (G := G) (C := Cx P C Γ) (st := st) (fun t ht => (alike_put hai hs vi t ht).symm) hs]
   exact h2
theorem front {i : Oper} (him : i ∈ ops) : ∀ (l1 : List Oper) (l2 : List Oper) (sl : List V) (st : List Ob) (K : St), (∀ h, h ∈ l1 -> h ∈ ops /\ PairOk P Γ ops h i) -> GdS ops sl ->
  (detK i.op = true -> Owes P C Γ G ops i sl st) -> aops P (Cx P C Γ) G ops (l1 ++ i :: l2) sl st K -> aops P (Cx P C Γ) G ops (i :: (l1 ++ l2)) sl st K
 | [], l2, sl, st, K, _, _, _, h => h
 | h :: l1, l2, sl, st, K, hl, hs, ho, hx => by
  obtain ⟨hm, hp⟩ := hl h (by simp)
  refine swap hm hp hs ho ?_
  rw [List.cons_append, aops_cons] at hx
  rw [aops_cons]
  have h1 := R_okv hx
  by_cases hdi : detK i.op = true
  · have h2 : R P (Cx P C Γ) G ops h sl st fun v st' => (okv ops h v /\ aops P (Cx P C Γ) G ops (l1 ++ i :: l2) (putS G h.dst v sl) st' K) /\ (st' = st \/ pureK i.op = true) := by
     have hk := hp.kind
     simp only [kindOk2, kindOk, Bool.or_eq_true, Bool.and_eq_true] at hk
     have pd : ∀ o, pureK o = true -> detK o = true := fun o ho => by simp [detK, ho]
     have ds : ∀ o, detK o = true -> stillK P Γ o = true := fun o ho => by simp [stillK, ho]
     have : stillK P Γ h.op = true \/ pureK i.op = true := by
      rcases hk with (((⟨a, b⟩ | ⟨a, b⟩) | a) | a) | ⟨a, b⟩
      · exact .inl (ds _ a)
      · exact .inl a
      · exact .inl (ds _ (pd _ a))
      · exact .inr a
      · exact .inl (ds _ a)
     rcases this with hst | hpu
     · exact R_mono (fun v st' g => ⟨g.2, .inl g.1⟩) (R_still hst h1)
     · exact R_mono (fun v st' g => ⟨g, .inr hpu⟩) h1
    refine R_mono (fun v st' g => ?_) h2
    obtain ⟨⟨hv, g⟩, hst⟩ := g
    refine front him l1 l2 _ st' K (fun x hx => hl x (by simp [hx])) (gds_put hm hs hv) (fun _ => ?_) g
    unfold Owes
    rw [R_congr (alike_put hp.apart hs v) (gds_put hm hs hv)]
    rcases hst with rfl | hpu
    · exact ho hdi
    · exact (R_pure hpu sl st st' _).2 (ho hdi)
  · refine R_mono (fun v st' g => ?_) h1
    exact front him l1 l2 _ st' K (fun x hx => hl x (by simp [hx])) (gds_put hm hs g.1) (fun e => absurd e hdi) g.2
theorem owes_behind {i : Oper} (hdi : detK i.op = true) : ∀ (l1 : List Oper) (l2 : List Oper) (sl : List V) (st : List Ob) (K : St), (∀ h, h ∈ l1 -> h ∈ ops /\ PairOk P Γ ops h i) -> GdS ops sl ->
  aops P (Cx P C Γ) G ops (l1 ++ i :: l2) sl st K -> aops P (Cx P C Γ) G ops l1 sl st fun _ _ => Owes P C Γ G ops i sl st
 | [], l2, sl, st, K, _, _, h => by
  rw [List.nil_append, aops_cons] at h
  exact R_owes h
 | h :: l1, l2, sl, st, K, hl, hs, hx => by
  obtain ⟨hm, hp⟩ := hl h (by simp)
  rw [List.cons_append, aops_cons] at hx
  rw [aops_cons]
  have h1 := R_okv hx
  have hk := hp.kind
  simp only [kindOk2, kindOk, Bool.or_eq_true, Bool.and_eq_true] at hk
  have pd : ∀ o, pureK o = true -> detK o = true := fun o ho => by simp [detK, ho]
  have ds : ∀ o, detK o = true -> stillK P Γ o = true := fun o ho => by simp [stillK, ho]
  have hor : stillK P Γ h.op = true \/ pureK i.op = true := by
   rcases hk with (((⟨a, b⟩ | ⟨a, b⟩) | a) | a) | ⟨a, b⟩
   · exact .inl (ds _ a)
   · exact .inl a
   · exact .inl (ds _ (pd _ a))
   · exact .inr a
   · exact .inl (ds _ a)
  have h2 : R P (Cx P C Γ) G ops h sl st fun v st' => (okv ops h v /\ aops P (Cx P C Γ) G ops (l1 ++ i :: l2) (putS G h.dst v sl) st' K) /\ (st' = st \/ pureK i.op = true) := by
   rcases hor with hst | hpu
   · exact R_mono (fun v st' g => ⟨g.2, .inl g.1⟩) (R_still hst h1)
   · exact R_mono (fun v st' g => ⟨g, .inr hpu⟩) h1
  refine R_mono (fun v st' g => ?_) h2
  obtain ⟨⟨hv, g⟩, hst⟩ := g
  have := owes_behind hdi l1 l2 _ st' K (fun x hx => hl x (by simp [hx])) (gds_put hm hs hv) g
  refine aops_mono l1 _ _ _ _ (fun _ _ ho => ?_) this
  unfold Owes at *
  rw [R_congr (alike_put hp.apart hs v) (gds_put hm hs hv)] at ho
  rcases hst with rfl | hpu
  · exact ho
  · exact (R_pure hpu sl st st' _).1 ho
end
inductive Path (ops : List Oper) : Nat -> Nat -> Prop
 | step {o : Oper} {j : Nat} {e : Edge} (ho : ops[j]? = some o) (he : e ∈ o.after.toList) (hb : Region.binds .any e = true) : Path ops e.on j
 | more {o : Oper} {h j : Nat} {e : Edge} (ho : ops[j]? = some o) (he : e ∈ o.after.toList) (hb : Region.binds .any e = true) (hp : Path ops h e.on) : Path ops h j
def befF (acc : List Nat) (o : Oper) : Nat := o.after.toList.foldl (fun s e => if Region.binds .any e = true then (s ||| 2 ^ e.on) ||| acc.getD e.on 0 else s) 0
def befG : List Oper -> List Nat -> List Nat
 | [], acc => acc
 | o :: r, acc => befG r (acc ++ [befF acc o])
theorem befF_sound {acc : List Nat} {h : Nat} : ∀ (l : List Edge) (s : Nat), (l.foldl (fun s e => if Region.binds .any e = true then (s ||| 2 ^ e.on) ||| acc.getD e.on 0 else s) s).testBit h = true ->
  s.testBit h = true \/ ∃ e, e ∈ l /\ Region.binds .any e = true /\ (h = e.on \/ (acc.getD e.on 0).testBit h = true)
 | [], s, hb => .inl hb
 | e :: l, s, hb => by
  rw [List.foldl_cons] at hb
  rcases befF_sound l _ hb with h1 | ⟨e', h1, h2, h3⟩
  · split at h1
    · next hbe =>
      rw [Nat.testBit_or, Nat.testBit_or, Bool.or_eq_true, Bool.or_eq_true] at h1
      rcases h1 with (h1 | h1) | h1
      · exact .inl h1
      · rw [Nat.testBit_two_pow] at h1
        exact .inr ⟨e, by simp, hbe, .inl (by simpa using (of_decide_eq_true h1).symm)⟩
      · exact .inr ⟨e, by simp, hbe, .inr h1⟩
    · exact .inl h1
  · exact .inr ⟨e', by simp [h1], h2, h3⟩
theorem befG_sound {ops : List Oper} : ∀ (r : List Oper) (d : List Oper) (acc : List Nat), ops = d ++ r -> acc.length = d.length -> (∀ j h, (acc.getD j 0).testBit h = true -> Path ops h j) ->
  ∀ j h, ((befG r acc).getD j 0).testBit h = true -> Path ops h j
 | [], d, acc, _, _, hi => hi
 | o :: r, d, acc, he, hl, hi => by
  refine befG_sound r (d ++ [o]) (acc ++ [befF acc o]) (by simp [he]) (by simp [hl]) fun j h hb => ?_
  rcases Nat.lt_trichotomy j acc.length with g | g | g
  · rw [List.getD_eq_getElem?_getD, List.getElem?_append_left g, <- List.getD_eq_getElem?_getD] at hb
    exact hi j h hb
  · subst g
    rw [List.getD_eq_getElem?_getD, List.getElem?_append_right (Nat.le_refl _)] at hb
    simp only [Nat.sub_self, List.getElem?_cons_zero, Option.getD_some] at hb
    have ho : ops[acc.length]? = some o := by rw [he, hl, List.getElem?_append_right (Nat.le_refl _)]; simp
    rcases befF_sound _ _ hb with h1 | ⟨e, h1, h2, h3⟩
    · simp at h1
    · rcases h3 with rfl | h3
      · exact .step ho h1 h2
      · exact .more ho h1 h2 (hi _ _ h3)
  · rw [List.getD_eq_getElem?_getD, List.getElem?_eq_none (by simp; omega)] at hb
    simp at hb
def apartB (ops : List Oper) (o1 o2 : Oper) : Bool :=
 (match o1.dst with | some d => !(LK ops 9 o2).contains d | none => true) &&
 (match o2.dst with | some d => !(LK ops 9 o1).contains d | none => true) &&
 (match o1.dst, o2.dst with | some d, some d' => !(Nat.beq d d') | _, _ => true)
theorem apartB_sound {ops : List Oper} {o1 o2 : Oper} (h : apartB ops o1 o2 = true) : Apart ops o1 o2 := by
 simp only [apartB, Bool.and_eq_true] at h
 obtain ⟨⟨h1, h2⟩, h3⟩ := h
 refine ⟨fun d hd => ?_, fun d hd => ?_, fun d hd hd2 => ?_⟩
 · rw [hd] at h1; simpa using h1
 · rw [hd] at h2; simpa using h2
 · rw [hd, hd2] at h3
   simp at h3
def commB (P : Program) (Γ : Ctx) (ops : List Oper) (h i : Nat) : Bool := match ops[h]?, ops[i]? with
 | some o', some o => kindOk2 P Γ o' o && apartB ops o' o
 | _, _ => false
def confl0 (P : Program) (Γ : Ctx) (ops : List Oper) : List Nat :=
 (List.range ops.length).filter fun i => (List.range ops.length).any fun h =>
  !(Nat.beq h i) && !(bif Nat.blt h i then Nat.testBit ((befG ops []).getD i 0) h || commB P Γ ops h i else Nat.testBit ((befG ops []).getD h 0) i || commB P Γ ops i h)
def confl (P : Program) (Γ : Ctx) (ops : List Oper) : List Nat :=
 (List.range ops.length).filter fun i => (confl0 P Γ ops).contains i || ((match ops[i]? with
  | some o => growP P o.op
  | none => false) && (confl0 P Γ ops).any fun k => Nat.testBit ((befG ops []).getD k 0) i)
def elig (ops : List Oper) (K p : List Nat) : List Nat :=
 K.filter fun j => !(p.contains j) && K.all fun k => p.contains k || !(Nat.testBit ((befG ops []).getD j 0) k)
def ordOk (P : Program) (Γ : Ctx) (ops : List Oper) (K q : List Nat) : List Nat -> Bool
 | [] => true
 | h :: r => (r.all fun i => !(Nat.beq h i) && (Nat.testBit ((befG ops []).getD i 0) h || (commB P Γ ops h i || ((K.contains h && K.contains i) || K.any fun j => q.contains j && Nat.testBit ((befG ops []).getD j 0) h)))) && ordOk P Γ ops K q r
def eqL : List Nat -> List Nat -> Bool
 | [], [] => true
 | a :: r, b :: s => Nat.beq a b && eqL r s
 | _, _ => false
theorem eqL_eq : ∀ {a b : List Nat}, eqL a b = true -> a = b
 | [], [], _ => rfl
 | a :: r, b :: s, h => by
  simp only [eqL, Bool.and_eq_true] at h
  rw [Nat.eq_of_beq_eq_true h.1, eqL_eq h.2]
 | [], _ :: _, h | _ :: _, [], h => by simp [eqL] at h
def edgesOk (ops : List Oper) : Bool :=
 (List.range ops.length).all fun i => (match ops[i]? with
  | some o => o.after.toList.all (fun e => !Region.binds .any e || Nat.blt e.on i)
  | none => false)
theorem edgesOk_edge {ops : List Oper} (h : edgesOk ops = true) {i : Nat} {o : Oper} (ho : ops[i]? = some o) {e : Edge} (he : e ∈ o.after.toList) (hb : Region.binds .any e = true) : e.on < i := by
 have hi : i < ops.length := (List.getElem?_eq_some_iff.1 ho).1
 simp only [edgesOk, List.all_eq_true] at h
 have := h i (by simpa using hi)
 rw [ho] at this
 simp only [List.all_eq_true] at this
 have := this e he
 rw [hb] at this
 simp [Nat.blt] at this
 omega
theorem bef_path {ops : List Oper} {i h : Nat} (hb : Nat.testBit ((befG ops []).getD i 0) h = true) : Path ops h i :=
 befG_sound ops [] [] (by simp) rfl (fun j h hb => by simp at hb) i h hb
theorem commB_pair {P : Program} {Γ : Ctx} {ops : List Oper} {h i : Nat} {o' o : Oper} (ho' : ops[h]? = some o') (ho : ops[i]? = some o) (hc : commB P Γ ops h i = true) : PairOk P Γ ops o' o := by
 unfold commB at hc
 rw [ho', ho] at hc
 simp only [Bool.and_eq_true] at hc
 exact ⟨apartB_sound hc.2, hc.1⟩
theorem ordOk_pair {P : Program} {Γ : Ctx} {ops : List Oper} {K q : List Nat} : ∀ {l s t : List Nat} {i : Nat}, ordOk P Γ ops K q l = true -> l = s ++ i :: t -> ∀ h, h ∈ s -> h ≠ i /\ (Path ops h i \/ commB P Γ ops h i = true \/ (K.contains h = true /\ K.contains i = true) \/ ∃ j, j ∈ K /\ j ∈ q /\ Path ops h j)
 | _, [], t, i, _, _, h, hh => by simp at hh
 | _, x :: s, t, i, ho, e, h, hh => by
  subst e
  simp only [List.cons_append, ordOk, Bool.and_eq_true, List.all_eq_true] at ho
  rcases List.mem_cons.1 hh with rfl | hh
  · have := ho.1 i (by simp)
    simp only [Bool.or_eq_true, Bool.and_eq_true] at this
    refine ⟨fun e => by subst e; simp at this, ?_⟩
    rcases this.2 with h1 | h1 | h1 | h1
    · exact .inl (bef_path h1)
    · exact .inr (.inl h1)
    · exact .inr (.inr (.inl h1))
    · simp only [List.any_eq_true, Bool.and_eq_true] at h1
      obtain ⟨j, hj, hjq, hjb⟩ := h1
      exact .inr (.inr (.inr ⟨j, hj, by simpa using hjq, bef_path hjb⟩))
  · exact ordOk_pair (s := s) ho.2 rfl h hh
section
variable {P : Program} {C : Caller} {Γ : Ctx}
theorem go_mem {ops : Array Oper} : ∀ (fuel t : Nat) (listed : Array Bool) (acc : List Nat) (i : Nat), i ∈ Region.linearise.go .any ops fuel t listed acc -> i ∈ acc \/ i < ops.size := by
 intro fuel
 induction fuel with
 | zero => intro t listed acc i h; exact .inl (by simpa [Region.linearise.go] using h)
 | succ fuel ih =>
  intro t listed acc i h
  simp only [Region.linearise.go] at h
  split at h
  · next j hj =>
    rcases ih _ _ _ _ h with h | h
    · rcases List.mem_cons.1 h with rfl | h
      · right
        have h1 := List.mem_of_getElem? hj
        unfold Region.ready at h1
        rw [List.mem_filter] at h1
        simpa using h1.1
      · exact .inl h
    · exact .inr h
  · exact .inl (by simpa using h)
theorem linearise_mem {ops : Array Oper} {t i : Nat} (h : i ∈ Region.linearise .any ops t) : ∃ o, ops[i]? = some o := by
 unfold Region.linearise at h
 rcases go_mem _ _ _ _ _ h with h | h
 · simp at h
 · exact ⟨_, Array.getElem?_eq_getElem h⟩
def remain (ops : Array Oper) (listed : Array Bool) : List Nat := (List.range ops.size).filter fun i => !listed.getD i true
def DownC (ops : Array Oper) (listed : Array Bool) : Prop := ∀ j o, ops.toList[j]? = some o -> listed.getD j false = true -> ∀ e, e ∈ o.after.toList -> Region.binds .any e = true -> listed.getD e.on false = true
theorem path_listed {ops : Array Oper} {listed : Array Bool} (hd : DownC ops listed) {h j : Nat} (hp : Path ops.toList h j) : (∀ o, ops.toList[j]? = some o -> ∀ e, e ∈ o.after.toList -> Region.binds .any e = true -> listed.getD e.on false = true) -> listed.getD h false = true := by
 induction hp with
 | step ho he hb => intro hj; exact hj _ ho _ he hb
 | more ho he hb hp ih =>
  intro hj
  have := hj _ ho _ he hb
  exact ih fun o' ho' e' he' hb' => hd _ _ ho' this e' he' hb'
theorem aops_append {G : List Nat} {ops : List Oper} {C : Caller} : ∀ (l1 l2 : List Oper) (sl : List V) (st : List Ob) (K : St), aops P C G ops (l1 ++ l2) sl st K = aops P C G ops l1 sl st fun sl st => aops P C G ops l2 sl st K
 | [], l2, sl, st, K => rfl
 | o :: l1, l2, sl, st, K => by
  rw [List.cons_append, aops_cons, aops_cons]
  congr 1
  funext v st'
  exact aops_append l1 l2 _ _ _
theorem draw_step {w0 : Base} (hC : SoundC P (Cx P C Γ)) {opa : Array Oper} {G : List Nat} {Q : Exit -> Act -> World -> Prop} {Kt : St} {i : Nat} (hisz : i < opa.size) {a : Act} {c : Cfg} {sl : List V} {l1 l2 : List Oper} (hok : okOps P opa.toList = true)
  (hr : Rel w0 c) (hs : SlR c sl a.tmps) (hg : GdIn G sl) (hgs : GdS opa.toList sl) (hpairs : ∀ x, x ∈ l1 -> x ∈ opa.toList /\ PairOk P Γ opa.toList x opa[i])
  (h : aops P (Cx P C Γ) G opa.toList (l1 ++ opa[i] :: l2) sl c.st Kt) {next : Act -> World -> Prop}
  (hn : ∀ sl' c' a', Rel w0 c' -> Ext c c' -> SlR c' sl' a'.tmps -> GdIn G sl' -> a'.defers = a.defers -> GdS opa.toList sl' -> aops P (Cx P C Γ) G opa.toList (l1 ++ l2) sl' c'.st Kt -> next a' c'.w) :
  wpOpK P opa Q i next a c.w := by
 intro d0
 suffices step : ∀ c : Cfg, Rel w0 c -> SlR c sl a.tmps -> aops P (Cx P C Γ) G opa.toList (l1 ++ opa[i] :: l2) sl c.st Kt ->
   (∀ sl' c' a', Rel w0 c' -> Ext c c' -> SlR c' sl' a'.tmps -> GdIn G sl' -> a'.defers = a.defers -> GdS opa.toList sl' -> aops P (Cx P C Γ) G opa.toList (l1 ++ l2) sl' c'.st Kt -> next a' c'.w) ->
   (if Region.wanted opa[i] (yielded opa a.tmps) = true then opa[i].wpK P a c.w next Q \/ False else next (a.put opa[i].dst undef) c.w) by
  obtain ⟨hr1, hx1⟩ := at_rel hr d0
  have h1 := step (c.at d0) hr1 (SlR.ext hx1 hs) h fun sl' c' a' k1 k2 => hn sl' c' a' k1 (hx1.trans k2)
  rw [Array.getElem?_eq_getElem hisz]
  exact h1
 clear hr hs h hn
 intro c hr hs h hn
 have himem : opa[i] ∈ opa.toList := by simp
 have howes : detK opa[i].op = true -> Owes P C Γ G opa.toList opa[i] sl c.st := by
  intro hdi
  have hb := owes_behind hdi _ _ sl c.st Kt hpairs hgs h
  have hw := aops_sound (ops := opa) hC (Q := fun e _ _ => e = .normal /\ Owes P C Γ G opa.toList opa[i] sl c.st) l1 (okOps_sub (fun x hx => (hpairs x hx).1) hok) c sl a _ hr hs hg hb fun _ _ _ _ _ _ _ _ ho => ⟨rfl, ho⟩
  obtain ⟨e, a', w', hq⟩ := wpListK_exists _ _ _ hw
  exact hq.2
 have hfr := front himem _ _ sl c.st Kt hpairs hgs howes h
 rw [aops_cons] at hfr
 have hR : R P (Cx P C Γ) G opa.toList opa[i] sl c.st fun v st' => GdS opa.toList (putS G opa[i].dst v sl) /\ aops P (Cx P C Γ) G opa.toList (l1 ++ l2) (putS G opa[i].dst v sl) st' Kt :=
  R_mono (fun v st' g => ⟨gds_put himem hgs g.1, g.2⟩) (R_okv hfr)
 have hstep := astep_sound hC (Q := Q) (k := fun sl' st' => GdS opa.toList sl' /\ aops P (Cx P C Γ) G opa.toList (l1 ++ l2) sl' st' Kt) (next := next) (okOps_wl hok himem a) hr hs hg hR
  (fun sl' c' a' k1 k2 k3 k4 k5 k6 => hn sl' c' a' k1 k2 k3 k4 k5 k6.1 k6.2)
 split
 · next hw => rw [if_pos hw] at hstep; exact .inl hstep
 · next hw => rw [if_neg hw] at hstep; exact hstep
def blockOf (ops : List Oper) (K p : List Nat) : List Nat :=
 (List.range ops.length).filter fun i => !(K.contains i) && (K.all fun k => !(Nat.testBit ((befG ops []).getD i 0) k) || p.contains k) && (match p.getLast? with
  | some j => Nat.testBit ((befG ops []).getD i 0) j
  | none => true)
def nodeOk (P : Program) (Γ : Ctx) (ops : List Oper) (K p F : List Nat) : Bool :=
 ordOk P Γ ops K p F && (eqL (F.filter fun i => K.contains i) p && ((List.range ops.length).all fun i => K.contains i || (F.contains i || K.any fun k => Nat.testBit ((befG ops []).getD i 0) k && !(p.contains k))))
def tailX (P : Program) (C : Caller) (Γ : Ctx) (G : List Nat) (ops : List Oper) (K : List Nat) : Nat -> List Nat -> List Nat -> St -> St
 | 0, _, _, Kc, sl, st => Kc sl st
 | n + 1, p, F, Kc, sl, st => ∀ j, j ∈ elig ops K p -> nodeOk P Γ ops K (p ++ [j]) (F ++ j :: blockOf ops K (p ++ [j])) = true /\ ∃ o, ops[j]? = some o /\
   aops P C G ops (o :: (blockOf ops K (p ++ [j])).filterMap (ops[·]?)) sl st fun sl st => tailX P C Γ G ops K n (p ++ [j]) (F ++ j :: blockOf ops K (p ++ [j])) Kc sl st
def remL (l : List Nat) (listed : Array Bool) : List Nat := l.filter fun i => !listed.getD i true
theorem ordOk_nodup {ops : List Oper} {K q : List Nat} : ∀ {l : List Nat}, ordOk P Γ ops K q l = true -> l.Nodup
 | [], _ => List.nodup_nil
 | x :: l, h => by
  simp only [ordOk, Bool.and_eq_true, List.all_eq_true] at h
  refine List.nodup_cons.2 ⟨fun hx => ?_, ordOk_nodup h.2⟩
  have := (h.1 x hx).1
  simp at this
theorem getD_tf {listed : Array Bool} {i : Nat} (hi : i < listed.size) : listed.getD i true = listed.getD i false := by
 simp [Array.getD_eq_getD_getElem?, hi]
theorem getD_set' {listed : Array Bool} {i j : Nat} (d : Bool) : (listed.setIfInBounds i true).getD j d = if i = j /\ i < listed.size then true else listed.getD j d := by
 simp only [Array.getD_eq_getD_getElem?, Array.getElem?_setIfInBounds]
 by_cases hij : i = j
 · subst hij
   by_cases hl : i < listed.size
   · simp [hl]
   · simp [hl]
 · simp [hij]
theorem remL_set {l : List Nat} {listed : Array Bool} {i : Nat} (hi : i ∉ l) : remL l (listed.setIfInBounds i true) = remL l listed := by
 unfold remL
 apply List.filter_congr
 intro j hj
 rw [getD_set', if_neg (fun e => hi (by rw [e.1]; exact hj))]
theorem draw_tree {w0 : Base} (hC : SoundC P (Cx P C Γ)) {opa : Array Oper} {G K : List Nat} (hKn : K.Nodup) (hKs : ∀ k, k ∈ K -> k < opa.size) (hok : okOps P opa.toList = true) (hedge : edgesOk opa.toList = true) {Q : Exit -> Act -> World -> Prop} {Kc : St} :
  ∀ (fuel : Nat) (listed : Array Bool) (a : Act) (c : Cfg) (sl : List V) (p F : List Nat) (n : Nat), listed.size = opa.size -> DownC opa listed -> (remain opa listed).length <= fuel ->
  (∀ k, k ∈ K -> (k ∈ p ↔ listed.getD k false = true)) -> (K.filter fun k => !(p.contains k)).length = n -> nodeOk P Γ opa.toList K p F = true ->
  Rel w0 c -> SlR c sl a.tmps -> GdIn G sl -> GdS opa.toList sl -> aops P (Cx P C Γ) G opa.toList ((remL F listed).filterMap (opa.toList[·]?)) sl c.st (tailX P (Cx P C Γ) Γ G opa.toList K n p F Kc) ->
  (∀ sl' c' a', Rel w0 c' -> Ext c c' -> SlR c' sl' a'.tmps -> GdIn G sl' -> a'.defers = a.defers -> Kc sl' c'.st -> Q .normal a' c'.w) -> wpAnyK P .any opa Q fuel listed a c.w := by
 intro fuel
 have fin : ∀ (listed : Array Bool) (a : Act) (c : Cfg) (sl : List V) (p F : List Nat) (n : Nat), listed.size = opa.size -> remain opa listed = [] ->
   (∀ k, k ∈ K -> (k ∈ p ↔ listed.getD k false = true)) -> (K.filter fun k => !(p.contains k)).length = n -> Rel w0 c -> SlR c sl a.tmps -> GdIn G sl ->
   aops P (Cx P C Γ) G opa.toList ((remL F listed).filterMap (opa.toList[·]?)) sl c.st (tailX P (Cx P C Γ) Γ G opa.toList K n p F Kc) ->
   (∀ sl' c' a', Rel w0 c' -> Ext c c' -> SlR c' sl' a'.tmps -> GdIn G sl' -> a'.defers = a.defers -> Kc sl' c'.st -> Q .normal a' c'.w) -> Q .normal a c.w := by
  intro listed a c sl p F n hsz h0 hkp hn hr hs hg h hK
  have hall : ∀ i, i < opa.size -> listed.getD i false = true := by
   intro i hi
   cases hq : listed.getD i false with
   | true => rfl
   | false =>
    have : i ∈ remain opa listed := by
     unfold remain
     rw [List.mem_filter]
     exact ⟨by simpa using hi, by rw [getD_tf (by omega), hq]; rfl⟩
    rw [h0] at this; simp at this
  have hrl : remL F listed = [] := by
   unfold remL
   rw [List.filter_eq_nil_iff]
   intro i _
   rcases Nat.lt_or_ge i opa.size with g | g
   · rw [getD_tf (by omega), hall i g]; simp
   · simp [Array.getD_eq_getD_getElem?, show ¬ i < listed.size by omega]
  have hn0 : n = 0 := by
   rw [<- hn]
   apply List.length_eq_zero_iff.2
   rw [List.filter_eq_nil_iff]
   intro k hk
   have := (hkp k hk).2 (hall k (hKs k hk))
   simpa using this
  subst hn0
  rw [hrl] at h
  exact hK sl c a hr (Ext.refl c) hs hg rfl h
 induction fuel with
 | zero =>
  intro listed a c sl p F n hsz hd hlen hkp hn hnode hr hs hg hgs h hK
  have h0 : remain opa listed = [] := List.length_eq_zero_iff.1 (by omega)
  refine ⟨?_, fin listed a c sl p F n hsz h0 hkp hn hr hs hg h hK⟩
  rw [List.eq_nil_iff_forall_not_mem]
  intro i hi
  have : i ∈ remain opa listed := by
   unfold Region.ready at hi
   unfold remain
   rw [List.mem_filter] at hi ⊢
   simp only [Bool.and_eq_true] at hi
   exact ⟨hi.1, hi.2.1⟩
  rw [h0] at this
  simp at this
 | succ fuel ih =>
  intro listed a c sl p F n hsz hd hlen hkp hn hnode hr hs hg hgs h hK
  refine ⟨fun hready => ?_, fun i hi => ?_⟩
  ·
   have h0 : remain opa listed = [] := by
    rw [List.eq_nil_iff_forall_not_mem]
    intro i
    induction i using Nat.strongRecOn with
    | _ i ihi =>
     intro hi
     unfold remain at hi
     rw [List.mem_filter] at hi
     have hisz : i < opa.size := by simpa using hi.1
     have : i ∈ Region.ready .any opa listed := by
      unfold Region.ready
      rw [List.mem_filter]
      refine ⟨hi.1, ?_⟩
      simp only [Bool.and_eq_true]
      refine ⟨hi.2, ?_⟩
      rw [Array.getElem?_eq_getElem hisz]
      simp only [Option.map_some, Option.getD_some, Array.all_eq_true']
      intro e he
      rw [Bool.or_eq_true]
      by_cases hb : Region.binds .any e = true
      · right
        have ho : opa.toList[i]? = some opa[i] := by simp [hisz]
        have hlt := edgesOk_edge hedge ho (by simpa using he) hb
        have hn := ihi e.on hlt
        unfold remain at hn
        rw [List.mem_filter] at hn
        have hesz : e.on < listed.size := by omega
        have : listed.getD e.on true = true := by
         cases hq : listed.getD e.on true with
         | true => rfl
         | false => exact absurd ⟨by simp; omega, by rw [hq]; rfl⟩ hn
        simpa [Array.getD_eq_getD_getElem?, hesz] using this
      · left
        simpa using hb
     rw [hready] at this
     simp at this
   exact fin listed a c sl p F n hsz h0 hkp hn hr hs hg h hK
  · unfold Region.ready at hi
    rw [List.mem_filter] at hi
    simp only [Bool.and_eq_true] at hi
    obtain ⟨hir, hil, hia⟩ := hi
    have hisz : i < opa.size := by simpa using hir
    have hilf : listed.getD i false = false := by
     rw [<- getD_tf (by omega)]
     simpa using hil
    have ho : opa.toList[i]? = some opa[i] := by simp [hisz]
    have hai : ∀ e, e ∈ opa[i].after.toList -> Region.binds .any e = true -> listed.getD e.on false = true := by
     intro e he hb
     rw [Array.getElem?_eq_getElem hisz] at hia
     simp only [Option.map_some, Option.getD_some, Array.all_eq_true'] at hia
     have := hia e (by simpa using he)
     rw [hb] at this
     simpa using this
    have hpl : ∀ h, Path opa.toList h i -> listed.getD h false = true := fun h hp => path_listed hd hp fun o ho' e he hb => by
     rw [ho] at ho'; cases ho'
     exact hai e he hb
    have hm : i ∈ remain opa listed := by unfold remain; rw [List.mem_filter]; exact ⟨hir, hil⟩
    have hdown : DownC opa (listed.setIfInBounds i true) := by
     intro j o hoj hlj e he hb
     have hmono : ∀ x, listed.getD x false = true -> (listed.setIfInBounds i true).getD x false = true := by
      intro x hx
      rw [getD_set']
      split
      · rfl
      · exact hx
     by_cases hji : i = j
     · subst hji
       rw [ho] at hoj; cases hoj
       exact hmono _ (hai e he hb)
     · rw [getD_set', if_neg (fun e => hji e.1)] at hlj
       exact hmono _ (hd j o hoj hlj e he hb)
    have hrem : (remain opa (listed.setIfInBounds i true)).length <= fuel := by
     obtain ⟨s, t, hst⟩ := List.append_of_mem hm
     have hpw : (remain opa listed).Pairwise (· < ·) := List.Pairwise.filter _ List.pairwise_lt_range
     have hnd : (remain opa listed).Nodup := hpw.imp fun h => Nat.ne_of_lt h
     have h1 : remain opa (listed.setIfInBounds i true) = (remain opa listed).filter fun j => !(j == i) := by
      unfold remain
      rw [List.filter_filter]
      apply List.filter_congr
      intro j hj
      have hjsz : j < listed.size := by simp at hj; omega
      by_cases hji : j = i
      · subst hji
        simp [Array.getD_eq_getD_getElem?, hjsz]
      · have : ¬ i = j := fun e => hji e.symm
        simp [Array.getD_eq_getD_getElem?, Array.getElem?_setIfInBounds, this, hji]
     rw [h1]
     have h2 : ((remain opa listed).filter fun j => !(j == i)).length < (remain opa listed).length := by
      apply List.length_filter_lt_length_iff_exists.2
      exact ⟨i, hm, by simp⟩
     omega
    have hnode' := hnode
    simp only [nodeOk, Bool.and_eq_true, List.all_eq_true] at hnode'
    obtain ⟨hord, hKF, hcomp⟩ := hnode'
    have hKF := eqL_eq hKF
    have hFn := ordOk_nodup hord
    have unl : ∀ x, (!listed.getD x true) = true -> ¬ listed.getD x false = true := by
     intro x hx hx2
     rcases Nat.lt_or_ge x listed.size with g | g
     · rw [getD_tf g, hx2] at hx; cases hx
     · simp [Array.getD_eq_getD_getElem?, show ¬ x < listed.size by omega] at hx2
    have some_of : ∀ {x : Nat}, commB P Γ opa.toList x i = true -> ∃ o, opa.toList[x]? = some o := by
     intro x hx
     unfold commB at hx
     split at hx
     · next o' o h1 h2 => exact ⟨_, h1⟩
     · cases hx
    by_cases hiK : i ∈ K
    ·
     have hip : i ∉ p := fun hh => by rw [(hkp i hiK).1 hh] at hilf; cases hilf
     have hiF : i ∉ F := fun hh => hip (by rw [<- hKF]; exact List.mem_filter.2 ⟨hh, by simpa using hiK⟩)
     have hel : i ∈ elig opa.toList K p := by
      unfold elig
      rw [List.mem_filter]
      refine ⟨hiK, ?_⟩
      simp only [Bool.and_eq_true, List.all_eq_true, Bool.not_eq_true']
      refine ⟨by simpa using hip, fun k hk => ?_⟩
      rw [Bool.or_eq_true]
      cases hb : Nat.testBit ((befG opa.toList []).getD i 0) k with
      | false => exact .inr rfl
      | true =>
       left
       have := (hkp k hk).2 (hpl k (bef_path hb))
       simpa using this
     obtain ⟨m, rfl⟩ : ∃ m, n = m + 1 := by
      have : 0 < n := by
       rw [<- hn]
       exact List.length_pos_of_mem (List.mem_filter.2 ⟨hiK, by simpa using hip⟩)
      exact ⟨n - 1, by omega⟩
     have h1 : nodeOk P Γ opa.toList K (p ++ [i]) (F ++ i :: blockOf opa.toList K (p ++ [i])) = true /\ aops P (Cx P C Γ) G opa.toList ((remL F listed).filterMap (opa.toList[·]?) ++ opa[i] :: (blockOf opa.toList K (p ++ [i])).filterMap (opa.toList[·]?)) sl c.st
       (tailX P (Cx P C Γ) Γ G opa.toList K m (p ++ [i]) (F ++ i :: blockOf opa.toList K (p ++ [i])) Kc) := by
      have hw := aops_sound hC (Q := fun e _ _ => e = .normal /\ nodeOk P Γ opa.toList K (p ++ [i]) (F ++ i :: blockOf opa.toList K (p ++ [i])) = true) _ (okOps_sub (fun x hx => by obtain ⟨k, _, hkx⟩ := List.mem_filterMap.1 hx; exact List.mem_of_getElem? hkx) hok) c sl a _ hr hs hg h fun _ _ _ _ _ _ _ _ hk => ⟨rfl, (hk i hel).1⟩
      obtain ⟨e, a', w', hq⟩ := wpListK_exists _ _ _ hw
      refine ⟨hq.2, ?_⟩
      rw [aops_append]
      refine aops_mono _ _ _ _ _ (fun sl st hk => ?_) h
      obtain ⟨_, o, ho', hk⟩ := hk i hel
      rw [ho] at ho'; cases ho'
      exact hk
     obtain ⟨hnode2, h1⟩ := h1
     have hord2 : ordOk P Γ opa.toList K (p ++ [i]) (F ++ i :: blockOf opa.toList K (p ++ [i])) = true := by
      simp only [nodeOk, Bool.and_eq_true] at hnode2
      exact hnode2.1
     refine draw_step hC hisz hok hr hs hg hgs (fun x hx => ?_) h1 fun sl' c' a' k1 k2 k3 k4 k5 k6 k7 => ?_
     · obtain ⟨k, hk, hkx⟩ := List.mem_filterMap.1 hx
       unfold remL at hk
       rw [List.mem_filter] at hk
       refine ⟨List.mem_of_getElem? hkx, ?_⟩
       rcases ordOk_pair hord2 rfl k hk.1 with ⟨_, h2 | h2 | h2 | ⟨j, hj, hjq, h2⟩⟩
       rotate_left 3
       · rcases List.mem_append.1 hjq with hjq | hjq
         · have hlj := (hkp j hj).1 hjq
           exact absurd (path_listed hd h2 fun o ho' e he hb => hd j o ho' hlj e he hb) (unl k hk.2)
         · rw [List.mem_singleton.1 hjq] at h2
           exact absurd (hpl k h2) (unl k hk.2)
       · exact absurd (hpl k h2) (unl k hk.2)
       · exact commB_pair hkx ho h2
       · have hkK : k ∈ K := by simpa using h2.1
         have : k ∈ p := by rw [<- hKF]; exact List.mem_filter.2 ⟨hk.1, h2.1⟩
         exact absurd ((hkp k hkK).1 this) (unl k hk.2)
     · refine ih _ a' c' sl' (p ++ [i]) _ m (by simp [hsz]) hdown hrem ?_ ?_ hnode2 k1 k3 k4 k6 ?_ fun sl'' c'' a'' m1 m2 m3 m4 m5 m6 => hK sl'' c'' a'' m1 (k2.trans m2) m3 m4 (m5.trans k5) m6
       · intro k hk
         rw [getD_set', List.mem_append, List.mem_singleton]
         by_cases hik : i = k
         · rw [if_pos ⟨hik, by omega⟩]
           exact ⟨fun _ => rfl, fun _ => .inr hik.symm⟩
         · rw [if_neg (fun e => hik e.1), <- hkp k hk]
           exact ⟨fun e => e.elim id fun e => absurd e.symm hik, .inl⟩
       · have e1 : (K.filter fun k => !((p ++ [i]).contains k)) = (K.filter fun k => !(p.contains k)).filter fun k => !(k == i) := by
          rw [List.filter_filter]
          apply List.filter_congr
          intro k _
          simp only [List.contains_eq_mem, List.mem_append, List.mem_singleton]
          by_cases a1 : k ∈ p <;> by_cases a2 : k = i <;> simp [a1, a2]
         rw [e1]
         have hnd : (K.filter fun k => !(p.contains k)).Nodup := hKn.filter _
         have e2 : ((K.filter fun k => !(p.contains k)).filter fun k => !(k == i)) = (K.filter fun k => !(p.contains k)).erase i := by
          rw [List.Nodup.erase_eq_filter hnd]
          rfl
         rw [e2, List.length_erase_of_mem (List.mem_filter.2 ⟨hiK, by simpa using hip⟩)]
         omega
       · have e1 : remL (F ++ i :: blockOf opa.toList K (p ++ [i])) (listed.setIfInBounds i true) = remL F listed ++ blockOf opa.toList K (p ++ [i]) := by
          unfold remL
          rw [List.filter_append, List.filter_cons]
          have : (listed.setIfInBounds i true).getD i true = true := by rw [getD_set', if_pos ⟨rfl, by omega⟩]
          simp only [this, Bool.not_true, Bool.false_eq_true, if_false]
          congr 1
          · exact remL_set hiF
          · apply List.filter_eq_self.2
            intro b hb
            unfold blockOf at hb
            rw [List.mem_filter] at hb
            have hbs : b < opa.size := by simpa using hb.1
            have hb2 := hb.2
            simp only [List.getLast?_append, List.getLast?_singleton, Option.some_or, Bool.and_eq_true] at hb2
            have hbi : b ≠ i := fun e => by
             have := hb2.1.1
             rw [e] at this
             simp [hiK] at this
            rw [getD_set', if_neg (fun e => hbi e.1.symm)]
            cases hq : listed.getD b true with
            | false => rfl
            | true =>
             rw [getD_tf (by omega)] at hq
             have hpi := bef_path hb2.2
             have := path_listed hd hpi fun o ho' e he hbd => hd b o ho' hq e he hbd
             rw [hilf] at this
             cases this
         rw [e1, List.filterMap_append]
         exact k7
    ·
     have hiF : i ∈ F := by
      have := hcomp i (by simpa using hisz)
      simp only [Bool.or_eq_true, List.any_eq_true, Bool.and_eq_true] at this
      rcases this with h1 | h1 | ⟨k, hk, h1, h2⟩
      · exact absurd (by simpa using h1) hiK
      · simpa using h1
      · have := (hkp k hk).2 (hpl k (bef_path h1))
        simp [this] at h2
     obtain ⟨s, t, hst⟩ := List.append_of_mem hiF
     have hrl : remL F listed = remL s listed ++ i :: remL t listed := by
      rw [hst]
      unfold remL
      rw [List.filter_append, List.filter_cons, if_pos hil]
     rw [hrl, List.filterMap_append, List.filterMap_cons, ho] at h
     rw [hst] at hFn
     have hns : i ∉ s := fun hh => (List.nodup_append.1 hFn).2.2 i hh i (by simp) rfl
     have hnt : i ∉ t := (List.nodup_cons.1 (List.nodup_append.1 hFn).2.1).1
     refine draw_step hC hisz hok hr hs hg hgs (fun x hx => ?_) h fun sl' c' a' k1 k2 k3 k4 k5 k6 k7 => ?_
     · obtain ⟨k, hk, hkx⟩ := List.mem_filterMap.1 hx
       unfold remL at hk
       rw [List.mem_filter] at hk
       refine ⟨List.mem_of_getElem? hkx, ?_⟩
       rcases ordOk_pair hord hst k hk.1 with ⟨_, h2 | h2 | h2 | ⟨j, hj, hjq, h2⟩⟩
       · exact absurd (hpl k h2) (unl k hk.2)
       · exact commB_pair hkx ho h2
       · exact absurd (by simpa using h2.2) hiK
       · have hlj := (hkp j hj).1 hjq
         exact absurd (path_listed hd h2 fun o ho' e he hb => hd j o ho' hlj e he hb) (unl k hk.2)
     · refine ih _ a' c' sl' p F n (by simp [hsz]) hdown hrem ?_ hn hnode k1 k3 k4 k6 ?_ fun sl'' c'' a'' m1 m2 m3 m4 m5 m6 => hK sl'' c'' a'' m1 (k2.trans m2) m3 m4 (m5.trans k5) m6
       · intro k hk
         rw [getD_set', if_neg (fun e => hiK (by rw [e.1]; exact hk))]
         exact hkp k hk
       · have e1 : remL F (listed.setIfInBounds i true) = remL s listed ++ remL t listed := by
          rw [hst]
          have : remL (s ++ i :: t) (listed.setIfInBounds i true) = remL s (listed.setIfInBounds i true) ++ remL t (listed.setIfInBounds i true) := by
           unfold remL
           rw [List.filter_append, List.filter_cons]
           have : (listed.setIfInBounds i true).getD i true = true := by rw [getD_set', if_pos ⟨rfl, by omega⟩]
           simp only [this, Bool.not_true, Bool.false_eq_true, if_false]
          rw [this, remL_set hns, remL_set hnt]
         rw [e1, List.filterMap_append]
         exact k7
def C00 (P : Program) (Γ : Ctx) (Δ : CtxO) : Caller := mkC P Γ Δ (fun _ _ _ _ _ => False) (fun _ => .leaf) 0
theorem C00_ok {Γ : Ctx} (h : SoundG P Γ) {Δ : CtxO} (hΔ : SoundGO P Δ) : SoundC P (C00 P Γ Δ) :=
 mkC_sound h hΔ (fun _ _ _ _ _ _ _ _ _ _ _ _ _ _ _ hf _ => hf.elim) (fun _ _ _ _ _ _ _ => annOk_leaf _) 0
def allL (f : Nat -> Prop) : List Nat -> Prop
 | [] => True
 | [i] => f i
 | i :: r => f i /\ allL f r
theorem allL_out {f : Nat -> Prop} : ∀ {l : List Nat}, allL f l -> ∀ i, i ∈ l -> f i
 | [], _, i, hi => by simp at hi
 | [j], h, i, hi => by simp at hi; subst hi; exact h
 | j :: k :: r, h, i, hi => by
  rcases List.mem_cons.1 hi with rfl | hi
  · exact h.1
  · exact allL_out (l := k :: r) h.2 i hi
def tailD (P : Program) (C : Caller) (Γ : Ctx) (G : List Nat) (ops : List Oper) (K : List Nat) : Nat -> List Nat -> List Nat -> St -> Kd -> St
 | 0, _, _, Kc, _, sl, st => Kc sl st
 | n + 1, p, F, Kc, kn, sl, st => allL (fun j => bif nodeOk P Γ ops K (p ++ [j]) (F ++ j :: blockOf ops K (p ++ [j])) then (match ops[j]? with
   | some o => aopsD P C G ops (o :: (blockOf ops K (p ++ [j])).filterMap (ops[·]?)) kn sl st fun kn sl st => tailD P C Γ G ops K n (p ++ [j]) (F ++ j :: blockOf ops K (p ++ [j])) Kc kn sl st
   | none => False) else False) (elig ops K p)
theorem tailD_tailX {G : List Nat} {ops : List Oper} {K : List Nat} {Kc : St} : ∀ (n : Nat) (p F : List Nat) (kn : Kd) (sl : List V) (st : List Ob), GdIn G sl -> KdR kn sl -> tailD P (Cx0 P C Γ) Γ G ops K n p F Kc kn sl st -> tailX P (Cx P C Γ) Γ G ops K n p F (fun sl st => GdIn G sl /\ Kc sl st) sl st
 | 0, _, _, kn, sl, st, hg, hk, h => ⟨hg, h⟩
 | n + 1, p, F, kn, sl, st, hg, hk, h => by
  intro j hj
  have hj := allL_out h j hj
  cases hn : nodeOk P Γ ops K (p ++ [j]) (F ++ j :: blockOf ops K (p ++ [j])) with
  | false => rw [hn] at hj; exact hj.elim
  | true =>
   rw [hn] at hj
   simp only [cond_true] at hj
   split at hj
   · next o ho =>
     exact ⟨rfl, o, ho, aopsD_aops _ kn _ _ _ _ (fun kn sl st hg hk h => tailD_tailX n _ _ kn sl st hg hk h) hg hk hj⟩
   · exact hj.elim
def drawD (P : Program) (Γ : Ctx) (Δ : CtxO) (ops : List Oper) (sl : List V) (st : List Ob) (K : St) : Prop :=
 if ((P.follows .mixedOrders || !Region.departs ops.toArray) && (edgesOk ops && nodeOk P Γ ops (confl P Γ ops) [] (blockOf ops (confl P Γ ops) []))) = true then
  aopsD P (Cx0 P (C00 P Γ Δ) Γ) (guards ops ops) ops ((blockOf ops (confl P Γ ops) []).filterMap (ops[·]?)) [] sl st
   (tailD P (Cx0 P (C00 P Γ Δ) Γ) Γ (guards ops ops) ops (confl P Γ ops) (confl P Γ ops).length [] (blockOf ops (confl P Γ ops) []) fun sl' st' => K (clr (guards ops ops) sl') st')
 else False
theorem drawD_sound (hG : SoundG P Γ) {Δ : CtxO} (hΔ : SoundGO P Δ) : SoundD P (drawD P Γ Δ) := by
 intro w0 id ops c sl a K Q hB hok0 hr hs hg h hK
 unfold drawD at h
 split at h
 · next hok =>
   simp only [Bool.and_eq_true, Array.toArray_toList] at hok
   obtain ⟨hok1, hok2, hok3⟩ := hok
   have hsch : ∀ t, Region.schedule (P.follows .mixedOrders) ops t = Region.linearise .any ops t := by
    intro t
    unfold Region.schedule
    rw [if_pos hok1]
   refine wpK_region_draw hB (fun t i hi => linearise_mem (by rw [hsch] at hi; exact hi)) fun d t => ?_
   rw [hsch]
   obtain ⟨hr1, hx1⟩ := at_rel hr (d + 1)
   show wpOpsK P ops Q (Region.linearise .any ops t) a (c.at (d + 1)).w
   refine wpAnyK_sound ops.size t _ a _ ?_
   have hno : ∀ k d, (Array.replicate ops.size false).getD k d = true -> d = true /\ ops.size <= k := by
    intro k d hl
    rw [Array.getD_eq_getD_getElem?, Array.getElem?_replicate] at hl
    split at hl
    · simp at hl
    · simp at hl; exact ⟨hl, by omega⟩
   refine draw_tree (w0 := w0) (C := C00 P Γ Δ) (Γ := Γ) (K := confl P Γ ops.toList) (Cx_sound (C00_ok hG hΔ) hG) ?_ ?_ hok0 hok2 (G := guards ops.toList ops.toList)
    (Kc := fun sl st => GdIn (guards ops.toList ops.toList) sl /\ K (clr (guards ops.toList ops.toList) sl) st) ops.size _ a (c.at (d + 1)) sl [] (blockOf ops.toList (confl P Γ ops.toList) []) (confl P Γ ops.toList).length (by simp) ?_ ?_ ?_ ?_ hok3 hr1 (SlR.ext hx1 hs) hg.mono ?_ ?_ ?_
   · exact (List.pairwise_lt_range.imp fun h => Nat.ne_of_lt h).filter _
   · intro k hk
     unfold confl at hk
     rw [List.mem_filter] at hk
     simpa using hk.1
   · intro j o _ hl
     have := (hno j false hl).1
     cases this
   · exact Nat.le_trans (List.length_filter_le _ _) (by simp)
   · intro k _
     constructor
     · intro hh; simp at hh
     · intro hh
       have := (hno k false hh).1
       cases this
   · rw [List.filter_eq_self.2 fun k _ => by simp]
   · intro t' g w v e
     exact absurd (hg t' g w v e) (by simp)
   · have hall : remL (blockOf ops.toList (confl P Γ ops.toList) []) (Array.replicate ops.size false) = blockOf ops.toList (confl P Γ ops.toList) [] := by
      unfold remL
      apply List.filter_eq_self.2
      intro b hb
      unfold blockOf at hb
      rw [List.mem_filter] at hb
      have hbs : b < ops.size := by simpa using hb.1
      cases hq : (Array.replicate ops.size false).getD b true with
      | false => rfl
      | true => have := (hno b true hq).2; omega
     rw [hall]
     exact aopsD_aops _ [] _ _ _ _ (fun kn sl st hg hk h => tailD_tailX _ _ _ kn sl st hg hk h) hg.mono (fun p hp => by simp at hp) h
   · intro sl' c' a' h1 h2 h3 h4 h5 h6
     obtain ⟨g1, g2⟩ := clr_rel h3 h4
     exact hK _ c' a' h1 (hx1.trans h2) g1 g2 h5 h6.2
 · exact h.elim
end
def sub : List Bool -> Code -> Code
 | [], c => c
 | b :: p, .seq x y => sub p (bif b then y else x)
 | b :: p, .cond _ x y => sub p (bif b then y else x)
 | _ :: p, .block _ b => sub p b
 | _ :: p, .loop b => sub p b
 | _, c => c
def codeOf (fn : Func) : Code := match fn.body with
 | some c => c
 | none => .skip
theorem annOf {P : Program} {C : Caller} {D : List Oper -> List V -> List Ob -> St -> Prop} {fn : Func} {ann : Ann} {N : Nat} (h : AnnOk P C D N ann (codeOf fn)) : ∀ code, fn.body = some code -> AnnOk P C D N ann code := by
 intro code hc
 have : codeOf fn = code := by unfold codeOf; rw [hc]
 rw [<- this]
 exact h
def ctx0 : Ctx := fun _ => none
def ctxC (Γ : Ctx) (f : FuncId) (s : SemF) : Ctx := fun g => if g = f then some s else Γ g
theorem ctx0_ok {P : Program} : SoundG P ctx0 := fun _ _ h => by cases h
theorem ctxC_ok {P : Program} {Γ : Ctx} {f : FuncId} {s : SemF} (h : SoundG P Γ) (hs : SoundFn P f s) : SoundG P (ctxC Γ f s) := by
 intro g sem hg
 unfold ctxC at hg
 split at hg
 · next e => cases hg; rw [e]; exact hs
 · exact h g sem hg
def ctxO0 : CtxO := fun _ => none
theorem ctxO0_ok {P : Program} : SoundGO P ctxO0 := fun _ _ h => by cases h
def CC (P : Program) (Γ : Ctx) (Δ : CtxO) : Caller := mkC P Γ Δ (fun _ => drawD P Γ Δ) (fun _ => .leaf) 0
theorem CC_ok {P : Program} {Γ : Ctx} (h : SoundG P Γ) {Δ : CtxO} (hΔ : SoundGO P Δ) : SoundC P (CC P Γ Δ) := mkC_sound h hΔ (fun _ _ => drawD_sound h hΔ) (fun _ _ _ _ _ _ _ => annOk_leaf _) 0
def run (P : Program) (Γ : Ctx) (Δ : CtxO) (ann : Ann) (rs : Rs) (fn : Func) : SemF := runF P (CC P Γ Δ) (drawD P Γ Δ) ann rs fn
theorem run_ok {P : Program} {Γ : Ctx} (h : SoundG P Γ) {Δ : CtxO} (hΔ : SoundGO P Δ) {f : FuncId} {fn : Func} (hf : P.funcs[f]? = some fn) {ann : Ann} {rs : Rs} (hk : AnnOk P (CC P Γ Δ) (drawD P Γ Δ) 0 ann (codeOf fn)) : SoundFn P f (run P Γ Δ ann rs fn) :=
 runF_sound (CC_ok h hΔ) (drawD_sound h hΔ) hf ann rs (annOf hk)
def runH (P : Program) (Γ : Ctx) (Δ : CtxO) (ann : Ann) (rs : Rs) (flds : List (Nat × Nat × Rs)) (fn : Func) (pl : Bool) (k : Nat) : SemO := runO P (CC P Γ Δ) (drawD P Γ Δ) ann rs flds fn pl k
theorem runH_ok {P : Program} {Γ : Ctx} (h : SoundG P Γ) {Δ : CtxO} (hΔ : SoundGO P Δ) {f : FuncId} {fn : Func} (hf : P.funcs[f]? = some fn) {ann : Ann} {rs : Rs} {flds : List (Nat × Nat × Rs)} {pl : Bool} {k N : Nat} (hN : N = bif pl then k + 1 else k) (hk : AnnOk P (CC P Γ Δ) (drawD P Γ Δ) N ann (codeOf fn)) : SoundO P f (runH P Γ Δ ann rs flds fn pl k) :=
 runO_sound (CC_ok h hΔ) (drawD_sound h hΔ) hf ann rs flds pl k N hN (annOf hk)
abbrev i64 (n : Int) : Int := IntKind.i64.wrap n
inductive Sh where
 | any
 | int (k : IntKind)
 | bool
 | str
 | nil
 | ro (t : Ty)
 | rc (l : List Sh) (j : Nat)
 | cl (r i : Nat)
 | el (r j : Nat)
 | vec (r : Nat)
 | vw (r : Nat)
 | agg (l : List Sh)
 | tup (l : List Sh)
 | fn (f : Nat) (a b : List Sh)
 | hd
 | pt
def gI : V -> Int
 | .x (.int _ n) => n
 | _ => 0
def gB : V -> Bool
 | .x (.bool b) => b
 | _ => false
def gS : V -> ByteArray
 | .x (.string s) => s
 | _ => ByteArray.empty
def gR (t : Ty) : V -> List t.den
 | .ro τ xs => if h : Ty.eqb τ t = true then Ty.eqb_eq h ▸ xs else []
 | _ => []
def gE : V -> Nat
 | .el _ i _ => i
 | _ => 0
def gVl : V -> Nat
 | .vw _ l _ => l
 | _ => 0
def gVn : V -> Nat
 | .vw _ _ n => n
 | _ => 0
def gC : V -> List V
 | .agg cs => cs
 | .tup cs => cs
 | .rc cs _ => cs
 | _ => []
def gFa : V -> List V
 | .fn _ a _ => a
 | _ => []
def gFc : V -> List V
 | .fn _ _ b => b
 | _ => []
def gH : V -> Hd
 | .hd h => h
 | _ => Hd.nil
def gPa : V -> Option Addr
 | .pt a _ => a
 | _ => none
def gPi : V -> Nat
 | .pt _ i => i
 | _ => 0
def eqK (k k' : IntKind) : Bool := if k = k' then true else false
mutual
def fitV : Sh -> V -> Bool
 | .any, v => (match v with | .any => true | _ => false)
 | .int k, v => (match v with | .x (.int k' _) => eqK k' k | _ => false)
 | .bool, v => (match v with | .x (.bool _) => true | _ => false)
 | .str, v => (match v with | .x (.string _) => true | _ => false)
 | .nil, v => (match v with | .x (.slice none 0 0) => true | _ => false)
 | .ro t, v => (match v with | .ro τ _ => Ty.eqb τ t | _ => false)
 | .rc l j, v => (match v with | .rc cs j' => Nat.beq j' j && fitL l cs | _ => false)
 | .cl r i, v => (match v with | .cl r' i' => Nat.beq r' r && Nat.beq i' i | _ => false)
 | .el r j, v => (match v with | .el r' _ j' => Nat.beq r' r && Nat.beq j' j | _ => false)
 | .vec r, v => (match v with | .vec r' => Nat.beq r' r | _ => false)
 | .vw r, v => (match v with | .vw r' _ _ => Nat.beq r' r | _ => false)
 | .agg l, v => (match v with | .agg cs => fitL l cs | _ => false)
 | .tup l, v => (match v with | .tup cs => fitL l cs | _ => false)
 | .fn f a b, v => (match v with | .fn (.func f') x y => Nat.beq f' f && (fitL a x && fitL b y) | _ => false)
 | .hd, v => (match v with | .hd _ => true | _ => false)
 | .pt, v => (match v with | .pt _ _ => true | _ => false)
def fitL : List Sh -> List V -> Bool
 | [], l => (match l with | [] => true | _ => false)
 | s :: r, l => (match l with | v :: vs => fitV s v && fitL r vs | [] => false)
end
mutual
def mkV : Sh -> V -> V
 | .any, _ => .any
 | .int k, v => .x (.int k (gI v))
 | .bool, v => .x (.bool (gB v))
 | .str, v => .x (.string (gS v))
 | .nil, _ => .x (.slice none 0 0)
 | .ro t, v => .ro t (gR t v)
 | .rc l j, v => .rc (mkL l 0 (gC v)) j
 | .cl r i, _ => .cl r i
 | .el r j, v => .el r (gE v) j
 | .vec r, _ => .vec r
 | .vw r, v => .vw r (gVl v) (gVn v)
 | .agg l, v => .agg (mkL l 0 (gC v))
 | .tup l, v => .tup (mkL l 0 (gC v))
 | .fn f a b, v => .fn (.func f) (mkL a 0 (gFa v)) (mkL b 0 (gFc v))
 | .hd, v => .hd (gH v)
 | .pt, v => .pt (gPa v) (gPi v)
def mkL : List Sh -> Nat -> List V -> List V
 | [], _, _ => []
 | s :: r, i, l => mkV s (l.getD i .any) :: mkL r (i + 1) l
end
theorem mkL_cons : ∀ (ss : List Sh) (i : Nat) (v : V) (l : List V), mkL ss (i + 1) (v :: l) = mkL ss i l
 | [], _, _, _ => by simp only [mkL]
 | s :: r, i, v, l => by
  simp only [mkL, List.getD_cons_succ]
  rw [mkL_cons r (i + 1) v l]
mutual
theorem fitV_eq : ∀ (s : Sh) (v : V), fitV s v = true -> v = mkV s v
 | .any, v, h => by cases v <;> simp [fitV] at h; simp only [mkV]
 | .int k, v, h => by
  simp only [fitV] at h
  split at h
  · next k' n =>
    unfold eqK at h
    split at h
    · next e => subst e; simp only [mkV, gI]
    · cases h
  · cases h
 | .bool, v, h => by
  simp only [fitV] at h
  split at h
  · simp only [mkV, gB]
  · cases h
 | .str, v, h => by
  simp only [fitV] at h
  split at h
  · simp only [mkV, gS]
  · cases h
 | .nil, v, h => by
  simp only [fitV] at h
  split at h
  · simp only [mkV]
  · cases h
 | .ro t, v, h => by
  simp only [fitV] at h
  split at h
  · next τ xs =>
    have e := Ty.eqb_eq h
    subst e
    simp only [mkV, gR, h, dif_pos]
  · cases h
 | .rc l j, v, h => by
  simp only [fitV] at h
  split at h
  · next cs j' =>
    simp only [Bool.and_eq_true, Nat.beq_eq] at h
    simp only [mkV, gC]
    rw [<- fitL_eq l cs h.2, h.1]
  · cases h
 | .cl r i, v, h => by
  simp only [fitV] at h
  split at h
  · simp only [Bool.and_eq_true, Nat.beq_eq] at h
    simp only [mkV, h.1, h.2]
  · cases h
 | .el r j, v, h => by
  simp only [fitV] at h
  split at h
  · simp only [Bool.and_eq_true, Nat.beq_eq] at h
    simp only [mkV, gE, h.1, h.2]
  · cases h
 | .vec r, v, h => by
  simp only [fitV] at h
  split at h
  · simp only [Nat.beq_eq] at h
    simp only [mkV, h]
  · cases h
 | .vw r, v, h => by
  simp only [fitV] at h
  split at h
  · simp only [Nat.beq_eq] at h
    simp only [mkV, gVl, gVn, h]
  · cases h
 | .agg l, v, h => by
  simp only [fitV] at h
  split at h
  · next cs => simp only [mkV, gC]; rw [<- fitL_eq l cs h]
  · cases h
 | .tup l, v, h => by
  simp only [fitV] at h
  split at h
  · next cs => simp only [mkV, gC]; rw [<- fitL_eq l cs h]
  · cases h
 | .fn f a b, v, h => by
  simp only [fitV] at h
  split at h
  · next f' x y =>
    simp only [Bool.and_eq_true, Nat.beq_eq] at h
    simp only [mkV, gFa, gFc]
    rw [<- fitL_eq a x h.2.1, <- fitL_eq b y h.2.2, h.1]
  · cases h
 | .hd, v, h => by
  simp only [fitV] at h
  split at h
  · simp only [mkV, gH]
  · cases h
 | .pt, v, h => by
  simp only [fitV] at h
  split at h
  · simp only [mkV, gPa, gPi]
  · cases h
theorem fitL_eq : ∀ (ss : List Sh) (l : List V), fitL ss l = true -> l = mkL ss 0 l
 | [], l, h => by
  simp only [fitL] at h
  split at h
  · simp only [mkL]
  · cases h
 | s :: r, l, h => by
  simp only [fitL] at h
  split at h
  · next v vs =>
    simp only [Bool.and_eq_true] at h
    simp only [mkL, List.getD_cons_zero]
    rw [mkL_cons r 0 v vs, <- fitV_eq s v h.1, <- fitL_eq r vs h.2]
  · cases h
end
inductive OSh where
 | dead
 | cells (l : List Sh)
 | vec (t : Ty) (z : Bool)
 | pool
def oC : Ob -> List V
 | .cells cs => cs
 | _ => []
def cI (st : List Ob) (i j : Nat) : Int := gI ((oC (st.getD i .dead)).getD j .any)
abbrev V.xi (n : Int) : V := .x (.int .i64 n)
def oF : Ob -> Nat
 | .vec _ f _ => f
 | _ => 0
def oX (t : Ty) : Ob -> List t.den
 | .vec τ _ xs => if h : Ty.eqb τ t = true then Ty.eqb_eq h ▸ xs else []
 | _ => []
def oM : Ob -> Pool
 | .pool m => m
 | _ => []
def fitO : OSh -> Ob -> Bool
 | .dead, o => (match o with | .dead => true | _ => false)
 | .cells l, o => (match o with | .cells cs => fitL l cs | _ => false)
 | .vec t z, o => (match o with | .vec τ f _ => Ty.eqb τ t && (!z || Nat.beq f 0) | _ => false)
 | .pool, o => (match o with | .pool _ => true | _ => false)
def fitOs : List OSh -> List Ob -> Bool
 | [], l => (match l with | [] => true | _ => false)
 | s :: r, l => (match l with | v :: vs => fitO s v && fitOs r vs | [] => false)
def mkO : OSh -> Ob -> Ob
 | .dead, _ => .dead
 | .cells l, o => .cells (mkL l 0 (oC o))
 | .vec t z, o => .vec t (bif z then 0 else oF o) (oX t o)
 | .pool, o => .pool (oM o)
def mkOs : List OSh -> Nat -> List Ob -> List Ob
 | [], _, _ => []
 | s :: r, i, l => mkO s (l.getD i .dead) :: mkOs r (i + 1) l
theorem mkOs_cons : ∀ (ss : List OSh) (i : Nat) (v : Ob) (l : List Ob), mkOs ss (i + 1) (v :: l) = mkOs ss i l
 | [], _, _, _ => by simp only [mkOs]
 | s :: r, i, v, l => by
  simp only [mkOs, List.getD_cons_succ]
  rw [mkOs_cons r (i + 1) v l]
theorem fitO_eq (s : OSh) (o : Ob) (h : fitO s o = true) : o = mkO s o := by
 cases s with
 | dead => cases o <;> simp [fitO] at h; simp only [mkO]
 | cells l =>
  simp only [fitO] at h
  split at h
  · next cs => simp only [mkO, oC]; rw [<- fitL_eq l cs h]
  · cases h
 | vec t z =>
  simp only [fitO] at h
  split at h
  · next τ f xs =>
    simp only [Bool.and_eq_true] at h
    have e := Ty.eqb_eq h.1
    subst e
    simp only [mkO, oX, h.1, dif_pos]
    cases z with
    | false => rfl
    | true =>
     have hf : f = 0 := by simpa using h.2
     subst hf
     rfl
  · cases h
 | pool =>
  simp only [fitO] at h
  split at h
  · simp only [mkO, oM]
  · cases h
theorem fitOs_eq : ∀ (ss : List OSh) (l : List Ob), fitOs ss l = true -> l = mkOs ss 0 l
 | [], l, h => by
  simp only [fitOs] at h
  split at h
  · simp only [mkOs]
  · cases h
 | s :: r, l, h => by
  simp only [fitOs] at h
  split at h
  · next v vs =>
    simp only [Bool.and_eq_true] at h
    simp only [mkOs, List.getD_cons_zero]
    rw [mkOs_cons r 0 v vs, <- fitO_eq s v h.1, <- fitOs_eq r vs h.2]
  · cases h
def fitF (ss : List Sh) (os : List OSh) (vs : List V) (st : List Ob) (p : Prop) : Prop := bif fitL ss vs && fitOs os st then p else False
theorem fitF_out {ss : List Sh} {os : List OSh} {vs : List V} {st : List Ob} {p : Prop} (h : fitF ss os vs st p) : vs = mkL ss 0 vs /\ st = mkOs os 0 st /\ p := by
 unfold fitF at h
 cases h1 : fitL ss vs <;> cases h2 : fitOs os st <;> rw [h1, h2] at h <;> first | exact h.elim | skip
 exact ⟨fitL_eq _ _ h1, fitOs_eq _ _ h2, h⟩
theorem exMap {p q : Nat -> Prop} (f : ∀ n, p n -> q n) (h : ∃ n, p n) : ∃ n, q n := h.elim fun n hn => ⟨n, f n hn⟩
structure Imp (p q : Prop) : Prop where
 h : p -> q
theorem Imp.of {p q b : Prop} (e : q = b) (h : p -> b) : Imp p q := ⟨fun x => e ▸ h x⟩
theorem lift_ok {P : Program} {C : Caller} {D : List Oper -> List V -> List Ob -> St -> Prop} {d : LoopD} {len : Nat} {b : Code} {an : Ann} {ss : List Sh} {os : List OSh} {G : List V -> List Ob -> (Ex -> St) -> Prop} (hr : rising 0 d.keep = true) {N : Nat} (hrb : N <= d.rbase) (hk : AnnOk P C D N an b)
  (h : ∀ vs st K, G vs st K -> ∃ n, iterL (stepL (exec P C D an b) d.base d K) n (bld d.keep (mkL ss 0 vs) 0 len) (mkOs os 0 st)) :
  AnnOk P C D N (.lift d len fun vs st K => fitF ss os vs st (G vs st K)) (.loop b) := by
 refine ⟨hrb, hr, an, hk, fun vs st K hf => ?_⟩
 obtain ⟨e1, e2, hn⟩ := fitF_out hf
 rw [e1, e2]
 exact h vs st K hn
theorem cut_ok {P : Program} {C : Caller} {D : List Oper -> List V -> List Ob -> St -> Prop} {d : CutD} {len : Nat} {x y : Code} {ax ay : Ann} {ss : List Sh} {os : List OSh} {G : List V -> List Ob -> (Ex -> St) -> Prop} (hr : rising 0 d.keep = true) {N : Nat} (hx : AnnOk P C D N ax x) (hb : N <= d.base) (hrb : N <= d.rbase) (hy : AnnOk P C D N ay y)
  (h : ∀ vs st K, Imp (G vs st K) (exec P C D ay y (bld d.keep (mkL ss 0 vs) 0 len) (mkOs os 0 st) (cutK d K))) :
  AnnOk P C D N (.cut ax d len fun vs st K => fitF ss os vs st (G vs st K)) (.seq x y) := by
 refine ⟨hx, hb, hrb, hr, ay, hy, fun vs st K hf => ?_⟩
 obtain ⟨e1, e2, hn⟩ := fitF_out hf
 rw [e1, e2]
 exact (h vs st K).h hn
mutual
def nzV : Sh -> V -> V
 | .ro t, v => (match v with | .x (.slice none 0 0) => .ro t [] | _ => v)
 | .agg l, v => (match v with | .agg cs => .agg (nzL l cs) | _ => v)
 | .rc l _, v => (match v with | .rc cs j => .rc (nzL l cs) j | _ => v)
 | _, v => v
def nzL : List Sh -> List V -> List V
 | [], l => l
 | s :: r, l => (match l with | v :: vs => nzV s v :: nzL r vs | [] => [])
end
mutual
theorem nzV_rel {c : Cfg} : ∀ (s : Sh) (v : V) (u : Value), RelV c v u -> RelV c (nzV s v) u
 | .ro t, v, u, h => by
  simp only [nzV]
  split
  · simp only [RelV] at h ⊢
    subst h
    simp only [RoV]
    exact .inl ⟨rfl, rfl⟩
  · exact h
 | .agg l, v, u, h => by
  simp only [nzV]
  split
  · next cs =>
    simp only [RelV] at h ⊢
    obtain ⟨us, e, h1⟩ := h
    exact ⟨us, e, nzL_rel l cs _ h1⟩
  · exact h
 | .rc l j, v, u, h => by
  simp only [nzV]
  split
  · next cs j' =>
    simp only [RelV] at h ⊢
    obtain ⟨b, o, e, h1⟩ := h
    obtain ⟨us, g1, g2⟩ := RelC.list h1
    exact ⟨b, o, e, RelC.mk (nzL_rel l cs us g1) g2⟩
  · exact h
 | .any, v, u, h | .int _, v, u, h | .bool, v, u, h | .str, v, u, h | .nil, v, u, h | .cl _ _, v, u, h | .el _ _, v, u, h | .vec _, v, u, h | .vw _, v, u, h | .tup _, v, u, h | .fn _ _ _, v, u, h | .hd, v, u, h | .pt, v, u, h => by simpa only [nzV] using h
theorem nzL_rel {c : Cfg} : ∀ (ss : List Sh) (l : List V) (us : List Value), RelVs c l us -> RelVs c (nzL ss l) us
 | [], l, us, h => by simpa only [nzL] using h
 | s :: r, l, us, h => by
  simp only [nzL]
  split
  · next v vs =>
    simp only [RelVs] at h ⊢
    obtain ⟨u, us', e, h1, h2⟩ := h
    exact ⟨u, us', e, nzV_rel s v u h1, nzL_rel r vs us' h2⟩
  · exact h
end
def argF (ss : List Sh) (args : List V) (k : List V -> Prop) : Prop := bif fitL ss (nzL ss args) then k (nzL ss args) else False
theorem fn_ok {P : Program} {f : FuncId} {sem : SemF} {ss : List Sh} {G : List V -> (V -> List Ob -> Prop) -> Prop} (h : SoundFn P f sem) (he : ∀ args K, Imp (G args K) (sem (mkL ss 0 args) K)) : SoundFn P f (fun args K => argF ss args fun a => G a K) := by
 intro w A args us K hA ha hs
 unfold argF at hs
 cases h1 : fitL ss (nzL ss args) with
 | false => rw [h1] at hs; exact hs.elim
 | true =>
  rw [h1] at hs
  have e := fitL_eq _ _ h1
  have hr := nzL_rel ss args _ ha
  rw [e] at hr
  exact h w A _ us K hA hr ((he _ K).h hs)
theorem fn_none {P : Program} {f : FuncId} {ss : List Sh} {G : List V -> (V -> List Ob -> Prop) -> Prop} (h : ∀ vs K, ¬ G vs K) : SoundFn P f (fun args K => argF ss args fun a => G a K) := by
 intro w A args us K hA ha hs
 unfold argF at hs
 cases h1 : fitL ss (nzL ss args) with
 | false => rw [h1] at hs; exact hs.elim
 | true => rw [h1] at hs; exact (h _ _ hs).elim
theorem fn_ex {P : Program} {f : FuncId} {ss : List Sh} {GR : Nat -> List V -> (V -> List Ob -> Prop) -> Prop} {G : List V -> (V -> List Ob -> Prop) -> Prop} (h : ∀ fu, SoundFn P f (fun args K => argF ss args fun a => GR fu a K)) (he : ∀ vs K, G vs K -> ∃ fu, GR fu vs K) :
  SoundFn P f (fun args K => argF ss args fun a => G a K) := by
 intro w A args us K hA ha hs
 unfold argF at hs
 cases h1 : fitL ss (nzL ss args) with
 | false => rw [h1] at hs; exact hs.elim
 | true =>
  rw [h1] at hs
  obtain ⟨fu, hg⟩ := he _ _ hs
  exact h fu w A args us K hA ha (by show argF ss args _; unfold argF; rw [h1]; exact hg)
def ctxA (Γ : Ctx) (f : FuncId) (ss : List Sh) (G : List V -> (V -> List Ob -> Prop) -> Prop) : Ctx := fun g => if g = f then some fun args K => bif fitL ss (nzL ss args) then G (nzL ss args) K else (match Γ f with | some o => o args K | none => False) else Γ g
theorem ctxA_ok {P : Program} {Γ : Ctx} {f : FuncId} {ss : List Sh} {G : List V -> (V -> List Ob -> Prop) -> Prop} (h : SoundG P Γ) (hs : SoundFn P f (fun args K => argF ss args fun a => G a K)) : SoundG P (ctxA Γ f ss G) := by
 intro g sem hg
 unfold ctxA at hg
 split at hg
 · next e =>
   cases hg
   subst e
   intro w A args us K hA ha hk
   cases h1 : fitL ss (nzL ss args) with
   | true =>
    rw [h1] at hk
    exact hs w A args us K hA ha (by show argF ss args (fun a => G a K); unfold argF; rw [h1]; exact hk)
   | false =>
    rw [h1] at hk
    cases h2 : Γ g with
    | none => rw [h2] at hk; exact hk.elim
    | some o =>
     rw [h2] at hk
     exact h g o h2 w A args us K hA ha hk
 · exact h g sem hg
def argO (ss : List Sh) (os : List OSh) (args : List V) (st : List Ob) (k : List V -> List Ob -> Prop) : Prop := bif fitL ss args && fitOs os st then k args st else False
theorem fnO_ok {P : Program} {f : FuncId} {sem : SemO} {ss : List Sh} {os : List OSh} {G : List V -> List Ob -> (V -> List Ob -> Prop) -> Prop} (h : SoundO P f sem) (he : ∀ args st K, Imp (G args st K) (sem (mkL ss 0 args) (mkOs os 0 st) K)) : SoundO P f (fun args st K => argO ss os args st fun a s => G a s K) := by
 intro w0 c args us K hr ha hs
 unfold argO at hs
 cases h1 : fitL ss args && fitOs os c.st with
 | false => rw [h1] at hs; exact hs.elim
 | true =>
  rw [h1] at hs
  simp only [Bool.and_eq_true] at h1
  have e1 := fitL_eq _ _ h1.1
  have e2 := fitOs_eq _ _ h1.2
  have := (he _ _ K).h hs
  rw [<- e1, <- e2] at this
  exact h w0 c args us K hr ha this
theorem fnO_none {P : Program} {f : FuncId} {ss : List Sh} {os : List OSh} {G : List V -> List Ob -> (V -> List Ob -> Prop) -> Prop} (h : ∀ vs st K, ¬ G vs st K) : SoundO P f (fun args st K => argO ss os args st fun a s => G a s K) := by
 intro w0 c args us K hr ha hs
 unfold argO at hs
 cases h1 : fitL ss args && fitOs os c.st with
 | false => rw [h1] at hs; exact hs.elim
 | true => rw [h1] at hs; exact (h _ _ _ hs).elim
theorem fnO_ex {P : Program} {f : FuncId} {ss : List Sh} {os : List OSh} {GR : Nat -> List V -> List Ob -> (V -> List Ob -> Prop) -> Prop} {G : List V -> List Ob -> (V -> List Ob -> Prop) -> Prop} (h : ∀ fu, SoundO P f (fun args st K => argO ss os args st fun a s => GR fu a s K)) (he : ∀ vs st K, G vs st K -> ∃ fu, GR fu vs st K) :
  SoundO P f (fun args st K => argO ss os args st fun a s => G a s K) := by
 intro w0 c args us K hr ha hs
 unfold argO at hs
 cases h1 : fitL ss args && fitOs os c.st with
 | false => rw [h1] at hs; exact hs.elim
 | true =>
  rw [h1] at hs
  obtain ⟨fu, hg⟩ := he _ _ _ hs
  exact h fu w0 c args us K hr ha (by show argO ss os args c.st _; unfold argO; rw [h1]; exact hg)
def ctxE (Δ : CtxO) (f : FuncId) (rs : List Rs) (ss : List Sh) (os : List OSh) (G : List V -> List Ob -> (V -> List Ob -> Prop) -> Prop) : CtxO := fun g => if g = f then some (rs, fun args st K => bif fitL ss args && fitOs os st then G args st K else (match Δ f with | some o => o.2 args st K | none => False)) else Δ g
theorem ctxE_ok {P : Program} {Δ : CtxO} {f : FuncId} {rs : List Rs} {ss : List Sh} {os : List OSh} {G : List V -> List Ob -> (V -> List Ob -> Prop) -> Prop} (h : SoundGO P Δ) (hs : SoundO P f (fun args st K => argO ss os args st fun a s => G a s K)) : SoundGO P (ctxE Δ f rs ss os G) := by
 intro g x hg
 unfold ctxE at hg
 split at hg
 · next e =>
   cases hg
   subst e
   intro w0 c args us K hr ha hk
   simp only at hk
   cases h1 : fitL ss args && fitOs os c.st with
   | true =>
    rw [h1] at hk
    exact hs w0 c args us K hr ha (by show argO ss os args c.st (fun a s => G a s K); unfold argO; rw [h1]; exact hk)
   | false =>
    rw [h1] at hk
    cases h2 : Δ g with
    | none => rw [h2] at hk; exact hk.elim
    | some o =>
     rw [h2] at hk
     exact h g o h2 w0 c args us K hr ha hk
 · exact h g x hg
open Go.RowKit Go.ChangeShapes Go.WideShapes
def chkFs (P : Program) (rec : TypeId -> Ty -> Bool) : List Field -> Nat -> Ty -> Bool
 | [], _, .unit => true
 | [f], off, τ => Nat.beq f.offset off && rec f.type τ && Nat.beq (P.cellsOf f.type) τ.size
 | f :: g :: fs, off, .pair a b => Nat.beq f.offset off && rec f.type a && Nat.beq (P.cellsOf f.type) a.size && chkFs P rec (g :: fs) (off + a.size) b
 | _, _, _ => false
def chk (P : Program) : Nat -> TypeId -> Ty -> Bool
 | 0, _, _ => false
 | n + 1, t, τ => match P.underlying t with
  | some (.int k) => Ty.eqb τ (.int k)
  | some .bool => Ty.eqb τ .bool
  | some .string => Ty.eqb τ .str
  | some (.slice e) => match τ with
   | .slice τe => chk P n e τe && Nat.beq (P.cellsOf e) τe.size && Nat.blt 0 τe.size
   | _ => false
  | some (.struct fs) => chkFs P (chk P n) fs.toList 0 τ && Nat.beq (P.cellsOf t) τ.size
  | _ => false
def inK (k : IntKind) (n : Int) : Prop := k.min <= n /\ n <= k.max
def sizeS (s : ByteArray) : Nat := s.size
def WfL {α : Type} (f : α -> Prop) (l : List α) : Prop := l.length <= maxLen /\ ∀ x, x ∈ l -> f x
def bulkL {α : Type} (f : α -> Nat) : List α -> Nat
 | [] => 0
 | x :: r => f x + bulkL f r
def Wf : (t : Ty) -> t.den -> Prop
 | .int k, n => inK k n
 | .bool, _ => True
 | .str, s => sizeS s <= maxLen
 | .unit, _ => True
 | .pair a b, p => Wf a p.1 /\ Wf b p.2
 | .slice e, xs => WfL (Wf e) xs
 | .hnd, _ => True
def bulk : (t : Ty) -> t.den -> Nat
 | .int _, _ => 1
 | .bool, _ => 1
 | .str, s => sizeS s + 1
 | .unit, _ => 0
 | .pair a b, p => bulk a p.1 + bulk b p.2
 | .slice e, xs => bulkL (bulk e) xs + 1
 | .hnd, _ => 1
variable {H : Type} {enc0 : TypeId × Value -> H} {P : Program} {w : World}
abbrev ReadsAs (enc0 : TypeId × Value -> H) (P : Program) (w : World) (sp : Nat -> Bool) (rec : TypeId -> Ty -> Bool) (n : Nat) : Prop :=
 ∀ (t : TypeId) (τ : Ty) (cs : List Value) (x : DataW H × List MemPlace), rec t τ = true -> DataW.trod enc0 P w 0 sp true n t cs = some x ->
  ∃ y : τ.den, RoV w (fun b _ => b < w.heap.size) τ y cs /\ Wf τ y /\ bulk τ y <= Rows.uptoBulk x.1
theorem readFs {sp : Nat -> Bool} {rec : TypeId -> Ty -> Bool} {n : Nat} (ih : ReadsAs enc0 P w sp rec n) : ∀ (fs : List Field) (off : Nat) (τ : Ty) (cs : List Value) (xs : List (DataW H × List MemPlace)), chkFs P rec fs off τ = true ->
  cs.length = off + τ.size -> xs.length = fs.length -> (∀ (i : Nat) (f : Field), fs[i]? = some f -> DataW.trod enc0 P w 0 sp true n f.type ((cs.drop f.offset).take (P.cellsOf f.type)) = xs[i]?) ->
  ∃ y : τ.den, RoV w (fun b _ => b < w.heap.size) τ y (cs.drop off) /\ Wf τ y /\ bulk τ y <= Rows.uptoBulkAll (xs.map (·.1))
 | [], off, τ, cs, xs, h, hl, hx, hf => by
  cases τ <;> simp only [chkFs, Bool.false_eq_true] at h
  refine ⟨(), ?_, trivial, by simp [bulk]⟩
  simp only [RoV]
  simp only [Ty.size] at hl
  simp [hl]
 | [f], off, τ, cs, xs, h, hl, hx, hf => by
  match xs, hx with
  | [x], _ =>
  simp only [chkFs, Bool.and_eq_true, Nat.beq_eq] at h
  obtain ⟨⟨h1, h2⟩, h3⟩ := h
  have hr := hf 0 f rfl
  simp only [List.getElem?_cons_zero] at hr
  rw [h1, h3, List.take_of_length_le (by simp; omega)] at hr
  obtain ⟨y, g1, g2, g3⟩ := ih f.type τ _ x h2 hr
  exact ⟨y, g1, g2, by simpa [Rows.uptoBulkAll] using g3⟩
 | f :: g :: fs, off, τ, cs, xs, h, hl, hx, hf => by
  match xs, hx with
  | x :: xs, hx =>
  cases τ <;> simp only [chkFs, Bool.false_eq_true] at h
  case pair a b =>
  simp only [Bool.and_eq_true, Nat.beq_eq] at h
  obtain ⟨⟨⟨h1, h2⟩, h3⟩, h4⟩ := h
  simp only [Ty.size] at hl
  have hr := hf 0 f rfl
  simp only [List.getElem?_cons_zero] at hr
  rw [h1, h3] at hr
  obtain ⟨y, g1, g2, g3⟩ := ih f.type a _ x h2 hr
  obtain ⟨z, k1, k2, k3⟩ := readFs ih (g :: fs) (off + a.size) b cs xs h4 (by omega) (by simpa using hx) (fun i f' hi => by
   have := hf (i + 1) f' (by simpa using hi)
   simpa using this)
  refine ⟨(y, z), ?_, ⟨g2, k2⟩, ?_⟩
  · simp only [RoV]
    refine ⟨_, _, ?_, g1, k1⟩
    rw [<- List.drop_drop, List.take_append_drop]
  · simp only [bulk, List.map_cons, Rows.uptoBulkAll]
    omega
theorem cell_lt {w : World} {a : Addr} {v : Value} (h : w.cell? a = some v) : a.block < w.heap.size /\ a.spot = none := by
 unfold World.cell? at h
 split at h
 · next c t fz e =>
   refine ⟨(Array.getElem?_eq_some_iff.1 e).1, ?_⟩
   cases hs : a.spot with
   | none => rfl
   | some k => simp [hs] at h
 · cases h
theorem read_ok (sp : Nat -> Bool) : ∀ (n m : Nat), ReadsAs enc0 P w sp (chk P n) m
 | 0, m => fun t τ cs x h _ => by simp [chk] at h
 | n + 1, m => fun t τ cs x h ht => by
  have hm : ∃ m', m = m' + 1 := by
   cases m with
   | zero => simp [DataW.trod] at ht
   | succ m => exact ⟨m, rfl⟩
  simp only [chk] at h
  split at h
  · next k hu =>
    have := Ty.eqb_eq h
    subst this
    obtain ⟨v, rfl, rfl, hw⟩ := DataW.trod_int hu ht
    simp only [Lit.wf, Bool.and_eq_true, decide_eq_true_eq] at hw
    exact ⟨v, by simp only [RoV], hw, by simp [bulk, Rows.uptoBulk]⟩
  · next hu =>
    have := Ty.eqb_eq h
    subst this
    obtain ⟨v, rfl, rfl⟩ := DataW.trod_bool hu ht
    exact ⟨v, by simp only [RoV], trivial, by simp [bulk, Rows.uptoBulk]⟩
  · next hu =>
    have := Ty.eqb_eq h
    subst this
    obtain ⟨v, rfl, rfl, hw⟩ := DataW.trod_string hu ht
    exact ⟨v, by simp only [RoV], hw, by simp [bulk, sizeS, Rows.uptoBulk]⟩
  · next e hu =>
    split at h
    · next τe =>
      simp only [Bool.and_eq_true, Nat.beq_eq, Nat.blt_eq] at h
      obtain ⟨⟨h1, h2⟩, h3⟩ := h
      rcases DataW.trod_slice hu ht with ⟨rfl, rfl⟩ | ⟨a, len, cap, elems, rest, m', rfl, rfl, rfl, hb, hl, hcm, hlen, hel, _, _⟩
      · refine ⟨([] : List τe.den), ?_, ⟨by simp [maxLen], fun x hx => by simp at hx⟩, by simp [bulk, bulkL, Rows.uptoBulk]⟩
        simp only [RoV]
        exact .inl ⟨rfl, rfl⟩
      · have key : ∀ (es : List (DataW H × List MemPlace)) (k : Nat), (∀ i, i < es.length -> (w.cells? 0 (a.add ((k + i) * P.cellsOf e)) (P.cellsOf e)).bind (DataW.trod enc0 P w 0 sp true m' e) = es[i]?) ->
          ∃ ys : List τe.den, ys.length = es.length /\ (es ≠ [] -> a.spot = none \/ 0 < k) /\ (∀ x, x ∈ ys -> Wf τe x) /\ bulkL (bulk τe) ys <= Rows.uptoBulkAll (es.map (·.1)) /\
           ∀ (i : Nat) (y : τe.den), ys[i]? = some y -> ∃ cs : List Value, cs.length = τe.size /\ RoV w (fun b _ => b < w.heap.size) τe y cs /\
            ∀ (j : Nat) (u : Value), cs[j]? = some u -> w.cell? ⟨a.block, a.off + (k + i) * τe.size + j, none⟩ = some u /\ a.block < w.heap.size := by
         intro es
         induction es with
         | nil => intro k _; exact ⟨[], rfl, fun h => absurd rfl h, fun x hx => by simp at hx, by simp [bulkL], fun i y hy => by simp at hy⟩
         | cons d es ihe =>
          intro k hk
          have h0 := hk 0 (by simp)
          simp only [List.getElem?_cons_zero, Nat.add_zero] at h0
          obtain ⟨cs, hc1, hc2⟩ := Option.bind_eq_some_iff.1 h0
          obtain ⟨y, g1, g2, g3⟩ := read_ok sp n m' e τe cs d h1 hc2
          obtain ⟨_, hcl, hcc⟩ := World.cells?_some hc1
          obtain ⟨ys, e1, e2, e3, e4, e5⟩ := ihe (k + 1) (fun i hi => by
           have := hk (i + 1) (by simpa using hi)
           rw [show k + (i + 1) = k + 1 + i from by omega] at this
           simpa using this)
          have hcs : ∀ (j : Nat) (u : Value), cs[j]? = some u -> w.cell? ⟨a.block, a.off + k * τe.size + j, none⟩ = some u /\ a.block < w.heap.size /\ (k * P.cellsOf e + j = 0 -> a.spot = none) := by
           intro j u hj
           have hjl : j < cs.length := (List.getElem?_eq_some_iff.1 hj).1
           have hc := hcc j (by omega)
           rw [hj] at hc
           obtain ⟨q1, q2⟩ := cell_lt hc
           have hadd : (a.add (k * P.cellsOf e)).add j = ⟨a.block, a.off + k * τe.size + j, none⟩ := by
            have hbl : ((a.add (k * P.cellsOf e)).add j).block = a.block := by unfold Addr.add; split <;> split <;> rfl
            have hof : ((a.add (k * P.cellsOf e)).add j).off = a.off + k * P.cellsOf e + j := by unfold Addr.add; split <;> split <;> simp_all
            have hz : ∀ z : Addr, z.spot = none -> z = ⟨z.block, z.off, none⟩ := fun z hz => by cases z; simp_all
            rw [hz _ q2, hbl, hof, h2]
           rw [hadd] at hc
           have hblk : ((a.add (k * P.cellsOf e)).add j).block = a.block := by unfold Addr.add; split <;> split <;> rfl
           rw [hblk] at q1
           refine ⟨hc, q1, fun hz => ?_⟩
           have hz1 : k * P.cellsOf e = 0 := by omega
           have hz2 : j = 0 := by omega
           rw [hz1, hz2] at q2
           simpa [Addr.add] using q2
          refine ⟨y :: ys, by simp [e1], fun _ => ?_, ?_, ?_, ?_⟩
          · rcases Nat.eq_zero_or_pos k with hk0 | hk0
            · subst hk0
              have hlt : 0 < cs.length := by omega
              exact .inl ((hcs 0 _ (List.getElem?_eq_getElem hlt)).2.2 (by simp))
            · exact .inr hk0
          · intro x hx
            rcases List.mem_cons.1 hx with rfl | hx
            · exact g2
            · exact e3 x hx
          · simp only [bulkL, List.map_cons, Rows.uptoBulkAll]; omega
          · intro i z hz
            cases i with
            | zero =>
             simp only [List.getElem?_cons_zero, Option.some.injEq] at hz
             subst hz
             exact ⟨cs, by omega, g1, fun j u hj => ⟨(hcs j u hj).1, (hcs j u hj).2.1⟩⟩
            | succ i =>
             simp only [List.getElem?_cons_succ] at hz
             obtain ⟨cs', q1, q2, q3⟩ := e5 i z hz
             refine ⟨cs', q1, q2, fun j u hj => ?_⟩
             have := q3 j u hj
             rw [show k + 1 + i = k + (i + 1) from by omega] at this
             exact this
        obtain ⟨ys, e1, e2, e3, e4, e5⟩ := key elems 0 (fun i hi => by rw [Nat.zero_add]; exact hel i (by omega))
        refine ⟨ys, ?_, ⟨by omega, e3⟩, ?_⟩
        · simp only [RoV]
          refine .inr ⟨a.block, a.off, a.spot, cap, ?_, ?_, by omega, fun i y hy => ?_⟩
          · rw [e1, hlen]
          · intro hne
            have : elems ≠ [] := by
             rintro rfl
             exact hne (List.length_eq_zero_iff.1 (by simpa using e1))
            rcases e2 this with h | h
            · exact h
            · omega
          · obtain ⟨cs, q1, q2, q3⟩ := e5 i y hy
            refine ⟨cs, q1, q2, fun j u hj => ?_⟩
            have := q3 j u hj
            rw [Nat.zero_add] at this
            exact this
        · simp only [bulk, Rows.uptoBulk]
          omega
    · cases h
  · next fs hu =>
    simp only [Bool.and_eq_true, Nat.beq_eq] at h
    obtain ⟨xs, m', rfl, rfl, hl, hxl, hf⟩ := DataW.trod_struct hu ht
    obtain ⟨y, g1, g2, g3⟩ := readFs (read_ok sp n m') fs.toList 0 τ cs xs h.1 (by omega) (by simpa using hxl) (fun i f hi => hf i f (by simpa using hi))
    refine ⟨y, by simpa using g1, g2, ?_⟩
    simp only [Rows.uptoBulk]
    omega
  · cases h
def ArgDen : List (Bool × Ty) -> Type
 | [] => Unit
 | (_, t) :: r => t.den × ArgDen r
def lawArg : Bool -> (t : Ty) -> t.den -> V
 | true, t, y => .agg (enc t y)
 | false, t, y => (enc t y).headD .any
def lawArgs : (ps : List (Bool × Ty)) -> ArgDen ps -> List V
 | [], _ => []
 | (b, t) :: r, xs => lawArg b t xs.1 :: lawArgs r xs.2
def WfAll : (ps : List (Bool × Ty)) -> ArgDen ps -> Prop
 | [], _ => True
 | (_, t) :: r, xs => Wf t xs.1 /\ WfAll r xs.2
def bulkAll : (ps : List (Bool × Ty)) -> ArgDen ps -> Nat
 | [], _ => 0
 | (_, t) :: r, xs => bulk t xs.1 + bulkAll r xs.2
def aggT (P : Program) (t : TypeId) : Bool := match P.underlying t with
 | some (.struct _) => true
 | _ => false
def chkAll (P : Program) : List TypeId -> List (Bool × Ty) -> Bool
 | [], [] => true
 | t :: ts, (b, τ) :: r => chk P 12 t τ && (aggT P t == b) && Nat.beq (Ty.size τ) (bif b then Ty.size τ else 1) && P.readableRec t && Nat.blt t P.types.size && chkAll P ts r
 | _, _ => false
theorem read_arg {n : Nat} {t : TypeId} {b : Bool} {τ : Ty} {v : Value} {d : DataW H} {ps : List MemPlace} {sp : Nat -> Bool} {base : Nat} (hc : chk P n t τ = true) (hb : aggT P t = b) (hsz : b = false -> τ.size = 1)
  (hval : Value.okWide P w .any base t v) (h : DataW.Trod enc0 P w 0 sp true t v d ps) :
  ∃ y : τ.den, RelV (lent w) (lawArg b τ y) v /\ Wf τ y /\ bulk τ y <= Rows.uptoBulk d := by
 obtain ⟨m, hm⟩ := h
 obtain ⟨y, h1, h2, h3⟩ := read_ok sp n m t τ _ _ hc hm
 refine ⟨y, ?_, h2, h3⟩
 have hrel := RoV.rel (c := lent w) h1
 cases b with
 | true =>
  unfold aggT at hb
  split at hb
  · next fs hu =>
    obtain ⟨cs, rfl, _⟩ := okWide_struct hu hval
    simp only [lawArg, RelV]
    exact ⟨cs, rfl, by simpa [Value.cells] using hrel⟩
  · cases hb
 | false =>
  have hs := hsz rfl
  have hcells : v.cells.toList = [v] \/ ∃ cs, v = .agg cs := by
   cases v <;> first | exact .inl rfl | exact .inr ⟨_, rfl⟩
  have hv : v.cells.toList = [v] := by
   rcases hcells with h | ⟨cs, rfl⟩
   · exact h
   · exfalso
     unfold Value.okWide at hval
     unfold aggT at hb
     cases n with
     | zero => simp [chk] at hc
     | succ n =>
      simp only [chk] at hc
      split at hval
      · next hu => rw [hu] at hb; cases hb
      · next hu => rw [hu] at hc; cases hc
      · unfold Cell.okWide at hval
        split at hval <;> first | exact hval.elim | (simp only [Cell.ok] at hval; split at hval <;> simp_all) | simp_all
  rw [hv] at hrel
  simp only [lawArg]
  have hlen := hrel.length
  match henc : enc τ y with
  | [] => rw [henc] at hlen; simp at hlen
  | x :: r =>
   rw [henc] at hrel
   simp only [RelVs] at hrel
   obtain ⟨u, us', e, h4, h5⟩ := hrel
   cases e
   simpa using h4
theorem read_args {sp : Nat -> Bool} {base : Nat} : ∀ {ts : List TypeId} {ps : List (Bool × Ty)} {vs : List Value} {ds : List (DataW H)} {pl : List MemPlace}, chkAll P ts ps = true ->
  (∀ (j : Nat) t v, ts[j]? = some t -> vs[j]? = some v -> Value.okWide P w .any base t v) -> DataW.TrodAll enc0 P w 0 sp true ts vs ds pl ->
  ∃ xs : ArgDen ps, RelVs (lent w) (lawArgs ps xs) vs /\ WfAll ps xs /\ bulkAll ps xs <= Rows.uptoBulkAll ds
 | [], [], vs, ds, pl, _, _, h => by
  obtain ⟨rfl, rfl, rfl⟩ := trodAll_nil h
  exact ⟨(), RelVs.nil, trivial, by simp [bulkAll]⟩
 | t :: ts, (b, τ) :: ps, vs, ds, pl, hc, hval, h => by
  obtain ⟨v, vs1, d, ds1, a, a', rfl, rfl, rfl, h1, h2⟩ := trodAll_cons h
  simp only [chkAll, Bool.and_eq_true, beq_iff_eq, Nat.beq_eq] at hc
  obtain ⟨⟨⟨⟨⟨k1, k2⟩, k3⟩, k4⟩, k5⟩, k6⟩ := hc
  obtain ⟨y, g1, g2, g3⟩ := read_arg k1 k2 (fun hb => by rw [hb] at k3; exact k3) (hval 0 t v rfl rfl) h1
  obtain ⟨xs, e1, e2, e3⟩ := read_args k6 (fun j t' v' ht hv => hval (j + 1) t' v' (by simpa using ht) (by simpa using hv)) h2
  exact ⟨(y, xs), RelVs.cons g1 e1, ⟨g2, e2⟩, by simp only [bulkAll, Rows.uptoBulkAll]; omega⟩
 | [], _ :: _, _, _, _, hc, _, _ => by simp [chkAll] at hc
 | _ :: _, [], _, _, _, hc, _, _ => by simp [chkAll] at hc
theorem stay_args (hl : laidOutB P = true) {W W' : World} (hb : Below W.heap.size W W') (sp : Nat -> Bool) : ∀ {ts : List TypeId} {ps : List (Bool × Ty)} {vs : List Value} {ds : List (DataW H)} {pl : List MemPlace}, chkAll P ts ps = true ->
  DataW.TrodAll enc0 P W 0 (fun _ => true) true ts vs ds pl -> (∀ p ∈ pl, p.block < W.heap.size) -> (∀ p ∈ pl, sp p.block = true) -> DataW.TrodAll enc0 P W' 0 sp true ts vs ds pl
 | [], [], vs, ds, pl, _, h, _, _ => by
  obtain ⟨rfl, rfl, rfl⟩ := trodAll_nil h
  exact trodAll_mk0
 | t :: ts, (b, τ) :: ps, vs, ds, pl, hc, h, hlt, hsp => by
  obtain ⟨v, vs1, d, ds1, a, a', rfl, rfl, rfl, h1, h2⟩ := trodAll_cons h
  simp only [chkAll, Bool.and_eq_true, beq_iff_eq, Nat.beq_eq, Nat.blt_eq] at hc
  obtain ⟨⟨⟨⟨⟨k1, k2⟩, k3⟩, k4⟩, k5⟩, k6⟩ := hc
  exact trodAll_cons_mk (WideElems.Trod_stays hl k4 k5 h1 (fun x hx => hb.same (hlt x (by simp [hx]))) (fun x hx => hsp x (by simp [hx])))
   (stay_args hl hb sp k6 h2 (fun p hp => hlt p (by simp [hp])) (fun p hp => hsp p (by simp [hp])))
 | [], _ :: _, _, _, _, hc, _, _, _ => by simp [chkAll] at hc
 | _ :: _, [], _, _, _, hc, _, _, _ => by simp [chkAll] at hc
structure LawSpec (s : ChangeSpec) (n : Nat) : Prop where
 vars : s.vars = []
 res : ∀ (H : Type) (ds : List (DataW H)), ds.length = n -> (s.fn H ds).results = [.lit (.bool true)]
 args : ∀ (H : Type) (ds : List (DataW H)), ds.length = n -> (s.fn H ds).args = ds
 left : ∀ (H : Type) (ds : List (DataW H)), ds.length = n -> (s.fn H ds).vars = []
def isTrue : V -> List Ob -> Prop := fun v _ => v = .x (.bool true)
theorem trodAll_len {sp : Nat -> Bool} : ∀ {ts : List TypeId} {vs : List Value} {ds : List (DataW H)} {pl : List MemPlace}, DataW.TrodAll enc0 P w 0 sp true ts vs ds pl -> ds.length = ts.length
 | [], vs, ds, pl, h => by
  obtain ⟨rfl, rfl, rfl⟩ := trodAll_nil h
  rfl
 | t :: ts, vs, ds, pl, h => by
  obtain ⟨v, vs1, d, ds1, a, a', rfl, rfl, rfl, h1, h2⟩ := trodAll_cons h
  simp [trodAll_len h2]
theorem law_contract (hl : laidOutB P = true) {f : FuncId} {fn : Func} {s : ChangeSpec} {ps : List (Bool × Ty)} {tb : TypeId} {sem : SemF} {small : Bool}
  (hps : chkAll P fn.params.toList ps = true) (hrt : fn.resultTypes = #[tb]) (htb : P.underlying tb = some .bool) (hs : LawSpec s fn.params.toList.length)
  (hS : SoundFn P f sem) (hlaw : ∀ xs : ArgDen ps, WfAll ps xs -> (small = true -> bulkAll ps xs <= 1048576) -> sem (lawArgs ps xs) isTrue)
  {W : World} {base : Nat} {args : Array Value} {ds gs : List (DataW H)} {before : List MemPlace}
  (hval : ∀ (j : Nat) t v, fn.params[j]? = some t -> args[j]? = some v -> Value.okWide P W .any base t v)
  (hW : DataW.Whole enc0 P fn.params.toList s.vars false W args.toList ds gs before)
  (hk : small = true -> Rows.uptoSmall H (ds ++ gs) = true) :
  Wp.CallsK P f args W fun e W' => e = .returned (.bool true) /\ Below W.heap.size W W' := by
 have hW' := hW
 obtain ⟨p, q, hA, hV, rfl, hfz, hnd⟩ := hW
 rw [hs.vars] at hV
 obtain ⟨rfl, rfl⟩ := trodVars_none hV
 obtain ⟨xs, h1, h2, h3⟩ := read_args hps (fun j t v ht hv => hval j t v (by simpa using ht) (by simpa using hv)) hA
 have hbulk : small = true -> bulkAll ps xs <= 1048576 := fun hsm => by
  have := hk hsm
  simp only [Rows.uptoSmall, decide_eq_true_eq, List.append_nil] at this
  omega
 have hlen := trodAll_len hA
 refine (hS W (fun b _ => b < W.heap.size) _ args isTrue (fun b o h => h) h1 (hlaw xs h2 hbulk)).mono fun e W' hh => ?_
 obtain ⟨u, v, c', rfl, rfl, g1, _, g3, g4⟩ := hh
 unfold isTrue at g4
 subst g4
 simp only [RelV] at g3
 subst g3
 have hb : Below W.heap.size W c'.w := ⟨g1.below.b0.os, g1.below.b0.tape, g1.below.b0.output, g1.below.b0.size, fun k hk => g1.below.block k (noOwn hk)⟩
 exact ⟨rfl, hb⟩
theorem law_post (hl : laidOutB P = true) {fn : Func} {s : ChangeSpec} {ps : List (Bool × Ty)} {tb : TypeId}
  (hps : chkAll P fn.params.toList ps = true) (hrt : fn.resultTypes = #[tb]) (htb : P.underlying tb = some .bool) (hs : LawSpec s fn.params.toList.length)
  {W W' : World} {args : Array Value} {ds gs : List (DataW H)} {before : List MemPlace}
  (hW : DataW.Whole enc0 P fn.params.toList s.vars false W args.toList ds gs before) (hb : Below W.heap.size W W') : s.post enc0 P fn false true false false W args (.bool true) W' := by
 have hW' := hW
 obtain ⟨p, q, hA, hV, rfl, hfz, hnd⟩ := hW
 rw [hs.vars] at hV
 obtain ⟨rfl, rfl⟩ := trodVars_none hV
 have hlen := trodAll_len hA
 obtain ⟨c', rfl⟩ : ∃ c' : Cfg, c'.w = W' := ⟨cfg0 W' fun _ _ => False, rfl⟩
 have hold : ∀ z ∈ p ++ [], (fun b => decide (b < W.heap.size)) z.block = true := fun z hz => by simpa using hW'.lt z hz
 have hlt : ∀ x ∈ p, x.block < W.heap.size := fun x hx => hW'.lt x (by simp [hx])
 have e1 := hs.res H (ds ++ []) (by simpa using hlen)
 have e2 := hs.args H (ds ++ []) (by simpa using hlen)
 have e3 := hs.left H (ds ++ []) (by simpa using hlen)
 have hres : ∀ (b : Nat) (sp : Nat -> Bool) (hd : Bool), DataW.TrodAll enc0 P c'.w b sp hd fn.resultTypes.toList ((Value.bool true).resultList fn.resultTypes.size) (s.fn H (ds ++ [])).results [] := fun b sp hd => by
  rw [e1, hrt]
  exact trodAll_cons_mk (shut_bool htb true) trodAll_mk0
 have hargs : ∀ sp : Nat -> Bool, (∀ x ∈ p ++ [], sp x.block = true) -> DataW.TrodAll enc0 P c'.w 0 sp true fn.params.toList args.toList (s.fn H (ds ++ [])).args p := fun sp hsp => by
  rw [e2]
  simpa using stay_args hl hb sp hps hA hlt (fun x hx => hsp x (by simp [hx]))
 have hvars : ∀ sp : Nat -> Bool, DataW.TrodVars enc0 P c'.w sp s.vars (s.fn H (ds ++ [])).vars [] := fun sp => by
  rw [e3, hs.vars]
  rfl
 refine ⟨ds, [], p ++ [], [], p, [], hW', hres _ _ _, hargs _ hold, hvars _, World.keptBut_mono (fun x hx => ⟨hx, .inr (by simpa using hx)⟩) (hb.frame (· ∈ p ++ [])), fun _ => ?_⟩
 refine ⟨ok_one hrt rfl (okWide_bool_mk htb true), _, _, ([] ++ p) ++ [], ⟨[] ++ p, [], trodAll_append (hargs _ (fun _ _ => rfl)) (hres _ _ _), hvars _, rfl, ?_, ?_⟩, ?_⟩
 · intro b off hp
   have hp' : MemPlace.cell b off ∈ p ++ [] := by simpa using hp
   rw [hb.frozen (p := ⟨b, off, none⟩) (hW'.lt _ hp')]
   exact hfz b off hp'
 · intro ha
   cases ha
 · intro x hx _
   simpa using hx
open Go.Conc Go.ConcM in
theorem law_conc (hl : laidOutB P = true) {f : FuncId} {fn : Func} {s : ChangeSpec} {ps : List (Bool × Ty)} {tb : TypeId} {sem : SemF} {small : Bool}
  (hf : P.funcs[f]? = some fn) (hret : ∃ t, fn.results = #[.tmp t]) (hini : P.inits.idxOf? f = none)
  (hps : chkAll P fn.params.toList ps = true) (hrt : fn.resultTypes = #[tb]) (htb : P.underlying tb = some .bool) (hs : LawSpec s fn.params.toList.length)
  (hS : SoundFn P f sem) (hlaw : ∀ xs : ArgDen ps, WfAll ps xs -> (small = true -> bulkAll ps xs <= 1048576) -> sem (lawArgs ps xs) isTrue)
  {W : World} {base : Nat} {args : Array Value} {ds gs : List (DataW H)} {before : List MemPlace}
  (hval : ∀ (j : Nat) t v, fn.params[j]? = some t -> args[j]? = some v -> Value.okWide P W .any base t v)
  (hW : DataW.Whole enc0 P fn.params.toList s.vars false W args.toList ds gs before)
  (hk : small = true -> Rows.uptoSmall H (ds ++ gs) = true) :
  ∃ M last o w' t', runNT P (M + 1) (solo (G (Frame.enter P f args .normal) []) W) #[] = (.ended o w', t') /\ runN P M (solo (G (Frame.enter P f args .normal) []) W) = .next last /\
    step P last = .ended o w' /\ Conc.Good P (fun v W' => s.post enc0 P fn false true false false W args v { W' with os := W.os } /\ OsLater W.os W'.os) last o w' t' := by
 have hC := law_contract hl hps hrt htb hs hS hlaw hval hW hk
 refine Wp.FinW.alone (hC.2 _ W.heap.size [] (fun v u' hR => ?_) (fun c hc => by cases hc) (Nat.le_refl _) (fun _ => False) W (fun b hb => hb.elim) ⟨rfl, fun _ _ => rfl, fun b hb => ?_, rfl, rfl, rfl, .refl _⟩)
 · obtain ⟨e, hb⟩ := hR
   cases e
   refine fun _ => ⟨?_, hini, fun w hs' => ⟨law_post hl hps hrt htb hs hW ⟨rfl, hs'.tape.trans hb.tape, hs'.output.trans hb.output, ?_, fun k hk => ?_⟩, ?_⟩⟩
   · obtain ⟨t, ht⟩ := hret
     exact ⟨fn, t, hf, ht⟩
   · show W.heap.size <= w.heap.size
     rw [hs'.size]
     exact hb.size
   · show w.heap[k]? = W.heap[k]?
     rw [hs'.live k fun hd => by have := hd.1; omega]
     exact hb.block k hk
   · have := hs'.os
     rwa [show (u'.at w.drawn).os = W.os from hb.os] at this
 · have h1 := hb.1
   have h2 := (Array.getElem?_eq_some_iff.1 hb.2).1
   exact absurd (show b < W.heap.size from h2) (by omega)
end Eng
end Go.Proofs.YtnpjonhoihbaeaaGreat
namespace Go.Proofs.YtnpjonhoihbaeaaGreat
namespace Eng
theorem i64_id {n : Int} (h1 : -9223372036854775808 <= n) (h2 : n <= 9223372036854775807) : i64 n = n := by
 show IntKind.wrap .i64 n = n
 unfold IntKind.wrap
 simp only [IntKind.bits, IntKind.signed]
 simp
 omega
theorem cond_t {b : Bool} {p q : Prop} (h : b = true) (hp : p) : bif b then p else q := by subst h; exact hp
theorem cond_f {b : Bool} {p q : Prop} (h : b = false) (hq : q) : bif b then p else q := by subst h; exact hq
theorem inB_of {i : Int} {n : Nat} (h1 : 0 <= i) (h2 : i < n) : inB i n := ⟨h1, h2⟩
end Eng
end Go.Proofs.YtnpjonhoihbaeaaGreat
