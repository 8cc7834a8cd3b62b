/-
 Part 5 of the proof of a law. Conditions: none.
-/
import Derived.Test.YtnpjonhoihbaeaaGreatQ4
set_option linter.unusedVariables false
set_option linter.unusedSimpArgs false
set_option maxRecDepth 100000
namespace Go.Proofs.YtnpjonhoihbaeaaGreat
open Go.Conc
namespace Wp
section
variable {E : Env} {P : Program} {C : Nat} {σ σ' : Gh} {w w' : World} {WStop : Nat -> Gh -> Goroutine -> World -> Prop} {Stop : Gh -> Goroutine -> World -> Prop}
structure KnownM (E : Env) (σ : Gh) (w : World) (x : FuncId × Addr × Value) : Prop where
 cell : w.cell? x.2.1 = some x.2.2
 lt : x.2.1.block < σ.hs
 pv : σ.pv x.2.1.block = 0
 cold : ¬ E.Hot x.2.1.block
 shun : ¬ E.Shun (.cell x.2.1)
theorem KnownM.keep {x : FuncId × Addr × Value} (h : KnownM E σ w x) (hR : R0 E σ w σ' w') : KnownM E σ' w' x :=
 ⟨(cell_congr (hR.mem _ h.lt h.cold h.pv)).trans h.cell, Nat.lt_of_lt_of_le h.lt hR.hs, by rw [hR.pv _ h.lt]; exact h.pv, h.cold, h.shun⟩
theorem D0.load {g g' : Goroutine} {es : Array Event} {fn : FuncId} {ad : Addr} {v : Value} (hJ : J E σ w) (hr : g'.status = .running) (hx : KnownM E σ w (fn, ad, v)) (he : es = if norace P fn then #[] else #[⟨.cell ad, false, false⟩]) : D0 E σ w g es σ w g' := by
 cases hq : norace P fn with
 | true =>
  rw [hq] at he
  subst he
  exact D0.quiet hJ hr
 | false =>
  rw [hq] at he
  subst he
  refine ⟨hJ, rfl, rfl, rfl, rfl, rfl, Nat.le_refl _, rfl, Nat.le_refl _, fun _ _ _ _ => rfl, hr, rfl, fun e he => ?_, fun h => .inl h, fun _ => trivial⟩
  simp only [Bool.false_eq_true, if_false, List.mem_toArray, List.mem_cons, List.not_mem_nil, or_false] at he
  subst he
  refine ⟨by simp, hx.lt, fun y hy => ?_⟩
  simp only [MemAct.ofEvent, MemAct.touch?, Option.some.injEq] at hy
  subst hy
  refine .inr ⟨?_, ?_, hx.shun, ?_, fun h => by cases h⟩
  · rintro ⟨a, e, hb⟩
    cases e
    exact hx.cold (by rcases hb with hb | hb | hb
                      · exact .inl hb
                      · exact .inr (.inl hb)
                      · exact .inr (.inr (.inl hb)))
  · rintro ⟨a, e, hb⟩
    cases e
    exact hx.cold (.inr (.inr (.inr hb)))
  · rintro j ⟨a, e, hp⟩
    cases e
    have h2 : σ.pv ad.block = 0 := hx.pv
    have hp : σ.pv ad.block = j + 1 := hp
    omega
theorem runM {c : Par} (hc : c.main = true) (hv : c.Ok) : ∀ (F : Nat) {m : Nat} {σ : Gh} {g : Goroutine} {w : World}, Run P c F g -> J E σ w -> (∀ x ∈ ldsR P c F g, KnownM E σ w x) ->
  (∀ σ₁ w₁, R0 E σ w σ₁ w₁ -> GoesM P (proto E P) C WStop Stop m σ₁ (endR P c F g) w₁) -> GoesM P (proto E P) C WStop Stop (m + F) σ g w
 | 0, m, σ, g, w, hq, hJ, hx, h => h σ w (R0.refl hJ)
 | F + 1, m, σ, g, w, hq, hJ, hx, h => by
  cases hl : stopR P c g with
  | true =>
   have h := h σ w (R0.refl hJ)
   simp only [endR, hl, cond_true] at h
   exact h.mono (by omega)
  | false =>
   obtain ⟨hs, hq'⟩ := hq.step hl
   refine .inr ⟨hq.run.1, hq.run.2, fun σ₁ w₁ hr => .inl ?_⟩
   have rest : ∀ x ∈ ldsR P c F (nxR P c g), KnownM E σ₁ w₁ x := fun x hm => (hx x (by
    simp only [ldsR, hl, cond_false]
    split
    · exact hm
    · split
      · exact List.mem_cons_of_mem _ hm
      · exact hm)).keep hr
   have cont : GoesM P (proto E P) C WStop Stop (m + F) σ₁ (nxR P c g) w₁ := by
    refine runM hc hv F hq' hr.j rest fun σ₂ w₂ hr₂ => ?_
    have := h σ₂ w₂ (hr.trans hr₂)
    simpa only [endR, hl, cond_false] using this
   have hs1 := hs w₁
   cases hd0 : vlR c g with
   | some x =>
    rw [show nxR P c g = fin g x.1 by unfold nxR; rw [hd0]] at cont hq'
    simp only [stpR, wntR, hd0] at hs1
    rw [hc, <- vlR_ok hv hd0] at hs1
    exact ⟨_, w₁, #[], σ₁, hs1, (D0.quiet hr.j hq'.run.1 : D0 E σ₁ w₁ g #[] σ₁ w₁ _), cont⟩
   | none =>
   cases hd : ldR P c g with
   | none =>
    rw [show nxR P c g = nextQ P true g by unfold nxR; rw [hd0, hd, hc]] at cont hq'
    simp only [stpR, wntR, hd0, hd] at hs1
    rw [hc] at hs1
    exact ⟨_, w₁, #[], σ₁, hs1, (D0.quiet hr.j hq'.run.1 : D0 E σ₁ w₁ g #[] σ₁ w₁ _), cont⟩
   | some x =>
    rw [show nxR P c g = fin g x.2 by unfold nxR; rw [hd0, hd]] at cont hq'
    have hl1 := ldR_load hd
    have hx1 : KnownM E σ₁ w₁ (g.frame.fn, x.1, x.2) := (hx (g.frame.fn, x.1, x.2) (by
     simp only [ldsR, hl, cond_false, hd0, hd]
     exact List.mem_cons_self ..)).keep hr
    exact ⟨_, w₁, _, σ₁, step_load hl1 hx1.cell, (D0.load (P := P) (fn := g.frame.fn) hr.j hq'.run.1 hx1 rfl : D0 E σ₁ w₁ g _ σ₁ w₁ _), cont⟩
end
open Go.ConcN (sumTo upd sumTo_upd upd_ne upd_same sumTo_congr RelBy)
def Gh.st (σ : Gh) (ms d wg ws : Nat) : Gh := { σ with ms := ms, mdf := d, wg := wg, ws := ws }
section
variable {E : Env} {P : Program} {C : Nat} {σ σ' : Gh} {w w' : World} {WStop : Nat -> Gh -> Goroutine -> World -> Prop} {Stop : Gh -> Goroutine -> World -> Prop}
theorem Inv.st {n : Nat} (I : Inv n σ) {ms d wg ws : Nat} (hW : WInv ms wg ws (c5 σ.num σ.wk) (c43 σ.num σ.wk) (c2 σ.num σ.wk)) : Inv n (σ.st ms d wg ws) :=
 ⟨I.mx, hW, I.lkf, I.done, I.uniq, I.pw, I.wfut, I.fin, I.all, I.low, I.num, I.nb⟩
theorem D0.st (hE : E.Ok) (hJ : J E σ w) {ms d wg ws : Nat} {es : Array Event} {g g' : Goroutine} (hW : WInv ms wg ws (c5 σ.num σ.wk) (c43 σ.num σ.wk) (c2 σ.num σ.wk)) (hw : Same E w w') (h4 : Four E (σ.st ms d wg ws) w') (hr : isRun g' = true)
  (hev : ∀ e ∈ es, Ev0 E σ (σ.st ms d wg ws) e) (hdf : deafBehind σ.mdf es = d) (hws : ws <= σ.ws) (hacq : ms = 5 -> σ.ms = 5 \/ (σ.ms = 4 /\ es = #[Go.ConcR.mk (.acquire (stA E))] /\ σ.mdf = 0)) : D0 E σ w g es (σ.st ms d wg ws) w' g' :=
 ⟨J.turn hE hJ hw h4 (hJ.inv.st hW) hJ.acc rfl rfl rfl, rfl, rfl, rfl, rfl, rfl, Nat.le_refl _, rfl, hws, fun b _ _ hb => hw.mem b hb, (isRun_out hr).1, hdf, hev, hacq, fun _ => trivial⟩
theorem stop_st (hE : E.Ok) {m : Nat} {g : Goroutine} (hr : isRun g = true)
  (h : ∀ σ₁ w₁, R0 E σ w σ₁ w₁ -> ∃ g' w' es ms d wg ws, stepG P true g w₁ = .go g' w' es /\ WInv ms wg ws (c5 σ₁.num σ₁.wk) (c43 σ₁.num σ₁.wk) (c2 σ₁.num σ₁.wk) /\ Same E w₁ w' /\ Four E (σ₁.st ms d wg ws) w' /\ isRun g' = true /\ (∀ e ∈ es, Ev0 E σ₁ (σ₁.st ms d wg ws) e) /\ deafBehind σ₁.mdf es = d /\ ws <= σ₁.ws /\ (ms = 5 -> σ₁.ms = 5 \/ (σ₁.ms = 4 /\ es = #[Go.ConcR.mk (.acquire (stA E))] /\ σ₁.mdf = 0)) /\
   GoesM P (proto E P) C WStop Stop m (σ₁.st ms d wg ws) g' w') : GoesM P (proto E P) C WStop Stop (m + 1) σ g w :=
 stepM hr fun σ₁ w₁ hw => by
  obtain ⟨g', w', es, ms, d, wg, ws, h1, h2, h3, h4, h5, h6, h7, h8, h9, h10⟩ := h σ₁ w₁ hw
  exact ⟨g', w', es, _, h1, D0.st hE hw.j h2 h3 h4 h5 h6 h7 h8 h9, h10⟩
theorem Book.ev0 (hJ' : J E σ' w') {e : Event} (h : Book E e) : Ev0 E σ σ' e := by
 cases h with
 | at_ a x h => exact ⟨by simp, hJ'.hotLt h, fun y hy => by simp only [MemAct.ofEvent, MemAct.touch?, Option.some.injEq] at hy; subst hy; exact .inl ⟨⟨a, rfl, h⟩, by simp⟩⟩
 | dis => exact ⟨by simp, True.intro, fun y hy => by cases hy⟩
 | en => exact ⟨by simp, True.intro, fun y hy => by cases hy⟩
 | acq a h => exact ⟨by simp, hJ'.hotLt h, fun y hy => by cases hy⟩
 | rm a h => exact ⟨by simp, hJ'.hotLt h, fun y hy => by cases hy⟩
theorem WInv.more {ms wg ws v x y : Nat} (h : WInv ms wg ws v x y) (h0 : ms = 0) : wg = v * 4294967296 /\ WInv 1 (wg + 4294967296) ws v x y := by
 obtain ⟨a, b, c⟩ := h
 obtain ⟨p1, p2, p3, p4⟩ := a (by omega)
 rw [if_neg (by omega)] at p3
 exact ⟨by omega, fun _ => ⟨p1, p2, by rw [if_pos rfl]; omega, p4⟩, fun e => by omega, fun e => by omega⟩
theorem WInv.start {wg ws v x y : Nat} (h : WInv 1 wg ws v x y) : WInv 0 wg ws (v + 1) x y := by
 obtain ⟨a, b, c⟩ := h
 obtain ⟨p1, p2, p3, p4⟩ := a (by omega)
 rw [if_pos rfl] at p3
 exact ⟨fun _ => ⟨p1, p2, by rw [if_neg (by omega)]; omega, p4⟩, fun e => by omega, fun e => by omega⟩
theorem WInv.look {ms wg ws v x y : Nat} (h : WInv ms wg ws v x y) (h0 : ms = 0 \/ ms = 2) : wg = v * 4294967296 /\ ws = 0 /\ WInv 2 wg ws v x y := by
 obtain ⟨a, b, c⟩ := h
 obtain ⟨p1, p2, p3, p4⟩ := a (by omega)
 rw [if_neg (by omega)] at p3
 exact ⟨by omega, p4, fun _ => ⟨p1, p2, by rw [if_neg (by omega)]; omega, p4⟩, fun e => by omega, fun e => by omega⟩
theorem WInv.none {ms wg ws v x y : Nat} (h : WInv ms wg ws v x y) (h0 : ms = 0 \/ ms = 2) (hz : wg = 0) : v = 0 /\ WInv 4 wg ws v x y := by
 obtain ⟨a, b, c⟩ := h
 obtain ⟨p1, p2, p3, p4⟩ := a (by omega)
 rw [if_neg (by omega)] at p3
 have : v = 0 := by omega
 exact ⟨this, fun e => by omega, fun e => by omega, fun _ => ⟨this, p1, p2, hz, p4⟩⟩
theorem WInv.reg {wg ws v x y : Nat} (h : WInv 2 wg ws v x y) (hv : 1 <= v) : WInv 3 (wg + 1) ws v x y := by
 obtain ⟨a, b, c⟩ := h
 obtain ⟨p1, p2, p3, p4⟩ := a (by omega)
 rw [if_neg (by omega)] at p3
 exact ⟨fun e => by omega, fun _ => ⟨by omega, fun _ => ⟨p1, p2, by omega, p4⟩, fun e => by omega⟩, fun e => by omega⟩
theorem WInv.pass {wg ws v x y : Nat} (h : WInv 3 wg ws v x y) (hs : ws ≠ 0) : ws = 1 /\ WInv 4 wg 0 v x y := by
 obtain ⟨a, b, c⟩ := h
 obtain ⟨q1, q2, q3⟩ := b rfl
 by_cases hv : 1 <= v
 · exact absurd (q2 hv).2.2.2 hs
 · rcases q3 (by omega) with h | h | h
   · exact absurd h.2.2 hs
   · exact absurd h.2.2 hs
   · obtain ⟨r1, r2, r3, r4⟩ := h
     exact ⟨r4, fun e => by omega, fun e => by omega, fun _ => ⟨by omega, r1, r2, r3, rfl⟩⟩
theorem WInv.thru {ms ms' wg ws v x y : Nat} (h : WInv ms wg ws v x y) (h4 : 4 <= ms) (h4' : 4 <= ms') : v = 0 /\ wg = 0 /\ ws = 0 /\ WInv ms' wg ws v x y := by
 obtain ⟨r1, r2, r3, r4, r5⟩ := h.c h4
 exact ⟨r1, r4, r5, fun e => by omega, fun e => by omega, fun _ => ⟨r1, r2, r3, r4, r5⟩⟩
end
namespace Wt
set_option maxRecDepth 100000
open Rd
noncomputable def cM : Par := { main := true }
theorem cM_ok : cM.Ok := fun f d x h => by cases h
noncomputable def xHeadT (g : Goroutine) : Bool := match g.frame.todo with
 | .code (.block 1 _) :: .inLoop _ :: _ => g.frame.fn == 49
 | _ => false
noncomputable def cT : Par := { main := true, X := xHeadT }
noncomputable def cL : Par := { main := true, X := xLeave 49 }
section
variable (Wg : Nat) (fr : Frame) (cs : List Frame) (J : Nat -> Value)
noncomputable def g0 : Goroutine := endR Tryz.prog cM 60 (enter Tryz.prog 49 #[pA Wg] (fr :: cs))
theorem a0 : Run Tryz.prog cM 60 (enter Tryz.prog 49 #[pA Wg] (fr :: cs)) := ⟨fun w => by kernel_rfl, by kernel_rfl⟩
theorem b0 : isCall 68 (g0 Wg fr cs) = some [] := by kernel_rfl
noncomputable def gh : Goroutine := endR Tryz.prog cT 80 (fin (g0 Wg fr cs) (.tuple #[]))
theorem ah : Run Tryz.prog cT 80 (fin (g0 Wg fr cs) (.tuple #[])) := ⟨fun w => by kernel_rfl, by kernel_rfl⟩
def tmT : Array Value := ((List.range 84).map fun j => if j = 0 then pA Wg else J j).toArray
noncomputable def TH : Goroutine := { frame := { (gh Wg fr cs).frame with tmps := tmT Wg J }, callers := fr :: cs, status := .running, dying := none }
theorem hh : gh Wg fr cs = TH Wg fr cs (junk (gh Wg fr cs)) := by kernel_rfl
theorem rTH : isRun (TH Wg fr cs J) = true := by kernel_rfl
noncomputable def gn : Goroutine := nextQ Tryz.prog true (TH Wg fr cs J)
theorem en (w : World) : stepG Tryz.prog true (TH Wg fr cs J) w = .go (gn Wg fr cs J) w #[] := by kernel_rfl
noncomputable def g1 : Goroutine := endR Tryz.prog cM 80 (gn Wg fr cs J)
theorem a1 : Run Tryz.prog cM 80 (gn Wg fr cs J) := ⟨fun w => by kernel_rfl, by kernel_rfl⟩
theorem b1 : isCall 99 (g1 Wg fr cs J) = some [pA Wg] := by kernel_rfl
noncomputable def g2 : Goroutine := endR Tryz.prog cM 120 (fin (g1 Wg fr cs J) (.int .u64 0))
theorem a2 : Run Tryz.prog cM 120 (fin (g1 Wg fr cs J) (.int .u64 0)) := ⟨fun w => by kernel_rfl, by kernel_rfl⟩
theorem b2 : isCall 70 (g2 Wg fr cs J) = some [] := by kernel_rfl
noncomputable def g3 : Goroutine := endR Tryz.prog cM 60 (fin (g2 Wg fr cs J) (.tuple #[]))
theorem a3 : Run Tryz.prog cM 60 (fin (g2 Wg fr cs J) (.tuple #[])) := ⟨fun w => by kernel_rfl, by kernel_rfl⟩
theorem v3 : isConv Tryz.prog (g3 Wg fr cs J) = some ⟨Wg, 0, none⟩ := by kernel_rfl
noncomputable def g4 : Goroutine := endR Tryz.prog cM 60 (fin (g3 Wg fr cs J) (pA Wg))
theorem a4 : Run Tryz.prog cM 60 (fin (g3 Wg fr cs J) (pA Wg)) := ⟨fun w => by kernel_rfl, by kernel_rfl⟩
theorem b4 : isCall 71 (g4 Wg fr cs J) = some [pA Wg] := by kernel_rfl
noncomputable def g5 : Goroutine := endR Tryz.prog cL 120 (fin (g4 Wg fr cs J) (.tuple #[]))
theorem a5 : Run Tryz.prog cL 120 (fin (g4 Wg fr cs J) (.tuple #[])) := ⟨fun w => by kernel_rfl, by kernel_rfl⟩
noncomputable def back : Goroutine := { frame := fr.finish (.tuple #[]), callers := cs, status := .running, dying := none }
theorem e5 (w : World) : stepG Tryz.prog true (g5 Wg fr cs J) w = .go (back fr cs) w #[] := by kernel_rfl
def some8 : List Nat := [1, 2, 3, 4, 5, 6, 7, 8].map (· * 4294967296)
noncomputable def h2 (y : Nat) : Goroutine := endR Tryz.prog cM 200 (fin (g1 Wg fr cs J) (.int .u64 (y : Int)))
theorem s2 (w : World) : some8.map (fun (y : Nat) => seqR Tryz.prog cM 200 (fin (g1 Wg fr cs J) (.int .u64 (y : Int))) w) = some8.map (fun (y : Nat) => expR Tryz.prog cM 200 (fin (g1 Wg fr cs J) (.int .u64 (y : Int))) w) := by kernel_rfl
theorem o2' : some8.map (fun (y : Nat) => (okR Tryz.prog cM 200 (fin (g1 Wg fr cs J) (.int .u64 (y : Int))), isCall 100 (h2 Wg fr cs J y))) = some8.map (fun (y : Nat) => (true, some [pA Wg, .int .u64 (y : Int), .int .u64 ((y + 1 : Nat) : Int)])) := by kernel_rfl
noncomputable def hr (y : Nat) : Goroutine := endR Tryz.prog cT 120 (fin (h2 Wg fr cs J y) (.bool false))
theorem sr (w : World) : some8.map (fun (y : Nat) => seqR Tryz.prog cT 120 (fin (h2 Wg fr cs J y) (.bool false)) w) = some8.map (fun (y : Nat) => expR Tryz.prog cT 120 (fin (h2 Wg fr cs J y) (.bool false)) w) := by kernel_rfl
theorem or' : some8.map (fun (y : Nat) => (okR Tryz.prog cT 120 (fin (h2 Wg fr cs J y) (.bool false)), hr Wg fr cs J y)) = some8.map (fun (y : Nat) => (true, TH Wg fr cs (junk (hr Wg fr cs J y)))) := by kernel_rfl
end
end Wt
namespace Wt
set_option maxRecDepth 100000
open Rd
abbrev pS (Wg : Nat) : Value := .pointer (some ⟨Wg, 1, none⟩)
section
variable (Wg : Nat) (fr : Frame) (cs : List Frame) (J : Nat -> Value)
noncomputable def h3 (y : Nat) : Goroutine := endR Tryz.prog cM 120 (fin (h2 Wg fr cs J y) (.bool true))
theorem s3 (w : World) : some8.map (fun (y : Nat) => seqR Tryz.prog cM 120 (fin (h2 Wg fr cs J y) (.bool true)) w) = some8.map (fun (y : Nat) => expR Tryz.prog cM 120 (fin (h2 Wg fr cs J y) (.bool true)) w) := by kernel_rfl
theorem o3 : some8.map (fun (y : Nat) => (okR Tryz.prog cM 120 (fin (h2 Wg fr cs J y) (.bool true)), isConv Tryz.prog (h3 Wg fr cs J y))) = some8.map (fun (y : Nat) => (true, some (⟨Wg, 1, none⟩ : Addr))) := by kernel_rfl
noncomputable def h4 (y : Nat) : Goroutine := endR Tryz.prog cM 60 (fin (h3 Wg fr cs J y) (pS Wg))
theorem s4 (w : World) : some8.map (fun (y : Nat) => seqR Tryz.prog cM 60 (fin (h3 Wg fr cs J y) (pS Wg)) w) = some8.map (fun (y : Nat) => expR Tryz.prog cM 60 (fin (h3 Wg fr cs J y) (pS Wg)) w) := by kernel_rfl
theorem o4 : some8.map (fun (y : Nat) => (okR Tryz.prog cM 60 (fin (h3 Wg fr cs J y) (pS Wg)), isCall 75 (h4 Wg fr cs J y))) = some8.map (fun (y : Nat) => (true, some [pS Wg])) := by kernel_rfl
noncomputable def h5 (y : Nat) : Goroutine := endR Tryz.prog cM 120 (fin (h4 Wg fr cs J y) (.tuple #[]))
theorem s5 (w : World) : some8.map (fun (y : Nat) => seqR Tryz.prog cM 120 (fin (h4 Wg fr cs J y) (.tuple #[])) w) = some8.map (fun (y : Nat) => expR Tryz.prog cM 120 (fin (h4 Wg fr cs J y) (.tuple #[])) w) := by kernel_rfl
def tmQ : Array Value := ((List.range 84).map fun j => if j = 0 then pA Wg else if j = 70 then pS Wg else if j = 71 then .bool false else J j).toArray
noncomputable def TQ : Goroutine := { frame := { (h5 Wg fr cs (fun _ => undef) 4294967296).frame with tmps := tmQ Wg J }, callers := fr :: cs, status := .running, dying := none }
theorem o5 : some8.map (fun (y : Nat) => (okR Tryz.prog cM 120 (fin (h4 Wg fr cs J y) (.tuple #[])), h5 Wg fr cs J y)) = some8.map (fun (y : Nat) => (true, TQ Wg fr cs (junk (h5 Wg fr cs J y)))) := by kernel_rfl
theorem bQ : isCall 77 (TQ Wg fr cs J) = some [pS Wg, .bool false] := by kernel_rfl
theorem rQ : isRun (TQ Wg fr cs J) = true := by kernel_rfl
noncomputable def h6 : Goroutine := endR Tryz.prog cM 120 (fin (TQ Wg fr cs J) (.tuple #[]))
theorem a6 : Run Tryz.prog cM 120 (fin (TQ Wg fr cs J) (.tuple #[])) := ⟨fun w => by kernel_rfl, by kernel_rfl⟩
theorem b6 : isCall 99 (h6 Wg fr cs J) = some [pA Wg] := by kernel_rfl
noncomputable def h7 : Goroutine := endR Tryz.prog cM 120 (fin (h6 Wg fr cs J) (.int .u64 0))
theorem a7 : Run Tryz.prog cM 120 (fin (h6 Wg fr cs J) (.int .u64 0)) := ⟨fun w => by kernel_rfl, by kernel_rfl⟩
theorem b7 : isCall 70 (h7 Wg fr cs J) = some [] := by kernel_rfl
noncomputable def h8 : Goroutine := endR Tryz.prog cM 60 (fin (h7 Wg fr cs J) (.tuple #[]))
theorem a8 : Run Tryz.prog cM 60 (fin (h7 Wg fr cs J) (.tuple #[])) := ⟨fun w => by kernel_rfl, by kernel_rfl⟩
theorem v8 : isConv Tryz.prog (h8 Wg fr cs J) = some ⟨Wg, 0, none⟩ := by kernel_rfl
noncomputable def h9 : Goroutine := endR Tryz.prog cM 60 (fin (h8 Wg fr cs J) (pA Wg))
theorem a9 : Run Tryz.prog cM 60 (fin (h8 Wg fr cs J) (pA Wg)) := ⟨fun w => by kernel_rfl, by kernel_rfl⟩
theorem b9 : isCall 71 (h9 Wg fr cs J) = some [pA Wg] := by kernel_rfl
noncomputable def h10 : Goroutine := endR Tryz.prog cL 120 (fin (h9 Wg fr cs J) (.tuple #[]))
theorem a10 : Run Tryz.prog cL 120 (fin (h9 Wg fr cs J) (.tuple #[])) := ⟨fun w => by kernel_rfl, by kernel_rfl⟩
theorem e10 (w : World) : stepG Tryz.prog true (h10 Wg fr cs J) w = .go (back fr cs) w #[] := by kernel_rfl
end
end Wt
namespace St
set_option maxRecDepth 100000
open Rd
noncomputable def cM : Par := { main := true }
theorem cM_ok : cM.Ok := fun f d x h => by cases h
noncomputable def xHeadP (g : Goroutine) : Bool := match g.frame.todo with
 | .code (.seq _ _) :: .inLoop _ :: _ => g.frame.fn == 28
 | _ => false
section
variable (A : Adr) (tq : Option Addr) (n c W : Nat) (O : Nat) (cs : List Frame)
noncomputable def q0 : Goroutine := enter Tryz.prog 28 #[.slice tq n c, .int .i64 (W : Int)] cs
noncomputable def p0 : Goroutine := endR Tryz.prog cM 40 (q0 tq n c W cs)
theorem a0 : Run Tryz.prog cM 40 (q0 tq n c W cs) := ⟨fun w => by kernel_rfl, by kernel_rfl⟩
theorem b0 : isNew Tryz.prog (p0 tq n c W cs) = some (#[.slice tq n c], 44) := by kernel_rfl
noncomputable def oP : Orc := fun f d => bif f == 28 && d == 10 then some (.slice tq n c) else none
noncomputable def cP : Par := { main := true, O := oP tq n c }
noncomputable def p1 : Goroutine := endR Tryz.prog (cP tq n c) 40 (fin (p0 tq n c W cs) (pA A.T))
theorem a1 : Run Tryz.prog (cP tq n c) 40 (fin (p0 tq n c W cs) (pA A.T)) := ⟨fun w => by kernel_rfl, by kernel_rfl⟩
theorem l1 : ldsR Tryz.prog (cP tq n c) 40 (fin (p0 tq n c W cs) (pA A.T)) = [(28, ⟨A.T, 0, none⟩, .slice tq n c)] := by kernel_rfl
def isMake (g : Goroutine) : Option (TypeId × Value × Value) := match headO g with
 | some o => match o.op with
  | .makeSlice t x y => some (t, g.frame.eval x, g.frame.eval y)
  | _ => none
 | none => none
theorem b1 : isMake (p1 A tq n c W cs) = some (28, .int .i64 (n : Int), .int .i64 (n : Int)) := by kernel_rfl
abbrev outV : Value := .slice (some ⟨O, 0, none⟩) n n
noncomputable def p2 : Goroutine := endR Tryz.prog cM 40 (fin (p1 A tq n c W cs) (outV n O))
theorem a2 : Run Tryz.prog cM 40 (fin (p1 A tq n c W cs) (outV n O)) := ⟨fun w => by kernel_rfl, by kernel_rfl⟩
theorem b2 : isNew Tryz.prog (p2 A tq n c W O cs) = some (#[.slice none 0 0], 28) := by kernel_rfl
noncomputable def p3 : Goroutine := endR Tryz.prog cM 40 (fin (p2 A tq n c W O cs) (pA A.V))
theorem a3 : Run Tryz.prog cM 40 (fin (p2 A tq n c W O cs) (pA A.V)) := ⟨fun w => by kernel_rfl, by kernel_rfl⟩
theorem b3 : isStore Tryz.prog (p3 A tq n c W O cs) = some (⟨A.V, 0, none⟩, outV n O) := by kernel_rfl
noncomputable def p4 : Goroutine := endR Tryz.prog cM 40 (fin (p3 A tq n c W O cs) undef)
theorem a4 : Run Tryz.prog cM 40 (fin (p3 A tq n c W O cs) undef) := ⟨fun w => by kernel_rfl, by kernel_rfl⟩
theorem b4 : isNew Tryz.prog (p4 A tq n c W O cs) = some (#[.int .i64 0], 87) := by kernel_rfl
noncomputable def p5 : Goroutine := endR Tryz.prog cM 40 (fin (p4 A tq n c W O cs) (pA A.Nx))
theorem a5 : Run Tryz.prog cM 40 (fin (p4 A tq n c W O cs) (pA A.Nx)) := ⟨fun w => by kernel_rfl, by kernel_rfl⟩
theorem b5 : isNew Tryz.prog (p5 A tq n c W O cs) = some (#[.int .i32 0, .int .u32 0], 93) := by kernel_rfl
noncomputable def p6 : Goroutine := endR Tryz.prog cM 40 (fin (p5 A tq n c W O cs) (pA A.Mu))
theorem a6 : Run Tryz.prog cM 40 (fin (p5 A tq n c W O cs) (pA A.Mu)) := ⟨fun w => by kernel_rfl, by kernel_rfl⟩
theorem b6 : isNew Tryz.prog (p6 A tq n c W O cs) = some (#[.int .u64 0, .int .u32 0], 98) := by kernel_rfl
noncomputable def p7 : Goroutine := endR Tryz.prog cM 40 (fin (p6 A tq n c W O cs) (pA A.Wg))
theorem a7 : Run Tryz.prog cM 40 (fin (p6 A tq n c W O cs) (pA A.Wg)) := ⟨fun w => by kernel_rfl, by kernel_rfl⟩
noncomputable def z67 : Array Value := match isNew Tryz.prog (p7 ⟨0,0,0,0,0,0,0,0⟩ none 0 0 0 0 []) with | some x => x.1 | none => #[]
theorem b7 : isNew Tryz.prog (p7 A tq n c W O cs) = some (z67, 99) := by kernel_rfl
noncomputable def p8 : Goroutine := endR Tryz.prog cM 40 (fin (p7 A tq n c W O cs) (pA A.S))
theorem a8 : Run Tryz.prog cM 40 (fin (p7 A tq n c W O cs) (pA A.S)) := ⟨fun w => by kernel_rfl, by kernel_rfl⟩
theorem b8 : isStore Tryz.prog (p8 A tq n c W O cs) = some (⟨A.S, 0, none⟩, stoV A) := by kernel_rfl
noncomputable def cH : Par := { main := true, X := xHeadP }
noncomputable def p9 : Goroutine := endR Tryz.prog cH 60 (fin (p8 A tq n c W O cs) undef)
theorem a9 : Run Tryz.prog cH 60 (fin (p8 A tq n c W O cs) undef) := ⟨fun w => by kernel_rfl, by kernel_rfl⟩
end
end St
namespace St
set_option maxRecDepth 100000
open Rd
section
variable (A : Adr) (tq : Option Addr) (n c W : Nat) (O : Nat) (cs : List Frame) (J : Nat -> Value) (i : Nat)
def tmP : Array Value := ((List.range 22).map fun j => if j = 2 then pA A.T else if j = 5 then pA A.V else if j = 6 then pA A.Nx else if j = 7 then pA A.Mu else if j = 8 then pA A.Wg else if j = 9 then pA A.S else if j = 14 then .int .i64 (W : Int) else if j = 15 then .int .i64 (i : Int) else J j).toArray
noncomputable def PH : Goroutine := { frame := { (p9 A tq n c W O cs).frame with tmps := tmP A W J i }, callers := cs, status := .running, dying := none }
theorem h9 : p9 A tq n c W O cs = PH A tq n c W O cs (junk (p9 A tq n c W O cs)) 0 := by kernel_rfl
theorem rPH : isRun (PH A tq n c W O cs J i) = true := by kernel_rfl
noncomputable def u0 : Goroutine := nextQ Tryz.prog true (PH A tq n c W O cs J i)
theorem eU0 (w : World) : stepG Tryz.prog true (PH A tq n c W O cs J i) w = .go (u0 A tq n c W O cs J i) w #[] := by kernel_rfl
noncomputable def vP (b : Bool) (f : FuncId) (d : Nat) : Option (Value × Value) := bif f == 28 && d == 16 then some (.bool b, .bool (decide ((i : Int) < (W : Int)))) else none
theorem vP_ok {b : Bool} (h : decide ((i : Int) < (W : Int)) = b) {f : FuncId} {d : Nat} {z : Value × Value} (hz : vP W i b f d = some z) : z.1 = z.2 := by
 unfold vP at hz
 cases e1 : (f == 28 && d == 16) with
 | true => rw [e1, cond_true] at hz; cases hz; simp only [h]
 | false => rw [e1, cond_false] at hz; cases hz
noncomputable def cV (b : Bool) (X : Goroutine -> Bool) : Par := { main := true, V := vP W i b, X := X }
noncomputable def u1 : Goroutine := endR Tryz.prog (cV W i true fun _ => false) 60 (u0 A tq n c W O cs J i)
theorem aU1 : Run Tryz.prog (cV W i true fun _ => false) 60 (u0 A tq n c W O cs J i) := ⟨fun w => by kernel_rfl, by kernel_rfl⟩
theorem bU1 : isNew Tryz.prog (u1 A tq n c W O cs J i) = some (#[pA A.Wg], 108) := by kernel_rfl
noncomputable def u2 : Goroutine := endR Tryz.prog cM 20 (fin (u1 A tq n c W O cs J i) (pA A.bw))
theorem aU2 : Run Tryz.prog cM 20 (fin (u1 A tq n c W O cs J i) (pA A.bw)) := ⟨fun w => by kernel_rfl, by kernel_rfl⟩
theorem bU2 : isNew Tryz.prog (u2 A tq n c W O cs J i) = some (#[wrkV A], 1) := by kernel_rfl
noncomputable def oU : Orc := fun f d => bif f == 45 && d == 4 then some (pA A.Wg) else none
noncomputable def cU : Par := { main := true, O := oU A }
noncomputable def u3 : Goroutine := endR Tryz.prog (cU A) 60 (fin (u2 A tq n c W O cs J i) (pA A.bf))
theorem aU3 : Run Tryz.prog (cU A) 60 (fin (u2 A tq n c W O cs J i) (pA A.bf)) := ⟨fun w => by kernel_rfl, by kernel_rfl⟩
theorem lU3 : ldsR Tryz.prog (cU A) 60 (fin (u2 A tq n c W O cs J i) (pA A.bf)) = [(45, ⟨A.bw, 0, none⟩, pA A.Wg)] := by kernel_rfl
theorem bU3 : isCall 68 (u3 A tq n c W O cs J i) = some [] := by kernel_rfl
noncomputable def u4 : Goroutine := endR Tryz.prog cM 60 (fin (u3 A tq n c W O cs J i) (.tuple #[]))
theorem aU4 : Run Tryz.prog cM 60 (fin (u3 A tq n c W O cs J i) (.tuple #[])) := ⟨fun w => by kernel_rfl, by kernel_rfl⟩
theorem bU4 : isCall 76 (u4 A tq n c W O cs J i) = some [] := by kernel_rfl
noncomputable def u5 : Goroutine := endR Tryz.prog cM 60 (fin (u4 A tq n c W O cs J i) (.bool false))
theorem aU5 : Run Tryz.prog cM 60 (fin (u4 A tq n c W O cs J i) (.bool false)) := ⟨fun w => by kernel_rfl, by kernel_rfl⟩
theorem bU5 : isCall 112 (u5 A tq n c W O cs J i) = some [pA A.Wg, .int .u64 4294967296] := by kernel_rfl
noncomputable def u6 : Goroutine := endR Tryz.prog cM 120 (fin (u5 A tq n c W O cs J i) (.int .u64 4294967296))
theorem aU6 : Run Tryz.prog cM 120 (fin (u5 A tq n c W O cs J i) (.int .u64 4294967296)) := ⟨fun w => by kernel_rfl, by kernel_rfl⟩
theorem vU6 : isConv Tryz.prog (u6 A tq n c W O cs J i) = some ⟨A.Wg, 1, none⟩ := by kernel_rfl
noncomputable def u7 : Goroutine := endR Tryz.prog cM 60 (fin (u6 A tq n c W O cs J i) (.pointer (some ⟨A.Wg, 1, none⟩)))
theorem aU7 : Run Tryz.prog cM 60 (fin (u6 A tq n c W O cs J i) (.pointer (some ⟨A.Wg, 1, none⟩))) := ⟨fun w => by kernel_rfl, by kernel_rfl⟩
theorem bU7 : isCall 96 (u7 A tq n c W O cs J i) = some [.pointer (some ⟨A.Wg, 1, none⟩)] := by kernel_rfl
noncomputable def u8 : Goroutine := endR Tryz.prog cM 120 (fin (u7 A tq n c W O cs J i) (.tuple #[]))
theorem aU8 : Run Tryz.prog cM 120 (fin (u7 A tq n c W O cs J i) (.tuple #[])) := ⟨fun w => by kernel_rfl, by kernel_rfl⟩
noncomputable def u8' (y : Nat) : Goroutine := endR Tryz.prog cM 200 (fin (u5 A tq n c W O cs J i) (.int .u64 (y : Int)))
def some7 : List Nat := [2, 3, 4, 5, 6, 7, 8].map (· * 4294967296)
theorem sU8 (w : World) : some7.map (fun (y : Nat) => seqR Tryz.prog cM 200 (fin (u5 A tq n c W O cs J i) (.int .u64 (y : Int))) w) = some7.map (fun (y : Nat) => expR Tryz.prog cM 200 (fin (u5 A tq n c W O cs J i) (.int .u64 (y : Int))) w) := by kernel_rfl
theorem oU8 : some7.map (fun (y : Nat) => okR Tryz.prog cM 200 (fin (u5 A tq n c W O cs J i) (.int .u64 (y : Int)))) = some7.map (fun (y : Nat) => true) := by kernel_rfl
noncomputable def u9 (g : Goroutine) : Goroutine := match stepG Tryz.prog true g default with
 | .go g' _ _ => g'
 | _ => g
theorem eU9 (w : World) : stepG Tryz.prog true (u8 A tq n c W O cs J i) w = .go (u9 (u8 A tq n c W O cs J i)) w #[⟨.mark .enable, false, true⟩] := by kernel_rfl
theorem eU9' (w : World) : some7.map (fun (y : Nat) => stepG Tryz.prog true (u8' A tq n c W O cs J i y) w) = some7.map (fun (y : Nat) => .go (u9 (u8' A tq n c W O cs J i y)) w #[⟨.mark .enable, false, true⟩]) := by kernel_rfl
noncomputable def uA : Goroutine := endR Tryz.prog cM 60 (u9 (u8 A tq n c W O cs J i))
theorem aUA : Run Tryz.prog cM 60 (u9 (u8 A tq n c W O cs J i)) := ⟨fun w => by kernel_rfl, by kernel_rfl⟩
theorem sUA (w : World) : some7.map (fun (y : Nat) => seqR Tryz.prog cM 60 (u9 (u8' A tq n c W O cs J i y)) w) = some7.map (fun (y : Nat) => expR Tryz.prog cM 60 (u9 (u8' A tq n c W O cs J i y)) w) := by kernel_rfl
theorem oUA : some7.map (fun (y : Nat) => (okR Tryz.prog cM 60 (u9 (u8' A tq n c W O cs J i y)), endR Tryz.prog cM 60 (u9 (u8' A tq n c W O cs J i y)))) = some7.map (fun (y : Nat) => (true, uA A tq n c W O cs J i)) := by kernel_rfl
noncomputable def uB : Goroutine := match stepG Tryz.prog true (uA A tq n c W O cs J i) default with
 | .spawn g' _ _ _ => g'
 | _ => uA A tq n c W O cs J i
theorem eUB (w : World) : stepG Tryz.prog true (uA A tq n c W O cs J i) w = .spawn (uB A tq n c W O cs J i) (Rd.gC0 A) w #[] := by kernel_rfl
noncomputable def vN (f : FuncId) (d : Nat) : Option (Value × Value) := bif f == 28 && d == 19 then some (.int .i64 ((i + 1 : Nat) : Int), .int .i64 (IntKind.i64.wrap ((i : Int) + 1))) else none
theorem vN_ok (h : i <= 8) {f : FuncId} {d : Nat} {z : Value × Value} (hz : vN i f d = some z) : z.1 = z.2 := by
 unfold vN at hz
 cases e1 : (f == 28 && d == 19) with
 | true =>
  rw [e1, cond_true] at hz; cases hz
  have h9 : ∀ j : Fin 9, IntKind.i64.wrap ((j.val : Int) + 1) = ((j.val + 1 : Nat) : Int) := by decide
  exact congrArg (Value.int .i64) (h9 ⟨i, by omega⟩).symm
 | false => rw [e1, cond_false] at hz; cases hz
noncomputable def cN : Par := { main := true, V := vN i, X := xHeadP }
noncomputable def uC : Goroutine := endR Tryz.prog (cN i) 60 (uB A tq n c W O cs J i)
theorem aUC : Run Tryz.prog (cN i) 60 (uB A tq n c W O cs J i) := ⟨fun w => by kernel_rfl, by kernel_rfl⟩
theorem hUC : uC A tq n c W O cs J i = PH A tq n c W O cs (junk (uC A tq n c W O cs J i)) (i + 1) := by kernel_rfl
noncomputable def uW : Goroutine := endR Tryz.prog (cV W i false (xCall 49)) 60 (u0 A tq n c W O cs J i)
theorem aUW : Run Tryz.prog (cV W i false (xCall 49)) 60 (u0 A tq n c W O cs J i) := ⟨fun w => by kernel_rfl, by kernel_rfl⟩
theorem bUW : isCall 49 (uW A tq n c W O cs J i) = some [pA A.Wg] := by kernel_rfl
end
end St
theorem x74 : ExtF Tryz.prog 100 (Extern.Atomic.casT (.int .u64)) := ⟨Tryz.f100, by kernel_rfl, by kernel_rfl, by kernel_rfl, by kernel_rfl, by kernel_rfl⟩
theorem x56 : ExtF Tryz.prog 75 (Extern.Race.marked .write) := ⟨Tryz.f75, by kernel_rfl, by kernel_rfl, by kernel_rfl, by kernel_rfl, by kernel_rfl⟩
theorem x70 : ExtF Tryz.prog 96 (Extern.Race.marked .read) := ⟨Tryz.f96, by kernel_rfl, by kernel_rfl, by kernel_rfl, by kernel_rfl, by kernel_rfl⟩
theorem x58 : ExtF Tryz.prog 77 Extern.Sync.semacquire := ⟨Tryz.f77, by kernel_rfl, by kernel_rfl, by kernel_rfl, by kernel_rfl, by kernel_rfl⟩
section
variable {E : Env} {P : Program} {C : Nat} {σ σ' : Gh} {w w' : World} {WStop : Nat -> Gh -> Goroutine -> World -> Prop} {Stop : Gh -> Goroutine -> World -> Prop}
structure KeepM (E : Env) (σ : Gh) (w : World) (σ' : Gh) (w' : World) : Prop where
 j : J E σ' w'
 num : σ'.num = σ.num
 dm : σ'.dm <= σ.dm
 hs : σ.hs <= σ'.hs
 pv : ∀ b, b < σ.hs -> σ'.pv b = σ.pv b
 mem : ∀ b, b < σ.hs -> ¬ E.Hot b -> σ.pv b = 0 -> w'.heap[b]? = w.heap[b]?
 cnt : c5 σ'.num σ'.wk <= c5 σ.num σ.wk
theorem R0.keep (h : R0 E σ w σ' w') : KeepM E σ w σ' w' := ⟨h.j, h.num, Nat.le_of_eq h.dm, h.hs, h.pv, h.mem, h.cnt⟩
theorem KeepM.trans {a b c : Gh} {u v x : World} (h1 : KeepM E a u b v) (h2 : KeepM E b v c x) : KeepM E a u c x :=
 have hs1 := h1.hs
 ⟨h2.j, h2.num.trans h1.num, Nat.le_trans h2.dm h1.dm, Nat.le_trans hs1 h2.hs, fun b hb => (h2.pv b (by omega)).trans (h1.pv b hb), fun b hb hh hp => (h2.mem b (by omega) hh ((h1.pv b hb).trans hp)).trans (h1.mem b hb hh hp), Nat.le_trans h2.cnt h1.cnt⟩
theorem GoesM.sub {Pr : Proto Gh} {n F : Nat} {g : Goroutine} (h : F <= n) (H : GoesM P Pr C WStop Stop (n - F + F) σ g w) : GoesM P Pr C WStop Stop n σ g w := by rwa [Nat.sub_add_cancel h] at H
theorem run0M {c : Par} (hv : c.Ok) {F m : Nat} {g : Goroutine} (hR : Run P c F g) (hJ : J E σ w) (h : ∀ σ₁ w₁, R0 E σ w σ₁ w₁ -> GoesM P (proto E P) C WStop Stop m σ₁ (endR P c F g) w₁) (hc : c.main = true := by rfl) (ho : c.O = noOrc := by rfl) : GoesM P (proto E P) C WStop Stop (m + F) σ g w :=
 runM hc hv F hR hJ (by rw [ldsR_none ho]; intro x hx; cases hx) h
theorem oneM {m : Nat} {g g' : Goroutine} (hs : ∀ w, stepG P true g w = .go g' w #[]) (hr : isRun g = true) (hr' : isRun g' = true)
  (h : ∀ σ₁ w₁, R0 E σ w σ₁ w₁ -> GoesM P (proto E P) C WStop Stop m σ₁ g' w₁) : GoesM P (proto E P) C WStop Stop (m + 1) σ g w :=
 stepM hr fun σ₁ w₁ hw => ⟨_, w₁, #[], σ₁, hs w₁, D0.quiet hw.j (isRun_out hr').1, h σ₁ w₁ hw⟩
theorem convM {m : Nat} {g : Goroutine} {a : Addr} {v : Gh -> Value} (hg : isConv P g = some a) (hc : ∀ {σ : Gh} {w : World}, J E σ w -> w.cell? a = some (v σ)) (hr : isRun g = true)
  (h : ∀ σ₁ w₁, R0 E σ w σ₁ w₁ -> GoesM P (proto E P) C WStop Stop m σ₁ (fin g (.pointer (some a))) w₁) : GoesM P (proto E P) C WStop Stop (m + 1) σ g w :=
 stepM hr fun σ₁ w₁ hw => ⟨_, w₁, #[], σ₁, step_conv hg (hc hw.j), D0.quiet hw.j (isRun_out ((isRun_fin _ _).trans hr)).1, h σ₁ w₁ hw⟩
theorem pureM {m : Nat} {g : Goroutine} {f : FuncId} {vs : List Value} {v : Value} (hg : isCall f g = some vs) (hf : ExtF P f (fun _ => pure v)) (hr : isRun g = true)
  (h : ∀ σ₁ w₁, R0 E σ w σ₁ w₁ -> GoesM P (proto E P) C WStop Stop m σ₁ (fin g v) w₁) : GoesM P (proto E P) C WStop Stop (m + 1) σ g w :=
 stepM hr fun σ₁ w₁ hw => ⟨_, w₁, #[], σ₁, step_ext hg hf (by rfl) (by rfl) (by simp), D0.quiet hw.j (isRun_out ((isRun_fin _ _).trans hr)).1, h σ₁ w₁ hw⟩
theorem ev0_said (hJ' : J E σ' w') (mk : Addr -> Mark) (hm : mk = .read \/ mk = .write) : ∀ e ∈ (#[⟨.mark (mk (smA E)), false, true⟩] : Array Event), Ev0 E σ σ' e := fun e he => by
 simp only [List.mem_toArray, List.mem_cons, List.not_mem_nil, or_false] at he
 subst he
 rcases hm with rfl | rfl
 · exact ⟨by simp, hJ'.hotLt (.inr (.inr rfl)), fun y hy => by
    simp only [MemAct.ofEvent, MemAct.touch?, Option.some.injEq] at hy
    subst hy
    exact .inl ⟨⟨smA E, rfl, .inr (.inr rfl)⟩, by simp⟩⟩
 · exact ⟨by simp, hJ'.hotLt (.inr (.inr rfl)), fun y hy => by
    simp only [MemAct.ofEvent, MemAct.touch?, Option.some.injEq] at hy
    subst hy
    exact .inl ⟨⟨smA E, rfl, .inr (.inr rfl)⟩, by simp⟩⟩
theorem J.st (hE : E.Ok) (hJ : J E σ w) {ms d wg ws : Nat} (hW : WInv ms wg ws (c5 σ.num σ.wk) (c43 σ.num σ.wk) (c2 σ.num σ.wk)) (hw : Same E w w') (h4 : Four E (σ.st ms d wg ws) w') : J E (σ.st ms d wg ws) w' :=
 J.turn hE hJ hw h4 (hJ.inv.st hW) hJ.acc rfl rfl rfl
theorem KeepM.st (hE : E.Ok) (hJ : J E σ w) {ms d wg ws : Nat} (hW : WInv ms wg ws (c5 σ.num σ.wk) (c43 σ.num σ.wk) (c2 σ.num σ.wk)) (hw : Same E w w') (h4 : Four E (σ.st ms d wg ws) w') : KeepM E σ w (σ.st ms d wg ws) w' :=
 ⟨hJ.st hE hW hw h4, rfl, Nat.le_refl _, Nat.le_refl _, fun _ _ => rfl, fun b _ hb _ => hw.mem b hb, Nat.le_refl _⟩
theorem stop_st' (hE : E.Ok) {m : Nat} {g : Goroutine} (hr : isRun g = true)
  (h : ∀ σ₁ w₁, R0 E σ w σ₁ w₁ -> ∃ g' w' es ms d wg ws, stepG P true g w₁ = .go g' w' es /\ WInv ms wg ws (c5 σ₁.num σ₁.wk) (c43 σ₁.num σ₁.wk) (c2 σ₁.num σ₁.wk) /\ Same E w₁ w' /\ Four E (σ₁.st ms d wg ws) w' /\ isRun g' = true /\ (J E (σ₁.st ms d wg ws) w' -> ∀ e ∈ es, Ev0 E σ₁ (σ₁.st ms d wg ws) e) /\ deafBehind σ₁.mdf es = d /\ ws <= σ₁.ws /\ (ms = 5 -> σ₁.ms = 5 \/ (σ₁.ms = 4 /\ es = #[Go.ConcR.mk (.acquire (stA E))] /\ σ₁.mdf = 0)) /\
   (KeepM E σ w (σ₁.st ms d wg ws) w' -> GoesM P (proto E P) C WStop Stop m (σ₁.st ms d wg ws) g' w')) : GoesM P (proto E P) C WStop Stop (m + 1) σ g w :=
 stop_st hE hr fun σ₁ w₁ hw => by
  obtain ⟨g', w', es, ms, d, wg, ws, h1, h2, h3, h4, h5, h6, h7, h8, h9, h10⟩ := h σ₁ w₁ hw
  exact ⟨g', w', es, ms, d, wg, ws, h1, h2, h3, h4, h5, h6 (hw.j.st hE h2 h3 h4), h7, h8, h9, h10 (hw.keep.trans (.st hE hw.j h2 h3 h4))⟩
theorem book0 (hJ' : J E σ' w') {es : Array Event} (h : ∀ e ∈ es, Book E e) : ∀ e ∈ es, Ev0 E σ σ' e := fun e he => (h e he).ev0 hJ'
theorem sem_bookM : ∀ e ∈ semEvents (smA E), Book E e := fun e he => by
 simp only [semEvents, List.mem_toArray, List.mem_cons, List.not_mem_nil, or_false] at he
 rcases he with rfl | rfl | rfl | rfl
 · exact .dis
 · exact .at_ _ _ (.inr (.inr rfl))
 · exact .at_ _ _ (.inr (.inr rfl))
 · exact .en
theorem book_cells (wr : List Bool) : ∀ e ∈ (wr.map fun x => (⟨.cell (stA E), x, true⟩ : Event)).toArray, Book E e := fun e he => by
 obtain ⟨x, _, rfl⟩ := List.mem_map.1 (List.mem_toArray.1 he)
 exact .at_ _ _ (.inr (.inr rfl))
theorem one_ev {e' : Event} {Q : Event -> Prop} (h : Q e') : ∀ e ∈ (#[e'] : Array Event), Q e := fun e he => by
 simp only [List.mem_toArray, List.mem_cons, List.not_mem_nil, or_false] at he
 subst he; exact h
theorem Four.toSt {x ms d : Nat} {wk : Nat -> Wk} (h : Four E { σ with wg := x, wk := wk, ms := ms } w) : Four E (σ.st ms d x σ.ws) w := ⟨h.mu, h.nx, h.wg, h.o⟩
theorem Four.toSm {x ms d : Nat} {wk : Nat -> Wk} (h : Four E { σ with ws := x, wk := wk, ms := ms } w) : Four E (σ.st ms d σ.wg x) w := ⟨h.mu, h.nx, h.wg, h.o⟩
theorem J.fourSt (h : J E σ w) {ms d : Nat} : Four E (σ.st ms d σ.wg σ.ws) w := ⟨h.mu, h.nx, h.wg, h.o⟩
end
section
variable {E : Env} {C : Nat} {σ : Gh} {w : World} {WStop : Nat -> Gh -> Goroutine -> World -> Prop} {Stop : Gh -> Goroutine -> World -> Prop} {fr : Frame} {cs : List Frame}
abbrev GM (E : Env) (C : Nat) (WStop : Nat -> Gh -> Goroutine -> World -> Prop) (Stop : Gh -> Goroutine -> World -> Prop) (m : Nat) (σ : Gh) (g : Goroutine) (w : World) : Prop := GoesM Tryz.prog (proto E Tryz.prog) C WStop Stop m σ g w
theorem thru_m (hE : E.Ok) {m : Nat} {ga gb gc gd : Goroutine} (R1 : Run Tryz.prog Wt.cM 60 (fin ga (.tuple #[]))) (e1 : endR Tryz.prog Wt.cM 60 (fin ga (.tuple #[])) = gb) (b1 : isCall 70 ga = some [])
  (v2 : isConv Tryz.prog gb = some (stA E)) (R2 : Run Tryz.prog Wt.cM 60 (fin gb (.pointer (some (stA E))))) (e2 : endR Tryz.prog Wt.cM 60 (fin gb (.pointer (some (stA E)))) = gc) (b3 : isCall 71 gc = some [.pointer (some (stA E))])
  (R3 : Run Tryz.prog Wt.cL 120 (fin gc (.tuple #[]))) (e3 : endR Tryz.prog Wt.cL 120 (fin gc (.tuple #[])) = gd) (e4 : ∀ w, stepG Tryz.prog true gd w = .go (Wt.back fr cs) w #[])
  (hJ : J E σ w) (hms : σ.ms = 4) (hdf : σ.mdf = 1)
  (hcont : ∀ σ' w', KeepM E σ w σ' w' -> σ'.ms = 5 -> σ'.mdf = 0 -> GM E C WStop Stop m σ' (Wt.back fr cs) w') : GM E C WStop Stop (m + 300) σ ga w := by
 have r1 : isRun ga = true := by have := R1.head; rwa [isRun_fin] at this
 refine GoesM.sub (F := 1) (by omega) (stop_st' hE r1 fun σ₁ w₁ hw1 => ⟨_, w₁, _, 4, 0, σ₁.wg, σ₁.ws, step_mark .enable (by simp) b1 x51, ?_, .refl, hw1.j.fourSt, R1.head, fun J' => book0 J' (one_ev .en), by rw [hw1.mdf, hdf]; rfl, Nat.le_refl _, fun e => by omega, fun hK1 => ?_⟩)
 · have := hw1.j.inv.wgi
   rw [hw1.ms, hms] at this
   exact this
 have hms1 : (σ₁.st 4 0 σ₁.wg σ₁.ws).ms = 4 := rfl
 have hmd1 : (σ₁.st 4 0 σ₁.wg σ₁.ws).mdf = 0 := rfl
 generalize σ₁.st 4 0 σ₁.wg σ₁.ws = τ1 at *
 refine GoesM.sub (F := 60) (by omega) (run0M Wt.cM_ok R1 hK1.j fun σ₂ w₂ hw2 => ?_)
 rw [e1]
 refine GoesM.sub (F := 1) (by omega) (convM (v := fun σ => .int .u64 (σ.wg : Int)) v2 (fun hJ => hJ.cellSt) (by rw [<- e1]; exact R1.last) fun σ₃ w₃ hw3 => ?_)
 refine GoesM.sub (F := 60) (by omega) (run0M Wt.cM_ok R2 hw3.j fun σ₄ w₄ hw4 => ?_)
 rw [e2]
 have hw14 := (hw2.trans hw3).trans hw4
 refine GoesM.sub (F := 1) (by omega) (stop_st' hE (by rw [<- e2]; exact R2.last) fun σ₅ w₅ hw5 => ⟨_, w₅, _, 5, 0, σ₅.wg, σ₅.ws, step_markAt .acquire (by simp) b3 x52, ?_, .refl, hw5.j.fourSt, R3.head, fun J' => book0 J' (one_ev (.acq _ (.inr (.inr rfl)))), ?_, Nat.le_refl _, fun _ => .inr ⟨?_, rfl, ?_⟩, fun hK5 => ?_⟩)
 · have h := hw5.j.inv.wgi
   rw [hw5.ms, hw14.ms, hms1] at h
   exact (h.thru (by omega) (by omega)).2.2.2
 · rw [hw5.mdf, hw14.mdf, hmd1]; rfl
 · rw [hw5.ms, hw14.ms, hms1]
 · rw [hw5.mdf, hw14.mdf, hmd1]
 have hK05 := (hK1.trans hw14.keep).trans hK5
 have hms5 : (σ₅.st 5 0 σ₅.wg σ₅.ws).ms = 5 := rfl
 have hmd5 : (σ₅.st 5 0 σ₅.wg σ₅.ws).mdf = 0 := rfl
 generalize σ₅.st 5 0 σ₅.wg σ₅.ws = τ5 at *
 refine GoesM.sub (F := 120) (by omega) (run0M (by intro f d x h; cases h) R3 hK05.j fun σ₆ w₆ hw6 => ?_)
 rw [e3]
 refine GoesM.sub (F := 1) (by omega) (oneM e4 (by rw [<- e3]; exact R3.last) (by rfl) fun σ₇ w₇ hw7 => ?_)
 have hw57 := hw6.trans hw7
 exact (hcont σ₇ w₇ (hK05.trans hw57.keep) (by rw [hw57.ms, hms5]) (by rw [hw57.mdf, hmd5])).mono (by omega)
theorem some8_mem {v : Nat} (h1 : 1 <= v) (h8 : v <= 8) : v * 4294967296 ∈ Wt.some8 := by
 have : ∀ v : Fin 9, 1 <= v.val -> v.val * 4294967296 ∈ Wt.some8 := by decide
 exact this ⟨v, by omega⟩ h1
theorem c5_le8' {n : Nat} {wk : Nat -> Wk} (h : n <= 8) : c5 n wk <= 8 := by
 have : c5 n wk <= n := by
  unfold c5
  clear h
  induction n with
  | zero => exact Nat.le_refl _
  | succ n ih => simp only [sumTo]; split <;> omega
 omega
set_option maxHeartbeats 1000000 in
theorem wait_m (hE : E.Ok) {m : Nat} {σ0 : Gh} {w0 : World}
  (hcont : ∀ σ' w', KeepM E σ0 w0 σ' w' -> σ'.ms = 5 -> σ'.mdf = 0 -> GM E C WStop Stop m σ' (Wt.back fr cs) w') : ∀ (v : Nat) (J' : Nat -> Value) (σ : Gh) (w : World), KeepM E σ0 w0 σ w -> (σ.ms = 0 \/ σ.ms = 2) -> σ.mdf = 1 -> c5 σ.num σ.wk <= v ->
   GM E C WStop Stop (m + 1200 * (v + 1)) σ (Wt.TH E.Wg fr cs J') w := by
 intro v
 induction v using Nat.strongRecOn with
 | _ v ih =>
  intro J' σ w hK hms hdf hv
  refine GoesM.sub (F := 1) (by omega) (oneM (Wt.en E.Wg fr cs J') (Wt.rTH E.Wg fr cs J') (Wt.a1 E.Wg fr cs J').head fun σ₁ w₁ hw1 => ?_)
  refine GoesM.sub (F := 80) (by omega) (run0M Wt.cM_ok (Wt.a1 E.Wg fr cs J') hw1.j fun σ₂ w₂ hw2 => ?_)
  show GM E C WStop Stop _ σ₂ (Wt.g1 E.Wg fr cs J') w₂
  have hw02 := hw1.trans hw2
  have hK2 := hK.trans hw02.keep
  refine GoesM.sub (F := 1) (by omega) (stop_st' hE (Wt.a1 E.Wg fr cs J').last fun σ₃ w₃ hw3 => ?_)
  have hw03 := hw02.trans hw3
  have hW := hw3.j.inv.wgi
  have hm3 : σ₃.ms = 0 \/ σ₃.ms = 2 := by rw [hw03.ms]; exact hms
  have hd3 : σ₃.mdf = 1 := by rw [hw03.mdf]; exact hdf
  have hst := step_loadA (P := Tryz.prog) (main := true) (Wt.b1 E.Wg fr cs J') x73 hw3.j.cellSt
  obtain ⟨hwg, hws0, hW2⟩ := hW.look hm3
  by_cases hz : σ₃.wg = 0
  ·
   obtain ⟨_, hW4⟩ := hW.none hm3 hz
   rw [hz] at hst
   refine ⟨_, w₃, _, 4, 1, σ₃.wg, σ₃.ws, hst, hW4, .refl, hw3.j.fourSt, (Wt.a2 E.Wg fr cs J').head, fun J2 => book0 J2 (one_ev (.at_ _ _ (.inr (.inr rfl)))), by rw [hd3]; rfl, Nat.le_refl _, fun e => by omega, fun hK3 => ?_⟩
   clear hst
   have hK03 := hK2.trans hK3
   have hms4 : (σ₃.st 4 1 σ₃.wg σ₃.ws).ms = 4 := rfl
   have hmd4 : (σ₃.st 4 1 σ₃.wg σ₃.ws).mdf = 1 := rfl
   generalize σ₃.st 4 1 σ₃.wg σ₃.ws = τ3 at *
   refine GoesM.sub (F := 120) (by omega) (run0M Wt.cM_ok (Wt.a2 E.Wg fr cs J') hK3.j fun σ₄ w₄ hw4 => ?_)
   refine (thru_m (m := m) hE (Wt.a3 E.Wg fr cs J') rfl (Wt.b2 E.Wg fr cs J') (Wt.v3 E.Wg fr cs J') (Wt.a4 E.Wg fr cs J') rfl (Wt.b4 E.Wg fr cs J') (Wt.a5 E.Wg fr cs J') rfl (Wt.e5 E.Wg fr cs J') hw4.j (by rw [hw4.ms, hms4]) (by rw [hw4.mdf, hmd4]) fun σ' w' hK' h5 h0 => hcont σ' w' ((hK03.trans hw4.keep).trans hK') h5 h0).mono (by omega)
  ·
   have hv1 : 1 <= c5 σ₃.num σ₃.wk := by
    rcases Nat.eq_zero_or_pos (c5 σ₃.num σ₃.wk) with h0 | h0
    · rw [h0] at hwg; omega
    · exact h0
   have hv8 : c5 σ₃.num σ₃.wk <= 8 := c5_le8' hw3.j.inv.num
   have hcv : c5 σ₃.num σ₃.wk <= v := Nat.le_trans hw03.cnt hv
   have hmem : σ₃.wg ∈ Wt.some8 := by rw [hwg]; exact some8_mem hv1 hv8
   generalize hy : σ₃.wg = y at *
   have o2 := map_all (Wt.o2' E.Wg fr cs J') y hmem
   simp only [Prod.mk.injEq] at o2
   have R2 : Run Tryz.prog Wt.cM 200 (fin (Wt.g1 E.Wg fr cs J') (.int .u64 (y : Int))) := ⟨fun w => map_all (Wt.s2 E.Wg fr cs J' w) y hmem, o2.1⟩
   refine ⟨_, w₃, _, 2, 1, y, σ₃.ws, hst, hW2, .refl, by rw [<- hy]; exact hw3.j.fourSt, R2.head, fun J2 => book0 J2 (one_ev (.at_ _ _ (.inr (.inr rfl)))), by rw [hd3]; rfl, Nat.le_refl _, fun e => by omega, fun hK3 => ?_⟩
   clear hst
   have hK03 := hK2.trans hK3
   have hms3 : (σ₃.st 2 1 y σ₃.ws).ms = 2 := rfl
   have hmd3 : (σ₃.st 2 1 y σ₃.ws).mdf = 1 := rfl
   have hc3 : c5 (σ₃.st 2 1 y σ₃.ws).num (σ₃.st 2 1 y σ₃.ws).wk = c5 σ₃.num σ₃.wk := rfl
   generalize σ₃.st 2 1 y σ₃.ws = τ3 at *
   refine GoesM.sub (F := 200) (by omega) (run0M Wt.cM_ok R2 hK3.j fun σ₄ w₄ hw4 => ?_)
   show GM E C WStop Stop _ σ₄ (Wt.h2 E.Wg fr cs J' y) w₄
   refine GoesM.sub (F := 1) (by omega) (stop_st' hE R2.last fun σ₅ w₅ hw5 => ?_)
   have hw35 := hw4.trans hw5
   have hm5 : σ₅.ms = 2 := by rw [hw35.ms, hms3]
   have hd5 : σ₅.mdf = 1 := by rw [hw35.mdf, hmd3]
   have hW5 := hw5.j.inv.wgi
   rw [hm5] at hW5
   obtain ⟨hwg5, hws5, _⟩ := hW5.look (.inr rfl)
   by_cases he : σ₅.wg = y
   · have hv5 : 1 <= c5 σ₅.num σ₅.wk := by
      rcases Nat.eq_zero_or_pos (c5 σ₅.num σ₅.wk) with h0 | h0
      · rw [h0] at hwg5; omega
      · exact h0
     have hst := step_hit (P := Tryz.prog) (main := true) o2.2 x74 (by rw [<- he]; exact hw5.j.cellSt) hw5.j.thawSt
     have o3 := map_all (Wt.o3 E.Wg fr cs J') y hmem
     simp only [Prod.mk.injEq] at o3
     have R3 : Run Tryz.prog Wt.cM 120 (fin (Wt.h2 E.Wg fr cs J' y) (.bool true)) := ⟨fun w => map_all (Wt.s3 E.Wg fr cs J' w) y hmem, o3.1⟩
     refine ⟨_, _, _, 3, 1, y + 1, σ₅.ws, hst, by rw [<- he]; exact hW5.reg hv5, .set (.inr (.inr (.inl rfl))), (Four.setSt hE hw5.j.four (x := y + 1) (ms := 3) (wk := σ₅.wk)).toSt, R3.head, fun J2 => book0 J2 (book_cells [false, true]), by rw [hd5]; rfl, Nat.le_refl _, fun e => by omega, fun hK5 => ?_⟩
     clear hst
     have hK05 := (hK03.trans hw4.keep).trans hK5
     have hms6 : (σ₅.st 3 1 (y + 1) σ₅.ws).ms = 3 := rfl
     have hmd6 : (σ₅.st 3 1 (y + 1) σ₅.ws).mdf = 1 := rfl
     generalize σ₅.st 3 1 (y + 1) σ₅.ws = τ5 at *
     generalize w₅.setCell (stA E) (.int .u64 ((y + 1 : Nat) : Int)) = wa at *
     refine GoesM.sub (F := 120) (by omega) (run0M Wt.cM_ok R3 hK5.j fun σ₆ w₆ hw6 => ?_)
     refine GoesM.sub (F := 1) (by omega) (convM (a := smA E) (v := fun σ => .int .u32 (σ.ws : Int)) o3.2 (fun hJ => hJ.cellSm) R3.last fun σ₇ w₇ hw7 => ?_)
     have o4 := map_all (Wt.o4 E.Wg fr cs J') y hmem
     simp only [Prod.mk.injEq] at o4
     have R4 : Run Tryz.prog Wt.cM 60 (fin (Wt.h3 E.Wg fr cs J' y) (Wt.pS E.Wg)) := ⟨fun w => map_all (Wt.s4 E.Wg fr cs J' w) y hmem, o4.1⟩
     refine GoesM.sub (F := 60) (by omega) (run0M Wt.cM_ok R4 hw7.j fun σ₈ w₈ hw8 => ?_)
     have hw58 := (hw6.trans hw7).trans hw8
     have o5 := map_all (Wt.o5 E.Wg fr cs J') y hmem
     simp only [Prod.mk.injEq] at o5
     have R5 : Run Tryz.prog Wt.cM 120 (fin (Wt.h4 E.Wg fr cs J' y) (.tuple #[])) := ⟨fun w => map_all (Wt.s5 E.Wg fr cs J' w) y hmem, o5.1⟩
     refine GoesM.sub (F := 1) (by omega) (stop_st' hE R4.last fun σ₉ w₉ hw9 => ⟨_, w₉, _, 3, 1, σ₉.wg, σ₉.ws, step_markAt .write (by simp) o4.2 x56, ?_, .refl, hw9.j.fourSt, R5.head, fun J2 => ev0_said J2 .write (.inr rfl), ?_, Nat.le_refl _, fun e => by omega, fun hK9 => ?_⟩)
     · have := hw9.j.inv.wgi
       rw [hw9.ms, hw58.ms, hms6] at this; exact this
     · rw [hw9.mdf, hw58.mdf, hmd6]; rfl
     have hK09 := (hK05.trans hw58.keep).trans hK9
     have hms9 : (σ₉.st 3 1 σ₉.wg σ₉.ws).ms = 3 := rfl
     have hmd9 : (σ₉.st 3 1 σ₉.wg σ₉.ws).mdf = 1 := rfl
     generalize σ₉.st 3 1 σ₉.wg σ₉.ws = τ9 at *
     refine GoesM.sub (F := 120) (by omega) (run0M Wt.cM_ok R5 hK9.j fun σa wa' hwa => ?_)
     show GM E C WStop Stop _ σa (Wt.h5 E.Wg fr cs J' y) wa'
     rw [o5.2]
     generalize junk (Wt.h5 E.Wg fr cs J' y) = J2
     have hsem : ∀ m', (∀ σ' w', KeepM E σ0 w0 σ' w' -> σ'.ms = 4 -> σ'.mdf = 1 -> GM E C WStop Stop m' σ' (fin (Wt.TQ E.Wg fr cs J2) (.tuple #[])) w') -> GM E C WStop Stop (m' + 1) σa (Wt.TQ E.Wg fr cs J2) wa' := by
      intro m' hc
      refine .inr ⟨(isRun_out (Wt.rQ E.Wg fr cs J2)).1, (isRun_out (Wt.rQ E.Wg fr cs J2)).2, fun σb wb hwb => ?_⟩
      have hwb9 : R0 E τ9 w₉ σb wb := hwa.trans hwb
      have hmb : σb.ms = 3 := by rw [hwb9.ms, hms9]
      by_cases hs0 : σb.ws = 0
      · refine .inr (.inl ⟨⟨hmb, hs0⟩, ?_⟩)
        have hc0 := hwb.j.cellSm
        rw [hs0] at hc0
        exact step_wait (Wt.bQ E.Wg fr cs J2) x58 hc0
      · have hWb := hwb.j.inv.wgi
        rw [hmb] at hWb
        obtain ⟨hw1', hWp⟩ := hWb.pass hs0
        have hst := step_down (P := Tryz.prog) (main := true) (Wt.bQ E.Wg fr cs J2) x58 hwb.j.cellSm (by omega) hwb.j.thawSm
        rw [hw1', show (((1 : Nat) : Int) - 1) = ((0 : Nat) : Int) by decide] at hst
        have h4 : Four E (σb.st 4 1 σb.wg 0) (wb.setCell (smA E) (.int .u32 ((0 : Nat) : Int))) := (Four.setSm hE hwb.j.four (x := 0) (ms := 4) (wk := σb.wk)).toSm
        have hsame : Same E wb (wb.setCell (smA E) (.int .u32 ((0 : Nat) : Int))) := .set (.inr (.inr (.inl rfl)))
        have hKb : KeepM E σb wb (σb.st 4 1 σb.wg 0) (wb.setCell (smA E) (.int .u32 ((0 : Nat) : Int))) := .st hE hwb.j hWp hsame h4
        exact .inl ⟨_, _, _, _, hst, D0.st hE hwb.j hWp hsame h4 ((isRun_fin _ _).trans (Wt.rQ E.Wg fr cs J2)) (book0 hKb.j sem_bookM) (by rw [hwb9.mdf, hmd9]; rfl) (Nat.zero_le _) (fun e => by omega), hc _ _ ((hK09.trans hwb9.keep).trans hKb) rfl rfl⟩
     refine GoesM.sub (F := 1) (by omega) (hsem _ fun σc wc hKc hmc hdc => ?_)
     refine GoesM.sub (F := 120) (by omega) (run0M Wt.cM_ok (Wt.a6 E.Wg fr cs J2) hKc.j fun σd wd hwd => ?_)
     show GM E C WStop Stop _ σd (Wt.h6 E.Wg fr cs J2) wd
     refine GoesM.sub (F := 1) (by omega) (stop_st' hE (Wt.a6 E.Wg fr cs J2).last fun σe we hwe => ?_)
     have hwce := hwd.trans hwe
     have hWe := hwe.j.inv.wgi
     rw [hwce.ms, hmc] at hWe
     obtain ⟨_, hwge, _, hWe'⟩ := hWe.thru (ms' := 4) (by omega) (by omega)
     have hst := step_loadA (P := Tryz.prog) (main := true) (Wt.b6 E.Wg fr cs J2) x73 hwe.j.cellSt
     rw [hwge] at hst
     refine ⟨_, we, _, 4, 1, σe.wg, σe.ws, hst, by rw [hwge] at hWe' ⊢; exact hWe', .refl, hwe.j.fourSt, (Wt.a7 E.Wg fr cs J2).head, fun J3 => book0 J3 (one_ev (.at_ _ _ (.inr (.inr rfl)))), by rw [hwce.mdf, hdc]; rfl, Nat.le_refl _, fun e => by omega, fun hKe => ?_⟩
     clear hst
     have hmf : (σe.st 4 1 σe.wg σe.ws).ms = 4 := rfl
     have hdf' : (σe.st 4 1 σe.wg σe.ws).mdf = 1 := rfl
     generalize σe.st 4 1 σe.wg σe.ws = τe at *
     have hK0e := (hKc.trans hwd.keep).trans hKe
     refine GoesM.sub (F := 120) (by omega) (run0M Wt.cM_ok (Wt.a7 E.Wg fr cs J2) hKe.j fun σf wf hwf => ?_)
     refine (thru_m (m := m) hE (Wt.a8 E.Wg fr cs J2) rfl (Wt.b7 E.Wg fr cs J2) (Wt.v8 E.Wg fr cs J2) (Wt.a9 E.Wg fr cs J2) rfl (Wt.b9 E.Wg fr cs J2) (Wt.a10 E.Wg fr cs J2) rfl (Wt.e10 E.Wg fr cs J2) hwf.j (by rw [hwf.ms, hmf]) (by rw [hwf.mdf, hdf']) fun σ' w' hK' h5 h0 => hcont σ' w' ((hK0e.trans hwf.keep).trans hK') h5 h0).mono (by omega)
   ·
    have hst := step_miss (P := Tryz.prog) (main := true) o2.2 x74 hw5.j.cellSt hw5.j.thawSt (fun e => he (by exact_mod_cast e))
    have orr := map_all (Wt.or' E.Wg fr cs J') y hmem
    simp only [Prod.mk.injEq] at orr
    have Rr : Run Tryz.prog Wt.cT 120 (fin (Wt.h2 E.Wg fr cs J' y) (.bool false)) := ⟨fun w => map_all (Wt.sr E.Wg fr cs J' w) y hmem, orr.1⟩
    refine ⟨_, w₅, _, 2, 1, σ₅.wg, σ₅.ws, hst, hW5, .refl, hw5.j.fourSt, Rr.head, fun J2 => book0 J2 (book_cells [false]), by rw [hd5]; rfl, Nat.le_refl _, fun e => by omega, fun hK5 => ?_⟩
    clear hst
    have hlt : c5 σ₅.num σ₅.wk < v := by
     have h1 := hw35.cnt
     rw [hc3] at h1
     rcases Nat.lt_or_ge (c5 σ₅.num σ₅.wk) (c5 σ₃.num σ₃.wk) with h | h
     · omega
     · exfalso
       have : c5 σ₅.num σ₅.wk = c5 σ₃.num σ₃.wk := by omega
       exact he (by rw [hwg5, hwg, this])
    have hK05 := (hK03.trans hw4.keep).trans hK5
    have hms6 : (σ₅.st 2 1 σ₅.wg σ₅.ws).ms = 2 := rfl
    have hmd6 : (σ₅.st 2 1 σ₅.wg σ₅.ws).mdf = 1 := rfl
    have hc6 : c5 (σ₅.st 2 1 σ₅.wg σ₅.ws).num (σ₅.st 2 1 σ₅.wg σ₅.ws).wk = c5 σ₅.num σ₅.wk := rfl
    generalize σ₅.st 2 1 σ₅.wg σ₅.ws = τ5 at *
    refine GoesM.sub (F := 120) (by omega) (run0M (by intro f d x h; cases h) Rr hK5.j fun σ₆ w₆ hw6 => ?_)
    show GM E C WStop Stop _ σ₆ (Wt.hr E.Wg fr cs J' y) w₆
    rw [orr.2]
    have hc := hw6.cnt
    exact (ih (c5 σ₅.num σ₅.wk) hlt _ σ₆ w₆ (hK05.trans hw6.keep) (.inr (by rw [hw6.ms, hms6])) (by rw [hw6.mdf, hmd6]) (by omega)).mono (by omega)
end
section
variable {E : Env} {P : Program} {C : Nat} {σ σ' : Gh} {w w' : World} {WStop : Nat -> Gh -> Goroutine -> World -> Prop} {Stop : Gh -> Goroutine -> World -> Prop}
def Gh.blk (σ : Gh) : Gh := { σ with hs := σ.hs + 1, dm := σ.dm - 1 }
theorem J.blk (hE : E.Ok) (hJ : J E σ w) (hd : 1 <= σ.dm) {oc : Array Value} {ot : TypeId} : J E σ.blk (World.more w (.cells oc ot)) := by
 have lt : ∀ {b}, E.Hot b -> b < w.heap.size := fun hb => by
  rw [hJ.size]
  rcases hb with hb | hb | hb | hb
  · exact hJ.hotLt (.inl hb)
  · exact hJ.hotLt (.inr (.inl hb))
  · exact hJ.hotLt (.inr (.inr hb))
  · rw [hb]; exact hJ.oLt
 have I := hJ.inv
 exact {
  inv := ⟨I.mx, I.wgi, I.lkf, I.done, I.uniq, I.pw, I.wfut, I.fin, I.all, fun k hk => Nat.le_trans (I.low k hk) (Nat.le_succ _), I.num, I.nb⟩
  mu := by rw [more_old (lt (.inl rfl))]; exact hJ.mu
  nx := by rw [more_old (lt (.inr (.inl rfl)))]; exact hJ.nx
  wg := by rw [more_old (lt (.inr (.inr (.inl rfl))))]; exact hJ.wg
  o := by rw [more_old (lt (.inr (.inr (.inr rfl))))]; exact hJ.o
  old := fun b hb => by rw [more_old (by rw [hJ.size]; have := hJ.baseLe hE; omega)]; exact hJ.old b hb
  size := by show (w.heap.push _).size = σ.hs + 1; rw [Array.size_push, hJ.size]
  tape := hJ.tape
  output := hJ.output
  os := hJ.os
  acc := by
   have := hJ.acc
   show σ.hs + 1 + dues σ.num σ.wk + E.rest σ.nx + (σ.dm - 1) = E.tot
   omega
  pv := fun b hb => by
   obtain ⟨p1, p2, p3, p4⟩ := hJ.pv b hb
   exact ⟨by show b < σ.hs + 1; omega, p2, p3, p4⟩
  rows := fun b h1 h2 => by
   have h3 : b < (w.heap.push (.cells oc ot)).size := h2
   rw [Array.size_push] at h3
   rcases Nat.lt_or_ge b w.heap.size with h | h
   · rw [more_old h]; exact hJ.rows b h1 h
   · obtain rfl : b = w.heap.size := by omega
     exact ⟨_, _, more_new⟩ }
theorem D0.blk (hE : E.Ok) (hJ : J E σ w) (hd : 1 <= σ.dm) (h5 : σ.ms ≠ 5) {oc : Array Value} {ot : TypeId} {g g' : Goroutine} (hr : g'.status = .running) : D0 E σ w g #[] σ.blk (World.more w (.cells oc ot)) g' :=
 ⟨hJ.blk hE hd, rfl, rfl, rfl, rfl, rfl, Nat.le_succ _, rfl, Nat.le_refl _, fun b hb _ _ => more_old (by rw [hJ.size]; exact hb), hr, rfl, fun e he => by simp at he, fun h => absurd h h5, fun _ => trivial⟩
theorem KeepM.blk (hE : E.Ok) (hJ : J E σ w) (hd : 1 <= σ.dm) {oc : Array Value} {ot : TypeId} : KeepM E σ w σ.blk (World.more w (.cells oc ot)) :=
 ⟨hJ.blk hE hd, rfl, Nat.sub_le _ _, Nat.le_succ _, fun _ _ => rfl, fun b hb _ _ => more_old (by rw [hJ.size]; exact hb), Nat.le_refl _⟩
theorem stop_blk (hE : E.Ok) {m : Nat} {g : Goroutine} {vs : Array Value} {t : TypeId} (hg : isNew P g = some (vs, t)) (hr : isRun g = true) (h5 : σ.ms ≠ 5) (hd : 1 <= σ.dm)
  (h : ∀ σ₁ w₁ (b : Nat), KeepM E σ w σ₁ w₁ -> σ₁.ms = σ.ms -> σ₁.mdf = σ.mdf -> σ₁.dm + 1 = σ.dm -> σ.hs <= b -> b < σ₁.hs -> σ₁.pv b = 0 -> ¬ E.Hot b -> w₁.heap[b]? = some (.cells vs t) -> GoesM P (proto E P) C WStop Stop m σ₁ (fin g (.pointer (some ⟨b, 0, none⟩))) w₁) : GoesM P (proto E P) C WStop Stop (m + 1) σ g w :=
 stepM hr fun σ₁ w₁ hw => by
  have hd1 : 1 <= σ₁.dm := by rw [hw.dm]; exact hd
  have hs := hw.j.size
  refine ⟨_, World.more w₁ (.cells vs t), #[], σ₁.blk, step_new hg, D0.blk hE hw.j hd1 (by rw [hw.ms]; exact h5) (isRun_out ((isRun_fin _ _).trans hr)).1, ?_⟩
  refine h σ₁.blk _ w₁.heap.size (hw.keep.trans (.blk hE hw.j hd1)) hw.ms hw.mdf ?_ (by rw [hs]; exact hw.hs) (by rw [hs]; exact Nat.lt_succ_self _) ?_ ?_ more_new
  · show σ₁.dm - 1 + 1 = σ.dm
    rw [<- hw.dm]; omega
  · rcases Nat.eq_zero_or_pos (σ₁.blk.pv w₁.heap.size) with h0 | h0
    · exact h0
    · have := (hw.j.pv w₁.heap.size (by have h0 : 0 < σ₁.pv w₁.heap.size := h0; omega)).1
      omega
  · intro hb
    have hlt : w₁.heap.size < σ₁.hs := by
     rcases hb with hb | hb | hb | hb
     · rw [hb]; exact hw.j.hotLt (.inl rfl)
     · rw [hb]; exact hw.j.hotLt (.inr (.inl rfl))
     · rw [hb]; exact hw.j.hotLt (.inr (.inr rfl))
     · rw [hb]; exact hw.j.oLt
    omega
def Gh.more (σ : Gh) : Gh := { σ with num := σ.num + 1, wk := upd σ.wk σ.num { low := σ.hs }, ms := 0 }
theorem grow_lt {k : Nat} {x : Wk} (hk : k < σ.num) : upd σ.wk σ.num x k = σ.wk k := upd_ne _ _ (by omega)
theorem J.more (hJ : J E σ w) (h1 : σ.ms = 1) (h8 : σ.num < 8) : J E σ.more w := by
 have I := hJ.inv
 have ln : upd σ.wk σ.num { low := σ.hs } σ.num = { low := σ.hs } := upd_same _ _ _
 have split : ∀ {k}, k < σ.num + 1 -> k < σ.num \/ k = σ.num := fun h => by omega
 have ct : ∀ y, y ≠ .out -> cnt (σ.num + 1) (upd σ.wk σ.num { low := σ.hs }) y = cnt σ.num σ.wk y := fun y hy =>
  cnt_grow (φ := fun z => if z.lk = y then 1 else 0) (by simp; exact fun e => hy e.symm)
 have hc5 : c5 (σ.num + 1) (upd σ.wk σ.num { low := σ.hs }) = c5 σ.num σ.wk + 1 := by
  show sumTo σ.num (fun k => if 5 <= (upd σ.wk σ.num { low := σ.hs } k).fin then 1 else 0) + (if 5 <= (upd σ.wk σ.num { low := σ.hs } σ.num).fin then 1 else 0) = _
  rw [ln]
  show sumTo σ.num (fun k => if 5 <= (upd σ.wk σ.num { low := σ.hs } k).fin then 1 else 0) + 1 = _
  rw [sumTo_congr (g := fun k => if 5 <= (σ.wk k).fin then 1 else 0) fun i hi => by rw [grow_lt hi]]
  rfl
 have hc43 : c43 (σ.num + 1) (upd σ.wk σ.num { low := σ.hs }) = c43 σ.num σ.wk := cnt_grow (φ := fun z => if z.fin = 4 \/ z.fin = 3 then 1 else 0) rfl
 have hc2 : c2 (σ.num + 1) (upd σ.wk σ.num { low := σ.hs }) = c2 σ.num σ.wk := cnt_grow (φ := fun z => if z.fin = 2 then 1 else 0) rfl
 have hcg : cgone (σ.num + 1) (upd σ.wk σ.num { low := σ.hs }) = cgone σ.num σ.wk := cnt_grow (φ := fun z => if z.gone = true then 1 else 0) rfl
 have hdu : dues (σ.num + 1) (upd σ.wk σ.num { low := σ.hs }) = dues σ.num σ.wk := cnt_grow (φ := fun z => z.due) rfl
 have hpn : ¬ Pend ({ low := σ.hs } : Wk) := by unfold Pend; simp
 have pd : ∀ {k}, k < σ.num + 1 -> Pend (upd σ.wk σ.num { low := σ.hs } k) -> k < σ.num /\ Pend (σ.wk k) := fun {k} hk p => by
  rcases split hk with h | rfl
  · rw [grow_lt h] at p; exact ⟨h, p⟩
  · rw [ln] at p; exact absurd p hpn
 refine { hJ with inv := ⟨?_, ?_, fun k hk hl => ?_, fun i hi hx => ?_, fun i j hi hj p q => ?_, fun j hj p => ?_, I.wfut, fun k hk => ?_, fun k hk ha => ?_, fun k hk => ?_, h8, ?_⟩, acc := ?_, pv := fun b hb => ?_ }
 · have M := I.mx
   have M' : MInv (σ.num + 1) (upd σ.wk σ.num { low := σ.hs }) σ.mx := ⟨M.l, M.w, M.s, by rw [ct _ (by simp)]; exact M.hd, by rw [ct _ (by simp), ct _ (by simp), ct _ (by simp)]; exact M.n0, by rw [ct _ (by simp), ct _ (by simp), ct _ (by simp)]; exact M.n1,
    by rw [ct _ (by simp), ct _ (by simp)]; exact M.q0, by rw [ct _ (by simp), ct _ (by simp)]; exact M.q1, by rw [ct _ (by simp)]; exact M.resp⟩
   exact M'
 · have := I.wgi
   rw [h1] at this
   exact wgi_to this.start hc5 hc43 hc2
 · show (upd σ.wk σ.num { low := σ.hs } k).fin = 7 /\ (upd σ.wk σ.num { low := σ.hs } k).idx < E.n /\ (upd σ.wk σ.num { low := σ.hs } k).idx < σ.nx
   have hl : (upd σ.wk σ.num { low := σ.hs } k).lk ≠ .out := hl
   rcases split hk with h | rfl
   · rw [grow_lt h] at hl ⊢; exact I.lkf k h hl
   · rw [ln] at hl; exact absurd rfl hl
 · rcases I.done i hi hx with h | ⟨j, a, b, d⟩
   · exact .inl h
   · exact .inr ⟨j, by show j < σ.num + 1; omega, by show Pend (upd σ.wk σ.num _ j); rw [grow_lt a]; exact b, by show (upd σ.wk σ.num _ j).idx = i; rw [grow_lt a]; exact d⟩
 · have nl : ∀ i, i < σ.num + 1 -> (upd σ.wk σ.num { low := σ.hs } i).lk ≠ .out -> i < σ.num /\ (σ.wk i).lk ≠ .out := fun i hi hl => by
    rcases split hi with h | rfl
    · rw [grow_lt h] at hl; exact ⟨h, hl⟩
    · rw [ln] at hl; exact absurd rfl hl
   obtain ⟨a1, a2⟩ := nl i hi p
   obtain ⟨b1, b2⟩ := nl j hj q
   exact I.uniq i j a1 b1 a2 b2
 · obtain ⟨a1, a2⟩ := pd hj p
   show σ.writ (upd σ.wk σ.num { low := σ.hs } j).idx = false
   rw [grow_lt a1]; exact I.pw j a1 a2
 · show 1 <= (upd σ.wk σ.num { low := σ.hs } k).fin /\ (upd σ.wk σ.num { low := σ.hs } k).fin <= 7
   rcases split hk with h | rfl
   · rw [grow_lt h]; exact I.fin k h
   · rw [ln]; exact ⟨by show 1 <= 7; omega, Nat.le_refl _⟩
 · have ha : Away (upd σ.wk σ.num { low := σ.hs } k) := ha
   rcases split hk with h | rfl
   · rw [grow_lt h] at ha; exact I.all k h ha
   · rw [ln] at ha; unfold Away at ha; simp at ha
 · show (upd σ.wk σ.num { low := σ.hs } k).low <= σ.hs
   rcases split hk with h | rfl
   · rw [grow_lt h]; exact I.low k h
   · rw [ln]; exact Nat.le_refl _
 · have h : cgone σ.more.num σ.more.wk = cgone σ.num σ.wk := hcg
   rw [h]; exact I.nb
 · have h : dues σ.more.num σ.more.wk = dues σ.num σ.wk := hdu
   rw [h]; exact hJ.acc
 · obtain ⟨p1, p2, p3, p4⟩ := hJ.pv b hb
   exact ⟨p1, p2, p3, Nat.le_succ_of_le p4⟩
theorem SP.more (hJ : J E σ w) (h1 : σ.ms = 1) (h8 : σ.num < 8) (hd : σ.mdf = 0) {g g' c : Goroutine} (hr : g'.status = .running) : SP E σ w g σ.more w g' c :=
 ⟨hJ.more h1 h8, rfl, rfl, rfl, rfl, rfl, rfl, rfl, rfl, hr, ⟨hd, hd⟩, by show (0 : Nat) ≠ 5; decide⟩
theorem pot_le (hJ : J E σ w) (hE : E.Ok) : pot E.n σ <= 200 := by
 have h1 : pots σ.num σ.wk <= 5 * σ.num := by
  unfold pots
  have : ∀ n, sumTo n (fun k => wt (σ.wk k).lk) <= 5 * n := by
   intro n
   induction n with
   | zero => exact Nat.le_refl _
   | succ n ih =>
    have : wt (σ.wk n).lk <= 5 := by cases (σ.wk n).lk <;> decide
    simp only [sumTo]; omega
  exact this _
 have h2 := hJ.inv.num
 have h3 := hE.n
 have h4 : σ.mx.sm <= 1 := by
  have M := hJ.inv.mx
  have hw := M.w
  have hs := M.s
  by_cases e : σ.mx.S = 0
  · have := M.n0 e; omega
  · have := M.n1 (by omega); omega
 unfold pot
 omega
end
section
variable {E : Env} {C : Nat} {σ σ' : Gh} {w w' : World} {WStop : Nat -> Gh -> Goroutine -> World -> Prop} {Stop : Gh -> Goroutine -> World -> Prop}
structure KM (E : Env) (σ : Gh) (w : World) (ad : Addr) (v : Value) : Prop where
 cell : w.cell? ad = some v
 lt : ad.block < σ.hs
 pv : σ.pv ad.block = 0
 cold : ¬ E.Hot ad.block
 shun : ¬ E.Shun (.cell ad)
theorem KM.keep {ad : Addr} {v : Value} (h : KM E σ w ad v) (hK : KeepM E σ w σ' w') : KM E σ' w' ad v :=
 ⟨(cell_congr (hK.mem _ h.lt h.cold h.pv)).trans h.cell, Nat.lt_of_lt_of_le h.lt hK.hs, by rw [hK.pv _ h.lt]; exact h.pv, h.cold, h.shun⟩
theorem KM.knownM {ad : Addr} {v : Value} (h : KM E σ w ad v) (f : FuncId) : KnownM E σ w (f, ad, v) := ⟨h.cell, h.lt, h.pv, h.cold, h.shun⟩
theorem KM.more {ad : Addr} {v : Value} (h : KM E σ w ad v) : KM E σ.more w ad v := ⟨h.cell, h.lt, h.pv, h.cold, h.shun⟩
theorem KM.known {ad : Addr} {v : Value} (h : KM E σ w ad v) (f : FuncId) : Known E Tryz.prog σ.num σ.more w (f, ad, v) := by
 have hl : (σ.more.wk σ.num) = { low := σ.hs } := upd_same _ _ _
 exact ⟨h.cell, ⟨h.lt, .inl ⟨by rw [hl]; exact h.lt, h.pv, h.cold, h.shun⟩⟩, .inr (by rw [hl])⟩
structure DM (E : Env) (A : Rd.Adr) (tq : Option Addr) (n c : Nat) (D : Tasks) (σ : Gh) (w : World) : Prop where
 mu : A.Mu = E.Mu
 nx : A.Nx = E.Nx
 wg : A.Wg = E.Wg
 hn : n = E.n
 t : KM E σ w ⟨A.T, 0, none⟩ (.slice tq n c)
 s : KM E σ w ⟨A.S, 0, none⟩ (Rd.stoV A)
 v : KM E σ w ⟨A.V, 0, none⟩ (.slice (some ⟨E.O, 0, none⟩) n n)
 el : ∀ i, i < n -> ∃ ad, tq = some ad /\ KM E σ w (ad.add (i * 1)) (.slice (D.p i) (D.zs i).length (D.cap i))
 nums : ∀ i, i < n -> ∀ j, j < (D.zs i).length -> ∃ ad, D.p i = some ad /\ KM E σ w (ad.add (j * 1)) (.int .i64 ((D.zs i).getD j 0))
 inm : ∀ i, i < n -> ∀ z ∈ D.zs i, inM z
 len : ∀ i, i < n -> (D.zs i).length <= 1000
 val : ∀ i, i < n -> E.val i = (D.zs i).foldl pairF 0
 cost : ∀ i, i < n -> E.cost i = 3 * (D.zs i).length
variable {A : Rd.Adr} {tq : Option Addr} {n c : Nat} {D : Tasks}
theorem DM.keep (h : DM E A tq n c D σ w) (hK : KeepM E σ w σ' w') : DM E A tq n c D σ' w' :=
 ⟨h.mu, h.nx, h.wg, h.hn, h.t.keep hK, h.s.keep hK, h.v.keep hK, fun i hi => let ⟨ad, e, k⟩ := h.el i hi; ⟨ad, e, k.keep hK⟩, fun i hi j hj => let ⟨ad, e, k⟩ := h.nums i hi j hj; ⟨ad, e, k.keep hK⟩, h.inm, h.len, h.val, h.cost⟩
theorem DM.more (h : DM E A tq n c D σ w) : DM E A tq n c D σ.more w :=
 ⟨h.mu, h.nx, h.wg, h.hn, h.t.more, h.s.more, h.v.more, fun i hi => let ⟨ad, e, k⟩ := h.el i hi; ⟨ad, e, k.more⟩, fun i hi j hj => let ⟨ad, e, k⟩ := h.nums i hi j hj; ⟨ad, e, k.more⟩, h.inm, h.len, h.val, h.cost⟩
def _root_.Go.Proofs.YtnpjonhoihbaeaaGreat.Wp.Rd.Adr.at (A : Rd.Adr) (b b' : Nat) : Rd.Adr := { A with bw := b, bf := b' }
theorem DM.data (h : DM E A tq n c D σ w) {b b' : Nat} (hb : KM E σ w ⟨b, 0, none⟩ (Rd.pA A.Wg)) (hb' : KM E σ w ⟨b', 0, none⟩ (Rd.wrkV A)) : Data E (A.at b b') tq n c D σ.num σ.more w :=
 ⟨h.mu, h.nx, h.wg, h.hn, h.t.known 46, h.s.known 46, h.v.known 42, hb'.known 64, hb.known 65, fun i hi => let ⟨ad, e, k⟩ := h.el i hi; ⟨ad, e, k.known 46⟩,
  fun i hi => ⟨fun j hj => let ⟨ad, e, k⟩ := h.nums i hi j hj; ⟨ad, e, k.known 48⟩⟩, h.inm, h.len, h.val, h.cost⟩
end
section
variable (A : Rd.Adr) (tq : Option Addr) (n c W : Nat) (O : Nat) (cs : List Frame) (J : Nat -> Value) (i b b' : Nat)
theorem ph_at : St.PH (A.at b b') tq n c W O cs J i = St.PH A tq n c W O cs J i := by kernel_rfl
theorem u1_at : St.u1 (A.at b b') tq n c W O cs J i = St.u1 A tq n c W O cs J i := by kernel_rfl
theorem u2_at : St.u2 (A.at b b') tq n c W O cs J i = St.u2 (A.at b 0) tq n c W O cs J i := by kernel_rfl
end
section
variable {E : Env} {C : Nat} {WStop : Nat -> Gh -> Goroutine -> World -> Prop} {Stop : Gh -> Goroutine -> World -> Prop} {A : Rd.Adr} {tq : Option Addr} {n c : Nat} {D : Tasks} {W O : Nat} {cs : List Frame}
theorem some7_mem {v : Nat} (h1 : 2 <= v) (h8 : v <= 8) : v * 4294967296 ∈ St.some7 := by
 have : ∀ v : Fin 9, 2 <= v.val -> v.val * 4294967296 ∈ St.some7 := by decide
 exact this ⟨v, by omega⟩ h1
theorem wrap_more {v : Nat} (h : v < 8) : IntKind.u64.wrap (((v * 4294967296 : Nat) : Int) + 4294967296) = (((v + 1) * 4294967296 : Nat) : Int) := by
 have : ∀ v : Fin 8, IntKind.u64.wrap (((v.val * 4294967296 : Nat) : Int) + 4294967296) = (((v.val + 1) * 4294967296 : Nat) : Int) := by decide
 exact this ⟨v, h⟩
set_option maxHeartbeats 1000000 in
theorem round_m (hE : E.Ok) (hSh : ∀ ad, E.Shun (.cell ad) -> ad.block < E.base) (hC : 700 + (200 + 1) * rnd 200 + 60 <= C)
  (hw : ∀ k σ w g, (σ.wk k).fin = 1 -> (σ.wk k).due = 0 -> (σ.wk k).df = 1 -> QuitsD Tryz.prog 200 1 g -> WStop (k + 1) σ g w)
  {m i : Nat} (hi : i < W) (h8 : W <= 8) {J' : Nat -> Value} {σ : Gh} {w : World} (hJ : J E σ w) (hD : DM E A tq n c D σ w) (hnum : σ.num = i) (hms : σ.ms = 0) (hmd : σ.mdf = 0) (hdm : 2 <= σ.dm)
  (hcont : ∀ σ' w' J2, J E σ' w' -> DM E A tq n c D σ' w' -> σ'.num = i + 1 -> σ'.ms = 0 -> σ'.mdf = 0 -> σ'.dm + 2 = σ.dm -> GM E C WStop Stop m σ' (St.PH A tq n c W O cs J2 (i + 1)) w') : GM E C WStop Stop (m + 1200) σ (St.PH A tq n c W O cs J' i) w := by
 have hcm : St.cM.Ok := St.cM_ok
 refine GoesM.sub (F := 1) (by omega) (oneM (St.eU0 A tq n c W O cs J' i) (St.rPH A tq n c W O cs J' i) (St.aU1 A tq n c W O cs J' i).head fun σ₁ w₁ hw1 => ?_)
 refine GoesM.sub (F := 60) (by omega) (run0M (fun f d z hz => St.vP_ok (W := W) (i := i) (by simp; omega) hz) (St.aU1 A tq n c W O cs J' i) hw1.j fun σ₂ w₂ hw2 => ?_)
 show GM E C WStop Stop _ σ₂ (St.u1 A tq n c W O cs J' i) w₂
 have hw02 := hw1.trans hw2
 have hD2 := hD.keep hw02.keep
 refine GoesM.sub (F := 1) (by omega) (stop_blk hE (St.bU1 A tq n c W O cs J' i) (St.aU1 A tq n c W O cs J' i).last (by rw [hw02.ms, hms]; decide) (by rw [hw02.dm]; omega) fun σ₃ w₃ b hK3 em3 ed3 edm3 hb1 hb2 hb3 hb4 hb5 => ?_)
 have hbase : E.base <= σ₂.hs := hw02.j.baseLe hE
 have hbw3 : KM E σ₃ w₃ ⟨b, 0, none⟩ (Rd.pA A.Wg) := ⟨by rw [cell_of rfl (show w₃.heap[(⟨b, 0, none⟩ : Addr).block]? = _ from hb5)]; rfl, hb2, hb3, hb4, fun h => by have := hSh _ h; have : b < E.base := this; omega⟩
 have hD3 := hD2.keep hK3
 rw [<- u1_at A tq n c W O cs J' i b 0]
 refine GoesM.sub (F := 20) (by omega) (run0M hcm (St.aU2 (A.at b 0) tq n c W O cs J' i) hK3.j fun σ₄ w₄ hw4 => ?_)
 show GM E C WStop Stop _ σ₄ (St.u2 (A.at b 0) tq n c W O cs J' i) w₄
 have em4 : σ₄.ms = 0 := by rw [hw4.ms, em3, hw02.ms, hms]
 have ed4 : σ₄.mdf = 0 := by rw [hw4.mdf, ed3, hw02.mdf, hmd]
 have edm4 : σ₄.dm + 1 = σ.dm := by rw [hw4.dm, <- hw02.dm]; exact edm3
 have en4 : σ₄.num = i := by rw [hw4.num, hK3.num, hw02.num, hnum]
 refine GoesM.sub (F := 1) (by omega) (stop_blk hE (St.bU2 (A.at b 0) tq n c W O cs J' i) (St.aU2 (A.at b 0) tq n c W O cs J' i).last (by rw [em4]; decide) (by omega) fun σ₅ w₅ b' hK5 em5 ed5 edm5 hc1 hc2 hc3 hc4 hc5 => ?_)
 have hbase4 : E.base <= σ₄.hs := hw4.j.baseLe hE
 have hbf5 : KM E σ₅ w₅ ⟨b', 0, none⟩ (Rd.wrkV A) := ⟨by rw [cell_of rfl (show w₅.heap[(⟨b', 0, none⟩ : Addr).block]? = _ from hc5)]; rfl, hc2, hc3, hc4, fun h => by have := hSh _ h; have : b' < E.base := this; omega⟩
 have hbw5 := (hbw3.keep hw4.keep).keep hK5
 have hD5 := (hD3.keep hw4.keep).keep hK5
 rw [<- u2_at A tq n c W O cs J' i b b']
 refine GoesM.sub (F := 60) (by omega) (runM rfl (fun f d x h => by cases h) 60 (St.aU3 (A.at b b') tq n c W O cs J' i) hK5.j (fun x hx => ?_) fun σ₆ w₆ hw6 => ?_)
 · have hx : x ∈ ldsR Tryz.prog (St.cU (A.at b b')) 60 (fin (St.u2 (A.at b b') tq n c W O cs J' i) (Rd.pA (A.at b b').bf)) := hx
   rw [St.lU3] at hx
   simp only [List.mem_cons, List.not_mem_nil, or_false] at hx
   subst hx; exact hbw5.knownM 45
 show GM E C WStop Stop _ σ₆ (St.u3 (A.at b b') tq n c W O cs J' i) w₆
 generalize hA : A.at b b' = A' at *
 have hWg : A'.Wg = E.Wg := by rw [<- hA]; exact hD.wg
 have em6 : σ₆.ms = 0 := by rw [hw6.ms, em5, em4]
 have ed6 : σ₆.mdf = 0 := by rw [hw6.mdf, ed5, ed4]
 have edm6 : σ₆.dm + 2 = σ.dm := by rw [hw6.dm]; omega
 have en6 : σ₆.num = i := by rw [hw6.num, hK5.num, en4]
 refine GoesM.sub (F := 1) (by omega) (stop_st' hE (St.aU3 A' tq n c W O cs J' i).last fun σ₇ w₇ hw7 => ⟨_, w₇, _, 0, 1, σ₇.wg, σ₇.ws, step_mark .disable (by simp) (St.bU3 A' tq n c W O cs J' i) x49, ?_, .refl, hw7.j.fourSt, (St.aU4 A' tq n c W O cs J' i).head, fun J2 => book0 J2 (one_ev .dis), by rw [hw7.mdf, ed6]; rfl, Nat.le_refl _, fun e => by omega, fun hK7 => ?_⟩)
 · have := hw7.j.inv.wgi
   rw [hw7.ms, em6] at this; exact this
 have em7 : (σ₇.st 0 1 σ₇.wg σ₇.ws).ms = 0 := rfl
 have ed7 : (σ₇.st 0 1 σ₇.wg σ₇.ws).mdf = 1 := rfl
 have edm7 : (σ₇.st 0 1 σ₇.wg σ₇.ws).dm = σ₆.dm := hw7.dm
 generalize σ₇.st 0 1 σ₇.wg σ₇.ws = τ7 at *
 refine GoesM.sub (F := 60) (by omega) (run0M hcm (St.aU4 A' tq n c W O cs J' i) hK7.j fun σ₈ w₈ hw8 => ?_)
 show GM E C WStop Stop _ σ₈ (St.u4 A' tq n c W O cs J' i) w₈
 refine GoesM.sub (F := 1) (by omega) (pureM (St.bU4 A' tq n c W O cs J' i) x57 (St.aU4 A' tq n c W O cs J' i).last fun σ₉ w₉ hw9 => ?_)
 refine GoesM.sub (F := 60) (by omega) (run0M hcm (St.aU5 A' tq n c W O cs J' i) hw9.j fun σa wa hwa => ?_)
 show GM E C WStop Stop _ σa (St.u5 A' tq n c W O cs J' i) wa
 have hw7a := (hw8.trans hw9).trans hwa
 have ema : σa.ms = 0 := by rw [hw7a.ms, em7]
 have eda : σa.mdf = 1 := by rw [hw7a.mdf, ed7]
 have edma : σa.dm + 2 = σ.dm := by rw [hw7a.dm, edm7]; exact edm6
 have hK6a := hK7.trans hw7a.keep
 have ena : σa.num = i := by rw [hK6a.num, en6]
 have after : ∀ {m' : Nat} {σb : Gh} {wb : World} {g : Goroutine}, m + 200 <= m' -> KeepM E σ₆ w₆ σb wb -> σb.ms = 1 -> σb.mdf = 1 -> σb.dm + 2 = σ.dm -> isRun g = true -> (∀ w, stepG Tryz.prog true g w = .go (St.u9 g) w #[⟨.mark .enable, false, true⟩]) -> Run Tryz.prog St.cM 60 (St.u9 g) -> endR Tryz.prog St.cM 60 (St.u9 g) = St.uA A' tq n c W O cs J' i -> GM E C WStop Stop m' σb g wb := by
  intro m' σb wb g hm hKb emb edb edmb hr hst R eR
  refine GoesM.sub (F := 1) (by omega) (stop_st' hE hr fun σc wc hwc => ⟨_, wc, _, 1, 0, σc.wg, σc.ws, hst wc, ?_, .refl, hwc.j.fourSt, R.head, fun J2 => book0 J2 (one_ev .en), by rw [hwc.mdf, edb]; rfl, Nat.le_refl _, fun e => by omega, fun hKc => ?_⟩)
  · have := hwc.j.inv.wgi
    rw [hwc.ms, emb] at this; exact this
  have emc : (σc.st 1 0 σc.wg σc.ws).ms = 1 := rfl
  have edc : (σc.st 1 0 σc.wg σc.ws).mdf = 0 := rfl
  have edmc : (σc.st 1 0 σc.wg σc.ws).dm = σb.dm := hwc.dm
  generalize σc.st 1 0 σc.wg σc.ws = τc at *
  refine GoesM.sub (F := 60) (by omega) (run0M hcm R hKc.j fun σd wd hwd => ?_)
  rw [eR]
  have hK6d := (hKb.trans hKc).trans hwd.keep
  have hrA : isRun (St.uA A' tq n c W O cs J' i) = true := by rw [<- eR]; exact R.last
  refine GoesM.sub (F := 1) (by omega) (.inr ⟨(isRun_out hrA).1, (isRun_out hrA).2, fun σe we hwe => .inr (.inr ⟨_, _, we, σe.more, St.eUB A' tq n c W O cs J' i we, ?_, rfl, ?_, ?_⟩)⟩)
  all_goals
   have eme : σe.ms = 1 := by rw [hwe.ms, hwd.ms, emc]
   have ede : σe.mdf = 0 := by rw [hwe.mdf, hwd.mdf, edc]
   have hK6e := hK6d.trans hwe.keep
   have ene : σe.num = i := by rw [hK6e.num, en6]
   have hDe := ((hD5.keep hw6.keep).keep hK6e)
  · exact SP.more hwe.j eme (by omega) ede (isRun_out (St.aUC A' tq n c W O cs J' i).head).1
  · have hJm : J E σe.more we := hwe.j.more eme (by omega)
    have hdat := hDe.data ((hbw5.keep hw6.keep).keep hK6e) ((hbf5.keep hw6.keep).keep hK6e)
    rw [hA] at hdat
    have hl : σe.more.wk σe.num = { low := σe.hs } := upd_same _ _ _
    show GWt E σe.num (WStop (σe.num + 1)) C σe.more (Rd.gC0 A') we
    exact (worker_w hE (P0 := 200) hdat hJm (Nat.lt_succ_self _) (by rw [hl]; exact ⟨rfl, rfl, rfl, rfl, rfl⟩) (pot_le hJm hE) fun σ₁ w₁ g h1 h2 h3 h4 => hw _ σ₁ w₁ g h1 h2 h3 h4).mono hC
  · have hJm : J E σe.more we := hwe.j.more eme (by omega)
    refine GoesM.sub (F := 60) (by omega) (run0M (fun f d z hz => St.vN_ok (i := i) (by omega) hz) (St.aUC A' tq n c W O cs J' i) hJm fun σf wf hwf => ?_)
    show GM E C WStop Stop _ σf (St.uC A' tq n c W O cs J' i) wf
    rw [St.hUC A' tq n c W O cs J' i, <- hA, ph_at]
    refine (hcont σf wf _ hwf.j (hDe.more.keep hwf.keep) ?_ ?_ ?_ ?_).mono (by omega)
    · rw [hwf.num]; show σe.num + 1 = i + 1; rw [ene]
    · rw [hwf.ms]; rfl
    · rw [hwf.mdf]; exact ede
    · rw [hwf.dm]; show σe.dm + 2 = σ.dm; rw [hwe.dm, hwd.dm, edmc]; exact edmb
 refine GoesM.sub (F := 1) (by omega) (stop_st' hE (St.aU5 A' tq n c W O cs J' i).last fun σb wb hwb => ?_)
 have emb : σb.ms = 0 := by rw [hwb.ms, ema]
 have hWb := hwb.j.inv.wgi
 obtain ⟨hwg, hW1⟩ := hWb.more emb
 have hv8 : c5 σb.num σb.wk < 8 := by
  have h1 := c5_le8 (n := σb.num) (wk := σb.wk)
  have h2 : σb.num = i := by rw [hwb.num, ena]
  omega
 have bU5 := St.bU5 A' tq n c W O cs J' i
 rw [hWg] at bU5
 have hst := step_add (P := Tryz.prog) (main := true) bU5 x84 hwb.j.cellSt hwb.j.thawSt
 rw [hwg, wrap_more hv8] at hst
 rw [hwg] at hW1
 have ey : c5 σb.num σb.wk * 4294967296 + 4294967296 = (c5 σb.num σb.wk + 1) * 4294967296 := by omega
 rw [ey] at hW1
 generalize hcv : c5 σb.num σb.wk = v at *
 have hdf : deafBehind σb.mdf #[⟨.cell (stA E), false, true⟩, ⟨.cell (stA E), true, true⟩] = 1 := by rw [hwb.mdf, eda]; rfl
 by_cases hv0 : v = 0
 · subst hv0
   rw [show (((0 + 1) * 4294967296 : Nat) : Int) = 4294967296 by decide] at hst
   have h4 : Four E (σb.st 1 1 4294967296 σb.ws) (wb.setCell (stA E) (.int .u64 4294967296)) := (Four.setSt hE hwb.j.four (x := 4294967296) (ms := 1) (wk := σb.wk)).toSt
   have hW1' : WInv 1 4294967296 σb.ws 0 (c43 σb.num σb.wk) (c2 σb.num σb.wk) := by
    have h := hW1
    rw [show (0 + 1) * 4294967296 = 4294967296 from rfl] at h
    exact h
   refine ⟨_, _, _, 1, 1, 4294967296, σb.ws, hst, hW1', .set (.inr (.inr (.inl rfl))), h4, (St.aU6 A' tq n c W O cs J' i).head, fun J2 => book0 J2 (book_cells [false, true]), hdf, Nat.le_refl _, fun e => by omega, fun hKb => ?_⟩
   clear hst h4
   have emc : (σb.st 1 1 4294967296 σb.ws).ms = 1 := rfl
   have edc : (σb.st 1 1 4294967296 σb.ws).mdf = 1 := rfl
   have edmc : (σb.st 1 1 4294967296 σb.ws).dm = σa.dm := hwb.dm
   generalize σb.st 1 1 4294967296 σb.ws = τb at *
   generalize wb.setCell (stA E) (.int .u64 4294967296) = wb' at *
   refine GoesM.sub (F := 120) (by omega) (run0M hcm (St.aU6 A' tq n c W O cs J' i) hKb.j fun σc wc hwc => ?_)
   have v6 := St.vU6 A' tq n c W O cs J' i
   rw [hWg] at v6
   refine GoesM.sub (F := 1) (by omega) (convM (a := smA E) (v := fun σ => .int .u32 (σ.ws : Int)) v6 (fun hJ => hJ.cellSm) (St.aU6 A' tq n c W O cs J' i).last fun σd wd hwd => ?_)
   have R7 := St.aU7 A' tq n c W O cs J' i
   have b7 := St.bU7 A' tq n c W O cs J' i
   have e7 : endR Tryz.prog St.cM 60 (fin (St.u6 A' tq n c W O cs J' i) (.pointer (some ⟨A'.Wg, 1, none⟩))) = St.u7 A' tq n c W O cs J' i := rfl
   rw [hWg] at R7 e7
   rw [hWg] at b7
   refine GoesM.sub (F := 60) (by omega) (run0M hcm R7 hwd.j fun σe we hwe => ?_)
   show GM E C WStop Stop _ σe (endR Tryz.prog St.cM 60 (fin (St.u6 A' tq n c W O cs J' i) (.pointer (some ⟨E.Wg, 1, none⟩)))) we
   rw [e7]
   have hwce := (hwc.trans hwd).trans hwe
   refine GoesM.sub (F := 1) (by omega) (stop_st' hE (by rw [<- e7]; exact R7.last) fun σf wf hwf => ⟨_, wf, _, 1, 1, σf.wg, σf.ws, step_markAt .read (by simp) b7 x70, ?_, .refl, hwf.j.fourSt, (St.aU8 A' tq n c W O cs J' i).head, fun J2 => ev0_said J2 .read (.inl rfl), ?_, Nat.le_refl _, fun e => by omega, fun hKf => ?_⟩)
   · have := hwf.j.inv.wgi
     rw [hwf.ms, hwce.ms, emc] at this; exact this
   · rw [hwf.mdf, hwce.mdf, edc]; rfl
   have emg : (σf.st 1 1 σf.wg σf.ws).ms = 1 := rfl
   have edg : (σf.st 1 1 σf.wg σf.ws).mdf = 1 := rfl
   have edmg : (σf.st 1 1 σf.wg σf.ws).dm = σe.dm := hwf.dm
   generalize σf.st 1 1 σf.wg σf.ws = τf at *
   refine GoesM.sub (F := 120) (by omega) (run0M hcm (St.aU8 A' tq n c W O cs J' i) hKf.j fun σg wg' hwg' => ?_)
   show GM E C WStop Stop _ σg (St.u8 A' tq n c W O cs J' i) wg'
   exact after (by omega) ((((hK6a.trans hKb).trans hwce.keep).trans hKf).trans hwg'.keep) (by rw [hwg'.ms, emg]) (by rw [hwg'.mdf, edg]) (by rw [hwg'.dm, edmg, hwce.dm, edmc]; exact edma) (St.aU8 A' tq n c W O cs J' i).last (St.eU9 A' tq n c W O cs J' i) (St.aUA A' tq n c W O cs J' i) rfl
 · have hmem : (v + 1) * 4294967296 ∈ St.some7 := some7_mem (by omega) (by omega)
   obtain ⟨y, hy⟩ : ∃ y, y = (v + 1) * 4294967296 := ⟨_, rfl⟩
   rw [<- hy] at hst hW1 hmem
   have o8 := map_all (St.oU8 A' tq n c W O cs J' i) y hmem
   have R8 : Run Tryz.prog St.cM 200 (fin (St.u5 A' tq n c W O cs J' i) (.int .u64 (y : Int))) := ⟨fun w => map_all (St.sU8 A' tq n c W O cs J' i w) y hmem, o8⟩
   refine ⟨_, _, _, 1, 1, y, σb.ws, hst, by first | exact hW1 | (rw [hcv]; exact hW1), .set (.inr (.inr (.inl rfl))), (Four.setSt hE hwb.j.four (x := y) (ms := 1) (wk := σb.wk)).toSt, R8.head, fun J2 => book0 J2 (book_cells [false, true]), hdf, Nat.le_refl _, fun e => by omega, fun hKb => ?_⟩
   clear hst
   have emc : (σb.st 1 1 y σb.ws).ms = 1 := rfl
   have edc : (σb.st 1 1 y σb.ws).mdf = 1 := rfl
   have edmc : (σb.st 1 1 y σb.ws).dm = σa.dm := hwb.dm
   generalize σb.st 1 1 y σb.ws = τb at *
   generalize wb.setCell (stA E) (.int .u64 ((y : Nat) : Int)) = wb' at *
   refine GoesM.sub (F := 200) (by omega) (run0M hcm R8 hKb.j fun σc wc hwc => ?_)
   show GM E C WStop Stop _ σc (St.u8' A' tq n c W O cs J' i y) wc
   have oA := map_all (St.oUA A' tq n c W O cs J' i) y hmem
   simp only [Prod.mk.injEq] at oA
   exact after (by omega) ((hK6a.trans hKb).trans hwc.keep) (by rw [hwc.ms, emc]) (by rw [hwc.mdf, edc]) (by rw [hwc.dm, edmc]; exact edma) R8.last (fun w => map_all (St.eU9' A' tq n c W O cs J' i w) y hmem) ⟨fun w => map_all (St.sUA A' tq n c W O cs J' i w) y hmem, oA.1⟩ oA.2
end
section
variable {E : Env} {C : Nat} {WStop : Nat -> Gh -> Goroutine -> World -> Prop} {Stop : Gh -> Goroutine -> World -> Prop} {A : Rd.Adr} {tq : Option Addr} {n c : Nat} {D : Tasks} {W O : Nat} {cs : List Frame}
noncomputable def f37 : Func := match Tryz.prog.funcs[49]? with | some f => f | none => default
noncomputable def c37 : Code := match f37.body with | some c => c | none => default
theorem f37_at : Tryz.prog.funcs[49]? = some f37 := by kernel_rfl
theorem f37_n : (f37.name == "runtime.NumGoroutine") = false := by kernel_rfl
theorem f37_b : f37.body = some c37 := by kernel_rfl
theorem uW_cs (A : Rd.Adr) (tq : Option Addr) (n c W O : Nat) (cs : List Frame) (J : Nat -> Value) (i : Nat) : (St.uW A tq n c W O cs J i).callers = cs := by kernel_rfl
theorem rest_m (hE : E.Ok) (hWg : A.Wg = E.Wg) (hW : W <= 8) {J' : Nat -> Value} {σ : Gh} {w : World} (hJ : J E σ w) (hD : DM E A tq n c D σ w) (hnum : σ.num = W) (hms : σ.ms = 0) (hmd : σ.mdf = 0) (hdm : σ.dm = 0)
  (hstop : ∀ σ' w' J2, J E σ' w' -> DM E A tq n c D σ' w' -> σ'.num = W -> σ'.ms = 5 -> σ'.mdf = 0 -> σ'.dm = 0 -> Stop σ' (Wt.back (St.uW A tq n c W O cs J2 W).frame cs) w') : GM E C WStop Stop 12000 σ (St.PH A tq n c W O cs J' W) w := by
 refine GoesM.sub (F := 1) (by omega) (oneM (St.eU0 A tq n c W O cs J' W) (St.rPH A tq n c W O cs J' W) (St.aUW A tq n c W O cs J' W).head fun σ₁ w₁ hw1 => ?_)
 refine GoesM.sub (F := 60) (by omega) (run0M (fun f d z hz => St.vP_ok (W := W) (i := W) (by simp) hz) (St.aUW A tq n c W O cs J' W) hw1.j fun σ₂ w₂ hw2 => ?_)
 show GM E C WStop Stop _ σ₂ (St.uW A tq n c W O cs J' W) w₂
 have hw02 := hw1.trans hw2
 have hst := fun w => step_call (P := Tryz.prog) (main := true) (St.bUW A tq n c W O cs J' W) f37_at f37_n f37_b w
 rw [uW_cs, hWg] at hst
 generalize hfr : (St.uW A tq n c W O cs J' W).frame = fr at *
 have hfr' : fr = (St.uW A tq n c W O cs J' W).frame := hfr.symm
 refine GoesM.sub (F := 1) (by omega) (oneM hst (St.aUW A tq n c W O cs J' W).last (Wt.a0 E.Wg fr cs).head fun σ₃ w₃ hw3 => ?_)
 refine GoesM.sub (F := 60) (by omega) (run0M Wt.cM_ok (Wt.a0 E.Wg fr cs) hw3.j fun σ₄ w₄ hw4 => ?_)
 show GM E C WStop Stop _ σ₄ (Wt.g0 E.Wg fr cs) w₄
 have hw04 := (hw02.trans hw3).trans hw4
 refine GoesM.sub (F := 1) (by omega) (stop_st' hE (Wt.a0 E.Wg fr cs).last fun σ₅ w₅ hw5 => ⟨_, w₅, _, 0, 1, σ₅.wg, σ₅.ws, step_mark .disable (by simp) (Wt.b0 E.Wg fr cs) x49, ?_, .refl, hw5.j.fourSt, (Wt.ah E.Wg fr cs).head, fun J2 => book0 J2 (one_ev .dis), by rw [hw5.mdf, hw04.mdf, hmd]; rfl, Nat.le_refl _, fun e => by omega, fun hK5 => ?_⟩)
 · have := hw5.j.inv.wgi
   rw [hw5.ms, hw04.ms, hms] at this; exact this
 have em5 : (σ₅.st 0 1 σ₅.wg σ₅.ws).ms = 0 := rfl
 have ed5 : (σ₅.st 0 1 σ₅.wg σ₅.ws).mdf = 1 := rfl
 generalize σ₅.st 0 1 σ₅.wg σ₅.ws = τ5 at *
 refine GoesM.sub (F := 80) (by omega) (run0M (by intro f d x h; cases h) (Wt.ah E.Wg fr cs) hK5.j fun σ₆ w₆ hw6 => ?_)
 show GM E C WStop Stop _ σ₆ (Wt.gh E.Wg fr cs) w₆
 rw [Wt.hh]
 have hK06 := (hw04.keep.trans hK5).trans hw6.keep
 refine (wait_m (m := 0) (fr := fr) (cs := cs) (σ0 := σ) (w0 := w) hE (fun σ' w' hK' h5 h0 => ?_) 8 _ σ₆ w₆ hK06 (.inl (by rw [hw6.ms, em5])) (by rw [hw6.mdf, ed5]) (c5_le8' hw6.j.inv.num)).mono (by omega)
 intro σ₁ w₁ hr
 have hr : R0 E σ' w' σ₁ w₁ := hr
 have hK := hK'.trans hr.keep
 rw [hfr']
 exact hstop σ₁ w₁ J' hr.j (hD.keep hK) (by rw [hK.num, hnum]) (by rw [hr.ms]; exact h5) (by rw [hr.mdf]; exact h0) (by have := hK.dm; omega)
theorem starter_m (hE : E.Ok) (hSh : ∀ ad, E.Shun (.cell ad) -> ad.block < E.base) (hC : 700 + (200 + 1) * rnd 200 + 60 <= C)
  (hw : ∀ k σ w g, (σ.wk k).fin = 1 -> (σ.wk k).due = 0 -> (σ.wk k).df = 1 -> QuitsD Tryz.prog 200 1 g -> WStop (k + 1) σ g w) (hW : W <= 8)
  (hstop : ∀ σ' w' J2, J E σ' w' -> DM E A tq n c D σ' w' -> σ'.num = W -> σ'.ms = 5 -> σ'.mdf = 0 -> σ'.dm = 0 -> Stop σ' (Wt.back (St.uW A tq n c W O cs J2 W).frame cs) w') :
  ∀ (r i : Nat) (J' : Nat -> Value) (σ : Gh) (w : World), i + r = W -> J E σ w -> DM E A tq n c D σ w -> σ.num = i -> σ.ms = 0 -> σ.mdf = 0 -> σ.dm = 2 * r -> GM E C WStop Stop (12000 + 1200 * r) σ (St.PH A tq n c W O cs J' i) w
 | 0, i, J', σ, w, hi, hJ, hD, hn, hm, hd, hdm => by
  obtain rfl : i = W := by omega
  exact rest_m hE hD.wg hW hJ hD hn hm hd hdm hstop
 | r + 1, i, J', σ, w, hi, hJ, hD, hn, hm, hd, hdm => by
  refine (round_m (m := 12000 + 1200 * r) hE hSh hC hw (by omega) hW hJ hD hn hm hd (by omega) fun σ' w' J2 h1 h2 h3 h4 h5 h6 => ?_).mono (by omega)
  exact starter_m hE hSh hC hw hW hstop r (i + 1) J2 σ' w' (by omega) h1 h2 h3 h4 h5 (by omega)
end
def FinX (P : Program) (Post : Value -> World -> Prop) (S : Nat -> Prop) (X : MemAct -> Prop) (g : Goroutine) (w : World) : Prop :=
 ∀ gs sl t q, gs[0]? = some g -> Leavers P t gs q -> Past (ShL S) w.heap.size t -> Own gs.size t -> (∀ op ∈ t, X op.act) -> EndsWell P Post (crowd gs w sl) t
section
variable {P : Program} {Post : Value -> World -> Prop} {S : Nat -> Prop} {X : MemAct -> Prop} {g : Goroutine} {w : World}
theorem own_X {X : MemAct -> Prop} {t : Trace} (h : ∀ op ∈ t, X op.act) {k : Nat} {fn : FuncId} {pos : String} {es : Array Event} (he : ∀ e ∈ es, X (.ofEvent e)) : ∀ op ∈ t ++ MemOp.ofEvents k fn pos es, X op.act := fun op hop => by
 rcases Array.mem_append.1 hop with hop | hop
 · exact h op hop
 · obtain ⟨e, hm, rfl⟩ := Go.Conc.mem_ofEvents hop
   exact he e hm
theorem FinX.step (hX : ∀ e : Event, e.mute = true -> X (.ofEvent e)) (hrun : g.status = .running) (h : ∀ d, ∃ g' w' es, stepG P true g (w.at d) = .go g' w' es /\ (∀ e ∈ es, EvL (ShL S) w'.heap.size e /\ X (.ofEvent e)) /\ w.heap.size <= w'.heap.size /\ FinX P Post S X g' w') : FinX P Post S X g w := by
 intro gs sl t q
 generalize hM : sumTo gs.size q = M
 induction M using Nat.strongRecOn generalizing gs sl t q w with
 | _ M ih =>
  intro h0 hL hP hO hT
  have hlt0 : 0 < gs.size := (Array.getElem?_eq_some_iff.1 h0).1
  have haw : ∀ g ∈ gs, awake g := by
   intro x hx
   obtain ⟨i, hi, rfl⟩ := Array.mem_iff_getElem.1 hx
   rcases Nat.eq_zero_or_pos i with rfl | hpos
   · have : gs[0] = g := by simpa [Array.getElem?_eq_getElem hi] using h0
     rw [this]; exact awake_of (.inl hrun)
   · exact awake_of ((hL.old i _ hpos (Array.getElem?_eq_getElem hi)).status.elim .inl fun x => .inr (.inr x))
  obtain ⟨i, x, d, sl', hi, hx, hst⟩ := crowd_pick (P := P) (w := w) (sl := sl) haw ⟨0, g, h0, hrun⟩
  have hlt : i < gs.size := (Array.getElem?_eq_some_iff.1 hi).1
  rcases Nat.eq_zero_or_pos i with rfl | hpos
  · obtain rfl : x = g := by rw [h0] at hi; exact (Option.some.inj hi).symm
    obtain ⟨g', w', es, hs, hev, hsz, hf⟩ := h d
    have hr := runT_crowd_go (P := P) (sl := sl') (i := 0) hi (show stepG P (0 == 0) x (w.at d) = _ from hs)
    refine EndsWell.step (hst.trans hr) (hf _ _ _ q (by simp [hlt0]) ⟨fun j y hj hy => ?_, fun j hj => ?_⟩ ((hP.mono hsz).own fun e he => (hev e he).1) ?_ (own_X hT fun e he => (hev e he).2))
    · have hne : j ≠ 0 := by omega
      obtain ⟨z, hz, rfl⟩ : ∃ z, gs[j]? = some z /\ y = woken P x g' w' z := by
       rw [Array.getElem?_setIfInBounds_ne (Ne.symm hne), Array.getElem?_map] at hy
       obtain ⟨z, hz, rfl⟩ := Option.map_eq_some_iff.1 hy
       exact ⟨z, hz, rfl⟩
      have hq := hL.old j z hj hz
      rw [woken_quitsD hq, Deaf_other t (g := j) (g' := 0) (by omega) _ (fun op hop => by obtain ⟨e, _, rfl⟩ := Go.Conc.mem_ofEvents hop; rfl)]
      exact hq
    · rw [Deaf_other t (g' := 0) (by simp at hj; omega) _ (fun op hop => by obtain ⟨e, _, rfl⟩ := Go.Conc.mem_ofEvents hop; rfl)]
      exact hL.above j (by simpa using hj)
    · have : ((gs.map (woken P x g' w')).setIfInBounds 0 g').size = gs.size := by simp
      rw [this]
      exact hO.app (own_ev hlt)
  · have hq := hL.old i x hpos hi
    have hi0 : (i == 0) = false := by simp; omega
    cases hqi : q i with
    | zero => rw [hqi] at hq; rw [hq.1] at hx; cases hx
    | succ k =>
     rw [hqi] at hq
     rcases hq with ⟨hf, _⟩ | ⟨_, g', es, hm, hstp, hq'⟩
     · rw [hf] at hx; cases hx
     have hr := runT_crowd_go (P := P) (sl := sl') (i := i) hi (by rw [hi0]; exact hstp (w.at d))
     have hsz : ((gs.map (woken P x g' (w.at d))).setIfInBounds i g').size = gs.size := by simp
     refine EndsWell.step (hst.trans hr) (ih (sumTo gs.size (upd q i k)) (by rw [<- hM]; exact sumTo_less hlt (by omega)) (w := w.at d) (fun d' => h d') _ _ _ (upd q i k) (by rw [hsz]) ?_ ⟨fun j y hj hy => ?_, fun j hj => ?_⟩ (hP.mute (by omega) hm) ?_ (own_X hT fun e he => hX e (hm e he)))
     · have hne : i ≠ 0 := by omega
       rw [Array.getElem?_setIfInBounds_ne hne, Array.getElem?_map, h0]
       simp [woken_run hrun]
     · by_cases hji : i = j
       · subst hji
         rw [Array.getElem?_setIfInBounds_self_of_lt (by simpa using hlt)] at hy
         obtain rfl := Option.some.inj hy
         rw [upd_same, Deaf_own]
         exact hq'
       · rw [Array.getElem?_setIfInBounds_ne hji, Array.getElem?_map] at hy
         obtain ⟨z, hz, rfl⟩ := Option.map_eq_some_iff.1 hy
         have hqj := hL.old j z hj hz
         rw [woken_quitsD hqj, upd_ne q k (Ne.symm hji), Deaf_other t hji _ (fun op hop => by obtain ⟨e, _, rfl⟩ := Go.Conc.mem_ofEvents hop; rfl)]
         exact hqj
     · rw [Deaf_other t (g' := i) (by simp at hj; omega) _ (fun op hop => by obtain ⟨e, _, rfl⟩ := Go.Conc.mem_ofEvents hop; rfl)]
       exact hL.above j (by simpa using hj)
     · rw [hsz]; exact hO.app (own_ev hlt)
def FinA (P : Program) (Post : Value -> World -> Prop) (S : Nat -> Prop) (X : MemAct -> Prop) (g : Goroutine) (w : World) : Prop := ∀ d, FinX P Post S X g (w.at d)
theorem FinA.step (hX : ∀ e : Event, e.mute = true -> X (.ofEvent e)) (hrun : isRun g = true) {g' : Goroutine} {w' : World -> World} {es : Array Event} (hs : ∀ d, stepG P true g (w.at d) = .go g' (w' (w.at d)) es) (hw : ∀ d, ∃ d', w' (w.at d) = (w' w).at d')
  (he : ∀ e ∈ es, EvL (ShL S) (w' w).heap.size e /\ X (.ofEvent e)) (hsz : w.heap.size <= (w' w).heap.size) (h : FinA P Post S X g' (w' w)) : FinA P Post S X g w := fun d0 =>
 FinX.step hX (isRun_out hrun).1 fun d => by
  obtain ⟨d', hd'⟩ := hw d
  refine ⟨g', w' (w.at d), es, hs d, fun e hm => ?_, ?_, ?_⟩
  · rw [hd']; exact he e hm
  · rw [hd']; exact hsz
  · rw [hd']; exact h d'
theorem FinA.quiet (hX : ∀ e : Event, e.mute = true -> X (.ofEvent e)) (hrun : isRun g = true) {g' : Goroutine} (hs : ∀ w, stepG P true g w = .go g' w #[]) (h : FinA P Post S X g' w) : FinA P Post S X g w :=
 FinA.step hX hrun (w' := id) (fun d => hs _) (fun d => ⟨d, rfl⟩) (fun e he => by simp at he) (Nat.le_refl _) h
structure KnF (S : Nat -> Prop) (X : MemAct -> Prop) (w : World) (ad : Addr) (v : Value) : Prop where
 cell : w.cell? ad = some v
 live : ¬ S ad.block
 lt : ad.block < w.heap.size
 ok : X (.ofEvent ⟨.cell ad, false, false⟩)
theorem evl_cell {B : Nat} {ad : Addr} {wr : Bool} (h : ¬ S ad.block) (hb : ad.block < B) : EvL (ShL S) B ⟨.cell ad, wr, false⟩ :=
 ⟨fun x hx hs => by
  simp only [MemAct.ofEvent, MemAct.touch?, Option.some.injEq] at hx
  subst hx
  obtain ⟨a', e, hb⟩ := hs
  cases e
  exact absurd hb h, by simp, by simp, hb⟩
theorem FinA.load (hX : ∀ e : Event, e.mute = true -> X (.ofEvent e)) (hrun : isRun g = true) {ad : Addr} {v : Value} (hl : isLoad P g = some (false, ad)) (hk : KnF S X w ad v) (h : FinA P Post S X (fin g v) w) : FinA P Post S X g w :=
 FinA.step hX hrun (w' := id) (fun d => step_load hl hk.cell) (fun d => ⟨d, rfl⟩) (fun e he => by
  split at he
  · simp at he
  · simp only [List.mem_toArray, List.mem_cons, List.not_mem_nil, or_false] at he
    subst he
    exact ⟨evl_cell hk.live hk.lt, hk.ok⟩) (Nat.le_refl _) h
theorem FinA.run (hX : ∀ e : Event, e.mute = true -> X (.ofEvent e)) {c : Par} (hc : c.main = true) (hv : c.Ok) : ∀ (F : Nat) {g : Goroutine}, Run P c F g -> (∀ x ∈ ldsR P c F g, KnF S X w x.2.1 x.2.2) -> FinA P Post S X (endR P c F g) w -> FinA P Post S X g w
 | 0, g, hq, hx, h => h
 | F + 1, g, hq, hx, h => by
  cases hl : stopR P c g with
  | true => simpa only [endR, hl, cond_true] using h
  | false =>
   obtain ⟨hs, hq'⟩ := hq.step hl
   have hr : isRun g = true := by
    have := hq.run
    obtain ⟨fr, cs, st, dy, off⟩ := g
    simp only at this
    obtain ⟨rfl, rfl⟩ := this
    rfl
   have rest : ∀ x ∈ ldsR P c F (nxR P c g), KnF S X w x.2.1 x.2.2 := fun x hm => hx x (by
    simp only [ldsR, hl, cond_false]
    split
    · exact hm
    · split
      · exact List.mem_cons_of_mem _ hm
      · exact hm)
   have cont : FinA P Post S X (nxR P c g) w := by
    refine FinA.run hX hc hv F hq' rest ?_
    simpa only [endR, hl, cond_false] using h
   cases hd0 : vlR c g with
   | some x =>
    rw [show nxR P c g = fin g x.1 by unfold nxR; rw [hd0]] at cont hq'
    refine FinA.quiet hX hr (fun w => ?_) cont
    have hs1 := hs w
    simp only [stpR, wntR, hd0] at hs1
    rw [hc, <- vlR_ok hv hd0] at hs1
    exact hs1
   | none =>
   cases hd : ldR P c g with
   | none =>
    rw [show nxR P c g = nextQ P true g by unfold nxR; rw [hd0, hd, hc]] at cont hq'
    refine FinA.quiet hX hr (fun w => ?_) cont
    have hs1 := hs w
    simp only [stpR, wntR, hd0, hd] at hs1
    rw [hc] at hs1
    exact hs1
   | some x =>
    rw [show nxR P c g = fin g x.2 by unfold nxR; rw [hd0, hd]] at cont hq'
    refine FinA.load hX hr (ldR_load hd) (hx (g.frame.fn, x.1, x.2) (by
     simp only [ldsR, hl, cond_false, hd0, hd]
     exact List.mem_cons_self ..)) cont
theorem FinA.run0 (hX : ∀ e : Event, e.mute = true -> X (.ofEvent e)) {c : Par} (hv : c.Ok) {F : Nat} (hR : Run P c F g) (h : FinA P Post S X (endR P c F g) w) (hc : c.main = true := by rfl) (ho : c.O = noOrc := by rfl) : FinA P Post S X g w :=
 FinA.run hX hc hv F hR (by rw [ldsR_none ho]; intro x hx; cases hx) h
theorem FinA.new (hX : ∀ e : Event, e.mute = true -> X (.ofEvent e)) (hrun : isRun g = true) {vs : Array Value} {t : TypeId} (hg : isNew P g = some (vs, t)) (h : FinA P Post S X (fin g (.pointer (some ⟨w.heap.size, 0, none⟩))) (World.more w (.cells vs t))) : FinA P Post S X g w :=
 FinA.step hX hrun (w' := fun w => World.more w (.cells vs t)) (fun d => step_new hg) (fun d => ⟨d, rfl⟩) (fun e he => by simp at he) (by show _ <= (w.heap.push _).size; rw [Array.size_push]; exact Nat.le_succ _) h
theorem FinA.store (hX : ∀ e : Event, e.mute = true -> X (.ofEvent e)) (hrun : isRun g = true) {ad : Addr} {v u : Value} (hg : isStore P g = some (ad, v)) (hc : w.cell? ad = some u) (hz : w.frozen? ad = false) (hs : ¬ S ad.block) (hlt : ad.block < w.heap.size) (hx : X (.ofEvent ⟨.cell ad, true, false⟩))
  (h : FinA P Post S X (fin g undef) (w.setCell ad v)) : FinA P Post S X g w :=
 FinA.step hX hrun (w' := fun w => w.setCell ad v) (fun d => step_store hg hc hz) (fun d => ⟨d, rfl⟩) (fun e he => by
  split at he
  · simp at he
  · simp only [List.mem_toArray, List.mem_cons, List.not_mem_nil, or_false] at he
    subst he
    exact ⟨evl_cell hs (by rw [size_set]; exact hlt), hx⟩) (by rw [size_set]; exact Nat.le_refl _) h
end
open Go.ConcM (OsLater)
def Off (H : Nat -> Prop) (act : MemAct) : Prop := (∀ x ad, act.touch? = some x -> x.loc = .cell ad -> ¬ H ad.block) /\ ∀ ad, act = .mark (.release ad) -> ¬ H ad.block
section
variable {H : Nat -> Prop}
theorem off_mute (e : Event) (h : e.mute = true) : Off H (.ofEvent e) := by
 refine ⟨fun x ad hx => (by rw [touch_mute h] at hx; cases hx), fun ad he => ?_⟩
 have := low_mute h 0
 rw [he] at this
 exact absurd this (Nat.not_lt_zero _)
theorem off_cell {ad : Addr} {wr : Bool} (h : ¬ H ad.block) : Off H (.ofEvent ⟨.cell ad, wr, false⟩) := ⟨fun x a hx hl => by
 simp only [MemAct.ofEvent, MemAct.touch?, Option.some.injEq] at hx
 subst hx
 cases hl
 exact h, fun a he => by simp [MemAct.ofEvent] at he⟩
theorem off_low {B : Nat} {act : MemAct} (h : act.low B) (hH : ∀ b, H b -> B <= b) : Off H act := ⟨fun x ad hx hl hb => by
 have := low_touch h hx hl
 have := hH _ hb
 omega, fun ad he hb => by
 subst he
 have h : ad.block < B := h
 have := hH _ hb
 omega⟩
theorem TL.of_off {Sync Pay Shun : Loc -> Prop} {aw : Addr} {m0 : Nat} {low : Nat -> Nat} {rel : Nat -> Prop} {wr : Loc -> Prop} {hs : Nat} {t : Trace} (h : Past Shun hs t) (ap : ∀ l, Sync l -> ¬ Pay l) (hS : ∀ l, Sync l -> ∃ a, l = .cell a /\ H a.block) (hP : ∀ l, Pay l -> ∃ a, l = .cell a /\ H a.block) (haw : H aw.block)
  (hX : ∀ op ∈ t, Off H op.act) (hg : ∀ (i : Nat) (op : MemOp), t[i]? = some op -> op.g <= m0) :
  TL Sync Pay Shun aw m0 0 low rel wr (fun _ _ => False) hs t := by
 have off : ∀ {i a}, touchAt t i = some a -> ∀ ad, a.loc = .cell ad -> ¬ H ad.block := by
  intro i a ha ad e
  obtain ⟨op, ho, hoa⟩ := touch_of ha
  exact (hX op (mem_of_getElem? ho)).1 _ _ hoa e
 refine ⟨ap, ⟨fun _ _ h => h.elim, fun _ _ h => h.elim, fun _ _ h => h.elim, fun _ _ _ h => h.elim⟩, h.clean, fun i a ha hs' => ?_, fun i a ha hp => ?_, fun _ _ _ _ h => h.elim, fun i a ha hm hs' hp _ => ?_, fun k hk => absurd hk (Nat.not_lt_zero _), fun i e => ?_, fun i op hi => by have := hg i op hi; omega, fun i g hgi hne hle hc => h.over i g hgi hne hc, h.seen⟩
 · obtain ⟨ad, e, hge⟩ := hS _ hs'
   exact absurd hge (off ha ad e)
 · obtain ⟨ad, e, hge⟩ := hP _ hp
   exact absurd hge (off ha ad e)
 · rcases h.known i a ha hm with hk | hk
   · exact .inl ⟨hk, fun _ k hk => absurd hk (Nat.not_lt_zero _)⟩
   · exact .inr (.inl hk)
 · obtain ⟨op, ho, hoa⟩ := Option.map_eq_some_iff.1 e
   exact (hX op (mem_of_getElem? ho)).2 _ hoa haw
end
def WS (k : Nat) (σ : Gh) (g : Goroutine) (w : World) : Prop := match k with
 | 0 => False
 | k + 1 => (σ.wk k).fin = 1 /\ (σ.wk k).due = 0 /\ (σ.wk k).df = 1 /\ QuitsD Tryz.prog 200 1 g
theorem goes_stop {E : Env} {k n : Nat} {σ : Gh} {g : Goroutine} {w : World} (hJ : J E σ w) (hf : (σ.wk k).fin = 1) (h : GoesW Tryz.prog (proto E Tryz.prog) (k + 1) (WS (k + 1)) n σ g w) : WS (k + 1) σ g w := by
 have hR := rules E Tryz.prog
 have refl : (proto E Tryz.prog).R (k + 1) σ w σ w := hR.draw hJ w.drawn
 cases n with
 | zero => exact h σ w refl
 | succ n =>
  rcases h with h | ⟨_, _, h⟩
  · exact h σ w refl
  · rcases h σ w refl with ⟨g', w', es, σ', _, hd, _⟩ | ⟨hw, _⟩
    · exact absurd hf (hd : DW E Tryz.prog k σ w g es σ' w' g').alive
    · exact absurd hf (hw : (σ.wk k).lk = .qd /\ σ.mx.sm = 0 /\ (σ.wk k).fin ≠ 1).2.2
theorem privC_zero {σ : Gh} (h : ∀ b, σ.pv b = 0) : privC σ = fun _ _ => False := by
 funext l k
 refine propext ⟨fun ⟨a, _, e⟩ => ?_, fun h => h.elim⟩
 rw [h] at e
 omega
theorem crew_fin {E : Env} (hE : E.Ok) {S : Nat -> Prop} (hSh : E.Shun = ShL S) {Stop : Gh -> Goroutine -> World -> Prop} (hstop : ∀ σ g w, Stop σ g w -> g.status = .running /\ σ.ms = 5 /\ σ.mdf = 0) {C n0 : Nat} {σ0 : Gh} {w : World} {g : Goroutine} (h0 : σ0.num = 0) (hJ : J E σ0 w) (hm5 : σ0.ms ≠ 5) (hmdf : σ0.mdf = 0) (hpv : ∀ b, σ0.pv b = 0)
  (hgo : GM E C WS Stop n0 σ0 g w) {Post : Value -> World -> Prop}
  (hcont : ∀ σ g w, Stop σ g w -> J E σ w -> (∀ k, k < σ.num -> (σ.wk k).fin = 1 /\ (σ.wk k).due = 0) -> FinW Tryz.prog Post (fun b => S b \/ b = E.Mu \/ b = E.Nx \/ b = E.Wg) g w)
  {gs : Array Goroutine} {sl : Option (Nat × Nat)} {t : Trace} {q : Nat -> Nat} (hgs : gs.size = E.m0 + 1) (hg0 : gs[0]? = some g) (hL : Leavers Tryz.prog t gs q) (hP : Past (ShL S) w.heap.size t) (hO : Own gs.size t) (hX : ∀ op ∈ t, Off E.Hot op.act) : EndsWell Tryz.prog Post (crowd gs w sl) t := by
 have hR := rules E Tryz.prog
 have hS : Stops Tryz.prog (proto E Tryz.prog) 200 WS Stop := ⟨fun {k σ g w} h => by
  cases k with
  | zero => exact h.elim
  | succ k =>
   obtain ⟨h1, h2, h3, h4⟩ := h
   exact ⟨⟨h1, h2⟩, 200, Nat.le_refl _, by show QuitsD Tryz.prog 200 (σ.wk k).df g; rw [h3]; exact h4⟩, fun {σ g w} h => (hstop σ g w h).1⟩
 have crew : Crew Tryz.prog (proto E Tryz.prog) (TI E) E.m0 200 WS σ0 gs w t q := {
  size := by show gs.size = E.m0 + σ0.num + 1; rw [h0]; exact hgs
  J := hJ
  ti := ⟨by
   rw [h0, privC_zero hpv, hSh, <- hJ.size]
   refine TL.of_off (H := E.Hot) hP (fun l h1 h2 => ?_) (fun l h => ?_) (fun l h => ?_) (.inr (.inr (.inl rfl))) hX fun i op hi => ?_
   · obtain ⟨a, e, hb⟩ := h1
     obtain ⟨a', e', hb'⟩ := h2
     rw [e] at e'
     cases e'
     rcases hb with hb | hb | hb
     · exact hE.mo (hb.symm.trans hb')
     · exact hE.no (hb.symm.trans hb')
     · exact hE.wo (hb.symm.trans hb')
   · obtain ⟨a, e, hb⟩ := h
     exact ⟨a, e, hb.elim .inl fun h => h.elim (fun h => .inr (.inl h)) fun h => .inr (.inr (.inl h))⟩
   · obtain ⟨a, e, hb⟩ := h
     exact ⟨a, e, .inr (.inr (.inr hb))⟩
   · have := hO i op hi
     omega, fun h => absurd h hm5⟩
  deaf0 := by rw [hP.hears]; exact hmdf.symm
  above := fun j hj => hL.above j (by have hj : E.m0 + σ0.num < j := hj; omega)
  old := fun k g h1 h2 hg => hL.old k g h1 hg
  wk := fun k g h1 h2 => by have h2 : k <= σ0.num := h2; omega }
 obtain ⟨N, gs', a', w', sl', t', σ', f', r1, r2, r3, cr⟩ := crew_runs hR hS _ _ gs w sl t σ0 q n0 g rfl rfl hg0 crew (.inl hgo)
 refine EndsWell.steps r1 ?_
 obtain ⟨hrun, hms, hdf⟩ := hstop _ _ _ r3
 have hJ' : J E σ' w' := cr.J
 have hfin := hJ'.inv.allQuit (by rw [hms]; omega)
 have hsz : gs'.size = E.m0 + σ'.num + 1 := cr.size
 have stop : ∀ k g, k < σ'.num -> gs'[E.m0 + (k + 1)]? = some g -> ((σ'.wk k).due = 0 /\ ∃ q, QuitsD Tryz.prog q (Deaf t' (E.m0 + (k + 1))) g) := by
  intro k g hk hg
  rcases cr.wk (k + 1) g (by omega) (by show k + 1 <= σ'.num; omega) hg with ⟨n, _, e2, hs⟩ | ⟨hq, hd⟩
  · rcases hs with hs | ⟨g0, _, _, _, hw, _⟩
    · obtain ⟨h1, h2, h3, h4⟩ := goes_stop hJ' (hfin k hk) hs
      refine ⟨h2, 200, ?_⟩
      rw [e2]
      show QuitsD Tryz.prog 200 (σ'.wk k).df g
      rw [h3]; exact h4
    · exact absurd (hfin k hk) (hw : (σ'.wk k).lk = .qd /\ σ'.mx.sm = 0 /\ (σ'.wk k).fin ≠ 1).2.2
  · exact ⟨hq.2, _, hd⟩
 have hq : ∀ k, k < σ'.num -> (σ'.wk k).fin = 1 /\ (σ'.wk k).due = 0 := fun k hk => by
  have hlt : E.m0 + (k + 1) < gs'.size := by omega
  exact ⟨hfin k hk, (stop k _ hk (Array.getElem?_eq_getElem hlt)).1⟩
 have hti : TI E σ' t' := cr.ti
 have hd0 : Deaf t' 0 = 0 := by rw [cr.deaf0]; exact hdf
 obtain ⟨qa, a1, a2, a3, a4⟩ := hti.acq hms
 have hpast := hti.tl.past a1 a2 a3 a4 hd0
 refine hcont σ' a' w' r3 hJ' hq gs' sl' t' (fun i => Classical.epsilon fun q => ∀ g, gs'[i]? = some g -> QuitsD Tryz.prog q (Deaf t' i) g) r2 ⟨fun i g hi hg => ?_, fun j hj => cr.above j (by show E.m0 + σ'.num < j; omega)⟩ ?_ fun i op hi => ?_
 · have ex : ∃ q, ∀ g, gs'[i]? = some g -> QuitsD Tryz.prog q (Deaf t' i) g := by
    by_cases hm : i <= E.m0
    · exact ⟨f' i, fun g hg => cr.old i g hi hm hg⟩
    · obtain ⟨k, rfl⟩ : ∃ k, i = E.m0 + (k + 1) := ⟨i - E.m0 - 1, by omega⟩
      have hlt := (Array.getElem?_eq_some_iff.1 hg).1
      obtain ⟨_, q, hq⟩ := stop k g (by omega) hg
      exact ⟨q, fun g' hg' => by rw [hg] at hg'; cases hg'; exact hq⟩
   exact Classical.epsilon_spec ex g hg
 · have e : (fun l => E.Shun l \/ E.Sync l) = ShL fun b => S b \/ b = E.Mu \/ b = E.Nx \/ b = E.Wg := by
    funext l
    rw [hSh]
    refine propext ⟨fun h => ?_, fun ⟨a, e, h⟩ => ?_⟩
    · rcases h with ⟨a, e, h⟩ | ⟨a, e, h⟩
      · exact ⟨a, e, .inl h⟩
      · exact ⟨a, e, .inr h⟩
    · rcases h with h | h
      · exact .inl ⟨a, e, h⟩
      · exact .inr ⟨a, e, h⟩
   rw [<- e, hJ'.size]
   exact hpast
 · have := hti.tl.gs i op hi
   omega
section
variable (E : Env) (hs W : Nat)
def gh0 : Gh := { num := 0, wk := fun _ => {}, mx := {}, nx := 0, ms := 0, mdf := 0, wg := 0, ws := 0, writ := fun _ => false, hs := hs, pv := fun _ => 0, dm := 2 * W }
variable {E hs W}
theorem inv0 {n : Nat} : Inv n (gh0 hs W) where
 mx := ⟨Nat.zero_le 1, Nat.zero_le 1, Nat.zero_le 1, rfl, fun _ => rfl, fun h => absurd (show (0 : Nat) = 1 from h) (by decide), fun _ => rfl, fun h => absurd (show (0 : Nat) = 1 from h) (by decide), fun _ _ _ h => absurd (show (0 : Nat) < 0 from h) (Nat.not_lt_zero _)⟩
 wgi := (⟨fun _ => ⟨rfl, rfl, by simp, rfl⟩, fun h => absurd h (by decide), fun h => absurd h (by decide)⟩ : WInv 0 0 0 0 0 0)
 lkf := fun k hk => absurd hk (Nat.not_lt_zero _)
 done := fun i _ h => absurd h (Nat.not_lt_zero _)
 uniq := fun j k hj => absurd hj (Nat.not_lt_zero _)
 pw := fun k hk => absurd hk (Nat.not_lt_zero _)
 wfut := fun i h => absurd (show false = true from h) (by decide)
 fin := fun k hk => absurd hk (Nat.not_lt_zero _)
 all := fun k hk => absurd hk (Nat.not_lt_zero _)
 low := fun k hk => absurd hk (Nat.not_lt_zero _)
 num := Nat.zero_le _
 nb := Nat.zero_le _
end
def adr (N : Nat) : Rd.Adr := { Mu := N + 4, Nx := N + 3, Wg := N + 5, T := N, S := N + 6, V := N + 2, bw := 0, bf := 0 }
def envP (w : World) (n W m0 : Nat) (D : Tasks) (S : Nat -> Prop) : Env :=
 { Mu := w.heap.size + 4, Nx := w.heap.size + 3, Wg := w.heap.size + 5, O := w.heap.size + 1, tM := 93, tN := 87, tW := 98, tO := 3, n := n, base := w.heap.size, m0 := m0, val := fun i => (D.zs i).foldl pairF 0, cost := fun i => 3 * (D.zs i).length,
   tot := w.heap.size + 7 + 2 * W + sumTo n fun i => 3 * (D.zs i).length, w0 := w, Shun := ShL S }
theorem envP_ok {w : World} {n W m0 : Nat} {D : Tasks} {S : Nat -> Prop} (hn : n <= 1) : (envP w n W m0 D S).Ok where
 mn := by show w.heap.size + 4 ≠ w.heap.size + 3; omega
 mw := by show w.heap.size + 4 ≠ w.heap.size + 5; omega
 mo := by show w.heap.size + 4 ≠ w.heap.size + 1; omega
 nw := by show w.heap.size + 3 ≠ w.heap.size + 5; omega
 no := by show w.heap.size + 3 ≠ w.heap.size + 1; omega
 wo := by show w.heap.size + 5 ≠ w.heap.size + 1; omega
 lm := by show w.heap.size <= w.heap.size + 4; omega
 ln := by show w.heap.size <= w.heap.size + 3; omega
 lw := by show w.heap.size <= w.heap.size + 5; omega
 lo := by show w.heap.size <= w.heap.size + 1; omega
 n := hn
structure Given (S : Nat -> Prop) (w : World) (tq : Option Addr) (n : Nat) (D : Tasks) : Prop where
 el : ∀ i, i < n -> ∃ ad, tq = some ad /\ w.cell? (ad.add (i * 1)) = some (.slice (D.p i) (D.zs i).length (D.cap i)) /\ (ad.add (i * 1)).block < w.heap.size /\ ¬ S (ad.add (i * 1)).block
 nums : ∀ i, i < n -> ∀ j, j < (D.zs i).length -> ∃ ad, D.p i = some ad /\ w.cell? (ad.add (j * 1)) = some (.int .i64 ((D.zs i).getD j 0)) /\ (ad.add (j * 1)).block < w.heap.size /\ ¬ S (ad.add (j * 1)).block
 inm : ∀ i, i < n -> ∀ z ∈ D.zs i, inM z
 len : ∀ i, i < n -> (D.zs i).length <= 1000
def zs (n : Nat) : Array Value := (List.replicate n (Value.int .i64 0)).toArray
def begun (w : World) (tq : Option Addr) (n c : Nat) : World :=
 World.more (World.more (World.more (World.more (World.more (World.more (World.more w (.cells #[.slice tq n c] 44)) (.cells (zs n) 3)) (.cells #[.slice (some ⟨w.heap.size + 1, 0, none⟩) n n] 28)) (.cells #[.int .i64 0] 87)) (.cells #[.int .i32 0, .int .u32 0] 93)) (.cells #[.int .u64 0, .int .u32 0] 98)) (.cells #[Rd.stoV (adr w.heap.size)] 99)
theorem more_get {w : World} {o : Obj} {b : Nat} : (World.more w o).heap[b]? = if b = w.heap.size then some o else w.heap[b]? := by
 show (w.heap.push o)[b]? = _
 rw [Array.getElem?_push]
theorem more_size {w : World} {o : Obj} : (World.more w o).heap.size = w.heap.size + 1 := by
 show (w.heap.push o).size = _
 rw [Array.size_push]
section
variable {w : World} {tq : Option Addr} {n c : Nat}
theorem begun_size : (begun w tq n c).heap.size = w.heap.size + 7 := by simp only [begun, more_size]
theorem begun_old {b : Nat} (h : b < w.heap.size) : (begun w tq n c).heap[b]? = w.heap[b]? := by
 simp only [begun, more_get, more_size]
 repeat (rw [if_neg (by omega)])
theorem begun_T : (begun w tq n c).heap[w.heap.size]? = some (.cells #[.slice tq n c] 44) := by
 simp only [begun, more_get, more_size]
 repeat (rw [if_neg (by omega)])
 simp only [if_true]
theorem begun_O : (begun w tq n c).heap[w.heap.size + 1]? = some (.cells (zs n) 3) := by
 simp only [begun, more_get, more_size]
 repeat (rw [if_neg (by omega)])
 simp only [if_true]
theorem begun_V : (begun w tq n c).heap[w.heap.size + 2]? = some (.cells #[.slice (some ⟨w.heap.size + 1, 0, none⟩) n n] 28) := by
 simp only [begun, more_get, more_size]
 repeat (rw [if_neg (by omega)])
 simp only [if_true]
theorem begun_Nx : (begun w tq n c).heap[w.heap.size + 3]? = some (.cells #[.int .i64 0] 87) := by
 simp only [begun, more_get, more_size]
 repeat (rw [if_neg (by omega)])
 simp only [if_true]
theorem begun_Mu : (begun w tq n c).heap[w.heap.size + 4]? = some (.cells #[.int .i32 0, .int .u32 0] 93) := by
 simp only [begun, more_get, more_size]
 repeat (rw [if_neg (by omega)])
 simp only [if_true]
theorem begun_Wg : (begun w tq n c).heap[w.heap.size + 5]? = some (.cells #[.int .u64 0, .int .u32 0] 98) := by
 simp only [begun, more_get, more_size]
 repeat (rw [if_neg (by omega)])
 simp only [if_true]
theorem begun_S : (begun w tq n c).heap[w.heap.size + 6]? = some (.cells #[Rd.stoV (adr w.heap.size)] 99) := by
 simp only [begun, more_get, more_size, if_true]
theorem begun_rows {b : Nat} (h1 : w.heap.size <= b) (h2 : b < w.heap.size + 7) : ∃ cs t, (begun w tq n c).heap[b]? = some (.cells cs t) := by
 rcases (by omega : b = w.heap.size \/ b = w.heap.size + 1 \/ b = w.heap.size + 2 \/ b = w.heap.size + 3 \/ b = w.heap.size + 4 \/ b = w.heap.size + 5 \/ b = w.heap.size + 6) with rfl | rfl | rfl | rfl | rfl | rfl | rfl
 · exact ⟨_, _, begun_T⟩
 · exact ⟨_, _, begun_O⟩
 · exact ⟨_, _, begun_V⟩
 · exact ⟨_, _, begun_Nx⟩
 · exact ⟨_, _, begun_Mu⟩
 · exact ⟨_, _, begun_Wg⟩
 · exact ⟨_, _, begun_S⟩
theorem zs_size : (zs n).size = n := by simp [zs]
theorem begun_J {W m0 : Nat} {D : Tasks} {S : Nat -> Prop} (d : Nat) : J (envP w n W m0 D S) (gh0 (w.heap.size + 7) W) ((begun w tq n c).at d) where
 inv := inv0
 mu := begun_Mu
 nx := begun_Nx
 wg := begun_Wg
 o := ⟨zs n, begun_O, zs_size, fun i _ h => by cases h⟩
 old := fun b hb => begun_old hb
 size := begun_size
 tape := rfl
 output := rfl
 os := .refl _
 acc := by
  show w.heap.size + 7 + 0 + (sumTo (n - 0) fun i => 3 * (D.zs (0 + i)).length) + 2 * W = w.heap.size + 7 + 2 * W + sumTo n fun i => 3 * (D.zs i).length
  simp only [Nat.zero_add, Nat.sub_zero]
  omega
 pv := fun b h => absurd rfl h
 rows := fun b h1 h2 => begun_rows h1 (by rw [<- begun_size (w := w) (tq := tq) (n := n) (c := c)]; exact h2)
theorem begun_D {W m0 : Nat} {D : Tasks} {S : Nat -> Prop} (hS : ∀ b, S b -> b < w.heap.size) (hG : Given S w tq n D) (d : Nat) : DM (envP w n W m0 D S) (adr w.heap.size) tq n c D (gh0 (w.heap.size + 7) W) ((begun w tq n c).at d) where
 mu := rfl
 nx := rfl
 wg := rfl
 hn := rfl
 t := by
  refine ⟨?_, by show w.heap.size < w.heap.size + 7; omega, rfl, ?_, ?_⟩
  · exact (cell_of (w := begun w tq n c) (a := ⟨w.heap.size, 0, none⟩) rfl begun_T).trans rfl
  · rintro (h | h | h | h)
    · exact absurd (show w.heap.size = w.heap.size + 4 from h) (by omega)
    · exact absurd (show w.heap.size = w.heap.size + 3 from h) (by omega)
    · exact absurd (show w.heap.size = w.heap.size + 5 from h) (by omega)
    · exact absurd (show w.heap.size = w.heap.size + 1 from h) (by omega)
  · rintro ⟨a, e, h⟩
    cases e
    have h := hS _ h
    exact absurd (show w.heap.size < w.heap.size from h) (by omega)
 s := by
  refine ⟨?_, by show w.heap.size + 6 < w.heap.size + 7; omega, rfl, ?_, ?_⟩
  · exact (cell_of (w := begun w tq n c) (a := ⟨w.heap.size + 6, 0, none⟩) rfl begun_S).trans rfl
  · rintro (h | h | h | h)
    · exact absurd (show w.heap.size + 6 = w.heap.size + 4 from h) (by omega)
    · exact absurd (show w.heap.size + 6 = w.heap.size + 3 from h) (by omega)
    · exact absurd (show w.heap.size + 6 = w.heap.size + 5 from h) (by omega)
    · exact absurd (show w.heap.size + 6 = w.heap.size + 1 from h) (by omega)
  · rintro ⟨a, e, h⟩
    cases e
    have h := hS _ h
    exact absurd (show w.heap.size + 6 < w.heap.size from h) (by omega)
 v := by
  refine ⟨?_, by show w.heap.size + 2 < w.heap.size + 7; omega, rfl, ?_, ?_⟩
  · exact (cell_of (w := begun w tq n c) (a := ⟨w.heap.size + 2, 0, none⟩) rfl begun_V).trans rfl
  · rintro (h | h | h | h)
    · exact absurd (show w.heap.size + 2 = w.heap.size + 4 from h) (by omega)
    · exact absurd (show w.heap.size + 2 = w.heap.size + 3 from h) (by omega)
    · exact absurd (show w.heap.size + 2 = w.heap.size + 5 from h) (by omega)
    · exact absurd (show w.heap.size + 2 = w.heap.size + 1 from h) (by omega)
  · rintro ⟨a, e, h⟩
    cases e
    have h := hS _ h
    exact absurd (show w.heap.size + 2 < w.heap.size from h) (by omega)
 el := fun i hi => by
  obtain ⟨ad, e, h1, h2, h3⟩ := hG.el i hi
  refine ⟨ad, e, (cell_congr (w := w) (w' := (begun w tq n c).at d) (begun_old h2)).trans h1, by show _ < w.heap.size + 7; omega, rfl, ?_, fun ⟨a, e, h⟩ => by cases e; exact h3 h⟩
  rintro (h | h | h | h)
  · have h : (ad.add (i * 1)).block = w.heap.size + 4 := h; omega
  · have h : (ad.add (i * 1)).block = w.heap.size + 3 := h; omega
  · have h : (ad.add (i * 1)).block = w.heap.size + 5 := h; omega
  · have h : (ad.add (i * 1)).block = w.heap.size + 1 := h; omega
 nums := fun i hi j hj => by
  obtain ⟨ad, e, h1, h2, h3⟩ := hG.nums i hi j hj
  refine ⟨ad, e, (cell_congr (w := w) (w' := (begun w tq n c).at d) (begun_old h2)).trans h1, by show _ < w.heap.size + 7; omega, rfl, ?_, fun ⟨a, e, h⟩ => by cases e; exact h3 h⟩
  rintro (h | h | h | h)
  · have h : (ad.add (j * 1)).block = w.heap.size + 4 := h; omega
  · have h : (ad.add (j * 1)).block = w.heap.size + 3 := h; omega
  · have h : (ad.add (j * 1)).block = w.heap.size + 5 := h; omega
  · have h : (ad.add (j * 1)).block = w.heap.size + 1 := h; omega
 inm := hG.inm
 len := hG.len
 val := fun i hi => rfl
 cost := fun i hi => rfl
end
theorem mk_all (w : World) : (List.range 25).map (fun (n : Nat) => (Instr.makeSlice 28 (.int .i64 (n : Int)) (.int .i64 (n : Int))).runT Tryz.prog w #[]) =
  (List.range 25).map fun (n : Nat) => (.ok (.slice (some ⟨w.heap.size, 0, none⟩) n n) (World.more w (.cells (zs n) 3)), #[]) := by kernel_rfl
theorem mk_run {n : Nat} (hn : n <= 24) (w : World) : (Instr.makeSlice 28 (.int .i64 (n : Int)) (.int .i64 (n : Int))).runT Tryz.prog w #[] = (.ok (.slice (some ⟨w.heap.size, 0, none⟩) n n) (World.more w (.cells (zs n) 3)), #[]) := by
 have h := congrArg (fun l => l[n]?) (mk_all w)
 simp only [List.getElem?_map, List.getElem?_range (show n < 25 by omega), Option.map_some, Option.some.injEq] at h
 exact h
theorem step_make {g : Goroutine} {t : TypeId} {x y v : Value} {w w' : World} {main : Bool} (hg : St.isMake g = some (t, x, y)) (hr : (Instr.makeSlice t x y).runT Tryz.prog w #[] = (.ok v w', #[])) : stepG Tryz.prog main g w = .go (fin g v) w' #[] := by
 unfold St.isMake at hg
 split at hg
 · next o ho =>
   split at hg
   · next t' a b hop =>
     cases hg
     rw [Sem.runT_eq] at hr
     simp only [Prod.mk.injEq] at hr
     have h1 : (execOp g.frame.eval o).run Tryz.prog w = .ok (.value v) w' := by
      unfold execOp
      simp only [hop, Sem.run_bind, hr.1, Result.andThen_ok, Sem.run_pure]
     have h2 : (execOp g.frame.eval o).events Tryz.prog w #[] = #[] := by
      unfold execOp
      simp only [hop, Sem.events_bind, hr.1, hr.2, Result.evThen_ok]
      rfl
     rw [step_val ho h1, h2, seen_none]
   · cases hg
 · cases hg
theorem le_more {w : World} {o : Obj} : w.heap.size <= (World.more w o).heap.size := by rw [more_size]; exact Nat.le_succ _
theorem set_more {w : World} {cs : Array Value} {t : TypeId} {v : Value} : (World.more w (.cells cs t)).setCell ⟨w.heap.size, 0, none⟩ v = World.more w (.cells (cs.setIfInBounds 0 v) t) := by
 unfold World.setCell World.more
 simp only
 congr 1
 apply Array.ext_getElem?
 intro i
 rw [Array.getElem?_modify, Array.getElem?_push, Array.getElem?_push]
 by_cases e : w.heap.size = i
 · subst e; simp
 · rw [if_neg e, if_neg (Ne.symm e), if_neg (Ne.symm e)]
section
variable {Post : Value -> World -> Prop} {S : Nat -> Prop} {w : World} {tq : Option Addr} {n c W : Nat} {cs : List Frame}
def hotP (N b : Nat) : Prop := b = N + 4 \/ b = N + 3 \/ b = N + 5 \/ b = N + 1
theorem z67_sz : St.z67.size = 1 := by kernel_rfl
theorem set_one {xs : Array Value} {v : Value} (h : xs.size = 1) : xs.setIfInBounds 0 v = #[v] := by
 apply Array.ext
 · simp [h]
 · intro i h1 h2
   have : i = 0 := by simp at h2; omega
   subst this
   simp
theorem pool_begin (hS : ∀ b, S b -> b < w.heap.size) (hn : n <= 24)
  (h : ∀ J', FinA Tryz.prog Post S (Off (hotP w.heap.size)) (St.PH (adr w.heap.size) tq n c W (w.heap.size + 1) cs J' 0) (begun w tq n c)) : FinA Tryz.prog Post S (Off (hotP w.heap.size)) (St.q0 tq n c W cs) w := by
 have hX := @off_mute (hotP w.heap.size)
 have hSn : ∀ k, ¬ S (w.heap.size + k) := fun k h => by have := hS _ h; omega
 refine FinA.run0 hX St.cM_ok (St.a0 tq n c W cs) ?_
 refine FinA.new hX (St.a0 tq n c W cs).last (St.b0 tq n c W cs) ?_
 have s1 : (World.more w (.cells #[.slice tq n c] 44)).heap.size = w.heap.size + 1 := more_size
 refine FinA.run hX rfl (fun f d x h => by cases h) 40 (St.a1 (adr w.heap.size) tq n c W cs) (fun x hx => ?_) ?_
 · change x ∈ ldsR Tryz.prog (St.cP tq n c) 40 (fin (St.p0 tq n c W cs) (Rd.pA (adr w.heap.size).T)) at hx
   rw [St.l1] at hx
   simp only [List.mem_cons, List.not_mem_nil, or_false] at hx
   subst hx
   refine ⟨?_, hSn 0, by rw [s1]; exact Nat.lt_succ_self _, off_cell ?_⟩
   · exact (cell_of (w := World.more w (.cells #[.slice tq n c] 44)) (a := ⟨w.heap.size, 0, none⟩) rfl more_new).trans rfl
   · show ¬ hotP w.heap.size w.heap.size
     unfold hotP
     omega
 refine FinA.step hX (St.a1 (adr w.heap.size) tq n c W cs).last (w' := fun w => World.more w (.cells (zs n) 3)) (g' := fin (St.p1 (adr w.heap.size) tq n c W cs) (St.outV n (w.heap.size + 1))) (es := #[]) (fun d => ?_) (fun d => ⟨d, rfl⟩) (fun e he => by simp at he) le_more ?_
 · have h1 := step_make (main := true) (St.b1 (adr w.heap.size) tq n c W cs) (mk_run hn ((World.more w (.cells #[.slice tq n c] 44)).at d))
   rw [show ((World.more w (.cells #[.slice tq n c] 44)).at d).heap.size = w.heap.size + 1 from s1] at h1
   exact h1
 have s2 : (World.more (World.more w (.cells #[.slice tq n c] 44)) (.cells (zs n) 3)).heap.size = w.heap.size + 2 := by rw [more_size, s1]
 refine FinA.run0 hX St.cM_ok (St.a2 (adr w.heap.size) tq n c W (w.heap.size + 1) cs) ?_
 refine FinA.new hX (St.a2 (adr w.heap.size) tq n c W (w.heap.size + 1) cs).last (St.b2 (adr w.heap.size) tq n c W (w.heap.size + 1) cs) ?_
 rw [s2]
 refine FinA.run0 hX St.cM_ok (St.a3 (adr w.heap.size) tq n c W (w.heap.size + 1) cs) ?_
 refine FinA.store hX (St.a3 (adr w.heap.size) tq n c W (w.heap.size + 1) cs).last (St.b3 (adr w.heap.size) tq n c W (w.heap.size + 1) cs) (u := .slice none 0 0) ?_ ?_ (hSn 2) (by rw [more_size, s2]; exact Nat.lt_succ_self _) (off_cell ?_) ?_
 · refine (cell_of (a := ⟨w.heap.size + 2, 0, none⟩) rfl (cs := #[.slice none 0 0]) (t := 28) ?_).trans rfl
   rw [more_get, s2, if_pos rfl]
 · refine thaw_of (a := ⟨w.heap.size + 2, 0, none⟩) (cs := #[.slice none 0 0]) (t := 28) ?_
   rw [more_get, s2, if_pos rfl]
 · show ¬ hotP w.heap.size (w.heap.size + 2)
   unfold hotP
   omega
 have e3 := set_more (w := World.more (World.more w (.cells #[.slice tq n c] 44)) (.cells (zs n) 3)) (cs := #[.slice none 0 0]) (t := 28) (v := .slice (some ⟨w.heap.size + 1, 0, none⟩) n n)
 rw [s2] at e3
 rw [show (⟨(adr w.heap.size).V, 0, none⟩ : Addr) = ⟨w.heap.size + 2, 0, none⟩ from rfl, e3]
 show FinA Tryz.prog Post S _ _ (World.more _ (.cells #[.slice (some ⟨w.heap.size + 1, 0, none⟩) n n] 28))
 have s3 : (World.more (World.more (World.more w (.cells #[.slice tq n c] 44)) (.cells (zs n) 3)) (.cells #[.slice (some ⟨w.heap.size + 1, 0, none⟩) n n] 28)).heap.size = w.heap.size + 3 := by rw [more_size, s2]
 generalize hw3 : World.more (World.more (World.more w (.cells #[.slice tq n c] 44)) (.cells (zs n) 3)) (.cells #[.slice (some ⟨w.heap.size + 1, 0, none⟩) n n] 28) = w3 at s3 ⊢
 refine FinA.run0 hX St.cM_ok (St.a4 (adr w.heap.size) tq n c W (w.heap.size + 1) cs) ?_
 refine FinA.new hX (St.a4 (adr w.heap.size) tq n c W (w.heap.size + 1) cs).last (St.b4 (adr w.heap.size) tq n c W (w.heap.size + 1) cs) ?_
 rw [s3]
 have s4 : (World.more w3 (.cells #[.int .i64 0] 87)).heap.size = w.heap.size + 4 := by rw [more_size, s3]
 refine FinA.run0 hX St.cM_ok (St.a5 (adr w.heap.size) tq n c W (w.heap.size + 1) cs) ?_
 refine FinA.new hX (St.a5 (adr w.heap.size) tq n c W (w.heap.size + 1) cs).last (St.b5 (adr w.heap.size) tq n c W (w.heap.size + 1) cs) ?_
 rw [s4]
 have s5 : (World.more (World.more w3 (.cells #[.int .i64 0] 87)) (.cells #[.int .i32 0, .int .u32 0] 93)).heap.size = w.heap.size + 5 := by rw [more_size, s4]
 refine FinA.run0 hX St.cM_ok (St.a6 (adr w.heap.size) tq n c W (w.heap.size + 1) cs) ?_
 refine FinA.new hX (St.a6 (adr w.heap.size) tq n c W (w.heap.size + 1) cs).last (St.b6 (adr w.heap.size) tq n c W (w.heap.size + 1) cs) ?_
 rw [s5]
 have s6 : (World.more (World.more (World.more w3 (.cells #[.int .i64 0] 87)) (.cells #[.int .i32 0, .int .u32 0] 93)) (.cells #[.int .u64 0, .int .u32 0] 98)).heap.size = w.heap.size + 6 := by rw [more_size, s5]
 generalize hw6 : World.more (World.more (World.more w3 (.cells #[.int .i64 0] 87)) (.cells #[.int .i32 0, .int .u32 0] 93)) (.cells #[.int .u64 0, .int .u32 0] 98) = w6 at s6 ⊢
 refine FinA.run0 hX St.cM_ok (St.a7 (adr w.heap.size) tq n c W (w.heap.size + 1) cs) ?_
 refine FinA.new hX (St.a7 (adr w.heap.size) tq n c W (w.heap.size + 1) cs).last (St.b7 (adr w.heap.size) tq n c W (w.heap.size + 1) cs) ?_
 rw [s6]
 have n67 : (World.more w6 (.cells St.z67 99)).heap[w.heap.size + 6]? = some (.cells St.z67 99) := by rw [more_get, s6, if_pos rfl]
 refine FinA.run0 hX St.cM_ok (St.a8 (adr w.heap.size) tq n c W (w.heap.size + 1) cs) ?_
 refine FinA.store hX (St.a8 (adr w.heap.size) tq n c W (w.heap.size + 1) cs).last (St.b8 (adr w.heap.size) tq n c W (w.heap.size + 1) cs) (u := St.z67[0]'(by rw [z67_sz]; decide)) ?_ (thaw_of (a := ⟨w.heap.size + 6, 0, none⟩) n67) (hSn 6) (by rw [more_size, s6]; exact Nat.lt_succ_self _) (off_cell ?_) ?_
 · refine (cell_of (a := ⟨w.heap.size + 6, 0, none⟩) rfl n67).trans ?_
   exact Array.getElem?_eq_getElem _
 · show ¬ hotP w.heap.size (w.heap.size + 6)
   unfold hotP
   omega
 have e8 := set_more (w := w6) (cs := St.z67) (t := 99) (v := Rd.stoV (adr w.heap.size))
 rw [s6, set_one z67_sz] at e8
 rw [show (⟨(adr w.heap.size).S, 0, none⟩ : Addr) = ⟨w.heap.size + 6, 0, none⟩ from rfl, e8]
 refine FinA.run0 hX (by intro f d x h; cases h) (St.a9 (adr w.heap.size) tq n c W (w.heap.size + 1) cs) ?_
 show FinA Tryz.prog Post S _ (St.p9 (adr w.heap.size) tq n c W (w.heap.size + 1) cs) _
 rw [St.h9, <- hw6, <- hw3]
 exact h _
end
section
variable (A : Rd.Adr) (tq : Option Addr) (n c W : Nat) (O : Nat) (cs : List Frame) (J : Nat -> Value) (i : Nat)
noncomputable def oE : Orc := fun f d => bif f == 28 && d == 21 then some (St.outV n O) else none
def xRet (g : Goroutine) : Bool := match g.frame.mode with
 | .run => false
 | _ => true
noncomputable def cE : Par := { main := true, O := oE n O, X := xRet }
noncomputable def bk : Goroutine := Wt.back (St.uW A tq n c W O cs J i).frame cs
noncomputable def rE : Goroutine := endR Tryz.prog (cE n O) 60 (bk A tq n c W O cs J i)
theorem aEr : Run Tryz.prog (cE n O) 60 (bk A tq n c W O cs J i) := ⟨fun w => by kernel_rfl, by kernel_rfl⟩
theorem lEr : ldsR Tryz.prog (cE n O) 60 (bk A tq n c W O cs J i) = [(28, ⟨A.V, 0, none⟩, St.outV n O)] := by kernel_rfl
noncomputable def fE : Frame := { (rE A tq n c W O cs J i).frame with mode := .run }
noncomputable def tE : Array Value := (rE A tq n c W O cs J i).frame.tmps
noncomputable def dE : List Item := (rE A tq n c W O cs J i).frame.todo
theorem hEr : rE A tq n c W O cs J i = G { (fE A tq n c W O cs J i).at { tmps := tE A tq n c W O cs J i, defers := [] } (dE A tq n c W O cs J i) with mode := .returning } cs := by kernel_rfl
theorem kE : (fE A tq n c W O cs J i).kind = .normal := by kernel_rfl
theorem nE : (fE A tq n c W O cs J i).fn = 28 := by kernel_rfl
theorem vE : (tE A tq n c W O cs J i).getD 4 undef = St.outV n O := by kernel_rfl
noncomputable def fn22 : Func := match Tryz.prog.funcs[28]? with | some f => f | none => default
theorem fn22_at : Tryz.prog.funcs[28]? = some fn22 := by kernel_rfl
theorem fn22_r : fn22.results = #[.tmp 4] := by kernel_rfl
theorem badT_none : Tryz.prog.info? badT = none := by kernel_rfl
end
def vals (n : Nat) (D : Tasks) : Array Value := ((List.range n).map fun i => Value.int .i64 ((D.zs i).foldl pairF 0)).toArray
def costs (n : Nat) (D : Tasks) : Nat := sumTo n fun i => 3 * (D.zs i).length
def after (u : World) (n W : Nat) (D : Tasks) : World := { u with heap := u.heap ++ (#[pz, .cells (vals n D) 3] ++ Array.replicate (5 + 2 * W + costs n D) pz) }
section
variable {u : World} {n W : Nat} {D : Tasks}
theorem after_size : (after u n W D).heap.size = u.heap.size + 7 + 2 * W + costs n D := by
 simp only [after, Array.size_append, Array.size_replicate]
 simp only [List.size_toArray, List.length_cons, List.length_nil]
 omega
theorem after_old {b : Nat} (h : b < u.heap.size) : (after u n W D).heap[b]? = u.heap[b]? := by
 simp only [after, Array.getElem?_append, h, if_true]
theorem after_O : (after u n W D).heap[u.heap.size + 1]? = some (.cells (vals n D) 3) := by
 simp only [after, Array.getElem?_append]
 rw [if_neg (by omega), if_pos (by simp)]
 have : u.heap.size + 1 - u.heap.size = 1 := by omega
 rw [this]
 rfl
theorem after_pz {b : Nat} (h1 : u.heap.size <= b) (h2 : b < u.heap.size + 7 + 2 * W + costs n D) (h3 : b ≠ u.heap.size + 1) : (after u n W D).heap[b]? = some pz := by
 simp only [after, Array.getElem?_append]
 rw [if_neg (by omega)]
 by_cases e : b = u.heap.size
 · subst e
   rw [if_pos (by simp), Nat.sub_self]
   rfl
 · rw [if_neg (by simp; omega), Array.getElem?_replicate, if_pos (by simp; omega)]
structure GivenU (u : World) (tq : Option Addr) (n : Nat) (D : Tasks) : Prop where
 el : ∀ i, i < n -> ∃ ad, tq = some ad /\ u.cell? (ad.add (i * 1)) = some (.slice (D.p i) (D.zs i).length (D.cap i))
 nums : ∀ i, i < n -> ∀ j, j < (D.zs i).length -> ∃ ad, D.p i = some ad /\ u.cell? (ad.add (j * 1)) = some (.int .i64 ((D.zs i).getD j 0))
 inm : ∀ i, i < n -> ∀ z ∈ D.zs i, inM z
 len : ∀ i, i < n -> (D.zs i).length <= 1000
theorem cell_not_pz {ad : Addr} {v : Value} (h : u.cell? ad = some v) : ∃ o, u.heap[ad.block]? = some o /\ o ≠ pz := by
 unfold World.cell? at h
 cases hb : u.heap[ad.block]? with
 | none => rw [hb] at h; cases h
 | some o =>
  refine ⟨o, rfl, ?_⟩
  rintro rfl
  rw [hb] at h
  unfold pz at h
  simp at h
theorem GivenU.given {N0 : Nat} {S : Nat -> Prop} {w : World} {tq : Option Addr} (h : GivenU u tq n D) (hS : ∀ b, S b -> Dead N0 u b) (hs : Sim N0 (u.at w.drawn) w) : Given S w tq n D := by
 have key : ∀ {ad : Addr} {v : Value}, u.cell? ad = some v -> w.cell? ad = some v /\ ad.block < w.heap.size /\ ¬ S ad.block := by
  intro ad v hc
  obtain ⟨o, ho, hne⟩ := cell_not_pz hc
  have hnd : ¬ Dead N0 u ad.block := fun hd => by
   have := hd.2
   rw [ho] at this
   cases this
   exact hne rfl
  have hl := hs.live ad.block hnd
  refine ⟨(cell_congr (w := u) hl).trans hc, ?_, fun h => hnd (hS _ h)⟩
  rw [hs.size]
  exact (Array.getElem?_eq_some_iff.1 ho).1
 exact ⟨fun i hi => let ⟨ad, e, hc⟩ := h.el i hi; let ⟨a, b, c⟩ := key hc; ⟨ad, e, a, b, c⟩, fun i hi j hj => let ⟨ad, e, hc⟩ := h.nums i hi j hj; let ⟨a, b, c⟩ := key hc; ⟨ad, e, a, b, c⟩, h.inm, h.len⟩
theorem ret_key {Post : Value -> World -> Prop} {N0 : Nat} {cs : List Frame} {u' : World} {v : Value} (hback : Back Tryz.prog Post N0 28 cs v u') (b : Frame) (ts : Array Value) (todo : List Item) (h1 : b.kind = .normal) (h2 : b.fn = 28) (h3 : ts.getD 4 undef = v) :
  FinU Tryz.prog Post N0 (G { b.at { tmps := ts, defers := [] } todo with mode := .returning } cs) u' := by
 subst h3
 refine FinU.ret (a := { tmps := ts, defers := [] }) badT_none h1 rfl (fn := fn22) (by rw [h2]; exact fn22_at) wl_results fun d => ⟨_, results_tmp fn22_r _ _ _, ?_⟩
 rw [h2]
 exact hback
theorem ret_u {Post : Value -> World -> Prop} {N0 : Nat} {cs : List Frame} {u' : World} {A : Rd.Adr} {tq : Option Addr} {c O i : Nat} {J : Nat -> Value} (hback : Back Tryz.prog Post N0 28 cs (St.outV n O) u') : FinU Tryz.prog Post N0 (rE A tq n c W O cs J i) u' := by
 rw [hEr]
 exact ret_key hback _ _ _ (kE A tq n c W O cs J i) (nE A tq n c W O cs J i) (vE A tq n c W O cs J i)
theorem pool_fin {Post : Value -> World -> Prop} {N0 : Nat} {tq : Option Addr} {c : Nat} {cs : List Frame} (hn : n <= 1) (hW1 : 1 <= W) (hW : W <= 8) (hG : GivenU u tq n D)
  (hback : Back Tryz.prog Post N0 28 cs (St.outV n (u.heap.size + 1)) (after u n W D)) : FinU Tryz.prog Post N0 (G (Frame.enter Tryz.prog 28 #[.slice tq n c, .int .i64 (W : Int)] .normal) cs) u := by
 intro hN S w hS hsim
 have hws : w.heap.size = u.heap.size := hsim.size
 have hG' := hG.given hS hsim
 have hSl : ∀ b, S b -> b < w.heap.size := fun b hb => by
  rw [hws]
  exact (Array.getElem?_eq_some_iff.1 (hS b hb).2).1
 have ret : ∀ (A : Rd.Adr) (J2 : Nat -> Value), FinU Tryz.prog Post N0 (rE A tq n c W (u.heap.size + 1) cs J2 W) (after u n W D) := fun A J2 => ret_u hback
 have main : FinA Tryz.prog Post S (Off (hotP w.heap.size)) (St.q0 tq n c W cs) w := by
  refine pool_begin hSl (by omega) fun J' d gs sl t q h0 hL hP hO hX => ?_
  have hpos : 0 < gs.size := (Array.getElem?_eq_some_iff.1 h0).1
  have hE := envP_ok (w := w) (W := W) (m0 := gs.size - 1) (D := D) (S := S) hn
  obtain ⟨C, hC⟩ : ∃ C, 700 + (200 + 1) * rnd 200 + 60 <= C := ⟨_, Nat.le_refl _⟩
  refine crew_fin (E := envP w n W (gs.size - 1) D S) hE rfl
   (Stop := fun σ g w' => σ.num = W /\ σ.ms = 5 /\ σ.mdf = 0 /\ σ.dm = 0 /\ DM (envP w n W (gs.size - 1) D S) (adr w.heap.size) tq n c D σ w' /\ ∃ J2, g = bk (adr w.heap.size) tq n c W (w.heap.size + 1) cs J2 W)
   (fun σ g w' h => ?_) (C := C) (n0 := 12000 + 1200 * W) (σ0 := gh0 (w.heap.size + 7) W) rfl (begun_J d) (by show (0 : Nat) ≠ 5; decide) rfl (fun _ => rfl) ?_ (fun σ g w' hst hJ hq => ?_) (by show gs.size = gs.size - 1 + 1; omega) h0 hL hP hO hX
  · obtain ⟨_, h1, h2, _, _, J2, rfl⟩ := h
    exact ⟨rfl, h1, h2⟩
  · refine starter_m hE (fun ad hs => ?_) hC (fun k σ w g h1 h2 h3 h4 => ⟨h1, h2, h3, h4⟩) hW (fun σ' w' J2 h1 h2 h3 h4 h5 h6 => ⟨h3, h4, h5, h6, h2, J2, rfl⟩) W 0 J' _ _ (by omega) (begun_J d) (begun_D hSl hG' d) rfl rfl rfl rfl
    obtain ⟨a, e, h⟩ := hs
    cases e
    exact hSl _ h
  · obtain ⟨hnum, hms, hmdf, hdm, hD, J2, rfl⟩ := hst
    have hnx : n <= σ.nx := hJ.inv.all 0 (by omega) (.inl (by rw [(hq 0 (by omega)).1]; omega))
    have hdu : dues σ.num σ.wk = 0 := zero_of fun k hk => (hq k hk).2
    have hsz : w'.heap.size = w.heap.size + 7 + 2 * W + costs n D := by
     have h1 := hJ.acc
     have h2 : (envP w n W (gs.size - 1) D S).rest σ.nx = 0 := by
      show sumTo (n - σ.nx) _ = 0
      rw [Nat.sub_eq_zero_of_le hnx]
      rfl
     rw [hdu, h2, hdm] at h1
     simp only [Nat.add_zero] at h1
     rw [hJ.size, h1]
     rfl
    have hwr : ∀ i, i < n -> σ.writ i = true := fun i hi => by
     rcases hJ.inv.done i hi (by omega) with h | ⟨k, hk, hp, _⟩
     · exact h
     · exfalso
       have h1 := (hq k hk).1
       have hl : (σ.wk k).lk ≠ .out := by
        unfold Pend at hp
        intro e
        rw [e] at hp
        simp at hp
       have := (hJ.inv.lkf k hk hl).1
       omega
    have hO : w'.heap[w.heap.size + 1]? = some (.cells (vals n D) 3) := by
     obtain ⟨xs, h1, h2, h3⟩ := hJ.o
     have h1 : w'.heap[w.heap.size + 1]? = some (.cells xs 3) := h1
     have h2 : xs.size = n := h2
     have : xs = vals n D := by
      apply Array.ext_getElem?
      intro i
      by_cases hi : i < n
      · rw [h3 i hi (hwr i hi)]
        simp [vals, hi]
        rfl
      · rw [Array.getElem?_eq_none (by omega), Array.getElem?_eq_none (by simp [vals]; omega)]
     rw [h1, this]
    have hold : ∀ b, b < w.heap.size -> w'.heap[b]? = w.heap[b]? := fun b hb => hJ.old b hb
    have hlt : ∀ {b o}, (after u n W D).heap[b]? = some o -> b < w'.heap.size := fun h => by
     have := (Array.getElem?_eq_some_iff.1 h).1
     rw [after_size] at this
     omega
    have hdead : ∀ {b}, b < u.heap.size -> (Dead N0 (after u n W D) b ↔ Dead N0 u b) := fun hb => by
     unfold Dead
     rw [after_old hb]
    have hS' : ∀ b, (S b \/ b = w.heap.size + 4 \/ b = w.heap.size + 3 \/ b = w.heap.size + 5) -> Dead N0 (after u n W D) b := by
     rintro b (h | rfl | rfl | rfl)
     · exact (hdead (by have := hSl b h; omega)).2 (hS b h)
     · exact ⟨by omega, after_pz (by omega) (by omega) (by omega)⟩
     · exact ⟨by omega, after_pz (by omega) (by omega) (by omega)⟩
     · exact ⟨by omega, after_pz (by omega) (by omega) (by omega)⟩
    have hsim' : ∀ d, Sim N0 ((after u n W D).at (w'.at d).drawn) (w'.at d) := fun d => {
     size := by
      show w'.heap.size = (after u n W D).heap.size
      rw [hsz, after_size, hws]
     live := fun b hb => by
      show w'.heap[b]? = (after u n W D).heap[b]?
      have hb : ¬ Dead N0 (after u n W D) b := hb
      by_cases h1 : b < u.heap.size
      · rw [hold b (by omega), after_old h1]
        exact hsim.live b fun h => hb ((hdead h1).2 h)
      · by_cases h2 : b = u.heap.size + 1
        · subst h2
          rw [after_O, <- hws]
          exact hO
        · by_cases h3 : b < u.heap.size + 7 + 2 * W + costs n D
          · exact absurd ⟨by omega, after_pz (by omega) h3 h2⟩ hb
          · rw [Array.getElem?_eq_none (by omega), Array.getElem?_eq_none (by rw [after_size]; omega)]
     dead := fun b hb => by
      show ∃ cs t, w'.heap[b]? = some (.cells cs t (0, 0))
      have hb : Dead N0 (after u n W D) b := hb
      by_cases h1 : b < u.heap.size
      · rw [hold b (by omega)]
        exact hsim.dead b ((hdead h1).1 hb)
      · exact hJ.rows b (by show w.heap.size <= b; omega) (hlt hb.2)
     tape := by show w'.tape = u.tape; exact hJ.tape.trans hsim.tape
     drawn := rfl
     output := by show w'.output = u.output; exact hJ.output.trans hsim.output
     os := by show OsLater u.os w'.os; exact hsim.os.trans hJ.os }
    have hlast : ∀ d, FinW Tryz.prog Post (fun b => S b \/ b = w.heap.size + 4 \/ b = w.heap.size + 3 \/ b = w.heap.size + 5) (rE (adr w.heap.size) tq n c W (w.heap.size + 1) cs J2 W) (w'.at d) := fun d => by
     rw [hws]
     have := ret (adr u.heap.size) J2 (by rw [after_size]; omega) (fun b => S b \/ b = w.heap.size + 4 \/ b = w.heap.size + 3 \/ b = w.heap.size + 5) (w'.at d) hS' (hsim' d)
     rw [hws] at this
     exact this
    have hfa : FinA Tryz.prog Post (fun b => S b \/ b = w.heap.size + 4 \/ b = w.heap.size + 3 \/ b = w.heap.size + 5) (fun _ => True) (bk (adr w.heap.size) tq n c W (w.heap.size + 1) cs J2 W) w' := by
     refine FinA.run (fun _ _ => trivial) rfl (fun f d x h => by cases h) 60 (aEr (adr w.heap.size) tq n c W (w.heap.size + 1) cs J2 W) (fun x hx => ?_) fun d gs sl t q h0 hL hP hO _ => hlast d gs sl t q h0 hL hP hO
     rw [lEr] at hx
     simp only [List.mem_cons, List.not_mem_nil, or_false] at hx
     subst hx
     have hv := hD.v
     refine ⟨hv.cell, fun h => ?_, by rw [hJ.size]; exact hv.lt, trivial⟩
     rcases h with h | h | h | h
     · have := hSl _ h
       exact absurd (show w.heap.size + 2 < w.heap.size from this) (by omega)
     · exact absurd (show w.heap.size + 2 = w.heap.size + 4 from h) (by omega)
     · exact absurd (show w.heap.size + 2 = w.heap.size + 3 from h) (by omega)
     · exact absurd (show w.heap.size + 2 = w.heap.size + 5 from h) (by omega)
    exact fun gs sl t q h0 hL hP hO => hfa w'.drawn gs sl t q h0 hL hP hO fun _ _ => trivial
 exact fun gs sl t q h0 hL hP hO => main w.drawn gs sl t q h0 hL hP hO fun op hop => off_low (hP.seen op hop) fun b hb => by
  unfold hotP at hb
  omega
end
end Wp
end Go.Proofs.YtnpjonhoihbaeaaGreat
namespace Go.Proofs.YtnpjonhoihbaeaaGreat
open Go.Conc
namespace Eng
open Wp
def Pl.C (tasks : List (List Int)) (workers : Int) : Prop := 1 <= workers /\ workers <= 8 /\ tasks.length <= 1 /\ ∀ t ∈ tasks, t.length <= 1000 /\ ∀ z ∈ t, inM z
def Pl.R (tasks : List (List Int)) (workers : Int) : List Int := tasks.map fun t => t.foldl pairF 0
namespace Pl
theorem fitL_tail {s : Sh} {ss : List Sh} {v : V} {vs : List V} (h : fitL (s :: ss) (v :: vs) = true) : fitL ss vs = true := by
 simp only [fitL, Bool.and_eq_true] at h
 exact h.2
theorem fitL_nil {vs : List V} (h : fitL [] vs = true) : vs = [] := by
 cases vs with
 | nil => rfl
 | cons v vs => simp [fitL] at h
theorem fitL_cons {s : Sh} {ss : List Sh} {vs : List V} (h : fitL (s :: ss) vs = true) : ∃ v r, vs = v :: r := by
 cases vs with
 | nil => simp [fitL] at h
 | cons v r => exact ⟨v, r, rfl⟩
theorem fitL_head {s : Sh} {ss : List Sh} {v : V} {vs : List V} (h : fitL (s :: ss) (v :: vs) = true) : v = mkV s v := by
 simp only [fitL, Bool.and_eq_true] at h
 exact fitV_eq _ _ h.1
theorem add_none (b o k : Nat) : Addr.add ⟨b, o, none⟩ k = ⟨b, o + k, none⟩ := by unfold Addr.add; split <;> simp_all
theorem row_at {w : World} {A : Nat -> Nat -> Prop} {y : List Int} {s : Value} (h : RoV w A (.slice (.int .i64)) y [s]) :
  ∃ pc : Option Addr × Nat, s = .slice pc.1 y.length pc.2 /\ ∀ j, j < y.length -> ∃ ad, pc.1 = some ad /\ w.cell? (ad.add (j * 1)) = some (.int .i64 (y.getD j 0)) := by
 simp only [RoV, SlV] at h
 rcases h with ⟨h1, rfl⟩ | ⟨b, o, sp, cap, h1, h2, h3, h4⟩
 · simp only [List.cons.injEq, and_true] at h1
   exact ⟨(none, 0), h1, fun j hj => absurd hj (Nat.not_lt_zero _)⟩
 · simp only [List.cons.injEq, and_true] at h1
   refine ⟨(some ⟨b, o, sp⟩, cap), h1, fun j hj => ⟨_, rfl, ?_⟩⟩
   have hne : y ≠ [] := fun e => by rw [e] at hj; exact absurd hj (Nat.not_lt_zero _)
   have hsp := h2 hne
   subst hsp
   obtain ⟨cs, _, e, hc⟩ := h4 j _ (List.getElem?_eq_getElem hj)
   subst e
   have := (hc 0 _ rfl).1
   simp only [Ty.size, Nat.add_zero] at this
   have e1 := add_none b o (j * 1)
   rw [e1, this]
   simp [List.getD_eq_getElem?_getD, List.getElem?_eq_getElem hj]
theorem rows_at {w : World} {A : Nat -> Nat -> Prop} {tasks : List (List Int)} {s : Value} (h : RoV w A (.slice (.slice (.int .i64))) tasks [s]) :
  ∃ tq c, s = .slice tq tasks.length c /\ ∀ i y, tasks[i]? = some y -> ∃ (ad : Addr) (s' : Value), tq = some ad /\ w.cell? (ad.add (i * 1)) = some s' /\ RoV w A (.slice (.int .i64)) y [s'] := by
 have h : SlV w A (.slice (.int .i64)) (RoV w A (.slice (.int .i64))) tasks [s] := h
 unfold SlV at h
 rcases h with ⟨h1, rfl⟩ | ⟨b, o, sp, cap, h1, h2, h3, h4⟩
 · simp only [List.cons.injEq, and_true] at h1
   exact ⟨none, 0, h1, fun i y hy => absurd (List.getElem?_eq_some_iff.1 hy).1 (Nat.not_lt_zero _)⟩
 · simp only [List.cons.injEq, and_true] at h1
   refine ⟨some ⟨b, o, sp⟩, cap, h1, fun i y hy => ?_⟩
   have hne : tasks ≠ [] := fun e => by subst e; exact absurd (List.getElem?_eq_some_iff.1 hy).1 (Nat.not_lt_zero _)
   have hsp := h2 hne
   subst hsp
   obtain ⟨cs, hl, e, hc⟩ := h4 i y hy
   have hl : cs.length = 1 := hl
   obtain ⟨s', rfl⟩ : ∃ s', cs = [s'] := by
    match cs, hl with
    | [s'], _ => exact ⟨s', rfl⟩
   have := (hc 0 _ rfl).1
   simp only [Ty.size, Nat.add_zero] at this
   have e1 := add_none b o (i * 1)
   exact ⟨_, s', rfl, by rw [e1]; exact this, e⟩
theorem given {w : World} {A : Nat -> Nat -> Prop} {tasks : List (List Int)} {W : Int} {s : Value} (hC : Pl.C tasks W) (h : RoV w A (.slice (.slice (.int .i64))) tasks [s]) :
  ∃ tq c D, s = .slice tq tasks.length c /\ GivenU w tq tasks.length D /\ ∀ i, D.zs i = tasks.getD i [] := by
 obtain ⟨tq, c, e, hr⟩ := rows_at h
 have ex : ∀ i, ∃ pc : Option Addr × Nat, i < tasks.length -> ∃ ad, tq = some ad /\ w.cell? (ad.add (i * 1)) = some (.slice pc.1 (tasks.getD i []).length pc.2) /\ ∀ j, j < (tasks.getD i []).length -> ∃ ad, pc.1 = some ad /\ w.cell? (ad.add (j * 1)) = some (.int .i64 ((tasks.getD i []).getD j 0)) := by
  intro i
  by_cases hi : i < tasks.length
  · have hy : tasks[i]? = some (tasks.getD i []) := by simp [List.getD_eq_getElem?_getD, List.getElem?_eq_getElem hi]
    obtain ⟨ad, s', h1, h2, h3⟩ := hr i _ hy
    obtain ⟨pc, h4, h5⟩ := row_at h3
    exact ⟨pc, fun _ => ⟨ad, h1, by rw [h2, h4], h5⟩⟩
  · exact ⟨(none, 0), fun h => absurd h hi⟩
 obtain ⟨pc, hpc⟩ : ∃ pc : Nat -> Option Addr × Nat, ∀ i, i < tasks.length -> ∃ ad, tq = some ad /\ w.cell? (ad.add (i * 1)) = some (.slice (pc i).1 (tasks.getD i []).length (pc i).2) /\ ∀ j, j < (tasks.getD i []).length -> ∃ ad, (pc i).1 = some ad /\ w.cell? (ad.add (j * 1)) = some (.int .i64 ((tasks.getD i []).getD j 0)) :=
  ⟨fun i => Classical.choose (ex i), fun i => Classical.choose_spec (ex i)⟩
 have mem : ∀ i, i < tasks.length -> tasks.getD i [] ∈ tasks := fun i hi => by
  have : tasks.getD i [] = tasks[i] := by simp [List.getD_eq_getElem?_getD, List.getElem?_eq_getElem hi]
  rw [this]; exact List.getElem_mem hi
 refine ⟨tq, c, ⟨fun i => tasks.getD i [], fun i => (pc i).1, fun i => (pc i).2⟩, e, ⟨fun i hi => ?_, fun i hi j hj => ?_, fun i hi => (hC.2.2.2 _ (mem i hi)).2, fun i hi => (hC.2.2.2 _ (mem i hi)).1⟩, fun i => rfl⟩
 · obtain ⟨ad, h1, h2, _⟩ := hpc i hi
   exact ⟨ad, h1, h2⟩
 · obtain ⟨ad, _, _, h3⟩ := hpc i hi
   exact h3 j hj
theorem vals_eq {tasks : List (List Int)} {W : Int} {D : Tasks} (h : ∀ i, D.zs i = tasks.getD i []) : vals tasks.length D = ((R tasks W).map (Value.int .i64)).toArray := by
 unfold vals R
 congr 1
 apply List.ext_getElem?
 intro i
 simp only [List.getElem?_map, h]
 by_cases hi : i < tasks.length
 · rw [List.getElem?_range hi, List.getElem?_eq_getElem hi]
   simp [List.getD_eq_getElem?_getD, List.getElem?_eq_getElem hi]
 · rw [List.getElem?_eq_none (by simpa using hi), List.getElem?_eq_none (by simpa using hi)]
   rfl
theorem int_rows : ∀ (xs : List Int) (i : Nat) (y : Int), xs[i]? = some y -> ((xs.map (Value.int .i64)).drop (i * 1)).take 1 = [.int .i64 y] := by
 intro xs i y h
 rw [Nat.mul_one, <- List.map_drop]
 have hi := (List.getElem?_eq_some_iff.1 h).1
 have hy : xs[i] = y := (List.getElem?_eq_some_iff.1 h).2
 rw [List.drop_eq_getElem_cons hi]
 simp [hy]
theorem ok : SoundFn Tryz.prog 28 (fun args K => argF [.ro (.slice (.int .i64)), .int .i64] args fun a => Pl.C (gR (.slice (.int .i64)) (a.getD 0 .any)) (gI (a.getD 1 .any)) /\ K (.vec 0) [.vec (.int .i64) 0 (Pl.R (gR (.slice (.int .i64)) (a.getD 0 .any)) (gI (a.getD 1 .any)))]) := by
 intro w A args us K hA ha hs
 unfold argF at hs
 cases hf : fitL [.ro (.slice (.int .i64)), .int .i64] (nzL [.ro (.slice (.int .i64)), .int .i64] args) with
 | false => rw [hf] at hs; exact hs.elim
 | true =>
  rw [hf] at hs
  simp only [cond_true] at hs
  have hr := nzL_rel [.ro (.slice (.int .i64)), .int .i64] args _ ha
  generalize nzL [.ro (.slice (.int .i64)), .int .i64] args = vs at hf hr hs
  obtain ⟨v0, r0, rfl⟩ := fitL_cons hf
  have e0 := fitL_head hf
  have hf1 := fitL_tail hf
  obtain ⟨v1, r1, rfl⟩ := fitL_cons hf1
  have e1 := fitL_head hf1
  obtain rfl := fitL_nil (fitL_tail hf1)
  simp only [List.getD_cons_zero, List.getD_cons_succ] at hs
  rw [e0, e1] at hr
  simp only [mkV, RelVs, RelV] at hr
  obtain ⟨tasks, ht⟩ : ∃ t : List (List Int), t = gR (.slice (.int .i64)) v0 := ⟨_, rfl⟩
  rw [<- ht] at hr hs
  generalize gI v1 = workers at hr hs
  obtain ⟨s, us1, hu1, hro, u2, us2, hu2, hint, hu3⟩ := hr
  subst hu2 hu3 hint
  have hus : us = #[s, .int .i64 workers] := by apply Array.ext'; exact hu1
  subst hus
  obtain ⟨hC, hK⟩ := hs
  obtain ⟨tq, c, D, rfl, hG, hz⟩ := given hC hro
  obtain ⟨W, rfl⟩ : ∃ W : Nat, workers = (W : Int) := ⟨workers.toNat, by have := hC.1; omega⟩
  have hW1 : 1 <= W := by have := hC.1; omega
  have hW8 : W <= 8 := by have := hC.2.1; omega
  have hlen : (R tasks (W : Int)).length = tasks.length := by simp [R]
  have hvs := vals_eq (W := (W : Int)) hz
  have hO : (after w tasks.length W D).heap[w.heap.size + 1]? = some (.cells ((R tasks (W : Int)).map (Value.int .i64)).toArray 3) := by rw [after_O, hvs]
  have hsz : w.heap.size <= (after w tasks.length W D).heap.size := by rw [after_size]; omega
  have hnA : ∀ o, ¬ A (w.heap.size + 1) o := fun o h => by have := hA _ _ h; omega
  have hres : ∃ u v c', (Ending.returned (St.outV tasks.length (w.heap.size + 1))) = .returned u /\ c'.w = after w tasks.length W D /\ Rel ⟨w, A, fun _ => False⟩ c' /\ Ext (cfg0 w A) c' /\ RelV c' v u /\ K v c'.st := by
   have one : ∀ {r : Nat} {ob : Ob}, ([.vec (.int .i64) 0 (R tasks (W : Int))] : List Ob)[r]? = some ob -> r = 0 /\ ob = .vec (.int .i64) 0 (R tasks (W : Int)) := by
    intro r ob h
    cases r with
    | zero => simp only [List.getElem?_cons_zero, Option.some.injEq] at h; exact ⟨rfl, h.symm⟩
    | succ r => simp at h
   have live0 : ∀ r, live ([.vec (.int .i64) 0 (R tasks (W : Int))] : List Ob) r -> r = 0 := by
    intro r h
    have := live_lt h
    simp at this
    exact this
   refine ⟨_, .vec 0, { w := after w tasks.length W D, bl := fun _ => some (w.heap.size + 1), st := [.vec (.int .i64) 0 (R tasks (W : Int))], A := A }, rfl, rfl, ?_, ?_, ?_, hK⟩
   · exact {
      below := ⟨⟨rfl, rfl, rfl, hsz, fun k hk => absurd hk (Nat.not_lt_zero _)⟩, fun k hk => after_old (by
       rcases Nat.lt_or_ge k w.heap.size with g | g
       · exact g
       · exact absurd (.inl g) hk)⟩
      inj := fun r r' b h h' _ _ => by rw [live0 r h, live0 r' h']
      fresh := fun r b h hb => by
       simp only [Option.some.injEq] at hb
       subst hb
       exact .inl (Nat.le_succ _)
      bound := fun b o h => Nat.lt_of_lt_of_le (hA b o h) hsz
      newA := fun b o h => .inl h
      obj := fun r ob h => by
       obtain ⟨rfl, rfl⟩ := one h
       refine ⟨Nat.one_pos, Nat.zero_le _, .inr ⟨w.heap.size + 1, _, 3, tasks.length, rfl, hO, by simp [hlen, Ty.size], Nat.le_of_eq hlen, fun i y hy => ?_, fun o _ => hnA o⟩⟩
       have := int_rows _ i y hy
       simp only [RoV, Ty.size]
       exact this
      pl := PoolOk.none fun r m h => by
       have := (one h).2
       cases this }
   · exact {
      size := hsz
      sub := fun _ _ h => h
      cells := fun b o h => World.cell?_of_block (a := ⟨b, o, none⟩) (after_old (hA b o h))
      len := Nat.zero_le _
      keep := fun r ob hr => absurd hr (Nat.not_lt_zero _) }
   · simp only [RelV, List.getElem?_cons_zero]
     exact .inr ⟨w.heap.size + 1, tasks.length, rfl, congrArg (fun k => Value.slice (some ⟨w.heap.size + 1, 0, none⟩) k tasks.length) hlen.symm, _, 3, _, hO, by simp [hlen, Ty.size]⟩
  exact ⟨⟨_, _, hres⟩, fun Post N0 cs hback hrun => pool_fin hC.2.2.1 hW1 hW8 hG (hback _ _ hres)⟩
end Pl
theorem argF_mono {ss : List Sh} {args : List V} {k k' : List V -> Prop} (hk : ∀ a, k a -> k' a) (h : argF ss args k) : argF ss args k' := by
 unfold argF at *
 cases hf : fitL ss (nzL ss args) with
 | false => rw [hf] at h; exact h.elim
 | true => rw [hf] at h; exact hk _ h
end Eng
end Go.Proofs.YtnpjonhoihbaeaaGreat
