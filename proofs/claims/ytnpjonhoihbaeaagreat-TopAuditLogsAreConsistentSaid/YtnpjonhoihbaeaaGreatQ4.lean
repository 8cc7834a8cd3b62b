/-
 Part 4 of the proof of a law. Conditions: none.
-/
import Derived.Test.YtnpjonhoihbaeaaGreatQ3
import Derived.Conc.HoldsTime
import Derived.KernelRfl
import Derived.Conc.AtomicLaws2
import Derived.Conc.MarkLaws
import Derived.Conc.ClockLaws
import Derived.Conc.QuitsD
import Derived.Conc.SmallLaws
import Derived.Laws.LoneSync
import Derived.Test.YtnpjonhoihbaeaaGreatProg
set_option linter.unusedVariables false
set_option linter.unusedSimpArgs false
namespace Go.Proofs.YtnpjonhoihbaeaaGreat
open Go.Conc
open Go.ConcN (sumTo upd sumTo_upd upd_ne upd_same sumTo_congr RelBy)
open Go.ConcM (OsLater)
namespace Wp
structure Env where
 Mu : Nat
 Nx : Nat
 Wg : Nat
 O : Nat
 tM : TypeId
 tN : TypeId
 tW : TypeId
 tO : TypeId
 n : Nat
 base : Nat
 m0 : Nat
 val : Nat -> Int
 cost : Nat -> Nat
 tot : Nat
 w0 : World
 Shun : Loc -> Prop
structure Env.Ok (E : Env) : Prop where
 mn : E.Mu ≠ E.Nx
 mw : E.Mu ≠ E.Wg
 mo : E.Mu ≠ E.O
 nw : E.Nx ≠ E.Wg
 no : E.Nx ≠ E.O
 wo : E.Wg ≠ E.O
 lm : E.base <= E.Mu
 ln : E.base <= E.Nx
 lw : E.base <= E.Wg
 lo : E.base <= E.O
 n : E.n <= 1
def Env.Hot (E : Env) (b : Nat) : Prop := b = E.Mu \/ b = E.Nx \/ b = E.Wg \/ b = E.O
def Env.Sync (E : Env) (l : Loc) : Prop := ∃ a, l = .cell a /\ (a.block = E.Mu \/ a.block = E.Nx \/ a.block = E.Wg)
def Env.Pay (E : Env) (l : Loc) : Prop := ∃ a, l = .cell a /\ a.block = E.O
def muA (E : Env) : Addr := ⟨E.Mu, 0, none⟩
def nxA (E : Env) : Addr := ⟨E.Nx, 0, none⟩
def stA (E : Env) : Addr := ⟨E.Wg, 0, none⟩
def smA (E : Env) : Addr := ⟨E.Wg, 1, none⟩
structure Gh where
 num : Nat
 wk : Nat -> Wk
 mx : Mx
 nx : Nat
 ms : Nat
 mdf : Nat
 wg : Nat
 ws : Nat
 writ : Nat -> Bool
 hs : Nat
 pv : Nat -> Nat
 dm : Nat
def Env.rest (E : Env) (m : Nat) : Nat := sumTo (E.n - m) fun i => E.cost (m + i)
def dues (n : Nat) (wk : Nat -> Wk) : Nat := sumTo n fun k => (wk k).due
def c5 (n : Nat) (wk : Nat -> Wk) : Nat := sumTo n fun k => if 5 <= (wk k).fin then 1 else 0
def c43 (n : Nat) (wk : Nat -> Wk) : Nat := sumTo n fun k => if (wk k).fin = 4 \/ (wk k).fin = 3 then 1 else 0
def c2 (n : Nat) (wk : Nat -> Wk) : Nat := sumTo n fun k => if (wk k).fin = 2 then 1 else 0
def cgone (n : Nat) (wk : Nat -> Wk) : Nat := sumTo n fun k => if (wk k).gone = true then 1 else 0
structure WInv (ms wg ws v x y : Nat) : Prop where
 a : ms <= 2 -> x = 0 /\ y = 0 /\ wg = (v + (if ms = 1 then 1 else 0)) * 4294967296 /\ ws = 0
 b : ms = 3 -> x + y <= 1 /\ (1 <= v -> x = 0 /\ y = 0 /\ wg = v * 4294967296 + 1 /\ ws = 0) /\ (v = 0 -> (x = 1 /\ wg = 1 /\ ws = 0) \/ (y = 1 /\ wg = 0 /\ ws = 0) \/ (x = 0 /\ y = 0 /\ wg = 0 /\ ws = 1))
 c : 4 <= ms -> v = 0 /\ x = 0 /\ y = 0 /\ wg = 0 /\ ws = 0
def Pend (x : Wk) : Prop := x.lk = .fr \/ x.lk = .aw \/ x.lk = .qd \/ x.lk = .dd \/ (x.lk = .hd /\ x.wrote = false)
def Away (x : Wk) : Prop := x.fin <= 6 \/ x.gone = true
structure Inv (n : Nat) (σ : Gh) : Prop where
 mx : MInv σ.num σ.wk σ.mx
 wgi : WInv σ.ms σ.wg σ.ws (c5 σ.num σ.wk) (c43 σ.num σ.wk) (c2 σ.num σ.wk)
 lkf : ∀ k, k < σ.num -> (σ.wk k).lk ≠ .out -> (σ.wk k).fin = 7 /\ (σ.wk k).idx < n /\ (σ.wk k).idx < σ.nx
 done : ∀ i, i < n -> i < σ.nx -> σ.writ i = true \/ ∃ k, k < σ.num /\ Pend (σ.wk k) /\ (σ.wk k).idx = i
 uniq : ∀ j k, j < σ.num -> k < σ.num -> (σ.wk j).lk ≠ .out -> (σ.wk k).lk ≠ .out -> j = k
 pw : ∀ k, k < σ.num -> Pend (σ.wk k) -> σ.writ (σ.wk k).idx = false
 wfut : ∀ i, σ.writ i = true -> i < σ.nx /\ i < n
 fin : ∀ k, k < σ.num -> 1 <= (σ.wk k).fin /\ (σ.wk k).fin <= 7
 all : ∀ k, k < σ.num -> Away (σ.wk k) -> n <= σ.nx
 low : ∀ k, k < σ.num -> (σ.wk k).low <= σ.hs
 num : σ.num <= 8
 nb : σ.nx <= n + cgone σ.num σ.wk
def pot (n : Nat) (σ : Gh) : Nat := pots σ.num σ.wk + σ.mx.sm + 5 * (n - σ.nx)
structure J (E : Env) (σ : Gh) (w : World) : Prop where
 inv : Inv E.n σ
 mu : w.heap[E.Mu]? = some (.cells #[.int .i32 (σ.mx.word : Int), .int .u32 (σ.mx.sm : Int)] E.tM)
 nx : w.heap[E.Nx]? = some (.cells #[.int .i64 (σ.nx : Int)] E.tN)
 wg : w.heap[E.Wg]? = some (.cells #[.int .u64 (σ.wg : Int), .int .u32 (σ.ws : Int)] E.tW)
 o : ∃ cs : Array Value, w.heap[E.O]? = some (.cells cs E.tO) /\ cs.size = E.n /\ ∀ i, i < E.n -> σ.writ i = true -> cs[i]? = some (.int .i64 (E.val i))
 old : ∀ b, b < E.base -> w.heap[b]? = E.w0.heap[b]?
 size : w.heap.size = σ.hs
 tape : w.tape = E.w0.tape
 output : w.output = E.w0.output
 os : OsLater E.w0.os w.os
 acc : σ.hs + dues σ.num σ.wk + E.rest σ.nx + σ.dm = E.tot
 pv : ∀ b, σ.pv b ≠ 0 -> b < σ.hs /\ E.base <= b /\ ¬ E.Hot b /\ σ.pv b <= σ.num
 rows : ∀ b, E.base <= b -> b < w.heap.size -> ∃ cs t, w.heap[b]? = some (.cells cs t)
structure R0 (E : Env) (σ : Gh) (w : World) (σ₁ : Gh) (w₁ : World) : Prop where
 j : J E σ₁ w₁
 num : σ₁.num = σ.num
 ms : σ₁.ms = σ.ms
 mdf : σ₁.mdf = σ.mdf
 dm : σ₁.dm = σ.dm
 hs : σ.hs <= σ₁.hs
 pv : ∀ b, b < σ.hs -> σ₁.pv b = σ.pv b
 mem : ∀ b, b < σ.hs -> ¬ E.Hot b -> σ.pv b = 0 -> w₁.heap[b]? = w.heap[b]?
 cnt : c5 σ₁.num σ₁.wk <= c5 σ.num σ.wk
structure RW (E : Env) (k : Nat) (σ : Gh) (w : World) (σ₁ : Gh) (w₁ : World) : Prop where
 j : J E σ₁ w₁
 num : σ.num <= σ₁.num
 wk : σ₁.wk k = σ.wk k
 hs : σ.hs <= σ₁.hs
 pv : ∀ b, b < σ.hs -> σ₁.pv b = σ.pv b
 mem : ∀ b, b < σ.hs -> (b < (σ.wk k).low /\ σ.pv b = 0 /\ ¬ E.Hot b) \/ σ.pv b = k + 1 -> w₁.heap[b]? = w.heap[b]?
 pot : pot E.n σ₁ <= pot E.n σ /\ (σ₁.mx.word = σ.mx.word \/ Wp.pot E.n σ₁ < Wp.pot E.n σ)
 dd : (σ.wk k).lk = .dd -> σ.mx.S = 1 -> σ₁.mx.S = 1 /\ σ.mx.N <= σ₁.mx.N
def privC (σ : Gh) (l : Loc) (k : Nat) : Prop := ∃ a, l = .cell a /\ σ.pv a.block = k + 1
def writC (E : Env) (σ : Gh) (l : Loc) : Prop := ∃ a, l = .cell a /\ a.block = E.O /\ σ.writ a.off = true
def EvW (E : Env) (k : Nat) (σ σ' : Gh) (e : Event) : Prop :=
 e.loc ≠ .mark (.release (stA E)) /\ (MemAct.ofEvent e).low σ'.hs /\ ∀ x, (MemAct.ofEvent e).touch? = some x -> (E.Sync x.loc /\ x.kind = .atomic) \/ (E.Pay x.loc /\ ¬ E.Sync x.loc /\ x.kind = .plain /\ ¬ writC E σ x.loc /\ writC E σ' x.loc) \/
  (x.write = false /\ x.kind = .plain /\ ¬ E.Sync x.loc /\ ¬ E.Pay x.loc /\ ¬ E.Shun x.loc /\ blkOf x.loc < (σ.wk k).low /\ x.loc.isMemory = true /\ ∀ j, ¬ privC σ' x.loc j) \/ (x.kind = .plain /\ privC σ' x.loc k)
def Ev0 (E : Env) (σ σ' : Gh) (e : Event) : Prop :=
 e.loc ≠ .mark (.release (stA E)) /\ (MemAct.ofEvent e).low σ'.hs /\ ∀ x, (MemAct.ofEvent e).touch? = some x -> (E.Sync x.loc /\ x.kind ≠ .plain) \/
  (¬ E.Sync x.loc /\ ¬ E.Pay x.loc /\ ¬ E.Shun x.loc /\ (∀ k, ¬ privC σ x.loc k) /\ (x.write = true -> ∀ k, k < σ.num -> (σ.wk k).low <= blkOf x.loc))
structure DW (E : Env) (P : Program) (k : Nat) (σ : Gh) (w : World) (g : Goroutine) (es : Array Event) (σ' : Gh) (w' : World) (g' : Goroutine) : Prop where
 j : J E σ' w'
 own : ∀ j, j ≠ k -> σ'.wk j = σ.wk j
 num : σ'.num = σ.num
 ms : σ'.ms = σ.ms
 mdf : σ'.mdf = σ.mdf
 dm : σ'.dm = σ.dm
 hs : σ.hs <= σ'.hs
 pv : ∀ b, b < σ.hs -> σ'.pv b = σ.pv b
 pvn : ∀ b, σ.hs <= b -> σ'.pv b ≠ 0 -> σ'.pv b = k + 1
 low : (σ'.wk k).low = (σ.wk k).low
 mem : ∀ b, b < σ.hs -> ¬ E.Hot b -> σ.pv b ≠ k + 1 -> w'.heap[b]? = w.heap[b]?
 pot : pot E.n σ' <= pot E.n σ /\ (σ'.mx.word = σ.mx.word \/ Wp.pot E.n σ' < Wp.pot E.n σ)
 dd : ∀ j, j ≠ k -> j < σ.num -> (σ.wk j).lk = .dd -> σ.mx.S = 1 -> σ'.mx.S = 1 /\ σ.mx.N <= σ'.mx.N
 cnt : c5 σ'.num σ'.wk <= c5 σ.num σ.wk
 alive : (σ.wk k).fin ≠ 1
 run : g'.status = .running
 df : deafBehind (σ.wk k).df es = (σ'.wk k).df
 wake : (σ.mx.sm = 0 -> 0 < σ'.mx.sm -> mayWake P g = true) /\ (σ.ws = 0 -> 0 < σ'.ws -> mayWake P g = true)
 writ : ∀ i, σ.writ i = true -> σ'.writ i = true
 ev : ∀ e ∈ es, EvW E k σ σ' e
 rel : (σ'.wk k).fin <= 6 -> ((σ.wk k).fin <= 6 /\ ∀ j e, es[j]? = some e -> (MemAct.ofEvent e).touch? = none \/ ((∃ ad wr, e = ⟨.cell ad, wr, true⟩) /\ 0 < deafBehind (σ.wk k).df (es.extract 0 j))) \/ (es = #[Go.ConcR.mk (.releaseMerge (stA E))] /\ (σ.wk k).df = 0)
structure D0 (E : Env) (σ : Gh) (w : World) (g : Goroutine) (es : Array Event) (σ' : Gh) (w' : World) (g' : Goroutine) : Prop where
 j : J E σ' w'
 wk : σ'.wk = σ.wk
 num : σ'.num = σ.num
 mx : σ'.mx = σ.mx
 nx : σ'.nx = σ.nx
 writ : σ'.writ = σ.writ
 hs : σ.hs <= σ'.hs
 pv : σ'.pv = σ.pv
 ws : σ'.ws <= σ.ws
 mem : ∀ b, b < σ.hs -> (∃ k, k < σ.num /\ b < (σ.wk k).low) \/ σ.pv b ≠ 0 -> ¬ E.Hot b -> w'.heap[b]? = w.heap[b]?
 run : g'.status = .running
 df : deafBehind σ.mdf es = σ'.mdf
 ev : ∀ e ∈ es, Ev0 E σ σ' e
 acq : σ'.ms = 5 -> σ.ms = 5 \/ (σ.ms = 4 /\ es = #[Go.ConcR.mk (.acquire (stA E))] /\ σ.mdf = 0)
 wait : σ'.ms = 3 /\ σ'.ws = 0 -> True
structure SP (E : Env) (σ : Gh) (w : World) (g : Goroutine) (σ' : Gh) (w' : World) (g' c : Goroutine) : Prop where
 j : J E σ' w'
 heap : w' = w
 num : σ'.num = σ.num + 1
 wk : σ'.wk = upd σ.wk σ.num { low := σ.hs }
 mx : σ'.mx = σ.mx
 nx : σ'.nx = σ.nx
 writ : σ'.writ = σ.writ
 hs : σ'.hs = σ.hs
 pv : σ'.pv = σ.pv
 run : g'.status = .running
 df : σ.mdf = 0 /\ σ'.mdf = 0
 ms : σ'.ms ≠ 5
def proto (E : Env) (P : Program) : Proto Gh where
 J := J E
 R i := match i with
  | 0 => R0 E
  | k + 1 => RW E k
 D i := match i with
  | 0 => D0 E
  | k + 1 => DW E P k
 S := SP E
 W i σ := match i with
  | 0 => σ.ms = 3 /\ σ.ws = 0
  | k + 1 => (σ.wk k).lk = .qd /\ σ.mx.sm = 0 /\ (σ.wk k).fin ≠ 1
 quit i σ := match i with
  | 0 => False
  | k + 1 => (σ.wk k).fin = 1 /\ (σ.wk k).due = 0
 num := Gh.num
 df i σ := match i with
  | 0 => σ.mdf
  | k + 1 => (σ.wk k).df
structure TI (E : Env) (σ : Gh) (t : Trace) : Prop where
 tl : TL E.Sync E.Pay E.Shun (stA E) E.m0 σ.num (fun k => (σ.wk k).low) (fun k => (σ.wk k).fin <= 6) (writC E σ) (privC σ) σ.hs t
 acq : σ.ms = 5 -> ∃ q, t.act? q = some (.mark (.acquire (stA E))) /\ t.g? q = some 0 /\ t.heard q /\ ∀ k, k < σ.num -> ∃ r, RelBy (stA E) t (E.m0 + 1 + k) r /\ r < q
section
variable {E : Env} {P : Program} {σ σ' : Gh} {w w' : World}
theorem J.at (h : J E σ w) (d : Nat) : J E σ (w.at d) := ⟨h.inv, h.mu, h.nx, h.wg, h.o, h.old, h.size, h.tape, h.output, h.os, h.acc, h.pv, h.rows⟩
theorem cnt_grow {n : Nat} {wk : Nat -> Wk} {x : Wk} {φ : Wk -> Nat} (hx : φ x = 0) : sumTo (n + 1) (fun k => φ (upd wk n x k)) = sumTo n fun k => φ (wk k) := by
 show sumTo n (fun k => φ (upd wk n x k)) + φ (upd wk n x n) = _
 rw [upd_same, hx, Nat.add_zero]
 exact sumTo_congr fun i hi => by rw [upd_ne _ _ (by omega)]
theorem pos_of {n : Nat} {f : Nat -> Nat} (h : 0 < sumTo n f) : ∃ k, k < n /\ 0 < f k := by
 induction n with
 | zero => cases h
 | succ n ih =>
  simp only [sumTo] at h
  by_cases e : 0 < sumTo n f
  · obtain ⟨k, hk, hf⟩ := ih e; exact ⟨k, by omega, hf⟩
  · exact ⟨n, by omega, by omega⟩
theorem zero_of {n : Nat} {f : Nat -> Nat} (h : ∀ k, k < n -> f k = 0) : sumTo n f = 0 := by
 induction n with
 | zero => rfl
 | succ n ih => simp only [sumTo]; rw [ih fun k hk => h k (by omega), h n (by omega)]
theorem le_term {n : Nat} {f : Nat -> Nat} {k : Nat} (hk : k < n) : f k <= sumTo n f := Go.ConcN.le_sumTo hk
theorem Inv.allQuit {n : Nat} (I : Inv n σ) (h : 4 <= σ.ms) : ∀ k, k < σ.num -> (σ.wk k).fin = 1 := by
 intro k hk
 obtain ⟨h1, h2, h3, _⟩ := I.wgi.c h
 have a := le_term (f := fun k => if 5 <= (σ.wk k).fin then 1 else 0) hk
 have b := le_term (f := fun k => if (σ.wk k).fin = 4 \/ (σ.wk k).fin = 3 then 1 else 0) hk
 have c := le_term (f := fun k => if (σ.wk k).fin = 2 then 1 else 0) hk
 unfold c5 at h1
 unfold c43 at h2
 unfold c2 at h3
 rw [h1] at a
 rw [h2] at b
 rw [h3] at c
 have := I.fin k hk
 split at a
 · omega
 · split at b
   · omega
   · split at c <;> omega
theorem live (hJ : J E σ w) (h3 : σ.ms = 3) (h0 : σ.ws = 0) : ∃ k, k < σ.num /\ ¬ ((σ.wk k).lk = .qd /\ σ.mx.sm = 0) /\ (σ.wk k).fin ≠ 1 := by
 have I := hJ.inv
 apply Classical.byContradiction
 intro hn
 have all : ∀ k, k < σ.num -> ((σ.wk k).lk = .qd /\ σ.mx.sm = 0) \/ (σ.wk k).fin = 1 := fun k hk => by
  apply Classical.byContradiction
  intro h
  exact hn ⟨k, hk, fun a => h (.inl a), fun a => h (.inr a)⟩
 have stand : ∀ k, k < σ.num -> (σ.wk k).lk = .qd \/ (σ.wk k).lk = .out := fun k hk => by
  rcases all k hk with h | h
  · exact .inl h.1
  · refine .inr (Classical.byContradiction fun hl => ?_)
    have := (I.lkf k hk hl).1
    omega
 have none : ∀ y, y ≠ .qd -> y ≠ .out -> cnt σ.num σ.wk y = 0 := fun y h1 h2 => zero_of fun k hk => by
  rcases stand k hk with h | h <;> rw [h]
  · exact if_neg (Ne.symm h1)
  · exact if_neg (Ne.symm h2)
 obtain ⟨b1, b2, b3⟩ := I.wgi.b h3
 have hx : c43 σ.num σ.wk = 0 := zero_of fun k hk => by
  rw [if_neg]
  rcases all k hk with h | h
  · have := (I.lkf k hk (by rw [h.1]; simp)).1; omega
  · omega
 have hy : c2 σ.num σ.wk = 0 := zero_of fun k hk => by
  rw [if_neg]
  rcases all k hk with h | h
  · have := (I.lkf k hk (by rw [h.1]; simp)).1; omega
  · omega
 by_cases hv : c5 σ.num σ.wk = 0
 · have := b3 hv; omega
 · obtain ⟨k, hk, hf⟩ := pos_of (n := σ.num) (f := fun k => if 5 <= (σ.wk k).fin then 1 else 0) (by unfold c5 at hv; omega)
   have hf5 : 5 <= (σ.wk k).fin := by
    by_cases h : 5 <= (σ.wk k).fin
    · exact h
    · rw [if_neg h] at hf; omega
   rcases all k hk with h | h
   · exact I.mx.live (cnt_pos hk h.1) h.2 ⟨none _ (by simp) (by simp), none _ (by simp) (by simp), none _ (by simp) (by simp), none _ (by simp) (by simp), none _ (by simp) (by simp)⟩
   · omega
theorem okW_of {k : Nat} {fn : FuncId} {pos : String} {es : Array Event} (h : ∀ e ∈ es, EvW E k σ σ' e) : ∀ op ∈ MemOp.ofEvents (E.m0 + 1 + k) fn pos es, OkW E.Sync E.Pay E.Shun (stA E) E.m0 (fun k => (σ.wk k).low) (writC E σ) (writC E σ') (privC σ') σ'.hs k op := by
 intro op hop
 obtain ⟨e, he, rfl⟩ := Go.Conc.mem_ofEvents (g := E.m0 + 1 + k) (fn := fn) (pos := pos) (es := es) hop
 obtain ⟨h1, h2, h3⟩ := h e he
 exact ⟨rfl, fun x => h1 (by
  obtain ⟨l, a, b⟩ := e
  cases l with
  | mark m => simp only [MemAct.ofEvent] at x; cases x; rfl
  | obj r => cases a <;> cases b <;> simp [MemAct.ofEvent] at x
  | _ => simp [MemAct.ofEvent] at x), h2, h3⟩
theorem ok0_of {fn : FuncId} {pos : String} {es : Array Event} (h : ∀ e ∈ es, Ev0 E σ σ' e) : ∀ op ∈ MemOp.ofEvents 0 fn pos es, Ok0 E.Sync E.Pay E.Shun (stA E) σ.num (fun k => (σ.wk k).low) (privC σ) σ'.hs op := by
 intro op hop
 obtain ⟨e, he, rfl⟩ := Go.Conc.mem_ofEvents (g := 0) (fn := fn) (pos := pos) (es := es) hop
 obtain ⟨h1, h2, h3⟩ := h e he
 exact ⟨rfl, fun x => h1 (by
  obtain ⟨l, a, b⟩ := e
  cases l with
  | mark m => simp only [MemAct.ofEvent] at x; cases x; rfl
  | obj r => cases a <;> cases b <;> simp [MemAct.ofEvent] at x
  | _ => simp [MemAct.ofEvent] at x), h2, h3⟩
theorem mute_facts {e : Event} (h : e.mute = true) {g : Nat} {fn : FuncId} {pos : String} {B : Nat} {a : Addr} : (({ g, fn, pos, act := .ofEvent e } : MemOp).g = g /\ (MemAct.ofEvent e).touch? = none /\ MemAct.ofEvent e ≠ .mark (.release a) /\ (MemAct.ofEvent e).low B) := by
 refine ⟨rfl, touch_mute h, ?_, low_mute h B⟩
 obtain ⟨loc, wr, sy⟩ := e
 cases loc <;> simp_all [Event.mute]
 rename_i m
 cases m <;> simp_all [MemAct.ofEvent]
theorem J.pvOk (h : J E σ w) : PvOk E.Sync E.Pay σ.num (privC σ) where
 n := by rintro l k ⟨a, _, e⟩; have := (h.pv _ (by omega : σ.pv a.block ≠ 0)).2.2.2; omega
 s := by
  rintro l k ⟨a, rfl, e⟩ ⟨a', e', hh⟩
  cases e'
  refine (h.pv _ (by omega : σ.pv a.block ≠ 0)).2.2.1 ?_
  rcases hh with hh | hh | hh
  · exact .inl hh
  · exact .inr (.inl hh)
  · exact .inr (.inr (.inl hh))
 p := by
  rintro l k ⟨a, rfl, e⟩ ⟨a', e', hh⟩
  cases e'
  exact (h.pv _ (by omega : σ.pv a.block ≠ 0)).2.2.1 (.inr (.inr (.inr hh)))
 u := by
  rintro l j k ⟨a, rfl, e⟩ ⟨a', e', e2⟩
  cases e'
  omega
theorem rules (E : Env) (P : Program) : Rules P (proto E P) (TI E) E.m0 where
 trans := by
  intro i a u b v c x h1 h2
  cases i with
  | zero =>
   have h1 : R0 E a u b v := h1
   have h2 : R0 E b v c x := h2
   have hs1 := h1.hs
   exact ⟨h2.j, h2.num.trans h1.num, h2.ms.trans h1.ms, h2.mdf.trans h1.mdf, h2.dm.trans h1.dm, Nat.le_trans hs1 h2.hs, fun b hb => (h2.pv b (by omega)).trans (h1.pv b hb), fun b hb hh hp => (h2.mem b (by omega) hh ((h1.pv b hb).trans hp)).trans (h1.mem b hb hh hp), Nat.le_trans h2.cnt h1.cnt⟩
  | succ k =>
   have h1 : RW E k a u b v := h1
   have h2 : RW E k b v c x := h2
   have hs1 := h1.hs
   refine ⟨h2.j, Nat.le_trans h1.num h2.num, h2.wk.trans h1.wk, Nat.le_trans hs1 h2.hs, fun b hb => (h2.pv b (by omega)).trans (h1.pv b hb), fun b hb hc => (h2.mem b (by omega) (by rw [h1.wk, h1.pv b hb]; exact hc)).trans (h1.mem b hb hc), ⟨Nat.le_trans h2.pot.1 h1.pot.1, ?_⟩, fun hd hs => ?_⟩
   · rcases h1.pot.2 with e1 | e1
     · rcases h2.pot.2 with e2 | e2
       · exact .inl (e2.trans e1)
       · exact .inr (by have := h1.pot.1; omega)
     · exact .inr (by have := h2.pot.1; omega)
   · obtain ⟨g1, g2⟩ := h1.dd hd hs
     obtain ⟨g3, g4⟩ := h2.dd (by rw [h1.wk]; exact hd) g1
     exact ⟨g3, Nat.le_trans g2 g4⟩
 draw := by
  intro i σ w hJ d
  have hJ : J E σ w := hJ
  cases i with
  | zero => exact (⟨hJ.at d, rfl, rfl, rfl, rfl, Nat.le_refl _, fun _ _ => rfl, fun _ _ _ _ => rfl, Nat.le_refl _⟩ : R0 E σ w σ (w.at d))
  | succ k => exact (⟨hJ.at d, Nat.le_refl _, rfl, Nat.le_refl _, fun _ _ => rfl, fun _ _ _ => rfl, ⟨Nat.le_refl _, .inl rfl⟩, fun _ h => ⟨h, Nat.le_refl _⟩⟩ : RW E k σ w σ (w.at d))
 at_ := fun hJ d => J.at hJ d
 rdf := by
  intro i σ w σ₁ w₁ h
  cases i with
  | zero => exact R0.mdf h
  | succ k => exact congrArg Wk.df (RW.wk h)
 compat := by
  intro i i' σ w g es σ' w' g' hJ hD hne hi hi'
  cases i with
  | zero =>
   have hD : D0 E σ w g es σ' w' g' := hD
   cases i' with
   | zero => exact absurd rfl hne
   | succ k =>
    have ep : pot E.n σ' = pot E.n σ := by unfold pot; rw [hD.num, hD.wk, hD.mx, hD.nx]
    exact (⟨hD.j, by rw [hD.num]; exact Nat.le_refl _, by rw [hD.wk], hD.hs, fun b _ => by rw [hD.pv], fun b hb hc => hc.elim (fun hc => hD.mem b hb (.inl ⟨k, hi', hc.1⟩) hc.2.2) (fun hc => hD.mem b hb (.inr (by omega)) ((hJ : J E σ w).pv b (by omega)).2.2.1), ⟨by rw [ep]; exact Nat.le_refl _, .inl (by rw [hD.mx])⟩, fun _ h => by rw [hD.mx]; exact ⟨h, Nat.le_refl _⟩⟩ : RW E k σ w σ' w')
  | succ j =>
   have hD : DW E P j σ w g es σ' w' g' := hD
   cases i' with
   | zero => exact (⟨hD.j, hD.num, hD.ms, hD.mdf, hD.dm, hD.hs, hD.pv, fun b hb hh hp => hD.mem b hb hh (by omega), hD.cnt⟩ : R0 E σ w σ' w')
   | succ k =>
    have hkj : k ≠ j := fun e => hne (by rw [e])
    exact (⟨hD.j, by rw [hD.num]; exact Nat.le_refl _, hD.own k hkj, hD.hs, hD.pv, fun b hb hc => hc.elim (fun hc => hD.mem b hb hc.2.2 (by omega)) (fun hc => hD.mem b hb ((hJ : J E σ w).pv b (by omega)).2.2.1 (by omega)), hD.pot, fun hd hs => hD.dd k hkj hi' hd hs⟩ : RW E k σ w σ' w')
 hold := by
  intro i σ w g es σ' w' g' _ hD _
  cases i with
  | zero => exact D0.j hD
  | succ k => exact DW.j hD
 keep := by
  intro i σ w g es σ' w' g' hD
  cases i with
  | zero =>
   have hD : D0 E σ w g es σ' w' g' := hD
   refine ⟨hD.num, hD.run, fun k hk => ?_, hD.df⟩
   cases k with
   | zero => exact absurd rfl hk
   | succ k => show (σ'.wk k).fin = 1 /\ (σ'.wk k).due = 0 ↔ (σ.wk k).fin = 1 /\ (σ.wk k).due = 0; rw [hD.wk]
  | succ j =>
   have hD : DW E P j σ w g es σ' w' g' := hD
   refine ⟨hD.num, hD.run, fun k hk => ?_, hD.df⟩
   cases k with
   | zero => exact Iff.rfl
   | succ k => show (σ'.wk k).fin = 1 /\ (σ'.wk k).due = 0 ↔ (σ.wk k).fin = 1 /\ (σ.wk k).due = 0; rw [hD.own k fun e => hk (by rw [e])]
 alive := by
  intro i σ w g es σ' w' g' hD
  cases i with
  | zero => exact id
  | succ k => exact fun h => DW.alive hD h.1
 wakes := by
  intro i i' σ w g es σ' w' g' hD hne h1 h2
  cases i with
  | zero =>
   have hD : D0 E σ w g es σ' w' g' := hD
   cases i' with
   | zero => exact absurd rfl hne
   | succ k =>
    refine absurd ?_ h2
    have h1 : (σ.wk k).lk = .qd /\ σ.mx.sm = 0 /\ (σ.wk k).fin ≠ 1 := h1
    show (σ'.wk k).lk = .qd /\ σ'.mx.sm = 0 /\ (σ'.wk k).fin ≠ 1
    rw [hD.wk, hD.mx]; exact h1
  | succ j =>
   have hD : DW E P j σ w g es σ' w' g' := hD
   cases i' with
   | zero =>
    have h1 : σ.ms = 3 /\ σ.ws = 0 := h1
    have h2 : ¬ (σ'.ms = 3 /\ σ'.ws = 0) := h2
    rw [hD.ms] at h2
    exact hD.wake.2 h1.2 (by have := h1.1; omega)
   | succ k =>
    have h1 : (σ.wk k).lk = .qd /\ σ.mx.sm = 0 /\ (σ.wk k).fin ≠ 1 := h1
    have h2 : ¬ ((σ'.wk k).lk = .qd /\ σ'.mx.sm = 0 /\ (σ'.wk k).fin ≠ 1) := h2
    rw [hD.own k fun e => hne (by rw [e])] at h2
    exact hD.wake.1 h1.2.1 (Nat.pos_of_ne_zero fun e => h2 ⟨h1.1, e, h1.2.2⟩)
 quits := by
  intro i σ h
  cases i with
  | zero => exact id
  | succ k => exact fun x => h.2.2 x.1
 trace := by
  intro i σ w g es σ' w' g' t hJ hi hT hd hD
  cases i with
  | zero =>
   have hD : D0 E σ w g es σ' w' g' := hD
   rw [if_pos rfl] at hd ⊢
   have ew : writC E σ' = writC E σ := by funext l; unfold writC; rw [hD.writ]
   refine ⟨?_, fun h5 => ?_⟩
   · have := hT.tl.app0 (ok0_of (fn := g.frame.fn) (pos := g.frame.place) hD.ev) hD.hs
     have ep : privC σ' = privC σ := by funext l k; unfold privC; rw [hD.pv]
     rw [hD.num, hD.wk, ew, ep]
     exact this
   · rcases hD.acq h5 with h | ⟨h4, rfl, hm⟩
     · obtain ⟨q, h1, h2, h3, h4⟩ := hT.acq h
       have hq := lt_of_act? h1
       refine ⟨q, by rw [act?_old hq]; exact h1, by rw [g?_old hq]; exact h2, (heard_old hq).2 h3, fun k hk => ?_⟩
       rw [hD.num] at hk
       obtain ⟨r, hr, hrq⟩ := h4 k hk
       exact ⟨r, Go.ConcN.RelBy.appOther hr (g := 0) (fun op hop => by obtain ⟨e, _, rfl⟩ := Go.Conc.mem_ofEvents hop; rfl) (by omega), hrq⟩
     · have e1 : MemOp.ofEvents 0 g.frame.fn g.frame.place #[Go.ConcR.mk (.acquire (stA E))] = #[{ g := 0, fn := g.frame.fn, pos := g.frame.place, act := .mark (.acquire (stA E)) }] := by rw [ofEvents_eq]; simp [Go.ConcR.mk, MemAct.ofEvent]
       have hy : (t ++ #[({ g := 0, fn := g.frame.fn, pos := g.frame.place, act := .mark (.acquire (stA E)) } : MemOp)])[t.size]? = some { g := 0, fn := g.frame.fn, pos := g.frame.place, act := .mark (.acquire (stA E)) } := by simp
       have hd0 : Deaf t 0 = 0 := by rw [hd]; exact hm
       rw [e1]
       refine ⟨t.size, by rw [act?_of hy], by simp [Trace.g?], ⟨0, by simp [Trace.g?], by rw [deaf_old (Nat.le_refl _)]; exact hd0⟩, fun k hk => ?_⟩
       rw [hD.num] at hk
       have hf := (hJ : J E σ w).inv.allQuit (by omega) k hk
       obtain ⟨r, hr⟩ := hT.tl.rels k hk (by show (σ.wk k).fin <= 6; omega)
       exact ⟨r, Go.ConcN.RelBy.appOther hr (g := 0) (fun op hop => by simp at hop; rw [hop]) (by omega), lt_of_act? hr.act⟩
  | succ k =>
   have hD : DW E P k σ w g es σ' w' g' := hD
   have hk : k < σ.num := hi
   have ei : E.m0 + (k + 1) = E.m0 + 1 + k := by omega
   have e0 : (if k + 1 = 0 then 0 else E.m0 + (k + 1)) = E.m0 + 1 + k := by rw [if_neg (by omega), ei]
   rw [e0] at hd ⊢
   have hd : Deaf t (E.m0 + 1 + k) = (σ.wk k).df := hd
   have el : (fun j => (σ'.wk j).low) = fun j => (σ.wk j).low := by
    funext j
    by_cases e : j = k
    · subst e; exact hD.low
    · rw [hD.own j e]
   refine ⟨?_, fun h5 => ?_⟩
   · have hJ' := hD.j
     have := hT.tl.appW (rel' := fun j => (σ'.wk j).fin <= 6) hk (okW_of (fn := g.frame.fn) (pos := g.frame.place) hD.ev) (fun l ⟨a, e, hb, hw⟩ => ⟨a, e, hb, hD.writ _ hw⟩) hD.hs ?_ ?_ ?_ fun j hj hr => ?_
     · rw [hD.num, el]
       exact this
     · have := hJ'.pvOk
       rw [hD.num] at this; exact this
     · rintro l j ⟨a, e, h⟩
       exact ⟨a, e, by rw [hD.pv _ ((hJ : J E σ w).pv _ (by omega)).1]; exact h⟩
     · rintro l j ⟨a, e, h⟩
       rcases Nat.lt_or_ge a.block σ.hs with hlt | hge
       · exact .inl ⟨a, e, by rw [<- hD.pv _ hlt]; exact h⟩
       · have := hD.pvn _ hge (by omega)
         exact .inr ⟨by omega, a, e, hge⟩
     · by_cases e : j = k
       · subst e
         rcases hD.rel hr with ⟨h6, hes⟩ | ⟨rfl, hdf⟩
         · obtain ⟨r, hb⟩ := hT.tl.rels j hj h6
           exact ⟨r, hb.appOwn _ _ _ (by rw [hd]; exact hes)⟩
         · exact ⟨t.size, RelBy.new (by rw [hd]; exact hdf) _ _⟩
       · have hr : (σ'.wk j).fin <= 6 := hr
         rw [hD.own j e] at hr
         obtain ⟨r, hb⟩ := hT.tl.rels j hj hr
         exact ⟨r, Go.ConcN.RelBy.appOther hb (g := E.m0 + 1 + k) (fun op hop => by obtain ⟨e, _, rfl⟩ := Go.Conc.mem_ofEvents hop; rfl) (by omega)⟩
   · rw [hD.ms] at h5
     exact absurd ((hJ : J E σ w).inv.allQuit (by omega) k hk) hD.alive
 slip := by
  intro σ t k fn pos es hT h0 hm hk
  have hle : k <= E.m0 + σ.num := by
   rcases hk with h | ⟨i, e, _, h, _⟩
   · omega
   · have : i <= σ.num := h; omega
  have hu : ∀ op ∈ MemOp.ofEvents k fn pos es, op.g = k /\ op.act.touch? = none /\ op.act ≠ .mark (.release (stA E)) /\ op.act.low σ.hs := by
   intro op hop
   obtain ⟨e, he, rfl⟩ := Go.Conc.mem_ofEvents (g := k) (fn := fn) (pos := pos) (es := es) hop
   exact mute_facts (g := k) (fn := fn) (pos := pos) (hm e he)
  refine ⟨hT.tl.slip h0 hle hu, fun h5 => ?_⟩
  obtain ⟨q, h1, h2, h3, h4⟩ := hT.acq h5
  have hq := lt_of_act? h1
  refine ⟨q, by rw [act?_old hq]; exact h1, by rw [g?_old hq]; exact h2, (heard_old hq).2 h3, fun j hj => ?_⟩
  obtain ⟨r, hr, hrq⟩ := h4 j hj
  refine ⟨r, hr.app fun i hi hg' hc => ?_, hrq⟩
  obtain ⟨x, hx, _⟩ := hc
  obtain ⟨op, hop, hox⟩ := touch_of hx
  rcases getElem?_append_cases hop with ⟨hlt, _⟩ | ⟨_, hou⟩
  · omega
  · rw [(hu op hou).2.1] at hox; cases hox
 sCompat := by
  intro i σ w g σ' w' g' c hJ hS hi hle
  have hS : SP E σ w g σ' w' g' c := hS
  cases i with
  | zero => cases hi
  | succ k =>
   have hk : k ≠ σ.num := by have : k + 1 <= σ.num := hle; omega
   have ep : pot E.n σ' = pot E.n σ := by
    unfold pot pots
    rw [hS.num, hS.wk, hS.mx, hS.nx, cnt_grow (φ := fun x => wt x.lk) rfl]
   exact (⟨hS.j, by rw [hS.num]; omega, by rw [hS.wk, upd_ne _ _ hk], by rw [hS.hs]; exact Nat.le_refl _, fun b _ => by rw [hS.pv], fun b _ _ => by rw [hS.heap], ⟨by rw [ep]; exact Nat.le_refl _, .inl (by rw [hS.mx])⟩, fun _ h => by rw [hS.mx]; exact ⟨h, Nat.le_refl _⟩⟩ : RW E k σ w σ' w')
 sHold := fun _ hS => SP.j hS
 sKeep := by
  intro σ w g σ' w' g' c hS
  have hS : SP E σ w g σ' w' g' c := hS
  refine ⟨hS.num, hS.run, fun k hk => ?_, fun k h0 hk hw => ?_, hS.df.1, hS.df.2, ?_⟩
  · cases k with
    | zero => exact Iff.rfl
    | succ k =>
     have hk : k + 1 <= σ.num := hk
     show (σ'.wk k).fin = 1 /\ (σ'.wk k).due = 0 ↔ (σ.wk k).fin = 1 /\ (σ.wk k).due = 0
     rw [hS.wk, upd_ne _ _ (by omega)]
  · cases k with
    | zero => cases h0
    | succ k =>
     have hk : k + 1 <= σ.num := hk
     have hw : (σ.wk k).lk = .qd /\ σ.mx.sm = 0 /\ (σ.wk k).fin ≠ 1 := hw
     show (σ'.wk k).lk = .qd /\ σ'.mx.sm = 0 /\ (σ'.wk k).fin ≠ 1
     rw [hS.wk, hS.mx, upd_ne _ _ (by omega)]; exact hw
  · rw [show (proto E P).num σ' = σ.num + 1 from hS.num]
    show (σ'.wk σ.num).df = 0
    rw [hS.wk, upd_same]
 sTrace := by
  intro σ w g σ' w' g' c t hJ hT h0 hab hS
  have hS : SP E σ w g σ' w' g' c := hS
  have ew : writC E σ' = writC E σ := by funext l; unfold writC; rw [hS.writ]
  refine ⟨?_, fun h5 => absurd h5 hS.ms⟩
  have ep : privC σ' = privC σ := by funext l k; unfold privC; rw [hS.pv]
  rw [hS.num, ew, ep, hS.hs]
  refine hT.tl.fork ⟨rfl, rfl⟩ ⟨rfl, rfl⟩ h0 (hab _ (by show E.m0 + σ.num < E.m0 + σ.num + 1; omega)) (fun k hk => ?_) (fun k hk hr => ?_) ?_
  · show (σ'.wk k).low = (σ.wk k).low
    rw [hS.wk, upd_ne _ _ (by omega)]
  · have hr : (σ'.wk k).fin <= 6 := hr
    show (σ.wk k).fin <= 6
    rw [hS.wk, upd_ne _ _ (by omega)] at hr; exact hr
  · show ¬ (σ'.wk σ.num).fin <= 6
    rw [hS.wk, upd_same]
    show ¬ 7 <= 6
    omega
 live := by
  intro σ w hJ hw
  obtain ⟨k, h1, h2, h3⟩ := live hJ hw.1 hw.2
  exact ⟨k + 1, by omega, h1, fun h => h2 ⟨h.1, h.2.1⟩, fun h => h3 h.1⟩
end
open Go.ConcN (sumTo upd sumTo_upd upd_ne upd_same sumTo_congr)
def loudOp (P : Program) (cmp : Bool) : Op -> Bool
 | .load .. | .store .. | .alloc .. | .box .. | .makeSlice .. | .go _ | .panic _ => true
 | .call { callee := .value (.func f), .. } => !((P.funcs[f]?).any (·.body.isSome))
 | .call { callee := .value _, .. } => true
 | .call { callee := .builtin .recover, .. } => true
 | .binOp .lss .. | .binOp .gtr .. | .binOp .leq .. | .binOp .geq .. | .binOp .eql .. | .binOp .neq .. => cmp
 | _ => false
def loud (P : Program) (cmp : Bool) (g : Goroutine) : Bool :=
 match g.frame.mode, g.frame.todo with
 | .run, .inRegion ops (i :: _) :: _ => match ops[i]? with
  | some o => Region.wanted o (yielded ops g.frame.tmps) && loudOp P cmp o.op
  | none => true
 | .run, .code (.region _ _ true) :: _ => true
 | .run, _ => false
 | _, _ => !g.frame.defers.isEmpty
def nextQ (P : Program) (main : Bool) (g : Goroutine) : Goroutine := match stepG P main g default with
 | .go g' _ _ => g'
 | _ => g
def seqQ (P : Program) (main cmp : Bool) : Nat -> Goroutine -> World -> List GStep
 | 0, _, _ => []
 | n + 1, g, w => bif loud P cmp g then [] else stepG P main g w :: seqQ P main cmp n (nextQ P main g) w
def expQ (P : Program) (main cmp : Bool) : Nat -> Goroutine -> World -> List GStep
 | 0, _, _ => []
 | n + 1, g, w => bif loud P cmp g then [] else .go (nextQ P main g) w #[] :: expQ P main cmp n (nextQ P main g) w
def isRun (g : Goroutine) : Bool := (match g.status with | .running => true | _ => false) && g.offers.isNone
def okQ (P : Program) (main cmp : Bool) : Nat -> Goroutine -> Bool
 | 0, g => isRun g
 | n + 1, g => isRun g && bif loud P cmp g then true else okQ P main cmp n (nextQ P main g)
theorem isRun_out {g : Goroutine} (h : isRun g = true) : g.status = .running /\ g.offers = none := by
 unfold isRun at h
 obtain ⟨fr, cs, st, dy, off⟩ := g
 cases st <;> cases off <;> simp_all
structure Quiet (P : Program) (main cmp : Bool) (F : Nat) (g : Goroutine) : Prop where
 seq : ∀ w, seqQ P main cmp F g w = expQ P main cmp F g w
 ok : okQ P main cmp F g = true
section
variable {P : Program} {main cmp : Bool} {F : Nat} {g : Goroutine}
end
section
variable {E : Env} {P : Program} {k : Nat} {Stop : Gh -> Goroutine -> World -> Prop}
theorem DW.quiet {σ : Gh} {w : World} {g g' : Goroutine} (hJ : J E σ w) (ha : (σ.wk k).fin ≠ 1) (hr : g'.status = .running) : DW E P k σ w g #[] σ w g' where
 j := hJ
 own := fun _ _ => rfl
 num := rfl
 ms := rfl
 mdf := rfl
 dm := rfl
 hs := Nat.le_refl _
 pv := fun _ _ => rfl
 pvn := fun b hb hp => absurd (hJ.pv b hp).1 (by omega)
 low := rfl
 mem := fun _ _ _ _ => rfl
 pot := ⟨Nat.le_refl _, .inl rfl⟩
 dd := fun _ _ _ _ h => ⟨h, Nat.le_refl _⟩
 cnt := Nat.le_refl _
 alive := ha
 run := hr
 df := rfl
 wake := ⟨fun a b => by omega, fun a b => by omega⟩
 writ := fun _ h => h
 ev := fun e he => by simp at he
 rel := fun h => .inl ⟨h, fun j e he => by simp at he⟩
theorem D0.quiet {σ : Gh} {w : World} {g g' : Goroutine} (hJ : J E σ w) (hr : g'.status = .running) : D0 E σ w g #[] σ w g' where
 j := hJ
 wk := rfl
 num := rfl
 mx := rfl
 nx := rfl
 writ := rfl
 hs := Nat.le_refl _
 pv := rfl
 ws := Nat.le_refl _
 mem := fun _ _ _ _ => rfl
 run := hr
 df := rfl
 ev := fun e he => by simp at he
 acq := fun h => .inl h
 wait := fun _ => trivial
theorem RW.refl {σ : Gh} {w : World} (hJ : J E σ w) : RW E k σ w σ w := (rules E default).draw (i := k + 1) hJ w.drawn
theorem R0.refl {σ : Gh} {w : World} (hJ : J E σ w) : R0 E σ w σ w := (rules E default).draw (i := 0) hJ w.drawn
theorem RW.trans {a b c : Gh} {u v x : World} (h1 : RW E k a u b v) (h2 : RW E k b v c x) : RW E k a u c x := (rules E default).trans (i := k + 1) h1 h2
theorem R0.trans {a b c : Gh} {u v x : World} (h1 : R0 E a u b v) (h2 : R0 E b v c x) : R0 E a u c x := (rules E default).trans (i := 0) h1 h2
theorem stepW {m : Nat} {σ : Gh} {g : Goroutine} {w : World} (hr : isRun g = true)
  (h : ∀ σ₁ w₁, RW E k σ w σ₁ w₁ -> ∃ g' w' es σ', stepG P false g w₁ = .go g' w' es /\ DW E P k σ₁ w₁ g es σ' w' g' /\ GoesW P (proto E P) (k + 1) Stop m σ' g' w') : GoesW P (proto E P) (k + 1) Stop (m + 1) σ g w :=
 .inr ⟨(isRun_out hr).1, (isRun_out hr).2, fun σ₁ w₁ hw => .inl (h σ₁ w₁ hw)⟩
variable {C : Nat} {WStop : Nat -> Gh -> Goroutine -> World -> Prop}
theorem stepM {m : Nat} {σ : Gh} {g : Goroutine} {w : World} (hr : isRun g = true)
  (h : ∀ σ₁ w₁, R0 E σ w σ₁ w₁ -> ∃ g' w' es σ', stepG P true g w₁ = .go g' w' es /\ D0 E σ₁ w₁ g es σ' w' g' /\ GoesM P (proto E P) C WStop Stop m σ' g' w') : GoesM P (proto E P) C WStop Stop (m + 1) σ g w :=
 .inr ⟨(isRun_out hr).1, (isRun_out hr).2, fun σ₁ w₁ hw => .inl (h σ₁ w₁ hw)⟩
end
def enter (P : Program) (f : FuncId) (args : Array Value) (cs : List Frame) : Goroutine := { frame := Frame.enter P f args .normal, callers := cs, status := .running, dying := none }
def fin (g : Goroutine) (v : Value) : Goroutine := { g with frame := g.frame.finish v }
def headO (g : Goroutine) : Option Oper := match g with
 | { frame := { fn := _, tmps, todo := .inRegion ops (i :: _) :: _, defers := _, mode := .run, kind, roundOf := none }, callers := _, status := .running, dying := none, offers := none } => match ops[i]? with
  | some o => bif Region.wanted o (yielded ops tmps) && !(kind == .early) then some o else none
  | none => none
 | _ => none
theorem of_headO {g : Goroutine} {o : Oper} (h : headO g = some o) : ∃ (b : Frame) (a : Act) (ops : Array Oper) (i : Nat) (rest : List Nat) (kk : List Item) (cs : List Frame),
  g = G (b.at a (.inRegion ops (i :: rest) :: kk)) cs /\ ops[i]? = some o /\ Region.wanted o (yielded ops a.tmps) = true /\ b.kind ≠ .early /\ g.frame.eval = a.eval /\ (∀ v, fin g v = G (b.at (a.put o.dst v) (.inRegion ops rest :: kk)) cs) /\ b.fn = g.frame.fn := by
 unfold headO at h
 split at h
 · rename_i fn tmps ops i rest kk defers kind cs
   split at h
   · next o' ho =>
     cases hc : (Region.wanted o' (yielded ops tmps) && !(kind == .early)) with
     | false => rw [hc] at h; cases h
     | true =>
      rw [hc] at h
      cases h
      simp only [Bool.and_eq_true] at hc
      refine ⟨{ (default : Frame) with fn := fn, kind := kind }, ⟨tmps, defers⟩, ops, i, rest, kk, cs, rfl, ho, hc.1, by simpa using hc.2, funext fun x => by cases x <;> rfl, fun v => ?_, rfl⟩
      have := Frame.finish_at { (default : Frame) with fn := fn, kind := kind } ⟨tmps, defers⟩ ops i rest kk v
      rw [ho] at this
      show G _ cs = _
      exact congrArg (fun f => G f cs) this
   · cases h
 · cases h
def isCall (f : FuncId) (g : Goroutine) : Option (List Value) := match headO g with
 | some o => match o.op with
  | .call { callee := .value (.func f'), args, .. } => bif f == f' then some (args.toList.map g.frame.eval) else none
  | _ => none
 | none => none
theorem of_isCall {f : FuncId} {g : Goroutine} {vs : List Value} (h : isCall f g = some vs) : ∃ (b : Frame) (a : Act) (ops : Array Oper) (i : Nat) (rest : List Nat) (kk : List Item) (cs : List Frame) (o : Oper) (aq : Array Operand) (ats : Array TypeId),
  g = G (b.at a (.inRegion ops (i :: rest) :: kk)) cs /\ ops[i]? = some o /\ Region.wanted o (yielded ops a.tmps) = true /\ b.kind ≠ .early /\ o.op = .call { callee := .value (.func f), args := aq, argTypes := ats } /\
  aq.map a.eval = vs.toArray /\ (∀ v, fin g v = G (b.at (a.put o.dst v) (.inRegion ops rest :: kk)) cs) /\ b.fn = g.frame.fn := by
 unfold isCall at h
 split at h
 · next o ho =>
   obtain ⟨b, a, ops, i, rest, kk, cs, h1, h2, h3, h4, h5, h6, h7⟩ := of_headO ho
   split at h
   · next f' args ats hop =>
     cases hc : f == f' with
     | false => rw [hc] at h; cases h
     | true =>
      rw [hc] at h
      cases h
      have e : f = f' := by simpa using hc
      subst e
      exact ⟨b, a, ops, i, rest, kk, cs, o, args, ats, h1, h2, h3, h4, hop, by rw [h5]; exact Array.ext' (by rw [Array.toList_map]), h6, h7⟩
   · cases h
 · cases h
structure ExtF (P : Program) (f : FuncId) (e : Array Value -> Sem Value) : Prop where
 out : ∃ fn, P.funcs[f]? = some fn /\ (fn.name == "runtime.NumGoroutine") = false /\ fn.body.isNone = true /\ Extern.findNext fn = none /\ Extern.find fn = some e
section
variable {P : Program} {main : Bool} {f : FuncId} {g : Goroutine} {w : World}
theorem step_ext {e : Array Value -> Sem Value} {vs : List Value} (h : isCall f g = some vs) (hf : ExtF P f e) {v : Value} {w' : World} {evs : Array Event} (hrun : (e vs.toArray).run P w = .ok v w')
  (hev : (e vs.toArray).events P w #[⟨.mark (.extern f), false, true⟩] = #[⟨.mark (.extern f), false, true⟩] ++ evs) (hs : ∀ x ∈ evs, x.sync = true /\ ∀ g, x.loc ≠ .mark (.extern g)) : stepG P main g w = .go (fin g v) w' evs := by
 obtain ⟨b, a, ops, i, rest, kk, cs, o, aq, ats, h1, h2, h3, h4, h5, h6, h7, _⟩ := of_isCall h
 obtain ⟨fn, f1, f2, f3, f4, f5⟩ := hf.out
 rw [h7, h1]
 exact stepG_entry h2 h3 h4 h5 f1 f2 f3 f4 f5 (by rw [h6]; exact hrun) (by rw [h6]; exact hev) hs
theorem step_add {k : IntKind} {ad : Addr} {d x : Int} (h : isCall f g = some [.pointer (some ad), .int k d]) (hf : ExtF P f (Extern.Atomic.update (Op.intArith .add) k true)) (hc : w.cell? ad = some (.int k x)) (hz : w.frozen? ad = false) :
  stepG P main g w = .go (fin g (.int k (k.wrap (x + d)))) (w.setCell ad (.int k (k.wrap (x + d)))) #[⟨.cell ad, false, true⟩, ⟨.cell ad, true, true⟩] :=
 step_ext h hf (run_add_entry hc hz) (by rw [show [Value.pointer (some ad), .int k d].toArray = #[.pointer (some ad), .int k d] from rfl, events_add_entry hc hz]; rfl) (sync_rw ad)
theorem step_hit {k : IntKind} {ad : Addr} {n x : Int} (h : isCall f g = some [.pointer (some ad), .int k x, .int k n]) (hf : ExtF P f (Extern.Atomic.casT (.int k))) (hc : w.cell? ad = some (.int k x)) (hz : w.frozen? ad = false) :
  stepG P main g w = .go (fin g (.bool true)) (w.setCell ad (.int k n)) #[⟨.cell ad, false, true⟩, ⟨.cell ad, true, true⟩] :=
 step_ext h hf (by exact run_cas_hit_entry hc hz) (by rw [show [Value.pointer (some ad), .int k x, .int k n].toArray = #[.pointer (some ad), .int k x, .int k n] from rfl, casT_eq, events_cas_hit_entry hc hz]; rfl) (sync_rw ad)
theorem step_miss {k : IntKind} {ad : Addr} {n x old : Int} (h : isCall f g = some [.pointer (some ad), .int k old, .int k n]) (hf : ExtF P f (Extern.Atomic.casT (.int k))) (hc : w.cell? ad = some (.int k x)) (hz : w.frozen? ad = false) (hne : ¬ x = old) :
  stepG P main g w = .go (fin g (.bool false)) w #[⟨.cell ad, false, true⟩] :=
 step_ext h hf (by exact run_cas_miss_entry hc hz hne) (by rw [show [Value.pointer (some ad), .int k old, .int k n].toArray = #[.pointer (some ad), .int k old, .int k n] from rfl, casT_eq, events_cas_miss_entry hc hz hne]; rfl) (sync_r ad)
theorem step_loadA {k : IntKind} {ad : Addr} {x : Int} (h : isCall f g = some [.pointer (some ad)]) (hf : ExtF P f (Extern.Atomic.loadT (.int k))) (hc : w.cell? ad = some (.int k x)) :
  stepG P main g w = .go (fin g (.int k x)) w #[⟨.cell ad, false, true⟩] := by
 obtain ⟨b, a, ops, i, rest, kk, cs, o, aq, ats, h1, h2, h3, h4, h5, h6, h7, _⟩ := of_isCall h
 obtain ⟨fn, f1, f2, f3, f4, f5⟩ := hf.out
 have hs : aq.size = 1 := by have := congrArg Array.size h6; simpa using this
 obtain ⟨x0, rfl⟩ : ∃ x0, aq = #[x0] := ⟨aq[0], by apply Array.ext <;> simp [hs]; intro i hi; have : i = 0 := by omega
                                                   subst this; rfl⟩
 rw [h7, h1]
 exact stepG_load_atomic h2 h3 h4 h5 f1 f2 f3 f4 k f5 (by simpa using h6) hc
theorem step_storeA {k : IntKind} {ad : Addr} {x : Int} {u : Value} (h : isCall f g = some [.pointer (some ad), .int k x]) (hf : ExtF P f Extern.Atomic.storeT) (hc : w.cell? ad = some u) (hz : w.frozen? ad = false) :
  stepG P main g w = .go (fin g (.tuple #[])) (w.setCell ad (.int k x)) #[⟨.cell ad, true, true⟩] := by
 obtain ⟨b, a, ops, i, rest, kk, cs, o, aq, ats, h1, h2, h3, h4, h5, h6, h7, _⟩ := of_isCall h
 obtain ⟨fn, f1, f2, f3, f4, f5⟩ := hf.out
 have hs : aq.size = 2 := by have := congrArg Array.size h6; simpa using this
 obtain ⟨x0, x1, rfl⟩ : ∃ x0 x1, aq = #[x0, x1] := ⟨aq[0], aq[1], by
  apply Array.ext
  · simp [hs]
  · intro i hi _
    have : i = 0 \/ i = 1 := by omega
    rcases this with rfl | rfl <;> rfl⟩
 have h6' : a.eval x0 = .pointer (some ad) /\ a.eval x1 = .int k x := by simpa using h6
 rw [h7, h1]
 exact stepG_store_atomic h2 h3 h4 h5 f1 f2 f3 f4 f5 h6'.1 h6'.2 hc hz
theorem step_mark {vs : List Value} (m : Mark) (hm : ∀ g, m ≠ .extern g) (h : isCall f g = some vs) (hf : ExtF P f (fun _ => do mark m; pure Extern.Race.none_)) :
  stepG P main g w = .go (fin g (.tuple #[])) w #[⟨.mark m, false, true⟩] := by
 obtain ⟨b, a, ops, i, rest, kk, cs, o, aq, ats, h1, h2, h3, h4, h5, h6, h7, _⟩ := of_isCall h
 obtain ⟨fn, f1, f2, f3, f4, f5⟩ := hf.out
 rw [h7, h1]
 exact stepG_mark0 m hm h2 h3 h4 h5 f1 f2 f3 f4 f5
theorem step_markAt {vs : List Value} {ad : Addr} (mk : Addr -> Mark) (hm : ∀ ad g, mk ad ≠ .extern g) (h : isCall f g = some (.pointer (some ad) :: vs)) (hf : ExtF P f (Extern.Race.marked mk)) :
  stepG P main g w = .go (fin g (.tuple #[])) w #[⟨.mark (mk ad), false, true⟩] := by
 obtain ⟨b, a, ops, i, rest, kk, cs, o, aq, ats, h1, h2, h3, h4, h5, h6, h7, _⟩ := of_isCall h
 obtain ⟨fn, f1, f2, f3, f4, f5⟩ := hf.out
 rw [h7, h1]
 exact stepG_markAt mk hm h2 h3 h4 h5 f1 f2 f3 f4 f5 (by rw [h6]; rfl)
theorem step_down {vs : List Value} {ad : Addr} {n : Int} (h : isCall f g = some (.pointer (some ad) :: vs)) (hf : ExtF P f Extern.Sync.semacquire) (hc : w.cell? ad = some (.int .u32 n)) (hn0 : n ≠ 0) (hz : w.frozen? ad = false) :
  stepG P main g w = .go (fin g (.tuple #[])) (w.setCell ad (.int .u32 (n - 1))) (semEvents ad) := by
 obtain ⟨b, a, ops, i, rest, kk, cs, o, aq, ats, h1, h2, h3, h4, h5, h6, h7, _⟩ := of_isCall h
 obtain ⟨fn, f1, f2, f3, f4, f5⟩ := hf.out
 rw [h7, h1]
 exact stepG_semacquire h2 h3 h4 h5 f1 f2 f3 f4 f5 (by rw [h6]; rfl) hc hn0 hz
theorem step_wait {vs : List Value} {ad : Addr} (h : isCall f g = some (.pointer (some ad) :: vs)) (hf : ExtF P f Extern.Sync.semacquire) (hc : w.cell? ad = some (.int .u32 0)) :
  stepG P main g w = .go { g with status := .blocked } w #[] := by
 obtain ⟨b, a, ops, i, rest, kk, cs, o, aq, ats, h1, h2, h3, h4, h5, h6, h7, _⟩ := of_isCall h
 obtain ⟨fn, f1, f2, f3, f4, f5⟩ := hf.out
 rw [h1]
 exact stepG_semacquire_wait h2 h3 h5 f1 f2 f3 f4 f5 (by rw [h6]; rfl) hc
theorem step_up {vs : List Value} {ad : Addr} {n : Int} (h : isCall f g = some (.pointer (some ad) :: vs)) (hf : ExtF P f Extern.Sync.semrelease) (hc : w.cell? ad = some (.int .u32 n)) (hz : w.frozen? ad = false) :
  stepG P main g w = .go (fin g (.tuple #[])) (w.setCell ad (.int .u32 (IntKind.u32.wrap (n + 1)))) (semEvents ad) := by
 obtain ⟨b, a, ops, i, rest, kk, cs, o, aq, ats, h1, h2, h3, h4, h5, h6, h7, _⟩ := of_isCall h
 obtain ⟨fn, f1, f2, f3, f4, f5⟩ := hf.out
 rw [h7, h1]
 exact stepG_semrelease h2 h3 h4 h5 f1 f2 f3 f4 f5 (by rw [h6]; rfl) hc hz
end
section
variable {P : Program} {main : Bool} {f : FuncId} {g : Goroutine} {w : World}
theorem step_val {o : Oper} {v : Value} {w' : World} (ho : headO g = some o) (hr : (execOp g.frame.eval o).run P w = .ok (.value v) w') :
  stepG P main g w = .go (fin g v) w' (seen P g.frame.fn ((execOp g.frame.eval o).events P w #[])) := by
 obtain ⟨b, a, ops, i, rest, kk, cs, h1, h2, h3, h4, h5, h6, h7⟩ := of_headO ho
 rw [h5] at hr ⊢
 rw [h6, <- h7, h1]
 exact stepG_value h2 h3 h4 hr
theorem step_skip {o : Oper} {w' : World} (ho : headO g = some o) (hr : (execOp g.frame.eval o).run P w = .ok .skip w') :
  stepG P main g w = .go (fin g undef) w' (seen P g.frame.fn ((execOp g.frame.eval o).events P w #[])) := by
 obtain ⟨b, a, ops, i, rest, kk, cs, h1, h2, h3, h4, h5, h6, h7⟩ := of_headO ho
 rw [h5] at hr ⊢
 rw [h6, <- h7, h1]
 exact stepG_none h2 h3 h4 hr
def aggB (P : Program) (t : TypeId) : Option Bool := match P.underlying t with
 | some (.struct _) | some (.array _ _) => some true
 | some _ => some false
 | none => none
theorem run_isAgg {t : TypeId} {b : Bool} (h : aggB P t = some b) : (isAgg t).run P w = .ok b w := by
 unfold aggB at h
 unfold isAgg underlying
 cases hu : P.underlying t with
 | none => rw [hu] at h; cases h
 | some d => rw [hu] at h; cases d <;> simp_all
theorem run_sizeOf {t : TypeId} {n : Nat} (h : (P.info? t).map (·.size) = some n) : (sizeOf t).run P w = .ok n w := by
 unfold sizeOf typeInfo
 cases hu : P.info? t with
 | none => rw [hu] at h; cases h
 | some d => rw [hu] at h; simp_all
theorem run_zero {t : TypeId} {v : Value} (h : ((P.info? t).bind (·.zero)) = some v) : (zeroValue t).run P w = .ok v w := by
 unfold zeroValue typeInfo
 cases hu : P.info? t with
 | none => rw [hu] at h; cases h
 | some d => rw [hu] at h; simp_all
def isLoad (P : Program) (g : Goroutine) : Option (Bool × Addr) := match headO g with
 | some o => match o.op with
  | .load t x => match g.frame.eval x, aggB P t with
   | .pointer (some ad), some b => some (b, ad)
   | _, _ => none
  | _ => none
 | none => none
def norace (P : Program) (f : FuncId) : Bool := (P.funcs[f]?).any (·.norace)
theorem seen_plain {fn : FuncId} {l : Loc} {wr : Bool} (hl : ∀ m, l ≠ .mark m) : seen P fn #[⟨l, wr, false⟩] = if norace P fn then #[] else #[⟨l, wr, false⟩] := by
 rw [seen_def]
 unfold norace
 cases l with
 | mark m => exact absurd rfl (hl m)
 | _ => simp only [List.foldl_cons, List.foldl_nil, seenStep]; cases (P.funcs[fn]?).any (·.norace) <;> simp
theorem run_sure {ad : Addr} : (Instr.sureAddr (.pointer (some ad))).run P w = .ok ad w := rfl
theorem ev_sure {ad : Addr} {es : Array Event} : (Instr.sureAddr (.pointer (some ad))).events P w es = es := rfl
theorem step_load {ad : Addr} {v : Value} (h : isLoad P g = some (false, ad)) (hc : w.cell? ad = some v) :
  stepG P main g w = .go (fin g v) w (if norace P g.frame.fn then #[] else #[⟨.cell ad, false, false⟩]) := by
 unfold isLoad at h
 split at h
 · next o ho =>
   split at h
   · next t x hop =>
     split at h
     · next ad' b hx hag =>
       cases h
       have hr : (execOp g.frame.eval o).run P w = .ok (.value v) w := by
        unfold execOp
        simp only [hop, hx, Instr.loadAt, loadVar, Sem.run_bind, run_sure, Result.andThen_ok, run_isAgg hag, Bool.false_eq_true, if_false, run_load, hc]
        rfl
       have he : (execOp g.frame.eval o).events P w #[] = #[⟨.cell ad, false, false⟩] := by
        unfold execOp
        simp only [hop, hx, Instr.loadAt, loadVar, Sem.events_bind, Sem.run_bind, run_sure, ev_sure, Result.evThen_ok, Result.andThen_ok, run_isAgg hag, events_isAgg, Bool.false_eq_true, if_false, run_load, events_load, hc]
        rfl
       rw [step_val ho hr, he, seen_plain (by simp)]
     · cases h
   · cases h
 · cases h
def isStore (P : Program) (g : Goroutine) : Option (Addr × Value) := match headO g with
 | some o => match o.op with
  | .store t x y => match g.frame.eval x, (P.info? t).map (·.size), (g.frame.eval y).oneCell' with
   | .pointer (some ad), some 1, true => some (ad, g.frame.eval y)
   | _, _, _ => none
  | _ => none
 | none => none
theorem cells_one {v : Value} (h : v.oneCell' = true) : v.cells = #[v] := by
 cases v <;> first | rfl | (simp [Value.oneCell'] at h)
theorem add_zero (ad : Addr) : ad.add 0 = ad := by
 cases ad; rfl
theorem step_store {ad : Addr} {v u : Value} (h : isStore P g = some (ad, v)) (hc : w.cell? ad = some u) (hz : w.frozen? ad = false) :
  stepG P main g w = .go (fin g undef) (w.setCell ad v) (if norace P g.frame.fn then #[] else #[⟨.cell ad, true, false⟩]) := by
 unfold isStore at h
 split at h
 · next o ho =>
   split at h
   · next t x y hop =>
     split at h
     · next ad' hx hsz hone =>
       cases h
       have hs : (storeVar t ad (g.frame.eval y)).run P w = .ok () (w.setCell ad (g.frame.eval y)) := by
        simp only [storeVar, Sem.run_bind, run_sizeOf hsz, Result.andThen_ok, cells_one hone, List.size_toArray, List.length_singleton, ne_eq, not_true, if_false, storeCells, add_zero, run_store P w ad _ .plain hone, hc, hz, Bool.false_eq_true, Sem.run_ite, Sem.run_pure]
       have hse : ∀ es, (storeVar t ad (g.frame.eval y)).events P w es = es.push ⟨.cell ad, true, false⟩ := by
        intro es
        simp only [storeVar, Sem.events_bind, events_sizeOf, run_sizeOf hsz, Result.evThen_ok, cells_one hone, List.size_toArray, List.length_singleton, ne_eq, not_true, if_false, storeCells, add_zero, run_store P w ad _ .plain hone, events_store P w _ ad _ .plain hone, hc, hz, Bool.false_eq_true, Sem.events_ite, Sem.events_pure, Sem.run_ite, Sem.run_pure]
        rfl
       have hr : (execOp g.frame.eval o).run P w = .ok .skip (w.setCell ad (g.frame.eval y)) := by
        unfold execOp
        simp only [hop, hx, Instr.storeAt, Sem.run_bind, run_sure, Result.andThen_ok, hs]
        rfl
       have he : (execOp g.frame.eval o).events P w #[] = #[⟨.cell ad, true, false⟩] := by
        unfold execOp
        simp only [hop, hx, Instr.storeAt, Sem.events_bind, Sem.run_bind, run_sure, ev_sure, Result.evThen_ok, Result.andThen_ok, hs, hse]
        rfl
       rw [step_skip ho hr, he, seen_plain (by simp)]
     · cases h
   · cases h
 · cases h
def isNew (P : Program) (g : Goroutine) : Option (Array Value × TypeId) := match headO g with
 | some o => match o.op with
  | .alloc t => match (P.info? t).bind (·.zero) with
   | some z => some (z.cells, t)
   | none => none
  | .box t x => some ((g.frame.eval x).cells, t)
  | _ => none
 | none => none
theorem step_new {cs : Array Value} {t : TypeId} (h : isNew P g = some (cs, t)) :
  stepG P main g w = .go (fin g (.pointer (some ⟨w.heap.size, 0, none⟩))) { w with heap := w.heap.push (.cells cs t) } #[] := by
 unfold isNew at h
 split at h
 · next o ho =>
   split at h
   · next t' hop =>
     split at h
     · next z hz =>
       cases h
       have hr : (execOp g.frame.eval o).run P w = .ok (.value (.pointer (some ⟨w.heap.size, 0, none⟩))) { w with heap := w.heap.push (.cells z.cells t) } := by
        unfold execOp
        simp only [hop, Instr.alloc, newVar, newRow, Sem.run_bind, run_zero hz, Result.andThen_ok, run_newObj, Sem.run_pure]
       have he : (execOp g.frame.eval o).events P w #[] = #[] := by
        unfold execOp
        simp only [hop, Instr.alloc, newVar, newRow, Sem.events_bind, Sem.run_bind, run_zero hz, events_zeroValue, Result.evThen_ok, Result.andThen_ok, run_newObj, events_newObj, Sem.run_pure, Sem.events_pure]
       rw [step_val ho hr, he, seen_none]
     · cases h
   · next t' x hop =>
     cases h
     have hr : (execOp g.frame.eval o).run P w = .ok (.value (.pointer (some ⟨w.heap.size, 0, none⟩))) { w with heap := w.heap.push (.cells (g.frame.eval x).cells t) } := by
      unfold execOp
      simp only [hop, Instr.box, newVar, newRow, Sem.run_bind, Result.andThen_ok, run_newObj, Sem.run_pure]
     have he : (execOp g.frame.eval o).events P w #[] = #[] := by
      unfold execOp
      simp only [hop, Instr.box, newVar, newRow, Sem.events_bind, Sem.run_bind, Result.evThen_ok, Result.andThen_ok, run_newObj, events_newObj, Sem.run_pure, Sem.events_pure]
     rw [step_val ho hr, he, seen_none]
   · cases h
 · cases h
end
section world
variable {w : World} {a : Addr} {v : Value} {cs : Array Value} {t : TypeId} {b : Nat}
theorem heap_set (hs : a.spot = none) (h : w.heap[a.block]? = some (.cells cs t)) : (w.setCell a v).heap[a.block]? = some (.cells (cs.setIfInBounds a.off v) t) := by
 unfold World.setCell
 rw [Array.getElem?_modify]
 simp [h, hs]
theorem heap_set_ne (h : b ≠ a.block) : (w.setCell a v).heap[b]? = w.heap[b]? := by
 unfold World.setCell
 rw [Array.getElem?_modify]
 simp [Ne.symm h]
theorem size_set : (w.setCell a v).heap.size = w.heap.size := by simp [World.setCell]
theorem cell_of (hs : a.spot = none) (h : w.heap[a.block]? = some (.cells cs t)) : w.cell? a = cs[a.off]? := by
 simp [World.cell?, h, hs]
theorem thaw_of (h : w.heap[a.block]? = some (.cells cs t)) : w.frozen? a = false := by simp [World.frozen?, h]
end world
section
variable {E : Env} {P : Program} {k : Nat} {σ σ' : Gh} {w w' : World}
theorem J.cellMu (h : J E σ w) : w.cell? (muA E) = some (.int .i32 (σ.mx.word : Int)) := by rw [cell_of rfl (show w.heap[(muA E).block]? = _ from h.mu)]; rfl
theorem J.cellNx (h : J E σ w) : w.cell? (nxA E) = some (.int .i64 (σ.nx : Int)) := by rw [cell_of rfl (show w.heap[(nxA E).block]? = _ from h.nx)]; rfl
theorem J.cellSt (h : J E σ w) : w.cell? (stA E) = some (.int .u64 (σ.wg : Int)) := by rw [cell_of rfl (show w.heap[(stA E).block]? = _ from h.wg)]; rfl
theorem J.cellSm (h : J E σ w) : w.cell? (smA E) = some (.int .u32 (σ.ws : Int)) := by rw [cell_of rfl (show w.heap[(smA E).block]? = _ from h.wg)]; rfl
theorem J.thawMu (h : J E σ w) : w.frozen? (muA E) = false := thaw_of (a := muA E) h.mu
theorem J.thawNx (h : J E σ w) : w.frozen? (nxA E) = false := thaw_of (a := nxA E) h.nx
theorem J.thawSt (h : J E σ w) : w.frozen? (stA E) = false := thaw_of (a := stA E) h.wg
theorem J.thawSm (h : J E σ w) : w.frozen? (smA E) = false := thaw_of (a := smA E) h.wg
structure Four (E : Env) (σ : Gh) (w : World) : Prop where
 mu : w.heap[E.Mu]? = some (.cells #[.int .i32 (σ.mx.word : Int), .int .u32 (σ.mx.sm : Int)] E.tM)
 nx : w.heap[E.Nx]? = some (.cells #[.int .i64 (σ.nx : Int)] E.tN)
 wg : w.heap[E.Wg]? = some (.cells #[.int .u64 (σ.wg : Int), .int .u32 (σ.ws : Int)] E.tW)
 o : ∃ cs : Array Value, w.heap[E.O]? = some (.cells cs E.tO) /\ cs.size = E.n /\ ∀ i, i < E.n -> σ.writ i = true -> cs[i]? = some (.int .i64 (E.val i))
structure Same (E : Env) (w w' : World) : Prop where
 size : w'.heap.size = w.heap.size
 tape : w'.tape = w.tape
 output : w'.output = w.output
 os : OsLater w.os w'.os
 mem : ∀ b, ¬ E.Hot b -> w'.heap[b]? = w.heap[b]?
theorem Same.refl : Same E w w := ⟨rfl, rfl, rfl, .refl _, fun _ _ => rfl⟩
theorem Same.set {a : Addr} {v : Value} (h : E.Hot a.block) : Same E w (w.setCell a v) := ⟨size_set, rfl, rfl, .refl _, fun b hb => heap_set_ne fun e => hb (e ▸ h)⟩
theorem Same.asked : Same E w w.asked := ⟨rfl, rfl, rfl, .refl _, fun _ _ => rfl⟩
theorem J.four (h : J E σ w) : Four E σ w := ⟨h.mu, h.nx, h.wg, h.o⟩
theorem Four.asked (h : Four E σ w) : Four E σ w.asked := ⟨h.mu, h.nx, h.wg, h.o⟩
section
variable (hE : E.Ok)
include hE
theorem Env.Ok.low {b : Nat} (h : E.Hot b) : E.base <= b := by
 rcases h with rfl | rfl | rfl | rfl
 · exact hE.lm
 · exact hE.ln
 · exact hE.lw
 · exact hE.lo
theorem Four.setMu (h : Four E σ w) {x : Nat} {mx : Mx} {wk : Nat -> Wk} (hx : mx.word = x) (hs : mx.sm = σ.mx.sm) : Four E { σ with mx := mx, wk := wk } (w.setCell (muA E) (.int .i32 (x : Int))) := by
 subst hx
 exact ⟨by rw [show E.Mu = (muA E).block from rfl, heap_set rfl (show w.heap[(muA E).block]? = _ from h.mu)]; simp [muA, hs],
  by rw [heap_set_ne (show E.Nx ≠ (muA E).block from hE.mn.symm)]; exact h.nx, by rw [heap_set_ne (show E.Wg ≠ (muA E).block from hE.mw.symm)]; exact h.wg,
  by rw [heap_set_ne (show E.O ≠ (muA E).block from hE.mo.symm)]; exact h.o⟩
theorem Four.setNx (h : Four E σ w) {x : Nat} {wk : Nat -> Wk} : Four E { σ with nx := x, wk := wk } (w.setCell (nxA E) (.int .i64 (x : Int))) :=
 ⟨by rw [heap_set_ne (show E.Mu ≠ (nxA E).block from hE.mn)]; exact h.mu,
  by rw [show E.Nx = (nxA E).block from rfl, heap_set rfl (show w.heap[(nxA E).block]? = _ from h.nx)]; simp [nxA], by rw [heap_set_ne (show E.Wg ≠ (nxA E).block from hE.nw.symm)]; exact h.wg,
  by rw [heap_set_ne (show E.O ≠ (nxA E).block from hE.no.symm)]; exact h.o⟩
theorem Four.setSt (h : Four E σ w) {x ms : Nat} {wk : Nat -> Wk} : Four E { σ with wg := x, wk := wk, ms := ms } (w.setCell (stA E) (.int .u64 (x : Int))) :=
 ⟨by rw [heap_set_ne (show E.Mu ≠ (stA E).block from hE.mw)]; exact h.mu, by rw [heap_set_ne (show E.Nx ≠ (stA E).block from hE.nw)]; exact h.nx,
  by rw [show E.Wg = (stA E).block from rfl, heap_set rfl (show w.heap[(stA E).block]? = _ from h.wg)]; simp [stA],
  by rw [heap_set_ne (show E.O ≠ (stA E).block from hE.wo.symm)]; exact h.o⟩
theorem Four.setSm (h : Four E σ w) {x ms : Nat} {wk : Nat -> Wk} : Four E { σ with ws := x, wk := wk, ms := ms } (w.setCell (smA E) (.int .u32 (x : Int))) :=
 ⟨by rw [heap_set_ne (show E.Mu ≠ (smA E).block from hE.mw)]; exact h.mu, by rw [heap_set_ne (show E.Nx ≠ (smA E).block from hE.nw)]; exact h.nx,
  by rw [show E.Wg = (smA E).block from rfl, heap_set rfl (show w.heap[(smA E).block]? = _ from h.wg)]; simp [smA],
  by rw [heap_set_ne (show E.O ≠ (smA E).block from hE.wo.symm)]; exact h.o⟩
theorem Four.setO (h : Four E σ w) {i : Nat} (hi : i < E.n) {wk : Nat -> Wk} : Four E { σ with writ := upd σ.writ i true, wk := wk } (w.setCell ⟨E.O, i, none⟩ (.int .i64 (E.val i))) := by
 obtain ⟨cs, h1, h2, h3⟩ := h.o
 refine ⟨by rw [heap_set_ne (show E.Mu ≠ E.O from hE.mo)]; exact h.mu, by rw [heap_set_ne (show E.Nx ≠ E.O from hE.no)]; exact h.nx,
  by rw [heap_set_ne (show E.Wg ≠ E.O from hE.wo)]; exact h.wg, _, heap_set (a := ⟨E.O, i, none⟩) rfl h1, by simp [h2], fun j hj hw => ?_⟩
 by_cases e : j = i
 · subst e
   simp [h2, hj]
 · rw [Array.getElem?_setIfInBounds_ne (Ne.symm e)]
   exact h3 j hj (by rw [<- hw]; exact (upd_ne _ _ e).symm)
theorem J.turn (hJ : J E σ w) (hw : Same E w w') (h4 : Four E σ' w') (inv : Inv E.n σ') (acc : σ'.hs + dues σ'.num σ'.wk + E.rest σ'.nx + σ'.dm = E.tot) (hs : σ'.hs = σ.hs) (pv : σ'.pv = σ.pv) (num : σ'.num = σ.num) : J E σ' w' where
 inv := inv
 mu := h4.mu
 nx := h4.nx
 wg := h4.wg
 o := h4.o
 old b hb := (hw.mem b fun h => by have := hE.low h; omega).trans (hJ.old b hb)
 size := by rw [hw.size, hs]; exact hJ.size
 tape := hw.tape.trans hJ.tape
 output := hw.output.trans hJ.output
 os := hJ.os.trans hw.os
 acc := acc
 pv b hb := by rw [pv, hs, num] at *; exact hJ.pv b hb
 rows b h1 h2 := by
  by_cases hh : E.Hot b
  · rcases hh with rfl | rfl | rfl | rfl
    · exact ⟨_, _, h4.mu⟩
    · exact ⟨_, _, h4.nx⟩
    · exact ⟨_, _, h4.wg⟩
    · obtain ⟨cs, hc, _⟩ := h4.o
      exact ⟨_, _, hc⟩
  · rw [hw.mem b hh]
    exact hJ.rows b h1 (by rw [<- hw.size]; exact h2)
end
theorem dues_upd {n : Nat} {wk : Nat -> Wk} (hk : k < n) (x : Wk) : dues n (upd wk k x) + (wk k).due = dues n wk + x.due := sumTo_upd wk x (fun z => z.due) hk
theorem dues_same {n : Nat} {wk : Nat -> Wk} {x : Wk} (hx : x.due = (wk k).due) : dues n (upd wk k x) = dues n wk := sumTo_congr fun i _ => by
 by_cases e : i = k
 · subst e; rw [upd_same, hx]
 · rw [upd_ne _ _ e]
theorem sum_same {n : Nat} {wk : Nat -> Wk} {x : Wk} {φ : Wk -> Nat} (hx : φ x = φ (wk k)) : sumTo n (fun i => φ (upd wk k x i)) = sumTo n fun i => φ (wk i) := sumTo_congr fun i _ => by
 by_cases e : i = k
 · subst e; rw [upd_same, hx]
 · rw [upd_ne _ _ e]
theorem Inv.lock {n : Nat} (I : Inv n σ) (hk : k < σ.num) {x : Wk} {m : Mx} (hM : MInv σ.num (upd σ.wk k x) m) (h1 : x.fin = (σ.wk k).fin) (h2 : x.idx = (σ.wk k).idx) (h3 : x.low = (σ.wk k).low) (h4 : x.gone = (σ.wk k).gone) (hP : Pend x ↔ Pend (σ.wk k)) (ho : (σ.wk k).lk ≠ .out \/ x.lk = .out) :
  Inv n { σ with wk := upd σ.wk k x, mx := m } := by
 have all : ∀ {Q : Wk -> Prop}, (Q x ↔ Q (σ.wk k)) -> ∀ j, (Q (upd σ.wk k x j) ↔ Q (σ.wk j)) := fun {Q} h j => by
  by_cases e : j = k
  · subst e; rw [upd_same]; exact h
  · rw [upd_ne _ _ e]
 have eqs : ∀ {β : Type} (φ : Wk -> β), φ x = φ (σ.wk k) -> ∀ j, φ (upd σ.wk k x j) = φ (σ.wk j) := fun φ h j => by
  by_cases e : j = k
  · subst e; rw [upd_same]; exact h
  · rw [upd_ne _ _ e]
 have ei := eqs Wk.idx h2
 have ef := eqs Wk.fin h1
 have el := eqs Wk.low h3
 have ep := all (Q := Pend) hP
 refine ⟨hM, ?_, fun j hj hl => ?_, fun i hi hx => ?_, fun i j hi hj p q => ?_, fun j hj p => ?_, I.wfut, fun j hj => ?_, fun j hj hf => I.all j hj ((all (Q := Away) (by unfold Away; rw [h1, h4]) j).1 hf), fun j hj => by rw [el j]; exact I.low j hj, I.num, ?_⟩
 · have a1 : c5 σ.num (upd σ.wk k x) = c5 σ.num σ.wk := sum_same (φ := fun z => if 5 <= z.fin then 1 else 0) (by rw [h1])
   have a2 : c43 σ.num (upd σ.wk k x) = c43 σ.num σ.wk := sum_same (φ := fun z => if z.fin = 4 \/ z.fin = 3 then 1 else 0) (by rw [h1])
   have a3 : c2 σ.num (upd σ.wk k x) = c2 σ.num σ.wk := sum_same (φ := fun z => if z.fin = 2 then 1 else 0) (by rw [h1])
   show WInv _ _ _ (c5 σ.num (upd σ.wk k x)) (c43 σ.num (upd σ.wk k x)) (c2 σ.num (upd σ.wk k x))
   rw [a1, a2, a3]; exact I.wgi
 · show (upd σ.wk k x j).fin = 7 /\ (upd σ.wk k x j).idx < n /\ (upd σ.wk k x j).idx < σ.nx
   rw [ef j, ei j]
   refine I.lkf j hj ?_
   by_cases e : j = k
   · subst e
     have hl : (upd σ.wk j x j).lk ≠ .out := hl
     rw [upd_same] at hl
     exact ho.resolve_right hl
   · have hl : (upd σ.wk k x j).lk ≠ .out := hl
     rw [upd_ne _ _ e] at hl; exact hl
 · rcases I.done i hi hx with h | ⟨j, a, b, c⟩
   · exact .inl h
   · exact .inr ⟨j, a, (ep j).2 b, (ei j).trans c⟩
 · have nl : ∀ i, (upd σ.wk k x i).lk ≠ .out -> (σ.wk i).lk ≠ .out := fun i hl => by
    by_cases e : i = k
    · subst e; rw [upd_same] at hl; exact ho.resolve_right hl
    · rw [upd_ne _ _ e] at hl; exact hl
   exact I.uniq i j hi hj (nl i p) (nl j q)
 · show σ.writ (upd σ.wk k x j).idx = false
   rw [ei j]; exact I.pw j hj ((ep j).1 p)
 · show 1 <= (upd σ.wk k x j).fin /\ (upd σ.wk k x j).fin <= 7
   rw [ef j]; exact I.fin j hj
 · have : cgone σ.num (upd σ.wk k x) = cgone σ.num σ.wk := sum_same (φ := fun z => if z.gone = true then 1 else 0) (by rw [h4])
   show σ.nx <= n + cgone σ.num (upd σ.wk k x)
   rw [this]; exact I.nb
inductive Book (E : Env) : Event -> Prop where
 | at_ (a : Addr) (x : Bool) (h : a.block = E.Mu \/ a.block = E.Nx \/ a.block = E.Wg) : Book E ⟨.cell a, x, true⟩
 | dis : Book E ⟨.mark .disable, false, true⟩
 | en : Book E ⟨.mark .enable, false, true⟩
 | acq (a : Addr) (h : a.block = E.Mu \/ a.block = E.Nx \/ a.block = E.Wg) : Book E ⟨.mark (.acquire a), false, true⟩
 | rm (a : Addr) (h : a.block = E.Mu \/ a.block = E.Nx \/ a.block = E.Wg) : Book E ⟨.mark (.releaseMerge a), false, true⟩
theorem J.hotLt (h : J E σ w) {b : Nat} (hb : b = E.Mu \/ b = E.Nx \/ b = E.Wg) : b < σ.hs := by
 rw [<- h.size]
 rcases hb with rfl | rfl | rfl
 · exact (Array.getElem?_eq_some_iff.1 h.mu).1
 · exact (Array.getElem?_eq_some_iff.1 h.nx).1
 · exact (Array.getElem?_eq_some_iff.1 h.wg).1
theorem J.oLt (h : J E σ w) : E.O < σ.hs := by
 obtain ⟨cs, hc, _⟩ := h.o
 rw [<- h.size]
 exact (Array.getElem?_eq_some_iff.1 hc).1
theorem Book.evW (hJ' : J E σ' w') {e : Event} (h : Book E e) : EvW E k σ σ' e := by
 cases h with
 | at_ a x h => exact ⟨by simp, hJ'.hotLt h, fun y hy => by simp only [MemAct.ofEvent, MemAct.touch?, Option.some.injEq] at hy; subst hy; exact .inl ⟨⟨a, rfl, h⟩, rfl⟩⟩
 | dis => exact ⟨by simp, True.intro, fun y hy => by cases hy⟩
 | en => exact ⟨by simp, True.intro, fun y hy => by cases hy⟩
 | acq a h => exact ⟨by simp, hJ'.hotLt h, fun y hy => by cases hy⟩
 | rm a h => exact ⟨by simp, hJ'.hotLt h, fun y hy => by cases hy⟩
theorem c5_le {n : Nat} {wk : Nat -> Wk} (hk : k < n) {x : Wk} (h : 5 <= x.fin -> 5 <= (wk k).fin) : c5 n (upd wk k x) <= c5 n wk := by
 have := sumTo_upd wk x (fun z => if 5 <= z.fin then 1 else 0) hk
 unfold c5
 have e : (if 5 <= x.fin then 1 else 0) <= (if 5 <= (wk k).fin then 1 else 0 : Nat) := by
  by_cases h1 : 5 <= x.fin
  · rw [if_pos h1, if_pos (h h1)]; exact Nat.le_refl _
  · rw [if_neg h1]; omega
 omega
structure Keep (E : Env) (k : Nat) (σ : Gh) (w : World) (σ' : Gh) (w' : World) : Prop where
 j : J E σ' w'
 num : σ.num <= σ'.num
 low : (σ'.wk k).low = (σ.wk k).low
 hs : σ.hs <= σ'.hs
 pv : ∀ b, b < σ.hs -> σ'.pv b = σ.pv b
 mem : ∀ b, b < σ.hs -> (b < (σ.wk k).low /\ σ.pv b = 0 /\ ¬ E.Hot b) \/ σ.pv b = k + 1 -> w'.heap[b]? = w.heap[b]?
 pot : pot E.n σ' <= pot E.n σ
theorem RW.keep (h : RW E k σ w σ' w') : Keep E k σ w σ' w' := ⟨h.j, h.num, by rw [h.wk], h.hs, h.pv, h.mem, h.pot.1⟩
theorem Keep.trans {a b c : Gh} {u v x : World} (h1 : Keep E k a u b v) (h2 : Keep E k b v c x) : Keep E k a u c x :=
 have hs1 := h1.hs
 ⟨h2.j, Nat.le_trans h1.num h2.num, h2.low.trans h1.low, Nat.le_trans hs1 h2.hs, fun b hb => (h2.pv b (by omega)).trans (h1.pv b hb), fun b hb hc => (h2.mem b (by omega) (by rw [h1.low, h1.pv b hb]; exact hc)).trans (h1.mem b hb hc), Nat.le_trans h2.pot h1.pot⟩
structure Turn (E : Env) (k : Nat) (σ : Gh) (w : World) (es : Array Event) (σ' : Gh) (w' : World) : Prop where
 j : J E σ' w'
 own : ∀ j, j ≠ k -> σ'.wk j = σ.wk j
 num : σ'.num = σ.num
 ms : σ'.ms = σ.ms
 mdf : σ'.mdf = σ.mdf
 dm : σ'.dm = σ.dm
 hs : σ'.hs = σ.hs
 pv : σ'.pv = σ.pv
 low : (σ'.wk k).low = (σ.wk k).low
 same : Same E w w'
 pot : pot E.n σ' <= pot E.n σ /\ (σ'.mx.word = σ.mx.word \/ Wp.pot E.n σ' < Wp.pot E.n σ)
 dd : ∀ j, j ≠ k -> j < σ.num -> (σ.wk j).lk = .dd -> σ.mx.S = 1 -> σ'.mx.S = 1 /\ σ.mx.N <= σ'.mx.N
 c5 : 5 <= (σ'.wk k).fin -> 5 <= (σ.wk k).fin
 alive : (σ.wk k).fin ≠ 1
 df : deafBehind (σ.wk k).df es = (σ'.wk k).df
 writ : ∀ i, σ.writ i = true -> σ'.writ i = true
 ev : ∀ e ∈ es, EvW E k σ σ' e
 rel : (σ'.wk k).fin <= 6 -> ((σ.wk k).fin <= 6 /\ ∀ j e, es[j]? = some e -> (MemAct.ofEvent e).touch? = none \/ ((∃ ad wr, e = ⟨.cell ad, wr, true⟩) /\ 0 < deafBehind (σ.wk k).df (es.extract 0 j))) \/ (es = #[Go.ConcR.mk (.releaseMerge (stA E))] /\ (σ.wk k).df = 0)
theorem upd_fun {β : Type} {f f' : Nat -> β} {k : Nat} (h : ∀ j, j ≠ k -> f' j = f j) : f' = upd f k (f' k) := by
 funext j
 by_cases e : j = k
 · subst e; rw [upd_same]
 · rw [upd_ne _ _ e]; exact h j e
theorem Turn.keep (hJ : J E σ w) {es : Array Event} (h : Turn E k σ w es σ' w') : Keep E k σ w σ' w' :=
 ⟨h.j, Nat.le_of_eq h.num.symm, h.low, Nat.le_of_eq h.hs.symm, fun b _ => by rw [h.pv], fun b hb hc => h.same.mem b (hc.elim (fun x => x.2.2) fun x => (hJ.pv b (by omega)).2.2.1), h.pot.1⟩
theorem Turn.dw (hJ : J E σ w) (hk : k < σ.num) {es : Array Event} (h : Turn E k σ w es σ' w') {g g' : Goroutine} (hr : g'.status = .running) (hw : (σ.mx.sm = 0 -> 0 < σ'.mx.sm -> mayWake P g = true) /\ (σ.ws = 0 -> 0 < σ'.ws -> mayWake P g = true)) : DW E P k σ w g es σ' w' g' where
 j := h.j
 own := h.own
 num := h.num
 ms := h.ms
 mdf := h.mdf
 dm := h.dm
 hs := Nat.le_of_eq h.hs.symm
 pv b _ := by rw [h.pv]
 pvn b hb hp := by
  rw [h.pv] at hp
  have := (hJ.pv b hp).1
  omega
 low := h.low
 mem b _ hb _ := h.same.mem b hb
 pot := h.pot
 dd := h.dd
 cnt := by
  rw [h.num, upd_fun (f := σ.wk) (f' := σ'.wk) h.own]
  exact c5_le hk h.c5
 alive := h.alive
 run := hr
 df := h.df
 wake := hw
 writ := h.writ
 ev := h.ev
 rel := h.rel
variable {Stop : Gh -> Goroutine -> World -> Prop}
theorem goW {m : Nat} {g : Goroutine} (hr : isRun g = true) (hk : k < σ.num)
  (h : ∀ σ₁ w₁, RW E k σ w σ₁ w₁ -> k < σ₁.num -> ∃ g' w' es σ', stepG P false g w₁ = .go g' w' es /\ Turn E k σ₁ w₁ es σ' w' /\ isRun g' = true /\ ((σ₁.mx.sm = 0 -> 0 < σ'.mx.sm -> mayWake P g = true) /\ (σ₁.ws = 0 -> 0 < σ'.ws -> mayWake P g = true)) /\ GoesW P (proto E P) (k + 1) Stop m σ' g' w') :
  GoesW P (proto E P) (k + 1) Stop (m + 1) σ g w :=
 stepW hr fun σ₁ w₁ hw => by
  have hk1 : k < σ₁.num := Nat.lt_of_lt_of_le hk hw.num
  obtain ⟨g', w', es, σ', h1, h2, h3, h4, h5⟩ := h σ₁ w₁ hw hk1
  exact ⟨g', w', es, σ', h1, h2.dw hw.j hk1 (isRun_out h3).1 h4, h5⟩
end
def bodied (P : Program) (f : FuncId) : Bool := (P.funcs[f]?).any (·.body.isSome)
def loudOpR (P : Program) (ev : Operand -> Value) : Op -> Bool
 | .load .. | .store .. | .alloc .. | .box .. | .makeSlice .. | .go _ | .panic _ => true
 | .convert _ _ x => match ev x with
  | .pointer _ => true
  | _ => false
 | .call { callee := .value x, .. } => match ev x with
  | .func (.func f) _ _ => !(bodied P f)
  | _ => true
 | _ => false
def isConv (P : Program) (g : Goroutine) : Option Addr := match headO g with
 | some o => match o.op with
  | .convert src dst x => match P.underlying src, P.underlying dst, g.frame.eval x with
   | some (.pointer t), some .unsafePointer, .pointer (some a) => bif (P.info? t).any (fun i => !decide (i.size = 0)) then some a else none
   | _, _, _ => none
  | _ => none
 | none => none
theorem step_conv {P : Program} {main : Bool} {g : Goroutine} {w : World} {a : Addr} {v : Value} (h : isConv P g = some a) (hc : w.cell? a = some v) : stepG P main g w = .go (fin g (.pointer (some a))) w #[] := by
 unfold isConv at h
 split at h
 · next o ho =>
   split at h
   · next src dst x hop =>
     split at h
     · next t a' hs hd hx =>
       cases hq : ((P.info? t).any fun i => !decide (i.size = 0)) with
       | false => rw [hq] at h; cases h
       | true =>
        rw [hq] at h
        cases h
        have hsz : (P.info? t).map (fun i => decide (i.size = 0)) = some false := by
         cases hi : P.info? t with
         | none => rw [hi] at hq; cases hq
         | some i => rw [hi] at hq; simp at hq; simp [hq]
        have hr : (execOp g.frame.eval o).run P w = .ok (.value (.pointer (some a))) w := by
         unfold execOp
         simp only [hop, hx, Sem.run_bind, run_convert_to_unsafe hs hd hsz hc, Result.andThen_ok]
         rfl
        have he : (execOp g.frame.eval o).events P w #[] = #[] := by
         unfold execOp
         simp only [hop, hx, Sem.events_bind, run_convert_to_unsafe hs hd hsz hc, events_convert_to_unsafe hs hd hsz hc, Result.evThen_ok]
         rfl
        rw [step_val ho hr, he, seen_none]
     · cases h
   · cases h
 · cases h
def loudRet (P : Program) (g : Goroutine) : Bool := match g.frame.defers with
 | d :: _ => match d.target with
  | .fn (.func f) _ => !(bodied P f)
  | _ => true
 | [] => (P.funcs[g.frame.fn]?).any fun fn => fn.results.any fun | .cell .. => true | _ => false
def loudR (P : Program) (g : Goroutine) : Bool :=
 match g.frame.mode, g.frame.todo with
 | .run, .inRegion ops (i :: _) :: _ => match ops[i]? with
  | some o => Region.wanted o (yielded ops g.frame.tmps) && loudOpR P g.frame.eval o.op
  | none => true
 | .run, .code (.region _ _ true) :: _ => true
 | .run, _ => false
 | _, _ => loudRet P g
abbrev Orc := FuncId -> Nat -> Option Value
def noOrc : Orc := fun _ _ => none
structure Par where
 main : Bool := false
 O : Orc := noOrc
 V : FuncId -> Nat -> Option (Value × Value) := fun _ _ => none
 X : Goroutine -> Bool := fun _ => false
def dstR (g : Goroutine) : Option Nat := match headO g with
 | some o => o.dst
 | none => none
section
variable (P : Program) (c : Par)
def ldR (g : Goroutine) : Option (Addr × Value) := match isLoad P g, dstR g with
 | some (false, ad), some d => match c.O g.frame.fn d with
  | some v => some (ad, v)
  | none => none
 | _, _ => none
def vlR (g : Goroutine) : Option (Value × Value) := match dstR g with
 | some d => c.V g.frame.fn d
 | none => none
def nxR (g : Goroutine) : Goroutine := match vlR c g with
 | some x => fin g x.1
 | none => match ldR P c g with
  | some x => fin g x.2
  | none => nextQ P c.main g
def stopR (g : Goroutine) : Bool := match vlR c g with
 | some _ => false
 | none => match ldR P c g with
  | some _ => false
  | none => loudR P g || c.X g
def endR : Nat -> Goroutine -> Goroutine
 | 0, g => g
 | n + 1, g => bif stopR P c g then g else endR n (nxR P c g)
def stpR (g : Goroutine) (w : World) : GStep := match vlR c g with
 | some _ => stepG P c.main g w
 | none => match ldR P c g with
  | some _ => .go g w #[]
  | none => stepG P c.main g w
def wntR (g : Goroutine) (w : World) : GStep := match vlR c g with
 | some x => .go (fin g x.2) w #[]
 | none => match ldR P c g with
  | some _ => .go g w #[]
  | none => .go (nextQ P c.main g) w #[]
def seqR : Nat -> Goroutine -> World -> List GStep
 | 0, _, _ => []
 | n + 1, g, w => bif stopR P c g then [] else stpR P c g w :: seqR n (nxR P c g) w
def expR : Nat -> Goroutine -> World -> List GStep
 | 0, _, _ => []
 | n + 1, g, w => bif stopR P c g then [] else wntR P c g w :: expR n (nxR P c g) w
def okR : Nat -> Goroutine -> Bool
 | 0, g => isRun g
 | n + 1, g => isRun g && bif stopR P c g then true else okR n (nxR P c g)
def ldsR : Nat -> Goroutine -> List (FuncId × Addr × Value)
 | 0, _ => []
 | n + 1, g => bif stopR P c g then [] else (match vlR c g with
  | some _ => ldsR n (nxR P c g)
  | none => match ldR P c g with
   | some x => (g.frame.fn, x.1, x.2) :: ldsR n (nxR P c g)
   | none => ldsR n (nxR P c g))
structure Run (F : Nat) (g : Goroutine) : Prop where
 seq : ∀ w, seqR P c F g w = expR P c F g w
 ok : okR P c F g = true
end
section
variable {P : Program} {c : Par} {F : Nat} {g : Goroutine}
theorem Run.run (h : Run P c F g) : g.status = .running /\ g.offers = none := by
 cases F with
 | zero => exact isRun_out h.ok
 | succ n =>
  have := h.ok
  simp only [okR, Bool.and_eq_true] at this
  exact isRun_out this.1
theorem Run.last : ∀ {F : Nat} {g : Goroutine}, Run P c F g -> isRun (endR P c F g) = true
 | 0, g, h => h.ok
 | F + 1, g, h => by
  cases hl : stopR P c g with
  | true =>
   simp only [endR, hl, cond_true]
   have := h.ok
   simp only [okR, Bool.and_eq_true] at this
   exact this.1
  | false =>
   simp only [endR, hl, cond_false]
   refine Run.last ⟨fun w => ?_, ?_⟩
   · have := h.seq w
     simp only [seqR, expR, hl, cond_false, List.cons.injEq] at this
     exact this.2
   · have := h.ok
     simp only [okR, hl, cond_false, Bool.and_eq_true] at this
     exact this.2
theorem Run.step (h : Run P c (F + 1) g) (hl : stopR P c g = false) : (∀ w, stpR P c g w = wntR P c g w) /\ Run P c F (nxR P c g) := by
 refine ⟨fun w => ?_, ⟨fun w => ?_, ?_⟩⟩
 · have := h.seq w
   simp only [seqR, expR, hl, cond_false, List.cons.injEq] at this
   exact this.1
 · have := h.seq w
   simp only [seqR, expR, hl, cond_false, List.cons.injEq] at this
   exact this.2
 · have := h.ok
   simp only [okR, hl, cond_false, Bool.and_eq_true] at this
   exact this.2
def Par.Ok (c : Par) : Prop := ∀ f d x, c.V f d = some x -> x.1 = x.2
theorem vlR_ok (h : c.Ok) {x : Value × Value} (hx : vlR c g = some x) : x.1 = x.2 := by
 unfold vlR at hx
 split at hx
 · exact h _ _ _ hx
 · cases hx
theorem ldR_load {x : Addr × Value} (h : ldR P c g = some x) : isLoad P g = some (false, x.1) := by
 unfold ldR at h
 split at h
 · next ad d ha hd =>
   split at h
   · next v hv => cases h; exact ha
   · cases h
 · cases h
end
section
variable {E : Env} {P : Program} {k : Nat} {σ σ' : Gh} {w w' : World} {Stop : Gh -> Goroutine -> World -> Prop}
def Mine (E : Env) (k : Nat) (σ : Gh) (ad : Addr) : Prop := ad.block < σ.hs /\ ((ad.block < (σ.wk k).low /\ σ.pv ad.block = 0 /\ ¬ E.Hot ad.block /\ ¬ E.Shun (.cell ad)) \/ σ.pv ad.block = k + 1)
structure Known (E : Env) (P : Program) (k : Nat) (σ : Gh) (w : World) (x : FuncId × Addr × Value) : Prop where
 cell : w.cell? x.2.1 = some x.2.2
 mine : Mine E k σ x.2.1
 way : norace P x.1 = true \/ (σ.wk k).fin = 7
theorem cell_congr {w w' : World} {ad : Addr} (h : w'.heap[ad.block]? = w.heap[ad.block]?) : w'.cell? ad = w.cell? ad := by unfold World.cell?; rw [h]
theorem Mine.keep {ad : Addr} (h : Mine E k σ ad) (hK : Keep E k σ w σ' w') : Mine E k σ' ad := ⟨Nat.lt_of_lt_of_le h.1 hK.hs, by rw [hK.low, hK.pv _ h.1]; exact h.2⟩
theorem Mine.cell {ad : Addr} (h : Mine E k σ ad) (hK : Keep E k σ w σ' w') : w'.cell? ad = w.cell? ad := cell_congr (hK.mem _ h.1 (h.2.imp (fun x => ⟨x.1, x.2.1, x.2.2.1⟩) id))
theorem Known.keep {x : FuncId × Addr × Value} (h : Known E P k σ w x) (hK : Keep E k σ w σ' w') (hf : (σ'.wk k).fin = (σ.wk k).fin) : Known E P k σ' w' x := ⟨(h.mine.cell hK).trans h.cell, h.mine.keep hK, by rw [hf]; exact h.way⟩
theorem DW.load {g g' : Goroutine} {es : Array Event} {fn : FuncId} {ad : Addr} {v : Value} (hJ : J E σ w) (ha : (σ.wk k).fin ≠ 1) (hr : g'.status = .running) (hx : Known E P k σ w (fn, ad, v)) (he : es = if norace P fn then #[] else #[⟨.cell ad, false, false⟩]) : DW E P k σ w g es σ w g' := by
 cases hq : norace P fn with
 | true =>
  rw [hq] at he
  subst he
  exact DW.quiet hJ ha hr
 | false =>
  rw [hq] at he
  subst he
  have h7 : (σ.wk k).fin = 7 := hx.way.resolve_left (by show ¬ norace P fn = true; rw [hq]; simp)
  have hd : DW E P k σ w g #[] σ w g' := DW.quiet hJ ha hr
  refine ⟨hJ, fun _ _ => rfl, rfl, rfl, rfl, rfl, Nat.le_refl _, fun _ _ => rfl, hd.pvn, rfl, fun _ _ _ _ => rfl, hd.pot, hd.dd, hd.cnt, ha, hr, rfl, hd.wake, fun _ h => h, fun e he => ?_, fun h => absurd h (by omega)⟩
  simp only [Bool.false_eq_true, if_false, List.mem_toArray, List.mem_cons, List.not_mem_nil, or_false] at he
  subst he
  refine ⟨by simp, hx.mine.1, fun y hy => ?_⟩
  simp only [MemAct.ofEvent, MemAct.touch?, Option.some.injEq] at hy
  subst hy
  rcases hx.mine.2 with ⟨h1, h2, h3, h4⟩ | h1
  · refine .inr (.inr (.inl ⟨rfl, rfl, ?_, ?_, h4, h1, rfl, ?_⟩))
    · rintro ⟨a, e, hb⟩
      cases e
      exact h3 (by rcases hb with hb | hb | hb
                   · exact .inl hb
                   · exact .inr (.inl hb)
                   · exact .inr (.inr (.inl hb)))
    · rintro ⟨a, e, hb⟩
      cases e
      exact h3 (.inr (.inr (.inr hb)))
    · rintro j ⟨a, e, hp⟩
      cases e
      have h2 : σ.pv ad.block = 0 := h2
      have hp : σ.pv ad.block = j + 1 := hp
      omega
  · exact .inr (.inr (.inr ⟨rfl, ad, rfl, h1⟩))
theorem runW {c : Par} (hc : c.main = false) (hv : c.Ok) : ∀ (F : Nat) {m : Nat} {σ : Gh} {g : Goroutine} {w : World}, Run P c F g -> J E σ w -> (σ.wk k).fin ≠ 1 -> (∀ x ∈ ldsR P c F g, Known E P k σ w x) ->
  (∀ σ₁ w₁, RW E k σ w σ₁ w₁ -> GoesW P (proto E P) (k + 1) Stop m σ₁ (endR P c F g) w₁) -> GoesW P (proto E P) (k + 1) Stop (m + F) σ g w
 | 0, m, σ, g, w, hq, hJ, ha, hx, h => h σ w (RW.refl hJ)
 | F + 1, m, σ, g, w, hq, hJ, ha, hx, h => by
  cases hl : stopR P c g with
  | true =>
   have h := h σ w (RW.refl hJ)
   simp only [endR, hl, cond_true] at h
   exact h.mono (by omega)
  | false =>
   obtain ⟨hs, hq'⟩ := hq.step hl
   refine .inr ⟨hq.run.1, hq.run.2, fun σ₁ w₁ hr => .inl ?_⟩
   have hwk := hr.wk
   have rest : ∀ x ∈ ldsR P c F (nxR P c g), Known E P k σ₁ w₁ x := fun x hm => (hx x (by
    simp only [ldsR, hl, cond_false]
    split
    · exact hm
    · split
      · exact List.mem_cons_of_mem _ hm
      · exact hm)).keep hr.keep (by rw [hwk])
   have cont : GoesW P (proto E P) (k + 1) Stop (m + F) σ₁ (nxR P c g) w₁ := by
    refine runW hc hv F hq' hr.j (by rw [hwk]; exact ha) rest fun σ₂ w₂ hr₂ => ?_
    have := h σ₂ w₂ (hr.trans hr₂)
    simpa only [endR, hl, cond_false] using this
   have hs1 := hs w₁
   cases hd0 : vlR c g with
   | some x =>
    rw [show nxR P c g = fin g x.1 by unfold nxR; rw [hd0]] at cont hq'
    simp only [stpR, wntR, hd0] at hs1
    rw [hc, <- vlR_ok hv hd0] at hs1
    exact ⟨_, w₁, #[], σ₁, hs1, (DW.quiet hr.j (by rw [hwk]; exact ha) hq'.run.1 : DW E P k σ₁ w₁ g #[] σ₁ w₁ _), cont⟩
   | none =>
   cases hd : ldR P c g with
   | none =>
    rw [show nxR P c g = nextQ P false g by unfold nxR; rw [hd0, hd, hc]] at cont hq'
    simp only [stpR, wntR, hd0, hd] at hs1
    rw [hc] at hs1
    exact ⟨_, w₁, #[], σ₁, hs1, (DW.quiet hr.j (by rw [hwk]; exact ha) hq'.run.1 : DW E P k σ₁ w₁ g #[] σ₁ w₁ _), cont⟩
   | some x =>
    rw [show nxR P c g = fin g x.2 by unfold nxR; rw [hd0, hd]] at cont hq'
    have hl1 := ldR_load hd
    have hx1 : Known E P k σ₁ w₁ (g.frame.fn, x.1, x.2) := (hx (g.frame.fn, x.1, x.2) (by
     simp only [ldsR, hl, cond_false, hd0, hd]
     exact List.mem_cons_self ..)).keep hr.keep (by rw [hwk])
    exact ⟨_, w₁, _, σ₁, step_load hl1 hx1.cell, (DW.load hr.j (by rw [hwk]; exact ha) hq'.run.1 hx1 rfl : DW E P k σ₁ w₁ g _ σ₁ w₁ _), cont⟩
end
set_option maxRecDepth 100000
noncomputable def cW : Par := {}
theorem cW_ok : cW.Ok := fun f d x h => by cases h
noncomputable def xLeave (f : FuncId) (g : Goroutine) : Bool := g.frame.fn == f && (match g.frame.mode with | .returning => true | _ => false) && g.frame.defers.isEmpty
variable (Mu : Nat) (fr : Frame) (cs : List Frame)
abbrev pMu : Value := .pointer (some ⟨Mu, 0, none⟩)
noncomputable def gL0 : Goroutine := endR Tryz.prog cW 60 (enter Tryz.prog 43 #[pMu Mu] (fr :: cs))
noncomputable def gL1 : Goroutine := endR Tryz.prog cW 60 (fin (gL0 Mu fr cs) (.tuple #[]))
theorem a0 : Run Tryz.prog cW 60 (enter Tryz.prog 43 #[pMu Mu] (fr :: cs)) := ⟨fun w => by kernel_rfl, by kernel_rfl⟩
theorem b0 : isCall 68 (gL0 Mu fr cs) = some [] := by kernel_rfl
theorem a1 : Run Tryz.prog cW 60 (fin (gL0 Mu fr cs) (.tuple #[])) := ⟨fun w => by kernel_rfl, by kernel_rfl⟩
theorem b1 : isCall 87 (gL1 Mu fr cs) = some [pMu Mu, .int .i32 0, .int .i32 1] := by kernel_rfl
noncomputable def gF0 : Goroutine := endR Tryz.prog cW 60 (fin (gL1 Mu fr cs) (.bool true))
theorem aF0 : Run Tryz.prog cW 60 (fin (gL1 Mu fr cs) (.bool true)) := ⟨fun w => by kernel_rfl, by kernel_rfl⟩
theorem bF0 : isCall 70 (gF0 Mu fr cs) = some [] := by kernel_rfl
noncomputable def gF1 : Goroutine := endR Tryz.prog cW 60 (fin (gF0 Mu fr cs) (.tuple #[]))
theorem aF1 : Run Tryz.prog cW 60 (fin (gF0 Mu fr cs) (.tuple #[])) := ⟨fun w => by kernel_rfl, by kernel_rfl⟩
theorem vF1 : isConv Tryz.prog (gF1 Mu fr cs) = some ⟨Mu, 0, none⟩ := by kernel_rfl
noncomputable def gF1c : Goroutine := endR Tryz.prog cW 60 (fin (gF1 Mu fr cs) (pMu Mu))
theorem aF1c : Run Tryz.prog cW 60 (fin (gF1 Mu fr cs) (pMu Mu)) := ⟨fun w => by kernel_rfl, by kernel_rfl⟩
theorem bF1 : isCall 71 (gF1c Mu fr cs) = some [pMu Mu] := by kernel_rfl
noncomputable def cL (f : FuncId) : Par := { X := xLeave f }
theorem cL_ok (f : FuncId) : (cL f).Ok := fun f d x h => by cases h
noncomputable def gF2 : Goroutine := endR Tryz.prog (cL 43) 60 (fin (gF1c Mu fr cs) (.tuple #[]))
theorem aF2 : Run Tryz.prog (cL 43) 60 (fin (gF1c Mu fr cs) (.tuple #[])) := ⟨fun w => by kernel_rfl, by kernel_rfl⟩
def back (v : Value) : Goroutine := { frame := fr.finish v, callers := cs, status := .running, dying := none }
theorem aF3 (w : World) : stepG Tryz.prog false (gF2 Mu fr cs) w = .go (back fr cs (.tuple #[])) w #[] := by kernel_rfl
theorem rF2 : isRun (gF2 Mu fr cs) = true := by kernel_rfl
noncomputable def junk (g : Goroutine) (i : Nat) : Value := g.frame.tmps.getD i undef
end Wp
end Go.Proofs.YtnpjonhoihbaeaaGreat
namespace Go.Proofs.YtnpjonhoihbaeaaGreat
open Go.Conc
open Go.ConcN (sumTo upd sumTo_upd upd_ne upd_same sumTo_congr RelBy)
open Go.ConcM (OsLater)
namespace Wp
theorem x48 : ExtF Tryz.prog 67 (Extern.Atomic.update (Op.intArith .add) .i64 true) := ⟨Tryz.f67, by kernel_rfl, by kernel_rfl, by kernel_rfl, by kernel_rfl, by kernel_rfl⟩
theorem x61 : ExtF Tryz.prog 87 (Extern.Atomic.casT (.int .i32)) := ⟨Tryz.f87, by kernel_rfl, by kernel_rfl, by kernel_rfl, by kernel_rfl, by kernel_rfl⟩
theorem x64 : ExtF Tryz.prog 90 (Extern.Atomic.update (Op.intArith .add) .i32 true) := ⟨Tryz.f90, by kernel_rfl, by kernel_rfl, by kernel_rfl, by kernel_rfl, by kernel_rfl⟩
theorem x49 : ExtF Tryz.prog 68 (fun _ => do mark .disable; pure Extern.Race.none_) := ⟨Tryz.f68, by kernel_rfl, by kernel_rfl, by kernel_rfl, by kernel_rfl, by kernel_rfl⟩
theorem x51 : ExtF Tryz.prog 70 (fun _ => do mark .enable; pure Extern.Race.none_) := ⟨Tryz.f70, by kernel_rfl, by kernel_rfl, by kernel_rfl, by kernel_rfl, by kernel_rfl⟩
theorem x52 : ExtF Tryz.prog 71 (Extern.Race.marked .acquire) := ⟨Tryz.f71, by kernel_rfl, by kernel_rfl, by kernel_rfl, by kernel_rfl, by kernel_rfl⟩
theorem x63 : ExtF Tryz.prog 89 (Extern.Race.marked .releaseMerge) := ⟨Tryz.f89, by kernel_rfl, by kernel_rfl, by kernel_rfl, by kernel_rfl, by kernel_rfl⟩
theorem Run.head {P : Program} {c : Par} {F : Nat} {g : Goroutine} (h : Run P c F g) : isRun g = true := by
 cases F with
 | zero => exact h.ok
 | succ n =>
  have := h.ok
  simp only [okR, Bool.and_eq_true] at this
  exact this.1
section
variable {E : Env} {P : Program} {k : Nat} {σ σ' : Gh} {w w' : World} {Stop : Gh -> Goroutine -> World -> Prop}
theorem MInv.same {n : Nat} {wk : Nat -> Wk} {m : Mx} (h : MInv n wk m) {x : Wk} (hx : x.lk = (wk k).lk) : MInv n (upd wk k x) m := by
 have c : ∀ y, cnt n (upd wk k x) y = cnt n wk y := fun y => sum_same (φ := fun z => if z.lk = y then 1 else 0) (by rw [hx])
 obtain ⟨a, b, d, e, f, g, i, j, l⟩ := h
 exact ⟨a, b, d, by rw [c]; exact e, by rw [c, c, c]; exact f, by rw [c, c, c]; exact g, by rw [c, c]; exact i, by rw [c, c]; exact j, by rw [c]; exact l⟩
theorem pots_same {n : Nat} {wk : Nat -> Wk} {x : Wk} (hx : x.lk = (wk k).lk) : pots n (upd wk k x) = pots n wk := sum_same (φ := fun z => wt z.lk) (by rw [hx])
def Wk.on (x : Wk) (l : Lk) (d : Nat) : Wk := { x with lk := l, df := d }
def Gh.lk (σ : Gh) (k : Nat) (l : Lk) (d : Nat) (m : Mx) : Gh := { σ with wk := upd σ.wk k ((σ.wk k).on l d), mx := m }
theorem Gh.lk_wk (σ : Gh) (k : Nat) (l : Lk) (d : Nat) (m : Mx) : (σ.lk k l d m).wk k = ((σ.wk k).on l d) := upd_same _ _ _
theorem Turn.lock (hE : E.Ok) (hJ : J E σ w) (hk : k < σ.num) (h7 : (σ.wk k).fin = 7) {l : Lk} {d : Nat} {m : Mx} {es : Array Event} (hM : MInv σ.num (upd σ.wk k ((σ.wk k).on l d)) m)
  (hP : Pend ((σ.wk k).on l d) ↔ Pend (σ.wk k)) (ho : (σ.wk k).lk ≠ .out \/ l = .out)
  (hp : pots σ.num (upd σ.wk k ((σ.wk k).on l d)) + m.sm <= pots σ.num σ.wk + σ.mx.sm /\ (m.word = σ.mx.word \/ pots σ.num (upd σ.wk k ((σ.wk k).on l d)) + m.sm < pots σ.num σ.wk + σ.mx.sm))
  (hdd : ∀ j, j ≠ k -> j < σ.num -> (σ.wk j).lk = .dd -> σ.mx.S = 1 -> m.S = 1 /\ σ.mx.N <= m.N) (hw : Same E w w') (h4 : Four E (σ.lk k l d m) w') (hev : ∀ e ∈ es, Book E e) (hdf : deafBehind (σ.wk k).df es = d) : Turn E k σ w es (σ.lk k l d m) w' := by
 have inv : Inv E.n (σ.lk k l d m) := hJ.inv.lock hk hM rfl rfl rfl rfl hP ho
 have hd : dues σ.num (upd σ.wk k ((σ.wk k).on l d)) = dues σ.num σ.wk := dues_same rfl
 have j' : J E (σ.lk k l d m) w' := J.turn hE hJ hw h4 inv (by show σ.hs + dues σ.num (upd σ.wk k _) + E.rest σ.nx + σ.dm = E.tot; rw [hd]; exact hJ.acc) rfl rfl rfl
 refine ⟨j', fun j hj => upd_ne _ _ hj, rfl, rfl, rfl, rfl, rfl, rfl, by rw [Gh.lk_wk]; rfl, hw, ?_, hdd, fun h => by rw [Gh.lk_wk] at h; exact h, by rw [h7]; decide, by rw [Gh.lk_wk]; exact hdf, fun _ h => h, fun e he => (hev e he).evW j', fun h => ?_⟩
 · unfold Wp.pot
   show pots σ.num (upd σ.wk k _) + m.sm + 5 * (E.n - σ.nx) <= _ /\ (m.word = _ \/ pots σ.num (upd σ.wk k _) + m.sm + 5 * (E.n - σ.nx) < _)
   exact ⟨by omega, hp.2.imp id fun h => by omega⟩
 · rw [Gh.lk_wk] at h
   have h : (σ.wk k).fin <= 6 := h
   omega
theorem Turn.idle (hE : E.Ok) (hJ : J E σ w) (ha : (σ.wk k).fin ≠ 1) (hw : Same E w w') (h4 : Four E σ w') : Turn E k σ w #[] σ w' :=
 ⟨J.turn hE hJ hw h4 hJ.inv hJ.acc rfl rfl rfl, fun _ _ => rfl, rfl, rfl, rfl, rfl, rfl, rfl, rfl, hw, ⟨Nat.le_refl _, .inl rfl⟩, fun _ _ _ _ h => ⟨h, Nat.le_refl _⟩, id, ha, rfl, fun _ h => h, fun e he => by simp at he, fun h => .inl ⟨h, fun j e he => by simp at he⟩⟩
theorem RW.idle (hE : E.Ok) (hJ : J E σ w) (hw : Same E w w') (h4 : Four E σ w') : RW E k σ w σ w' :=
 ⟨J.turn hE hJ hw h4 hJ.inv hJ.acc rfl rfl rfl, Nat.le_refl _, rfl, Nat.le_refl _, fun _ _ => rfl, fun b hb hc => hw.mem b (hc.elim (fun x => x.2.2) fun x => (hJ.pv b (by omega)).2.2.1), ⟨Nat.le_refl _, .inl rfl⟩, fun _ h => ⟨h, Nat.le_refl _⟩⟩
theorem no_wake {σ σ' : Gh} {b : Bool} (h1 : σ'.mx.sm <= σ.mx.sm) (h2 : σ'.ws = σ.ws) : (σ.mx.sm = 0 -> 0 < σ'.mx.sm -> b = true) /\ (σ.ws = 0 -> 0 < σ'.ws -> b = true) := ⟨fun a c => by omega, fun a c => by omega⟩
section
variable {m : Nat} {g : Goroutine}
theorem stop_load (hE : E.Ok) {fnr : norace P g.frame.fn = true} (hg : isLoad P g = some (false, ⟨E.Mu, 0, none⟩)) (hr : isRun g = true) (hr' : ∀ v, isRun (fin g (.int .i32 v)) = true) (hJ : J E σ w) (hk : k < σ.num) (ha : (σ.wk k).fin ≠ 1)
  (h : ∀ σ₁ w₁, RW E k σ w σ₁ w₁ -> GoesW P (proto E P) (k + 1) Stop m σ₁ (fin g (.int .i32 (σ₁.mx.word : Int))) w₁) : GoesW P (proto E P) (k + 1) Stop (m + 1) σ g w :=
 goW hr hk fun σ₁ w₁ hw hk1 => ⟨_, w₁, #[], σ₁, by rw [step_load hg hw.j.cellMu, fnr]; rfl, Turn.idle hE hw.j (by rw [hw.wk]; exact ha) .refl hw.j.four, hr' _, no_wake (Nat.le_refl _) rfl, h σ₁ w₁ hw⟩
theorem stop_conv (hE : E.Ok) {a : Addr} {v : Gh -> Value} (hg : isConv P g = some a) (hc : ∀ {σ : Gh} {w : World}, J E σ w -> w.cell? a = some (v σ)) (hr : isRun g = true) (hr' : isRun (fin g (.pointer (some a))) = true) (hJ : J E σ w) (hk : k < σ.num) (ha : (σ.wk k).fin ≠ 1)
  (h : ∀ σ₁ w₁, RW E k σ w σ₁ w₁ -> GoesW P (proto E P) (k + 1) Stop m σ₁ (fin g (.pointer (some a))) w₁) : GoesW P (proto E P) (k + 1) Stop (m + 1) σ g w :=
 goW hr hk fun σ₁ w₁ hw hk1 => ⟨_, w₁, #[], σ₁, step_conv hg (hc hw.j), Turn.idle hE hw.j (by rw [hw.wk]; exact ha) .refl hw.j.four, hr', no_wake (Nat.le_refl _) rfl, h σ₁ w₁ hw⟩
theorem stop_pure (hE : E.Ok) {f : FuncId} {vs : List Value} {v : Value} (hg : isCall f g = some vs) (hf : ExtF P f (fun _ => pure v)) (hr : isRun g = true) (hr' : isRun (fin g v) = true) (hJ : J E σ w) (hk : k < σ.num) (ha : (σ.wk k).fin ≠ 1)
  (h : ∀ σ₁ w₁, RW E k σ w σ₁ w₁ -> GoesW P (proto E P) (k + 1) Stop m σ₁ (fin g v) w₁) : GoesW P (proto E P) (k + 1) Stop (m + 1) σ g w :=
 goW hr hk fun σ₁ w₁ hw hk1 => ⟨_, w₁, #[], σ₁, step_ext hg hf (by rfl) (by rfl) (by simp), Turn.idle hE hw.j (by rw [hw.wk]; exact ha) .refl hw.j.four, hr', no_wake (Nat.le_refl _) rfl, h σ₁ w₁ hw⟩
theorem stop_mark (hE : E.Ok) {mk : Mark} {g' : Goroutine} {d : Nat} (hs : ∀ w, stepG P false g w = .go g' w #[⟨.mark mk, false, true⟩]) (hb : Book E ⟨.mark mk, false, true⟩) (hr : isRun g = true) (hr' : isRun g' = true) (hJ : J E σ w) (hk : k < σ.num) (h7 : (σ.wk k).fin = 7)
  (hd : deafBehind (σ.wk k).df #[⟨.mark mk, false, true⟩] = d)
  (h : ∀ σ₁ w₁, RW E k σ w σ₁ w₁ -> Keep E k σ w (σ₁.lk k (σ₁.wk k).lk d σ₁.mx) w₁ -> GoesW P (proto E P) (k + 1) Stop m (σ₁.lk k (σ₁.wk k).lk d σ₁.mx) g' w₁) : GoesW P (proto E P) (k + 1) Stop (m + 1) σ g w :=
 goW hr hk fun σ₁ w₁ hw hk1 => by
  have h71 : (σ₁.wk k).fin = 7 := by rw [hw.wk]; exact h7
  have T : Turn E k σ₁ w₁ #[⟨.mark mk, false, true⟩] (σ₁.lk k (σ₁.wk k).lk d σ₁.mx) w₁ := Turn.lock hE hw.j hk1 h71 (hw.j.inv.mx.same rfl) Iff.rfl ((Classical.em ((σ₁.wk k).lk = .out)).symm) ⟨Nat.le_of_eq (congrArg (· + σ₁.mx.sm) (pots_same rfl)), .inl rfl⟩ (fun _ _ _ _ h => ⟨h, Nat.le_refl _⟩) .refl ⟨hw.j.mu, hw.j.nx, hw.j.wg, hw.j.o⟩
   (fun e he => by simp only [List.mem_toArray, List.mem_cons, List.not_mem_nil, or_false] at he; subst he; exact hb) (by rw [hw.wk]; exact hd)
  exact ⟨g', w₁, _, _, hs w₁, T, hr', no_wake (Nat.le_refl _) rfl, h σ₁ w₁ hw (hw.keep.trans (T.keep hw.j))⟩
end
end
set_option maxRecDepth 100000
theorem ldsR_none {P : Program} {c : Par} (h : c.O = noOrc) : ∀ {F : Nat} {g : Goroutine}, ldsR P c F g = []
 | 0, _ => rfl
 | F + 1, g => by
  have hl : ldR P c g = none := by
   unfold ldR
   split
   · rw [h]; rfl
   · rfl
  simp only [ldsR, hl]
  cases stopR P c g with
  | true => rfl
  | false =>
   simp only [cond_false]
   split <;> exact ldsR_none h
section
variable {E : Env} {P : Program} {k : Nat} {σ σ' : Gh} {w w' : World} {Stop : Gh -> Goroutine -> World -> Prop}
theorem run0 {c : Par} (hv : c.Ok) {F m : Nat} {g : Goroutine} (hR : Run P c F g) (hJ : J E σ w) (ha : (σ.wk k).fin ≠ 1) (h : ∀ σ₁ w₁, RW E k σ w σ₁ w₁ -> GoesW P (proto E P) (k + 1) Stop m σ₁ (endR P c F g) w₁) (hc : c.main = false := by rfl) (ho : c.O = noOrc := by rfl) : GoesW P (proto E P) (k + 1) Stop (m + F) σ g w :=
 runW hc hv F hR hJ ha (by rw [ldsR_none ho]; intro x hx; cases hx) h
theorem stop_cas (hE : E.Ok) {m : Nat} {g : Goroutine} {old new : Int} (hg : isCall 87 g = some [pMu E.Mu, .int .i32 old, .int .i32 new]) (hf : ExtF P 87 (Extern.Atomic.casT (.int .i32))) (hr : isRun g = true) (hr' : isRun (fin g (.bool true)) = true) (hJ : J E σ w) (hk : k < σ.num) (h7 : (σ.wk k).fin = 7) (hdf : (σ.wk k).df = 1)
  (hit : ∀ σ₁ w₁, RW E k σ w σ₁ w₁ -> k < σ₁.num -> (σ₁.mx.word : Int) = old -> ∃ l m', (m'.word : Int) = new /\ m'.sm = σ₁.mx.sm /\ MInv σ₁.num (upd σ₁.wk k ((σ₁.wk k).on l 1)) m' /\ (Pend ((σ₁.wk k).on l 1) ↔ Pend (σ₁.wk k)) /\ (σ₁.wk k).lk ≠ .out /\ pots σ₁.num (upd σ₁.wk k ((σ₁.wk k).on l 1)) < pots σ₁.num σ₁.wk /\ (σ₁.mx.S = 1 -> σ₁.mx.L = 0 -> m'.S = 1 /\ σ₁.mx.N <= m'.N) /\
   ∀ w', Keep E k σ w (σ₁.lk k l 1 m') w' -> pot E.n (σ₁.lk k l 1 m') + 1 <= pot E.n σ₁ -> GoesW P (proto E P) (k + 1) Stop m (σ₁.lk k l 1 m') (fin g (.bool true)) w')
  (miss : ∀ σ₁ w₁, RW E k σ w σ₁ w₁ -> (σ₁.mx.word : Int) ≠ old -> False) : GoesW P (proto E P) (k + 1) Stop (m + 1) σ g w :=
 goW hr hk fun σ₁ w₁ hw hk1 => by
  by_cases he : (σ₁.mx.word : Int) = old
  · obtain ⟨l, m', a1, a2, a3, a4, a5, a6, a7, a8⟩ := hit σ₁ w₁ hw hk1 he
    subst he a1
    have h71 : (σ₁.wk k).fin = 7 := by rw [hw.wk]; exact h7
    have T : Turn E k σ₁ w₁ #[⟨.cell (muA E), false, true⟩, ⟨.cell (muA E), true, true⟩] (σ₁.lk k l 1 m') (w₁.setCell (muA E) (.int .i32 (m'.word : Int))) :=
     Turn.lock hE hw.j hk1 h71 a3 a4 (.inl a5) ⟨by omega, .inr (by omega)⟩ (fun j hj hjn hd hs => a7 hs ((hw.j.inv.mx.dd0 hjn hd).elim (fun h => by omega) fun h => h.2.1)) (.set (.inl rfl)) (hw.j.four.setMu hE rfl a2)
      (fun e he => by
       simp only [List.mem_toArray, List.mem_cons, List.not_mem_nil, or_false] at he
       rcases he with rfl | rfl <;> exact .at_ _ _ (.inl rfl)) (by rw [hw.wk, hdf]; rfl)
    have hpot : pot E.n (σ₁.lk k l 1 m') + 1 <= pot E.n σ₁ := by
     unfold pot
     show pots σ₁.num (upd σ₁.wk k ((σ₁.wk k).on l 1)) + m'.sm + 5 * (E.n - σ₁.nx) + 1 <= _
     omega
    exact ⟨_, _, _, _, step_hit hg hf hw.j.cellMu hw.j.thawMu, T, hr', no_wake (Nat.le_of_eq a2) rfl, a8 _ (hw.keep.trans (T.keep hw.j)) hpot⟩
  · exact (miss σ₁ w₁ hw he).elim
theorem GoesW.sub {Pr : Proto Gh} {i n F : Nat} {g : Goroutine} (h : F <= n) (H : GoesW P Pr i Stop (n - F + F) σ g w) : GoesW P Pr i Stop n σ g w := by rwa [Nat.sub_add_cancel h] at H
variable {fr : Frame} {cs : List Frame} {x0 : Wk}
theorem pend_on (hw : x0.wrote = false) {l : Lk} {d : Nat} (hl : l ≠ .out /\ l ≠ .uc /\ l ≠ .us) : Pend (x0.on l d) := by
 unfold Pend
 cases l <;> simp_all [Wk.on]
end
theorem cnt_none : ∀ {n : Nat} {wk : Nat -> Wk} {y : Lk}, (∀ j, j < n -> (wk j).lk ≠ y) -> cnt n wk y = 0
 | 0, _, _, _ => rfl
 | n + 1, wk, y, h => by
  have ih := cnt_none (n := n) (wk := wk) (y := y) fun j hj => h j (by omega)
  unfold cnt at ih ⊢
  simp only [sumTo, ih, if_neg (h n (Nat.lt_succ_self n))]
theorem Inv.free1 {n k : Nat} {σ : Gh} (I : Inv n σ) (hk : k < σ.num) {a : Lk} (ha : (σ.wk k).lk = a) (h : a = .fr \/ a = .hd) : σ.mx.W = 0 /\ σ.mx.S = 0 /\ σ.mx.N = 0 /\ σ.mx.sm = 0 /\ σ.mx.L = (if a = .hd then 1 else 0) := by
 have z : ∀ y, y ≠ .out -> y ≠ a -> cnt σ.num σ.wk y = 0 := fun y h1 h2 => cnt_none fun j hj e => h2 (by
  have := I.uniq j k hj hk (by rw [e]; exact h1) (by rw [ha]; rcases h with rfl | rfl <;> decide)
  subst this
  rw [<- e, ha])
 have z1 := z .aw (by decide) (by rcases h with rfl | rfl <;> decide)
 have z2 := z .us (by decide) (by rcases h with rfl | rfl <;> decide)
 have z3 := z .dd (by decide) (by rcases h with rfl | rfl <;> decide)
 have z4 := z .qd (by decide) (by rcases h with rfl | rfl <;> decide)
 obtain ⟨i1, i2, i3, i4, i5, i6, i7, i8, i9⟩ := I.mx
 have hS : σ.mx.S = 0 := by omega
 refine ⟨by omega, hS, by omega, by omega, ?_⟩
 rcases h with rfl | rfl
 · have z5 := z .hd (by decide) (by decide)
   rw [if_neg (by decide)]; omega
 · have := cnt_pos hk ha
   rw [if_pos rfl]; omega
section
variable {E : Env} {k : Nat} {Stop : Gh -> Goroutine -> World -> Prop} {fr : Frame} {cs : List Frame} {x0 : Wk} {m : Nat} {σ : Gh} {w : World}
abbrev GW (E : Env) (k : Nat) (Stop : Gh -> Goroutine -> World -> Prop) (n : Nat) (σ : Gh) (g : Goroutine) (w : World) : Prop := GoesW Tryz.prog (proto E Tryz.prog) (k + 1) Stop n σ g w
theorem quick_w (hE : E.Ok) (h7 : x0.fin = 7) {n : Nat} (hn : m + 400 <= n) (hJ : J E σ w) (hk : k < σ.num) (hx : σ.wk k = x0.on .hd 1) (hcont : ∀ σ' w', Keep E k σ w σ' w' -> σ'.wk k = x0.on .hd 0 -> GW E k Stop m σ' (back fr cs (.tuple #[])) w') :
  GW E k Stop n σ (gF0 E.Mu fr cs) w := by
 have ha : x0.fin ≠ 1 := by omega
 refine GoesW.sub (F := 1) (by omega) (stop_mark hE (fun w => step_mark .enable (by simp) (bF0 E.Mu fr cs) x51) .en (Run.last (aF0 E.Mu fr cs)) (aF1 E.Mu fr cs).head hJ hk (by rw [hx]; exact h7) (d := 0) (by rw [hx]; rfl) fun σ₁ w₁ hw1 hK1 => ?_)
 have hx1 : (σ₁.lk k (σ₁.wk k).lk 0 σ₁.mx).wk k = x0.on .hd 0 := by rw [Gh.lk_wk, hw1.wk, hx]; rfl
 generalize σ₁.lk k (σ₁.wk k).lk 0 σ₁.mx = τ1 at *
 refine GoesW.sub (F := 60) (by omega) (run0 cW_ok (aF1 E.Mu fr cs) hK1.j (by rw [hx1]; exact ha) fun σ₂ w₂ hw2 => ?_)
 have hx2 : σ₂.wk k = x0.on .hd 0 := by rw [hw2.wk, hx1]
 have hK2 := hK1.trans hw2.keep
 refine GoesW.sub (F := 1) (by omega) (stop_conv (v := fun σ => .int .i32 (σ.mx.word : Int)) hE (vF1 E.Mu fr cs) (fun hJ => hJ.cellMu) (Run.last (aF1 E.Mu fr cs)) (aF1c E.Mu fr cs).head hw2.j (Nat.lt_of_lt_of_le hk hK2.num) (by rw [hx2]; exact ha) fun σ₃ w₃ hw3 => ?_)
 have hx3 : σ₃.wk k = x0.on .hd 0 := by rw [hw3.wk, hx2]
 have hK3 := hK2.trans hw3.keep
 refine GoesW.sub (F := 60) (by omega) (run0 cW_ok (aF1c E.Mu fr cs) hw3.j (by rw [hx3]; exact ha) fun σ₄ w₄ hw4 => ?_)
 have hx4 : σ₄.wk k = x0.on .hd 0 := by rw [hw4.wk, hx3]
 have hK4 := hK3.trans hw4.keep
 refine GoesW.sub (F := 1) (by omega) (stop_mark hE (fun w => step_markAt .acquire (by simp) (bF1 E.Mu fr cs) x52) (.acq _ (.inl rfl)) (Run.last (aF1c E.Mu fr cs)) (aF2 E.Mu fr cs).head hw4.j (Nat.lt_of_lt_of_le hk hK4.num) (by rw [hx4]; exact h7) (d := 0) (by rw [hx4]; rfl) fun σ₅ w₅ hw5 hK5 => ?_)
 have hx5 : (σ₅.lk k (σ₅.wk k).lk 0 σ₅.mx).wk k = x0.on .hd 0 := by rw [Gh.lk_wk, hw5.wk, hx4]; rfl
 have hK5 := hK4.trans hK5
 generalize σ₅.lk k (σ₅.wk k).lk 0 σ₅.mx = τ5 at *
 refine GoesW.sub (F := 60) (by omega) (run0 (cL_ok 43) (aF2 E.Mu fr cs) hK5.j (by rw [hx5]; exact ha) fun σ₆ w₆ hw6 => ?_)
 have hx6 : σ₆.wk k = x0.on .hd 0 := by rw [hw6.wk, hx5]
 have hK6 := hK5.trans hw6.keep
 refine GoesW.sub (F := 1) (by omega) (goW (rF2 E.Mu fr cs) (Nat.lt_of_lt_of_le hk hK6.num) fun σ₇ w₇ hw7 hk7 => ⟨_, w₇, #[], σ₇, aF3 E.Mu fr cs w₇, Turn.idle hE hw7.j (by rw [hw7.wk, hx6]; exact ha) .refl hw7.j.four, by rfl, no_wake (Nat.le_refl _) rfl, ?_⟩)
 exact (hcont σ₇ w₇ (hK6.trans hw7.keep) (by rw [hw7.wk, hx6])).mono (by omega)
theorem lock_w (hE : E.Ok) (h7 : x0.fin = 7) (hwr : x0.wrote = false) {p n : Nat} (hn : m + (5 * p + 5) * 2000 + 1000 <= n) (hJ : J E σ w) (hk : k < σ.num) (hx : σ.wk k = x0.on .fr 0) (hp : pot E.n σ <= p) (hcont : ∀ σ' w', Keep E k σ w σ' w' -> σ'.wk k = x0.on .hd 0 -> GW E k Stop m σ' (back fr cs (.tuple #[])) w') :
  GW E k Stop n σ (enter Tryz.prog 43 #[pMu E.Mu] (fr :: cs)) w := by
 have ha : x0.fin ≠ 1 := by omega
 refine GoesW.sub (F := 60) (by omega) (run0 cW_ok (a0 E.Mu fr cs) hJ (by rw [hx]; exact ha) fun σ₁ w₁ hw1 => ?_)
 have hx1 : σ₁.wk k = x0.on .fr 0 := by rw [hw1.wk, hx]
 have hk1 : k < σ₁.num := Nat.lt_of_lt_of_le hk hw1.num
 refine GoesW.sub (F := 1) (by omega) (stop_mark hE (fun w => step_mark .disable (by simp) (b0 E.Mu fr cs) x49) .dis (Run.last (a0 E.Mu fr cs)) (a1 E.Mu fr cs).head hw1.j hk1 (by rw [hx1]; exact h7) (d := 1) (by rw [hx1]; rfl) fun σ₂ w₂ hw2 hK2 => ?_)
 have hx2 : (σ₂.lk k (σ₂.wk k).lk 1 σ₂.mx).wk k = x0.on .fr 1 := by rw [Gh.lk_wk, hw2.wk, hx1]; rfl
 have hK2 := hw1.keep.trans hK2
 generalize σ₂.lk k (σ₂.wk k).lk 1 σ₂.mx = τ2 at *
 refine GoesW.sub (F := 60) (by omega) (run0 cW_ok (a1 E.Mu fr cs) hK2.j (by rw [hx2]; exact ha) fun σ₃ w₃ hw3 => ?_)
 have hx3 : σ₃.wk k = x0.on .fr 1 := by rw [hw3.wk, hx2]
 have hK3 := hK2.trans hw3.keep
 have hk3 : k < σ₃.num := Nat.lt_of_lt_of_le hk hK3.num
 refine GoesW.sub (F := 1) (by omega) (stop_cas hE (b1 E.Mu fr cs) x61 (Run.last (a1 E.Mu fr cs)) (aF0 E.Mu fr cs).head hw3.j hk3 (by rw [hx3]; exact h7) (by rw [hx3]; rfl) (fun σ₄ w₄ hw4 hk4 he => ?_) (fun σ₄ w₄ hw4 hne => ?_))
 · have hx4 : σ₄.wk k = x0.on .fr 1 := by rw [hw4.wk, hx3]
   have M4 := hw4.j.inv.mx
   have hz : σ₄.mx.L = 0 /\ σ₄.mx.W = 0 /\ σ₄.mx.S = 0 /\ σ₄.mx.N = 0 := by
    unfold Mx.word at he
    omega
   obtain ⟨z1, z2, z3, z4⟩ := hz
   obtain ⟨M', hpt⟩ := M4.fast (x := (σ₄.wk k).on .hd 1) hk4 (by rw [hx4]; rfl) rfl z1 z3
   refine ⟨.hd, { σ₄.mx with L := 1 }, ?_, rfl, M', ?_, (by rw [hx4]; show Lk.fr ≠ Lk.out; decide), by omega, fun h _ => by omega, fun w5 hK5 hpot => ?_⟩
   · unfold Mx.word
     show ((1 + 2 * σ₄.mx.W + 4 * σ₄.mx.S + 8 * σ₄.mx.N : Nat) : Int) = 1
     omega
   · rw [hx4]
     exact ⟨fun _ => pend_on hwr (by decide), fun _ => by show Pend (x0.on _ 1); exact pend_on hwr (by decide)⟩
   have hx5 : (σ₄.lk k .hd 1 { σ₄.mx with L := 1 }).wk k = x0.on .hd 1 := by rw [Gh.lk_wk, hx4]; rfl
   have hK5 := hK3.trans hK5
   have hk5 : k < (σ₄.lk k .hd 1 { σ₄.mx with L := 1 }).num := hk4
   generalize σ₄.lk k .hd 1 { σ₄.mx with L := 1 } = τ5 at *
   refine GoesW.sub (F := 60) (by omega) (run0 cW_ok (aF0 E.Mu fr cs) hK5.j (by rw [hx5]; exact ha) fun σ₆ w₆ hw6 => ?_)
   have hK6 := hK5.trans hw6.keep
   exact quick_w hE h7 (m := m) (by omega) hw6.j (Nat.lt_of_lt_of_le hk5 hw6.num) (by rw [hw6.wk, hx5]) fun σ' w' hK' hx' => hcont σ' w' (hK6.trans hK') hx'
 · have hx4 : σ₄.wk k = x0.on .fr 1 := by rw [hw4.wk, hx3]
   obtain ⟨z2, z3, z4, _, z1⟩ := hw4.j.inv.free1 (Nat.lt_of_lt_of_le hk3 hw4.num) (a := .fr) (by rw [hx4]; rfl) (.inl rfl)
   refine absurd ?_ hne
   have z1 : σ₄.mx.L = 0 := z1
   unfold Mx.word
   rw [z1, z2, z3, z4]
   rfl
end
noncomputable def vUn (f : FuncId) (d : Nat) : Option (Value × Value) := bif f == 62 && d == 16 then some (.bool false, .bool ((0 : Int) != 0)) else none
noncomputable def cU : Par := { V := vUn }
theorem cU_ok : cU.Ok := fun f d y hy => by
 have hy : vUn f d = some y := hy
 unfold vUn at hy
 cases e1 : (f == 62 && d == 16) with
 | true => rw [e1, cond_true] at hy; cases hy; rfl
 | false => rw [e1, cond_false] at hy; cases hy
variable (Mu : Nat) (fr : Frame) (cs : List Frame)
def retF (fr : Frame) : Frame := { fr with mode := .returning }
noncomputable def enterD (f : FuncId) (args : Array Value) : Goroutine := { frame := Frame.enter Tryz.prog f args .deferred, callers := retF fr :: cs, status := .running, dying := none }
def backD : Goroutine := { frame := retF fr, callers := cs, status := .running, dying := none }
noncomputable def gU0 : Goroutine := endR Tryz.prog cW 60 (enterD fr cs 44 #[pMu Mu])
theorem aU0 : Run Tryz.prog cW 60 (enterD fr cs 44 #[pMu Mu]) := ⟨fun w => by kernel_rfl, by kernel_rfl⟩
theorem bU0 : isLoad Tryz.prog (gU0 Mu fr cs) = some (false, ⟨Mu, 0, none⟩) := by kernel_rfl
theorem nU0 : norace Tryz.prog (gU0 Mu fr cs).frame.fn = true := by kernel_rfl
section
variable (v : Int)
noncomputable def gU1 : Goroutine := endR Tryz.prog cW 60 (fin (gU0 Mu fr cs) (.int .i32 v))
theorem aU1 : Run Tryz.prog cW 60 (fin (gU0 Mu fr cs) (.int .i32 v)) := ⟨fun w => by kernel_rfl, by kernel_rfl⟩
theorem vU1 : isConv Tryz.prog (gU1 Mu fr cs v) = some ⟨Mu, 0, none⟩ := by kernel_rfl
noncomputable def gU2 : Goroutine := endR Tryz.prog cW 60 (fin (gU1 Mu fr cs v) (pMu Mu))
theorem aU2 : Run Tryz.prog cW 60 (fin (gU1 Mu fr cs v) (pMu Mu)) := ⟨fun w => by kernel_rfl, by kernel_rfl⟩
theorem bU2 : isCall 89 (gU2 Mu fr cs v) = some [pMu Mu] := by kernel_rfl
noncomputable def gU3 : Goroutine := endR Tryz.prog cW 60 (fin (gU2 Mu fr cs v) (.tuple #[]))
theorem aU3 : Run Tryz.prog cW 60 (fin (gU2 Mu fr cs v) (.tuple #[])) := ⟨fun w => by kernel_rfl, by kernel_rfl⟩
theorem bU3 : isCall 68 (gU3 Mu fr cs v) = some [] := by kernel_rfl
noncomputable def gU4 : Goroutine := endR Tryz.prog cW 60 (fin (gU3 Mu fr cs v) (.tuple #[]))
theorem aU4 : Run Tryz.prog cW 60 (fin (gU3 Mu fr cs v) (.tuple #[])) := ⟨fun w => by kernel_rfl, by kernel_rfl⟩
theorem bU4 : isCall 90 (gU4 Mu fr cs v) = some [pMu Mu, .int .i32 (-1)] := by kernel_rfl
noncomputable def gU5 : Goroutine := endR Tryz.prog cU 100 (fin (gU4 Mu fr cs v) (.int .i32 0))
theorem aU5 : Run Tryz.prog cU 100 (fin (gU4 Mu fr cs v) (.int .i32 0)) := ⟨fun w => by kernel_rfl, by kernel_rfl⟩
end
noncomputable def gUE : Goroutine := gU5 Mu fr cs 0
def tmUE (J : Nat -> Value) : Array Value := ((List.range 21).map fun i => J i).toArray
noncomputable def UES (J : Nat -> Value) : Goroutine := { gUE Mu fr cs with frame := { (gUE Mu fr cs).frame with tmps := tmUE J } }
noncomputable def junkC (g : Goroutine) (i : Nat) : Value := match g.callers with
 | c :: _ => c.tmps.getD i undef
 | [] => undef
theorem hU5 (v : Int) : gU5 Mu fr cs v = UES Mu fr cs (junk (gU5 Mu fr cs v)) := by kernel_rfl
section
variable (J : Nat -> Value)
theorem bUE : isCall 70 (UES Mu fr cs J) = some [] := by kernel_rfl
theorem rUE : isRun (UES Mu fr cs J) = true := by kernel_rfl
noncomputable def gUX : Goroutine := endR Tryz.prog (cL 44) 60 (fin (UES Mu fr cs J) (.tuple #[]))
theorem aUX : Run Tryz.prog (cL 44) 60 (fin (UES Mu fr cs J) (.tuple #[])) := ⟨fun w => by kernel_rfl, by kernel_rfl⟩
theorem eUX (w : World) : stepG Tryz.prog false (gUX Mu fr cs J) w = .go (backD fr cs) w #[] := by kernel_rfl
theorem rUX : isRun (gUX Mu fr cs J) = true := by kernel_rfl
end
end Wp
end Go.Proofs.YtnpjonhoihbaeaaGreat
namespace Go.Proofs.YtnpjonhoihbaeaaGreat
open Go.Conc
open Go.ConcN (sumTo upd sumTo_upd upd_ne upd_same sumTo_congr RelBy)
namespace Wp
set_option maxRecDepth 100000
section
variable {E : Env} {k : Nat} {Stop : Gh -> Goroutine -> World -> Prop} {fr : Frame} {cs : List Frame} {x0 : Wk} {m : Nat} {σ : Gh} {w : World}
theorem npend_on (hw : x0.wrote = true) {l : Lk} {d : Nat} (hl : l = .out \/ l = .uc \/ l = .us \/ l = .hd) : ¬ Pend (x0.on l d) := by
 unfold Pend
 rcases hl with rfl | rfl | rfl | rfl <;> simp_all [Wk.on]
theorem npend_iff (hw : x0.wrote = true) {l l' : Lk} {d d' : Nat} (hl : l = .out \/ l = .uc \/ l = .us \/ l = .hd) (hl' : l' = .out \/ l' = .uc \/ l' = .us \/ l' = .hd) : Pend ((x0.on l d).on l' d') ↔ Pend (x0.on l d) :=
 ⟨fun h => absurd h (npend_on hw hl'), fun h => absurd h (npend_on hw hl)⟩
theorem mayWake_ext {P : Program} {f : FuncId} {g : Goroutine} {vs : List Value} {e : Array Value -> Sem Value} (h : isCall f g = some vs) (hf : ExtF P f e) : mayWake P g = true := by
 obtain ⟨b, a, ops, i, rest, kk, cs, o, xs, ats, h1, h2, h3, h4, h5, h6, h7, _⟩ := of_isCall h
 obtain ⟨fn, f1, f2, f3, f4, f5⟩ := hf.out
 rw [h1]
 have hev : ∀ (b : Frame) (a : Act) t, (b.at a t).eval (.func f) = .func (.func f) #[] #[] := fun _ _ _ => rfl
 unfold mayWake
 show (match ((ops[i]?).map (·.op) : Option Op) with
  | some (.call { callee := .value f, .. }) => match (b.at a (.inRegion ops (i :: rest) :: kk)).eval f with
   | .func (.func f) .. => !(P.funcs[f]?).any (·.body.isSome)
   | _ => true
  | some (.call _) => true
  | _ => false) = true
 rw [h2]
 simp only [Option.map_some, h5, hev, f1, Option.any_some]
 cases hb : fn.body <;> simp_all
theorem uend_w (hE : E.Ok) (h7 : x0.fin = 7) {n : Nat} (hn : m + 100 <= n) {J' : Nat -> Value} (hJ : J E σ w) (hk : k < σ.num) (hx : σ.wk k = x0.on .out 1) (hcont : ∀ σ' w', Keep E k σ w σ' w' -> σ'.wk k = x0.on .out 0 -> GW E k Stop m σ' (backD fr cs) w') :
  GW E k Stop n σ (UES E.Mu fr cs J') w := by
 have ha : x0.fin ≠ 1 := by omega
 refine GoesW.sub (F := 1) (by omega) (stop_mark hE (fun w => step_mark .enable (by simp) (bUE E.Mu fr cs J') x51) .en (rUE E.Mu fr cs J') (aUX E.Mu fr cs J').head hJ hk (by rw [hx]; exact h7) (d := 0) (by rw [hx]; rfl) fun σ₁ w₁ hw1 hK1 => ?_)
 have hx1 : (σ₁.lk k (σ₁.wk k).lk 0 σ₁.mx).wk k = x0.on .out 0 := by rw [Gh.lk_wk, hw1.wk, hx]; rfl
 generalize σ₁.lk k (σ₁.wk k).lk 0 σ₁.mx = τ1 at *
 refine GoesW.sub (F := 60) (by omega) (run0 (cL_ok 44) (aUX E.Mu fr cs J') hK1.j (by rw [hx1]; exact ha) fun σ₂ w₂ hw2 => ?_)
 have hx2 : σ₂.wk k = x0.on .out 0 := by rw [hw2.wk, hx1]
 have hK2 := hK1.trans hw2.keep
 refine GoesW.sub (F := 1) (by omega) (goW (rUX E.Mu fr cs J') (Nat.lt_of_lt_of_le hk hK2.num) fun σ₇ w₇ hw7 hk7 => ⟨_, w₇, #[], σ₇, eUX E.Mu fr cs J' w₇, Turn.idle hE hw7.j (by rw [hw7.wk, hx2]; exact ha) .refl hw7.j.four, by rfl, no_wake (Nat.le_refl _) rfl, ?_⟩)
 exact (hcont σ₇ w₇ (hK2.trans hw7.keep) (by rw [hw7.wk, hx2])).mono (by omega)
theorem unlock_w (hE : E.Ok) (h7 : x0.fin = 7) (hwr : x0.wrote = true) {p n : Nat} (hn : m + (p + 1) * 1000 + 2000 <= n) (hJ : J E σ w) (hk : k < σ.num) (hx : σ.wk k = x0.on .hd 0) (hp : pot E.n σ <= p) (hcont : ∀ σ' w', Keep E k σ w σ' w' -> σ'.wk k = x0.on .out 0 -> pot E.n σ' + 1 <= pot E.n σ -> GW E k Stop m σ' (backD fr cs) w') :
  GW E k Stop n σ (enterD fr cs 44 #[pMu E.Mu]) w := by
 have ha : x0.fin ≠ 1 := by omega
 refine GoesW.sub (F := 60) (by omega) (run0 cW_ok (aU0 E.Mu fr cs) hJ (by rw [hx]; exact ha) fun σ₁ w₁ hw1 => ?_)
 have hk1 : k < σ₁.num := Nat.lt_of_lt_of_le hk hw1.num
 refine GoesW.sub (F := 1) (by omega) (stop_load (g := gU0 E.Mu fr cs) (fnr := nU0 E.Mu fr cs) hE (bU0 E.Mu fr cs) (Run.last (aU0 E.Mu fr cs)) (fun v => (aU1 E.Mu fr cs v).head) hw1.j hk1 (by rw [hw1.wk, hx]; exact ha) fun σ₂ w₂ hw2 => ?_)
 generalize (σ₂.mx.word : Int) = v
 have hw12 := hw1.trans hw2
 refine GoesW.sub (F := 60) (by omega) (run0 cW_ok (aU1 E.Mu fr cs v) hw2.j (by rw [hw12.wk, hx]; exact ha) fun σ₃ w₃ hw3 => ?_)
 have hw13 := hw12.trans hw3
 refine GoesW.sub (F := 1) (by simp only [Nat.sub_sub]; omega) (stop_conv (v := fun σ => .int .i32 (σ.mx.word : Int)) hE (vU1 E.Mu fr cs v) (fun hJ => hJ.cellMu) (Run.last (aU1 E.Mu fr cs v)) (aU2 E.Mu fr cs v).head hw3.j (Nat.lt_of_lt_of_le hk hw13.num) (by rw [hw13.wk, hx]; exact ha) fun σ₄ w₄ hw4 => ?_)
 have hw14 := hw13.trans hw4
 refine GoesW.sub (F := 60) (by simp only [Nat.sub_sub]; omega) (run0 cW_ok (aU2 E.Mu fr cs v) hw4.j (by rw [hw14.wk, hx]; exact ha) fun σ₅ w₅ hw5 => ?_)
 have hw15 := hw14.trans hw5
 have hx5 : σ₅.wk k = x0.on .hd 0 := by rw [hw15.wk, hx]
 have hk5 : k < σ₅.num := Nat.lt_of_lt_of_le hk hw15.num
 refine GoesW.sub (F := 1) (by simp only [Nat.sub_sub]; omega) (stop_mark hE (fun w => step_markAt .releaseMerge (by simp) (bU2 E.Mu fr cs v) x63) (.rm _ (.inl rfl)) (Run.last (aU2 E.Mu fr cs v)) (aU3 E.Mu fr cs v).head hw5.j hk5 (by rw [hx5]; exact h7) (d := 0) (by rw [hx5]; rfl) fun σ₆ w₆ hw6 hK6 => ?_)
 have hx6 : (σ₆.lk k (σ₆.wk k).lk 0 σ₆.mx).wk k = x0.on .hd 0 := by rw [Gh.lk_wk, hw6.wk, hx5]; rfl
 have hK6 := hw15.keep.trans hK6
 have hk6 : k < (σ₆.lk k (σ₆.wk k).lk 0 σ₆.mx).num := Nat.lt_of_lt_of_le hk hK6.num
 generalize σ₆.lk k (σ₆.wk k).lk 0 σ₆.mx = τ6 at *
 refine GoesW.sub (F := 60) (by simp only [Nat.sub_sub]; omega) (run0 cW_ok (aU3 E.Mu fr cs v) hK6.j (by rw [hx6]; exact ha) fun σ₇ w₇ hw7 => ?_)
 have hx7 : σ₇.wk k = x0.on .hd 0 := by rw [hw7.wk, hx6]
 have hK7 := hK6.trans hw7.keep
 have hk7 : k < σ₇.num := Nat.lt_of_lt_of_le hk6 hw7.num
 refine GoesW.sub (F := 1) (by simp only [Nat.sub_sub]; omega) (stop_mark hE (fun w => step_mark .disable (by simp) (bU3 E.Mu fr cs v) x49) .dis (Run.last (aU3 E.Mu fr cs v)) (aU4 E.Mu fr cs v).head hw7.j hk7 (by rw [hx7]; exact h7) (d := 1) (by rw [hx7]; rfl) fun σ₈ w₈ hw8 hK8 => ?_)
 have hx8 : (σ₈.lk k (σ₈.wk k).lk 1 σ₈.mx).wk k = x0.on .hd 1 := by rw [Gh.lk_wk, hw8.wk, hx7]; rfl
 have hK8 := hK7.trans hK8
 have hk8 : k < (σ₈.lk k (σ₈.wk k).lk 1 σ₈.mx).num := Nat.lt_of_lt_of_le hk hK8.num
 generalize σ₈.lk k (σ₈.wk k).lk 1 σ₈.mx = τ8 at *
 refine GoesW.sub (F := 60) (by simp only [Nat.sub_sub]; omega) (run0 cW_ok (aU4 E.Mu fr cs v) hK8.j (by rw [hx8]; exact ha) fun σ₉ w₉ hw9 => ?_)
 have hx9 : σ₉.wk k = x0.on .hd 1 := by rw [hw9.wk, hx8]
 have hK9 := hK8.trans hw9.keep
 have hk9 : k < σ₉.num := Nat.lt_of_lt_of_le hk8 hw9.num
 obtain ⟨n', hn', hnn⟩ : ∃ n', n' + 1 = n - 60 - 1 - 60 - 1 - 60 - 1 - 60 - 1 - 60 /\ m + (p + 1) * 1000 + 500 <= n' := ⟨n - 60 - 1 - 60 - 1 - 60 - 1 - 60 - 1 - 60 - 1, by simp only [Nat.sub_sub]; omega, by simp only [Nat.sub_sub]; omega⟩
 rw [<- hn']
 clear hn' hn
 refine goW (Run.last (aU4 E.Mu fr cs v)) hk9 fun σ w hw hk10 => ?_
 have hx10 : σ.wk k = x0.on .hd 1 := by rw [hw.wk, hx9]
 have h710 : (σ.wk k).fin = 7 := by rw [hx10]; exact h7
 have hlk : (σ.wk k).lk = .hd := by rw [hx10]; rfl
 have hK10 := hK9.trans hw.keep
 have M := hw.j.inv.mx
 obtain ⟨z2, z3, z4, z5, z1⟩ := hw.j.inv.free1 hk10 hlk (.inr rfl)
 have z1 : σ.mx.L = 1 := z1
 have hst := step_add (P := Tryz.prog) (main := false) (bU4 E.Mu fr cs v) x64 hw.j.cellMu hw.j.thawMu
 have t6 : IntKind.i32.wrap ((σ.mx.word : Int) + -1) = (({ σ.mx with L := 0 } : Mx).word : Int) := by
  have e : (σ.mx.word : Int) = 1 := by unfold Mx.word; rw [z1, z2, z3, z4]; rfl
  rw [e]
  unfold Mx.word
  show IntKind.i32.wrap (1 + -1) = ((0 + 2 * σ.mx.W + 4 * σ.mx.S + 8 * σ.mx.N : Nat) : Int)
  rw [z2, z3, z4]
  decide
 rw [t6] at hst
 have hm' : ({ σ.mx with L := 0 } : Mx).sm = σ.mx.sm := rfl
 have hw0 : (({ σ.mx with L := 0 } : Mx).word : Int) = 0 := by
  unfold Mx.word
  show ((0 + 2 * σ.mx.W + 4 * σ.mx.S + 8 * σ.mx.N : Nat) : Int) = 0
  rw [z2, z3, z4]
  rfl
 obtain ⟨hMV, hpt⟩ := M.free (x := (σ.wk k).on .out 1) hk10 hlk rfl z3 (.inl z4)
 generalize hmm : ({ σ.mx with L := 0 } : Mx) = m' at *
 have TT : Turn E k σ w #[⟨.cell (muA E), false, true⟩, ⟨.cell (muA E), true, true⟩] (σ.lk k .out 1 m') (w.setCell (muA E) (.int .i32 (m'.word : Int))) :=
  Turn.lock hE hw.j hk10 h710 hMV (by rw [hx10]; exact npend_iff hwr (by simp) (by simp)) (.inl (by rw [hlk]; decide)) ⟨by omega, .inr (by omega)⟩
   (fun j hj hjn hd hs => by omega) (.set (.inl rfl)) (hw.j.four.setMu hE rfl hm')
   (fun e he => by
    simp only [List.mem_toArray, List.mem_cons, List.not_mem_nil, or_false] at he
    rcases he with rfl | rfl <;> exact .at_ _ _ (.inl rfl)) (by rw [hx10]; rfl)
 have hKT := hK10.trans (TT.keep hw.j)
 have hxT : (σ.lk k .out 1 m').wk k = x0.on .out 1 := by rw [Gh.lk_wk, hx10]; rfl
 have hkT : k < (σ.lk k .out 1 m').num := hk10
 have hpT : ∀ q, pot E.n σ <= q -> pot E.n (σ.lk k .out 1 m') + 1 <= q := by
  have h1 : pot E.n (σ.lk k .out 1 m') + 1 <= pot E.n σ := by
   unfold pot
   show pots σ.num (upd σ.wk k ((σ.wk k).on .out 1)) + m'.sm + 5 * (E.n - σ.nx) + 1 <= _
   omega
  exact fun q hq => by omega
 have hfin := hpT _ hK10.pot
 rw [hw0] at hst TT hKT
 refine ⟨_, _, _, _, hst, TT, (aU5 E.Mu fr cs v).head, no_wake (Nat.le_of_eq hm') rfl, ?_⟩
 clear hst TT
 show GW E k Stop n' (σ.lk k .out 1 m') _ (w.setCell (muA E) (.int .i32 0))
 generalize σ.lk k .out 1 m' = τ at *
 generalize w.setCell (muA E) (.int .i32 0) = wτ at *
 have cont' : ∀ σ' w', Keep E k τ wτ σ' w' -> σ'.wk k = x0.on .out 0 -> GW E k Stop m σ' (backD fr cs) w' := fun σ' w' hK' hx' => hcont σ' w' (hKT.trans hK') hx' (by have := hK'.pot; omega)
 show GW E k Stop n' τ (fin (gU4 E.Mu fr cs v) (.int .i32 0)) wτ
 refine GoesW.sub (F := 100) (by omega) (run0 cU_ok (aU5 E.Mu fr cs v) hKT.j (by rw [hxT]; exact ha) fun σ₁ w₁ hw1 => ?_)
 show GW E k Stop _ σ₁ (gU5 E.Mu fr cs v) w₁
 rw [hU5]
 exact uend_w hE h7 (m := m) (by omega) hw1.j (Nat.lt_of_lt_of_le hkT hw1.num) (by rw [hw1.wk, hxT]) fun σ' w' hK' hx' => cont' σ' w' (hw1.keep.trans hK') hx'
end
section
variable {E : Env} {P : Program} {k : Nat} {σ σ' : Gh} {w w' : World} {Stop : Gh -> Goroutine -> World -> Prop}
def Wk.paid (x : Wk) : Wk := { x with due := x.due - 1 }
def Gh.new (σ : Gh) (k : Nat) : Gh := { σ with wk := upd σ.wk k (σ.wk k).paid, hs := σ.hs + 1, pv := upd σ.pv σ.hs (k + 1) }
def World.more (w : World) (o : Obj) : World := { w with heap := w.heap.push o }
theorem more_old {w : World} {o : Obj} {b : Nat} (h : b < w.heap.size) : (World.more w o).heap[b]? = w.heap[b]? := by
 show (w.heap.push o)[b]? = _
 rw [Array.getElem?_push_lt h, Array.getElem?_eq_getElem h]
theorem more_new {w : World} {o : Obj} : (World.more w o).heap[w.heap.size]? = some o := Array.getElem?_push_size
theorem Inv.paid {n : Nat} (I : Inv n σ) (hk : k < σ.num) {hs : Nat} {pv : Nat -> Nat} (h : σ.hs <= hs) : Inv n { σ with wk := upd σ.wk k (σ.wk k).paid, hs := hs, pv := pv } := by
 have eqs : ∀ {β : Type} (φ : Wk -> β), φ (σ.wk k).paid = φ (σ.wk k) -> ∀ j, φ (upd σ.wk k (σ.wk k).paid j) = φ (σ.wk j) := fun φ h j => by
  by_cases e : j = k
  · subst e; rw [upd_same]; exact h
  · rw [upd_ne _ _ e]
 have e1 := eqs Wk.lk rfl
 have e2 := eqs Wk.fin rfl
 have e3 := eqs Wk.idx rfl
 have e4 := eqs Wk.low rfl
 have e5 := eqs Pend rfl
 refine ⟨I.mx.same rfl, ?_, fun j hj hl => ?_, fun i hi hx => ?_, fun i j hi hj p q => ?_, fun j hj p => ?_, I.wfut, fun j hj => ?_, fun j hj hf => I.all j hj ((eqs Away rfl j).mp hf), fun j hj => by rw [e4 j]; exact Nat.le_trans (I.low j hj) h, I.num, ?_⟩
 · have a1 : c5 σ.num (upd σ.wk k (σ.wk k).paid) = c5 σ.num σ.wk := sum_same (φ := fun z => if 5 <= z.fin then 1 else 0) rfl
   have a2 : c43 σ.num (upd σ.wk k (σ.wk k).paid) = c43 σ.num σ.wk := sum_same (φ := fun z => if z.fin = 4 \/ z.fin = 3 then 1 else 0) rfl
   have a3 : c2 σ.num (upd σ.wk k (σ.wk k).paid) = c2 σ.num σ.wk := sum_same (φ := fun z => if z.fin = 2 then 1 else 0) rfl
   show WInv _ _ _ (c5 σ.num (upd σ.wk k _)) (c43 σ.num (upd σ.wk k _)) (c2 σ.num (upd σ.wk k _))
   rw [a1, a2, a3]; exact I.wgi
 · show (upd σ.wk k _ j).fin = 7 /\ (upd σ.wk k _ j).idx < n /\ (upd σ.wk k _ j).idx < σ.nx
   rw [e2 j, e3 j]
   exact I.lkf j hj (by rw [<- e1 j]; exact hl)
 · rcases I.done i hi hx with h | ⟨j, a, b, c⟩
   · exact .inl h
   · exact .inr ⟨j, a, (e5 j).symm ▸ b, (e3 j).trans c⟩
 · exact I.uniq i j hi hj (by rw [<- e1 i]; exact p) (by rw [<- e1 j]; exact q)
 · show σ.writ (upd σ.wk k _ j).idx = false
   rw [e3 j]; exact I.pw j hj ((e5 j) ▸ p)
 · show 1 <= (upd σ.wk k _ j).fin /\ (upd σ.wk k _ j).fin <= 7
   rw [e2 j]; exact I.fin j hj
 · have : cgone σ.num (upd σ.wk k (σ.wk k).paid) = cgone σ.num σ.wk := sum_same (φ := fun z => if z.gone = true then 1 else 0) rfl
   show σ.nx <= n + cgone σ.num (upd σ.wk k _)
   rw [this]; exact I.nb
theorem J.baseLe (hE : E.Ok) (h : J E σ w) : E.base <= σ.hs := Nat.le_trans hE.lm (Nat.le_of_lt (h.hotLt (.inl rfl)))
theorem J.new (hE : E.Ok) (hJ : J E σ w) (hk : k < σ.num) (hd : 1 <= (σ.wk k).due) {oc : Array Value} {ot : TypeId} : J E (σ.new k) (World.more w (.cells oc ot)) := by
 have lt : ∀ {b}, E.Hot b -> b < w.heap.size := fun hb => by
  rw [hJ.size]
  rcases hb with hb | hb | hb | hb
  · exact hJ.hotLt (.inl hb)
  · exact hJ.hotLt (.inr (.inl hb))
  · exact hJ.hotLt (.inr (.inr hb))
  · rw [hb]; exact hJ.oLt
 have hdu := dues_upd (wk := σ.wk) hk (σ.wk k).paid
 have hpd : (σ.wk k).paid.due = (σ.wk k).due - 1 := rfl
 exact {
  inv := hJ.inv.paid hk (Nat.le_succ _)
  mu := by rw [more_old (lt (.inl rfl))]; exact hJ.mu
  nx := by rw [more_old (lt (.inr (.inl rfl)))]; exact hJ.nx
  wg := by rw [more_old (lt (.inr (.inr (.inl rfl))))]; exact hJ.wg
  o := by rw [more_old (lt (.inr (.inr (.inr rfl))))]; exact hJ.o
  old := fun b hb => by rw [more_old (by rw [hJ.size]; have := hJ.baseLe hE; omega)]; exact hJ.old b hb
  size := by show (w.heap.push _).size = σ.hs + 1; rw [Array.size_push, hJ.size]
  tape := hJ.tape
  output := hJ.output
  os := hJ.os
  acc := by
   have := hJ.acc
   show σ.hs + 1 + dues σ.num (upd σ.wk k _) + E.rest σ.nx + σ.dm = E.tot
   omega
  pv := fun b hb => by
   show b < σ.hs + 1 /\ E.base <= b /\ ¬ E.Hot b /\ upd σ.pv σ.hs (k + 1) b <= σ.num
   by_cases e : b = σ.hs
   · subst e
     rw [upd_same]
     exact ⟨by omega, hJ.baseLe hE, fun h => by have := lt h; rw [hJ.size] at this; omega, hk⟩
   · have hb : upd σ.pv σ.hs (k + 1) b ≠ 0 := hb
     rw [upd_ne _ _ e] at hb ⊢
     obtain ⟨p1, p2, p3, p4⟩ := hJ.pv b hb
     exact ⟨by omega, p2, p3, p4⟩
  rows := fun b h1 h2 => by
   have h3 : b < (w.heap.push (.cells oc ot)).size := h2
   rw [Array.size_push] at h3
   rcases Nat.lt_or_ge b w.heap.size with h | h
   · rw [more_old h]; exact hJ.rows b h1 h
   · obtain rfl : b = w.heap.size := by omega
     exact ⟨_, _, more_new⟩ }
theorem DW.new (hE : E.Ok) (hJ : J E σ w) (hk : k < σ.num) (ha : (σ.wk k).fin = 7) (hd : 1 <= (σ.wk k).due) {oc : Array Value} {ot : TypeId} {g g' : Goroutine} (hr : g'.status = .running) : DW E P k σ w g #[] (σ.new k) (World.more w (.cells oc ot)) g' where
 j := hJ.new hE hk hd
 own j hj := upd_ne _ _ hj
 num := rfl
 ms := rfl
 mdf := rfl
 dm := rfl
 hs := Nat.le_succ _
 pv b hb := upd_ne _ _ (by omega)
 pvn b hb hp := by
  by_cases e : b = σ.hs
  · subst e; exact upd_same _ _ _
  · have hp : upd σ.pv σ.hs (k + 1) b ≠ 0 := hp
    rw [upd_ne _ _ e] at hp
    have := (hJ.pv b hp).1
    omega
 low := by show (upd σ.wk k _ k).low = _; rw [upd_same]; rfl
 mem b hb _ _ := more_old (by rw [hJ.size]; exact hb)
 pot := by
  have : Wp.pot E.n (σ.new k) = Wp.pot E.n σ := by
   unfold Wp.pot
   show pots σ.num (upd σ.wk k _) + σ.mx.sm + 5 * (E.n - σ.nx) = _
   rw [pots_same (x := (σ.wk k).paid) rfl]
  exact ⟨Nat.le_of_eq this, .inl rfl⟩
 dd _ _ _ _ h := ⟨h, Nat.le_refl _⟩
 cnt := by
  show c5 σ.num (upd σ.wk k _) <= _
  exact c5_le hk id
 alive := by rw [ha]; decide
 run := hr
 df := by show _ = (upd σ.wk k _ k).df; rw [upd_same]; rfl
 wake := ⟨fun a b => by have : (σ.new k).mx.sm = σ.mx.sm := rfl; omega, fun a b => by have : (σ.new k).ws = σ.ws := rfl; omega⟩
 writ _ h := h
 ev e he := by simp at he
 rel h := by
  have h : (upd σ.wk k (σ.wk k).paid k).fin <= 6 := h
  rw [upd_same] at h
  have h : (σ.wk k).fin <= 6 := h
  omega
theorem Keep.new (hE : E.Ok) (hJ : J E σ w) (hk : k < σ.num) (hd : 1 <= (σ.wk k).due) {oc : Array Value} {ot : TypeId} : Keep E k σ w (σ.new k) (World.more w (.cells oc ot)) := by
 refine ⟨hJ.new hE hk hd, Nat.le_refl _, by show (upd σ.wk k _ k).low = _; rw [upd_same]; rfl, Nat.le_succ _, fun b hb => upd_ne _ _ (by omega), fun b hb _ => more_old (by rw [hJ.size]; exact hb), ?_⟩
 unfold Wp.pot
 show pots σ.num (upd σ.wk k _) + σ.mx.sm + 5 * (E.n - σ.nx) <= _
 rw [pots_same (x := (σ.wk k).paid) rfl]
 exact Nat.le_refl _
theorem stop_new (hE : E.Ok) {m : Nat} {g : Goroutine} {vs : Array Value} {t : TypeId} (hg : isNew P g = some (vs, t)) (hr : isRun g = true) (hr' : ∀ v, isRun (fin g v) = true) (hJ : J E σ w) (hk : k < σ.num) (h7 : (σ.wk k).fin = 7) (hd : 1 <= (σ.wk k).due)
  (h : ∀ σ₁ w₁ (b : Nat), Keep E k σ w σ₁ w₁ -> σ₁.wk k = (σ.wk k).paid -> σ.hs <= b -> b < σ₁.hs -> σ₁.pv b = k + 1 -> w₁.heap[b]? = some (.cells vs t) -> GoesW P (proto E P) (k + 1) Stop m σ₁ (fin g (.pointer (some ⟨b, 0, none⟩))) w₁) : GoesW P (proto E P) (k + 1) Stop (m + 1) σ g w :=
 stepW hr fun σ₁ w₁ hw => by
  have hk1 : k < σ₁.num := Nat.lt_of_lt_of_le hk hw.num
  have hd1 : 1 <= (σ₁.wk k).due := by rw [hw.wk]; exact hd
  have hs := hw.j.size
  refine ⟨_, World.more w₁ (.cells vs t), #[], σ₁.new k, step_new hg, DW.new hE hw.j hk1 (by rw [hw.wk]; exact h7) hd1 (isRun_out (hr' _)).1, ?_⟩
  refine h (σ₁.new k) _ w₁.heap.size (hw.keep.trans (Keep.new hE hw.j hk1 hd1)) ?_ (by rw [hs]; exact hw.hs) (by rw [hs]; exact Nat.lt_succ_self _) ?_ more_new
  · show upd σ₁.wk k _ k = _
    rw [upd_same, hw.wk]
  · show upd σ₁.pv σ₁.hs (k + 1) w₁.heap.size = k + 1
    rw [hs, upd_same]
def World.row (w : World) (b : Nat) (vs : Array Value) (t : TypeId) : World := { w with heap := w.heap.setIfInBounds b (.cells vs t) }
theorem row_ne {b b' : Nat} {vs : Array Value} {t : TypeId} (h : b' ≠ b) : (World.row w b vs t).heap[b']? = w.heap[b']? := by
 simp [World.row, Array.getElem?_setIfInBounds_ne (Ne.symm h)]
theorem row_same {b : Nat} {vs : Array Value} {t : TypeId} (h : b < w.heap.size) : (World.row w b vs t).heap[b]? = some (.cells vs t) := by
 simp [World.row, h]
theorem J.row (hE : E.Ok) (hJ : J E σ w) {b : Nat} (hp : σ.pv b ≠ 0) {vs : Array Value} {t : TypeId} : J E σ (World.row w b vs t) := by
 obtain ⟨p1, p2, p3, p4⟩ := hJ.pv b hp
 have ne : ∀ {b'}, E.Hot b' -> b' ≠ b := fun h e => p3 (e ▸ h)
 exact {
  inv := hJ.inv
  mu := by rw [row_ne (ne (.inl rfl))]; exact hJ.mu
  nx := by rw [row_ne (ne (.inr (.inl rfl)))]; exact hJ.nx
  wg := by rw [row_ne (ne (.inr (.inr (.inl rfl))))]; exact hJ.wg
  o := by rw [row_ne (ne (.inr (.inr (.inr rfl))))]; exact hJ.o
  old := fun b' hb => by rw [row_ne (by omega)]; exact hJ.old b' hb
  size := by show (w.heap.setIfInBounds b _).size = _; rw [Array.size_setIfInBounds]; exact hJ.size
  tape := hJ.tape
  output := hJ.output
  os := hJ.os
  acc := hJ.acc
  pv := hJ.pv
  rows := fun b' h1 h2 => by
   have h3 : b' < (w.heap.setIfInBounds b (.cells vs t)).size := h2
   rw [Array.size_setIfInBounds] at h3
   by_cases e : b' = b
   · rw [e] at h3 ⊢; exact ⟨_, _, row_same h3⟩
   · rw [row_ne e]; exact hJ.rows b' h1 h3 }
theorem Keep.row (hE : E.Ok) {σ₁ : Gh} {w₁ : World} (hK : Keep E k σ w σ₁ w₁) {b : Nat} (hb : σ.hs <= b) (hp : σ₁.pv b = k + 1) {vs : Array Value} {t : TypeId} : Keep E k σ w σ₁ (World.row w₁ b vs t) :=
 ⟨hK.j.row hE (by omega), hK.num, hK.low, hK.hs, hK.pv, fun b' hb' hc => by rw [row_ne (by omega)]; exact hK.mem b' hb' hc, hK.pot⟩
theorem DW.row (hE : E.Ok) (hJ : J E σ w) (h7 : (σ.wk k).fin = 7) {b : Nat} (hp : σ.pv b = k + 1) {vs : Array Value} {t : TypeId} {es : Array Event} (hes : ∀ e ∈ es, ∃ off x, e = ⟨.cell ⟨b, off, none⟩, x, false⟩) {g g' : Goroutine} (hr : g'.status = .running) : DW E P k σ w g es σ (World.row w b vs t) g' := by
 have hd : DW E P k σ w g #[] σ w g' := DW.quiet hJ (by rw [h7]; decide) hr
 have hdf : ∀ (l : List Event) (d : Nat), (∀ e ∈ l, ∃ off x, e = (⟨.cell ⟨b, off, none⟩, x, false⟩ : Event)) -> l.foldl (fun d e => match e.loc with | .mark .disable => d + 1 | .mark .enable => d - 1 | _ => d) d = d := by
  intro l
  induction l with
  | nil => intro d _; rfl
  | cons e l ih =>
   intro d h
   obtain ⟨off, x, rfl⟩ := h e (List.mem_cons_self ..)
   exact ih d fun e he => h e (List.mem_cons_of_mem _ he)
 refine ⟨hJ.row hE (by omega), fun _ _ => rfl, rfl, rfl, rfl, rfl, Nat.le_refl _, fun _ _ => rfl, hd.pvn, rfl, fun b' hb' _ hne => row_ne (fun e => hne (e ▸ hp)), hd.pot, hd.dd, hd.cnt, hd.alive, hr, ?_, hd.wake, fun _ h => h, fun e he => ?_, fun h => absurd h (by omega)⟩
 · unfold deafBehind
   rw [<- Array.foldl_toList]
   exact hdf es.toList _ fun e he => hes e (by simpa using he)
 · obtain ⟨off, x, rfl⟩ := hes e he
   exact ⟨by simp, (hJ.pv b (by omega)).1, fun y hy => by
    simp only [MemAct.ofEvent, MemAct.touch?, Option.some.injEq] at hy
    subst hy
    exact .inr (.inr (.inr ⟨rfl, _, rfl, hp⟩))⟩
theorem step_call {main : Bool} {f : FuncId} {g : Goroutine} {vs : List Value} {fn : Func} {c : Code} (h : isCall f g = some vs) (hf : P.funcs[f]? = some fn) (hn : (fn.name == "runtime.NumGoroutine") = false) (hb : fn.body = some c) (w : World) : stepG P main g w = .go (enter P f vs.toArray (g.frame :: g.callers)) w #[] := by
 obtain ⟨b, a, ops, i, rest, kk, cs, o, xs, ats, h1, h2, h3, h4, h5, h6, h7, h8⟩ := of_isCall h
 have hb' : fn.body.isNone = false := by rw [hb]; rfl
 have hr := run_call_body (a := a) (w := w) h5 hf hn hb'
 have he : listed P b.fn a o w = #[] := by unfold listed; rw [events_call_body h5 hf hn hb']; exact seen_none P _
 rw [h1, stepG_enter h2 h3 h4 hr, he, h6]
 rfl
end
noncomputable def xCall (f : FuncId) (g : Goroutine) : Bool := match headO g with
 | some o => match o.op with
  | .call { callee := .value (.func f'), .. } => f' == f
  | _ => false
 | none => false
noncomputable def xDst (f : FuncId) (d : Nat) (g : Goroutine) : Bool := g.frame.fn == f && (match dstR g with | some d' => d' == d | none => false)
noncomputable def xHeadM (g : Goroutine) : Bool := match g.frame.todo with
 | .code (.seq (.seq _ _) _) :: .inLoop _ :: _ => g.frame.fn == 114
 | _ => false
abbrev MM : Int := 2305843009213693951
def mx2 (x : Int) : Int := (IntKind.i64.wrap (2 * x)).tmod MM
def madd (a x : Int) : Int := (IntKind.i64.wrap (a + x)).tmod MM
noncomputable def vMul (y : Int) (b o : Bool) (f : FuncId) (d : Nat) : Option (Value × Value) :=
 bif f == 114 && d == 7 then some (.bool b, .bool (decide (y > 0))) else
 bif f == 114 && d == 12 then some (.bool o, .bool (bits .and .i64 y 1 == 1)) else none
noncomputable def cM (y : Int) (b o : Bool) : Par := { V := vMul y b o, X := xHeadM }
theorem cM_ok {y : Int} {b o : Bool} (h1 : decide (y > 0) = b) (h2 : (bits .and .i64 y 1 == 1) = o) : (cM y b o).Ok := fun f d z hz => by
 have hz : vMul y b o f d = some z := hz
 unfold vMul at hz
 cases e1 : (f == 114 && d == 7) with
 | true => rw [e1, cond_true] at hz; cases hz; simp only [h1]
 | false =>
  rw [e1, cond_false] at hz
  cases e2 : (f == 114 && d == 12) with
  | true => rw [e2, cond_true] at hz; cases hz; simp only [h2]
  | false => rw [e2, cond_false] at hz; cases hz
noncomputable def cX (X : Goroutine -> Bool) : Par := { X := X }
theorem cX_ok (X : Goroutine -> Bool) : (cX X).Ok := fun f d x h => by cases h
variable (fr : Frame) (cs : List Frame)
section
variable (J : Nat -> Value) (x y a : Int)
noncomputable def gM0 : Goroutine := endR Tryz.prog (cX xHeadM) 60 (enter Tryz.prog 114 #[.int .i64 x, .int .i64 y] (fr :: cs))
theorem aM0 : Run Tryz.prog (cX xHeadM) 60 (enter Tryz.prog 114 #[.int .i64 x, .int .i64 y] (fr :: cs)) := ⟨fun w => by kernel_rfl, by kernel_rfl⟩
def tmMS : Array Value := ((List.range 21).map fun i => if i = 0 then .int .i64 x else if i = 1 then .int .i64 y else if i = 5 then .int .i64 a else J i).toArray
noncomputable def MLS : Goroutine := { gM0 fr cs 0 0 with frame := { (gM0 fr cs 0 0).frame with tmps := tmMS J x y a } }
theorem hM0 : gM0 fr cs x y = MLS fr cs (junk (gM0 fr cs x y)) x y 0 := by kernel_rfl
noncomputable def gM1 : Goroutine := nextQ Tryz.prog false (MLS fr cs J x y a)
theorem eM1 (w : World) : stepG Tryz.prog false (MLS fr cs J x y a) w = .go (gM1 fr cs J x y a) w #[] := by kernel_rfl
theorem rM : isRun (MLS fr cs J x y a) = true := by kernel_rfl
noncomputable def gM2 (b o : Bool) : Goroutine := endR Tryz.prog (cM y b o) 60 (gM1 fr cs J x y a)
theorem aM2 (o : Bool) : Run Tryz.prog (cM y true o) 60 (gM1 fr cs J x y a) := by cases o <;> exact ⟨fun w => by kernel_rfl, by kernel_rfl⟩
theorem hM2 (o : Bool) : gM2 fr cs J x y a true o = MLS fr cs (junk (gM2 fr cs J x y a true o)) (mx2 x) (y.fdiv 2) (bif o then madd a x else a) := by cases o <;> kernel_rfl
noncomputable def cMe (y : Int) : Par := { V := fun f d => bif f == 114 && d == 7 then some (.bool false, .bool (decide (y > 0))) else none, X := xLeave 114 }
noncomputable def gM3 : Goroutine := endR Tryz.prog (cMe y) 60 (gM1 fr cs J x y a)
theorem aM3 : Run Tryz.prog (cMe y) 60 (gM1 fr cs J x y a) := ⟨fun w => by kernel_rfl, by kernel_rfl⟩
theorem eM3 (w : World) : stepG Tryz.prog false (gM3 fr cs J x y a) w = .go (back fr cs (.int .i64 a)) w #[] := by kernel_rfl
theorem rM3 : isRun (gM3 fr cs J x y a) = true := by kernel_rfl
end
theorem cMe_ok {y : Int} (h1 : decide (y > 0) = false) : (cMe y).Ok := fun f d z hz => by
 have hz : (bif f == 114 && d == 7 then some (Value.bool false, Value.bool (decide (y > 0))) else none) = some z := hz
 cases e1 : (f == 114 && d == 7) with
 | true => rw [e1, cond_true] at hz; cases hz; simp only [h1]
 | false => rw [e1, cond_false] at hz; cases hz
def allGo (m : Region.Mode) (ops : Array Oper) : Nat -> Array Bool -> List Nat -> List (List Nat)
 | 0, _, acc => [acc.reverse]
 | n + 1, listed, acc =>
  match (List.range ops.size).filter fun i => !listed.getD i true && ((ops[i]?).map (·.after.all fun e => !Region.binds m e || listed.getD e.on false)).getD false with
  | [] => [acc.reverse]
  | r :: rs => (r :: rs).flatMap fun i => allGo m ops n (listed.setIfInBounds i true) (i :: acc)
theorem go_mem (m : Region.Mode) (ops : Array Oper) : ∀ (n t : Nat) (listed : Array Bool) (acc : List Nat), Region.linearise.go m ops n t listed acc ∈ allGo m ops n listed acc
 | 0, _, _, _ => by simp [Region.linearise.go, allGo]
 | n + 1, t, listed, acc => by
  unfold Region.linearise.go allGo
  simp only
  generalize ((List.range ops.size).filter fun i => !listed.getD i true && ((ops[i]?).map (·.after.all fun e => !Region.binds m e || listed.getD e.on false)).getD false) = rs
  cases rs with
  | nil => simp
  | cons r rs =>
   have hlt : t % (r :: rs).length < (r :: rs).length := Nat.mod_lt _ (by simp)
   rw [List.getElem?_eq_getElem hlt]
   simp only
   exact List.mem_flatMap.2 ⟨_, List.getElem_mem hlt, go_mem m ops n _ _ _⟩
def orders (mixed : Bool) (ops : Array Oper) : List (List Nat) :=
 bif mixed || !Region.departs ops then allGo .any ops ops.size (Array.replicate ops.size false) []
 else allGo .text ops ops.size (Array.replicate ops.size false) [] ++ allGo .gc ops ops.size (Array.replicate ops.size false) []
theorem schedule_mem (mixed : Bool) (ops : Array Oper) (t : Nat) : Region.schedule mixed ops t ∈ orders mixed ops := by
 unfold Region.schedule orders
 cases h : (mixed || !Region.departs ops) with
 | true => simp only [if_true, cond_true]; exact go_mem _ _ _ _ _ _
 | false =>
  simp only [Bool.false_eq_true, if_false, cond_false]
  unfold Region.linearise
  split
  · exact List.mem_append.2 (.inl (go_mem _ _ _ _ _ _))
  · exact List.mem_append.2 (.inr (go_mem _ _ _ _ _ _))
def isDraw (g : Goroutine) : Option (Nat × Array Oper × List Item) := match g.frame.todo with
 | .code (.region id ops true) :: k => some (id, ops, k)
 | _ => none
def inOrd (g : Goroutine) (ops : Array Oper) (k : List Item) (o : List Nat) : Goroutine := { g with frame := { g.frame with todo := .inRegion ops o :: k } }
section
variable (a b f : Int) (B : Nat)
noncomputable def gN0 : Goroutine := endR Tryz.prog cW 60 (enter Tryz.prog 101 #[.agg #[.int .i64 a, .int .i64 b], .int .i64 f] (fr :: cs))
theorem aN0 : Run Tryz.prog cW 60 (enter Tryz.prog 101 #[.agg #[.int .i64 a, .int .i64 b], .int .i64 f] (fr :: cs)) := ⟨fun w => by kernel_rfl, by kernel_rfl⟩
theorem bN0 : isNew Tryz.prog (gN0 fr cs a b f) = some (#[.int .i64 a, .int .i64 b], 145) := by kernel_rfl
noncomputable def gN1 : Goroutine := endR Tryz.prog cW 60 (fin (gN0 fr cs a b f) (.pointer (some ⟨B, 0, none⟩)))
theorem aN1 : Run Tryz.prog cW 60 (fin (gN0 fr cs a b f) (.pointer (some ⟨B, 0, none⟩))) := ⟨fun w => by kernel_rfl, by kernel_rfl⟩
noncomputable def opsN : Array Oper := match isDraw (gN1 default [] 0 0 0 0) with | some x => x.2.1 | none => #[]
noncomputable def kN : List Item := match isDraw (gN1 default [] 0 0 0 0) with | some x => x.2.2 | none => []
noncomputable def idN : Nat := match isDraw (gN1 default [] 0 0 0 0) with | some x => x.1 | none => 0
noncomputable def oN : Orc := fun fn d => bif fn == 101 then some (.int .i64 (bif d == 6 then a else b)) else none
noncomputable def cN : Par := { O := oN a b, X := xCall 114 }
noncomputable def cN' : Par := { O := oN a b, X := xLeave 101 }
noncomputable def ordN : List (List Nat) := orders (Tryz.prog.follows .mixedOrders) opsN
noncomputable def ldN (i : Nat) : Option (FuncId × Addr × Value) := match i with
 | 1 => some (101, ⟨B, 0, none⟩, .int .i64 a)
 | 5 => some (101, ⟨B, 1, none⟩, .int .i64 b)
 | _ => none
noncomputable def gN2 (o : List Nat) : Goroutine := endR Tryz.prog (cN a b) 40 (inOrd (gN1 fr cs a b f B) opsN kN o)
noncomputable def gN3 (o : List Nat) (r : Int) : Goroutine := endR Tryz.prog (cN' a b) 40 (fin (gN2 fr cs a b f B o) (.int .i64 r))
theorem aN2s (w : World) : ordN.map (fun o => seqR Tryz.prog (cN a b) 40 (inOrd (gN1 fr cs a b f B) opsN kN o) w) = ordN.map (fun o => expR Tryz.prog (cN a b) 40 (inOrd (gN1 fr cs a b f B) opsN kN o) w) := by kernel_rfl
theorem aN2o : ordN.map (fun o => (okR Tryz.prog (cN a b) 40 (inOrd (gN1 fr cs a b f B) opsN kN o), isCall 114 (gN2 fr cs a b f B o), ldsR Tryz.prog (cN a b) 40 (inOrd (gN1 fr cs a b f B) opsN kN o))) = ordN.map (fun o => (true, some [Value.int .i64 a, .int .i64 f], (o.takeWhile (· != 3)).filterMap (ldN a b B))) := by kernel_rfl
theorem aN3s (r : Int) (w : World) : ordN.map (fun o => seqR Tryz.prog (cN' a b) 40 (fin (gN2 fr cs a b f B o) (.int .i64 r)) w) = ordN.map (fun o => expR Tryz.prog (cN' a b) 40 (fin (gN2 fr cs a b f B o) (.int .i64 r)) w) := by kernel_rfl
theorem aN3o (r : Int) (w : World) : ordN.map (fun o => (okR Tryz.prog (cN' a b) 40 (fin (gN2 fr cs a b f B o) (.int .i64 r)), isRun (gN3 fr cs a b f B o r), ldsR Tryz.prog (cN' a b) 40 (fin (gN2 fr cs a b f B o) (.int .i64 r)), stepG Tryz.prog false (gN3 fr cs a b f B o r) w)) = ordN.map (fun o => (true, true, (o.dropWhile (· != 3)).filterMap (ldN a b B), .go (back fr cs (.int .i64 (madd r b))) w #[])) := by kernel_rfl
end
section
variable (x y : Int)
noncomputable def gP0' : Goroutine := endR Tryz.prog (cX (xCall 101)) 60 (enter Tryz.prog 79 #[.int .i64 x, .int .i64 y] (fr :: cs))
theorem aPp0 : Run Tryz.prog (cX (xCall 101)) 60 (enter Tryz.prog 79 #[.int .i64 x, .int .i64 y] (fr :: cs)) := ⟨fun w => by kernel_rfl, by kernel_rfl⟩
theorem bPp0 : isCall 101 (gP0' fr cs x y) = some [.agg #[.int .i64 y, .int .i64 7], .int .i64 31] := by kernel_rfl
noncomputable def gP1' (r : Int) : Goroutine := endR Tryz.prog (cX (xCall 101)) 60 (fin (gP0' fr cs x y) (.int .i64 r))
theorem aPp1 (r : Int) : Run Tryz.prog (cX (xCall 101)) 60 (fin (gP0' fr cs x y) (.int .i64 r)) := ⟨fun w => by kernel_rfl, by kernel_rfl⟩
theorem bPp1 (r : Int) : isCall 101 (gP1' fr cs x y r) = some [.agg #[.int .i64 x, .int .i64 r], .int .i64 1000003] := by kernel_rfl
noncomputable def gP2' (r r2 : Int) : Goroutine := endR Tryz.prog (cX (xLeave 79)) 60 (fin (gP1' fr cs x y r) (.int .i64 r2))
theorem aPp2 (r r2 : Int) : Run Tryz.prog (cX (xLeave 79)) 60 (fin (gP1' fr cs x y r) (.int .i64 r2)) := ⟨fun w => by kernel_rfl, by kernel_rfl⟩
theorem ePp2 (r r2 : Int) (w : World) : stepG Tryz.prog false (gP2' fr cs x y r r2) w = .go (back fr cs (.int .i64 r2)) w #[] := by kernel_rfl
theorem rPp2 (r r2 : Int) : isRun (gP2' fr cs x y r r2) = true := by kernel_rfl
end
def isStore2 (P : Program) (g : Goroutine) : Option (Addr × Value × Value) := match headO g with
 | some o => match o.op with
  | .store t x y => match g.frame.eval x, (P.info? t).map (·.size), g.frame.eval y with
   | .pointer (some ad), some 2, .agg ⟨[v1, v2]⟩ => bif v1.oneCell' && v2.oneCell' then some (ad, v1, v2) else none
   | _, _, _ => none
  | _ => none
 | none => none
section
variable (x y r : Int) (B : Nat)
noncomputable def vIs (x : Int) (f : FuncId) (d : Nat) : Option (Value × Value) :=
 bif f == 78 && d == 4 then some (.bool true, .bool (decide (x ≥ 0))) else bif f == 78 && d == 7 then some (.bool true, .bool (decide (x < MM))) else none
noncomputable def cIs (x : Int) (X : Goroutine -> Bool) : Par := { V := vIs x, X := X }
theorem cIs_ok {x : Int} (X : Goroutine -> Bool) (h1 : 0 <= x) (h2 : x < MM) : (cIs x X).Ok := fun f d z hz => by
 have hz : vIs x f d = some z := hz
 unfold vIs at hz
 cases e1 : (f == 78 && d == 4) with
 | true => rw [e1, cond_true] at hz; cases hz; simp only [ge_iff_le, h1, decide_true]
 | false =>
  rw [e1, cond_false] at hz
  cases e2 : (f == 78 && d == 7) with
  | true => rw [e2, cond_true] at hz; cases hz; simp only [h2, decide_true]
  | false => rw [e2, cond_false] at hz; cases hz
noncomputable def gQ0' : Goroutine := endR Tryz.prog cW 60 (enter Tryz.prog 50 #[.int .i64 x, .int .i64 y] (fr :: cs))
theorem aQp0 : Run Tryz.prog cW 60 (enter Tryz.prog 50 #[.int .i64 x, .int .i64 y] (fr :: cs)) := ⟨fun w => by kernel_rfl, by kernel_rfl⟩
theorem bQp0 : isNew Tryz.prog (gQ0' fr cs x y) = some (#[.int .i64 0, .int .i64 0], 25) := by kernel_rfl
noncomputable def gQ1' : Goroutine := endR Tryz.prog (cIs x (xDst 50 17)) 100 (fin (gQ0' fr cs x y) (.pointer (some ⟨B, 0, none⟩)))
theorem aQp1 : Run Tryz.prog (cIs x (xDst 50 17)) 100 (fin (gQ0' fr cs x y) (.pointer (some ⟨B, 0, none⟩))) := ⟨fun w => by kernel_rfl, by kernel_rfl⟩
noncomputable def gQ2' : Goroutine := endR Tryz.prog (cIs y (xCall 79)) 150 (gQ1' fr cs x y B)
theorem aQp2 : Run Tryz.prog (cIs y (xCall 79)) 150 (gQ1' fr cs x y B) := ⟨fun w => by kernel_rfl, by kernel_rfl⟩
theorem bQp2 : isCall 79 (gQ2' fr cs x y B) = some [.int .i64 x, .int .i64 y] := by kernel_rfl
noncomputable def gQ3' : Goroutine := endR Tryz.prog cW 60 (fin (gQ2' fr cs x y B) (.int .i64 r))
theorem aQp3 : Run Tryz.prog cW 60 (fin (gQ2' fr cs x y B) (.int .i64 r)) := ⟨fun w => by kernel_rfl, by kernel_rfl⟩
theorem bQp3 : isStore2 Tryz.prog (gQ3' fr cs x y r B) = some (⟨B, 0, none⟩, .int .i64 0, .int .i64 0) := by kernel_rfl
noncomputable def gQ4' : Goroutine := endR Tryz.prog cW 60 (fin (gQ3' fr cs x y r B) undef)
theorem aQp4 : Run Tryz.prog cW 60 (fin (gQ3' fr cs x y r B) undef) := ⟨fun w => by kernel_rfl, by kernel_rfl⟩
theorem rQp4 : isRun (gQ4' fr cs x y r B) = true := by kernel_rfl
end
noncomputable def xHeadF (g : Goroutine) : Bool := match g.frame.todo with
 | .code (.seq (.region ..) _) :: .inLoop _ :: _ => g.frame.fn == 48
 | _ => false
def isIdx (P : Program) (g : Goroutine) : Option (Addr × Nat × Int × Nat) := match headO g with
 | some o => match o.op with
  | .indexAddr t x i => match P.underlying t, g.frame.eval x, g.frame.eval i with
   | some (.slice e), .slice (some ad) n _, .int _ j => (P.info? e).map fun inf => (ad, n, j, inf.size)
   | _, _, _ => none
  | _ => none
 | none => none
section
variable (J : Nat -> Value) (p : Option Addr) (n c : Nat) (i a : Int)
noncomputable def gF0' : Goroutine := endR Tryz.prog (cX xHeadF) 60 (enter Tryz.prog 48 #[.slice p n c] (fr :: cs))
theorem aFp0 : Run Tryz.prog (cX xHeadF) 60 (enter Tryz.prog 48 #[.slice p n c] (fr :: cs)) := ⟨fun w => by kernel_rfl, by kernel_rfl⟩
def tmFS : Array Value := ((List.range 20).map fun j => if j = 3 then .int .i64 a else if j = 6 then .slice p n c else if j = 7 then .int .i64 (n : Int) else if j = 8 then .int .i64 i else J j).toArray
noncomputable def FLS : Goroutine := { frame := { (gF0' fr cs none 0 0).frame with tmps := tmFS J p n c i a }, callers := fr :: cs, status := .running, dying := none }
theorem hFp0 : gF0' fr cs p n c = FLS fr cs (junk (gF0' fr cs p n c)) p n c 0 0 := by kernel_rfl
noncomputable def gF1' : Goroutine := nextQ Tryz.prog false (FLS fr cs J p n c i a)
theorem eFp1 (w : World) : stepG Tryz.prog false (FLS fr cs J p n c i a) w = .go (gF1' fr cs J p n c i a) w #[] := by kernel_rfl
theorem rFp : isRun (FLS fr cs J p n c i a) = true := by kernel_rfl
noncomputable def vF (b : Bool) (f : FuncId) (d : Nat) : Option (Value × Value) := bif f == 48 && d == 9 then some (.bool b, .bool (decide (i < (n : Int)))) else none
noncomputable def cF (b : Bool) (X : Goroutine -> Bool) : Par := { V := vF n i b, X := X }
theorem cF_ok {n : Nat} {i : Int} {b : Bool} (X : Goroutine -> Bool) (h : decide (i < (n : Int)) = b) : (cF n i b X).Ok := fun f d z hz => by
 have hz : vF n i b f d = some z := hz
 unfold vF at hz
 cases e1 : (f == 48 && d == 9) with
 | true => rw [e1, cond_true] at hz; cases hz; simp only [h]
 | false => rw [e1, cond_false] at hz; cases hz
noncomputable def gF2' : Goroutine := endR Tryz.prog (cF n i true (xDst 48 10)) 60 (gF1' fr cs J p n c i a)
theorem aFp2 : Run Tryz.prog (cF n i true (xDst 48 10)) 60 (gF1' fr cs J p n c i a) := ⟨fun w => by kernel_rfl, by kernel_rfl⟩
theorem bFp2 (ad : Addr) : isIdx Tryz.prog (gF2' fr cs J (some ad) n c i a) = some (ad, n, i, 1) := by kernel_rfl
theorem rFp2 (ad : Addr) : isRun (gF2' fr cs J (some ad) n c i a) = true := by kernel_rfl
noncomputable def oF (v : Int) : Orc := fun fn _ => bif fn == 48 then some (.int .i64 v) else none
noncomputable def cFo (v : Int) : Par := { O := oF v, X := xCall 50 }
noncomputable def gF3' (ad : Addr) (v : Int) : Goroutine := endR Tryz.prog (cFo v) 60 (fin (gF2' fr cs J p n c i a) (.pointer (some ad)))
theorem aFp3 (ad : Addr) (v : Int) : Run Tryz.prog (cFo v) 60 (fin (gF2' fr cs J p n c i a) (.pointer (some ad))) := ⟨fun w => by kernel_rfl, by kernel_rfl⟩
theorem bFp3 (ad : Addr) (v : Int) : isCall 50 (gF3' fr cs J p n c i a ad v) = some [.int .i64 a, .int .i64 v] := by kernel_rfl
theorem lFp3 (ad : Addr) (v : Int) : ldsR Tryz.prog (cFo v) 60 (fin (gF2' fr cs J p n c i a) (.pointer (some ad))) = [(48, ad, .int .i64 v)] := by kernel_rfl
noncomputable def gF4' (ad : Addr) (v r : Int) : Goroutine := endR Tryz.prog (cX xHeadF) 60 (fin (gF3' fr cs J p n c i a ad v) (.tuple #[.int .i64 r, .agg #[.int .i64 0, .int .i64 0]]))
theorem aFp4 (ad : Addr) (v r : Int) : Run Tryz.prog (cX xHeadF) 60 (fin (gF3' fr cs J p n c i a ad v) (.tuple #[.int .i64 r, .agg #[.int .i64 0, .int .i64 0]])) := ⟨fun w => by kernel_rfl, by kernel_rfl⟩
theorem hFp4 (ad : Addr) (v r : Int) : gF4' fr cs J p n c i a ad v r = FLS fr cs (junk (gF4' fr cs J p n c i a ad v r)) p n c (IntKind.i64.wrap (i + 1)) r := by kernel_rfl
noncomputable def gF5' : Goroutine := endR Tryz.prog (cF n i false (xLeave 48)) 60 (gF1' fr cs J p n c i a)
theorem aFp5 : Run Tryz.prog (cF n i false (xLeave 48)) 60 (gF1' fr cs J p n c i a) := ⟨fun w => by kernel_rfl, by kernel_rfl⟩
theorem eFp5 (w : World) : stepG Tryz.prog false (gF5' fr cs J p n c i a) w = .go (back fr cs (.int .i64 a)) w #[] := by kernel_rfl
theorem rFp5 : isRun (gF5' fr cs J p n c i a) = true := by kernel_rfl
end
end Wp
end Go.Proofs.YtnpjonhoihbaeaaGreat
namespace Go.Proofs.YtnpjonhoihbaeaaGreat
open Go.Conc
open Go.ConcN (sumTo upd sumTo_upd upd_ne upd_same sumTo_congr RelBy)
namespace Wp
set_option maxRecDepth 100000
section
variable {P : Program} {main : Bool} {w : World}
theorem map_all {α β : Type} {l : List α} {f g : α -> β} (h : l.map f = l.map g) : ∀ x ∈ l, f x = g x := List.map_inj_left.1 h
theorem setCell2_row {B : Nat} {c1 c2 v1 v2 : Value} {t : TypeId} (h : w.heap[B]? = some (.cells #[c1, c2] t)) : (w.setCell ⟨B, 0, none⟩ v1).setCell ⟨B, 1, none⟩ v2 = World.row w B #[v1, v2] t := by
 have h1 := heap_set (w := w) (a := ⟨B, 0, none⟩) (v := v1) rfl h
 have h2 := heap_set (w := w.setCell ⟨B, 0, none⟩ v1) (a := ⟨B, 1, none⟩) (v := v2) rfl h1
 have hlt : B < w.heap.size := (Array.getElem?_eq_some_iff.1 h).1
 have hh : ((w.setCell ⟨B, 0, none⟩ v1).setCell ⟨B, 1, none⟩ v2).heap = (World.row w B #[v1, v2] t).heap := by
  apply Array.ext_getElem?
  intro i
  by_cases e : i = B
  · subst e
    rw [row_same hlt]
    exact h2.trans (by simp)
  · rw [row_ne e, heap_set_ne (show i ≠ (⟨B, 1, none⟩ : Addr).block from e), heap_set_ne (show i ≠ (⟨B, 0, none⟩ : Addr).block from e)]
 show ({ w with heap := _ } : World) = { w with heap := _ }
 congr 1
theorem seen2 {fn : FuncId} {l1 l2 : Loc} {a b : Bool} (h1 : ∀ m, l1 ≠ .mark m) (h2 : ∀ m, l2 ≠ .mark m) : seen P fn #[⟨l1, a, false⟩, ⟨l2, b, false⟩] = if norace P fn then #[] else #[⟨l1, a, false⟩, ⟨l2, b, false⟩] := by
 rw [seen_def]
 unfold norace
 cases l1 <;> first | exact absurd rfl (h1 _) | (cases l2 <;> first | exact absurd rfl (h2 _) | (simp only [List.foldl_cons, List.foldl_nil, seenStep]; cases (P.funcs[fn]?).any (·.norace) <;> simp))
theorem step_store2 {g : Goroutine} {B : Nat} {c1 c2 v1 v2 : Value} {t : TypeId} (h : isStore2 P g = some (⟨B, 0, none⟩, v1, v2)) (hrow : w.heap[B]? = some (.cells #[c1, c2] t)) :
  stepG P main g w = .go (fin g undef) (World.row w B #[v1, v2] t) (if norace P g.frame.fn then #[] else #[⟨.cell ⟨B, 0, none⟩, true, false⟩, ⟨.cell ⟨B, 1, none⟩, true, false⟩]) := by
 unfold isStore2 at h
 split at h
 · next o ho =>
   split at h
   · next t' x y hop =>
     split at h
     · next ad u1 u2 hx hsz hy =>
       cases hone : (u1.oneCell' && u2.oneCell') with
       | false => rw [hone] at h; cases h
       | true =>
        rw [hone] at h
        cases h
        simp only [Bool.and_eq_true] at hone
        have hc1 : w.cell? ⟨B, 0, none⟩ = some c1 := by rw [cell_of rfl (show w.heap[(⟨B, 0, none⟩ : Addr).block]? = _ from hrow)]; rfl
        have hr1 := heap_set (w := w) (a := ⟨B, 0, none⟩) (v := v1) rfl hrow
        have hc2 : (w.setCell ⟨B, 0, none⟩ v1).cell? ⟨B, 1, none⟩ = some c2 := by rw [cell_of (a := ⟨B, 1, none⟩) rfl hr1]; rfl
        have hz1 : w.frozen? ⟨B, 0, none⟩ = false := thaw_of (a := ⟨B, 0, none⟩) hrow
        have hz2 : (w.setCell ⟨B, 0, none⟩ v1).frozen? ⟨B, 1, none⟩ = false := thaw_of (a := ⟨B, 1, none⟩) hr1
        have ea : (⟨B, 0, none⟩ : Addr).add 1 = ⟨B, 1, none⟩ := rfl
        have ea0 : (⟨B, 0, none⟩ : Addr).add 0 = ⟨B, 0, none⟩ := rfl
        have hcs : (Value.agg { toList := [v1, v2] }).cells = #[v1, v2] := rfl
        have hs : (storeVar t' ⟨B, 0, none⟩ (g.frame.eval y)).run P w = .ok () (World.row w B #[v1, v2] t) := by
         rw [<- setCell2_row hrow]
         simp only [hy, hcs, storeVar, Sem.run_bind, run_sizeOf hsz, Result.andThen_ok, List.size_toArray, List.length_cons, List.length_nil, ne_eq, Nat.zero_add, Nat.reduceAdd, not_true, if_false, storeCells, ea, ea0, run_store P w _ _ .plain hone.1, hc1, hz1, Bool.false_eq_true, run_store P _ _ _ .plain hone.2, hc2, hz2, Sem.run_ite, Sem.run_pure]
        have hse : ∀ es, (storeVar t' ⟨B, 0, none⟩ (g.frame.eval y)).events P w es = (es.push ⟨.cell ⟨B, 0, none⟩, true, false⟩).push ⟨.cell ⟨B, 1, none⟩, true, false⟩ := by
         intro es
         simp only [hy, hcs, storeVar, Sem.events_bind, events_sizeOf, run_sizeOf hsz, Result.evThen_ok, List.size_toArray, List.length_cons, List.length_nil, ne_eq, Nat.zero_add, Nat.reduceAdd, not_true, if_false, storeCells, ea, ea0, run_store P w _ _ .plain hone.1, events_store P w _ _ _ .plain hone.1, hc1, hz1, Bool.false_eq_true, run_store P _ _ _ .plain hone.2, events_store P _ _ _ _ .plain hone.2, hc2, hz2, Sem.events_ite, Sem.events_pure, Sem.run_ite, Sem.run_pure]
         rfl
        have hr : (execOp g.frame.eval o).run P w = .ok .skip (World.row w B #[v1, v2] t) := by
         unfold execOp
         simp only [hop, hx, Instr.storeAt, Sem.run_bind, run_sure, Result.andThen_ok, hs]
         rfl
        have he : (execOp g.frame.eval o).events P w #[] = #[⟨.cell ⟨B, 0, none⟩, true, false⟩, ⟨.cell ⟨B, 1, none⟩, true, false⟩] := by
         unfold execOp
         simp only [hop, hx, Instr.storeAt, Sem.events_bind, Sem.run_bind, run_sure, ev_sure, Result.evThen_ok, Result.andThen_ok, hs, hse]
         rfl
        rw [step_skip ho hr, he, seen2 (by simp) (by simp)]
     · cases h
   · cases h
 · cases h
theorem step_leaveC {fid : FuncId} {tmps : Array Value} {todo : List Item} {fr : Frame} {cs : List Frame} {fn : Func} {t u : Tmp} {ty ty' : TypeId} {v1 v2 : Value} {B : Nat} (hf : P.funcs[fid]? = some fn) (hres : fn.results = #[.tmp t, .cell u ty]) (hu : tmps.getD u undef = .pointer (some ⟨B, 0, none⟩)) (hag : aggB P ty = some true)
  (hsz : (P.info? ty).map (·.size) = some 2) (hrow : w.heap[B]? = some (.cells #[v1, v2] ty')) :
  stepG P main { frame := { fn := fid, tmps, todo, defers := [], mode := .returning, kind := .normal }, callers := fr :: cs, status := .running, dying := none } w = .go (back fr cs (.tuple #[tmps.getD t undef, .agg #[v1, v2]])) w (if norace P fid then #[] else #[⟨.cell ⟨B, 0, none⟩, false, false⟩, ⟨.cell ⟨B, 1, none⟩, false, false⟩]) := by
 have hc1 : w.cell? ⟨B, 0, none⟩ = some v1 := by rw [cell_of rfl (show w.heap[(⟨B, 0, none⟩ : Addr).block]? = _ from hrow)]; rfl
 have hc2 : w.cell? ⟨B, 1, none⟩ = some v2 := by rw [cell_of rfl (show w.heap[(⟨B, 1, none⟩ : Addr).block]? = _ from hrow)]; rfl
 have ea : (⟨B, 0, none⟩ : Addr).add 1 = ⟨B, 1, none⟩ := rfl
 have ea0 : (⟨B, 0, none⟩ : Addr).add 0 = ⟨B, 0, none⟩ := rfl
 have hl : (loadVar ty ⟨B, 0, none⟩).run P w = .ok (.agg #[v1, v2]) w := by
  simp only [loadVar, loadCells, loadCellsFrom, Sem.run_bind, run_isAgg hag, Result.andThen_ok, if_true, run_sizeOf hsz, ea, ea0, run_load, hc1, hc2, Sem.run_pure, Nat.zero_add]
  rfl
 have hle : ∀ es, (loadVar ty ⟨B, 0, none⟩).events P w es = (es.push ⟨.cell ⟨B, 0, none⟩, false, false⟩).push ⟨.cell ⟨B, 1, none⟩, false, false⟩ := by
  intro es
  simp only [loadVar, loadCells, loadCellsFrom, Sem.events_bind, Sem.run_bind, run_isAgg hag, events_isAgg, Result.evThen_ok, Result.andThen_ok, if_true, run_sizeOf hsz, events_sizeOf, ea, ea0, run_load, events_load, hc1, hc2, Sem.run_pure, Sem.events_pure, Nat.zero_add]
  rfl
 have hu' : tmps[u]?.getD undef = .pointer (some ⟨B, 0, none⟩) := by rw [<- hu]; simp
 have hr : (results fn tmps).run P w = .ok (.tuple #[tmps.getD t undef, .agg #[v1, v2]]) w := by
  simp [results, hres, hu', asAddr, hl]
 have he : (results fn tmps).events P w #[] = #[⟨.cell ⟨B, 0, none⟩, false, false⟩, ⟨.cell ⟨B, 1, none⟩, false, false⟩] := by
  simp [results, hres, hu', asAddr, hl, hle]
 have hs := seen2 (P := P) (fn := fid) (l1 := .cell ⟨B, 0, none⟩) (l2 := .cell ⟨B, 1, none⟩) (a := false) (b := false) (by simp) (by simp)
 simp [stepG, unwind, doReturn, hf, hr, he, GStep.after, hs, back]
end
def mulF : Nat -> Int -> Int -> Int -> Int
 | 0, _, _, a => a
 | n + 1, x, y, a => bif decide (y > 0) then mulF n (mx2 x) (y.fdiv 2) (bif bits .and .i64 y 1 == 1 then madd a x else a) else a
def nextF (a b f : Int) : Int := madd (mulF 64 a f 0) b
def pairF (x y : Int) : Int := nextF x (nextF y 7 31) 1000003
theorem wrap_id {x : Int} (h0 : 0 <= x) (h1 : x < 9223372036854775808) : IntKind.i64.wrap x = x := by
 simp [IntKind.wrap, IntKind.bits, IntKind.signed]
 omega
def inM (x : Int) : Prop := 0 <= x /\ x < MM
theorem mx2_in {x : Int} (h : inM x) : inM (mx2 x) := by
 obtain ⟨h0, h1⟩ := h
 unfold mx2 inM
 have h1 : x < 2305843009213693951 := h1
 rw [wrap_id (by omega) (by omega), Int.tmod_eq_emod_of_nonneg (by omega)]
 exact ⟨Int.emod_nonneg _ (by decide), Int.emod_lt_of_pos _ (by decide)⟩
theorem madd_in {a x : Int} (ha : inM a) (h : inM x) : inM (madd a x) := by
 obtain ⟨h0, h1⟩ := h
 obtain ⟨a0, a1⟩ := ha
 unfold madd inM
 have h1 : x < 2305843009213693951 := h1
 have a1 : a < 2305843009213693951 := a1
 rw [wrap_id (by omega) (by omega), Int.tmod_eq_emod_of_nonneg (by omega)]
 exact ⟨Int.emod_nonneg _ (by decide), Int.emod_lt_of_pos _ (by decide)⟩
theorem mulF_in : ∀ {n : Nat} {x y a : Int}, inM x -> inM a -> inM (mulF n x y a)
 | 0, _, _, _, _, ha => ha
 | n + 1, x, y, a, hx, ha => by
  unfold mulF
  cases decide (y > 0)
  · exact ha
  · simp only [cond_true]
    refine mulF_in (mx2_in hx) ?_
    cases (bits .and .i64 y 1 == 1)
    · exact ha
    · exact madd_in ha hx
theorem nextF_in {a b f : Int} (ha : inM a) (hb : inM b) : inM (nextF a b f) := madd_in (mulF_in ha ⟨by decide, by decide⟩) hb
theorem pairF_in {x y : Int} (hx : inM x) (hy : inM y) : inM (pairF x y) := nextF_in hx (nextF_in hy ⟨by decide, by decide⟩)
section
variable {E : Env} {k : Nat} {Stop : Gh -> Goroutine -> World -> Prop} {fr : Frame} {cs : List Frame} {m : Nat} {σ : Gh} {w : World}
abbrev GWt (E : Env) (k : Nat) (Stop : Gh -> Goroutine -> World -> Prop) (n : Nat) (σ : Gh) (g : Goroutine) (w : World) : Prop := GoesW Tryz.prog (proto E Tryz.prog) (k + 1) Stop n σ g w
theorem back_fin {f : FuncId} {g : Goroutine} {vs : List Value} (h : isCall f g = some vs) (v : Value) : back g.frame g.callers v = fin g v := by
 obtain ⟨b, a, ops, i, rest, kk, cs, o, xs, ats, h1, h2, h3, h4, h5, h6, h7, h8⟩ := of_isCall h
 subst h1
 rfl
theorem stop_still (hE : E.Ok) {n : Nat} (hn : 1 <= n) {g g' : Goroutine} (hs : ∀ w, stepG Tryz.prog false g w = .go g' w #[]) (hr : isRun g = true) (hr' : isRun g' = true) (hJ : J E σ w) (hk : k < σ.num) (ha : (σ.wk k).fin ≠ 1) (h : ∀ σ₁ w₁, RW E k σ w σ₁ w₁ -> GWt E k Stop (n - 1) σ₁ g' w₁) : GWt E k Stop n σ g w :=
 GoesW.sub (F := 1) hn (goW hr hk fun σ₁ w₁ hw hk1 => ⟨_, w₁, #[], σ₁, hs w₁, Turn.idle hE hw.j (by rw [hw.wk]; exact ha) .refl hw.j.four, hr', no_wake (Nat.le_refl _) rfl, h σ₁ w₁ hw⟩)
structure HasBody (f : FuncId) : Prop where
 out : ∃ fn c, Tryz.prog.funcs[f]? = some fn /\ (fn.name == "runtime.NumGoroutine") = false /\ fn.body = some c
theorem hasBody_of {f : FuncId} (fn : Func) (h1 : Tryz.prog.funcs[f]? = some fn) (h2 : (fn.name == "runtime.NumGoroutine") = false) (h3 : fn.body.isSome = true) : HasBody f := by
 cases h : fn.body with
 | none => rw [h] at h3; cases h3
 | some c => exact ⟨fn, c, h1, h2, h⟩
theorem hb86 : HasBody 114 := hasBody_of Tryz.f114 (by kernel_rfl) (by kernel_rfl) (by kernel_rfl)
theorem hb75 : HasBody 101 := hasBody_of Tryz.f101 (by kernel_rfl) (by kernel_rfl) (by kernel_rfl)
theorem hb60 : HasBody 79 := hasBody_of Tryz.f79 (by kernel_rfl) (by kernel_rfl) (by kernel_rfl)
theorem hb39 : HasBody 50 := hasBody_of Tryz.f50 (by kernel_rfl) (by kernel_rfl) (by kernel_rfl)
theorem hb29 : HasBody 48 := hasBody_of Tryz.f48 (by kernel_rfl) (by kernel_rfl) (by kernel_rfl)
theorem stop_call (hE : E.Ok) {n : Nat} (hn : 1 <= n) {f : FuncId} {g : Goroutine} {vs : List Value} (hg : isCall f g = some vs) (hb : HasBody f) (hr : isRun g = true) (hJ : J E σ w) (hk : k < σ.num) (ha : (σ.wk k).fin ≠ 1) (h : ∀ σ₁ w₁, RW E k σ w σ₁ w₁ -> GWt E k Stop (n - 1) σ₁ (enter Tryz.prog f vs.toArray (g.frame :: g.callers)) w₁) : GWt E k Stop n σ g w := by
 obtain ⟨fn, c, h1, h2, h3⟩ := hb.out
 exact stop_still hE hn (fun w => step_call hg h1 h2 h3 w) hr rfl hJ hk ha h
theorem budM {m N n : Nat} (h : m + (N + 1 + 1) * 100 <= n) : m + (N + 1) * 100 <= n - 1 - 60 /\ 1 <= n /\ 60 <= n - 1 := by
 simp only [Nat.sub_sub]
 omega
theorem halfM {N : Nat} {y : Int} (hy : y < 2 ^ (N + 1)) (h0 : 0 <= y) : y.fdiv 2 < 2 ^ N /\ 0 <= y.fdiv 2 := by
 rw [Int.fdiv_eq_ediv_of_nonneg _ (by decide)]
 have : (2 : Int) ^ (N + 1) = 2 * 2 ^ N := by rw [Int.pow_succ, Int.mul_comm]
 omega
theorem mul_loop (hE : E.Ok) (ha : (σ.wk k).fin ≠ 1) : ∀ (N : Nat) (n : Nat) (J' : Nat -> Value) (x y a : Int) (σ₁ : Gh) (w₁ : World), m + (N + 1) * 100 <= n -> y < 2 ^ N -> 0 <= y -> RW E k σ w σ₁ w₁ -> k < σ.num -> (∀ σ' w', RW E k σ w σ' w' -> GWt E k Stop m σ' (back fr cs (.int .i64 (mulF N x y a))) w') -> GWt E k Stop n σ₁ (MLS fr cs J' x y a) w₁ := by
 intro N
 induction N with
 | zero =>
  intro n J' x y a σ₁ w₁ hn hy h0 hw hk h
  have hk1 : k < σ₁.num := Nat.lt_of_lt_of_le hk hw.num
  have hy0 : y = 0 := by simp at hy; omega
  refine stop_still hE (by omega) (eM1 fr cs J' x y a) (rM fr cs J' x y a) (aM3 fr cs J' x y a).head hw.j hk1 (by rw [hw.wk]; exact ha) fun σ₂ w₂ hw2 => ?_
  refine GoesW.sub (F := 60) (by omega) (run0 (cMe_ok (y := y) (by simp [hy0])) (aM3 fr cs J' x y a) hw2.j (by rw [hw2.wk, hw.wk]; exact ha) fun σ₃ w₃ hw3 => ?_)
  have hw13 := (hw.trans hw2).trans hw3
  refine stop_still hE (by omega) (eM3 fr cs J' x y a) (rM3 fr cs J' x y a) rfl hw13.j (Nat.lt_of_lt_of_le hk hw13.num) (by rw [hw13.wk]; exact ha) fun σ₄ w₄ hw4 => ?_
  exact (h σ₄ w₄ (hw13.trans hw4)).mono (by omega)
 | succ N ih =>
  intro n J' x y a σ₁ w₁ hn hy h0 hw hk h
  have hk1 : k < σ₁.num := Nat.lt_of_lt_of_le hk hw.num
  cases hb : decide (y > 0) with
  | false =>
   refine stop_still hE (by omega) (eM1 fr cs J' x y a) (rM fr cs J' x y a) (aM3 fr cs J' x y a).head hw.j hk1 (by rw [hw.wk]; exact ha) fun σ₂ w₂ hw2 => ?_
   refine GoesW.sub (F := 60) (by omega) (run0 (cMe_ok hb) (aM3 fr cs J' x y a) hw2.j (by rw [hw2.wk, hw.wk]; exact ha) fun σ₃ w₃ hw3 => ?_)
   have hw13 := (hw.trans hw2).trans hw3
   refine stop_still hE (by omega) (eM3 fr cs J' x y a) (rM3 fr cs J' x y a) rfl hw13.j (Nat.lt_of_lt_of_le hk hw13.num) (by rw [hw13.wk]; exact ha) fun σ₄ w₄ hw4 => ?_
   have h := h σ₄ w₄ (hw13.trans hw4)
   unfold mulF at h
   rw [hb, cond_false] at h
   exact h.mono (by omega)
  | true =>
   have hr := aM2 fr cs J' x y a (bits .and .i64 y 1 == 1)
   refine stop_still hE (by omega) (eM1 fr cs J' x y a) (rM fr cs J' x y a) hr.head hw.j hk1 (by rw [hw.wk]; exact ha) fun σ₂ w₂ hw2 => ?_
   refine GoesW.sub (F := 60) (by omega) (run0 (cM_ok hb rfl) hr hw2.j (by rw [hw2.wk, hw.wk]; exact ha) fun σ₃ w₃ hw3 => ?_)
   have hw13 := (hw.trans hw2).trans hw3
   show GWt E k Stop _ σ₃ (gM2 fr cs J' x y a true (bits .and .i64 y 1 == 1)) w₃
   rw [hM2]
   have hyp : y > 0 := of_decide_eq_true hb
   refine ih (n - 1 - 60) _ _ _ _ σ₃ w₃ (budM hn).1 (halfM hy h0).1 (halfM hy h0).2 hw13 hk fun σ' w' hw' => ?_
   have h := h σ' w' hw'
   unfold mulF at h
   rw [hb, cond_true] at h
   exact h
theorem mul_w (hE : E.Ok) (hJ : J E σ w) (hk : k < σ.num) (ha : (σ.wk k).fin ≠ 1) {n : Nat} {x y : Int} (hn : m + 7000 <= n) (hy : y < 2 ^ 64) (h0 : 0 <= y) (h : ∀ σ' w', RW E k σ w σ' w' -> GWt E k Stop m σ' (back fr cs (.int .i64 (mulF 64 x y 0))) w') : GWt E k Stop n σ (enter Tryz.prog 114 #[.int .i64 x, .int .i64 y] (fr :: cs)) w := by
 refine GoesW.sub (F := 60) (by omega) (run0 (cX_ok xHeadM) (aM0 fr cs x y) hJ ha fun σ₁ w₁ hw1 => ?_)
 show GWt E k Stop _ σ₁ (gM0 fr cs x y) w₁
 rw [hM0]
 exact mul_loop hE ha 64 _ _ x y 0 σ₁ w₁ (by omega) hy h0 hw1 hk h
theorem known_own {B : Nat} {vs : Array Value} {t : TypeId} (hJ : J E σ w) (h7 : (σ.wk k).fin = 7) (hp : σ.pv B = k + 1) (hrow : w.heap[B]? = some (.cells vs t)) {fn : FuncId} {off : Nat} {v : Value} (hv : vs[off]? = some v) : Known E Tryz.prog k σ w (fn, ⟨B, off, none⟩, v) :=
 ⟨by show w.cell? ⟨B, off, none⟩ = some v; rw [cell_of rfl (show w.heap[(⟨B, off, none⟩ : Addr).block]? = _ from hrow)]; exact hv, ⟨(hJ.pv B (by omega)).1, .inr hp⟩, .inr h7⟩
theorem eN1 (B : Nat) (a b f : Int) (w : World) : stepG Tryz.prog false (gN1 fr cs a b f B) w = .go (inOrd (gN1 fr cs a b f B) opsN kN (Region.schedule (Tryz.prog.follows .mixedOrders) opsN (w.tape w.drawn (.order 101 idN)))) w.asked #[] := by kernel_rfl
def Wk.pay (x : Wk) (d : Nat) : Wk := { x with due := x.due - d }
theorem pay_pay (x : Wk) (a b : Nat) : (x.pay a).pay b = x.pay (a + b) := by unfold Wk.pay; simp [Nat.sub_sub]
theorem next_w (hE : E.Ok) (hJ : J E σ w) (hk : k < σ.num) (h7 : (σ.wk k).fin = 7) (hd : 1 <= (σ.wk k).due) {n : Nat} {a b f : Int} (hn : m + 8000 <= n) (hf : f < 2 ^ 64) (h0 : 0 <= f) (h : ∀ σ' w', Keep E k σ w σ' w' -> σ'.wk k = (σ.wk k).pay 1 -> GWt E k Stop m σ' (back fr cs (.int .i64 (nextF a b f))) w') :
  GWt E k Stop n σ (enter Tryz.prog 101 #[.agg #[.int .i64 a, .int .i64 b], .int .i64 f] (fr :: cs)) w := by
 have ha : (σ.wk k).fin ≠ 1 := by omega
 refine GoesW.sub (F := 60) (by omega) (run0 cW_ok (aN0 fr cs a b f) hJ ha fun σ₁ w₁ hw1 => ?_)
 have hk1 : k < σ₁.num := Nat.lt_of_lt_of_le hk hw1.num
 refine GoesW.sub (F := 1) (by omega) (stop_new hE (bN0 fr cs a b f) (Run.last (aN0 fr cs a b f)) (fun v => (Run.last (aN0 fr cs a b f) : isRun (gN0 fr cs a b f) = true)) hw1.j hk1 (by rw [hw1.wk]; exact h7) (by rw [hw1.wk]; exact hd) fun σ₂ w₂ B hK2 hx2 hB hB2 hpv hrow => ?_)
 have hK12 := hw1.keep.trans hK2
 have hx2 : σ₂.wk k = (σ.wk k).pay 1 := by rw [hx2, hw1.wk]; rfl
 have hk2 : k < σ₂.num := Nat.lt_of_lt_of_le hk hK12.num
 have h72 : (σ₂.wk k).fin = 7 := by rw [hx2]; exact h7
 have ha2 : (σ₂.wk k).fin ≠ 1 := by omega
 refine GoesW.sub (F := 60) (by omega) (run0 cW_ok (aN1 fr cs a b f B) hK2.j ha2 fun σ₃ w₃ hw3 => ?_)
 have hk3 : k < σ₃.num := Nat.lt_of_lt_of_le hk2 hw3.num
 refine GoesW.sub (F := 1) (by omega) (goW (Run.last (aN1 fr cs a b f B)) hk3 fun σ₄ w₄ hw4 hk4 => ?_)
 have hmem := schedule_mem (Tryz.prog.follows .mixedOrders) opsN (w₄.tape w₄.drawn (.order 101 idN))
 have heq := eN1 (fr := fr) (cs := cs) B a b f w₄
 generalize Region.schedule (Tryz.prog.follows .mixedOrders) opsN (w₄.tape w₄.drawn (.order 101 idN)) = o at hmem heq
 have hmem : o ∈ ordN := hmem
 have f1 := map_all (aN2o fr cs a b f B) o hmem
 simp only [Prod.mk.injEq] at f1
 obtain ⟨o1, o2, o3⟩ := f1
 have R1 : Run Tryz.prog (cN a b) 40 (inOrd (gN1 fr cs a b f B) opsN kN o) := ⟨fun w => map_all (aN2s fr cs a b f B w) o hmem, o1⟩
 have hi : RW E k σ₄ w₄ σ₄ w₄.asked := RW.idle hE hw4.j .asked hw4.j.four.asked
 have hw24 := (hw3.trans hw4).trans hi
 have ha4 : (σ₄.wk k).fin ≠ 1 := by rw [hw24.wk]; exact ha2
 refine ⟨_, w₄.asked, #[], σ₄, heq, Turn.idle hE hw4.j ha4 .asked hw4.j.four.asked, R1.head, no_wake (Nat.le_refl _) rfl, ?_⟩
 have kn : ∀ {σ' : Gh} {w' : World}, RW E k σ₂ w₂ σ' w' -> ∀ (l : List Nat), ∀ x ∈ l.filterMap (ldN a b B), Known E Tryz.prog k σ' w' x := fun {σ' w'} hw' l x hx => by
  obtain ⟨i, _, hi⟩ := List.mem_filterMap.1 hx
  have hk2' : Known E Tryz.prog k σ₂ w₂ x := by
   unfold ldN at hi
   split at hi
   · cases hi; exact known_own hK2.j h72 hpv hrow rfl
   · cases hi; exact known_own hK2.j h72 hpv hrow rfl
   · cases hi
  exact hk2'.keep hw'.keep (by rw [hw'.wk])
 refine GoesW.sub (F := 40) (by simp only [Nat.sub_sub]; omega) (runW rfl (fun f d x h => by cases h) 40 R1 hi.j ha4 (by rw [o3]; exact kn hw24 _) fun σ₅ w₅ hw5 => ?_)
 have hw25 := hw24.trans hw5
 have ha5 : (σ₅.wk k).fin ≠ 1 := by rw [hw25.wk]; exact ha2
 refine stop_call hE (by simp only [Nat.sub_sub]; omega) o2 hb86 R1.last hw5.j (Nat.lt_of_lt_of_le hk2 hw25.num) ha5 fun σ₆ w₆ hw6 => ?_
 have hw26 := hw25.trans hw6
 refine mul_w hE hw6.j (Nat.lt_of_lt_of_le hk2 hw26.num) (by rw [hw26.wk]; exact ha2) (m := m + 200) (by simp only [Nat.sub_sub]; omega) hf h0 fun σ₇ w₇ hw7 => ?_
 show GWt E k Stop (m + 200) σ₇ (back (gN2 fr cs a b f B o).frame (gN2 fr cs a b f B o).callers (.int .i64 (mulF 64 a f 0))) w₇
 rw [back_fin o2]
 have hw27 := hw26.trans hw7
 have f2 := fun w => map_all (aN3o fr cs a b f B (mulF 64 a f 0) w) o hmem
 have f2a := f2 w
 simp only [Prod.mk.injEq] at f2a
 obtain ⟨p1, p2, p3, _⟩ := f2a
 have R2 : Run Tryz.prog (cN' a b) 40 (fin (gN2 fr cs a b f B o) (.int .i64 (mulF 64 a f 0))) := ⟨fun w => map_all (aN3s fr cs a b f B (mulF 64 a f 0) w) o hmem, p1⟩
 show GWt E k Stop (m + 200) σ₇ (fin (gN2 fr cs a b f B o) (.int .i64 (mulF 64 a f 0))) w₇
 refine GoesW.sub (F := 40) (by omega) (runW rfl (fun f d x h => by cases h) 40 R2 hw7.j (by rw [hw27.wk]; exact ha2) (by rw [p3]; exact kn hw27 _) fun σ₈ w₈ hw8 => ?_)
 have hw28 := hw27.trans hw8
 show GWt E k Stop _ σ₈ (gN3 fr cs a b f B o (mulF 64 a f 0)) w₈
 refine stop_still hE (by omega) (fun w => by have := f2 w; simp only [Prod.mk.injEq] at this; exact this.2.2.2) p2 rfl hw8.j (Nat.lt_of_lt_of_le hk2 hw28.num) (by rw [hw28.wk]; exact ha2) fun σ₉ w₉ hw9 => ?_
 have hw29 := hw28.trans hw9
 exact (h σ₉ w₉ (hK12.trans hw29.keep) (by rw [hw29.wk, hx2])).mono (by omega)
end
section
variable {E : Env} {k : Nat} {Stop : Gh -> Goroutine -> World -> Prop} {fr : Frame} {cs : List Frame} {m : Nat} {σ : Gh} {w : World}
theorem isRun_fin (g : Goroutine) (v : Value) : isRun (fin g v) = isRun g := rfl
theorem pair_w (hE : E.Ok) (hJ : J E σ w) (hk : k < σ.num) (h7 : (σ.wk k).fin = 7) (hd : 2 <= (σ.wk k).due) {n : Nat} {x y : Int} (hn : m + 20000 <= n) (h : ∀ σ' w', Keep E k σ w σ' w' -> σ'.wk k = (σ.wk k).pay 2 -> GWt E k Stop m σ' (back fr cs (.int .i64 (pairF x y))) w') :
  GWt E k Stop n σ (enter Tryz.prog 79 #[.int .i64 x, .int .i64 y] (fr :: cs)) w := by
 have ha : (σ.wk k).fin ≠ 1 := by omega
 have hn1 : 60 <= n := by omega
 refine GoesW.sub (F := 60) hn1 (run0 (cX_ok _) (aPp0 fr cs x y) hJ ha fun σ₁ w₁ hw1 => ?_)
 have hk1 : k < σ₁.num := Nat.lt_of_lt_of_le hk hw1.num
 refine stop_call hE (by omega) (bPp0 fr cs x y) hb75 (Run.last (aPp0 fr cs x y)) hw1.j hk1 (by rw [hw1.wk]; exact ha) fun σ₂ w₂ hw2 => ?_
 have hw12 := hw1.trans hw2
 have hk2 : k < σ₂.num := Nat.lt_of_lt_of_le hk hw12.num
 refine next_w hE (m := m + 10000) hw2.j hk2 (by rw [hw12.wk]; exact h7) (by rw [hw12.wk]; omega) (by omega) (by decide) (by decide) fun σ₃ w₃ hK3 hx3 => ?_
 have hK13 := hw12.keep.trans hK3
 have hx3 : σ₃.wk k = (σ.wk k).pay 1 := by rw [hx3, hw12.wk]
 have hk3 : k < σ₃.num := Nat.lt_of_lt_of_le hk hK13.num
 show GWt E k Stop (m + 10000) σ₃ (back (gP0' fr cs x y).frame (gP0' fr cs x y).callers (.int .i64 (nextF y 7 31))) w₃
 rw [back_fin (bPp0 fr cs x y)]
 refine GoesW.sub (F := 60) (by omega) (run0 (cX_ok _) (aPp1 fr cs x y (nextF y 7 31)) hK3.j (by rw [hx3]; exact ha) fun σ₄ w₄ hw4 => ?_)
 have hk4 : k < σ₄.num := Nat.lt_of_lt_of_le hk3 hw4.num
 refine stop_call hE (by omega) (bPp1 fr cs x y (nextF y 7 31)) hb75 (Run.last (aPp1 fr cs x y (nextF y 7 31))) hw4.j hk4 (by rw [hw4.wk, hx3]; exact ha) fun σ₅ w₅ hw5 => ?_
 have hw45 := hw4.trans hw5
 have hx5 : σ₅.wk k = (σ.wk k).pay 1 := by rw [hw45.wk, hx3]
 have hk5 : k < σ₅.num := Nat.lt_of_lt_of_le hk3 hw45.num
 refine next_w hE (m := m + 100) hw5.j hk5 (by rw [hx5]; exact h7) (by rw [hx5]; show 1 <= (σ.wk k).due - 1; omega) (by omega) (by decide) (by decide) fun σ₆ w₆ hK6 hx6 => ?_
 have hK16 := (hK13.trans hw45.keep).trans hK6
 have hx6 : σ₆.wk k = (σ.wk k).pay 2 := by rw [hx6, hx5, pay_pay]
 have hk6 : k < σ₆.num := Nat.lt_of_lt_of_le hk hK16.num
 show GWt E k Stop (m + 100) σ₆ (back (gP1' fr cs x y (nextF y 7 31)).frame (gP1' fr cs x y (nextF y 7 31)).callers (.int .i64 (pairF x y))) w₆
 rw [back_fin (bPp1 fr cs x y (nextF y 7 31))]
 refine GoesW.sub (F := 60) (by omega) (run0 (cX_ok _) (aPp2 fr cs x y (nextF y 7 31) (pairF x y)) hK6.j (by rw [hx6]; exact ha) fun σ₇ w₇ hw7 => ?_)
 refine stop_still hE (by omega) (ePp2 fr cs x y (nextF y 7 31) (pairF x y)) (rPp2 fr cs x y (nextF y 7 31) (pairF x y)) rfl hw7.j (Nat.lt_of_lt_of_le hk6 hw7.num) (by rw [hw7.wk, hx6]; exact ha) fun σ₈ w₈ hw8 => ?_
 have hw78 := hw7.trans hw8
 exact (h σ₈ w₈ (hK16.trans hw78.keep) (by rw [hw78.wk, hx6])).mono (by omega)
theorem tQ4 (x y r : Int) (B : Nat) : (gQ4' fr cs x y r B).frame.tmps.getD 5 undef = .pointer (some ⟨B, 0, none⟩) := by kernel_rfl
theorem tQ4' (x y r : Int) (B : Nat) : (gQ4' fr cs x y r B).frame.tmps.getD 4 undef = .int .i64 r := by kernel_rfl
theorem sQ4 (x y r : Int) (B : Nat) : gQ4' fr cs x y r B = { frame := { fn := 50, tmps := (gQ4' fr cs x y r B).frame.tmps, todo := (gQ4' fr cs x y r B).frame.todo, defers := [], mode := .returning, kind := .normal }, callers := fr :: cs, status := .running, dying := none } := by kernel_rfl
theorem f39 : Tryz.prog.funcs[50]? = some Tryz.f50 := by kernel_rfl
theorem r39 : Tryz.f50.results = #[.tmp 4, .cell 5 25] := by kernel_rfl
theorem a25 : aggB Tryz.prog 25 = some true := by kernel_rfl
theorem z25 : (Tryz.prog.info? 25).map (·.size) = some 2 := by kernel_rfl
theorem n39 : norace Tryz.prog 50 = false := by kernel_rfl
theorem nQ3 (x y r : Int) (B : Nat) : (gQ3' fr cs x y r B).frame.fn = 50 := by kernel_rfl
theorem Pair_w (hE : E.Ok) (hJ : J E σ w) (hk : k < σ.num) (h7 : (σ.wk k).fin = 7) (hd : 3 <= (σ.wk k).due) {n : Nat} {x y : Int} (hx : inM x) (hy : inM y) (hn : m + 25000 <= n) (h : ∀ σ' w', Keep E k σ w σ' w' -> σ'.wk k = (σ.wk k).pay 3 -> GWt E k Stop m σ' (back fr cs (.tuple #[.int .i64 (pairF x y), .agg #[.int .i64 0, .int .i64 0]])) w') :
  GWt E k Stop n σ (enter Tryz.prog 50 #[.int .i64 x, .int .i64 y] (fr :: cs)) w := by
 have ha : (σ.wk k).fin ≠ 1 := by omega
 have hn1 : 60 <= n := by omega
 refine GoesW.sub (F := 60) hn1 (run0 cW_ok (aQp0 fr cs x y) hJ ha fun σ₁ w₁ hw1 => ?_)
 have hk1 : k < σ₁.num := Nat.lt_of_lt_of_le hk hw1.num
 refine GoesW.sub (F := 1) (by omega) (stop_new hE (bQp0 fr cs x y) (Run.last (aQp0 fr cs x y)) (fun v => (isRun_fin _ v).trans (Run.last (aQp0 fr cs x y))) hw1.j hk1 (by rw [hw1.wk]; exact h7) (by rw [hw1.wk]; omega) fun σ₂ w₂ B hK2 hx2 hB hB2 hpv hrow => ?_)
 have hK12 := hw1.keep.trans hK2
 have hx2 : σ₂.wk k = (σ.wk k).pay 1 := by rw [hx2, hw1.wk]; rfl
 have hk2 : k < σ₂.num := Nat.lt_of_lt_of_le hk hK12.num
 have ha2 : (σ₂.wk k).fin ≠ 1 := by rw [hx2]; exact ha
 refine GoesW.sub (F := 100) (by simp only [Nat.sub_sub]; omega) (run0 (cIs_ok _ hx.1 hx.2) (aQp1 fr cs x y B) hK2.j ha2 fun σ₃ w₃ hw3 => ?_)
 refine GoesW.sub (F := 150) (by simp only [Nat.sub_sub]; omega) (run0 (cIs_ok _ hy.1 hy.2) (aQp2 fr cs x y B) hw3.j (by rw [hw3.wk]; exact ha2) fun σ₄ w₄ hw4 => ?_)
 have hw24 := hw3.trans hw4
 refine stop_call hE (by simp only [Nat.sub_sub]; omega) (bQp2 fr cs x y B) hb60 (Run.last (aQp2 fr cs x y B)) hw4.j (Nat.lt_of_lt_of_le hk2 hw24.num) (by rw [hw24.wk]; exact ha2) fun σ₅ w₅ hw5 => ?_
 have hw25 := hw24.trans hw5
 have hx5 : σ₅.wk k = (σ.wk k).pay 1 := by rw [hw25.wk, hx2]
 have hk5 : k < σ₅.num := Nat.lt_of_lt_of_le hk2 hw25.num
 refine pair_w hE (m := m + 300) hw5.j hk5 (by rw [hx5]; exact h7) (by rw [hx5]; show 2 <= (σ.wk k).due - 1; omega) (by simp only [Nat.sub_sub]; omega) fun σ₆ w₆ hK6 hx6 => ?_
 have hK26 := hw25.keep.trans hK6
 have hK16 := hK12.trans hK26
 have hx6 : σ₆.wk k = (σ.wk k).pay 3 := by rw [hx6, hx5, pay_pay]
 have hk6 : k < σ₆.num := Nat.lt_of_lt_of_le hk hK16.num
 have own : ∀ {σ' : Gh} {w' : World} {vs : Array Value} {t : TypeId}, σ'.pv B = k + 1 -> J E σ' w' -> w'.heap[B]? = some (.cells vs t) -> ∀ {τ : Gh} {v : World}, RW E k σ' w' τ v -> τ.pv B = k + 1 /\ v.heap[B]? = some (.cells vs t) := fun {σ' w' vs t} hp hJ' hr {τ v} hw' => by
  have hlt := (hJ'.pv B (by omega)).1
  exact ⟨by rw [hw'.pv B hlt]; exact hp, by rw [hw'.mem B hlt (.inr hp)]; exact hr⟩
 have hp6 : σ₆.pv B = k + 1 := by rw [hK26.pv B hB2]; exact hpv
 have hr6 : w₆.heap[B]? = some (.cells #[.int .i64 0, .int .i64 0] 25) := by rw [hK26.mem B hB2 (.inr hpv)]; exact hrow
 show GWt E k Stop (m + 300) σ₆ (back (gQ2' fr cs x y B).frame (gQ2' fr cs x y B).callers (.int .i64 (pairF x y))) w₆
 rw [back_fin (bQp2 fr cs x y B)]
 generalize pairF x y = r at *
 refine GoesW.sub (F := 60) (by omega) (run0 cW_ok (aQp3 fr cs x y r B) hK6.j (by rw [hx6]; exact ha) fun σ₇ w₇ hw7 => ?_)
 obtain ⟨hp7, hr7⟩ := own hp6 hK6.j hr6 hw7
 have hK17 := hK16.trans hw7.keep
 have hx7 : σ₇.wk k = (σ.wk k).pay 3 := by rw [hw7.wk, hx6]
 have hk7 : k < σ₇.num := Nat.lt_of_lt_of_le hk6 hw7.num
 refine GoesW.sub (F := 1) (by omega) (stepW (Run.last (aQp3 fr cs x y r B)) fun σ₈ w₈ hw8 => ?_)
 obtain ⟨hp8, hr8⟩ := own hp7 hw7.j hr7 hw8
 have hx8 : σ₈.wk k = (σ.wk k).pay 3 := by rw [hw8.wk, hx7]
 have hk8 : k < σ₈.num := Nat.lt_of_lt_of_le hk7 hw8.num
 have hst := step_store2 (main := false) (bQp3 fr cs x y r B) hr8
 rw [nQ3, n39] at hst
 have hBs : σ.hs <= B := Nat.le_trans hw1.hs hB
 have hK18 := (hK17.trans hw8.keep).row hE hBs hp8 (vs := #[.int .i64 0, .int .i64 0]) (t := 25)
 refine ⟨_, _, _, σ₈, hst, DW.row hE hw8.j (by rw [hx8]; exact h7) hp8 (fun e he => by
  simp only [Bool.false_eq_true, if_false, List.mem_toArray, List.mem_cons, List.not_mem_nil, or_false] at he
  rcases he with rfl | rfl
  · exact ⟨0, true, rfl⟩
  · exact ⟨1, true, rfl⟩) (isRun_out (aQp4 fr cs x y r B).head).1, ?_⟩
 have hr8' : (World.row w₈ B #[.int .i64 0, .int .i64 0] 25).heap[B]? = some (.cells #[.int .i64 0, .int .i64 0] 25) := row_same (Array.getElem?_eq_some_iff.1 hr8).1
 generalize World.row w₈ B #[.int .i64 0, .int .i64 0] 25 = v8 at *
 refine GoesW.sub (F := 60) (by omega) (run0 cW_ok (aQp4 fr cs x y r B) hK18.j (by rw [hx8]; exact ha) fun σ₉ w₉ hw9 => ?_)
 obtain ⟨hp9, hr9⟩ := own hp8 hK18.j hr8' hw9
 have hK19 := hK18.trans hw9.keep
 have hx9 : σ₉.wk k = (σ.wk k).pay 3 := by rw [hw9.wk, hx8]
 refine GoesW.sub (F := 1) (by omega) (stepW (rQp4 fr cs x y r B) fun σa wa hwa => ?_)
 obtain ⟨hpa, hra⟩ := own hp9 hw9.j hr9 hwa
 have hxa : σa.wk k = (σ.wk k).pay 3 := by rw [hwa.wk, hx9]
 have hst2 := step_leaveC (P := Tryz.prog) (main := false) (w := wa) (todo := (gQ4' fr cs x y r B).frame.todo) (fr := fr) (cs := cs) f39 r39 (tQ4 (fr := fr) (cs := cs) x y r B) a25 z25 hra
 rw [<- sQ4, tQ4', n39] at hst2
 have hKa := hK19.trans hwa.keep
 refine ⟨_, wa, _, σa, hst2, ?_, (h σa wa hKa hxa).mono (by omega)⟩
 have hd0 : DW E Tryz.prog k σa wa (gQ4' fr cs x y r B) #[] σa wa (back fr cs (.tuple #[.int .i64 r, .agg #[.int .i64 0, .int .i64 0]])) := DW.quiet hwa.j (by rw [hxa]; exact ha) rfl
 exact ⟨hd0.j, hd0.own, hd0.num, hd0.ms, hd0.mdf, hd0.dm, hd0.hs, hd0.pv, hd0.pvn, hd0.low, hd0.mem, hd0.pot, hd0.dd, hd0.cnt, hd0.alive, hd0.run, rfl, hd0.wake, hd0.writ, fun e he => by
  simp only [Bool.false_eq_true, if_false, List.mem_toArray, List.mem_cons, List.not_mem_nil, or_false] at he
  have hlt := (hwa.j.pv B (by omega)).1
  rcases he with rfl | rfl <;> exact ⟨by simp, hlt, fun y hy => by
   simp only [MemAct.ofEvent, MemAct.touch?, Option.some.injEq] at hy
   subst hy
   exact .inr (.inr (.inr ⟨rfl, _, rfl, hpa⟩))⟩, fun h6 => by rw [hxa] at h6; have h6 : (σ.wk k).fin <= 6 := h6; omega⟩
theorem step_idx {P : Program} {main : Bool} {g : Goroutine} {w : World} {ad : Addr} {n sz : Nat} {j : Int} (h : isIdx P g = some (ad, n, j, sz)) (h0 : 0 <= j) (h1 : j < (n : Int)) : stepG P main g w = .go (fin g (.pointer (some (ad.add (j.toNat * sz))))) w #[] := by
 unfold isIdx at h
 split at h
 · next o ho =>
   split at h
   · next t x i hop =>
     split at h
     · next e ad' n' c kk j' hu hx hi =>
       obtain ⟨inf, hinf, he⟩ := Option.map_eq_some_iff.1 h
       cases he
       have hsz : (P.info? e).map (·.size) = some inf.size := by rw [hinf]; rfl
       have hr0 : (Instr.indexAt t (.slice (some ad) n c) (.int kk j)).run P w = .ok (.pointer (some (ad.add (j.toNat * inf.size)))) w := by
        simp [Instr.indexAt, asIntOf, run_underlying hu, h0, h1, run_sizeOf hsz]
       have he0 : (Instr.indexAt t (.slice (some ad) n c) (.int kk j)).events P w #[] = #[] := by
        simp [Instr.indexAt, asIntOf, run_underlying hu, h0, h1, run_sizeOf hsz]
       have hr : (execOp g.frame.eval o).run P w = .ok (.value (.pointer (some (ad.add (j.toNat * inf.size))))) w := by
        unfold execOp
        simp only [hop, hx, hi, Sem.run_bind, hr0, Result.andThen_ok]
        rfl
       have hev : (execOp g.frame.eval o).events P w #[] = #[] := by
        unfold execOp
        simp only [hop, hx, hi, Sem.events_bind, Sem.run_bind, hr0, he0, Result.evThen_ok]
        rfl
       rw [step_val ho hr, hev, seen_none]
     · cases h
   · cases h
 · cases h
theorem getD_lt {l : List Int} {i : Nat} (h : i < l.length) : l.getD i 0 = l[i] := by simp [List.getD, h]
structure Nums (E : Env) (k : Nat) (σ : Gh) (w : World) (fn : FuncId) (p : Option Addr) (zs : List Int) : Prop where
 at_ : ∀ i, i < zs.length -> ∃ ad, p = some ad /\ Known E Tryz.prog k σ w (fn, ad.add (i * 1), .int .i64 (zs.getD i 0))
theorem Nums.keep {σ' : Gh} {w' : World} {fn : FuncId} {p : Option Addr} {zs : List Int} (h : Nums E k σ w fn p zs) (hK : Keep E k σ w σ' w') (hf : (σ'.wk k).fin = (σ.wk k).fin) : Nums E k σ' w' fn p zs :=
 ⟨fun i hi => let ⟨ad, e, hk⟩ := h.at_ i hi; ⟨ad, e, hk.keep hK hf⟩⟩
theorem budF {m q n : Nat} (h : m + (q + 1 + 1) * 27000 <= n) : m + (q + 1) * 27000 <= n - 1 - 60 - 1 - 60 - 1 - 25000 - 60 /\ 1 <= n /\ 60 <= n - 1 /\ 1 <= n - 1 - 60 /\ 60 <= n - 1 - 60 - 1 /\ 1 <= n - 1 - 60 - 1 - 60 /\ (m + (q + 1) * 27000 + 60) + 25000 <= n - 1 - 60 - 1 - 60 - 1 := by
 simp only [Nat.sub_sub]
 omega
theorem fold_loop (hE : E.Ok) (h7 : (σ.wk k).fin = 7) {p : Option Addr} {c : Nat} {zs : List Int} (hz : ∀ v ∈ zs, inM v) (hN : Nums E k σ w 48 p zs) (hk : k < σ.num) (hlen : zs.length < 4611686018427387904) : ∀ (q n : Nat) (J' : Nat -> Value) (i : Nat) (a : Int) (σ₁ : Gh) (w₁ : World), m + (q + 1) * 27000 <= n -> i + q = zs.length -> inM a -> Keep E k σ w σ₁ w₁ -> σ₁.wk k = (σ.wk k).pay (3 * i) -> 3 * zs.length <= (σ.wk k).due ->
  (∀ σ' w', Keep E k σ w σ' w' -> σ'.wk k = (σ.wk k).pay (3 * zs.length) -> GWt E k Stop m σ' (back fr cs (.int .i64 ((zs.drop i).foldl pairF a))) w') -> GWt E k Stop n σ₁ (FLS fr cs J' p zs.length c (i : Int) a) w₁ := by
 intro q
 induction q with
 | zero =>
  intro n J' i a σ₁ w₁ hn hi ha hK hx hd h
  have hk1 : k < σ₁.num := Nat.lt_of_lt_of_le hk hK.num
  have hfa : (σ₁.wk k).fin ≠ 1 := by rw [hx]; show (σ.wk k).fin ≠ 1; omega
  have e : i = zs.length := by omega
  refine stop_still hE (by omega) (eFp1 fr cs J' p zs.length c (i : Int) a) (rFp fr cs J' p zs.length c (i : Int) a) (aFp5 fr cs J' p zs.length c (i : Int) a).head hK.j hk1 hfa fun σ₂ w₂ hw2 => ?_
  refine GoesW.sub (F := 60) (by omega) (run0 (cF_ok _ (by simp; omega)) (aFp5 fr cs J' p zs.length c (i : Int) a) hw2.j (by rw [hw2.wk]; exact hfa) fun σ₃ w₃ hw3 => ?_)
  have hw13 := hw2.trans hw3
  refine stop_still hE (by omega) (eFp5 fr cs J' p zs.length c (i : Int) a) (rFp5 fr cs J' p zs.length c (i : Int) a) rfl hw3.j (Nat.lt_of_lt_of_le hk1 hw13.num) (by rw [hw13.wk]; exact hfa) fun σ₄ w₄ hw4 => ?_
  have hw14 := hw13.trans hw4
  have h := h σ₄ w₄ (hK.trans hw14.keep) (by rw [hw14.wk, hx, e])
  rw [e, List.drop_length] at h
  exact h.mono (by omega)
 | succ q ih =>
  intro n J' i a σ₁ w₁ hn hi ha hK hx hd h
  obtain ⟨u1, u2, u3, u4, u5, u6, u7⟩ := budF hn
  clear hn
  have hk1 : k < σ₁.num := Nat.lt_of_lt_of_le hk hK.num
  have h71 : (σ₁.wk k).fin = 7 := by rw [hx]; exact h7
  have hfa : (σ₁.wk k).fin ≠ 1 := by rw [h71]; decide
  have hlt : i < zs.length := by omega
  obtain ⟨ad, rfl, hkn⟩ := hN.at_ i hlt
  refine stop_still hE u2 (eFp1 fr cs J' (some ad) zs.length c (i : Int) a) (rFp fr cs J' (some ad) zs.length c (i : Int) a) (aFp2 fr cs J' (some ad) zs.length c (i : Int) a).head hK.j hk1 hfa fun σ₂ w₂ hw2 => ?_
  refine GoesW.sub (F := 60) u3 (run0 (cF_ok _ (by simp; omega)) (aFp2 fr cs J' (some ad) zs.length c (i : Int) a) hw2.j (by rw [hw2.wk]; exact hfa) fun σ₃ w₃ hw3 => ?_)
  have hw13 := hw2.trans hw3
  have hst := fun w => step_idx (main := false) (w := w) (bFp2 fr cs J' zs.length c (i : Int) a ad) (by omega) (by omega)
  rw [Int.toNat_natCast] at hst
  have hR3 := aFp3 fr cs J' (some ad) zs.length c (i : Int) a (ad.add (i * 1)) (zs.getD i 0)
  refine stop_still hE u4 hst (rFp2 fr cs J' zs.length c (i : Int) a ad) hR3.head hw3.j (Nat.lt_of_lt_of_le hk1 hw13.num) (by rw [hw13.wk]; exact hfa) fun σ₄ w₄ hw4 => ?_
  have hw14 := hw13.trans hw4
  have hK14 := hK.trans hw14.keep
  refine GoesW.sub (F := 60) u5 (runW rfl (fun f d x h => by cases h) 60 hR3 hw4.j (by rw [hw14.wk]; exact hfa) (fun x hx' => by
   rw [lFp3] at hx'
   simp only [List.mem_cons, List.not_mem_nil, or_false] at hx'
   subst hx'
   exact hkn.keep hK14 (by rw [hw14.wk, hx]; rfl)) fun σ₅ w₅ hw5 => ?_)
  have hw15 := hw14.trans hw5
  have hx5 : σ₅.wk k = (σ.wk k).pay (3 * i) := by rw [hw15.wk, hx]
  have hk5 : k < σ₅.num := Nat.lt_of_lt_of_le hk1 hw15.num
  refine stop_call hE u6 (bFp3 fr cs J' (some ad) zs.length c (i : Int) a (ad.add (i * 1)) (zs.getD i 0)) hb39 (Run.last hR3) hw5.j hk5 (by rw [hw15.wk]; exact hfa) fun σ₆ w₆ hw6 => ?_
  have hw16 := hw15.trans hw6
  have hx6 : σ₆.wk k = (σ.wk k).pay (3 * i) := by rw [hw16.wk, hx]
  have hv : inM (zs.getD i 0) := hz _ (by rw [getD_lt hlt]; exact List.getElem_mem hlt)
  refine Pair_w hE (m := m + (q + 1) * 27000 + 60) hw6.j (Nat.lt_of_lt_of_le hk1 hw16.num) (by rw [hx6]; exact h7) (by rw [hx6]; show 3 <= (σ.wk k).due - 3 * i; omega) ha hv u7 fun σ₇ w₇ hK7 hx7 => ?_
  have hx7 : σ₇.wk k = (σ.wk k).pay (3 * (i + 1)) := by rw [hx7, hx6, pay_pay]; rfl
  have hK17 := (hK.trans hw16.keep).trans hK7
  show GWt E k Stop (m + (q + 1) * 27000 + 60) σ₇ (back (gF3' fr cs J' (some ad) zs.length c (i : Int) a (ad.add (i * 1)) (zs.getD i 0)).frame (gF3' fr cs J' (some ad) zs.length c (i : Int) a (ad.add (i * 1)) (zs.getD i 0)).callers (.tuple #[.int .i64 (pairF a (zs.getD i 0)), .agg #[.int .i64 0, .int .i64 0]])) w₇
  rw [back_fin (bFp3 fr cs J' (some ad) zs.length c (i : Int) a (ad.add (i * 1)) (zs.getD i 0))]
  have hR4 := aFp4 fr cs J' (some ad) zs.length c (i : Int) a (ad.add (i * 1)) (zs.getD i 0) (pairF a (zs.getD i 0))
  refine run0 (cX_ok _) hR4 hK7.j (by rw [hx7]; show (σ.wk k).fin ≠ 1; omega) fun σ₈ w₈ hw8 => ?_
  show GWt E k Stop _ σ₈ (gF4' fr cs J' (some ad) zs.length c (i : Int) a (ad.add (i * 1)) (zs.getD i 0) (pairF a (zs.getD i 0))) w₈
  rw [hFp4, wrap_id (by omega) (by omega), show ((i : Int) + 1) = ((i + 1 : Nat) : Int) by omega]
  refine ih _ _ (i + 1) _ σ₈ w₈ (Nat.le_refl _) (by omega) (pairF_in ha hv) (hK17.trans hw8.keep) (by rw [hw8.wk, hx7]) hd fun σ' w' hK' hx' => ?_
  have h := h σ' w' hK' hx'
  rw [List.drop_eq_getElem_cons hlt, List.foldl_cons] at h
  rw [getD_lt hlt]
  exact h
theorem fold_w (hE : E.Ok) (hJ : J E σ w) (h7 : (σ.wk k).fin = 7) {p : Option Addr} {c n : Nat} {zs : List Int} (hz : ∀ v ∈ zs, inM v) (hN : Nums E k σ w 48 p zs) (hk : k < σ.num) (hlen : zs.length < 4611686018427387904) (hd : 3 * zs.length <= (σ.wk k).due) (hn : m + (zs.length + 1) * 27000 + 60 <= n)
  (h : ∀ σ' w', Keep E k σ w σ' w' -> σ'.wk k = (σ.wk k).pay (3 * zs.length) -> GWt E k Stop m σ' (back fr cs (.int .i64 (zs.foldl pairF 0))) w') : GWt E k Stop n σ (enter Tryz.prog 48 #[.slice p zs.length c] (fr :: cs)) w := by
 have hfa : (σ.wk k).fin ≠ 1 := by omega
 refine GoesW.sub (F := 60) (by omega) (run0 (cX_ok _) (aFp0 fr cs p zs.length c) hJ hfa fun σ₁ w₁ hw1 => ?_)
 show GWt E k Stop _ σ₁ (gF0' fr cs p zs.length c) w₁
 rw [hFp0]
 exact fold_loop (m := m) hE h7 hz hN hk hlen zs.length _ _ 0 0 σ₁ w₁ (by omega) (by omega) ⟨by decide, by decide⟩ hw1.keep (by rw [hw1.wk]; rfl) hd (by simpa using h)
end
namespace Rd
set_option maxRecDepth 100000
structure Adr where
 Mu : Nat
 Nx : Nat
 Wg : Nat
 T : Nat
 S : Nat
 V : Nat
 bw : Nat
 bf : Nat
abbrev pA (b : Nat) : Value := .pointer (some ⟨b, 0, none⟩)
abbrev stoV (A : Adr) : Value := .func (.func 42) #[] #[pA A.Mu, pA A.V]
abbrev wrkV (A : Adr) : Value := .func (.func 46) #[] #[pA A.Nx, pA A.T, pA A.S]
noncomputable def xHeadW (g : Goroutine) : Bool := match g.frame.todo with
 | .code (.block 1 _) :: .inLoop _ :: _ => g.frame.fn == 46
 | _ => false
noncomputable def xIn (f : FuncId) (g : Goroutine) : Bool := g.frame.fn == f
variable (A : Adr)
noncomputable def gC0 : Goroutine := { frame := { (default : Frame) with fn := Tryz.prog.funcs.size, defers := [{ target := .fn (.func 64) #[pA A.bw, pA A.bf], args := #[] }], mode := .panicking [goexitEntry] }, callers := [], status := .running, dying := none }
noncomputable def oC : Orc := fun f d => bif f == 64 && d == 3 then some (wrkV A) else none
noncomputable def cCs : Par := { O := oC A, X := xHeadW }
noncomputable def gC1 : Goroutine := endR Tryz.prog (cCs A) 60 (gC0 A)
theorem aC0 : Run Tryz.prog (cCs A) 60 (gC0 A) := ⟨fun w => by kernel_rfl, by kernel_rfl⟩
theorem lC0 : ldsR Tryz.prog (cCs A) 60 (gC0 A) = [(64, ⟨A.bf, 0, none⟩, wrkV A)] := by kernel_rfl
section
variable (J : Nat -> Value)
def tmWH : Array Value := ((List.range 18).map fun j => if j = 0 then pA A.Nx else if j = 1 then pA A.T else if j = 2 then pA A.S else J j).toArray
noncomputable def WHS : Goroutine := { frame := { (gC1 A).frame with tmps := tmWH A J }, callers := (gC1 A).callers, status := .running, dying := none }
theorem hC1 : gC1 A = WHS A (junk (gC1 A)) := by kernel_rfl
noncomputable def gW1 : Goroutine := nextQ Tryz.prog false (WHS A J)
theorem eW1 (w : World) : stepG Tryz.prog false (WHS A J) w = .go (gW1 A J) w #[] := by kernel_rfl
theorem rWH : isRun (WHS A J) = true := by kernel_rfl
noncomputable def gW2 : Goroutine := endR Tryz.prog cW 60 (gW1 A J)
theorem aW2 : Run Tryz.prog cW 60 (gW1 A J) := ⟨fun w => by kernel_rfl, by kernel_rfl⟩
theorem bW2 : isCall 67 (gW2 A J) = some [pA A.Nx, .int .i64 1] := by kernel_rfl
variable (x : Int) (tp : Option Addr) (n c : Nat)
noncomputable def vW (b : Bool) (f : FuncId) (d : Nat) : Option (Value × Value) := bif f == 46 && d == 9 then some (.bool b, .bool (decide (IntKind.i64.wrap (x - 1) ≥ (n : Int)))) else none
theorem vW_ok {x : Int} {n : Nat} {b : Bool} (h : decide (IntKind.i64.wrap (x - 1) ≥ (n : Int)) = b) {f : FuncId} {d : Nat} {z : Value × Value} (hz : vW x n b f d = some z) : z.1 = z.2 := by
 unfold vW at hz
 cases e1 : (f == 46 && d == 9) with
 | true => rw [e1, cond_true] at hz; cases hz; simp only [h]
 | false => rw [e1, cond_false] at hz; cases hz
noncomputable def oW (f : FuncId) (d : Nat) : Option Value := bif f == 46 && d == 7 then some (.slice tp n c) else bif f == 65 && d == 6 then some (pA A.Wg) else none
noncomputable def cWn (b : Bool) : Par := { O := oW A tp n c, V := vW x n b }
noncomputable def gW3 (b : Bool) : Goroutine := endR Tryz.prog (cWn A x tp n c b) 200 (fin (gW2 A J) (.int .i64 x))
theorem aW3 : Run Tryz.prog (cWn A x tp n c false) 200 (fin (gW2 A J) (.int .i64 x)) := ⟨fun w => by kernel_rfl, by kernel_rfl⟩
theorem lW3 : ldsR Tryz.prog (cWn A x tp n c false) 200 (fin (gW2 A J) (.int .i64 x)) = [(46, ⟨A.T, 0, none⟩, .slice tp n c)] := by kernel_rfl
noncomputable def gWd : Goroutine := gW3 ⟨0, 0, 0, 0, 0, 0, 0, 0⟩ (fun _ => undef) 0 none 0 0 false
noncomputable def opsW : Array Oper := match isDraw gWd with | some x => x.2.1 | none => #[]
noncomputable def kW : List Item := match isDraw gWd with | some x => x.2.2 | none => []
noncomputable def idW : Nat := match isDraw gWd with | some x => x.1 | none => 0
theorem eW3 (w : World) : stepG Tryz.prog false (gW3 A J x tp n c false) w = .go (inOrd (gW3 A J x tp n c false) opsW kW (Region.schedule (Tryz.prog.follows .mixedOrders) opsW (w.tape w.drawn (.order 46 idW)))) w.asked #[] := by kernel_rfl
theorem rW3 : isRun (gW3 A J x tp n c false) = true := by kernel_rfl
noncomputable def ordW : List (List Nat) := orders (Tryz.prog.follows .mixedOrders) opsW
theorem aWe : Run Tryz.prog (cWn A x tp n c true) 200 (fin (gW2 A J) (.int .i64 x)) := ⟨fun w => by kernel_rfl, by kernel_rfl⟩
theorem lWe : ldsR Tryz.prog (cWn A x tp n c true) 200 (fin (gW2 A J) (.int .i64 x)) = [(46, ⟨A.T, 0, none⟩, .slice tp n c), (65, ⟨A.bw, 0, none⟩, pA A.Wg)] := by kernel_rfl
theorem vWe : isConv Tryz.prog (gW3 A J x tp n c true) = some ⟨A.Wg, 0, none⟩ := by kernel_rfl
end
section
variable (J : Nat -> Value) (x : Int) (tq ead oA oa : Addr) (p : Option Addr) (n c len c' : Nat) (v : Int) (w : World)
noncomputable def gI (o : List Nat) : Goroutine := inOrd (gW3 A J x (some tq) n c false) opsW kW o
noncomputable def o1 : Orc := fun f d => bif f == 46 && d == 10 then some (stoV A) else bif f == 46 && d == 12 then some (.slice (some tq) n c) else none
noncomputable def c1 : Par := { O := o1 A tq n c, X := xDst 46 14 }
noncomputable def g1 (o : List Nat) : Goroutine := endR Tryz.prog (c1 A tq n c) 40 (gI A J x tq n c o)
noncomputable def ld1 (i : Nat) : Option (FuncId × Addr × Value) := match i with
 | 0 => some (46, ⟨A.S, 0, none⟩, stoV A)
 | 2 => some (46, ⟨A.T, 0, none⟩, .slice (some tq) n c)
 | _ => none
theorem f1s : ordW.map (fun o => seqR Tryz.prog (c1 A tq n c) 40 (gI A J x tq n c o) w) = ordW.map (fun o => expR Tryz.prog (c1 A tq n c) 40 (gI A J x tq n c o) w) := by kernel_rfl
theorem f1o : ordW.map (fun o => (okR Tryz.prog (c1 A tq n c) 40 (gI A J x tq n c o), isIdx Tryz.prog (g1 A J x tq n c o), ldsR Tryz.prog (c1 A tq n c) 40 (gI A J x tq n c o))) = ordW.map (fun o => (true, some (tq, n, IntKind.i64.wrap (x - 1), 1), (o.takeWhile (· != 4)).filterMap (ld1 A tq n c))) := by kernel_rfl
noncomputable def o2 : Orc := fun f d => bif f == 46 && d == 10 then some (stoV A) else bif f == 46 && d == 15 then some (.slice p len c') else none
noncomputable def c2' : Par := { O := o2 A p len c', X := xCall 48 }
noncomputable def g2 (o : List Nat) : Goroutine := endR Tryz.prog (c2' A p len c') 40 (fin (g1 A J x tq n c o) (.pointer (some ead)))
noncomputable def ld2 (i : Nat) : Option (FuncId × Addr × Value) := match i with
 | 0 => some (46, ⟨A.S, 0, none⟩, stoV A)
 | 5 => some (46, ead, .slice p len c')
 | _ => none
theorem f2s : ordW.map (fun o => seqR Tryz.prog (c2' A p len c') 40 (fin (g1 A J x tq n c o) (.pointer (some ead))) w) = ordW.map (fun o => expR Tryz.prog (c2' A p len c') 40 (fin (g1 A J x tq n c o) (.pointer (some ead))) w) := by kernel_rfl
theorem f2o : ordW.map (fun o => (okR Tryz.prog (c2' A p len c') 40 (fin (g1 A J x tq n c o) (.pointer (some ead))), isCall 48 (g2 A J x tq ead p n c len c' o), ldsR Tryz.prog (c2' A p len c') 40 (fin (g1 A J x tq n c o) (.pointer (some ead))))) = ordW.map (fun o => (true, some [Value.slice p len c'], ((o.dropWhile (· != 4)).takeWhile (· != 6)).filterMap (ld2 A ead p len c'))) := by kernel_rfl
noncomputable def o3 : Orc := fun f d => bif f == 46 && d == 10 then some (stoV A) else none
noncomputable def c3 : Par := { O := o3 A, X := xCall 43 }
noncomputable def g3 (o : List Nat) : Goroutine := endR Tryz.prog (c3 A) 40 (fin (g2 A J x tq ead p n c len c' o) (.int .i64 v))
noncomputable def ld3 (i : Nat) : Option (FuncId × Addr × Value) := match i with
 | 0 => some (46, ⟨A.S, 0, none⟩, stoV A)
 | _ => none
noncomputable def gK : Goroutine := g3 ⟨0, 0, 0, 0, 0, 0, 0, 0⟩ (fun _ => undef) 0 ⟨0, 0, none⟩ ⟨0, 0, none⟩ none 0 0 0 0 0 (ordW.headD [])
noncomputable def KLS (K : Nat -> Value) (i v : Int) : Goroutine := { frame := { fn := 42, tmps := #[.int .i64 i, .int .i64 v, pA A.Mu, pA A.V, undef, undef, undef, undef, undef, undef, undef], todo := gK.frame.todo, defers := [], mode := .run, kind := .normal }, callers := { fn := 46, tmps := tmWH A K, todo := .inRegion opsW [7] :: kW, defers := [], mode := .run, kind := .normal } :: (gC1 A).callers, status := .running, dying := none }
theorem f3s : ordW.map (fun o => seqR Tryz.prog (c3 A) 40 (fin (g2 A J x tq ead p n c len c' o) (.int .i64 v)) w) = ordW.map (fun o => expR Tryz.prog (c3 A) 40 (fin (g2 A J x tq ead p n c len c' o) (.int .i64 v)) w) := by kernel_rfl
theorem f3o : ordW.map (fun o => (okR Tryz.prog (c3 A) 40 (fin (g2 A J x tq ead p n c len c' o) (.int .i64 v)), ldsR Tryz.prog (c3 A) 40 (fin (g2 A J x tq ead p n c len c' o) (.int .i64 v)))) = ordW.map (fun o => (true, (o.dropWhile (· != 6)).filterMap (ld3 A))) := by kernel_rfl
theorem f3e : ordW.map (fun o => g3 A J x tq ead p n c len c' v o) = ordW.map (fun o => KLS A (junkC (g3 A J x tq ead p n c len c' v o)) (IntKind.i64.wrap (x - 1)) v) := by kernel_rfl
end
section
variable (K : Nat -> Value) (i v : Int) (oA oa : Addr) (n c : Nat)
theorem bK : isCall 43 (KLS A K i v) = some [pA A.Mu] := by kernel_rfl
theorem rK : isRun (KLS A K i v) = true := by kernel_rfl
noncomputable def o4 : Orc := fun f d => bif f == 42 && d == 7 then some (.slice (some oA) n c) else none
noncomputable def c4 : Par := { O := o4 oA n c, X := xDst 42 10 }
noncomputable def g4 : Goroutine := endR Tryz.prog (c4 oA n c) 60 (fin (KLS A K i v) (.tuple #[]))
theorem a4 : Run Tryz.prog (c4 oA n c) 60 (fin (KLS A K i v) (.tuple #[])) := ⟨fun w => by kernel_rfl, by kernel_rfl⟩
theorem l4 : ldsR Tryz.prog (c4 oA n c) 60 (fin (KLS A K i v) (.tuple #[])) = [(42, ⟨A.V, 0, none⟩, .slice (some oA) n c)] := by kernel_rfl
theorem b4 : isIdx Tryz.prog (g4 A K i v oA n c) = some (oA, n, i, 1) := by kernel_rfl
theorem r4 : isRun (g4 A K i v oA n c) = true := by kernel_rfl
noncomputable def g5 : Goroutine := endR Tryz.prog cW 60 (fin (g4 A K i v oA n c) (.pointer (some oa)))
theorem a5 : Run Tryz.prog cW 60 (fin (g4 A K i v oA n c) (.pointer (some oa))) := ⟨fun w => by kernel_rfl, by kernel_rfl⟩
theorem b5 : isStore Tryz.prog (g5 A K i v oA oa n c) = some (oa, .int .i64 v) := by kernel_rfl
theorem n5 : norace Tryz.prog (g5 A K i v oA oa n c).frame.fn = false := by kernel_rfl
theorem r5 : isRun (g5 A K i v oA oa n c) = true := by kernel_rfl
noncomputable def g6 : Goroutine := endR Tryz.prog (cX (xIn 44)) 60 (fin (g5 A K i v oA oa n c) undef)
theorem a6 : Run Tryz.prog (cX (xIn 44)) 60 (fin (g5 A K i v oA oa n c) undef) := ⟨fun w => by kernel_rfl, by kernel_rfl⟩
noncomputable def fr6 : Frame := (g6 A K i v oA oa n c).callers.headD default
noncomputable def cs6 : List Frame := (g6 A K i v oA oa n c).callers.tail
theorem h6 : g6 A K i v oA oa n c = enterD (fr6 A K i v oA oa n c) (cs6 A K i v oA oa n c) 44 #[pA A.Mu] := by kernel_rfl
noncomputable def g7 : Goroutine := endR Tryz.prog (cX xHeadW) 60 (backD (fr6 A K i v oA oa n c) (cs6 A K i v oA oa n c))
theorem a7 : Run Tryz.prog (cX xHeadW) 60 (backD (fr6 A K i v oA oa n c) (cs6 A K i v oA oa n c)) := ⟨fun w => by kernel_rfl, by kernel_rfl⟩
theorem h7' : g7 A K i v oA oa n c = WHS A (junk (g7 A K i v oA oa n c)) := by kernel_rfl
end
end Rd
section
variable {E : Env} {P : Program} {k : Nat} {σ σ' : Gh} {w w' : World} {Stop : Gh -> Goroutine -> World -> Prop}
theorem sumTo_shift {n : Nat} (f : Nat -> Nat) : sumTo (n + 1) f = f 0 + sumTo n fun i => f (i + 1) := by
 induction n with
 | zero => simp [sumTo]
 | succ n ih =>
  show sumTo (n + 1) f + f (n + 1) = f 0 + (sumTo n (fun i => f (i + 1)) + f (n + 1))
  rw [ih]; omega
theorem rest_step {m : Nat} (h : m < E.n) : E.rest m = E.cost m + E.rest (m + 1) := by
 unfold Env.rest
 obtain ⟨r, hr⟩ : ∃ r, E.n - m = r + 1 := ⟨E.n - m - 1, by omega⟩
 rw [hr, sumTo_shift, show E.n - (m + 1) = r by omega]
 simp only [Nat.add_zero]
 congr 1
 exact sumTo_congr fun i _ => by rw [show m + (i + 1) = m + 1 + i by omega]
theorem rest_none {m : Nat} (h : E.n <= m) : E.rest m = 0 := by
 unfold Env.rest
 rw [show E.n - m = 0 by omega]; rfl
def Wk.take (x : Wk) (i c : Nat) : Wk := { x with lk := .fr, idx := i, wrote := false, due := c }
def Wk.leave (x : Wk) : Wk := { x with gone := true }
def Gh.take (σ : Gh) (k c : Nat) : Gh := { σ with nx := σ.nx + 1, wk := upd σ.wk k ((σ.wk k).take σ.nx c) }
def Gh.gone (σ : Gh) (k : Nat) : Gh := { σ with nx := σ.nx + 1, wk := upd σ.wk k (σ.wk k).leave }
theorem eqk {β : Type} {k : Nat} {x : Wk} (φ : Wk -> β) (h : φ x = φ (σ.wk k)) : ∀ j, φ (upd σ.wk k x j) = φ (σ.wk j) := fun j => by
 by_cases e : j = k
 · subst e; rw [upd_same]; exact h
 · rw [upd_ne _ _ e]
theorem wgi_same {x : Wk} (h : x.fin = (σ.wk k).fin) (H : WInv σ.ms σ.wg σ.ws (c5 σ.num σ.wk) (c43 σ.num σ.wk) (c2 σ.num σ.wk)) : WInv σ.ms σ.wg σ.ws (c5 σ.num (upd σ.wk k x)) (c43 σ.num (upd σ.wk k x)) (c2 σ.num (upd σ.wk k x)) := by
 have a1 : c5 σ.num (upd σ.wk k x) = c5 σ.num σ.wk := sum_same (φ := fun z => if 5 <= z.fin then 1 else 0) (by rw [h])
 have a2 : c43 σ.num (upd σ.wk k x) = c43 σ.num σ.wk := sum_same (φ := fun z => if z.fin = 4 \/ z.fin = 3 then 1 else 0) (by rw [h])
 have a3 : c2 σ.num (upd σ.wk k x) = c2 σ.num σ.wk := sum_same (φ := fun z => if z.fin = 2 then 1 else 0) (by rw [h])
 rw [a1, a2, a3]; exact H
theorem notPend_out {x : Wk} (h : x.lk = .out) : ¬ Pend x := by unfold Pend; simp [h]
theorem Inv.take {n : Nat} (I : Inv n σ) (hk : k < σ.num) (ho : (σ.wk k).lk = .out) (h7 : (σ.wk k).fin = 7) (hn : σ.nx < n) (hn1 : n <= 1) {c : Nat} : Inv n (σ.take k c) := by
 have ef := eqk (σ := σ) (k := k) (x := (σ.wk k).take σ.nx c) Wk.fin rfl
 have el := eqk (σ := σ) (k := k) (x := (σ.wk k).take σ.nx c) Wk.low rfl
 have hnp := notPend_out ho
 have at_ : ∀ j, j ≠ k -> upd σ.wk k ((σ.wk k).take σ.nx c) j = σ.wk j := fun j h => upd_ne _ _ h
 have ak : upd σ.wk k ((σ.wk k).take σ.nx c) k = (σ.wk k).take σ.nx c := upd_same _ _ _
 have idx_lt : ∀ j, j < σ.num -> Pend (σ.wk j) -> (σ.wk j).idx < σ.nx := fun j hj p => (I.lkf j hj (fun e => notPend_out e p)).2.2
 refine ⟨(I.mx.take (x := (σ.wk k).take σ.nx c) hk ho rfl).1, wgi_same (x := (σ.wk k).take σ.nx c) rfl I.wgi, fun j hj hl => ?_, fun i hi hx => ?_, fun i j hi hj p q => ?_, fun j hj p => ?_, fun i hi => ?_, fun j hj => ?_, fun j hj hf => ?_, fun j hj => ?_, I.num, ?_⟩
 · show (upd σ.wk k _ j).fin = 7 /\ (upd σ.wk k _ j).idx < n /\ (upd σ.wk k _ j).idx < σ.nx + 1
   by_cases e : j = k
   · subst e; rw [ak]; exact ⟨h7, hn, Nat.lt_succ_self _⟩
   · have hl : (upd σ.wk k _ j).lk ≠ .out := hl
     rw [at_ j e] at hl ⊢
     obtain ⟨p1, p2, p3⟩ := I.lkf j hj hl
     exact ⟨p1, p2, by omega⟩
 · show σ.writ i = true \/ ∃ j, j < σ.num /\ Pend (upd σ.wk k _ j) /\ (upd σ.wk k _ j).idx = i
   have hx : i < σ.nx + 1 := hx
   by_cases e : i = σ.nx
   · exact .inr ⟨k, hk, by rw [ak]; exact .inl rfl, by rw [ak, e]; rfl⟩
   · rcases I.done i hi (by omega) with h | ⟨j, a, b, d⟩
     · exact .inl h
     · have hjk : j ≠ k := fun e => hnp (e ▸ b)
       exact .inr ⟨j, a, by rw [at_ j hjk]; exact b, by rw [at_ j hjk]; exact d⟩
 · have ek : ∀ i, i < σ.num -> (upd σ.wk k ((σ.wk k).take σ.nx c) i).lk ≠ .out -> i = k := fun i hi hl => by
    by_cases e : i = k
    · exact e
    · rw [at_ i e] at hl
      have := (I.lkf i hi hl).2.2
      omega
   rw [ek i hi p, ek j hj q]
 · show σ.writ (upd σ.wk k _ j).idx = false
   have p : Pend (upd σ.wk k _ j) := p
   by_cases e : j = k
   · subst e
     rw [ak]
     show σ.writ σ.nx = false
     cases h : σ.writ σ.nx with
     | false => rfl
     | true => have := (I.wfut _ h).1; omega
   · rw [at_ j e] at p ⊢
     exact I.pw j hj p
 · obtain ⟨a, b⟩ := I.wfut i hi
   exact ⟨Nat.lt_succ_of_lt a, b⟩
 · show 1 <= (upd σ.wk k _ j).fin /\ (upd σ.wk k _ j).fin <= 7
   rw [ef j]; exact I.fin j hj
 · have ea := eqk (σ := σ) (k := k) (x := (σ.wk k).take σ.nx c) Away rfl
   exact Nat.le_succ_of_le (I.all j hj ((ea j).mp hf))
 · show (upd σ.wk k _ j).low <= σ.hs
   rw [el j]; exact I.low j hj
 · show σ.nx + 1 <= n + cgone σ.num (upd σ.wk k _)
   omega
theorem Inv.gone {n : Nat} (I : Inv n σ) (hk : k < σ.num) (hg : (σ.wk k).gone = false) (hn : n <= σ.nx) : Inv n (σ.gone k) := by
 have e1 := eqk (σ := σ) (k := k) (x := (σ.wk k).leave) Wk.lk rfl
 have e2 := eqk (σ := σ) (k := k) (x := (σ.wk k).leave) Wk.fin rfl
 have e3 := eqk (σ := σ) (k := k) (x := (σ.wk k).leave) Wk.idx rfl
 have e4 := eqk (σ := σ) (k := k) (x := (σ.wk k).leave) Wk.low rfl
 have e5 := eqk (σ := σ) (k := k) (x := (σ.wk k).leave) Pend rfl
 refine ⟨I.mx.same (x := (σ.wk k).leave) rfl, wgi_same (x := (σ.wk k).leave) rfl I.wgi, fun j hj hl => ?_, fun i hi hx => ?_, fun i j hi hj p q => ?_, fun j hj p => ?_, fun i hi => ?_, fun j hj => ?_, fun j hj hf => ?_, fun j hj => by rw [show (σ.gone k).wk = upd σ.wk k _ from rfl, e4 j]; exact I.low j hj, I.num, ?_⟩
 · show (upd σ.wk k _ j).fin = 7 /\ (upd σ.wk k _ j).idx < n /\ (upd σ.wk k _ j).idx < σ.nx + 1
   rw [e2 j, e3 j]
   obtain ⟨p1, p2, p3⟩ := I.lkf j hj (by rw [<- e1 j]; exact hl)
   exact ⟨p1, p2, by omega⟩
 · rcases I.done i hi (by omega) with h | ⟨j, a, b, d⟩
   · exact .inl h
   · exact .inr ⟨j, a, (e5 j).symm ▸ b, (e3 j).trans d⟩
 · exact I.uniq i j hi hj (by rw [<- e1 i]; exact p) (by rw [<- e1 j]; exact q)
 · show σ.writ (upd σ.wk k _ j).idx = false
   rw [e3 j]; exact I.pw j hj ((e5 j) ▸ p)
 · obtain ⟨a, b⟩ := I.wfut i hi
   exact ⟨Nat.lt_succ_of_lt a, b⟩
 · show 1 <= (upd σ.wk k _ j).fin /\ (upd σ.wk k _ j).fin <= 7
   rw [e2 j]; exact I.fin j hj
 · exact Nat.le_succ_of_le hn
 · show σ.nx + 1 <= n + cgone σ.num (upd σ.wk k _)
   have h := sumTo_upd σ.wk (σ.wk k).leave (fun z => if z.gone = true then 1 else 0) hk
   have h1 : (if (σ.wk k).leave.gone = true then 1 else 0 : Nat) = 1 := rfl
   have h2 : (if (σ.wk k).gone = true then 1 else 0 : Nat) = 0 := by rw [hg]; rfl
   have h3 : cgone σ.num (upd σ.wk k (σ.wk k).leave) = sumTo σ.num fun a => if (upd σ.wk k (σ.wk k).leave a).gone = true then 1 else 0 := rfl
   have h4 : cgone σ.num σ.wk = sumTo σ.num fun a => if (σ.wk a).gone = true then 1 else 0 := rfl
   have := I.nb
   omega
theorem Turn.take (hE : E.Ok) (hJ : J E σ w) (hk : k < σ.num) (ho : (σ.wk k).lk = .out) (h7 : (σ.wk k).fin = 7) (hdu : (σ.wk k).due = 0) (hn : σ.nx < E.n) : Turn E k σ w #[⟨.cell (nxA E), false, true⟩, ⟨.cell (nxA E), true, true⟩] (σ.take k (E.cost σ.nx)) (w.setCell (nxA E) (.int .i64 ((σ.nx + 1 : Nat) : Int))) := by
 have ak : (σ.take k (E.cost σ.nx)).wk k = (σ.wk k).take σ.nx (E.cost σ.nx) := upd_same _ _ _
 have hd := dues_upd (wk := σ.wk) hk ((σ.wk k).take σ.nx (E.cost σ.nx))
 have hdc : ((σ.wk k).take σ.nx (E.cost σ.nx)).due = E.cost σ.nx := rfl
 have hr := rest_step hn
 have hs : Same E w (w.setCell (nxA E) (.int .i64 ((σ.nx + 1 : Nat) : Int))) := .set (.inr (.inl rfl))
 have j' : J E (σ.take k (E.cost σ.nx)) _ := J.turn hE hJ hs (hJ.four.setNx hE) (hJ.inv.take hk ho h7 hn hE.n) (by
  have := hJ.acc
  show σ.hs + dues σ.num (upd σ.wk k _) + E.rest (σ.nx + 1) + σ.dm = E.tot
  omega) rfl rfl rfl
 have hpt := (hJ.inv.mx.take (x := (σ.wk k).take σ.nx (E.cost σ.nx)) hk ho rfl).2
 have hpot : Wp.pot E.n (σ.take k (E.cost σ.nx)) = Wp.pot E.n σ := by
  unfold Wp.pot
  show pots σ.num (upd σ.wk k _) + σ.mx.sm + 5 * (E.n - (σ.nx + 1)) = _
  omega
 exact ⟨j', fun j hj => upd_ne _ _ hj, rfl, rfl, rfl, rfl, rfl, rfl, by rw [ak]; rfl, hs, ⟨Nat.le_of_eq hpot, .inl rfl⟩, fun _ _ _ _ h => ⟨h, Nat.le_refl _⟩, fun h => by rw [ak] at h; exact h, by rw [h7]; decide, by rw [ak]; rfl, fun _ h => h, fun e he => by
  simp only [List.mem_toArray, List.mem_cons, List.not_mem_nil, or_false] at he
  rcases he with rfl | rfl <;> exact Book.evW j' (.at_ _ _ (.inr (.inl rfl))), fun h => by rw [ak] at h; have h : (σ.wk k).fin <= 6 := h; omega⟩
theorem Turn.gone (hE : E.Ok) (hJ : J E σ w) (hk : k < σ.num) (hg : (σ.wk k).gone = false) (h7 : (σ.wk k).fin = 7) (hn : E.n <= σ.nx) : Turn E k σ w #[⟨.cell (nxA E), false, true⟩, ⟨.cell (nxA E), true, true⟩] (σ.gone k) (w.setCell (nxA E) (.int .i64 ((σ.nx + 1 : Nat) : Int))) := by
 have ak : (σ.gone k).wk k = (σ.wk k).leave := upd_same _ _ _
 have hd : dues σ.num (upd σ.wk k (σ.wk k).leave) = dues σ.num σ.wk := dues_same rfl
 have hr : E.rest (σ.nx + 1) = E.rest σ.nx := by rw [rest_none hn, rest_none (by omega)]
 have hs : Same E w (w.setCell (nxA E) (.int .i64 ((σ.nx + 1 : Nat) : Int))) := .set (.inr (.inl rfl))
 have j' : J E (σ.gone k) _ := J.turn hE hJ hs (hJ.four.setNx hE) (hJ.inv.gone hk hg hn) (by
  have := hJ.acc
  show σ.hs + dues σ.num (upd σ.wk k _) + E.rest (σ.nx + 1) + σ.dm = E.tot
  omega) rfl rfl rfl
 have hpot : Wp.pot E.n (σ.gone k) = Wp.pot E.n σ := by
  unfold Wp.pot
  show pots σ.num (upd σ.wk k _) + σ.mx.sm + 5 * (E.n - (σ.nx + 1)) = _
  rw [pots_same (x := (σ.wk k).leave) rfl]
  omega
 exact ⟨j', fun j hj => upd_ne _ _ hj, rfl, rfl, rfl, rfl, rfl, rfl, by rw [ak]; rfl, hs, ⟨Nat.le_of_eq hpot, .inl rfl⟩, fun _ _ _ _ h => ⟨h, Nat.le_refl _⟩, fun h => by rw [ak] at h; exact h, by rw [h7]; decide, by rw [ak]; rfl, fun _ h => h, fun e he => by
  simp only [List.mem_toArray, List.mem_cons, List.not_mem_nil, or_false] at he
  rcases he with rfl | rfl <;> exact Book.evW j' (.at_ _ _ (.inr (.inl rfl))), fun h => by rw [ak] at h; have h : (σ.wk k).fin <= 6 := h; omega⟩
theorem J.nxLe (hE : E.Ok) (h : J E σ w) : σ.nx <= 40 := by
 have h1 := h.inv.nb
 have h2 : cgone σ.num σ.wk <= σ.num := sum_le fun i _ => by split <;> omega
 have h3 := h.inv.num
 have h4 := hE.n
 omega
theorem stop_take (hE : E.Ok) {m : Nat} {g : Goroutine} (hg : isCall 67 g = some [.pointer (some (nxA E)), .int .i64 1]) (hf : ExtF P 67 (Extern.Atomic.update (Op.intArith .add) .i64 true)) (hr : isRun g = true) (hr' : ∀ v, isRun (fin g v) = true) (hJ : J E σ w) (hk : k < σ.num) (ho : (σ.wk k).lk = .out) (h7 : (σ.wk k).fin = 7) (hdu : (σ.wk k).due = 0) (hgo : (σ.wk k).gone = false)
  (h1 : ∀ σ₁ w₁ (i : Nat), Keep E k σ w σ₁ w₁ -> i < E.n -> σ₁.wk k = (σ.wk k).take i (E.cost i) -> GoesW P (proto E P) (k + 1) Stop m σ₁ (fin g (.int .i64 ((i + 1 : Nat) : Int))) w₁)
  (h2 : ∀ σ₁ w₁ (i : Nat), Keep E k σ w σ₁ w₁ -> E.n <= i -> i <= 40 -> σ₁.wk k = (σ.wk k).leave -> GoesW P (proto E P) (k + 1) Stop m σ₁ (fin g (.int .i64 ((i + 1 : Nat) : Int))) w₁) : GoesW P (proto E P) (k + 1) Stop (m + 1) σ g w :=
 goW hr hk fun σ₁ w₁ hw hk1 => by
  have hle := hw.j.nxLe hE
  have hst := step_add (P := P) (main := false) hg hf hw.j.cellNx hw.j.thawNx
  rw [wrap_id (by omega) (by omega), show ((σ₁.nx : Int) + 1) = ((σ₁.nx + 1 : Nat) : Int) by omega] at hst
  by_cases hn : σ₁.nx < E.n
  · have T := Turn.take (k := k) hE hw.j hk1 (by rw [hw.wk]; exact ho) (by rw [hw.wk]; exact h7) (by rw [hw.wk]; exact hdu) hn
    exact ⟨_, _, _, _, hst, T, hr' _, no_wake (Nat.le_refl _) rfl, h1 _ _ σ₁.nx (hw.keep.trans (T.keep hw.j)) hn (by show upd σ₁.wk k _ k = _; rw [upd_same, hw.wk])⟩
  · have T := Turn.gone (k := k) hE hw.j hk1 (by rw [hw.wk]; exact hgo) (by rw [hw.wk]; exact h7) (by omega)
    exact ⟨_, _, _, _, hst, T, hr' _, no_wake (Nat.le_refl _) rfl, h2 _ _ σ₁.nx (hw.keep.trans (T.keep hw.j)) (by omega) hle (by show upd σ₁.wk k _ k = _; rw [upd_same, hw.wk])⟩
end
section
variable {E : Env} {P : Program} {k : Nat} {σ σ' : Gh} {w w' : World} {Stop : Gh -> Goroutine -> World -> Prop}
def Wk.done (x : Wk) : Wk := { x with wrote := true }
def Gh.write (σ : Gh) (k : Nat) : Gh := { σ with writ := upd σ.writ (σ.wk k).idx true, wk := upd σ.wk k (σ.wk k).done }
theorem Inv.write {n : Nat} (I : Inv n σ) (hk : k < σ.num) (ho : (σ.wk k).lk = .hd) (hw : (σ.wk k).wrote = false) : Inv n (σ.write k) := by
 have e1 := eqk (σ := σ) (k := k) (x := (σ.wk k).done) Wk.lk rfl
 have e2 := eqk (σ := σ) (k := k) (x := (σ.wk k).done) Wk.fin rfl
 have e3 := eqk (σ := σ) (k := k) (x := (σ.wk k).done) Wk.idx rfl
 have e4 := eqk (σ := σ) (k := k) (x := (σ.wk k).done) Wk.low rfl
 have hp : Pend (σ.wk k) := .inr (.inr (.inr (.inr ⟨ho, hw⟩)))
 have hnp : ¬ Pend (σ.wk k).done := by unfold Pend; simp [Wk.done, ho]
 have ak : upd σ.wk k (σ.wk k).done k = (σ.wk k).done := upd_same _ _ _
 have at_ : ∀ j, j ≠ k -> upd σ.wk k (σ.wk k).done j = σ.wk j := fun j h => upd_ne _ _ h
 have back_ : ∀ j, Pend (upd σ.wk k (σ.wk k).done j) -> j ≠ k /\ Pend (σ.wk j) := fun j p => by
  by_cases e : j = k
  · rw [e, ak] at p; exact absurd p hnp
  · rw [at_ j e] at p; exact ⟨e, p⟩
 obtain ⟨_, hin, hix⟩ := I.lkf k hk (by rw [ho]; decide)
 refine ⟨I.mx.same (x := (σ.wk k).done) rfl, wgi_same (x := (σ.wk k).done) rfl I.wgi, fun j hj hl => ?_, fun i hi hx => ?_, fun i j hi hj p q => ?_, fun j hj p => ?_, fun i hi => ?_, fun j hj => ?_, fun j hj hf => ?_, fun j hj => by rw [show (σ.write k).wk = upd σ.wk k _ from rfl, e4 j]; exact I.low j hj, I.num, ?_⟩
 · show (upd σ.wk k _ j).fin = 7 /\ (upd σ.wk k _ j).idx < n /\ (upd σ.wk k _ j).idx < σ.nx
   rw [e2 j, e3 j]
   exact I.lkf j hj (by rw [<- e1 j]; exact hl)
 · show upd σ.writ _ true i = true \/ _
   by_cases e : i = (σ.wk k).idx
   · subst e; exact .inl (upd_same _ _ _)
   · rw [upd_ne _ _ e]
     rcases I.done i hi hx with h | ⟨j, a, b, d⟩
     · exact .inl h
     · have hjk : j ≠ k := fun h => e (by rw [<- d, h])
       exact .inr ⟨j, a, by show Pend (upd σ.wk k _ j); rw [at_ j hjk]; exact b, by show (upd σ.wk k _ j).idx = i; rw [at_ j hjk]; exact d⟩
 · exact I.uniq i j hi hj (by rw [<- e1 i]; exact p) (by rw [<- e1 j]; exact q)
 · obtain ⟨a1, a2⟩ := back_ j p
   show upd σ.writ _ true (upd σ.wk k _ j).idx = false
   rw [e3 j]
   have hne : (σ.wk j).idx ≠ (σ.wk k).idx := fun _ => a1 (I.uniq j k hj hk (fun e => notPend_out e a2) (by rw [ho]; decide))
   rw [upd_ne _ _ hne]
   exact I.pw j hj a2
 · have hi : upd σ.writ (σ.wk k).idx true i = true := hi
   by_cases e : i = (σ.wk k).idx
   · subst e; exact ⟨hix, hin⟩
   · rw [upd_ne _ _ e] at hi; exact I.wfut i hi
 · show 1 <= (upd σ.wk k _ j).fin /\ (upd σ.wk k _ j).fin <= 7
   rw [e2 j]; exact I.fin j hj
 · have ea := eqk (σ := σ) (k := k) (x := (σ.wk k).done) Away rfl
   exact I.all j hj ((ea j).mp hf)
 · have : cgone σ.num (upd σ.wk k (σ.wk k).done) = cgone σ.num σ.wk := sum_same (φ := fun z => if z.gone = true then 1 else 0) rfl
   show σ.nx <= n + cgone σ.num (upd σ.wk k _)
   rw [this]; exact I.nb
theorem Turn.write (hE : E.Ok) (hJ : J E σ w) (hk : k < σ.num) (ho : (σ.wk k).lk = .hd) (hwr : (σ.wk k).wrote = false) : Turn E k σ w #[⟨.cell ⟨E.O, (σ.wk k).idx, none⟩, true, false⟩] (σ.write k) (w.setCell ⟨E.O, (σ.wk k).idx, none⟩ (.int .i64 (E.val (σ.wk k).idx))) := by
 have ak : (σ.write k).wk k = (σ.wk k).done := upd_same _ _ _
 obtain ⟨h7, hin, hix⟩ := hJ.inv.lkf k hk (by rw [ho]; decide)
 have hd : dues σ.num (upd σ.wk k (σ.wk k).done) = dues σ.num σ.wk := dues_same rfl
 have hs : Same E w (w.setCell ⟨E.O, (σ.wk k).idx, none⟩ (.int .i64 (E.val (σ.wk k).idx))) := .set (.inr (.inr (.inr rfl)))
 have j' : J E (σ.write k) _ := J.turn hE hJ hs (hJ.four.setO hE hin) (hJ.inv.write hk ho hwr) (by
  have := hJ.acc
  show σ.hs + dues σ.num (upd σ.wk k _) + E.rest σ.nx + σ.dm = E.tot
  omega) rfl rfl rfl
 have hpot : Wp.pot E.n (σ.write k) = Wp.pot E.n σ := by
  unfold Wp.pot
  show pots σ.num (upd σ.wk k _) + σ.mx.sm + 5 * (E.n - σ.nx) = _
  rw [pots_same (x := (σ.wk k).done) rfl]
 have hp : Pend (σ.wk k) := .inr (.inr (.inr (.inr ⟨ho, hwr⟩)))
 refine ⟨j', fun j hj => upd_ne _ _ hj, rfl, rfl, rfl, rfl, rfl, rfl, by rw [ak]; rfl, hs, ⟨Nat.le_of_eq hpot, .inl rfl⟩, fun _ _ _ _ h => ⟨h, Nat.le_refl _⟩, fun h => by rw [ak] at h; exact h, by rw [h7]; decide, by rw [ak]; rfl, fun i h => ?_, fun e he => ?_, fun h => by rw [ak] at h; have h : (σ.wk k).fin <= 6 := h; omega⟩
 · show upd σ.writ _ true i = true
   by_cases e : i = (σ.wk k).idx
   · subst e; exact upd_same _ _ _
   · rw [upd_ne _ _ e]; exact h
 · simp only [List.mem_toArray, List.mem_cons, List.not_mem_nil, or_false] at he
   subst he
   refine ⟨by simp, hJ.oLt, fun y hy => ?_⟩
   simp only [MemAct.ofEvent, MemAct.touch?, Option.some.injEq] at hy
   subst hy
   refine .inr (.inl ⟨⟨_, rfl, rfl⟩, ?_, rfl, ?_, ⟨_, rfl, rfl, upd_same _ _ _⟩⟩)
   · rintro ⟨a, e, h | h | h⟩ <;> cases e
     · exact hE.mo h.symm
     · exact hE.no h.symm
     · exact hE.wo h.symm
   · rintro ⟨a, e, _, h⟩
     cases e
     have := hJ.inv.pw k hk hp
     rw [this] at h
     cases h
theorem stop_write (hE : E.Ok) {m : Nat} {g : Goroutine} {i : Nat} (hg : isStore P g = some (⟨E.O, i, none⟩, .int .i64 (E.val i))) (hq : norace P g.frame.fn = false) (hr : isRun g = true) (hr' : isRun (fin g undef) = true) (hJ : J E σ w) (hk : k < σ.num) (ho : (σ.wk k).lk = .hd) (hi : (σ.wk k).idx = i) (hwr : (σ.wk k).wrote = false)
  (h : ∀ σ₁ w₁, Keep E k σ w σ₁ w₁ -> σ₁.wk k = (σ.wk k).done -> GoesW P (proto E P) (k + 1) Stop m σ₁ (fin g undef) w₁) : GoesW P (proto E P) (k + 1) Stop (m + 1) σ g w :=
 goW hr hk fun σ₁ w₁ hw hk1 => by
  have hwk := hw.wk
  have ho1 : (σ₁.wk k).lk = .hd := by rw [hwk]; exact ho
  obtain ⟨_, hin, _⟩ := hw.j.inv.lkf k hk1 (by rw [ho1]; decide)
  have hi1 : (σ₁.wk k).idx = i := by rw [hwk]; exact hi
  obtain ⟨cs, hc1, hc2, _⟩ := hw.j.o
  have hcell : ∃ u, w₁.cell? ⟨E.O, i, none⟩ = some u := by
   rw [cell_of rfl (show w₁.heap[(⟨E.O, i, none⟩ : Addr).block]? = _ from hc1)]
   exact ⟨_, Array.getElem?_eq_getElem (by show i < cs.size; rw [hc2, <- hi1]; exact hin)⟩
  obtain ⟨u, hu⟩ := hcell
  have hst := step_store (main := false) hg hu (thaw_of (a := ⟨E.O, i, none⟩) hc1)
  rw [hq] at hst
  have T := Turn.write (k := k) hE hw.j hk1 ho1 (by rw [hwk]; exact hwr)
  rw [hi1] at T
  exact ⟨_, _, _, _, hst, T, hr', no_wake (Nat.le_refl _) rfl, h _ _ (hw.keep.trans (T.keep hw.j)) (by show upd σ₁.wk k _ k = _; rw [upd_same, hwk])⟩
end
structure Tasks where
 zs : Nat -> List Int
 p : Nat -> Option Addr
 cap : Nat -> Nat
structure Data (E : Env) (A : Rd.Adr) (tq : Option Addr) (n c : Nat) (D : Tasks) (k : Nat) (σ : Gh) (w : World) : Prop where
 mu : A.Mu = E.Mu
 nx : A.Nx = E.Nx
 wg : A.Wg = E.Wg
 hn : n = E.n
 t : Known E Tryz.prog k σ w (46, ⟨A.T, 0, none⟩, .slice tq n c)
 s : Known E Tryz.prog k σ w (46, ⟨A.S, 0, none⟩, Rd.stoV A)
 v : Known E Tryz.prog k σ w (42, ⟨A.V, 0, none⟩, .slice (some ⟨E.O, 0, none⟩) n n)
 bf : Known E Tryz.prog k σ w (64, ⟨A.bf, 0, none⟩, Rd.wrkV A)
 bw : Known E Tryz.prog k σ w (65, ⟨A.bw, 0, none⟩, Rd.pA A.Wg)
 el : ∀ i, i < n -> ∃ ad, tq = some ad /\ Known E Tryz.prog k σ w (46, ad.add (i * 1), .slice (D.p i) (D.zs i).length (D.cap i))
 nums : ∀ i, i < n -> Nums E k σ w 48 (D.p i) (D.zs i)
 inm : ∀ i, i < n -> ∀ z ∈ D.zs i, inM z
 len : ∀ i, i < n -> (D.zs i).length <= 1000
 val : ∀ i, i < n -> E.val i = (D.zs i).foldl pairF 0
 cost : ∀ i, i < n -> E.cost i = 3 * (D.zs i).length
theorem Data.keep {E : Env} {A : Rd.Adr} {tq : Option Addr} {n c : Nat} {D : Tasks} {k : Nat} {σ σ' : Gh} {w w' : World} (h : Data E A tq n c D k σ w) (hK : Keep E k σ w σ' w') (hf : (σ'.wk k).fin = (σ.wk k).fin) : Data E A tq n c D k σ' w' :=
 ⟨h.mu, h.nx, h.wg, h.hn, h.t.keep hK hf, h.s.keep hK hf, h.v.keep hK hf, h.bf.keep hK hf, h.bw.keep hK hf, fun i hi => let ⟨ad, e, hk⟩ := h.el i hi; ⟨ad, e, hk.keep hK hf⟩, fun i hi => (h.nums i hi).keep hK hf, h.inm, h.len, h.val, h.cost⟩
theorem on_self {x : Wk} {l : Lk} {d : Nat} (h : x.lk = l) (h' : x.df = d) : x.on l d = x := by
 cases x; simp_all [Wk.on]
theorem hb32 : HasBody 43 := hasBody_of Tryz.f43 (by kernel_rfl) (by kernel_rfl) (by kernel_rfl)
structure AtHead (x : Wk) : Prop where
 lk : x.lk = .out
 fin : x.fin = 7
 df : x.df = 0
 gone : x.gone = false
 due : x.due = 0
structure AtDoor (x : Wk) : Prop where
 lk : x.lk = .out
 fin : x.fin = 7
 df : x.df = 0
 gone : x.gone = true
 due : x.due = 0
section
variable {E : Env} {k : Nat} {Stop : Gh -> Goroutine -> World -> Prop} {m : Nat} {σ : Gh} {w : World} {A : Rd.Adr} {tq : Option Addr} {n c : Nat} {D : Tasks}
theorem wk_fin {x : Wk} : x.fin = 7 -> x.fin ≠ 1 := by omega
theorem head_w (hE : E.Ok) (hD : Data E A tq n c D k σ w) (hJ : J E σ w) (hk : k < σ.num) (hH : AtHead (σ.wk k)) {J' : Nat -> Value} {N : Nat}
  (h1 : ∀ σ₁ w₁ (i : Nat), Keep E k σ w σ₁ w₁ -> i < n -> σ₁.wk k = (σ.wk k).take i (E.cost i) -> GWt E k Stop N σ₁ (Rd.gW3 A J' ((i + 1 : Nat) : Int) tq n c false) w₁)
  (h2 : ∀ σ₁ w₁ (i : Nat), Keep E k σ w σ₁ w₁ -> AtDoor (σ₁.wk k) -> GWt E k Stop N σ₁ (Rd.gW3 A J' ((i + 1 : Nat) : Int) tq n c true) w₁) : GWt E k Stop (N + 200 + 1 + 60 + 1) σ (Rd.WHS A J') w := by
 have ha := wk_fin hH.fin
 refine stop_still hE (by omega) (Rd.eW1 A J') (Rd.rWH A J') (Rd.aW2 A J').head hJ hk ha fun σ₁ w₁ hw1 => ?_
 have hk1 : k < σ₁.num := Nat.lt_of_lt_of_le hk hw1.num
 show GoesW Tryz.prog (proto E Tryz.prog) (k + 1) Stop (N + 200 + 1 + 60) σ₁ _ w₁
 refine run0 cW_ok (Rd.aW2 A J') hw1.j (by rw [hw1.wk]; exact ha) fun σ₂ w₂ hw2 => ?_
 have hw12 := hw1.trans hw2
 have hk2 : k < σ₂.num := Nat.lt_of_lt_of_le hk hw12.num
 have hb := Rd.bW2 A J'
 rw [hD.nx] at hb
 refine stop_take hE (m := N + 200) hb x48 (Run.last (Rd.aW2 A J')) (fun v => (isRun_fin _ v).trans (Run.last (Rd.aW2 A J'))) hw2.j hk2 (by rw [hw12.wk]; exact hH.lk) (by rw [hw12.wk]; exact hH.fin) (by rw [hw12.wk]; exact hH.due) (by rw [hw12.wk]; exact hH.gone) (fun σ₃ w₃ i hK3 hi hx3 => ?_) (fun σ₃ w₃ i hK3 hi hi40 hx3 => ?_)
 · have hK13 := hw12.keep.trans hK3
   have hx3 : σ₃.wk k = (σ.wk k).take i (E.cost i) := by rw [hx3, hw12.wk]
   have hD3 := hD.keep hK13 (by rw [hx3]; rfl)
   have hn24 := hE.n
   have hdec : decide (IntKind.i64.wrap (((i + 1 : Nat) : Int) - 1) ≥ (n : Int)) = false := by
    rw [show (((i + 1 : Nat) : Int) - 1) = (i : Int) by omega, wrap_id (by omega) (by omega)]
    have := hD.hn
    simp; omega
   show GoesW Tryz.prog (proto E Tryz.prog) (k + 1) Stop (N + 200) σ₃ (fin (Rd.gW2 A J') (.int .i64 ((i + 1 : Nat) : Int))) w₃
   refine runW (F := 200) rfl (fun f d z hz => Rd.vW_ok hdec hz) (Rd.aW3 A J' ((i + 1 : Nat) : Int) tq n c) hK3.j (by rw [hx3]; exact ha) (fun x hx => ?_) fun σ₄ w₄ hw4 => ?_
   · rw [Rd.lW3] at hx
     simp only [List.mem_cons, List.not_mem_nil, or_false] at hx
     subst hx
     exact hD3.t
   · exact h1 σ₄ w₄ i (hK13.trans hw4.keep) (by rw [hD.hn]; exact hi) (by rw [hw4.wk, hx3])
 · have hK13 := hw12.keep.trans hK3
   have hx3 : σ₃.wk k = (σ.wk k).leave := by rw [hx3, hw12.wk]
   have hD3 := hD.keep hK13 (by rw [hx3]; rfl)
   have hdec : decide (IntKind.i64.wrap (((i + 1 : Nat) : Int) - 1) ≥ (n : Int)) = true := by
    rw [show (((i + 1 : Nat) : Int) - 1) = (i : Int) by omega, wrap_id (by omega) (by omega)]
    have := hD.hn
    simp; omega
   show GoesW Tryz.prog (proto E Tryz.prog) (k + 1) Stop (N + 200) σ₃ (fin (Rd.gW2 A J') (.int .i64 ((i + 1 : Nat) : Int))) w₃
   refine runW (F := 200) rfl (fun f d z hz => Rd.vW_ok hdec hz) (Rd.aWe A J' ((i + 1 : Nat) : Int) tq n c) hK3.j (by rw [hx3]; exact ha) (fun x hx => ?_) fun σ₄ w₄ hw4 => ?_
   · rw [Rd.lWe] at hx
     simp only [List.mem_cons, List.not_mem_nil, or_false] at hx
     rcases hx with rfl | rfl
     · exact hD3.t
     · exact hD3.bw
   · refine h2 σ₄ w₄ i (hK13.trans hw4.keep) ?_
     rw [hw4.wk, hx3]
     exact ⟨hH.lk, hH.fin, hH.df, rfl, hH.due⟩
theorem task_w (hE : E.Ok) (hD : Data E A tq n c D k σ w) (hJ : J E σ w) (hk : k < σ.num) {y : Wk} (hy : y.fin = 7) {i : Nat} (hi : i < n) (hx : σ.wk k = y.take i (E.cost i)) {J' : Nat -> Value} {N C : Nat} (hC : 1001 * 27000 + 60 <= C)
  (h : ∀ σ₁ w₁ K', Keep E k σ w σ₁ w₁ -> σ₁.wk k = (y.take i (E.cost i)).pay (3 * (D.zs i).length) -> GWt E k Stop N σ₁ (Rd.KLS A K' (i : Int) (E.val i)) w₁) : GWt E k Stop (N + 40 + C + 1 + 40 + 1 + 40 + 1) σ (Rd.gW3 A J' ((i + 1 : Nat) : Int) tq n c false) w := by
 have h7 : (σ.wk k).fin = 7 := by rw [hx]; exact hy
 have ha := wk_fin h7
 obtain ⟨ad, rfl, hel⟩ := hD.el i hi
 have hlen := hD.len i hi
 have hn24 := hE.n
 have hnE := hD.hn
 refine goW (Rd.rW3 A J' ((i + 1 : Nat) : Int) (some ad) n c) hk fun σ₁ w₁ hw1 hk1 => ?_
 have hmem := schedule_mem (Tryz.prog.follows .mixedOrders) Rd.opsW (w₁.tape w₁.drawn (.order 46 Rd.idW))
 have heq := Rd.eW3 A J' ((i + 1 : Nat) : Int) (some ad) n c w₁
 generalize Region.schedule (Tryz.prog.follows .mixedOrders) Rd.opsW (w₁.tape w₁.drawn (.order 46 Rd.idW)) = o at hmem heq
 have hmem : o ∈ Rd.ordW := hmem
 have ha1 : (σ₁.wk k).fin ≠ 1 := by rw [hw1.wk]; exact ha
 have f1 := map_all (Rd.f1o A J' ((i + 1 : Nat) : Int) ad n c) o hmem
 simp only [Prod.mk.injEq] at f1
 obtain ⟨p1, p2, p3⟩ := f1
 have R1 : Run Tryz.prog (Rd.c1 A ad n c) 40 (Rd.gI A J' ((i + 1 : Nat) : Int) ad n c o) := ⟨fun w => map_all (Rd.f1s A J' ((i + 1 : Nat) : Int) ad n c w) o hmem, p1⟩
 have hi0 : RW E k σ₁ w₁ σ₁ w₁.asked := RW.idle hE hw1.j .asked hw1.j.four.asked
 have hwa := hw1.trans hi0
 refine ⟨_, w₁.asked, #[], σ₁, heq, Turn.idle hE hw1.j ha1 .asked hw1.j.four.asked, R1.head, no_wake (Nat.le_refl _) rfl, ?_⟩
 have wrapi : IntKind.i64.wrap (((i + 1 : Nat) : Int) - 1) = (i : Int) := by rw [show (((i + 1 : Nat) : Int) - 1) = (i : Int) by omega, wrap_id (by omega) (by omega)]
 rw [wrapi] at p2
 have kd : ∀ {σ' : Gh} {w' : World}, Keep E k σ w σ' w' -> (σ'.wk k).fin = (σ.wk k).fin -> Data E A (some ad) n c D k σ' w' := fun hK hf => hD.keep hK hf
 have hDa := kd hwa.keep (by rw [hwa.wk])
 show GoesW Tryz.prog (proto E Tryz.prog) (k + 1) Stop (N + 40 + C + 1 + 40 + 1 + 40) σ₁ (Rd.gI A J' ((i + 1 : Nat) : Int) ad n c o) w₁.asked
 refine runW (F := 40) (m := N + 40 + C + 1 + 40 + 1) rfl (fun f d x h => by cases h) R1 hi0.j ha1 (fun x hx' => ?_) fun σ₂ w₂ hw2 => ?_
 · rw [p3] at hx'
   obtain ⟨j, _, hj⟩ := List.mem_filterMap.1 hx'
   unfold Rd.ld1 at hj
   split at hj
   · cases hj; exact hDa.s
   · cases hj; exact hDa.t
   · cases hj
 have hw02 := hwa.trans hw2
 have ha2 : (σ₂.wk k).fin ≠ 1 := by rw [hw02.wk]; exact ha
 have hst := fun w => step_idx (main := false) (w := w) p2 (by omega) (by omega)
 rw [Int.toNat_natCast] at hst
 have f2 := map_all (Rd.f2o A J' ((i + 1 : Nat) : Int) ad (ad.add (i * 1)) (D.p i) n c (D.zs i).length (D.cap i)) o hmem
 simp only [Prod.mk.injEq] at f2
 obtain ⟨q1, q2, q3⟩ := f2
 have R2 : Run Tryz.prog (Rd.c2' A (D.p i) (D.zs i).length (D.cap i)) 40 (fin (Rd.g1 A J' ((i + 1 : Nat) : Int) ad n c o) (.pointer (some (ad.add (i * 1))))) := ⟨fun w => map_all (Rd.f2s A J' ((i + 1 : Nat) : Int) ad (ad.add (i * 1)) (D.p i) n c (D.zs i).length (D.cap i) w) o hmem, q1⟩
 refine stop_still hE (by omega) hst R1.last R2.head hw2.j (Nat.lt_of_lt_of_le hk hw02.num) ha2 fun σ₃ w₃ hw3 => ?_
 have hw03 := hw02.trans hw3
 have hD3 := kd hw03.keep (by rw [hw03.wk])
 show GoesW Tryz.prog (proto E Tryz.prog) (k + 1) Stop (N + 40 + C + 1 + 40) σ₃ (fin (Rd.g1 A J' ((i + 1 : Nat) : Int) ad n c o) (.pointer (some (ad.add (i * 1))))) w₃
 refine runW (F := 40) (m := N + 40 + C + 1) rfl (fun f d x h => by cases h) R2 hw3.j (by rw [hw03.wk]; exact ha) (fun x hx' => ?_) fun σ₄ w₄ hw4 => ?_
 · rw [q3] at hx'
   obtain ⟨j, _, hj⟩ := List.mem_filterMap.1 hx'
   unfold Rd.ld2 at hj
   split at hj
   · cases hj; exact hD3.s
   · cases hj
     obtain ⟨ad', e, hk'⟩ := hD3.el i hi
     cases e
     exact hk'
   · cases hj
 have hw04 := hw03.trans hw4
 refine stop_call hE (by omega) q2 hb29 R2.last hw4.j (Nat.lt_of_lt_of_le hk hw04.num) (by rw [hw04.wk]; exact ha) fun σ₅ w₅ hw5 => ?_
 have hw05 := hw04.trans hw5
 have hx5 : σ₅.wk k = y.take i (E.cost i) := by rw [hw05.wk, hx]
 have hD5 := kd hw05.keep (by rw [hw05.wk])
 show GoesW Tryz.prog (proto E Tryz.prog) (k + 1) Stop (N + 40 + C) σ₅ _ w₅
 refine fold_w hE (m := N + 40) hw5.j (by rw [hx5]; exact hy) (hD.inm i hi) (hD5.nums i hi) (Nat.lt_of_lt_of_le hk hw05.num) (by omega) (by rw [hx5]; show 3 * (D.zs i).length <= E.cost i; rw [hD.cost i hi]; exact Nat.le_refl _) (by have : ((D.zs i).length + 1) * 27000 <= 1001 * 27000 := Nat.mul_le_mul_right _ (by omega); omega) fun σ₆ w₆ hK6 hx6 => ?_
 have hK06 := hw05.keep.trans hK6
 have hx6 : σ₆.wk k = (y.take i (E.cost i)).pay (3 * (D.zs i).length) := by rw [hx6, hx5]
 rw [<- hD.val i hi]
 show GoesW Tryz.prog (proto E Tryz.prog) (k + 1) Stop (N + 40) σ₆ (back (Rd.g2 A J' ((i + 1 : Nat) : Int) ad (ad.add (i * 1)) (D.p i) n c (D.zs i).length (D.cap i) o).frame (Rd.g2 A J' ((i + 1 : Nat) : Int) ad (ad.add (i * 1)) (D.p i) n c (D.zs i).length (D.cap i) o).callers (.int .i64 (E.val i))) w₆
 rw [back_fin q2]
 have f3 := map_all (Rd.f3o A J' ((i + 1 : Nat) : Int) ad (ad.add (i * 1)) (D.p i) n c (D.zs i).length (D.cap i) (E.val i)) o hmem
 simp only [Prod.mk.injEq] at f3
 obtain ⟨r1, r2⟩ := f3
 have R3 : Run Tryz.prog (Rd.c3 A) 40 (fin (Rd.g2 A J' ((i + 1 : Nat) : Int) ad (ad.add (i * 1)) (D.p i) n c (D.zs i).length (D.cap i) o) (.int .i64 (E.val i))) := ⟨fun w => map_all (Rd.f3s A J' ((i + 1 : Nat) : Int) ad (ad.add (i * 1)) (D.p i) n c (D.zs i).length (D.cap i) (E.val i) w) o hmem, r1⟩
 have hD6 := kd hK06 (by rw [hx6, hx]; rfl)
 show GoesW Tryz.prog (proto E Tryz.prog) (k + 1) Stop (N + 40) σ₆ (fin (Rd.g2 A J' ((i + 1 : Nat) : Int) ad (ad.add (i * 1)) (D.p i) n c (D.zs i).length (D.cap i) o) (.int .i64 (E.val i))) w₆
 refine runW (F := 40) (m := N) rfl (fun f d x h => by cases h) R3 hK6.j (by rw [hx6]; exact wk_fin hy) (fun x hx' => ?_) fun σ₇ w₇ hw7 => ?_
 · rw [r2] at hx'
   obtain ⟨j, _, hj⟩ := List.mem_filterMap.1 hx'
   unfold Rd.ld3 at hj
   split at hj
   · cases hj; exact hD6.s
   · cases hj
 have e3 := map_all (Rd.f3e A J' ((i + 1 : Nat) : Int) ad (ad.add (i * 1)) (D.p i) n c (D.zs i).length (D.cap i) (E.val i)) o hmem
 show GoesW Tryz.prog (proto E Tryz.prog) (k + 1) Stop N σ₇ (Rd.g3 A J' ((i + 1 : Nat) : Int) ad (ad.add (i * 1)) (D.p i) n c (D.zs i).length (D.cap i) (E.val i) o) w₇
 rw [e3, wrapi]
 exact h σ₇ w₇ _ (hK06.trans hw7.keep) (by rw [hw7.wk, hx6])
theorem store_w (hE : E.Ok) (hD : Data E A tq n c D k σ w) (hJ : J E σ w) (hk : k < σ.num) {x0 : Wk} (h7 : x0.fin = 7) (hlk : x0.lk = .fr) (hdf : x0.df = 0) (hwr : x0.wrote = false) {i : Nat} (hi : i < n) (hidx : x0.idx = i) (hx : σ.wk k = x0) {K' : Nat -> Value} {N p B : Nat} (hp : pot E.n σ <= p) (hB : (N + 200) + (p + 1) * 1000 + 2000 + 400 + (5 * p + 5) * 2000 + 1000 <= B)
  (h : ∀ σ₁ w₁ J', Keep E k σ w σ₁ w₁ -> σ₁.wk k = (x0.done).on .out 0 -> pot E.n σ₁ + 1 <= pot E.n σ -> GWt E k Stop N σ₁ (Rd.WHS A J') w₁) : GWt E k Stop (B + 1) σ (Rd.KLS A K' (i : Int) (E.val i)) w := by
 have ha := wk_fin h7
 have hmu := hD.mu
 have hbK := Rd.bK A K' (i : Int) (E.val i)
 refine stop_call hE (by omega) hbK hb32 (Rd.rK A K' (i : Int) (E.val i)) hJ hk (by rw [hx]; exact ha) fun σ₁ w₁ hw1 => ?_
 have hx1 : σ₁.wk k = x0.on .fr 0 := by rw [hw1.wk, hx, on_self hlk hdf]
 show GW E k Stop B σ₁ (enter Tryz.prog 43 #[pMu A.Mu] ((Rd.KLS A K' (i : Int) (E.val i)).frame :: (Rd.KLS A K' (i : Int) (E.val i)).callers)) w₁
 rw [hmu]
 refine lock_w hE (m := (N + 200) + (p + 1) * 1000 + 2000 + 400) h7 hwr hB hw1.j (Nat.lt_of_lt_of_le hk hw1.num) hx1 (Nat.le_trans hw1.pot.1 hp) fun σ₂ w₂ hK2 hx2 => ?_
 have hK02 := hw1.keep.trans hK2
 have hk2 : k < σ₂.num := Nat.lt_of_lt_of_le hk hK02.num
 rw [back_fin hbK]
 have hD2 := hD.keep hK02 (by rw [hx2, hx]; rfl)
 have hnE := hD.hn
 clear hB
 obtain ⟨M, hM⟩ : ∃ M, M = (N + 200) + (p + 1) * 1000 + 2000 := ⟨_, rfl⟩
 rw [show (N + 200) + (p + 1) * 1000 + 2000 + 400 = M + 100 + 60 + 1 + 60 + 1 + 60 + 118 by omega]
 have R4 := Rd.a4 A K' (i : Int) (E.val i) ⟨E.O, 0, none⟩ n n
 refine GoesW.mono (n := M + 100 + 60 + 1 + 60 + 1 + 60) ?_ (by omega)
 refine runW (F := 60) (m := M + 100 + 60 + 1 + 60 + 1) rfl (fun f d x h => by cases h) R4 hK2.j (by rw [hx2]; exact ha) (fun x hx' => ?_) fun σ₃ w₃ hw3 => ?_
 · rw [Rd.l4] at hx'
   simp only [List.mem_cons, List.not_mem_nil, or_false] at hx'
   subst hx'
   exact hD2.v
 have hst := fun w => step_idx (main := false) (w := w) (Rd.b4 A K' (i : Int) (E.val i) ⟨E.O, 0, none⟩ n n) (by omega) (by omega)
 rw [Int.toNat_natCast] at hst
 have ead : (⟨E.O, 0, none⟩ : Addr).add (i * 1) = ⟨E.O, i, none⟩ := by rw [Nat.mul_one]; unfold Addr.add; split <;> simp_all
 rw [ead] at hst
 have R5 := Rd.a5 A K' (i : Int) (E.val i) ⟨E.O, 0, none⟩ ⟨E.O, i, none⟩ n n
 have hk3 : k < σ₃.num := Nat.lt_of_lt_of_le hk2 hw3.num
 refine stop_still hE (by omega) hst (Rd.r4 A K' (i : Int) (E.val i) ⟨E.O, 0, none⟩ n n) R5.head hw3.j hk3 (by rw [hw3.wk, hx2]; exact ha) fun σ₄ w₄ hw4 => ?_
 have hw24 := hw3.trans hw4
 have hx4 : σ₄.wk k = x0.on .hd 0 := by rw [hw24.wk, hx2]
 show GW E k Stop (M + 100 + 60 + 1 + 60) σ₄ _ w₄
 refine run0 cW_ok R5 hw4.j (by rw [hx4]; exact ha) fun σ₅ w₅ hw5 => ?_
 have hw25 := hw24.trans hw5
 have hx5 : σ₅.wk k = x0.on .hd 0 := by rw [hw25.wk, hx2]
 have R6 := Rd.a6 A K' (i : Int) (E.val i) ⟨E.O, 0, none⟩ ⟨E.O, i, none⟩ n n
 refine stop_write hE (m := M + 100 + 60) (Rd.b5 A K' (i : Int) (E.val i) ⟨E.O, 0, none⟩ ⟨E.O, i, none⟩ n n) (Rd.n5 A K' (i : Int) (E.val i) ⟨E.O, 0, none⟩ ⟨E.O, i, none⟩ n n) (Rd.r5 A K' (i : Int) (E.val i) ⟨E.O, 0, none⟩ ⟨E.O, i, none⟩ n n) R6.head hw5.j (Nat.lt_of_lt_of_le hk2 hw25.num) (by rw [hx5]; rfl) (by rw [hx5]; exact hidx) (by rw [hx5]; exact hwr) fun σ₆ w₆ hK6 hx6 => ?_
 have hK26 := hw25.keep.trans hK6
 have hx6 : σ₆.wk k = (x0.done).on .hd 0 := by rw [hx6, hx5]; rfl
 have hk6 : k < σ₆.num := Nat.lt_of_lt_of_le hk2 hK26.num
 refine run0 (cX_ok _) R6 hK6.j (by rw [hx6]; exact ha) fun σ₇ w₇ hw7 => ?_
 have hK07 := (hK02.trans hK26).trans hw7.keep
 have hx7 : σ₇.wk k = (x0.done).on .hd 0 := by rw [hw7.wk, hx6]
 show GW E k Stop (M + 100) σ₇ (Rd.g6 A K' (i : Int) (E.val i) ⟨E.O, 0, none⟩ ⟨E.O, i, none⟩ n n) w₇
 rw [Rd.h6]
 show GW E k Stop (M + 100) σ₇ (enterD _ _ 44 #[pMu A.Mu]) w₇
 rw [hmu]
 refine unlock_w hE (m := N + 60) (p := p) (x0 := x0.done) h7 rfl (by omega) hw7.j (Nat.lt_of_lt_of_le hk hK07.num) hx7 (Nat.le_trans hK07.pot hp) fun σ₈ w₈ hK8 hx8 hp8 => ?_
 have hK08 := hK07.trans hK8
 refine run0 (cX_ok _) (Rd.a7 A K' (i : Int) (E.val i) ⟨E.O, 0, none⟩ ⟨E.O, i, none⟩ n n) hK8.j (by rw [hx8]; exact ha) fun σ₉ w₉ hw9 => ?_
 show GW E k Stop N σ₉ (Rd.g7 A K' (i : Int) (E.val i) ⟨E.O, 0, none⟩ ⟨E.O, i, none⟩ n n) w₉
 rw [Rd.h7']
 refine h σ₉ w₉ _ (hK08.trans hw9.keep) (by rw [hw9.wk, hx8]) ?_
 have := hK07.pot
 have := hw9.pot.1
 omega
def rnd (P0 : Nat) : Nat := 40000000 + P0 * 20000
theorem rounds_w (hE : E.Ok) {P0 : Nat} (hD : Data E A tq n c D k σ w) (hJ : J E σ w) (hk : k < σ.num) (hH : AtHead (σ.wk k)) (hP : pot E.n σ <= P0)
  (hdoor : ∀ σ₁ w₁ (i : Nat) J', Keep E k σ w σ₁ w₁ -> AtDoor (σ₁.wk k) -> GWt E k Stop m σ₁ (Rd.gW3 A J' ((i + 1 : Nat) : Int) tq n c true) w₁) :
  ∀ (p : Nat), p <= P0 -> ∀ (J' : Nat -> Value) (σ₁ : Gh) (w₁ : World), Keep E k σ w σ₁ w₁ -> AtHead (σ₁.wk k) -> pot E.n σ₁ <= p -> GWt E k Stop (m + (p + 1) * rnd P0) σ₁ (Rd.WHS A J') w₁ := by
 intro p
 induction p with
 | zero =>
  intro _ J' σ₁ w₁ hK hH1 hp
  have hD1 := hD.keep hK (by rw [hH1.fin, hH.fin])
  refine GoesW.mono (n := m + 200 + 1 + 60 + 1) ?_ (by unfold rnd; omega)
  refine head_w hE hD1 hK.j (Nat.lt_of_lt_of_le hk hK.num) hH1 (fun σ₂ w₂ i hK2 hi hx2 => ?_) fun σ₂ w₂ i hK2 hd => hdoor σ₂ w₂ i J' (hK.trans hK2) hd
  exfalso
  have h1 : wt (σ₂.wk k).lk <= pots σ₂.num σ₂.wk := Go.ConcN.le_sumTo (f := fun k => wt (σ₂.wk k).lk) (Nat.lt_of_lt_of_le hk (hK.trans hK2).num)
  rw [hx2] at h1
  have h2 : wt ((σ₁.wk k).take i (E.cost i)).lk = 5 := rfl
  have h3 := hK2.pot
  unfold pot at h3 hp
  omega
 | succ p ih =>
  intro hpP J' σ₁ w₁ hK hH1 hp
  have hD1 := hD.keep hK (by rw [hH1.fin, hH.fin])
  have hk1 : k < σ₁.num := Nat.lt_of_lt_of_le hk hK.num
  obtain ⟨B, hB⟩ : ∃ B, B = ((m + (p + 1) * rnd P0) + 200) + (p + 1 + 1) * 1000 + 2000 + 400 + (5 * (p + 1) + 5) * 2000 + 1000 := ⟨_, rfl⟩
  obtain ⟨C, hC⟩ : ∃ C, C = 1001 * 27000 + 60 := ⟨_, rfl⟩
  refine GoesW.mono (n := (B + 1 + 40 + C + 1 + 40 + 1 + 40 + 1) + 200 + 1 + 60 + 1) ?_ (by
   rw [hB, hC, show (p + 1 + 1) * rnd P0 = (p + 1) * rnd P0 + rnd P0 by rw [Nat.succ_mul]]
   generalize (p + 1) * rnd P0 = Z
   unfold rnd
   omega)
  refine head_w hE hD1 hK.j hk1 hH1 (fun σ₂ w₂ i hK2 hi hx2 => ?_) fun σ₂ w₂ i hK2 hd => (hdoor σ₂ w₂ i J' (hK.trans hK2) hd).mono (by rw [hB]; generalize (p + 1) * rnd P0 = Z; omega)
  have hK02 := hK.trans hK2
  have hD2 := hD1.keep hK2 (by rw [hx2]; rfl)
  refine task_w (C := C) hE hD2 hK2.j (Nat.lt_of_lt_of_le hk hK02.num) hH1.fin hi hx2 (Nat.le_of_eq hC.symm) fun σ₃ w₃ K' hK3 hx3 => ?_
  have hK03 := hK02.trans hK3
  have hD3 := hD2.keep hK3 (by rw [hx3, hx2]; rfl)
  have hp3 : pot E.n σ₃ <= p + 1 := Nat.le_trans (hK2.trans hK3).pot hp
  refine store_w hE hD3 hK3.j (Nat.lt_of_lt_of_le hk hK03.num) (x0 := ((σ₁.wk k).take i (E.cost i)).pay (3 * (D.zs i).length)) hH1.fin rfl hH1.df rfl hi rfl hx3 (p := p + 1) hp3 (Nat.le_of_eq hB.symm) fun σ₄ w₄ J4 hK4 hx4 hp4 => ?_
  refine ih (by omega) J4 σ₄ w₄ (hK03.trans hK4) ?_ (by omega)
  rw [hx4]
  exact ⟨rfl, hH1.fin, rfl, hH1.gone, by show E.cost i - 3 * (D.zs i).length = 0; rw [hD.cost i hi]; omega⟩
end
def Wk.out (x : Wk) (f d : Nat) : Wk := { x with fin := f, df := d }
def Gh.lv (σ : Gh) (k f d wg ws : Nat) : Gh := { σ with wk := upd σ.wk k ((σ.wk k).out f d), wg := wg, ws := ws }
section
variable {E : Env} {k : Nat} {σ σ' : Gh} {w w' : World} {n : Nat}
theorem cf_upd {wk : Nat -> Wk} (hk : k < n) (x : Wk) : (c5 n (upd wk k x) + (if 5 <= (wk k).fin then 1 else 0) = c5 n wk + (if 5 <= x.fin then 1 else 0)) /\ (c43 n (upd wk k x) + (if (wk k).fin = 4 \/ (wk k).fin = 3 then 1 else 0) = c43 n wk + (if x.fin = 4 \/ x.fin = 3 then 1 else 0)) /\ (c2 n (upd wk k x) + (if (wk k).fin = 2 then 1 else 0) = c2 n wk + (if x.fin = 2 then 1 else 0)) :=
 ⟨sumTo_upd wk x (fun z => if 5 <= z.fin then 1 else 0) hk, sumTo_upd wk x (fun z => if z.fin = 4 \/ z.fin = 3 then 1 else 0) hk, sumTo_upd wk x (fun z => if z.fin = 2 then 1 else 0) hk⟩
theorem c5_pos {wk : Nat -> Wk} (hk : k < n) (h : 5 <= (wk k).fin) : 1 <= c5 n wk := by
 have := Go.ConcN.le_sumTo (f := fun k => if 5 <= (wk k).fin then 1 else 0) hk
 simp only [h, if_true] at this
 exact this
theorem c43_pos {wk : Nat -> Wk} (hk : k < n) (h : (wk k).fin = 4 \/ (wk k).fin = 3) : 1 <= c43 n wk := by
 have := Go.ConcN.le_sumTo (f := fun k => if (wk k).fin = 4 \/ (wk k).fin = 3 then 1 else 0) hk
 simp only [h, if_true] at this
 exact this
theorem c2_pos {wk : Nat -> Wk} (hk : k < n) (h : (wk k).fin = 2) : 1 <= c2 n wk := by
 have := Go.ConcN.le_sumTo (f := fun k => if (wk k).fin = 2 then 1 else 0) hk
 simp only [h, if_true] at this
 exact this
theorem WInv.less {ms wg ws v x y : Nat} (h : WInv ms wg ws (v + 1) x y) (h3 : ms = 3 -> 1 <= v) : 4294967296 <= wg /\ WInv ms (wg - 4294967296) ws v x y := by
 obtain ⟨a, b, c⟩ := h
 by_cases e2 : ms <= 2
 · obtain ⟨p1, p2, p3, p4⟩ := a e2
   refine ⟨by split at p3 <;> omega, fun _ => ⟨p1, p2, by split at p3 <;> simp_all <;> omega, p4⟩, fun e => by omega, fun e => by omega⟩
 · by_cases e3 : ms = 3
   · obtain ⟨q1, q2, q3⟩ := b e3
     obtain ⟨r1, r2, r3, r4⟩ := q2 (by omega)
     have := h3 e3
     exact ⟨by omega, fun e => by omega, fun _ => ⟨by omega, fun _ => ⟨r1, r2, by omega, r4⟩, fun e => by omega⟩, fun e => by omega⟩
   · have := (c (by omega)).1
     omega
theorem WInv.last {wg ws x y : Nat} (h : WInv 3 wg ws 1 x y) : wg = 4294967297 /\ x = 0 /\ WInv 3 1 ws 0 1 y := by
 obtain ⟨a, b, c⟩ := h
 obtain ⟨q1, q2, q3⟩ := b rfl
 obtain ⟨r1, r2, r3, r4⟩ := q2 (by omega)
 exact ⟨by omega, r1, fun e => by omega, fun _ => ⟨by omega, fun e => by omega, fun _ => .inl ⟨rfl, rfl, r4⟩⟩, fun e => by omega⟩
theorem WInv.way {ms wg ws v x y : Nat} (h : WInv ms wg ws v (x + 1) y) : ms = 3 /\ v = 0 /\ wg = 1 /\ ws = 0 /\ x = 0 /\ y = 0 := by
 obtain ⟨a, b, c⟩ := h
 by_cases e2 : ms <= 2
 · have := (a e2).1; omega
 · by_cases e3 : ms = 3
   · obtain ⟨q1, q2, q3⟩ := b e3
     by_cases hv : 1 <= v
     · have := (q2 hv).1; omega
     · rcases q3 (by omega) with h | h | h <;> (obtain ⟨r1, r2, r3⟩ := h; omega)
   · have := (c (by omega)).2.1; omega
theorem WInv.zero {ms wg ws v x y : Nat} (h : WInv ms wg ws v (x + 1) y) : WInv ms 0 ws v x (y + 1) := by
 obtain ⟨rfl, rfl, rfl, rfl, rfl, rfl⟩ := h.way
 exact ⟨fun e => by omega, fun _ => ⟨by omega, fun e => by omega, fun _ => .inr (.inl ⟨rfl, rfl, rfl⟩)⟩, fun e => by omega⟩
theorem WInv.way2 {ms wg ws v x y : Nat} (h : WInv ms wg ws v x (y + 1)) : ms = 3 /\ v = 0 /\ wg = 0 /\ ws = 0 /\ x = 0 /\ y = 0 := by
 obtain ⟨a, b, c⟩ := h
 by_cases e2 : ms <= 2
 · have := (a e2).2.1; omega
 · by_cases e3 : ms = 3
   · obtain ⟨q1, q2, q3⟩ := b e3
     by_cases hv : 1 <= v
     · have := (q2 hv).2.1; omega
     · rcases q3 (by omega) with h | h | h <;> (obtain ⟨r1, r2, r3⟩ := h; omega)
   · have := (c (by omega)).2.2.1; omega
theorem WInv.raise {ms wg ws v x y : Nat} (h : WInv ms wg ws v x (y + 1)) : WInv ms 0 1 v x y := by
 obtain ⟨rfl, rfl, rfl, rfl, rfl, rfl⟩ := h.way2
 exact ⟨fun e => by omega, fun _ => ⟨by omega, fun e => by omega, fun _ => .inr (.inr ⟨rfl, rfl, rfl, rfl⟩)⟩, fun e => by omega⟩
theorem Inv.lv (I : Inv n σ) (hk : k < σ.num) (ho : (σ.wk k).lk = .out) {f d wg ws : Nat} (hf : 1 <= f /\ f <= 7) (hg : (σ.wk k).gone = true) (hW : WInv σ.ms wg ws (c5 σ.num (upd σ.wk k ((σ.wk k).out f d))) (c43 σ.num (upd σ.wk k ((σ.wk k).out f d))) (c2 σ.num (upd σ.wk k ((σ.wk k).out f d)))) : Inv n (σ.lv k f d wg ws) := by
 have e1 := eqk (σ := σ) (k := k) (x := (σ.wk k).out f d) Wk.lk rfl
 have e3 := eqk (σ := σ) (k := k) (x := (σ.wk k).out f d) Wk.idx rfl
 have e4 := eqk (σ := σ) (k := k) (x := (σ.wk k).out f d) Wk.low rfl
 have e5 := eqk (σ := σ) (k := k) (x := (σ.wk k).out f d) Pend rfl
 have e6 := eqk (σ := σ) (k := k) (x := (σ.wk k).out f d) Wk.gone rfl
 have at_ : ∀ j, j ≠ k -> upd σ.wk k ((σ.wk k).out f d) j = σ.wk j := fun j h => upd_ne _ _ h
 have ak : upd σ.wk k ((σ.wk k).out f d) k = (σ.wk k).out f d := upd_same _ _ _
 refine ⟨I.mx.same (x := (σ.wk k).out f d) rfl, hW, fun j hj hl => ?_, fun i hi hx => ?_, fun i j hi hj p q => ?_, fun j hj p => ?_, I.wfut, fun j hj => ?_, fun j hj hf' => ?_, fun j hj => by rw [show (σ.lv k f d wg ws).wk = upd σ.wk k _ from rfl, e4 j]; exact I.low j hj, I.num, ?_⟩
 · have hjk : j ≠ k := fun e => by
    have hl : (upd σ.wk k _ j).lk ≠ .out := hl
    rw [e1 j, e] at hl
    exact hl ho
   show (upd σ.wk k _ j).fin = 7 /\ (upd σ.wk k _ j).idx < n /\ (upd σ.wk k _ j).idx < σ.nx
   have hl : (upd σ.wk k _ j).lk ≠ .out := hl
   rw [at_ j hjk] at hl ⊢
   exact I.lkf j hj hl
 · rcases I.done i hi hx with h | ⟨j, a, b, c⟩
   · exact .inl h
   · exact .inr ⟨j, a, (e5 j).symm ▸ b, (e3 j).trans c⟩
 · exact I.uniq i j hi hj (by rw [<- e1 i]; exact p) (by rw [<- e1 j]; exact q)
 · show σ.writ (upd σ.wk k _ j).idx = false
   rw [e3 j]; exact I.pw j hj ((e5 j) ▸ p)
 · show 1 <= (upd σ.wk k _ j).fin /\ (upd σ.wk k _ j).fin <= 7
   by_cases e : j = k
   · subst e; rw [ak]; exact hf
   · rw [at_ j e]; exact I.fin j hj
 · exact I.all k hk (.inr hg)
 · have h : cgone σ.num (upd σ.wk k ((σ.wk k).out f d)) = cgone σ.num σ.wk := sumTo_congr fun i _ => by rw [e6 i]
   show σ.nx <= n + cgone σ.num (upd σ.wk k _)
   rw [h]; exact I.nb
theorem Turn.lv (hE : E.Ok) (hJ : J E σ w) (hk : k < σ.num) (ho : (σ.wk k).lk = .out) (ha : (σ.wk k).fin ≠ 1) (hg : (σ.wk k).gone = true) {f d wg ws : Nat} {es : Array Event} (hf : 1 <= f /\ f <= 6) (hle : f <= (σ.wk k).fin) (hW : WInv σ.ms wg ws (Wp.c5 σ.num (upd σ.wk k ((σ.wk k).out f d))) (c43 σ.num (upd σ.wk k ((σ.wk k).out f d))) (c2 σ.num (upd σ.wk k ((σ.wk k).out f d))))
  (hw : Same E w w') (h4 : Four E (σ.lv k f d wg ws) w') (hev : ∀ e ∈ es, Book E e) (hdf : deafBehind (σ.wk k).df es = d)
  (hrel : ((σ.wk k).fin <= 6 /\ ∀ j e, es[j]? = some e -> (MemAct.ofEvent e).touch? = none \/ ((∃ ad wr, e = ⟨.cell ad, wr, true⟩) /\ 0 < deafBehind (σ.wk k).df (es.extract 0 j))) \/ (es = #[Go.ConcR.mk (.releaseMerge (stA E))] /\ (σ.wk k).df = 0)) : Turn E k σ w es (σ.lv k f d wg ws) w' := by
 have ak : (σ.lv k f d wg ws).wk k = (σ.wk k).out f d := upd_same _ _ _
 have inv : Inv E.n (σ.lv k f d wg ws) := hJ.inv.lv hk ho ⟨hf.1, by omega⟩ hg hW
 have hd : dues σ.num (upd σ.wk k ((σ.wk k).out f d)) = dues σ.num σ.wk := dues_same rfl
 have j' : J E (σ.lv k f d wg ws) w' := J.turn hE hJ hw h4 inv (by show σ.hs + dues σ.num (upd σ.wk k _) + E.rest σ.nx + σ.dm = E.tot; rw [hd]; exact hJ.acc) rfl rfl rfl
 have hpot : Wp.pot E.n (σ.lv k f d wg ws) = Wp.pot E.n σ := by
  unfold Wp.pot
  show pots σ.num (upd σ.wk k _) + σ.mx.sm + 5 * (E.n - σ.nx) = _
  rw [pots_same (k := k) (wk := σ.wk) (x := (σ.wk k).out f d) rfl]
 exact ⟨j', fun j hj => upd_ne _ _ hj, rfl, rfl, rfl, rfl, rfl, rfl, by rw [ak]; rfl, hw, ⟨Nat.le_of_eq hpot, .inl rfl⟩, fun _ _ _ _ h => ⟨h, Nat.le_refl _⟩, fun h => by rw [ak] at h; exact Nat.le_trans h hle, ha, by rw [ak]; exact hdf, fun _ h => h, fun e he => (hev e he).evW j', fun _ => hrel⟩
end
namespace Lv
set_option maxRecDepth 100000
open Rd
variable (A : Adr) (J : Nat -> Value) (x : Int) (tp : Option Addr) (n c : Nat)
noncomputable def g0 : Goroutine := gW3 A J x tp n c true
theorem r0 : isRun (g0 A J x tp n c) = true := by kernel_rfl
noncomputable def g1 : Goroutine := endR Tryz.prog cW 60 (fin (g0 A J x tp n c) (pA A.Wg))
theorem a1 : Run Tryz.prog cW 60 (fin (g0 A J x tp n c) (pA A.Wg)) := ⟨fun w => by kernel_rfl, by kernel_rfl⟩
theorem b1 : isCall 89 (g1 A J x tp n c) = some [pA A.Wg] := by kernel_rfl
noncomputable def g2 : Goroutine := endR Tryz.prog cW 60 (fin (g1 A J x tp n c) (.tuple #[]))
theorem a2 : Run Tryz.prog cW 60 (fin (g1 A J x tp n c) (.tuple #[])) := ⟨fun w => by kernel_rfl, by kernel_rfl⟩
theorem b2 : isCall 68 (g2 A J x tp n c) = some [] := by kernel_rfl
noncomputable def g3 : Goroutine := endR Tryz.prog cW 60 (fin (g2 A J x tp n c) (.tuple #[]))
theorem a3 : Run Tryz.prog cW 60 (fin (g2 A J x tp n c) (.tuple #[])) := ⟨fun w => by kernel_rfl, by kernel_rfl⟩
theorem b3 : isCall 76 (g3 A J x tp n c) = some [] := by kernel_rfl
noncomputable def g4 : Goroutine := endR Tryz.prog cW 80 (fin (g3 A J x tp n c) (.bool false))
theorem a4 : Run Tryz.prog cW 80 (fin (g3 A J x tp n c) (.bool false)) := ⟨fun w => by kernel_rfl, by kernel_rfl⟩
theorem b4 : isCall 112 (g4 A J x tp n c) = some [pA A.Wg, .int .u64 18446744069414584320] := by kernel_rfl
noncomputable def g5 : Goroutine := endR Tryz.prog cW 120 (fin (g4 A J x tp n c) (.int .u64 1))
theorem a5 : Run Tryz.prog cW 120 (fin (g4 A J x tp n c) (.int .u64 1)) := ⟨fun w => by kernel_rfl, by kernel_rfl⟩
theorem b5 : isCall 99 (g5 A J x tp n c) = some [pA A.Wg] := by kernel_rfl
noncomputable def g6 : Goroutine := endR Tryz.prog cW 60 (fin (g5 A J x tp n c) (.int .u64 1))
theorem a6 : Run Tryz.prog cW 60 (fin (g5 A J x tp n c) (.int .u64 1)) := ⟨fun w => by kernel_rfl, by kernel_rfl⟩
theorem b6 : isCall 113 (g6 A J x tp n c) = some [pA A.Wg, .int .u64 0] := by kernel_rfl
noncomputable def g7 : Goroutine := endR Tryz.prog cW 80 (fin (g6 A J x tp n c) (.tuple #[]))
theorem a7 : Run Tryz.prog cW 80 (fin (g6 A J x tp n c) (.tuple #[])) := ⟨fun w => by kernel_rfl, by kernel_rfl⟩
theorem b7 : isCall 98 (g7 A J x tp n c) = some [.pointer (some ⟨A.Wg, 1, none⟩), .bool false, .int .i64 0] := by kernel_rfl
end Lv
namespace Lv
set_option maxRecDepth 100000
open Rd
noncomputable def stL (g : Goroutine) : Goroutine × Array Event := match stepG Tryz.prog false g default with
 | .go g' _ es => (g', es)
 | _ => (g, #[])
def endB (g : Goroutine) : Bool := match g.status with
 | .finished => true
 | _ => false
def runB (g : Goroutine) : Bool := match g.status with
 | .running => true
 | _ => false
noncomputable def seqL : Nat -> Goroutine -> World -> List GStep
 | 0, _, _ => []
 | n + 1, g, w => bif endB g then [] else stepG Tryz.prog false g w :: seqL n (stL g).1 w
noncomputable def expL : Nat -> Goroutine -> World -> List GStep
 | 0, _, _ => []
 | n + 1, g, w => bif endB g then [] else .go (stL g).1 w (stL g).2 :: expL n (stL g).1 w
noncomputable def okL : Nat -> Nat -> Goroutine -> Bool
 | 0, d, g => endB g && d == 0
 | n + 1, d, g => bif endB g then d == 0 else runB g && (stL g).2.toList.all Event.mute && okL n (deafBehind d (stL g).2) (stL g).1
theorem endB_ok {g : Goroutine} (h : endB g = true) : g.status = .finished := by
 unfold endB at h; split at h
 · assumption
 · cases h
theorem runB_ok {g : Goroutine} (h : runB g = true) : g.status = .running := by
 unfold runB at h; split at h
 · assumption
 · cases h
theorem quits_of : ∀ {F d : Nat} {g : Goroutine}, (∀ w, seqL F g w = expL F g w) -> okL F d g = true -> QuitsD Tryz.prog F d g
 | 0, d, g, _, h => by
  simp only [okL, Bool.and_eq_true, beq_iff_eq] at h
  exact ⟨endB_ok h.1, h.2⟩
 | n + 1, d, g, hs, h => by
  cases he : endB g with
  | true =>
   simp only [okL, he, cond_true, beq_iff_eq] at h
   exact .inl ⟨endB_ok he, h⟩
  | false =>
   simp only [okL, he, cond_false, Bool.and_eq_true] at h
   simp only [seqL, expL, he, cond_false, List.cons.injEq] at hs
   refine .inr ⟨runB_ok h.1.1, (stL g).1, (stL g).2, fun e hm => ?_, fun w => (hs w).1, quits_of (fun w => (hs w).2) h.2⟩
   exact List.all_eq_true.1 h.1.2 e (Array.mem_toList_iff.2 hm)
variable (A : Adr) (J : Nat -> Value) (x : Int) (tp : Option Addr) (n c : Nat)
def notLast : List Nat := [0, 1, 2, 3, 4, 5, 6, 7, 8].map (· * 4294967296) ++ [1, 2, 3, 4, 5, 6, 7, 8].map (· * 4294967296 + 1)
theorem s8 (w : World) : seqL 200 (fin (g7 A J x tp n c) (.tuple #[])) w = expL 200 (fin (g7 A J x tp n c) (.tuple #[])) w := by kernel_rfl
theorem o8 : okL 200 1 (fin (g7 A J x tp n c) (.tuple #[])) = true := by kernel_rfl
theorem q8 : QuitsD Tryz.prog 200 1 (fin (g7 A J x tp n c) (.tuple #[])) := quits_of (s8 A J x tp n c) (o8 A J x tp n c)
theorem s9 (w : World) : notLast.map (fun (y : Nat) => seqL 200 (fin (g4 A J x tp n c) (.int .u64 (y : Int))) w) = notLast.map (fun (y : Nat) => expL 200 (fin (g4 A J x tp n c) (.int .u64 (y : Int))) w) := by kernel_rfl
theorem o9 : notLast.map (fun (y : Nat) => okL 200 1 (fin (g4 A J x tp n c) (.int .u64 (y : Int)))) = notLast.map (fun (y : Nat) => true) := by kernel_rfl
theorem q9 : ∀ y ∈ notLast, QuitsD Tryz.prog 200 1 (fin (g4 A J x tp n c) (.int .u64 (y : Int))) := fun y hy => quits_of (fun w => map_all (s9 A J x tp n c w) y hy) (map_all (o9 A J x tp n c) y hy)
end Lv
theorem x57 : ExtF Tryz.prog 76 (fun _ => pure (.bool false)) := ⟨Tryz.f76, by kernel_rfl, by kernel_rfl, by kernel_rfl, by kernel_rfl, by kernel_rfl⟩
theorem x84 : ExtF Tryz.prog 112 (Extern.Atomic.update (Op.intArith .add) .u64 true) := ⟨Tryz.f112, by kernel_rfl, by kernel_rfl, by kernel_rfl, by kernel_rfl, by kernel_rfl⟩
theorem x73 : ExtF Tryz.prog 99 (Extern.Atomic.loadT (.int .u64)) := ⟨Tryz.f99, by kernel_rfl, by kernel_rfl, by kernel_rfl, by kernel_rfl, by kernel_rfl⟩
theorem x85 : ExtF Tryz.prog 113 Extern.Atomic.storeT := ⟨Tryz.f113, by kernel_rfl, by kernel_rfl, by kernel_rfl, by kernel_rfl, by kernel_rfl⟩
theorem x72 : ExtF Tryz.prog 98 Extern.Sync.semrelease := ⟨Tryz.f98, by kernel_rfl, by kernel_rfl, by kernel_rfl, by kernel_rfl, by kernel_rfl⟩
section
variable {E : Env} {k : Nat} {Stop : Gh -> Goroutine -> World -> Prop} {σ : Gh} {w : World} {A : Rd.Adr} {tq : Option Addr} {n c : Nat} {x : Int} {J' : Nat -> Value}
theorem GoesW.here {m : Nat} {g : Goroutine} (h : ∀ σ₁ w₁, RW E k σ w σ₁ w₁ -> Stop σ₁ g w₁) : GoesW Tryz.prog (proto E Tryz.prog) (k + 1) Stop m σ g w := by
 cases m with
 | zero => exact h
 | succ => exact .inl h
theorem wgi_to {ms wg ws v x y v' x' y' : Nat} (h : WInv ms wg ws v x y) (e1 : v' = v) (e2 : x' = x) (e3 : y' = y) : WInv ms wg ws v' x' y' := by subst e1 e2 e3; exact h
structure Going (x : Wk) (f d : Nat) : Prop where
 lk : x.lk = .out
 fin : x.fin = f
 df : x.df = d
 gone : x.gone = true
 due : x.due = 0
theorem Going.out {y : Wk} {f d f' d' : Nat} (h : Going y f d) : Going (y.out f' d') f' d' := ⟨h.lk, rfl, rfl, h.gone, h.due⟩
theorem u64_less {v : Nat} (h : 4294967296 <= v) (h' : v < 18446744073709551616) : IntKind.u64.wrap ((v : Int) + 18446744069414584320) = ((v - 4294967296 : Nat) : Int) := by
 simp [IntKind.wrap, IntKind.bits, IntKind.signed]
 omega
theorem stop_lv (hE : E.Ok) {m : Nat} {g : Goroutine} (hr : isRun g = true) (hJ : J E σ w) (hk : k < σ.num) {f d : Nat} (hG : Going (σ.wk k) f d) (hf : 2 <= f)
  (h : ∀ σ₁ w₁, RW E k σ w σ₁ w₁ -> k < σ₁.num -> Going (σ₁.wk k) f d -> ∃ g' w' es f' d' wg' ws', stepG Tryz.prog false g w₁ = .go g' w' es /\ 1 <= f' /\ f' <= 6 /\ f' <= f /\ WInv σ₁.ms wg' ws' (c5 σ₁.num (upd σ₁.wk k ((σ₁.wk k).out f' d'))) (c43 σ₁.num (upd σ₁.wk k ((σ₁.wk k).out f' d'))) (c2 σ₁.num (upd σ₁.wk k ((σ₁.wk k).out f' d'))) /\ Same E w₁ w' /\ Four E (σ₁.lv k f' d' wg' ws') w' /\ (∀ e ∈ es, Book E e) /\ deafBehind d es = d' /\
   ((f <= 6 /\ ∀ j e, es[j]? = some e -> (MemAct.ofEvent e).touch? = none \/ ((∃ ad wr, e = ⟨.cell ad, wr, true⟩) /\ 0 < deafBehind d (es.extract 0 j))) \/ (es = #[Go.ConcR.mk (.releaseMerge (stA E))] /\ d = 0)) /\ isRun g' = true /\ (σ₁.ws = 0 -> 0 < ws' -> mayWake Tryz.prog g = true) /\
   (Keep E k σ w (σ₁.lv k f' d' wg' ws') w' -> Going ((σ₁.lv k f' d' wg' ws').wk k) f' d' -> GoesW Tryz.prog (proto E Tryz.prog) (k + 1) Stop m (σ₁.lv k f' d' wg' ws') g' w')) : GoesW Tryz.prog (proto E Tryz.prog) (k + 1) Stop (m + 1) σ g w :=
 goW hr hk fun σ₁ w₁ hw hk1 => by
  have hG1 : Going (σ₁.wk k) f d := by rw [hw.wk]; exact hG
  obtain ⟨g', w', es, f', d', wg', ws', h1, h2, h3, h4, h5, h6, h7, h8, h9, h10, h11, h12, h13⟩ := h σ₁ w₁ hw hk1 hG1
  have T : Turn E k σ₁ w₁ es (σ₁.lv k f' d' wg' ws') w' := Turn.lv hE hw.j hk1 hG1.lk (by rw [hG1.fin]; omega) hG1.gone ⟨h2, h3⟩ (by rw [hG1.fin]; exact h4) h5 h6 h7 h8 (by rw [hG1.df]; exact h9) (by rw [hG1.df, hG1.fin]; exact h10)
  exact ⟨g', w', es, _, h1, T, h11, ⟨fun a b => absurd b (by show ¬ 0 < σ₁.mx.sm; omega), h12⟩, h13 (hw.keep.trans (T.keep hw.j)) (by show Going (upd σ₁.wk k _ k) _ _; rw [upd_same]; exact hG1.out)⟩
end
section
variable {E : Env} {k : Nat} {Stop : Gh -> Goroutine -> World -> Prop} {σ : Gh} {w : World} {A : Rd.Adr} {tq : Option Addr} {n c : Nat} {x : Int} {J' : Nat -> Value}
theorem J.cellSm' (h : J E σ w) : w.cell? (smA E) = some (.int .u32 (σ.ws : Int)) := by rw [cell_of rfl (show w.heap[(smA E).block]? = _ from h.wg)]; rfl
theorem J.thawSm' (h : J E σ w) : w.frozen? (smA E) = false := thaw_of (a := smA E) h.wg
theorem mute1 {e : Event} (h : (MemAct.ofEvent e).touch? = none) {d : Nat} : ∀ j e', #[e][j]? = some e' -> (MemAct.ofEvent e').touch? = none \/ ((∃ ad wr, e' = ⟨.cell ad, wr, true⟩) /\ 0 < deafBehind d (#[e].extract 0 j)) := fun j e' he => by
 have : e' ∈ #[e] := Array.mem_of_getElem? he
 simp only [List.mem_toArray, List.mem_cons, List.not_mem_nil, or_false] at this
 subst this; exact .inl h
theorem deaf_cells {es : Array Event} (h : ∀ e ∈ es, ∃ ad wr, e = ⟨.cell ad, wr, true⟩) : ∀ j e', es[j]? = some e' -> (MemAct.ofEvent e').touch? = none \/ ((∃ ad wr, e' = ⟨.cell ad, wr, true⟩) /\ 0 < deafBehind 1 (es.extract 0 j)) := fun j e' he => by
 refine .inr ⟨h e' (Array.mem_of_getElem? he), ?_⟩
 rw [deafBehind_still (fun e he => ?_)]
 · exact Nat.one_pos
 · obtain ⟨ad, wr, rfl⟩ := h e (by
    obtain ⟨i, hi, hh⟩ := Array.mem_iff_getElem.1 he
    rw [Array.getElem_extract] at hh
    rw [<- hh]; exact Array.getElem_mem _)
   simp
theorem deaf_sem (a : Addr) : ∀ j e', (semEvents a)[j]? = some e' -> (MemAct.ofEvent e').touch? = none \/ ((∃ ad wr, e' = ⟨.cell ad, wr, true⟩) /\ 0 < deafBehind 1 ((semEvents a).extract 0 j)) := fun j e' he => by
 match j, he with
 | 0, he => cases he; exact .inl rfl
 | 1, he => cases he; exact .inr ⟨⟨_, _, rfl⟩, by simp [semEvents, deafBehind]⟩
 | 2, he => cases he; exact .inr ⟨⟨_, _, rfl⟩, by simp [semEvents, deafBehind]⟩
 | 3, he => cases he; exact .inl rfl
 | j + 4, he => simp [semEvents] at he
theorem sem_bookW : ∀ e ∈ semEvents (smA E), Book E e := fun e he => by
 simp only [semEvents, List.mem_toArray, List.mem_cons, List.not_mem_nil, or_false] at he
 rcases he with rfl | rfl | rfl | rfl
 · exact .dis
 · exact .at_ _ _ (.inr (.inr rfl))
 · exact .at_ _ _ (.inr (.inr rfl))
 · exact .en
theorem nl0 : ∀ j < 9, j * 4294967296 ∈ Lv.notLast := by decide
theorem nl1 : ∀ j < 9, 1 <= j -> j * 4294967296 + 1 ∈ Lv.notLast := by decide
theorem c5_le8 {n : Nat} {wk : Nat -> Wk} : c5 n wk <= n := sum_le fun i _ => by split <;> omega
theorem leave_w (hE : E.Ok) (hWg : A.Wg = E.Wg) (hJ : J E σ w) (hk : k < σ.num) (hH : Going (σ.wk k) 7 0)
  (hstop : ∀ σ₁ w₁ g, Keep E k σ w σ₁ w₁ -> Going (σ₁.wk k) 1 1 -> QuitsD Tryz.prog 200 1 g -> Stop σ₁ g w₁) : GWt E k Stop 700 σ (Lv.g0 A J' x tq n c) w := by
 have hne : ∀ {y : Wk} {f d : Nat}, Going y f d -> 2 <= f -> y.fin ≠ 1 := fun h h2 => by rw [h.fin]; omega
 have v0 : isConv Tryz.prog (Lv.g0 A J' x tq n c) = some (stA E) := by rw [show stA E = ⟨A.Wg, 0, none⟩ by rw [hWg]; rfl]; exact Rd.vWe A J' x tq n c
 have eWg : Rd.pA A.Wg = .pointer (some (stA E)) := by rw [hWg]; rfl
 have R1 := Lv.a1 A J' x tq n c
 rw [eWg] at R1
 refine GoesW.sub (F := 1) (by omega) (stop_conv (v := fun σ => .int .u64 (σ.wg : Int)) hE v0 (fun hJ => hJ.cellSt) (Lv.r0 A J' x tq n c) R1.head hJ hk (hne hH (by omega)) fun σ₁ w₁ hw1 => ?_)
 refine GoesW.sub (F := 60) (by omega) (run0 cW_ok R1 hw1.j (by rw [hw1.wk]; exact hne hH (by omega)) fun σ₂ w₂ hw2 => ?_)
 have hw02 := hw1.trans hw2
 have hG2 : Going (σ₂.wk k) 7 0 := by rw [hw02.wk]; exact hH
 have hk2 : k < σ₂.num := Nat.lt_of_lt_of_le hk hw02.num
 have b1 := Lv.b1 A J' x tq n c
 rw [eWg] at b1
 have R2 := Lv.a2 A J' x tq n c
 have e1 : endR Tryz.prog cW 60 (fin (Lv.g0 A J' x tq n c) (.pointer (some (stA E)))) = Lv.g1 A J' x tq n c := by rw [<- eWg]; rfl
 rw [e1]
 refine GoesW.sub (F := 1) (by omega) (stop_lv hE (by rw [<- e1]; exact R1.last) hw2.j hk2 hG2 (by omega) fun σ₃ w₃ hw3 hk3 hG3 => ⟨_, w₃, _, 6, 0, σ₃.wg, σ₃.ws, step_markAt .releaseMerge (by simp) b1 x63, by omega, by omega, by omega, ?_, .refl, ⟨hw3.j.mu, hw3.j.nx, hw3.j.wg, hw3.j.o⟩, ?_, rfl, .inr ⟨rfl, rfl⟩, R2.head, fun a b => by omega, fun hK3 hG => ?_⟩)
 · have cf := cf_upd hk3 ((σ₃.wk k).out 6 0) (wk := σ₃.wk)
   simp [Wk.out, hG3.fin] at cf
   exact wgi_to hw3.j.inv.wgi (by show c5 _ (upd _ _ (Wk.out _ _ _)) = _; simp only [Wk.out]; omega) (by show c43 _ (upd _ _ (Wk.out _ _ _)) = _; simp only [Wk.out]; omega) (by show c2 _ (upd _ _ (Wk.out _ _ _)) = _; simp only [Wk.out]; omega)
 · intro e he
   simp only [List.mem_toArray, List.mem_cons, List.not_mem_nil, or_false] at he
   subst he; exact .rm _ (.inr (.inr rfl))
 generalize σ₃.lv k 6 0 σ₃.wg σ₃.ws = τ3 at *
 have hK03 := hw02.keep.trans hK3
 refine GoesW.sub (F := 60) (by omega) (run0 cW_ok R2 hK3.j (hne hG (by omega)) fun σ₄ w₄ hw4 => ?_)
 have hG4 : Going (σ₄.wk k) 6 0 := by rw [hw4.wk]; exact hG
 have hK04 := hK03.trans hw4.keep
 have hk4 : k < σ₄.num := Nat.lt_of_lt_of_le hk hK04.num
 have R3 := Lv.a3 A J' x tq n c
 show GoesW Tryz.prog (proto E Tryz.prog) (k + 1) Stop _ σ₄ (Lv.g2 A J' x tq n c) w₄
 refine GoesW.sub (F := 1) (by omega) (stop_lv hE R2.last hw4.j hk4 hG4 (by omega) fun σ₅ w₅ hw5 hk5 hG5 => ⟨_, w₅, _, 5, 1, σ₅.wg, σ₅.ws, step_mark .disable (by simp) (Lv.b2 A J' x tq n c) x49, by omega, by omega, by omega, ?_, .refl, ⟨hw5.j.mu, hw5.j.nx, hw5.j.wg, hw5.j.o⟩, ?_, rfl, .inl ⟨by omega, mute1 rfl⟩, R3.head, fun a b => by omega, fun hK5 hG => ?_⟩)
 · have cf := cf_upd hk5 ((σ₅.wk k).out 5 1) (wk := σ₅.wk)
   simp [Wk.out, hG5.fin] at cf
   exact wgi_to hw5.j.inv.wgi (by show c5 _ (upd _ _ (Wk.out _ _ _)) = _; simp only [Wk.out]; omega) (by show c43 _ (upd _ _ (Wk.out _ _ _)) = _; simp only [Wk.out]; omega) (by show c2 _ (upd _ _ (Wk.out _ _ _)) = _; simp only [Wk.out]; omega)
 · intro e he
   simp only [List.mem_toArray, List.mem_cons, List.not_mem_nil, or_false] at he
   subst he; exact .dis
 generalize σ₅.lv k 5 1 σ₅.wg σ₅.ws = τ5 at *
 have hK05 := hK04.trans hK5
 refine GoesW.sub (F := 60) (by omega) (run0 cW_ok R3 hK5.j (hne hG (by omega)) fun σ₆ w₆ hw6 => ?_)
 have hG6 : Going (σ₆.wk k) 5 1 := by rw [hw6.wk]; exact hG
 have hK06 := hK05.trans hw6.keep
 have hk6 : k < σ₆.num := Nat.lt_of_lt_of_le hk hK06.num
 have R4 := Lv.a4 A J' x tq n c
 show GoesW Tryz.prog (proto E Tryz.prog) (k + 1) Stop _ σ₆ (Lv.g3 A J' x tq n c) w₆
 refine GoesW.sub (F := 1) (by omega) (stop_pure hE (Lv.b3 A J' x tq n c) x57 R3.last R4.head hw6.j hk6 (hne hG6 (by omega)) fun σ₇ w₇ hw7 => ?_)
 refine GoesW.sub (F := 80) (by omega) (run0 cW_ok R4 hw7.j (by rw [hw7.wk]; exact hne hG6 (by omega)) fun σ₈ w₈ hw8 => ?_)
 have hw68 := hw7.trans hw8
 have hG8 : Going (σ₈.wk k) 5 1 := by rw [hw68.wk]; exact hG6
 have hK08 := hK06.trans hw68.keep
 have hk8 : k < σ₈.num := Nat.lt_of_lt_of_le hk hK08.num
 have b4 := Lv.b4 A J' x tq n c
 rw [eWg] at b4
 show GoesW Tryz.prog (proto E Tryz.prog) (k + 1) Stop _ σ₈ (Lv.g4 A J' x tq n c) w₈
 refine GoesW.sub (F := 1) (by omega) (stop_lv hE R4.last hw8.j hk8 hG8 (by omega) fun σ₉ w₉ hw9 hk9 hG9 => ?_)
 obtain ⟨v', hv'⟩ : ∃ v', c5 σ₉.num σ₉.wk = v' + 1 := ⟨c5 σ₉.num σ₉.wk - 1, by have := c5_pos hk9 (by rw [hG9.fin]; omega : 5 <= (σ₉.wk k).fin); omega⟩
 have hW := hw9.j.inv.wgi
 rw [hv'] at hW
 have hv8 : v' <= 7 := by have := c5_le8 (n := σ₉.num) (wk := σ₉.wk); have := hw9.j.inv.num; omega
 have hst := step_add (P := Tryz.prog) (main := false) b4 x84 hw9.j.cellSt hw9.j.thawSt
 have hcells : ∀ e ∈ (#[⟨.cell (stA E), false, true⟩, ⟨.cell (stA E), true, true⟩] : Array Event), ∃ ad wr, e = ⟨.cell ad, wr, true⟩ := fun e he => by
  simp only [List.mem_toArray, List.mem_cons, List.not_mem_nil, or_false] at he
  rcases he with rfl | rfl <;> exact ⟨_, _, rfl⟩
 have hbook : ∀ e ∈ (#[⟨.cell (stA E), false, true⟩, ⟨.cell (stA E), true, true⟩] : Array Event), Book E e := fun e he => by
  simp only [List.mem_toArray, List.mem_cons, List.not_mem_nil, or_false] at he
  rcases he with rfl | rfl <;> exact .at_ _ _ (.inr (.inr rfl))
 have hcell1 : ∀ wr, ∀ e ∈ (#[⟨.cell (stA E), wr, true⟩] : Array Event), ∃ ad wr, e = ⟨.cell ad, wr, true⟩ := fun wr e he => by
  simp only [List.mem_toArray, List.mem_cons, List.not_mem_nil, or_false] at he
  subst he; exact ⟨_, _, rfl⟩
 have hbook1 : ∀ wr, ∀ e ∈ (#[⟨.cell (stA E), wr, true⟩] : Array Event), Book E e := fun wr e he => by
  simp only [List.mem_toArray, List.mem_cons, List.not_mem_nil, or_false] at he
  subst he; exact .at_ _ _ (.inr (.inr rfl))
 have hbook2 : ∀ e ∈ semEvents (smA E), Book E e := sem_bookW
 by_cases hl : σ₉.ms = 3 /\ v' = 0
 · obtain ⟨hms, rfl⟩ := hl
   rw [hms] at hW
   obtain ⟨hwg, hx0, hW'⟩ := hW.last
   rw [hwg, show IntKind.u64.wrap (((4294967297 : Nat) : Int) + 18446744069414584320) = ((1 : Nat) : Int) by decide] at hst
   have R5 : Run Tryz.prog cW 120 (fin (Lv.g4 A J' x tq n c) (.int .u64 ((1 : Nat) : Int))) := Lv.a5 A J' x tq n c
   refine ⟨_, _, _, 4, 1, 1, σ₉.ws, hst, by omega, by omega, by omega, ?_, .set (.inr (.inr (.inl rfl))), Four.setSt hE hw9.j.four (x := 1) (ms := σ₉.ms), hbook, rfl, .inl ⟨by omega, deaf_cells hcells⟩, R5.head, fun a b => by omega, fun hK9 hG => ?_⟩
   · rw [hms]
     have cf := cf_upd hk9 ((σ₉.wk k).out 4 1) (wk := σ₉.wk)
     simp [Wk.out, hG9.fin] at cf
     exact wgi_to hW' (by show c5 _ (upd _ _ (Wk.out _ _ _)) = _; simp only [Wk.out]; omega) (by show c43 _ (upd _ _ (Wk.out _ _ _)) = _; simp only [Wk.out]; omega) (by show c2 _ (upd _ _ (Wk.out _ _ _)) = _; simp only [Wk.out]; omega)
   clear hst R5
   have R5 : Run Tryz.prog cW 120 (fin (Lv.g4 A J' x tq n c) (.int .u64 ((1 : Nat) : Int))) := Lv.a5 A J' x tq n c
   generalize σ₉.lv k 4 1 1 σ₉.ws = τ9 at hK9 hG ⊢
   generalize w₉.setCell (stA E) (.int .u64 ((1 : Nat) : Int)) = wa at hK9 ⊢
   have hK09 := hK08.trans hK9
   refine GoesW.sub (F := 120) (by omega) (run0 cW_ok R5 hK9.j (hne hG (by omega)) fun σb wb hwb => ?_)
   have hGb : Going (σb.wk k) 4 1 := by rw [hwb.wk]; exact hG
   have hK0b := hK09.trans hwb.keep
   have hkb : k < σb.num := Nat.lt_of_lt_of_le hk hK0b.num
   have b5 := Lv.b5 A J' x tq n c
   rw [eWg] at b5
   show GoesW Tryz.prog (proto E Tryz.prog) (k + 1) Stop _ σb (Lv.g5 A J' x tq n c) wb
   refine GoesW.sub (F := 1) (by omega) (stop_lv hE R5.last hwb.j hkb hGb (by omega) fun σc wc hwc hkc hGc => ?_)
   obtain ⟨x', hx'⟩ : ∃ x', c43 σc.num σc.wk = x' + 1 := ⟨c43 σc.num σc.wk - 1, by have := c43_pos hkc (.inl hGc.fin); omega⟩
   have hWc := hwc.j.inv.wgi
   rw [hx'] at hWc
   have hwg1 := hWc.way.2.2.1
   have hst := step_loadA (P := Tryz.prog) (main := false) b5 x73 hwc.j.cellSt
   rw [hwg1] at hst
   have R6 : Run Tryz.prog cW 60 (fin (Lv.g5 A J' x tq n c) (.int .u64 ((1 : Nat) : Int))) := Lv.a6 A J' x tq n c
   refine ⟨_, wc, _, 3, 1, σc.wg, σc.ws, hst, by omega, by omega, by omega, ?_, .refl, ⟨hwc.j.mu, hwc.j.nx, hwc.j.wg, hwc.j.o⟩, hbook1 _, rfl, .inl ⟨by omega, deaf_cells (hcell1 _)⟩, R6.head, fun a b => by omega, fun hKc hG => ?_⟩
   · have cf := cf_upd hkc ((σc.wk k).out 3 1) (wk := σc.wk)
     simp [Wk.out, hGc.fin] at cf
     exact wgi_to hwc.j.inv.wgi (by show c5 _ (upd _ _ (Wk.out _ _ _)) = _; simp only [Wk.out]; omega) (by show c43 _ (upd _ _ (Wk.out _ _ _)) = _; simp only [Wk.out]; omega) (by show c2 _ (upd _ _ (Wk.out _ _ _)) = _; simp only [Wk.out]; omega)
   generalize σc.lv k 3 1 σc.wg σc.ws = τc at hKc hG ⊢
   have hK0c := hK0b.trans hKc
   refine GoesW.sub (F := 60) (by omega) (run0 cW_ok R6 hKc.j (hne hG (by omega)) fun σd wd hwd => ?_)
   have hGd : Going (σd.wk k) 3 1 := by rw [hwd.wk]; exact hG
   have hK0d := hK0c.trans hwd.keep
   have hkd : k < σd.num := Nat.lt_of_lt_of_le hk hK0d.num
   have b6 := Lv.b6 A J' x tq n c
   rw [eWg] at b6
   have R7 := Lv.a7 A J' x tq n c
   show GoesW Tryz.prog (proto E Tryz.prog) (k + 1) Stop _ σd (Lv.g6 A J' x tq n c) wd
   refine GoesW.sub (F := 1) (by omega) (stop_lv hE R6.last hwd.j hkd hGd (by omega) fun σe we hwe hke hGe => ?_)
   obtain ⟨y', hy'⟩ : ∃ y', c43 σe.num σe.wk = y' + 1 := ⟨c43 σe.num σe.wk - 1, by have := c43_pos hke (.inr hGe.fin); omega⟩
   have hWe := hwe.j.inv.wgi
   rw [hy'] at hWe
   have hst := step_storeA (P := Tryz.prog) (main := false) b6 x85 hwe.j.cellSt hwe.j.thawSt
   refine ⟨_, _, _, 2, 1, 0, σe.ws, hst, by omega, by omega, by omega, ?_, .set (.inr (.inr (.inl rfl))), Four.setSt hE hwe.j.four (x := 0) (ms := σe.ms), hbook1 _, rfl, .inl ⟨by omega, deaf_cells (hcell1 _)⟩, R7.head, fun a b => by omega, fun hKe hG => ?_⟩
   · have cf := cf_upd hke ((σe.wk k).out 2 1) (wk := σe.wk)
     simp [Wk.out, hGe.fin] at cf
     exact wgi_to hWe.zero (by show c5 _ (upd _ _ (Wk.out _ _ _)) = _; simp only [Wk.out]; omega) (by show c43 _ (upd _ _ (Wk.out _ _ _)) = _; simp only [Wk.out]; omega) (by show c2 _ (upd _ _ (Wk.out _ _ _)) = _; simp only [Wk.out]; omega)
   clear hst
   generalize σe.lv k 2 1 0 σe.ws = τe at hKe hG ⊢
   generalize we.setCell (stA E) (.int .u64 0) = we' at hKe ⊢
   have hK0e := hK0d.trans hKe
   refine GoesW.sub (F := 80) (by omega) (run0 cW_ok R7 hKe.j (hne hG (by omega)) fun σf wf hwf => ?_)
   have hGf : Going (σf.wk k) 2 1 := by rw [hwf.wk]; exact hG
   have hK0f := hK0e.trans hwf.keep
   have hkf : k < σf.num := Nat.lt_of_lt_of_le hk hK0f.num
   have b7 := Lv.b7 A J' x tq n c
   rw [show (⟨A.Wg, 1, none⟩ : Addr) = smA E by rw [hWg]; rfl] at b7
   show GoesW Tryz.prog (proto E Tryz.prog) (k + 1) Stop _ σf (Lv.g7 A J' x tq n c) wf
   refine GoesW.sub (F := 1) (by omega) (stop_lv hE R7.last hwf.j hkf hGf (by omega) fun σg wg hwg hkg hGg => ?_)
   obtain ⟨z', hz'⟩ : ∃ z', c2 σg.num σg.wk = z' + 1 := ⟨c2 σg.num σg.wk - 1, by have := c2_pos hkg hGg.fin; omega⟩
   have hWg' := hwg.j.inv.wgi
   rw [hz'] at hWg'
   have hst := step_up (P := Tryz.prog) (main := false) b7 x72 hwg.j.cellSm' hwg.j.thawSm'
   rw [hWg'.way2.2.2.2.1, show IntKind.u32.wrap (((0 : Nat) : Int) + 1) = ((1 : Nat) : Int) by decide] at hst
   have hwz := hWg'.way2.2.2.1
   refine ⟨_, _, _, 1, 1, σg.wg, 1, hst, by omega, by omega, by omega, ?_, .set (.inr (.inr (.inl rfl))), Four.setSm hE hwg.j.four (x := 1) (ms := σg.ms), hbook2, rfl, .inl ⟨by omega, deaf_sem _⟩, (isRun_fin _ _).trans R7.last, fun a b => mayWake_ext b7 x72, fun hKg hG => GoesW.here fun σz wz hwz => hstop σz wz _ ((hK0f.trans hKg).trans hwz.keep) (by rw [hwz.wk]; exact hG) (Lv.q8 A J' x tq n c)⟩
   rw [hwz]
   have cf := cf_upd hkg ((σg.wk k).out 1 1) (wk := σg.wk)
   simp [Wk.out, hGg.fin] at cf
   exact wgi_to hWg'.raise (by show c5 _ (upd _ _ (Wk.out _ _ _)) = _; simp only [Wk.out]; omega) (by show c43 _ (upd _ _ (Wk.out _ _ _)) = _; simp only [Wk.out]; omega) (by show c2 _ (upd _ _ (Wk.out _ _ _)) = _; simp only [Wk.out]; omega)
 · obtain ⟨hwg, hW'⟩ := hW.less (fun e => by omega)
   have hmem : σ₉.wg - 4294967296 ∈ Lv.notLast /\ σ₉.wg - 4294967296 <= 9 * 4294967296 := by
    generalize σ₉.wg - 4294967296 = y at hW'
    obtain ⟨a, b, d⟩ := hW'
    by_cases e2 : σ₉.ms <= 2
    · have h := (a e2).2.2.1
      rw [h]
      refine ⟨nl0 _ ?_, ?_⟩ <;> split <;> omega
    · by_cases e3 : σ₉.ms = 3
      · have h := ((b e3).2.1 (by omega)).2.2.1
        rw [h]
        exact ⟨nl1 _ (by omega) (by omega), by omega⟩
      · have h := (d (by omega)).2.2.2.1
        rw [h]
        exact ⟨nl0 0 (by omega), by omega⟩
   rw [u64_less hwg (by have := hmem.2; omega)] at hst
   refine ⟨_, _, _, 1, 1, σ₉.wg - 4294967296, σ₉.ws, hst, by omega, by omega, by omega, ?_, .set (.inr (.inr (.inl rfl))), Four.setSt hE hw9.j.four (x := σ₉.wg - 4294967296) (ms := σ₉.ms), hbook, rfl, .inl ⟨by omega, deaf_cells hcells⟩, (isRun_fin _ _).trans R4.last, fun a b => by omega, fun hK9 hG => GoesW.here fun σa wa hwa => hstop σa wa _ ((hK08.trans hK9).trans hwa.keep) (by rw [hwa.wk]; exact hG) (Lv.q9 A J' x tq n c _ hmem.1)⟩
   have cf := cf_upd hk9 ((σ₉.wk k).out 1 1) (wk := σ₉.wk)
   simp [Wk.out, hG9.fin] at cf
   exact wgi_to hW' (by show c5 _ (upd _ _ (Wk.out _ _ _)) = _; simp only [Wk.out]; omega) (by show c43 _ (upd _ _ (Wk.out _ _ _)) = _; simp only [Wk.out]; omega) (by show c2 _ (upd _ _ (Wk.out _ _ _)) = _; simp only [Wk.out]; omega)
end
section
variable {E : Env} {k : Nat} {Stop : Gh -> Goroutine -> World -> Prop} {σ : Gh} {w : World} {A : Rd.Adr} {tq : Option Addr} {n c : Nat} {D : Tasks}
theorem worker_w (hE : E.Ok) {P0 : Nat} (hD : Data E A tq n c D k σ w) (hJ : J E σ w) (hk : k < σ.num) (hH : AtHead (σ.wk k)) (hP : pot E.n σ <= P0)
  (hstop : ∀ σ₁ w₁ g, (σ₁.wk k).fin = 1 -> (σ₁.wk k).due = 0 -> (σ₁.wk k).df = 1 -> QuitsD Tryz.prog 200 1 g -> Stop σ₁ g w₁) : GWt E k Stop (700 + (P0 + 1) * rnd P0 + 60) σ (Rd.gC0 A) w := by
 refine runW (F := 60) (m := 700 + (P0 + 1) * rnd P0) rfl (fun f d x h => by cases h) (Rd.aC0 A) hJ (by rw [hH.fin]; decide) (fun x hx => ?_) fun σ₁ w₁ hw1 => ?_
 · rw [Rd.lC0] at hx
   simp only [List.mem_cons, List.not_mem_nil, or_false] at hx
   subst hx; exact hD.bf
 show GWt E k Stop _ σ₁ (Rd.gC1 A) w₁
 rw [Rd.hC1]
 have hk1 : k < σ₁.num := Nat.lt_of_lt_of_le hk hw1.num
 have hH1 : AtHead (σ₁.wk k) := by rw [hw1.wk]; exact hH
 have hD1 := hD.keep hw1.keep (by rw [hw1.wk])
 have hP1 : pot E.n σ₁ <= P0 := Nat.le_trans hw1.pot.1 hP
 refine rounds_w (m := 700) hE hD1 hw1.j hk1 hH1 hP1 (fun σ₂ w₂ i J2 hK2 hd => ?_) P0 (Nat.le_refl _) _ σ₁ w₁ (RW.refl hw1.j).keep hH1 hP1
 exact leave_w hE hD1.wg hK2.j (Nat.lt_of_lt_of_le hk1 hK2.num) ⟨hd.lk, hd.fin, hd.df, hd.gone, hd.due⟩ fun σ₃ w₃ g hK3 hG hq => hstop σ₃ w₃ g hG.fin hG.due hG.df hq
end
end Wp
end Go.Proofs.YtnpjonhoihbaeaaGreat
