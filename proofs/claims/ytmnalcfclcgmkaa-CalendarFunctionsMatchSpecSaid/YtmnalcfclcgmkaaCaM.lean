/-
  Minutes that are open: windows of a week, stretches of a range, and counting. Conditions: none.
-/
set_option linter.unusedVariables false
namespace Go.Proofs.Ytmnalcfclcgmkaa
namespace Ca

abbrev Win := Int × (Int × Int)

/-- The window holds this minute of the day with number d. -/
def mtd (d : Int) (w : Win) (m : Int) : Prop := w.1 = d % 7 ∧ 1440 * d + w.2.1 ≤ m ∧ m < 1440 * d + w.2.2

instance (d : Int) (w : Win) (m : Int) : Decidable (mtd d w m) := by unfold mtd; infer_instance

/-- A minute is open. -/
def op (ws : List Win) (hs : List Int) (m : Int) : Bool := !(hs.contains (m / 1440)) && ws.any fun w => decide (mtd (m / 1440) w m)

theorem op_iff {ws : List Win} {hs : List Int} {m : Int} : op ws hs m = true ↔ m / 1440 ∉ hs ∧ ∃ w ∈ ws, mtd (m / 1440) w m := by
  simp [op]

def wok (w : Win) : Prop := 0 ≤ w.1 ∧ w.1 < 7 ∧ 0 ≤ w.2.1 ∧ w.2.2 ≤ 1440 ∧ w.2.1 < w.2.2
def wlt (p w : Win) : Prop := p.1 < w.1 ∨ (p.1 = w.1 ∧ p.2.2 ≤ w.2.1)

/-- The windows are in order. -/
def Ok (ws : List Win) : Prop := (∀ w ∈ ws, wok w) ∧ ws.Pairwise wlt

theorem Ok.tail {w : Win} {ws : List Win} (h : Ok (w :: ws)) : Ok ws := ⟨fun x hx => h.1 x (List.mem_cons_of_mem _ hx), (List.pairwise_cons.1 h.2).2⟩

/-- Stretches that lie one behind another and are what holds of a range. -/
def Cov (p : Int → Bool) : Int → Int → List (Int × Int) → Prop
  | a, b, [] => ∀ m, a ≤ m → m < b → p m = false
  | a, b, x :: r => a ≤ x.1 ∧ x.1 < x.2 ∧ x.2 ≤ b ∧ (∀ m, a ≤ m → m < x.1 → p m = false) ∧ (∀ m, x.1 ≤ m → m < x.2 → p m = true) ∧ Cov p x.2 b r

theorem Cov.append {p : Int → Bool} : ∀ {L1 L2 : List (Int × Int)} {a m b : Int}, a ≤ m → m ≤ b → Cov p a m L1 → Cov p m b L2 → Cov p a b (L1 ++ L2)
  | [], [], a, m, b, h1, h2, c1, c2 => fun k hk hk' => if h : k < m then c1 k hk h else c2 k (by omega) hk'
  | [], x :: L2, a, m, b, h1, h2, c1, c2 => by
    obtain ⟨d1, d2, d3, d4, d5, d6⟩ := c2
    exact ⟨by omega, d2, d3, fun k hk hk' => if h : k < m then c1 k hk h else d4 k (by omega) hk', d5, d6⟩
  | x :: L1, L2, a, m, b, h1, h2, c1, c2 => by
    obtain ⟨d1, d2, d3, d4, d5, d6⟩ := c1
    exact ⟨d1, d2, by omega, d4, d5, Cov.append d3 h2 d6 c2⟩

/-- The stretches of a day. -/
def dayS (d lo hi : Int) : List Win → List (Int × Int)
  | [] => []
  | w :: r => if w.1 = d % 7 ∧ max (1440 * d + w.2.1) lo < min (1440 * d + w.2.2) hi then (max (1440 * d + w.2.1) lo, min (1440 * d + w.2.2) hi) :: dayS d lo hi r else dayS d lo hi r

theorem dayS_cov {p : Int → Bool} {d lo hi e : Int} (he1 : e ≤ hi) (he2 : e = min hi (1440 * (d + 1))) : ∀ (ws : List Win) (a : Int), Ok ws → lo ≤ a → a ≤ e →
    (∀ m, a ≤ m → m < e → (p m = true ↔ ∃ w ∈ ws, mtd d w m)) → (∀ w ∈ ws, w.1 = d % 7 → a ≤ max (1440 * d + w.2.1) lo) → Cov p a e (dayS d lo hi ws)
  | [], a, _, _, _, hp, _ => fun m h1 h2 => by
    have := hp m h1 h2
    simpa using this
  | w :: r, a, hok, hlo, hae, hp, ha => by
    obtain ⟨ok1, ok2⟩ := hok
    obtain ⟨o1, o2, o3, o4, o5⟩ := ok1 w (List.mem_cons_self)
    have hr : ∀ x ∈ r, wlt w x := (List.pairwise_cons.1 ok2).1
    have hokr : Ok r := Ok.tail ⟨ok1, ok2⟩
    simp only [dayS]
    split
    · next hc =>
      obtain ⟨c1, c2⟩ := hc
      have hal := ha w List.mem_cons_self c1
      obtain ⟨L, hL⟩ : ∃ L, L = max (1440 * d + w.2.1) lo := ⟨_, rfl⟩
      obtain ⟨H, hH⟩ : ∃ H, H = min (1440 * d + w.2.2) hi := ⟨_, rfl⟩
      rw [← hL] at c2 hal ⊢
      rw [← hH] at c2 ⊢
      have hHe : H ≤ e := by omega
      refine ⟨hal, c2, hHe, fun m h1 h2 => ?_, fun m h1 h2 => ?_, ?_⟩
      · have := hp m h1 (by omega)
        cases hpm : p m with
        | false => rfl
        | true =>
          obtain ⟨x, hx, e1, e2, e3⟩ := this.1 hpm
          rcases List.mem_cons.1 hx with rfl | hx
          · omega
          · rcases hr x hx with g | ⟨g1, g2⟩ <;> omega
      · exact (hp m (by omega) (by omega)).2 ⟨w, List.mem_cons_self, c1, by omega, by omega⟩
      · refine dayS_cov he1 he2 r H hokr (by omega) hHe (fun m h1 h2 => ?_) (fun x hx hxd => ?_)
        · refine (hp m (by omega) h2).trans ⟨fun ⟨x, hx, e1, e2, e3⟩ => ?_, fun ⟨x, hx, hm⟩ => ⟨x, List.mem_cons_of_mem _ hx, hm⟩⟩
          rcases List.mem_cons.1 hx with rfl | hx
          · omega
          · exact ⟨x, hx, e1, e2, e3⟩
        · rcases hr x hx with g | ⟨g1, g2⟩ <;> omega
    · next hc =>
      refine dayS_cov he1 he2 r a hokr hlo hae (fun m h1 h2 => ?_) (fun x hx hxd => ha x (List.mem_cons_of_mem _ hx) hxd)
      refine (hp m h1 h2).trans ⟨fun ⟨x, hx, e1, e2, e3⟩ => ?_, fun ⟨x, hx, hm⟩ => ⟨x, List.mem_cons_of_mem _ hx, hm⟩⟩
      rcases List.mem_cons.1 hx with rfl | hx
      · exact absurd ⟨e1, by omega⟩ hc
      · exact ⟨x, hx, e1, e2, e3⟩

/-- The stretches of n days. -/
def strN (ws : List Win) (hs : List Int) (lo hi : Int) : Nat → Int → List (Int × Int)
  | 0, _ => []
  | n + 1, d => if 1440 * d < hi then (if hs.contains d then [] else dayS d lo hi ws) ++ strN ws hs lo hi n (d + 1) else []

theorem strN_cov {ws : List Win} {hs : List Int} {lo hi : Int} (hok : Ok ws) (hle : lo ≤ hi) : ∀ (n : Nat) (d : Int), lo < 1440 * (d + 1) → hi ≤ 1440 * (d + n) →
    Cov (op ws hs) (min hi (max lo (1440 * d))) hi (strN ws hs lo hi n d)
  | 0, d, h1, h2 => fun m h3 h4 => by omega
  | n + 1, d, h1, h2 => by
    simp only [strN]
    split
    · next hd =>
      have e1 : min hi (max lo (1440 * d)) = max lo (1440 * d) := by omega
      have e2 : min hi (max lo (1440 * (d + 1))) = min hi (1440 * (d + 1)) := by omega
      have ih := strN_cov (ws := ws) (hs := hs) hok hle n (d + 1) (by omega) (by omega)
      rw [e2] at ih
      rw [e1]
      have hday : ∀ m, max lo (1440 * d) ≤ m → m < min hi (1440 * (d + 1)) → m / 1440 = d := fun m g1 g2 => by omega
      refine Cov.append (m := min hi (1440 * (d + 1))) (by omega) (by omega) ?_ ih
      split
      · next hh =>
        intro m g1 g2
        have := hday m g1 g2
        simp [op, this] at *
        exact fun h => absurd hh h
      · next hh =>
        have hh' : d ∉ hs := by simpa using hh
        refine dayS_cov (by omega) rfl ws _ hok (by omega) (by omega) (fun m g1 g2 => ?_) (fun w hw hwd => ?_)
        · have := hday m g1 g2
          rw [op_iff, this]
          exact ⟨fun h => h.2, fun h => ⟨hh', h⟩⟩
        · have := (hok.1 w hw).2.2.1
          omega
    · next hd => exact fun m h3 h4 => by omega

/-- The stretches of a range. -/
def str (ws : List Win) (hs : List Int) (lo hi : Int) : List (Int × Int) := strN ws hs lo hi ((hi - 1440 * (lo / 1440)).toNat / 1440 + 1) (lo / 1440)

theorem str_cov {ws : List Win} {hs : List Int} {lo hi : Int} (hok : Ok ws) (hle : lo ≤ hi) (h0 : 0 ≤ lo) : Cov (op ws hs) lo hi (str ws hs lo hi) := by
  have h := strN_cov (ws := ws) (hs := hs) hok hle ((hi - 1440 * (lo / 1440)).toNat / 1440 + 1) (lo / 1440) (by omega) (by omega)
  have e : min hi (max lo (1440 * (lo / 1440))) = lo := by omega
  rw [e] at h
  exact h

/-- How many there are before n. -/
def cntN (p : Int → Bool) : Nat → Int
  | 0 => 0
  | n + 1 => cntN p n + (if p n = true then 1 else 0)

/-- How many there are before t. -/
def cnt (p : Int → Bool) (t : Int) : Int := cntN p t.toNat

theorem cnt_succ (p : Int → Bool) {t : Int} (h : 0 ≤ t) : cnt p (t + 1) = cnt p t + (if p t = true then 1 else 0) := by
  unfold cnt
  have e : (t + 1).toNat = t.toNat + 1 := by omega
  rw [e]
  simp only [cntN]
  rw [Int.toNat_of_nonneg h]

theorem cnt_zero (p : Int → Bool) : cnt p 0 = 0 := rfl

theorem cnt_false {p : Int → Bool} {a : Int} (h0 : 0 ≤ a) : ∀ (n : Nat), (∀ m, a ≤ m → m < a + n → p m = false) → cnt p (a + n) = cnt p a
  | 0, _ => by simp
  | n + 1, h => by
    have e : a + ((n + 1 : Nat) : Int) = (a + n) + 1 := by omega
    rw [e, cnt_succ p (by omega), cnt_false h0 n (fun m h1 h2 => h m h1 (by omega)), h (a + n) (by omega) (by omega)]
    simp

theorem cnt_true {p : Int → Bool} {a : Int} (h0 : 0 ≤ a) : ∀ (n : Nat), (∀ m, a ≤ m → m < a + n → p m = true) → cnt p (a + n) = cnt p a + n
  | 0, _ => by simp
  | n + 1, h => by
    have e : a + ((n + 1 : Nat) : Int) = (a + n) + 1 := by omega
    rw [e, cnt_succ p (by omega), cnt_true h0 n (fun m h1 h2 => h m h1 (by omega)), h (a + n) (by omega) (by omega)]
    simp
    omega

theorem cnt_none {p : Int → Bool} {a b : Int} (h0 : 0 ≤ a) (hab : a ≤ b) (h : ∀ m, a ≤ m → m < b → p m = false) : cnt p b = cnt p a := by
  have e : b = a + ((b - a).toNat : Int) := by omega
  rw [e]
  exact cnt_false h0 _ (fun m h1 h2 => h m h1 (by omega))

theorem cnt_all {p : Int → Bool} {a b : Int} (h0 : 0 ≤ a) (hab : a ≤ b) (h : ∀ m, a ≤ m → m < b → p m = true) : cnt p b = cnt p a + (b - a) := by
  have e : b = a + ((b - a).toNat : Int) := by omega
  rw [e, cnt_true h0 _ (fun m h1 h2 => h m h1 (by omega))]
  omega

theorem cnt_mono' (p : Int → Bool) {a : Int} (h0 : 0 ≤ a) : ∀ n : Nat, cnt p a ≤ cnt p (a + n) ∧ cnt p (a + n) ≤ cnt p a + n
  | 0 => by simp
  | n + 1 => by
    have e : a + ((n + 1 : Nat) : Int) = (a + n) + 1 := by omega
    have ih := cnt_mono' p h0 n
    rw [e, cnt_succ p (by omega)]
    split <;> omega

theorem cnt_mono (p : Int → Bool) {a b : Int} (h0 : 0 ≤ a) (hab : a ≤ b) : cnt p a ≤ cnt p b ∧ cnt p b ≤ cnt p a + (b - a) := by
  have e : b = a + ((b - a).toNat : Int) := by omega
  have h := cnt_mono' p h0 (b - a).toNat
  rw [← e] at h
  omega

/-- The lengths of stretches together. -/
def lens : List (Int × Int) → Int
  | [] => 0
  | x :: r => (x.2 - x.1) + lens r

theorem Cov.lens {p : Int → Bool} : ∀ {L : List (Int × Int)} {a b : Int}, 0 ≤ a → a ≤ b → Cov p a b L → lens L = cnt p b - cnt p a
  | [], a, b, h0, hab, h => by
    rw [cnt_none h0 hab h]
    simp [Ca.lens]
  | x :: r, a, b, h0, hab, h => by
    obtain ⟨d1, d2, d3, d4, d5, d6⟩ := h
    have e1 := cnt_none h0 d1 d4
    have e2 := cnt_all (by omega) (by omega) d5
    have e3 := Cov.lens (by omega) d3 d6
    simp only [Ca.lens]
    omega

/-- The time at which so many minutes of the stretches are over. -/
def addS : List (Int × Int) → Int → Option Int
  | [], _ => none
  | x :: r, k => if k ≤ x.2 - x.1 then some (x.1 + k) else addS r (k - (x.2 - x.1))

theorem Cov.add {p : Int → Bool} : ∀ {L : List (Int × Int)} {a b k : Int}, 0 ≤ a → a ≤ b → 0 < k → Cov p a b L →
    (∀ t, addS L k = some t → a < t ∧ t ≤ b ∧ cnt p t = cnt p a + k ∧ p (t - 1) = true) ∧ (addS L k = none → cnt p b < cnt p a + k)
  | [], a, b, k, h0, hab, hk, h => by
    refine ⟨fun t ht => by simp [addS] at ht, fun _ => ?_⟩
    rw [cnt_none h0 hab h]
    omega
  | x :: r, a, b, k, h0, hab, hk, h => by
    obtain ⟨d1, d2, d3, d4, d5, d6⟩ := h
    have e1 := cnt_none h0 d1 d4
    simp only [addS]
    split
    · next hc =>
      refine ⟨fun t ht => ?_, fun hn => by cases hn⟩
      cases ht
      have e2 := cnt_all (p := p) (a := x.1) (b := x.1 + k) (by omega) (by omega) (fun m h1 h2 => d5 m h1 (by omega))
      exact ⟨by omega, by omega, by omega, d5 _ (by omega) (by omega)⟩
    · next hc =>
      have e2 := cnt_all (by omega) (by omega) d5
      have ih := Cov.add (a := x.2) (b := b) (k := k - (x.2 - x.1)) (by omega) d3 (by omega) d6
      refine ⟨fun t ht => ?_, fun hn => ?_⟩
      · obtain ⟨g1, g2, g3, g4⟩ := ih.1 t ht
        exact ⟨by omega, g2, by omega, g4⟩
      · have := ih.2 hn
        omega

theorem addS_bounds {p : Int → Bool} {L : List (Int × Int)} {a b k t : Int} (h0 : 0 ≤ a) (hab : a ≤ b) (hk : 0 < k) (h : Cov p a b L) (ht : addS L k = some t) : a < t ∧ t ≤ b ∧ cnt p t = cnt p a + k ∧ p (t - 1) = true :=
  (Cov.add h0 hab hk h).1 t ht

theorem Cov.mem {p : Int → Bool} : ∀ {L : List (Int × Int)} {a b : Int}, Cov p a b L → ∀ x ∈ L, a ≤ x.1 ∧ x.1 < x.2 ∧ x.2 ≤ b
  | [], _, _, _, x, hx => by simp at hx
  | y :: r, a, b, h, x, hx => by
    obtain ⟨d1, d2, d3, d4, d5, d6⟩ := h
    rcases List.mem_cons.1 hx with rfl | hx
    · exact ⟨d1, d2, d3⟩
    · have := Cov.mem d6 x hx
      omega

theorem lens_append : ∀ (a b : List (Int × Int)), Ca.lens (a ++ b) = Ca.lens a + Ca.lens b
  | [], b => by simp [Ca.lens]
  | x :: a, b => by
    simp only [List.cons_append, Ca.lens, lens_append a b]
    omega

theorem lens_le : ∀ (L : List (Int × Int)) (k : Int), (∀ x ∈ L, 0 < x.2 - x.1 ∧ x.2 - x.1 ≤ k) → (L.length : Int) ≤ Ca.lens L ∧ Ca.lens L ≤ k * L.length
  | [], k, _ => by simp [Ca.lens]
  | x :: r, k, h => by
    have ih := lens_le r k (fun y hy => h y (List.mem_cons_of_mem _ hy))
    have hx := h x List.mem_cons_self
    simp only [Ca.lens, List.length_cons]
    have e : k * ((r.length + 1 : Nat) : Int) = k * (r.length : Int) + k := by
      rw [show ((r.length + 1 : Nat) : Int) = (r.length : Int) + 1 by omega, Int.mul_add, Int.mul_one]
    rw [e]
    omega

/-- The first stretch. -/
theorem Cov.first {p : Int → Bool} {L : List (Int × Int)} {a b : Int} (hab : a ≤ b) (h : Cov p a b L) :
    (∀ x r, L = x :: r → a ≤ x.1 ∧ x.1 < b ∧ p x.1 = true ∧ ∀ m, a ≤ m → m < x.1 → p m = false) ∧ (L = [] → ∀ m, a ≤ m → m < b → p m = false) := by
  refine ⟨fun x r e => ?_, fun e => by subst e; exact h⟩
  subst e
  obtain ⟨d1, d2, d3, d4, d5, d6⟩ := h
  exact ⟨d1, by omega, d5 _ (by omega) d2, d4⟩

/-! ### The minutes as the reference counts them -/

/-- Of a window, what lies before a time. -/
def upw (t : Int) (w : Win) : Int := t / 10080 * (w.2.2 - w.2.1) + max 0 (min (w.2.2 - w.2.1) (t % 10080 - (1440 * w.1 + w.2.1)))

def upTo (ws : List Win) (t : Int) : Int := (ws.map (upw t)).foldr (· + ·) 0

theorem upw_succ {w : Win} (h : wok w) {t : Int} (h0 : 0 ≤ t) : upw (t + 1) w = upw t w + (if mtd (t / 1440) w t then 1 else 0) := by
  obtain ⟨o1, o2, o3, o4, o5⟩ := h
  obtain ⟨d, f, e⟩ := w
  simp only at *
  have hq : t / 1440 % 7 = t % 10080 / 1440 := by omega
  have hd : 1440 * (t / 1440) = t - t % 10080 % 1440 := by omega
  have hz : t % 10080 / 1440 * 1440 + t % 10080 % 1440 = t % 10080 := by omega
  have hmt : mtd (t / 1440) (d, f, e) t ↔ d = t % 10080 / 1440 ∧ 1440 * (t / 1440) + f ≤ t ∧ t < 1440 * (t / 1440) + e := by
    unfold mtd
    simp only
    rw [hq]
  have key : ∀ z : Int, (mtd (t / 1440) (d, f, e) t → z = 1) → (¬ mtd (t / 1440) (d, f, e) t → z = 0) → z = if mtd (t / 1440) (d, f, e) t then 1 else 0 := fun z h1 h2 => by
    split
    · next h => exact h1 h
    · next h => exact h2 h
  unfold upw
  simp only
  by_cases hl : t % 10080 = 10079
  · have e1 : (t + 1) / 10080 = t / 10080 + 1 := by omega
    have e2 : (t + 1) % 10080 = 0 := by omega
    have e3 : (10079 : Int) / 1440 = 6 := by decide
    rw [e1, e2, hl, Int.add_mul]
    rw [hl, e3] at hmt
    rw [← key (1 * (e - f) + max 0 (min (e - f) (0 - (1440 * d + f))) - max 0 (min (e - f) (10079 - (1440 * d + f)))) (fun h => by have := hmt.1 h; omega) (fun h => by have := mt hmt.2 h; omega)]
    omega
  · have e1 : (t + 1) / 10080 = t / 10080 := by omega
    have e2 : (t + 1) % 10080 = t % 10080 + 1 := by omega
    rw [e1, e2]
    rw [← key (max 0 (min (e - f) (t % 10080 + 1 - (1440 * d + f))) - max 0 (min (e - f) (t % 10080 - (1440 * d + f)))) (fun h => by have := hmt.1 h; omega) (fun h => by have := mt hmt.2 h; omega)]
    omega

theorem upTo_succ : ∀ {ws : List Win} {t : Int}, Ok ws → 0 ≤ t → upTo ws (t + 1) = upTo ws t + (if ws.any (fun w => decide (mtd (t / 1440) w t)) = true then 1 else 0)
  | [], t, _, _ => by simp [upTo]
  | w :: r, t, hok, h0 => by
    have ih := upTo_succ (Ok.tail hok) h0
    have e1 := upw_succ (hok.1 w List.mem_cons_self) h0
    have hr : ∀ x ∈ r, wlt w x := (List.pairwise_cons.1 hok.2).1
    unfold upTo at *
    simp only [List.map_cons, List.foldr_cons, e1, ih, List.any_cons]
    by_cases h1 : mtd (t / 1440) w t
    · have h2 : r.any (fun w => decide (mtd (t / 1440) w t)) = false := by
        rw [List.any_eq_false]
        intro x hx hm
        have hm := of_decide_eq_true hm
        obtain ⟨a1, a2, a3⟩ := h1
        obtain ⟨b1, b2, b3⟩ := hm
        rcases hr x hx with g | ⟨g1, g2⟩ <;> omega
      simp only [h1, h2, decide_true, Bool.or_false, if_true, Bool.false_eq_true, if_false]
      omega
    · simp only [h1, decide_false, Bool.false_or, if_false]
      omega

theorem upTo_zero {ws : List Win} : Ok ws → upTo ws 0 = 0 := by
  induction ws with
  | nil => intro; rfl
  | cons w r ih =>
    intro hok
    have := ih (Ok.tail hok)
    obtain ⟨o1, o2, o3, o4, o5⟩ := hok.1 w List.mem_cons_self
    unfold upTo at *
    simp only [List.map_cons, List.foldr_cons, this, upw]
    omega

/-- What the holidays take. -/
def less (ws : List Win) (t : Int) : List Int → Int
  | [] => 0
  | h :: r => (if 1440 * h < t then upTo ws (min t (1440 * h + 1440)) - upTo ws (1440 * h) else 0) + less ws t r

def minutes (ws : List Win) (hs : List Int) (t : Int) : Int := upTo ws t - less ws t hs

theorem less_succ {ws : List Win} (hok : Ok ws) : ∀ {hs : List Int} {t : Int}, (∀ h ∈ hs, 0 ≤ h) → hs.Nodup → 0 ≤ t →
    less ws (t + 1) hs = less ws t hs + (if hs.contains (t / 1440) = true then (if ws.any (fun w => decide (mtd (t / 1440) w t)) = true then 1 else 0) else 0)
  | [], t, _, _, _ => by simp [less]
  | h :: r, t, hp, hn, h0 => by
    have ih := less_succ hok (hs := r) (fun x hx => hp x (List.mem_cons_of_mem _ hx)) (List.nodup_cons.1 hn).2 h0
    have hh := hp h List.mem_cons_self
    have hnr := (List.nodup_cons.1 hn).1
    have us := upTo_succ hok h0
    simp only [less, ih, List.contains_cons]
    by_cases he : t / 1440 = h
    · have hc : r.contains (t / 1440) = false := by rw [he]; simpa using hnr
      have e1 : (t / 1440 == h) = true := by simpa using he
      have e2 : min (t + 1) (1440 * h + 1440) = t + 1 := by omega
      rw [hc, e1, e2, if_pos (show 1440 * h < t + 1 by omega)]
      simp only [Bool.true_or, if_true, Bool.false_eq_true, if_false]
      by_cases hlt : 1440 * h < t
      · rw [if_pos hlt, show min t (1440 * h + 1440) = t by omega]
        omega
      · rw [if_neg hlt]
        have : 1440 * h = t := by omega
        rw [this]
        omega
    · have e1 : (t / 1440 == h) = false := by simpa using he
      rw [e1]
      simp only [Bool.false_or]
      by_cases hlt : 1440 * h < t
      · rw [if_pos hlt, if_pos (show 1440 * h < t + 1 by omega), show min t (1440 * h + 1440) = 1440 * h + 1440 by omega, show min (t + 1) (1440 * h + 1440) = 1440 * h + 1440 by omega]
        omega
      · rw [if_neg hlt, if_neg (show ¬ 1440 * h < t + 1 by omega)]
        omega

theorem less_zero {ws : List Win} : ∀ {hs : List Int}, (∀ h ∈ hs, 0 ≤ h) → less ws 0 hs = 0
  | [], _ => rfl
  | h :: r, hp => by
    have := hp h List.mem_cons_self
    simp only [less, less_zero (hs := r) (fun x hx => hp x (List.mem_cons_of_mem _ hx))]
    rw [if_neg (by omega)]
    rfl

theorem minutes_eq {ws : List Win} {hs : List Int} (hok : Ok ws) (hp : ∀ h ∈ hs, 0 ≤ h) (hn : hs.Nodup) : ∀ n : Nat, minutes ws hs n = cnt (op ws hs) n
  | 0 => by
    unfold minutes
    have e1 : upTo ws ((0 : Nat) : Int) = 0 := upTo_zero hok
    have e2 : less ws ((0 : Nat) : Int) hs = 0 := less_zero hp
    rw [e1, e2]
    rfl
  | n + 1 => by
    have ih := minutes_eq hok hp hn n
    have e : ((n + 1 : Nat) : Int) = (n : Int) + 1 := by omega
    rw [e, cnt_succ _ (by omega), ← ih]
    unfold minutes
    rw [upTo_succ hok (by omega), less_succ hok hp hn (by omega)]
    unfold op
    cases hs.contains ((n : Int) / 1440) <;> cases ws.any (fun w => decide (mtd ((n : Int) / 1440) w (n : Int))) <;> simp <;> omega

theorem minutes_cnt {ws : List Win} {hs : List Int} (hok : Ok ws) (hp : ∀ h ∈ hs, 0 ≤ h) (hn : hs.Nodup) {t : Int} (h0 : 0 ≤ t) : minutes ws hs t = cnt (op ws hs) t := by
  have := minutes_eq hok hp hn t.toNat
  rw [Int.toNat_of_nonneg h0] at this
  exact this

/-! ### Every week is like the one before -/

theorem op_week {ws : List Win} {m : Int} : op ws [] (m + 10080) = op ws [] m := by
  unfold op
  have e : (m + 10080) / 1440 = m / 1440 + 7 := by omega
  rw [e]
  simp only [List.contains_nil, Bool.not_false, Bool.true_and]
  congr 1
  funext w
  unfold mtd
  apply decide_eq_decide.2
  constructor <;> (rintro ⟨h1, h2, h3⟩; exact ⟨by omega, by omega, by omega⟩)

theorem cnt_week {ws : List Win} {a : Int} (h0 : 0 ≤ a) : ∀ n : Nat, cnt (op ws []) (a + n + 10080) - cnt (op ws []) (a + 10080) = cnt (op ws []) (a + n) - cnt (op ws []) a
  | 0 => by simp
  | n + 1 => by
    have ih := cnt_week (ws := ws) h0 n
    have e1 : a + ((n + 1 : Nat) : Int) + 10080 = (a + n + 10080) + 1 := by omega
    have e2 : a + ((n + 1 : Nat) : Int) = (a + n) + 1 := by omega
    rw [e1, e2, cnt_succ _ (by omega), cnt_succ _ (by omega), op_week]
    omega

theorem cnt_weeks {ws : List Win} {a b : Int} (h0 : 0 ≤ a) (hab : a ≤ b) : cnt (op ws []) (b + 10080) - cnt (op ws []) (a + 10080) = cnt (op ws []) b - cnt (op ws []) a := by
  have := cnt_week (ws := ws) h0 (b - a).toNat
  rw [show a + ((b - a).toNat : Int) = b by omega] at this
  exact this

end Ca
end Go.Proofs.Ytmnalcfclcgmkaa
