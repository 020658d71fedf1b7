/-
  P1: the plain law of a ring: the balance grows with the induction, and is four times as great one bit finer; so the bracket is one alone, and the finer one is one of its halves; torques and thrusts of finer brackets lie within those before.
-/
namespace Go.Proofs.YtllmejkmogepjaaDoor.Ix

structure SecOK (n : Nat) (lf df : Nat → Int) (r c t tip w s p : Int) : Prop where
  n0 : 1 ≤ n
  n1 : n ≤ 32
  lf0 : ∀ i, i < n → 0 ≤ lf i ∧ lf i ≤ 1000
  lfm : ∀ i, i < n → lf (i - 1) ≤ lf i
  df0 : ∀ i, i < n → 0 ≤ df i ∧ df i ≤ 1000
  r : 1 ≤ r ∧ r ≤ 200
  c : 1 ≤ c ∧ c ≤ 100
  t : -64 ≤ t ∧ t ≤ 64
  tip : 0 ≤ tip ∧ tip ≤ 256
  w : 1 ≤ w ∧ w ≤ 50
  s : 1 ≤ s ∧ s ≤ 1000
  p : -64 ≤ p ∧ p ≤ 64

def inflP (r w s a : Int) (d : Nat) : Int := 1024 * (2 ^ d - a) * w / (2 ^ d * s * r)
def clsP (n : Nat) (t p x : Int) : Int := min (max 0 (x - (t + p))) (n - 1)
def balP (n : Nat) (lf : Nat → Int) (r c t tip w s p a : Int) (d : Nat) : Int :=
  1024 * a * (2 ^ d - a) * r - 2 ^ d * 2 ^ d * c * tip * lf (clsP n t p (inflP r w s a d)).toNat

theorem two_pos (d : Nat) : (0 : Int) < 2 ^ d := Int.pow_pos (by decide)

theorem inflP_dbl (r w s a : Int) (d : Nat) : inflP r w s (2 * a) (d + 1) = inflP r w s a d := by
  unfold inflP
  rw [Int.pow_succ]
  rw [show 1024 * ((2 : Int) ^ d * 2 - 2 * a) * w = 2 * (1024 * (2 ^ d - a) * w) by grind, show (2 : Int) ^ d * 2 * s * r = 2 * (2 ^ d * s * r) by grind]
  exact Int.mul_ediv_mul_of_pos _ _ (by decide)

theorem balP_dbl (n : Nat) (lf : Nat → Int) (r c t tip w s p a : Int) (d : Nat) : balP n lf r c t tip w s p (2 * a) (d + 1) = 4 * balP n lf r c t tip w s p a d := by
  unfold balP
  rw [inflP_dbl, Int.pow_succ]
  generalize lf _ = l
  grind

variable {n : Nat} {lf df : Nat → Int} {r c t tip w s p : Int}

theorem den_pos (h : SecOK n lf df r c t tip w s p) (d : Nat) : 0 < 2 ^ d * s * r :=
  Int.mul_pos (Int.mul_pos (two_pos d) (by have := h.s; omega)) (by have := h.r; omega)

theorem inflP_mono (h : SecOK n lf df r c t tip w s p) {a b : Int} {d : Nat} (hab : a ≤ b) : inflP r w s b d ≤ inflP r w s a d := by
  unfold inflP
  refine Int.ediv_le_ediv (den_pos h d) (Int.mul_le_mul_of_nonneg_right (by omega) (by have := h.w; omega))

theorem inflP_nonneg (h : SecOK n lf df r c t tip w s p) {a : Int} {d : Nat} (ha : a ≤ 2 ^ d) : 0 ≤ inflP r w s a d := by
  unfold inflP
  exact Int.ediv_nonneg (Int.mul_nonneg (by omega) (by have := h.w; omega)) (Int.le_of_lt (den_pos h d))

theorem inflP_le (h : SecOK n lf df r c t tip w s p) {a : Int} {d : Nat} (ha : 0 ≤ a) : inflP r w s a d ≤ 51200 := by
  unfold inflP
  refine Int.ediv_le_of_le_mul (den_pos h d) ?_
  have hp := two_pos d
  have h1 : (2 ^ d - a) * w ≤ 2 ^ d * 50 := by
    have h2 : (2 ^ d - a) * w ≤ 2 ^ d * w := Int.mul_le_mul_of_nonneg_right (by omega) (by have := h.w; omega)
    have h3 : (2 : Int) ^ d * w ≤ 2 ^ d * 50 := Int.mul_le_mul_of_nonneg_left h.w.2 (by omega)
    omega
  have h4 : (2 : Int) ^ d * 1 ≤ 2 ^ d * (s * r) := Int.mul_le_mul_of_nonneg_left (by have := Int.mul_pos (show 0 < s by have := h.s; omega) (show 0 < r by have := h.r; omega); omega) (by omega)
  have e1 : 1024 * (2 ^ d - a) * w = 1024 * ((2 ^ d - a) * w) := by grind
  have e2 : (2 : Int) ^ d * s * r = 2 ^ d * (s * r) := by grind
  rw [e1, e2]; omega

theorem clsP_lo (h : SecOK n lf df r c t tip w s p) (x : Int) : 0 ≤ clsP n t p x ∧ clsP n t p x < n := by
  have := h.n0
  unfold clsP; omega

theorem lf_mono (h : SecOK n lf df r c t tip w s p) {j : Nat} : ∀ {i : Nat}, i ≤ j → j < n → lf i ≤ lf j := by
  induction j with
  | zero => intro i hi _; rw [show i = 0 by omega]; exact Int.le_refl _
  | succ j ih =>
    intro i hi hj
    by_cases e : i = j + 1
    · rw [e]; exact Int.le_refl _
    · exact Int.le_trans (ih (by omega) (by omega)) (by simpa using h.lfm (j + 1) hj)

theorem par_mono {a b D : Int} (h : a ≤ b) (h2 : a + b ≤ D) : a * (D - a) ≤ b * (D - b) := by
  have := Int.mul_nonneg (show 0 ≤ b - a by omega) (show 0 ≤ D - a - b by omega)
  grind

theorem lfcls_mono (h : SecOK n lf df r c t tip w s p) {x y : Int} (hxy : x ≤ y) : lf (clsP n t p x).toNat ≤ lf (clsP n t p y).toNat := by
  have h1 := clsP_lo h x
  have h2 := clsP_lo h y
  refine lf_mono h ?_ (by omega)
  have : clsP n t p x ≤ clsP n t p y := by unfold clsP; omega
  omega

theorem balP_mono (h : SecOK n lf df r c t tip w s p) {a b : Int} {d : Nat} (hab : a ≤ b) (h2 : a + b ≤ 2 ^ d) : balP n lf r c t tip w s p a d ≤ balP n lf r c t tip w s p b d := by
  unfold balP
  have h3 := lfcls_mono h (inflP_mono h (d := d) hab)
  have h4 : 1024 * (a * (2 ^ d - a)) * r ≤ 1024 * (b * (2 ^ d - b)) * r := Int.mul_le_mul_of_nonneg_right (by have := par_mono hab h2; omega) (by have := h.r; omega)
  have hq : 0 ≤ (2 : Int) ^ d * 2 ^ d * c * tip := Int.mul_nonneg (Int.mul_nonneg (Int.mul_nonneg (Int.le_of_lt (two_pos d)) (Int.le_of_lt (two_pos d))) (by have := h.c; omega)) h.tip.1
  have h5 := Int.mul_le_mul_of_nonneg_left h3 hq
  have e1 : 1024 * a * (2 ^ d - a) * r = 1024 * (a * (2 ^ d - a)) * r := by grind
  have e2 : 1024 * b * (2 ^ d - b) * r = 1024 * (b * (2 ^ d - b)) * r := by grind
  rw [e1, e2]; omega

theorem balP_zero (h : SecOK n lf df r c t tip w s p) (d : Nat) : balP n lf r c t tip w s p 0 d ≤ 0 := by
  unfold balP
  have hc := clsP_lo h (inflP r w s 0 d)
  have hq : 0 ≤ (2 : Int) ^ d * 2 ^ d * c * tip := Int.mul_nonneg (Int.mul_nonneg (Int.mul_nonneg (Int.le_of_lt (two_pos d)) (Int.le_of_lt (two_pos d))) (by have := h.c; omega)) h.tip.1
  have := Int.mul_nonneg hq (h.lf0 (clsP n t p (inflP r w s 0 d)).toNat (by omega)).1
  simp; exact this

/-- 'a' is the bracket of the depth 'd + 1'. -/
def IsBr (f : Int → Int) (half a : Int) : Prop := 0 ≤ a ∧ a < half ∧ f a ≤ 0 ∧ 0 < f (a + 1)

theorem IsBr.uniq (h : SecOK n lf df r c t tip w s p) {d : Nat} {a b : Int} (ha : IsBr (fun a => balP n lf r c t tip w s p a (d + 1)) (2 ^ d) a) (hb : IsBr (fun a => balP n lf r c t tip w s p a (d + 1)) (2 ^ d) b) : a = b := by
  obtain ⟨a1, a2, a3, a4⟩ := ha
  obtain ⟨b1, b2, b3, b4⟩ := hb
  simp only at a3 a4 b3 b4
  have hp := Int.pow_succ (2 : Int) d
  rcases Int.lt_trichotomy a b with hl | e | hl
  · have := balP_mono h (d := d + 1) (show a + 1 ≤ b by omega) (by omega)
    omega
  · exact e
  · have := balP_mono h (d := d + 1) (show b + 1 ≤ a by omega) (by omega)
    omega

/-- One bit finer, the bracket is one of the halves. -/
theorem IsBr.finer {d : Nat} {a : Int} (ha : IsBr (fun a => balP n lf r c t tip w s p a (d + 1)) (2 ^ d) a) :
    IsBr (fun a => balP n lf r c t tip w s p a (d + 1 + 1)) (2 ^ (d + 1)) (if 0 < balP n lf r c t tip w s p (2 * a + 1) (d + 1 + 1) then 2 * a else 2 * a + 1) := by
  obtain ⟨a1, a2, a3, a4⟩ := ha
  simp only at a3 a4
  have e0 := balP_dbl n lf r c t tip w s p a (d + 1)
  have e1 := balP_dbl n lf r c t tip w s p (a + 1) (d + 1)
  rw [show 2 * (a + 1) = 2 * a + 1 + 1 by omega] at e1
  have hp := Int.pow_succ (2 : Int) d
  unfold IsBr
  simp only
  split <;> (refine ⟨by omega, by omega, by omega, ?_⟩)
  · assumption
  · omega

/-- There is a bracket exactly if the balance at 1/2 is above 0: at each depth alike. -/
theorem balP_half (d : Nat) : balP n lf r c t tip w s p (2 ^ d) (d + 1) = 4 ^ d * balP n lf r c t tip w s p 1 1 := by
  induction d with
  | zero => simp
  | succ d ih =>
    have := balP_dbl n lf r c t tip w s p (2 ^ d) (d + 1)
    rw [Int.pow_succ, Int.mul_comm (2 ^ d) 2, this, ih, Int.pow_succ]
    grind

/-! The torque at an inflow. -/
def ofP (n : Nat) (lf df : Nat → Int) (r c t tip p x : Int) : Int :=
  r * c * tip * (x * lf (clsP n t p x).toNat - 1024 * df (clsP n t p x).toNat)

theorem coef_nonneg (h : SecOK n lf df r c t tip w s p) : 0 ≤ r * c * tip :=
  Int.mul_nonneg (Int.mul_nonneg (by have := h.r; omega) (by have := h.c; omega)) h.tip.1

/-- Within a class the torque grows. -/
theorem ofP_mono (h : SecOK n lf df r c t tip w s p) {x y : Int} (hxy : x ≤ y) (hc : clsP n t p x = clsP n t p y) : ofP n lf df r c t tip p x ≤ ofP n lf df r c t tip p y := by
  unfold ofP
  rw [hc]
  have h1 := clsP_lo h y
  have h2 := Int.mul_le_mul_of_nonneg_right hxy (h.lf0 (clsP n t p y).toNat (by omega)).1
  exact Int.mul_le_mul_of_nonneg_left (by omega) (coef_nonneg h)

/-- The places that are looked at between least and most. -/
def stepsP (n : Nat) (lf df : Nat → Int) (r c t tip p least most : Int) : Nat → Int × Int
  | 0 => (min (ofP n lf df r c t tip p least) (ofP n lf df r c t tip p most), max (ofP n lf df r c t tip p least) (ofP n lf df r c t tip p most))
  | k + 1 =>
    let o := stepsP n lf df r c t tip p least most k
    let j := t + p + k - 1
    if j > least ∧ j < most then (min o.1 (ofP n lf df r c t tip p j), max o.2 (ofP n lf df r c t tip p j)) else o

variable {least most : Int}

theorem stepsP_in (hlm : least ≤ most) : ∀ k, ∃ i j, least ≤ i ∧ i ≤ most ∧ least ≤ j ∧ j ≤ most ∧ (stepsP n lf df r c t tip p least most k).1 = ofP n lf df r c t tip p i ∧ (stepsP n lf df r c t tip p least most k).2 = ofP n lf df r c t tip p j
  | 0 => by
    simp only [stepsP]
    generalize ha : ofP n lf df r c t tip p least = a
    generalize hb : ofP n lf df r c t tip p most = b
    by_cases e : a ≤ b
    · exact ⟨least, most, by omega, by omega, by omega, by omega, by omega, by omega⟩
    · exact ⟨most, least, by omega, by omega, by omega, by omega, by omega, by omega⟩
  | k + 1 => by
    obtain ⟨i, j, h1, h2, h3, h4, h5, h6⟩ := stepsP_in hlm k
    simp only [stepsP]
    split
    · rename_i hq
      generalize t + p + (k : Int) - 1 = q at hq ⊢
      obtain ⟨i', hi', e1⟩ : ∃ i', (least ≤ i' ∧ i' ≤ most) ∧ min (stepsP n lf df r c t tip p least most k).1 (ofP n lf df r c t tip p q) = ofP n lf df r c t tip p i' := by
        by_cases e : (stepsP n lf df r c t tip p least most k).1 ≤ ofP n lf df r c t tip p q
        · exact ⟨i, ⟨h1, h2⟩, by omega⟩
        · exact ⟨q, by omega, by omega⟩
      obtain ⟨j', hj', e2⟩ : ∃ j', (least ≤ j' ∧ j' ≤ most) ∧ max (stepsP n lf df r c t tip p least most k).2 (ofP n lf df r c t tip p q) = ofP n lf df r c t tip p j' := by
        by_cases e : (stepsP n lf df r c t tip p least most k).2 ≤ ofP n lf df r c t tip p q
        · exact ⟨q, by omega, by omega⟩
        · exact ⟨j, ⟨h3, h4⟩, by omega⟩
      exact ⟨i', j', hi'.1, hi'.2, hj'.1, hj'.2, e1, e2⟩
    · exact ⟨i, j, h1, h2, h3, h4, h5, h6⟩

theorem stepsP_le : ∀ k m, m ≤ k → (stepsP n lf df r c t tip p least most k).1 ≤ (stepsP n lf df r c t tip p least most m).1 ∧ (stepsP n lf df r c t tip p least most m).2 ≤ (stepsP n lf df r c t tip p least most k).2
  | 0, m, h => by rw [show m = 0 by omega]; exact ⟨Int.le_refl _, Int.le_refl _⟩
  | k + 1, m, h => by
    by_cases e : m = k + 1
    · rw [e]; exact ⟨Int.le_refl _, Int.le_refl _⟩
    · obtain ⟨h1, h2⟩ := stepsP_le k m (by omega)
      have : (stepsP n lf df r c t tip p least most (k + 1)).1 ≤ (stepsP n lf df r c t tip p least most k).1 ∧ (stepsP n lf df r c t tip p least most k).2 ≤ (stepsP n lf df r c t tip p least most (k + 1)).2 := by
        simp only [stepsP]
        split
        · simp only; omega
        · exact ⟨Int.le_refl _, Int.le_refl _⟩
      omega

/-- A place that is looked at. -/
theorem stepsP_at {k m : Nat} (hm : m < k) (h1 : least < t + p + m - 1) (h2 : t + p + m - 1 < most) :
    (stepsP n lf df r c t tip p least most k).1 ≤ ofP n lf df r c t tip p (t + p + m - 1) ∧ ofP n lf df r c t tip p (t + p + m - 1) ≤ (stepsP n lf df r c t tip p least most k).2 := by
  obtain ⟨g1, g2⟩ := stepsP_le (n := n) (lf := lf) (df := df) (r := r) (c := c) (t := t) (tip := tip) (p := p) (least := least) (most := most) k (m + 1) hm
  have : (stepsP n lf df r c t tip p least most (m + 1)).1 ≤ ofP n lf df r c t tip p (t + p + m - 1) ∧ ofP n lf df r c t tip p (t + p + m - 1) ≤ (stepsP n lf df r c t tip p least most (m + 1)).2 := by
    simp only [stepsP]
    rw [if_pos ⟨by omega, by omega⟩]
    simp only; omega
  omega

theorem stepsP_ends (k : Nat) : ∀ x, x = least ∨ x = most → (stepsP n lf df r c t tip p least most k).1 ≤ ofP n lf df r c t tip p x ∧ ofP n lf df r c t tip p x ≤ (stepsP n lf df r c t tip p least most k).2 := by
  intro x hx
  obtain ⟨g1, g2⟩ := stepsP_le (n := n) (lf := lf) (df := df) (r := r) (c := c) (t := t) (tip := tip) (p := p) (least := least) (most := most) k 0 (Nat.zero_le _)
  simp only [stepsP] at g1 g2
  rcases hx with rfl | rfl <;> omega

/-- The torques of all inflows between lie between. -/
theorem stepsP_all (h : SecOK n lf df r c t tip w s p) {x : Int} (h1 : least ≤ x) (h2 : x ≤ most) :
    (stepsP n lf df r c t tip p least most (n + 2)).1 ≤ ofP n lf df r c t tip p x ∧ ofP n lf df r c t tip p x ≤ (stepsP n lf df r c t tip p least most (n + 2)).2 := by
  have hn := h.n0
  have hl := stepsP_ends (n := n) (lf := lf) (df := df) (r := r) (c := c) (t := t) (tip := tip) (p := p) (least := least) (most := most) (n + 2) least (.inl rfl)
  have hm := stepsP_ends (n := n) (lf := lf) (df := df) (r := r) (c := c) (t := t) (tip := tip) (p := p) (least := least) (most := most) (n + 2) most (.inr rfl)
  by_cases e1 : x < t + p - 1
  · refine ⟨?_, ?_⟩
    · have := ofP_mono h h1 (by unfold clsP; omega)
      omega
    · by_cases e2 : t + p - 1 < most
      · have h3 := stepsP_at (n := n) (lf := lf) (df := df) (r := r) (c := c) (tip := tip) (t := t) (p := p) (least := least) (most := most) (k := n + 2) (m := 0) (by omega) (by omega) (by omega)
        have h4 := ofP_mono h (x := x) (y := t + p + (0 : Nat) - 1) (by omega) (by unfold clsP; omega)
        omega
      · have := ofP_mono h h2 (by unfold clsP; omega)
        omega
  · by_cases e3 : t + p + n < x
    · refine ⟨?_, ?_⟩
      · by_cases e2 : least < t + p + n
        · have h3 := stepsP_at (n := n) (lf := lf) (df := df) (r := r) (c := c) (tip := tip) (t := t) (p := p) (least := least) (most := most) (k := n + 2) (m := n + 1) (by omega) (by omega) (by omega)
          have h4 := ofP_mono h (x := t + p + ((n + 1 : Nat) : Int) - 1) (y := x) (by omega) (by unfold clsP; omega)
          omega
        · have := ofP_mono h h1 (by unfold clsP; omega)
          omega
      · have := ofP_mono h h2 (by unfold clsP; omega)
        omega
    · by_cases e4 : x = least
      · rw [e4]; exact hl
      · by_cases e5 : x = most
        · rw [e5]; exact hm
        · obtain ⟨m, hm'⟩ : ∃ m : Nat, x = t + p + m - 1 := ⟨(x - (t + p) + 1).toNat, by omega⟩
          rw [hm']
          exact stepsP_at (by omega) (by omega) (by omega)

/-- The torque of a ring at its bracket. -/
def torqueP (n : Nat) (lf df : Nat → Int) (r c t tip w s p a : Int) (d : Nat) : Int × Int :=
  stepsP n lf df r c t tip p (inflP r w s (a + 1) d) (inflP r w s a d) (n + 2)

/-- The torques of a lesser range of inflows lie within. -/
theorem torqueP_within (h : SecOK n lf df r c t tip w s p) {a a' : Int} {d d' : Nat} (h1 : inflP r w s (a + 1) d ≤ inflP r w s (a' + 1) d') (h2 : inflP r w s a' d' ≤ inflP r w s a d) :
    (torqueP n lf df r c t tip w s p a d).1 ≤ (torqueP n lf df r c t tip w s p a' d').1 ∧ (torqueP n lf df r c t tip w s p a' d').2 ≤ (torqueP n lf df r c t tip w s p a d).2 := by
  have hlm := inflP_mono h (d := d') (show a' ≤ a' + 1 by omega)
  obtain ⟨i, j, i1, i2, j1, j2, e1, e2⟩ := stepsP_in (n := n) (lf := lf) (df := df) (r := r) (c := c) (t := t) (tip := tip) (p := p) hlm (n + 2)
  have g1 := stepsP_all h (least := inflP r w s (a + 1) d) (most := inflP r w s a d) (x := i) (by omega) (by omega)
  have g2 := stepsP_all h (least := inflP r w s (a + 1) d) (most := inflP r w s a d) (x := j) (by omega) (by omega)
  unfold torqueP
  rw [e1, e2]
  omega

/-- One bracket within another: 'k' bits finer. -/
theorem inflP_shift (r w s a : Int) (d : Nat) : ∀ k : Nat, inflP r w s (2 ^ k * a) (d + k) = inflP r w s a d
  | 0 => by simp
  | k + 1 => by
    rw [show (2 : Int) ^ (k + 1) * a = 2 * (2 ^ k * a) by rw [Int.pow_succ]; grind, show d + (k + 1) = d + k + 1 by omega, inflP_dbl, inflP_shift r w s a d k]

theorem torqueP_nested (h : SecOK n lf df r c t tip w s p) {a a' : Int} {d k : Nat} (h1 : 2 ^ k * a ≤ a') (h2 : a' + 1 ≤ 2 ^ k * (a + 1)) :
    (torqueP n lf df r c t tip w s p a d).1 ≤ (torqueP n lf df r c t tip w s p a' (d + k)).1 ∧ (torqueP n lf df r c t tip w s p a' (d + k)).2 ≤ (torqueP n lf df r c t tip w s p a d).2 := by
  refine torqueP_within h ?_ ?_
  · rw [← inflP_shift r w s (a + 1) d k]; exact inflP_mono h h2
  · rw [← inflP_shift r w s a d k]; exact inflP_mono h h1

/-- The thrust. -/
def thrustP (r k : Int) (d : Nat) : Int := 1024 * k * (2 ^ d - k) * r

theorem thrustP_shift (r a : Int) (d : Nat) (k : Nat) : thrustP r (2 ^ k * a) (d + k) = 4 ^ k * thrustP r a d := by
  unfold thrustP
  rw [Int.pow_add, show (4 : Int) ^ k = 2 ^ k * 2 ^ k by rw [show (4 : Int) = 2 * 2 by decide, Int.mul_pow]]
  grind

theorem thrustP_mono {r a b : Int} {d : Nat} (hr : 0 ≤ r) (h : a ≤ b) (h2 : a + b ≤ 2 ^ d) : thrustP r a d ≤ thrustP r b d := by
  unfold thrustP
  have h4 : 1024 * (a * (2 ^ d - a)) * r ≤ 1024 * (b * (2 ^ d - b)) * r := Int.mul_le_mul_of_nonneg_right (by have := par_mono h h2; omega) hr
  have e1 : 1024 * a * (2 ^ d - a) * r = 1024 * (a * (2 ^ d - a)) * r := by grind
  have e2 : 1024 * b * (2 ^ d - b) * r = 1024 * (b * (2 ^ d - b)) * r := by grind
  rw [e1, e2]; exact h4

theorem thrustP_nested {r a a' : Int} {d k : Nat} (hr : 0 ≤ r) (h0 : a < 2 ^ d) (h1 : 2 ^ k * a ≤ a') (h2 : a' + 1 ≤ 2 ^ k * (a + 1)) :
    4 ^ k * thrustP r a (d + 1) ≤ thrustP r a' (d + 1 + k) ∧ thrustP r (a' + 1) (d + 1 + k) ≤ 4 ^ k * thrustP r (a + 1) (d + 1) := by
  rw [← thrustP_shift, ← thrustP_shift]
  have hk := two_pos k
  have e : (2 : Int) ^ (d + 1 + k) = 2 * (2 ^ k * 2 ^ d) := by rw [show d + 1 + k = k + d + 1 by omega, Int.pow_succ, Int.pow_add]; omega
  have h3 : (2 : Int) ^ k * (a + 1) ≤ 2 ^ k * 2 ^ d := Int.mul_le_mul_of_nonneg_left (by omega) (by omega)
  exact ⟨thrustP_mono hr h1 (by omega), thrustP_mono hr h2 (by omega)⟩

end Go.Proofs.YtllmejkmogepjaaDoor.Ix
