/-
  P1: the plain law of a ring: the balance grows with the induction, and is four times as great one bit finer; so the bracket is one alone, and the finer one is one of its halves; torques and thrusts of finer brackets lie within those before.
-/
import Derived.Test.YtllmejkmogepjaaDoorM4
import Derived.Lib.ItoaLen
import Derived.Lib.Join
import Derived.ChangeArms
import Derived.OpenShut
import Derived.ChangeShapes
import Derived.SizedLaws
import Derived.Carry
import Derived.Lib.LaidTab
import Derived.Shelf.LaysM
import Derived.Shelf.Strings.OnBuilder
import Derived.Shelf.Strconv.Itoa3
import Derived.Test.YtllmejkmogepjaaDoorProg
import Derived.MakeChecks
import Derived.Test.YtllmejkmogepjaaDoorRows
import Derived.Test.YtllmejkmogepjaaDoorTie
import Derived.Test.YtllmejkmogepjaaDoorCards
import Derived.ProofKit
import Derived.LaidMore
import Derived.Stop.Joined
import Derived.SevenTiedAt
namespace Go.Proofs.YtllmejkmogepjaaDoor.Ix

structure SecOK (n : Nat) (lf df : Nat → Int) (r c t tip w s p : Int) : Prop where
  n0 : 1 ≤ n
  n1 : n ≤ 32
  lf0 : ∀ i, i < n → 0 ≤ lf i ∧ lf i ≤ 1000
  lfm : ∀ i, i < n → lf (i - 1) ≤ lf i
  df0 : ∀ i, i < n → 0 ≤ df i ∧ df i ≤ 1000
  r : 1 ≤ r ∧ r ≤ 200
  c : 1 ≤ c ∧ c ≤ 100
  t : -64 ≤ t ∧ t ≤ 64
  tip : 0 ≤ tip ∧ tip ≤ 256
  w : 1 ≤ w ∧ w ≤ 50
  s : 1 ≤ s ∧ s ≤ 1000
  p : -64 ≤ p ∧ p ≤ 64

def inflP (r w s a : Int) (d : Nat) : Int := 1024 * (2 ^ d - a) * w / (2 ^ d * s * r)
def clsP (n : Nat) (t p x : Int) : Int := min (max 0 (x - (t + p))) (n - 1)
def balP (n : Nat) (lf : Nat → Int) (r c t tip w s p a : Int) (d : Nat) : Int :=
  1024 * a * (2 ^ d - a) * r - 2 ^ d * 2 ^ d * c * tip * lf (clsP n t p (inflP r w s a d)).toNat

theorem two_pos (d : Nat) : (0 : Int) < 2 ^ d := Int.pow_pos (by decide)

theorem inflP_dbl (r w s a : Int) (d : Nat) : inflP r w s (2 * a) (d + 1) = inflP r w s a d := by
  unfold inflP
  rw [Int.pow_succ]
  rw [show 1024 * ((2 : Int) ^ d * 2 - 2 * a) * w = 2 * (1024 * (2 ^ d - a) * w) by grind, show (2 : Int) ^ d * 2 * s * r = 2 * (2 ^ d * s * r) by grind]
  exact Int.mul_ediv_mul_of_pos _ _ (by decide)

theorem balP_dbl (n : Nat) (lf : Nat → Int) (r c t tip w s p a : Int) (d : Nat) : balP n lf r c t tip w s p (2 * a) (d + 1) = 4 * balP n lf r c t tip w s p a d := by
  unfold balP
  rw [inflP_dbl, Int.pow_succ]
  generalize lf _ = l
  grind

variable {n : Nat} {lf df : Nat → Int} {r c t tip w s p : Int}

theorem den_pos (h : SecOK n lf df r c t tip w s p) (d : Nat) : 0 < 2 ^ d * s * r :=
  Int.mul_pos (Int.mul_pos (two_pos d) (by have := h.s; omega)) (by have := h.r; omega)

theorem inflP_mono (h : SecOK n lf df r c t tip w s p) {a b : Int} {d : Nat} (hab : a ≤ b) : inflP r w s b d ≤ inflP r w s a d := by
  unfold inflP
  refine Int.ediv_le_ediv (den_pos h d) (Int.mul_le_mul_of_nonneg_right (by omega) (by have := h.w; omega))

theorem inflP_nonneg (h : SecOK n lf df r c t tip w s p) {a : Int} {d : Nat} (ha : a ≤ 2 ^ d) : 0 ≤ inflP r w s a d := by
  unfold inflP
  exact Int.ediv_nonneg (Int.mul_nonneg (by omega) (by have := h.w; omega)) (Int.le_of_lt (den_pos h d))

theorem inflP_le (h : SecOK n lf df r c t tip w s p) {a : Int} {d : Nat} (ha : 0 ≤ a) : inflP r w s a d ≤ 51200 := by
  unfold inflP
  refine Int.ediv_le_of_le_mul (den_pos h d) ?_
  have hp := two_pos d
  have h1 : (2 ^ d - a) * w ≤ 2 ^ d * 50 := by
    have h2 : (2 ^ d - a) * w ≤ 2 ^ d * w := Int.mul_le_mul_of_nonneg_right (by omega) (by have := h.w; omega)
    have h3 : (2 : Int) ^ d * w ≤ 2 ^ d * 50 := Int.mul_le_mul_of_nonneg_left h.w.2 (by omega)
    omega
  have h4 : (2 : Int) ^ d * 1 ≤ 2 ^ d * (s * r) := Int.mul_le_mul_of_nonneg_left (by have := Int.mul_pos (show 0 < s by have := h.s; omega) (show 0 < r by have := h.r; omega); omega) (by omega)
  have e1 : 1024 * (2 ^ d - a) * w = 1024 * ((2 ^ d - a) * w) := by grind
  have e2 : (2 : Int) ^ d * s * r = 2 ^ d * (s * r) := by grind
  rw [e1, e2]; omega

theorem clsP_lo (h : SecOK n lf df r c t tip w s p) (x : Int) : 0 ≤ clsP n t p x ∧ clsP n t p x < n := by
  have := h.n0
  unfold clsP; omega

theorem lf_mono (h : SecOK n lf df r c t tip w s p) {j : Nat} : ∀ {i : Nat}, i ≤ j → j < n → lf i ≤ lf j := by
  induction j with
  | zero => intro i hi _; rw [show i = 0 by omega]; exact Int.le_refl _
  | succ j ih =>
    intro i hi hj
    by_cases e : i = j + 1
    · rw [e]; exact Int.le_refl _
    · exact Int.le_trans (ih (by omega) (by omega)) (by simpa using h.lfm (j + 1) hj)

theorem par_mono {a b D : Int} (h : a ≤ b) (h2 : a + b ≤ D) : a * (D - a) ≤ b * (D - b) := by
  have := Int.mul_nonneg (show 0 ≤ b - a by omega) (show 0 ≤ D - a - b by omega)
  grind

theorem lfcls_mono (h : SecOK n lf df r c t tip w s p) {x y : Int} (hxy : x ≤ y) : lf (clsP n t p x).toNat ≤ lf (clsP n t p y).toNat := by
  have h1 := clsP_lo h x
  have h2 := clsP_lo h y
  refine lf_mono h ?_ (by omega)
  have : clsP n t p x ≤ clsP n t p y := by unfold clsP; omega
  omega

theorem balP_mono (h : SecOK n lf df r c t tip w s p) {a b : Int} {d : Nat} (hab : a ≤ b) (h2 : a + b ≤ 2 ^ d) : balP n lf r c t tip w s p a d ≤ balP n lf r c t tip w s p b d := by
  unfold balP
  have h3 := lfcls_mono h (inflP_mono h (d := d) hab)
  have h4 : 1024 * (a * (2 ^ d - a)) * r ≤ 1024 * (b * (2 ^ d - b)) * r := Int.mul_le_mul_of_nonneg_right (by have := par_mono hab h2; omega) (by have := h.r; omega)
  have hq : 0 ≤ (2 : Int) ^ d * 2 ^ d * c * tip := Int.mul_nonneg (Int.mul_nonneg (Int.mul_nonneg (Int.le_of_lt (two_pos d)) (Int.le_of_lt (two_pos d))) (by have := h.c; omega)) h.tip.1
  have h5 := Int.mul_le_mul_of_nonneg_left h3 hq
  have e1 : 1024 * a * (2 ^ d - a) * r = 1024 * (a * (2 ^ d - a)) * r := by grind
  have e2 : 1024 * b * (2 ^ d - b) * r = 1024 * (b * (2 ^ d - b)) * r := by grind
  rw [e1, e2]; omega

theorem balP_zero (h : SecOK n lf df r c t tip w s p) (d : Nat) : balP n lf r c t tip w s p 0 d ≤ 0 := by
  unfold balP
  have hc := clsP_lo h (inflP r w s 0 d)
  have hq : 0 ≤ (2 : Int) ^ d * 2 ^ d * c * tip := Int.mul_nonneg (Int.mul_nonneg (Int.mul_nonneg (Int.le_of_lt (two_pos d)) (Int.le_of_lt (two_pos d))) (by have := h.c; omega)) h.tip.1
  have := Int.mul_nonneg hq (h.lf0 (clsP n t p (inflP r w s 0 d)).toNat (by omega)).1
  simp; exact this

/-- 'a' is the bracket of the depth 'd + 1'. -/
def IsBr (f : Int → Int) (half a : Int) : Prop := 0 ≤ a ∧ a < half ∧ f a ≤ 0 ∧ 0 < f (a + 1)

theorem IsBr.uniq (h : SecOK n lf df r c t tip w s p) {d : Nat} {a b : Int} (ha : IsBr (fun a => balP n lf r c t tip w s p a (d + 1)) (2 ^ d) a) (hb : IsBr (fun a => balP n lf r c t tip w s p a (d + 1)) (2 ^ d) b) : a = b := by
  obtain ⟨a1, a2, a3, a4⟩ := ha
  obtain ⟨b1, b2, b3, b4⟩ := hb
  simp only at a3 a4 b3 b4
  have hp := Int.pow_succ (2 : Int) d
  rcases Int.lt_trichotomy a b with hl | e | hl
  · have := balP_mono h (d := d + 1) (show a + 1 ≤ b by omega) (by omega)
    omega
  · exact e
  · have := balP_mono h (d := d + 1) (show b + 1 ≤ a by omega) (by omega)
    omega

/-- One bit finer, the bracket is one of the halves. -/
theorem IsBr.finer {d : Nat} {a : Int} (ha : IsBr (fun a => balP n lf r c t tip w s p a (d + 1)) (2 ^ d) a) :
    IsBr (fun a => balP n lf r c t tip w s p a (d + 1 + 1)) (2 ^ (d + 1)) (if 0 < balP n lf r c t tip w s p (2 * a + 1) (d + 1 + 1) then 2 * a else 2 * a + 1) := by
  obtain ⟨a1, a2, a3, a4⟩ := ha
  simp only at a3 a4
  have e0 := balP_dbl n lf r c t tip w s p a (d + 1)
  have e1 := balP_dbl n lf r c t tip w s p (a + 1) (d + 1)
  rw [show 2 * (a + 1) = 2 * a + 1 + 1 by omega] at e1
  have hp := Int.pow_succ (2 : Int) d
  unfold IsBr
  simp only
  split <;> (refine ⟨by omega, by omega, by omega, ?_⟩)
  · assumption
  · omega

/-- There is a bracket exactly if the balance at 1/2 is above 0: at each depth alike. -/
theorem balP_half (d : Nat) : balP n lf r c t tip w s p (2 ^ d) (d + 1) = 4 ^ d * balP n lf r c t tip w s p 1 1 := by
  induction d with
  | zero => simp
  | succ d ih =>
    have := balP_dbl n lf r c t tip w s p (2 ^ d) (d + 1)
    rw [Int.pow_succ, Int.mul_comm (2 ^ d) 2, this, ih, Int.pow_succ]
    grind

/-! The torque at an inflow. -/
def ofP (n : Nat) (lf df : Nat → Int) (r c t tip p x : Int) : Int :=
  r * c * tip * (x * lf (clsP n t p x).toNat - 1024 * df (clsP n t p x).toNat)

theorem coef_nonneg (h : SecOK n lf df r c t tip w s p) : 0 ≤ r * c * tip :=
  Int.mul_nonneg (Int.mul_nonneg (by have := h.r; omega) (by have := h.c; omega)) h.tip.1

/-- Within a class the torque grows. -/
theorem ofP_mono (h : SecOK n lf df r c t tip w s p) {x y : Int} (hxy : x ≤ y) (hc : clsP n t p x = clsP n t p y) : ofP n lf df r c t tip p x ≤ ofP n lf df r c t tip p y := by
  unfold ofP
  rw [hc]
  have h1 := clsP_lo h y
  have h2 := Int.mul_le_mul_of_nonneg_right hxy (h.lf0 (clsP n t p y).toNat (by omega)).1
  exact Int.mul_le_mul_of_nonneg_left (by omega) (coef_nonneg h)

/-- The places that are looked at between least and most. -/
def stepsP (n : Nat) (lf df : Nat → Int) (r c t tip p least most : Int) : Nat → Int × Int
  | 0 => (min (ofP n lf df r c t tip p least) (ofP n lf df r c t tip p most), max (ofP n lf df r c t tip p least) (ofP n lf df r c t tip p most))
  | k + 1 =>
    let o := stepsP n lf df r c t tip p least most k
    let j := t + p + k - 1
    if j > least ∧ j < most then (min o.1 (ofP n lf df r c t tip p j), max o.2 (ofP n lf df r c t tip p j)) else o

variable {least most : Int}

theorem stepsP_in (hlm : least ≤ most) : ∀ k, ∃ i j, least ≤ i ∧ i ≤ most ∧ least ≤ j ∧ j ≤ most ∧ (stepsP n lf df r c t tip p least most k).1 = ofP n lf df r c t tip p i ∧ (stepsP n lf df r c t tip p least most k).2 = ofP n lf df r c t tip p j
  | 0 => by
    simp only [stepsP]
    generalize ha : ofP n lf df r c t tip p least = a
    generalize hb : ofP n lf df r c t tip p most = b
    by_cases e : a ≤ b
    · exact ⟨least, most, by omega, by omega, by omega, by omega, by omega, by omega⟩
    · exact ⟨most, least, by omega, by omega, by omega, by omega, by omega, by omega⟩
  | k + 1 => by
    obtain ⟨i, j, h1, h2, h3, h4, h5, h6⟩ := stepsP_in hlm k
    simp only [stepsP]
    split
    · rename_i hq
      generalize t + p + (k : Int) - 1 = q at hq ⊢
      obtain ⟨i', hi', e1⟩ : ∃ i', (least ≤ i' ∧ i' ≤ most) ∧ min (stepsP n lf df r c t tip p least most k).1 (ofP n lf df r c t tip p q) = ofP n lf df r c t tip p i' := by
        by_cases e : (stepsP n lf df r c t tip p least most k).1 ≤ ofP n lf df r c t tip p q
        · exact ⟨i, ⟨h1, h2⟩, by omega⟩
        · exact ⟨q, by omega, by omega⟩
      obtain ⟨j', hj', e2⟩ : ∃ j', (least ≤ j' ∧ j' ≤ most) ∧ max (stepsP n lf df r c t tip p least most k).2 (ofP n lf df r c t tip p q) = ofP n lf df r c t tip p j' := by
        by_cases e : (stepsP n lf df r c t tip p least most k).2 ≤ ofP n lf df r c t tip p q
        · exact ⟨q, by omega, by omega⟩
        · exact ⟨j, ⟨h3, h4⟩, by omega⟩
      exact ⟨i', j', hi'.1, hi'.2, hj'.1, hj'.2, e1, e2⟩
    · exact ⟨i, j, h1, h2, h3, h4, h5, h6⟩

theorem stepsP_le : ∀ k m, m ≤ k → (stepsP n lf df r c t tip p least most k).1 ≤ (stepsP n lf df r c t tip p least most m).1 ∧ (stepsP n lf df r c t tip p least most m).2 ≤ (stepsP n lf df r c t tip p least most k).2
  | 0, m, h => by rw [show m = 0 by omega]; exact ⟨Int.le_refl _, Int.le_refl _⟩
  | k + 1, m, h => by
    by_cases e : m = k + 1
    · rw [e]; exact ⟨Int.le_refl _, Int.le_refl _⟩
    · obtain ⟨h1, h2⟩ := stepsP_le k m (by omega)
      have : (stepsP n lf df r c t tip p least most (k + 1)).1 ≤ (stepsP n lf df r c t tip p least most k).1 ∧ (stepsP n lf df r c t tip p least most k).2 ≤ (stepsP n lf df r c t tip p least most (k + 1)).2 := by
        simp only [stepsP]
        split
        · simp only; omega
        · exact ⟨Int.le_refl _, Int.le_refl _⟩
      omega

/-- A place that is looked at. -/
theorem stepsP_at {k m : Nat} (hm : m < k) (h1 : least < t + p + m - 1) (h2 : t + p + m - 1 < most) :
    (stepsP n lf df r c t tip p least most k).1 ≤ ofP n lf df r c t tip p (t + p + m - 1) ∧ ofP n lf df r c t tip p (t + p + m - 1) ≤ (stepsP n lf df r c t tip p least most k).2 := by
  obtain ⟨g1, g2⟩ := stepsP_le (n := n) (lf := lf) (df := df) (r := r) (c := c) (t := t) (tip := tip) (p := p) (least := least) (most := most) k (m + 1) hm
  have : (stepsP n lf df r c t tip p least most (m + 1)).1 ≤ ofP n lf df r c t tip p (t + p + m - 1) ∧ ofP n lf df r c t tip p (t + p + m - 1) ≤ (stepsP n lf df r c t tip p least most (m + 1)).2 := by
    simp only [stepsP]
    rw [if_pos ⟨by omega, by omega⟩]
    simp only; omega
  omega

theorem stepsP_ends (k : Nat) : ∀ x, x = least ∨ x = most → (stepsP n lf df r c t tip p least most k).1 ≤ ofP n lf df r c t tip p x ∧ ofP n lf df r c t tip p x ≤ (stepsP n lf df r c t tip p least most k).2 := by
  intro x hx
  obtain ⟨g1, g2⟩ := stepsP_le (n := n) (lf := lf) (df := df) (r := r) (c := c) (t := t) (tip := tip) (p := p) (least := least) (most := most) k 0 (Nat.zero_le _)
  simp only [stepsP] at g1 g2
  rcases hx with rfl | rfl <;> omega

/-- The torques of all inflows between lie between. -/
theorem stepsP_all (h : SecOK n lf df r c t tip w s p) {x : Int} (h1 : least ≤ x) (h2 : x ≤ most) :
    (stepsP n lf df r c t tip p least most (n + 2)).1 ≤ ofP n lf df r c t tip p x ∧ ofP n lf df r c t tip p x ≤ (stepsP n lf df r c t tip p least most (n + 2)).2 := by
  have hn := h.n0
  have hl := stepsP_ends (n := n) (lf := lf) (df := df) (r := r) (c := c) (t := t) (tip := tip) (p := p) (least := least) (most := most) (n + 2) least (.inl rfl)
  have hm := stepsP_ends (n := n) (lf := lf) (df := df) (r := r) (c := c) (t := t) (tip := tip) (p := p) (least := least) (most := most) (n + 2) most (.inr rfl)
  by_cases e1 : x < t + p - 1
  · refine ⟨?_, ?_⟩
    · have := ofP_mono h h1 (by unfold clsP; omega)
      omega
    · by_cases e2 : t + p - 1 < most
      · have h3 := stepsP_at (n := n) (lf := lf) (df := df) (r := r) (c := c) (tip := tip) (t := t) (p := p) (least := least) (most := most) (k := n + 2) (m := 0) (by omega) (by omega) (by omega)
        have h4 := ofP_mono h (x := x) (y := t + p + (0 : Nat) - 1) (by omega) (by unfold clsP; omega)
        omega
      · have := ofP_mono h h2 (by unfold clsP; omega)
        omega
  · by_cases e3 : t + p + n < x
    · refine ⟨?_, ?_⟩
      · by_cases e2 : least < t + p + n
        · have h3 := stepsP_at (n := n) (lf := lf) (df := df) (r := r) (c := c) (tip := tip) (t := t) (p := p) (least := least) (most := most) (k := n + 2) (m := n + 1) (by omega) (by omega) (by omega)
          have h4 := ofP_mono h (x := t + p + ((n + 1 : Nat) : Int) - 1) (y := x) (by omega) (by unfold clsP; omega)
          omega
        · have := ofP_mono h h1 (by unfold clsP; omega)
          omega
      · have := ofP_mono h h2 (by unfold clsP; omega)
        omega
    · by_cases e4 : x = least
      · rw [e4]; exact hl
      · by_cases e5 : x = most
        · rw [e5]; exact hm
        · obtain ⟨m, hm'⟩ : ∃ m : Nat, x = t + p + m - 1 := ⟨(x - (t + p) + 1).toNat, by omega⟩
          rw [hm']
          exact stepsP_at (by omega) (by omega) (by omega)

/-- The torque of a ring at its bracket. -/
def torqueP (n : Nat) (lf df : Nat → Int) (r c t tip w s p a : Int) (d : Nat) : Int × Int :=
  stepsP n lf df r c t tip p (inflP r w s (a + 1) d) (inflP r w s a d) (n + 2)

/-- The torques of a lesser range of inflows lie within. -/
theorem torqueP_within (h : SecOK n lf df r c t tip w s p) {a a' : Int} {d d' : Nat} (h1 : inflP r w s (a + 1) d ≤ inflP r w s (a' + 1) d') (h2 : inflP r w s a' d' ≤ inflP r w s a d) :
    (torqueP n lf df r c t tip w s p a d).1 ≤ (torqueP n lf df r c t tip w s p a' d').1 ∧ (torqueP n lf df r c t tip w s p a' d').2 ≤ (torqueP n lf df r c t tip w s p a d).2 := by
  have hlm := inflP_mono h (d := d') (show a' ≤ a' + 1 by omega)
  obtain ⟨i, j, i1, i2, j1, j2, e1, e2⟩ := stepsP_in (n := n) (lf := lf) (df := df) (r := r) (c := c) (t := t) (tip := tip) (p := p) hlm (n + 2)
  have g1 := stepsP_all h (least := inflP r w s (a + 1) d) (most := inflP r w s a d) (x := i) (by omega) (by omega)
  have g2 := stepsP_all h (least := inflP r w s (a + 1) d) (most := inflP r w s a d) (x := j) (by omega) (by omega)
  unfold torqueP
  rw [e1, e2]
  omega

/-- One bracket within another: 'k' bits finer. -/
theorem inflP_shift (r w s a : Int) (d : Nat) : ∀ k : Nat, inflP r w s (2 ^ k * a) (d + k) = inflP r w s a d
  | 0 => by simp
  | k + 1 => by
    rw [show (2 : Int) ^ (k + 1) * a = 2 * (2 ^ k * a) by rw [Int.pow_succ]; grind, show d + (k + 1) = d + k + 1 by omega, inflP_dbl, inflP_shift r w s a d k]

theorem torqueP_nested (h : SecOK n lf df r c t tip w s p) {a a' : Int} {d k : Nat} (h1 : 2 ^ k * a ≤ a') (h2 : a' + 1 ≤ 2 ^ k * (a + 1)) :
    (torqueP n lf df r c t tip w s p a d).1 ≤ (torqueP n lf df r c t tip w s p a' (d + k)).1 ∧ (torqueP n lf df r c t tip w s p a' (d + k)).2 ≤ (torqueP n lf df r c t tip w s p a d).2 := by
  refine torqueP_within h ?_ ?_
  · rw [← inflP_shift r w s (a + 1) d k]; exact inflP_mono h h2
  · rw [← inflP_shift r w s a d k]; exact inflP_mono h h1

/-- The thrust. -/
def thrustP (r k : Int) (d : Nat) : Int := 1024 * k * (2 ^ d - k) * r

theorem thrustP_shift (r a : Int) (d : Nat) (k : Nat) : thrustP r (2 ^ k * a) (d + k) = 4 ^ k * thrustP r a d := by
  unfold thrustP
  rw [Int.pow_add, show (4 : Int) ^ k = 2 ^ k * 2 ^ k by rw [show (4 : Int) = 2 * 2 by decide, Int.mul_pow]]
  grind

theorem thrustP_mono {r a b : Int} {d : Nat} (hr : 0 ≤ r) (h : a ≤ b) (h2 : a + b ≤ 2 ^ d) : thrustP r a d ≤ thrustP r b d := by
  unfold thrustP
  have h4 : 1024 * (a * (2 ^ d - a)) * r ≤ 1024 * (b * (2 ^ d - b)) * r := Int.mul_le_mul_of_nonneg_right (by have := par_mono h h2; omega) hr
  have e1 : 1024 * a * (2 ^ d - a) * r = 1024 * (a * (2 ^ d - a)) * r := by grind
  have e2 : 1024 * b * (2 ^ d - b) * r = 1024 * (b * (2 ^ d - b)) * r := by grind
  rw [e1, e2]; exact h4

theorem thrustP_nested {r a a' : Int} {d k : Nat} (hr : 0 ≤ r) (h0 : a < 2 ^ d) (h1 : 2 ^ k * a ≤ a') (h2 : a' + 1 ≤ 2 ^ k * (a + 1)) :
    4 ^ k * thrustP r a (d + 1) ≤ thrustP r a' (d + 1 + k) ∧ thrustP r (a' + 1) (d + 1 + k) ≤ 4 ^ k * thrustP r (a + 1) (d + 1) := by
  rw [← thrustP_shift, ← thrustP_shift]
  have hk := two_pos k
  have e : (2 : Int) ^ (d + 1 + k) = 2 * (2 ^ k * 2 ^ d) := by rw [show d + 1 + k = k + d + 1 by omega, Int.pow_succ, Int.pow_add]; omega
  have h3 : (2 : Int) ^ k * (a + 1) ≤ 2 ^ k * 2 ^ d := Int.mul_le_mul_of_nonneg_left (by omega) (by omega)
  exact ⟨thrustP_mono hr h1 (by omega), thrustP_mono hr h2 (by omega)⟩

end Go.Proofs.YtllmejkmogepjaaDoor.Ix

/-
  P2: without wraps: within the bounds of valid blades and flows what the code reckons is the plain law's word.
-/
namespace Go.Proofs.YtllmejkmogepjaaDoor.Ix

theorem mulB {x y A B : Int} (h1 : 0 ≤ x) (h2 : x ≤ A) (h3 : 0 ≤ y) (h4 : y ≤ B) : 0 ≤ x * y ∧ x * y ≤ A * B := by
  refine ⟨Int.mul_nonneg h1 h3, ?_⟩
  have g1 := Int.mul_le_mul_of_nonneg_right h2 h3
  have g2 := Int.mul_le_mul_of_nonneg_left h4 (show 0 ≤ A by omega)
  omega

theorem pow_le12 {d : Nat} (h : d ≤ 12) : (2 : Int) ^ d ≤ 4096 := by
  have : d = 0 ∨ d = 1 ∨ d = 2 ∨ d = 3 ∨ d = 4 ∨ d = 5 ∨ d = 6 ∨ d = 7 ∨ d = 8 ∨ d = 9 ∨ d = 10 ∨ d = 11 ∨ d = 12 := by omega
  rcases this with h|h|h|h|h|h|h|h|h|h|h|h|h <;> subst h <;> decide

variable {n : Nat} {lf df : Nat → Int} {r c t tip w s p : Int}

theorem wholeW_eq {d : Nat} (h : d ≤ 12) : wholeW d = 2 ^ d := by
  unfold wholeW
  have h1 := two_pos d
  have h2 := pow_le12 h
  rw [show min (d : Int).toNat 64 = d by omega, Int.one_mul, w64, wrap_in] <;> omega

theorem halfW_eq {d : Nat} (h : d ≤ 12) (h1 : 1 ≤ d) : halfW d = 2 ^ (d - 1) := by
  unfold halfW
  have e : w64 ((d : Int) - 1) = ((d - 1 : Nat) : Int) := by rw [w64, wrap_in] <;> omega
  rw [e]
  exact wholeW_eq (d := d - 1) (by omega)

theorem denW_eq (h : SecOK n lf df r c t tip w s p) {d : Nat} (hd : d ≤ 12) : denW r s d = 2 ^ d * s * r := by
  unfold denW
  rw [wholeW_eq hd]
  have h1 := two_pos d
  have h2 := pow_le12 hd
  have hs := h.s
  have hr := h.r
  have b1 := mulB (x := 2 ^ d) (y := s) (A := 4096) (B := 1000) (by omega) h2 (by omega) (by omega)
  have b2 := mulB (x := 2 ^ d * s) (y := r) (A := 4096 * 1000) (B := 200) b1.1 b1.2 (by omega) (by omega)
  have e1 : w64 (2 ^ d * s) = 2 ^ d * s := by rw [w64, wrap_in] <;> omega
  rw [e1, w64, wrap_in] <;> omega

theorem inflowW_eq (h : SecOK n lf df r c t tip w s p) {a : Int} {d : Nat} (hd : d ≤ 12) (h0 : 0 ≤ a) (h1 : a ≤ 2 ^ d) : inflowW r w s a d = inflP r w s a d := by
  unfold inflowW
  rw [denW_eq h hd, wholeW_eq hd]
  have q1 := two_pos d
  have q2 := pow_le12 hd
  have hw := h.w
  have e1 : w64 (2 ^ d - a) = 2 ^ d - a := by rw [w64, wrap_in] <;> omega
  have e2 : w64 (1024 * (2 ^ d - a)) = 1024 * (2 ^ d - a) := by rw [w64, wrap_in] <;> omega
  have b1 := mulB (x := 1024 * (2 ^ d - a)) (y := w) (A := 1024 * 4096) (B := 50) (by omega) (by omega) (by omega) (by omega)
  have e3 : w64 (1024 * (2 ^ d - a) * w) = 1024 * (2 ^ d - a) * w := by rw [w64, wrap_in] <;> omega
  rw [e1, e2, e3, Int.tdiv_eq_ediv_of_nonneg b1.1]
  show w64 (inflP r w s a d) = _
  have g1 := inflP_nonneg h h1
  have g2 := inflP_le h (d := d) h0
  rw [w64, wrap_in] <;> omega

theorem minW_eq (a b : Int) : minW a b = min a b := by unfold minW; omega
theorem maxW_eq (a b : Int) : maxW a b = max a b := by unfold maxW; omega

theorem classW_eq (h : SecOK n lf df r c t tip w s p) {x : Int} (h1 : -1000000 ≤ x) (h2 : x ≤ 1000000) : classW n t p x = clsP n t p x := by
  unfold classW clsP
  have ht := h.t
  have hp := h.p
  have hn := h.n1
  have e1 : w64 (t + p) = t + p := by rw [w64, wrap_in] <;> omega
  rw [e1]
  have e2 : w64 (x - (t + p)) = x - (t + p) := by rw [w64, wrap_in] <;> omega
  have e3 : w64 ((n : Int) - 1) = n - 1 := by rw [w64, wrap_in] <;> omega
  rw [e2, e3, minW_eq, maxW_eq]

theorem infl_class (h : SecOK n lf df r c t tip w s p) {a : Int} {d : Nat} (hd : d ≤ 12) (h0 : 0 ≤ a) (h1 : a ≤ 2 ^ d) : classW n t p (inflowW r w s a d) = clsP n t p (inflP r w s a d) := by
  rw [inflowW_eq h hd h0 h1]
  have g1 := inflP_nonneg h h1
  have g2 := inflP_le h (d := d) h0
  exact classW_eq h (by omega) (by omega)

theorem balOK (h : SecOK n lf df r c t tip w s p) {a : Int} {d : Nat} (hd : d ≤ 12) (h0 : 0 ≤ a) (h1 : a ≤ 2 ^ d) : BalOK n r t w s p a d := by
  have hc := clsP_lo h (inflP r w s a d)
  refine ⟨by omega, ?_, ?_, ?_⟩
  · rw [denW_eq h hd]; have := den_pos h d; omega
  · rw [infl_class h hd h0 h1]; exact hc.1
  · rw [infl_class h hd h0 h1]; exact hc.2

theorem balanceW_eq (h : SecOK n lf df r c t tip w s p) {a : Int} {d : Nat} (hd : d ≤ 12) (h0 : 0 ≤ a) (h1 : a ≤ 2 ^ d) : balanceW n lf r c t tip w s p a d = balP n lf r c t tip w s p a d := by
  unfold balanceW balP
  rw [infl_class h hd h0 h1, wholeW_eq hd]
  have q1 := two_pos d
  have q2 := pow_le12 hd
  have hc := clsP_lo h (inflP r w s a d)
  have hl := h.lf0 (clsP n t p (inflP r w s a d)).toNat (by omega)
  have hr := h.r
  have hcc := h.c
  have htip := h.tip
  generalize lf (clsP n t p (inflP r w s a d)).toNat = l at *
  have e0 : w64 (1024 * a) = 1024 * a := by rw [w64, wrap_in] <;> omega
  have e1 : w64 (2 ^ d - a) = 2 ^ d - a := by rw [w64, wrap_in] <;> omega
  have b1 := mulB (x := 1024 * a) (y := 2 ^ d - a) (A := 1024 * 4096) (B := 4096) (by omega) (by omega) (by omega) (by omega)
  have e2 : w64 (1024 * a * (2 ^ d - a)) = 1024 * a * (2 ^ d - a) := by rw [w64, wrap_in] <;> omega
  have b2 := mulB (x := 1024 * a * (2 ^ d - a)) (y := r) (A := 1024 * 4096 * 4096) (B := 200) b1.1 b1.2 (by omega) (by omega)
  have e3 : w64 (1024 * a * (2 ^ d - a) * r) = 1024 * a * (2 ^ d - a) * r := by rw [w64, wrap_in] <;> omega
  have b3 := mulB (x := 2 ^ d) (y := 2 ^ d) (A := 4096) (B := 4096) (by omega) (by omega) (by omega) (by omega)
  have e4 : w64 ((2 : Int) ^ d * 2 ^ d) = 2 ^ d * 2 ^ d := by rw [w64, wrap_in] <;> omega
  have b4 := mulB (x := 2 ^ d * 2 ^ d) (y := c) (A := 4096 * 4096) (B := 100) b3.1 b3.2 (by omega) (by omega)
  have e5 : w64 ((2 : Int) ^ d * 2 ^ d * c) = 2 ^ d * 2 ^ d * c := by rw [w64, wrap_in] <;> omega
  have b5 := mulB (x := 2 ^ d * 2 ^ d * c) (y := tip) (A := 4096 * 4096 * 100) (B := 256) b4.1 b4.2 (by omega) (by omega)
  have e6 : w64 ((2 : Int) ^ d * 2 ^ d * c * tip) = 2 ^ d * 2 ^ d * c * tip := by rw [w64, wrap_in] <;> omega
  have b6 := mulB (x := 2 ^ d * 2 ^ d * c * tip) (y := l) (A := 4096 * 4096 * 100 * 256) (B := 1000) b5.1 b5.2 (by omega) (by omega)
  have e7 : w64 ((2 : Int) ^ d * 2 ^ d * c * tip * l) = 2 ^ d * 2 ^ d * c * tip * l := by rw [w64, wrap_in] <;> omega
  rw [e0, e1, e2, e3, e4, e5, e6, e7, w64, wrap_in] <;> omega

theorem balP_bound (h : SecOK n lf df r c t tip w s p) {a : Int} {d : Nat} (hd : d ≤ 12) (h0 : 0 ≤ a) (h1 : a ≤ 2 ^ d) : -1000000000000000 ≤ balP n lf r c t tip w s p a d ∧ balP n lf r c t tip w s p a d ≤ 1000000000000000 := by
  unfold balP
  have q1 := two_pos d
  have q2 := pow_le12 hd
  have hc := clsP_lo h (inflP r w s a d)
  have hl := h.lf0 (clsP n t p (inflP r w s a d)).toNat (by omega)
  have hr := h.r
  have hcc := h.c
  have htip := h.tip
  generalize lf (clsP n t p (inflP r w s a d)).toNat = l at *
  have b1 := mulB (x := 1024 * a) (y := 2 ^ d - a) (A := 1024 * 4096) (B := 4096) (by omega) (by omega) (by omega) (by omega)
  have b2 := mulB (x := 1024 * a * (2 ^ d - a)) (y := r) (A := 1024 * 4096 * 4096) (B := 200) b1.1 b1.2 (by omega) (by omega)
  have b3 := mulB (x := 2 ^ d) (y := 2 ^ d) (A := 4096) (B := 4096) (by omega) (by omega) (by omega) (by omega)
  have b4 := mulB (x := 2 ^ d * 2 ^ d) (y := c) (A := 4096 * 4096) (B := 100) b3.1 b3.2 (by omega) (by omega)
  have b5 := mulB (x := 2 ^ d * 2 ^ d * c) (y := tip) (A := 4096 * 4096 * 100) (B := 256) b4.1 b4.2 (by omega) (by omega)
  have b6 := mulB (x := 2 ^ d * 2 ^ d * c * tip) (y := l) (A := 4096 * 4096 * 100 * 256) (B := 1000) b5.1 b5.2 (by omega) (by omega)
  omega

theorem ofP_bound (h : SecOK n lf df r c t tip w s p) {x : Int} (h1 : -100000 ≤ x) (h2 : x ≤ 100000) : -1000000000000000 ≤ ofP n lf df r c t tip p x ∧ ofP n lf df r c t tip p x ≤ 1000000000000000 ∧ ofW n lf df r c t tip p x = ofP n lf df r c t tip p x := by
  unfold ofP ofW
  rw [classW_eq h (by omega) (by omega)]
  have hc := clsP_lo h x
  have hl := h.lf0 (clsP n t p x).toNat (by omega)
  have hd := h.df0 (clsP n t p x).toNat (by omega)
  have hr := h.r
  have hcc := h.c
  have htip := h.tip
  generalize lf (clsP n t p x).toNat = l at *
  generalize df (clsP n t p x).toNat = g at *
  have b1 := mulB (x := r) (y := c) (A := 200) (B := 100) (by omega) (by omega) (by omega) (by omega)
  have e1 : w64 (r * c) = r * c := by rw [w64, wrap_in] <;> omega
  have b2 := mulB (x := r * c) (y := tip) (A := 200 * 100) (B := 256) b1.1 b1.2 (by omega) (by omega)
  have e2 : w64 (r * c * tip) = r * c * tip := by rw [w64, wrap_in] <;> omega
  have b3 : -(100000 * 1000) ≤ x * l ∧ x * l ≤ 100000 * 1000 := by
    by_cases hx : 0 ≤ x
    · have := mulB (x := x) (y := l) (A := 100000) (B := 1000) hx h2 (by omega) (by omega); omega
    · have := mulB (x := -x) (y := l) (A := 100000) (B := 1000) (by omega) (by omega) (by omega) (by omega)
      rw [Int.neg_mul] at this; omega
  have e3 : w64 (x * l) = x * l := by rw [w64, wrap_in] <;> omega
  have e4 : w64 (1024 * g) = 1024 * g := by rw [w64, wrap_in] <;> omega
  have e5 : w64 (x * l - 1024 * g) = x * l - 1024 * g := by rw [w64, wrap_in] <;> omega
  rw [e1, e2, e3, e4, e5]
  have hy : -110000000 ≤ x * l - 1024 * g ∧ x * l - 1024 * g ≤ 110000000 := by omega
  generalize r * c * tip = q at *
  generalize x * l - 1024 * g = y at *
  have b6 : -(5120000 * 110000000) ≤ q * y ∧ q * y ≤ 5120000 * 110000000 := by
    by_cases hx : 0 ≤ y
    · have := mulB (x := q) (y := y) (A := 5120000) (B := 110000000) b2.1 (by omega) hx (by omega); omega
    · have := mulB (x := q) (y := -y) (A := 5120000) (B := 110000000) b2.1 (by omega) (by omega) (by omega)
      rw [Int.mul_neg] at this; omega
  refine ⟨by omega, by omega, ?_⟩
  rw [w64, wrap_in] <;> omega

theorem thrustP_bound (h : SecOK n lf df r c t tip w s p) {a : Int} {d : Nat} (hd : d ≤ 12) (h0 : 0 ≤ a) (h1 : a ≤ 2 ^ d) : 0 ≤ thrustP r a d ∧ thrustP r a d ≤ 1000000000000000 ∧ w64 (w64 (w64 (1024 * a) * w64 (wholeW d - a)) * r) = thrustP r a d := by
  unfold thrustP
  rw [wholeW_eq hd]
  have q1 := two_pos d
  have q2 := pow_le12 hd
  have hr := h.r
  have e0 : w64 (1024 * a) = 1024 * a := by rw [w64, wrap_in] <;> omega
  have e1 : w64 (2 ^ d - a) = 2 ^ d - a := by rw [w64, wrap_in] <;> omega
  have b1 := mulB (x := 1024 * a) (y := 2 ^ d - a) (A := 1024 * 4096) (B := 4096) (by omega) (by omega) (by omega) (by omega)
  have e2 : w64 (1024 * a * (2 ^ d - a)) = 1024 * a * (2 ^ d - a) := by rw [w64, wrap_in] <;> omega
  have b2 := mulB (x := 1024 * a * (2 ^ d - a)) (y := r) (A := 1024 * 4096 * 4096) (B := 200) b1.1 b1.2 (by omega) (by omega)
  rw [e0, e1, e2]
  refine ⟨b2.1, by omega, ?_⟩
  rw [w64, wrap_in] <;> omega

/-! The search. -/
theorem searchS_br (f : Int → Int) : ∀ (m : Nat) (lo hi : Int), lo < hi → hi - lo ≤ m → f lo ≤ 0 → 0 < f hi →
    lo ≤ searchS f m lo hi ∧ searchS f m lo hi < hi ∧ f (searchS f m lo hi) ≤ 0 ∧ 0 < f (searchS f m lo hi + 1)
  | 0, lo, hi, h1, h2, _, _ => by omega
  | m + 1, lo, hi, h1, h2, h3, h4 => by
    simp only [searchS]
    by_cases e : hi - lo > 1
    · rw [decide_eq_true e, cond_true]
      by_cases e2 : f ((lo + hi) / 2) ≤ 0
      · rw [decide_eq_true e2, cond_true]
        have := searchS_br f m ((lo + hi) / 2) hi (by omega) (by omega) e2 h4
        exact ⟨by omega, this.2⟩
      · rw [decide_eq_false e2, cond_false]
        have := searchS_br f m lo ((lo + hi) / 2) (by omega) (by omega) h3 (by omega)
        exact ⟨this.1, by omega, this.2.2⟩
    · rw [decide_eq_false e, cond_false]
      exact ⟨Int.le_refl _, h1, h3, by rw [show lo + 1 = hi by omega]; exact h4⟩

theorem searchS_congr {f g : Int → Int} : ∀ (m : Nat) (lo hi : Int), (∀ a, lo ≤ a → a ≤ hi → f a = g a) → searchS f m lo hi = searchS g m lo hi
  | 0, lo, hi, _ => rfl
  | m + 1, lo, hi, h => by
    simp only [searchS]
    by_cases e : hi - lo > 1
    · rw [decide_eq_true e, cond_true, cond_true, h ((lo + hi) / 2) (by omega) (by omega)]
      rw [searchS_congr m _ hi (fun a h1 h2 => h a (by omega) h2), searchS_congr m lo _ (fun a h1 h2 => h a h1 (by omega))]
    · rw [decide_eq_false e, cond_false, cond_false]

/-- The bracket at the depth 'd + 1', if there is one. -/
def brP (n : Nat) (lf : Nat → Int) (r c t tip w s p : Int) (d : Nat) : Option Int := findS (fun a => balP n lf r c t tip w s p a (d + 1)) (2 ^ d)

theorem brP_some (h : SecOK n lf df r c t tip w s p) {d : Nat} {a : Int} : brP n lf r c t tip w s p d = some a ↔ IsBr (fun a => balP n lf r c t tip w s p a (d + 1)) (2 ^ d) a := by
  have key : 0 < balP n lf r c t tip w s p (2 ^ d) (d + 1) → IsBr (fun a => balP n lf r c t tip w s p a (d + 1)) (2 ^ d) (searchS (fun a => balP n lf r c t tip w s p a (d + 1)) (2 ^ d : Int).toNat 0 (2 ^ d)) := by
    intro hp
    exact searchS_br (fun a => balP n lf r c t tip w s p a (d + 1)) _ 0 (2 ^ d) (two_pos d) (by have := two_pos d; omega) (balP_zero h _) hp
  constructor
  · intro hb
    unfold brP findS at hb
    by_cases e : balP n lf r c t tip w s p (2 ^ d) (d + 1) ≤ 0
    · simp [e] at hb
    · simp [e] at hb
      rw [← hb]; exact key (by omega)
  · intro hb
    have hp : 0 < balP n lf r c t tip w s p (2 ^ d) (d + 1) := by
      have := balP_mono h (a := a + 1) (b := 2 ^ d) (d := d + 1) (by have := hb.2.1; omega) (by have := hb.2.1; rw [Int.pow_succ]; omega)
      have := hb.2.2.2
      simp only at this; omega
    unfold brP findS
    have e : ¬ balP n lf r c t tip w s p (2 ^ d) (d + 1) ≤ 0 := by omega
    simp only [e, decide_false, cond_false]
    rw [(key hp).uniq h hb]

theorem brP_none {d : Nat} : brP n lf r c t tip w s p d = none ↔ balP n lf r c t tip w s p 1 1 ≤ 0 := by
  unfold brP findS
  simp only [balP_half]
  have : (0 : Int) < 4 ^ d := Int.pow_pos (by decide)
  have h1 : 4 ^ d * balP n lf r c t tip w s p 1 1 ≤ 0 ↔ balP n lf r c t tip w s p 1 1 ≤ 0 := by
    constructor
    · intro hq
      by_cases e : 0 < balP n lf r c t tip w s p 1 1
      · have := Int.mul_pos this e; omega
      · omega
    · intro hq
      have := Int.mul_nonneg (show (0 : Int) ≤ 4 ^ d by omega) (show 0 ≤ - balP n lf r c t tip w s p 1 1 by omega)
      rw [Int.mul_neg] at this; omega
  by_cases e : 4 ^ d * balP n lf r c t tip w s p 1 1 ≤ 0
  · simp [e, h1.1 e]
  · have e' : ¬ balP n lf r c t tip w s p 1 1 ≤ 0 := fun q => e (h1.2 q)
    simp [e, e']

/-- Brackets of two depths, one within the other. -/
theorem brP_deep (h : SecOK n lf df r c t tip w s p) {d : Nat} {a : Int} (ha : brP n lf r c t tip w s p d = some a) : ∀ k : Nat, ∃ a', brP n lf r c t tip w s p (d + k) = some a' ∧ 2 ^ k * a ≤ a' ∧ a' + 1 ≤ 2 ^ k * (a + 1)
  | 0 => ⟨a, ha, by simp, by simp⟩
  | k + 1 => by
    obtain ⟨a', h1, h2, h3⟩ := brP_deep h ha k
    have := ((brP_some h).1 h1).finer
    refine ⟨_, (brP_some h).2 this, ?_, ?_⟩
    · rw [Int.pow_succ]; split <;> grind
    · rw [Int.pow_succ]; split <;> grind

end Go.Proofs.YtllmejkmogepjaaDoor.Ix

/-
  P3: the errors of polars, rings, blades, flows, told once for the program and for its reference; and what a valid blade has.
-/
namespace Go.Proofs.YtllmejkmogepjaaDoor.Ix

def orE (a b : Int) : Int := bif a != 0 then a else b

theorem orE_zero {a b : Int} : orE a b = 0 ↔ a = 0 ∧ b = 0 := by
  unfold orE
  by_cases h : a = 0
  · simp [h]
  · have : (a != 0) = true := by simpa using h
    simp [this, h]
theorem orE_right (a : Int) : orE a 0 = a := by
  unfold orE
  by_cases h : a = 0
  · simp [h]
  · have : (a != 0) = true := by simpa using h
    simp [this]
theorem orE_assoc (a b c : Int) : orE (orE a b) c = orE a (orE b c) := by
  unfold orE
  by_cases h : a = 0
  · simp [h]
  · have : (a != 0) = true := by simpa using h
    simp [this]

theorem firstS_zero (f : Nat → Int) : ∀ (n i : Nat), firstS f n i = 0 ↔ ∀ j, i ≤ j → j < i + n → f j = 0
  | 0, i => by simp [firstS]; intro j h1 h2; omega
  | n + 1, i => by
    have ih := firstS_zero f n (i + 1)
    show orE (f i) (firstS f n (i + 1)) = 0 ↔ _
    rw [orE_zero, ih]
    constructor
    · rintro ⟨h1, h2⟩ j g1 g2
      by_cases e : j = i
      · rw [e]; exact h1
      · exact h2 j (by omega) (by omega)
    · intro h
      exact ⟨h i (by omega) (by omega), fun j g1 g2 => h j (by omega) (by omega)⟩

theorem firstS_congr {f g : Nat → Int} : ∀ (n i : Nat), (∀ j, i ≤ j → j < i + n → f j = g j) → firstS f n i = firstS g n i
  | 0, _, _ => rfl
  | n + 1, i, h => by
    simp only [firstS]
    rw [h i (by omega) (by omega), firstS_congr n (i + 1) (fun j h1 h2 => h j (by omega) (by omega))]

theorem firstS_step (f : Nat → Int) (n i : Nat) : firstS f (n + 1) i = orE (f i) (firstS f n (i + 1)) := rfl

theorem withinS_zero {n lo hi : Int} : withinS n lo hi = 0 ↔ lo ≤ n ∧ n ≤ hi := by
  unfold withinS
  by_cases h1 : n < lo
  · simp [h1]; (try omega)
  · by_cases h2 : n > hi
    · simp [h2]; (try omega)
    · simp [h1, h2]; (try omega)

theorem bif_zero {b : Bool} {e : Int} (he : e ≠ 0) : (bif b then e else 0) = 0 ↔ b = false := by
  cases b <;> simp [he]

def polarS (nl : Nat) (lf : Nat → Int) (nd : Nat) (df : Nat → Int) : Int :=
  orE (bif (nl : Int) == 0 then 12 else 0) (orE (bif decide ((nl : Int) > 32) then 5 else 0) (orE (bif (nd : Int) != nl then 2 else 0)
    (orE (firstS (fun i => orE (withinS (lf i) 0 1000) (bif decide (lf i < lf (i - 1)) then 11 else 0)) nl 0) (firstS (fun i => withinS (df i) 0 1000) nd 0))))
def ringS (r c t tip : Int) : Int := orE (withinS r 1 200) (orE (withinS c 1 100) (orE (withinS t (-64) 64) (withinS tip 0 256)))
def ringAt (r1 r2 r3 r4 : Nat → Int) (i : Nat) : Int := orE (ringS (r1 i) (r2 i) (r3 i) (r4 i)) (bif decide (0 < i) && decide (r1 i ≤ r1 (i - 1)) then 11 else 0)
def bladeS (nl : Nat) (lf : Nat → Int) (nd : Nat) (df : Nat → Int) (nr : Nat) (r1 r2 r3 r4 : Nat → Int) : Int :=
  orE (polarS nl lf nd df) (orE (bif (nr : Int) == 0 then 12 else 0) (orE (bif decide ((nr : Int) > 16) then 5 else 0) (firstS (ringAt r1 r2 r3 r4) nr 0)))
def flowS (w s p : Int) : Int := orE (withinS w 1 50) (orE (withinS s 1 1000) (withinS p (-64) 64))

variable {nl nd nr : Nat} {lf df r1 r2 r3 r4 : Nat → Int} {w s p : Int}

theorem bladeS_ok (hb : bladeS nl lf nd df nr r1 r2 r3 r4 = 0) (hf : flowS w s p = 0) :
    nd = nl ∧ 1 ≤ nr ∧ nr ≤ 16 ∧ ∀ i, i < nr → SecOK nl lf df (r1 i) (r2 i) (r3 i) (r4 i) w s p := by
  simp only [bladeS, polarS, flowS, orE_zero, firstS_zero, withinS_zero, ringAt, ringS] at hb hf
  obtain ⟨⟨h1, h2, h3, h4, h5⟩, h6, h7, h8⟩ := hb
  rw [bif_zero (by decide)] at h1 h2 h3 h6 h7
  simp at h1 h2 h3 h6 h7
  refine ⟨by omega, by omega, by omega, fun i hi => ?_⟩
  have h3' : nd = nl := by omega
  have h9 := h8 i (by omega) (by omega)
  refine ⟨by omega, by omega, fun j hj => (h4 j (by omega) (by omega)).1, fun j hj => ?_, fun j hj => h5 j (by omega) (by omega), h9.1.1, h9.1.2.1, h9.1.2.2.1, h9.1.2.2.2, hf.1, hf.2.1, hf.2.2⟩
  have := (h4 j (by omega) (by omega)).2
  rw [bif_zero (by decide)] at this
  simp at this; omega

end Go.Proofs.YtllmejkmogepjaaDoor.Ix

/-
  P4: a blade, a flow as one thing each; the errors of rings, inductions, depths; brackets, torques, thrusts of a ring.
-/
namespace Go.Proofs.YtllmejkmogepjaaDoor.Ix

structure Bl where
  nl : Nat
  nd : Nat
  nr : Nat
  lf : Nat → Int
  df : Nat → Int
  r1 : Nat → Int
  r2 : Nat → Int
  r3 : Nat → Int
  r4 : Nat → Int
structure Fl where
  w : Int
  s : Int
  p : Int

/-- A blade's cells, a flow's cells. -/
abbrev bladeI (nl nd nr : Nat) (lf df r1 r2 r3 r4 : Nat → Int) : IV :=
  .agg [.lst none 1 nl fun i => [.int .i64 (lf i)], .lst none 1 nd fun i => [.int .i64 (df i)], .lst none 4 nr fun i => [.int .i64 (r1 i), .int .i64 (r2 i), .int .i64 (r3 i), .int .i64 (r4 i)]]
abbrev flowI (w s p : Int) : IV := .agg [.int .i64 w, .int .i64 s, .int .i64 p]
abbrev Bl.iv (b : Bl) : IV := bladeI b.nl b.nd b.nr b.lf b.df b.r1 b.r2 b.r3 b.r4
abbrev Fl.iv (f : Fl) : IV := flowI f.w f.s f.p
def Bl.err (b : Bl) : Int := bladeS b.nl b.lf b.nd b.df b.nr b.r1 b.r2 b.r3 b.r4
def Fl.err (f : Fl) : Int := flowS f.w f.s f.p
def Bl.ok (b : Bl) (f : Fl) (i : Nat) : Prop := SecOK b.nl b.lf b.df (b.r1 i) (b.r2 i) (b.r3 i) (b.r4 i) f.w f.s f.p
def Bl.bal (b : Bl) (f : Fl) (i : Nat) (a : Int) (d : Nat) : Int := balP b.nl b.lf (b.r1 i) (b.r2 i) (b.r3 i) (b.r4 i) f.w f.s f.p a d
def Bl.br (b : Bl) (f : Fl) (i : Nat) (d : Nat) : Option Int := brP b.nl b.lf (b.r1 i) (b.r2 i) (b.r3 i) (b.r4 i) f.w f.s f.p d
def Bl.tor (b : Bl) (f : Fl) (i : Nat) (a : Int) (d : Nat) : Int × Int := torqueP b.nl b.lf b.df (b.r1 i) (b.r2 i) (b.r3 i) (b.r4 i) f.w f.s f.p a d
def Bl.thr (b : Bl) (i : Nat) (a : Int) (d : Nat) : Int × Int := (thrustP (b.r1 i) a d, thrustP (b.r1 i) (a + 1) d)

theorem Bl.good {b : Bl} {f : Fl} (hb : b.err = 0) (hf : f.err = 0) : b.nd = b.nl ∧ 1 ≤ b.nr ∧ b.nr ≤ 16 ∧ ∀ i, i < b.nr → b.ok f i := bladeS_ok hb hf

def ringErr (b : Bl) (f : Fl) (ring : Int) : Int := orE b.err (orE f.err (bif decide (ring < 0) || decide (ring ≥ b.nr) then 10 else 0))
def indErr (a d : Int) : Int := orE (withinS d 1 12) (withinS a 0 (2 ^ (d - 1).toNat))
def allErr (b : Bl) (f : Fl) (d : Int) : Int := orE b.err (orE f.err (withinS d 1 12))

theorem ringErr_ok {b : Bl} {f : Fl} {ring : Int} (h : ringErr b f ring = 0) : b.err = 0 ∧ f.err = 0 ∧ 0 ≤ ring ∧ ring < b.nr := by
  unfold ringErr at h
  simp only [orE_zero] at h
  rw [bif_zero (by decide)] at h
  simp at h
  exact ⟨h.1, h.2.1, by omega, by omega⟩

theorem indErr_ok {a d : Int} (h : indErr a d = 0) : ∃ n : Nat, d = (n + 1 : Nat) ∧ n < 12 ∧ 0 ≤ a ∧ a ≤ 2 ^ n := by
  unfold indErr at h
  simp only [orE_zero, withinS_zero] at h
  obtain ⟨⟨h1, h2⟩, h3, h4⟩ := h
  refine ⟨(d - 1).toNat, by omega, by omega, h3, h4⟩

/-- The balance of a ring at an induction, or the error. -/
def balR (b : Bl) (f : Fl) (ring a d : Int) : IV :=
  let e := orE (ringErr b f ring) (indErr a d)
  .tup [.int .i64 (bif e != 0 then 0 else b.bal f ring.toNat a d.toNat), .int .i64 e]

/-- The bracket of a ring at a depth, or the error. -/
def findR (b : Bl) (f : Fl) (ring d : Int) : IV :=
  let e := orE (ringErr b f ring) (withinS d 1 12)
  bif e != 0 then .tup [.agg [.int .i64 0, .int .i64 0], .int .i64 e] else
    match b.br f ring.toNat (d - 1).toNat with
    | none => .tup [.agg [.int .i64 0, .int .i64 0], .int .i64 7]
    | some a => .tup [.agg [.int .i64 a, .int .i64 d], .int .i64 0]

def isBr (b : Bl) (f : Fl) (i : Nat) (a : Int) (d : Nat) : Bool := decide (a < 2 ^ (d - 1)) && (decide (b.bal f i a d ≤ 0) && decide (b.bal f i (a + 1) d > 0))

def brErr (b : Bl) (f : Fl) (ring a d : Int) : Int :=
  orE (orE (ringErr b f ring) (indErr a d)) (bif !(isBr b f ring.toNat a d.toNat) then 22 else 0)

/-- One bit finer, or the error. -/
def refineR (b : Bl) (f : Fl) (ring a d : Int) : IV :=
  let e := orE (brErr b f ring a d) (bif d == 12 then 23 else 0)
  bif e != 0 then .tup [.agg [.int .i64 0, .int .i64 0], .int .i64 e] else
    bif isBr b f ring.toNat (2 * a) (d.toNat + 1) then .tup [.agg [.int .i64 (2 * a), .int .i64 (d + 1)], .int .i64 0] else .tup [.agg [.int .i64 (2 * a + 1), .int .i64 (d + 1)], .int .i64 0]

theorem pow_half {d : Nat} (h : 1 ≤ d) : (2 : Int) ^ d = 2 * 2 ^ (d - 1) := by
  obtain ⟨m, rfl⟩ : ∃ m, d = m + 1 := ⟨d - 1, by omega⟩
  rw [Int.pow_succ]; simp; omega

end Go.Proofs.YtllmejkmogepjaaDoor.Ix

/-
  Ro1: contracts of the functions of the package rotor, the first part: checks, sections, balance, search, the torque at an inflow.
-/
namespace Go.Proofs.YtllmejkmogepjaaDoor.Ix
open Go.Proofs
set_option maxRecDepth 100000
set_option linter.unusedVariables false
set_option linter.unusedSimpArgs false

noncomputable abbrev Γs (gl : Nat → IV) : Env := ⟨prog, T, gl, 0, Vis prog gl, none, none⟩
noncomputable abbrev Cs (gl : Nat → IV) : Con := Comp prog gl
variable {gl : Nat → IV}

theorem mk {g : Nat} {fn : Func} {c : Code} {up up2 : List Ces} {args : List IV} {rv : IV} (hf : prog.funcs[g]? = some fn) (hb : fn.body = some c) (hn : (fn.name == "runtime.NumGoroutine") = false)
    (h : ibody (Cs gl) (Γs gl) fn up args (fun r up' => r = rv ∧ up' = up2)) : Comp prog gl g up args rv up2 :=
  comp_of_body (Γ := Γs gl) mixed0 tok0 (fun _ _ _ _ _ h => h) (fun _ _ _ _ h => h) hf hb hn h

theorem c_when (up : List Ces) (b : Bool) (e : Int) : Cs gl n_rotor_when up [.bool b, .int .i64 e] (.int .i64 (bif b then e else 0)) up := by
  refine mk h_rotor_when rfl rfl ?_
  cases b <;> (conv => whnf) <;> exact ⟨rfl, rfl⟩

theorem c_within (up : List Ces) (n lo hi : Int) : Cs gl n_rotor_within up [.int .i64 n, .int .i64 lo, .int .i64 hi] (.int .i64 (withinS n lo hi)) up := by
  refine mk h_rotor_within rfl rfl ?_
  conv => whnf
  split
  · rename_i h1
    conv => whnf
    refine .mk _ _ _ _ _ (leL_refl _) (c_when _ _ _) rfl ?_
    conv => whnf
    simp [withinS, h1]
  · rename_i h1
    conv => whnf
    refine .mk _ _ _ _ _ (leL_refl _) (c_when _ _ _) rfl ?_
    conv => whnf
    simp [withinS, h1]

theorem c_checkDepth (up : List Ces) (n : Int) : Cs gl n_rotor_checkDepth up [.int .i64 n] (.int .i64 (withinS n 1 12)) up := by
  refine mk h_rotor_checkDepth rfl rfl ?_
  conv => whnf
  refine .mk _ _ _ _ _ (leL_refl _) (c_within _ _ _ _) rfl ?_
  conv => whnf
  exact ⟨rfl, rfl⟩

theorem c_first (up : List Ces) (n : Nat) (hn : n ≤ 4611686018427387904) (f : Nat → Int) : Cs gl n_rotor_first up [.lst none 1 n fun i => [.int .i64 (f i)]] (.int .i64 (firstS f n 0)) up := by
  refine mk h_rotor_first rfl rfl ?_
  conv => whnf
  refine .mk (α := {i : Nat // i ≤ n ∧ firstS f n 0 = firstS f (n - i) i}) (fun i => ⟨[(7, .int .i64 i.1), (6, .int .i64 n), (5, .lst none 1 n fun i => [.int .i64 (f i)])], [], up⟩) (fun i => n - i.1) ⟨0, Nat.zero_le _, rfl⟩ ⟨?_, trivial, rfl, rfl⟩ ?_
  · exact ⟨leV_refl _, leV_refl _, leV_refl _, trivial⟩
  · rintro ⟨i, hi, hf⟩
    conv => whnf
    split
    · rename_i hb
      have hlt : i < n := by simpa using hb
      have hstep : firstS f (n - i) i = bif f i != 0 then f i else firstS f (n - (i + 1)) (i + 1) := by
        rw [show n - i = (n - (i + 1)) + 1 by omega]; rfl
      conv => whnf
      split
      · conv => whnf
        split
        · rename_i h2
          conv => whnf
          refine ⟨?_, rfl⟩
          have h2' : (f i != 0) = true := h2
          show IV.int .i64 (f i) = .int .i64 (firstS f n 0)
          rw [hf, hstep, h2']; rfl
        · rename_i h2
          have h2' : (f i != 0) = false := h2
          conv => whnf
          refine ⟨⟨i + 1, hlt, by rw [hf, hstep, h2']; rfl⟩, ⟨?_, trivial, rfl, rfl⟩, ?_⟩
          · have hw : IntKind.i64.wrap ((i : Int) + 1) = ((i + 1 : Nat) : Int) := by
              rw [wrap_in] <;> omega
            exact ⟨leV_int hw, leV_refl _, leV_refl _, trivial⟩
          · show n - (i + 1) < n - i
            omega
      · rename_i h2; rw [hb] at h2; cases h2
    · rename_i hb
      have : i = n := by simp at hb; omega
      conv => whnf
      refine ⟨?_, rfl⟩
      show IV.int .i64 0 = .int .i64 (firstS f n 0)
      rw [hf, this, Nat.sub_self]; rfl

theorem c_first3 (up : List Ces) (a b c : Int) : Cs gl n_rotor_first up [.lst none 1 3 fun i => [.int .i64 ([a, b, c].getD i 0)]] (.int .i64 (bif a != 0 then a else bif b != 0 then b else bif c != 0 then c else 0)) up := c_first up 3 (by decide) fun i => [a, b, c].getD i 0
theorem c_CheckFlow (up : List Ces) (w s p : Int) : Cs gl n_rotor_CheckFlow up [.agg [.int .i64 w, .int .i64 s, .int .i64 p]] (.int .i64 (bif withinS w 1 50 != 0 then withinS w 1 50 else bif withinS s 1 1000 != 0 then withinS s 1 1000 else bif withinS p (-64) 64 != 0 then withinS p (-64) 64 else 0)) up := by
  refine mk h_rotor_CheckFlow rfl rfl ?_
  conv => whnf
  refine .mk 11 (by kernel_rfl) ?_
  conv => whnf
  refine .mk _ _ _ (leL_refl _) (c_within _ _ _ _) rfl ?_
  conv => whnf
  refine .mk _ _ _ (leL_refl _) (c_within _ _ _ _) rfl ?_
  conv => whnf
  refine .mk _ _ _ (leL_refl _) (c_within _ _ _ _) rfl ?_
  conv => whnf
  refine .mk _ _ _ ?_ (c_first3 _ (withinS w 1 50) (withinS s 1 1000) (withinS p (-64) 64)) rfl ?_
  · exact ⟨⟨.inl rfl, rfl, rfl, fun i hi => by
      match i, hi with
      | 0, _ => rfl
      | 1, _ => rfl
      | 2, _ => rfl⟩, trivial⟩
  conv => whnf
  exact ⟨rfl, rfl⟩

theorem c_next (up : List Ces) (a d : Int) : Cs gl n_rotor_Induction_next up [.agg [.int .i64 a, .int .i64 d]] (.agg [.int .i64 (w64 (a + 1)), .int .i64 d]) up := by
  refine mk h_rotor_Induction_next rfl rfl ?_
  conv => whnf
  exact ⟨rfl, rfl⟩

theorem c_shift (up : List Ces) (nl nd : Nat) (lf df : Nat → Int) (r c t tip w s p : Int) : Cs gl n_rotor_section_shift up [secI nl nd lf df r c t tip w s p] (.int .i64 (w64 (t + p))) up := by
  refine mk h_rotor_section_shift rfl rfl ?_
  conv => whnf
  exact ⟨rfl, rfl⟩

theorem c_class (up : List Ces) (nl nd : Nat) (lf df : Nat → Int) (r c t tip w s p x : Int) : Cs gl n_rotor_section_class up [secI nl nd lf df r c t tip w s p, .int .i64 x]
    (.int .i64 (minW (maxW 0 (w64 (x - w64 (t + p)))) (w64 (nl - 1)))) up := by
  refine mk h_rotor_section_class rfl rfl ?_
  conv => whnf
  refine .mk 11 (by kernel_rfl) ?_
  conv => whnf
  refine .mk _ _ _ (leL_refl _) (c_shift _ _ _ _ _ _ _ _ _ _ _ _) rfl ?_
  conv => whnf
  exact ⟨rfl, rfl⟩

theorem c_inflow (up : List Ces) (nl nd : Nat) (lf df : Nat → Int) (r c t tip w s p a d : Int) (h1 : 0 ≤ d) (h2 : denW r s d ≠ 0) : Cs gl n_rotor_section_inflow up [secI nl nd lf df r c t tip w s p, .agg [.int .i64 a, .int .i64 d]]
    (.int .i64 (inflowW r w s a d)) up := by
  refine mk h_rotor_section_inflow rfl rfl ?_
  conv => whnf
  split
  · conv => whnf
    split
    · conv => whnf
      exact ⟨rfl, rfl⟩
    · rename_i h
      have h' : (denW r s d != 0) = false := h
      exact absurd (by simpa using h') h2
  · rename_i h; simp at h; omega

theorem c_balance (up : List Ces) (nl nd : Nat) (lf df : Nat → Int) (r c t tip w s p a d : Int) (h1 : 0 ≤ d) (h2 : denW r s d ≠ 0)
    (h3 : 0 ≤ classW nl t p (inflowW r w s a d)) (h4 : classW nl t p (inflowW r w s a d) < nl) :
    Cs gl n_rotor_section_balance up [secI nl nd lf df r c t tip w s p, .agg [.int .i64 a, .int .i64 d]] (.int .i64 (balanceW nl lf r c t tip w s p a d)) up := by
  refine mk h_rotor_section_balance rfl rfl ?_
  conv => whnf
  split
  · conv => whnf
    refine .mk 10 (by kernel_rfl) ?_
    conv => whnf
    refine .mk _ _ _ (leL_refl _) (c_inflow _ _ _ _ _ _ _ _ _ _ _ _ _ _ h1 h2) rfl ?_
    conv => whnf
    refine .mk _ _ _ (leL_refl _) (c_class _ _ _ _ _ _ _ _ _ _ _ _ _) rfl ?_
    conv => whnf
    split
    · conv => whnf
      split
      · conv => whnf
        exact ⟨rfl, rfl⟩
      · rename_i h
        have h' : decide (classW nl t p (inflowW r w s a d) < (nl : Int)) = false := h
        simp at h'; omega
    · rename_i h
      have h' : decide (0 ≤ classW nl t p (inflowW r w s a d)) = false := h
      simp at h'; omega
  · rename_i h; simp at h; omega

theorem c_brackets (up : List Ces) (nl nd : Nat) (lf df : Nat → Int) (r c t tip w s p a d : Int) (h1 : 0 ≤ w64 (d - 1)) (o1 : BalOK nl r t w s p a d) (o2 : BalOK nl r t w s p (w64 (a + 1)) d) :
    Cs gl n_rotor_section_brackets up [secI nl nd lf df r c t tip w s p, .agg [.int .i64 a, .int .i64 d]] (.bool (bracketsW nl lf r c t tip w s p a d)) up := by
  refine mk h_rotor_section_brackets rfl rfl ?_
  conv => whnf
  refine .mk 20 (by kernel_rfl) ?_
  conv => whnf
  split
  · conv => whnf
    split
    · rename_i q1
      have q1' : decide (a < halfW d) = true := q1
      conv => whnf
      refine .mk _ _ _ (leL_refl _) (c_balance _ _ _ _ _ _ _ _ _ _ _ _ _ _ o1.d0 o1.den o1.lo o1.hi) rfl ?_
      conv => whnf
      split
      · rename_i q2
        have q2' : decide (balanceW nl lf r c t tip w s p a d ≤ 0) = true := q2
        conv => whnf
        refine .mk _ _ _ (leL_refl _) (c_next _ _ _) rfl ?_
        conv => whnf
        refine .mk _ _ _ (leL_refl _) (c_balance _ _ _ _ _ _ _ _ _ _ _ _ _ _ o2.d0 o2.den o2.lo o2.hi) rfl ?_
        conv => whnf
        refine ⟨?_, rfl⟩
        show IV.bool (decide (balanceW nl lf r c t tip w s p (w64 (a + 1)) d > 0)) = _
        simp only [bracketsW, q1', q2', Bool.true_and]
      · rename_i q2
        have q2' : decide (balanceW nl lf r c t tip w s p a d ≤ 0) = false := q2
        conv => whnf
        refine ⟨?_, rfl⟩
        simp only [bracketsW, q2', Bool.false_and, Bool.and_false]
    · rename_i q1
      have q1' : decide (a < halfW d) = false := q1
      conv => whnf
      refine ⟨?_, rfl⟩
      simp only [bracketsW, q1', Bool.false_and]
  · rename_i h
    have h' : decide (0 ≤ w64 (d - 1)) = false := h
    simp at h'; omega

theorem c_find (up : List Ces) (nl nd : Nat) (lf df : Nat → Int) (r c t tip w s p d half : Int) (h1 : 0 ≤ w64 (d - 1)) (hh : halfW d = half) (hb : 0 ≤ half ∧ half ≤ 4096) (ok : ∀ a, 0 ≤ a → a ≤ half → BalOK nl r t w s p a d) (rv : IV)
    (hr : rv = match findS (fun a => balanceW nl lf r c t tip w s p a d) half with | none => .tup [.agg [.int .i64 0, .int .i64 0], .bool false] | some a => .tup [.agg [.int .i64 a, .int .i64 d], .bool true]) :
    Cs gl n_rotor_section_find up [secI nl nd lf df r c t tip w s p, .int .i64 d] rv up := by
  refine mk h_rotor_section_find rfl rfl ?_
  conv => whnf
  refine .mk 10 (by kernel_rfl) ?_
  conv => whnf
  split
  · conv => whnf
    have o := ok half hb.1 (Int.le_refl _)
    have o' : BalOK nl r t w s p (halfW d) d := hh ▸ o
    refine .mk _ _ _ _ _ (leL_refl _) (c_balance _ _ _ _ _ _ _ _ _ _ _ _ _ _ o'.d0 o'.den o'.lo o'.hi) rfl ?_
    conv => whnf
    split
    · rename_i q
      have q' : decide (balanceW nl lf r c t tip w s p (halfW d) d ≤ 0) = true := q
      conv => whnf
      refine ⟨?_, rfl⟩
      rw [hh] at q'
      simp only [hr, findS, q', cond_true]
    · rename_i q
      have q' : decide (balanceW nl lf r c t tip w s p (halfW d) d ≤ 0) = false := q
      conv => whnf
      let f : Int → Int := fun a => balanceW nl lf r c t tip w s p a d
      refine .mk (α := {x : Int × Int × Nat // 0 ≤ x.1 ∧ x.2.1 ≤ half ∧ x.1 ≤ x.2.1 ∧ x.2.1 - x.1 ≤ x.2.2 ∧ searchS f x.2.2 x.1 x.2.1 = searchS f half.toNat 0 half})
        (fun x => ⟨[(1, .int .i64 d), (2, .ptr 0 2 0), (4, .ptr 0 4 0), (6, .ptr 0 6 0), (7, .ptr 0 7 0)],
          [(7, [.int .i64 x.1.2.1, .int .i64 d]), (6, [.int .i64 x.1.1, .int .i64 d]), (4, [.int .i64 0, .int .i64 0]),
           (2, [.lst none 1 nl fun i => [.int .i64 (lf i)], .lst none 1 nd fun i => [.int .i64 (df i)], .int .i64 r, .int .i64 c, .int .i64 t, .int .i64 tip, .int .i64 w, .int .i64 s, .int .i64 p])], up⟩)
        (fun x => x.1.2.2) ⟨(0, half, half.toNat), Int.le_refl _, Int.le_refl _, hb.1, by simp; omega, rfl⟩ ⟨?_, ?_, rfl, rfl⟩ ?_
      · exact ⟨leV_refl _, leV_refl _, leV_refl _, leV_refl _, leV_refl _, trivial⟩
      · exact ⟨⟨leV_int hh, leV_refl _, trivial⟩, leL_refl _, leL_refl _, leL_refl _, trivial⟩
      · rintro ⟨⟨lo, hi, n⟩, g1, g2, g3, g4, g5⟩
        simp only at g1 g2 g3 g4 g5
        have hw : w64 (hi - lo) = hi - lo := by rw [w64, wrap_in] <;> omega
        have hw2 : w64 (w64 (lo + hi) |>.tdiv 2) = (lo + hi) / 2 := by
          have e1 : w64 (lo + hi) = lo + hi := by rw [w64, wrap_in] <;> omega
          rw [e1, Int.tdiv_eq_ediv_of_nonneg (by omega), w64, wrap_in] <;> omega
        conv => whnf
        have hm : BalOK nl r t w s p (w64 (w64 (lo + hi) |>.tdiv 2)) d := by rw [hw2]; exact ok _ (by omega) (by omega)
        split
        · rename_i z
          have z' : decide (w64 (hi - lo) > 1) = true := z
          rw [hw] at z'
          have z1 : hi - lo > 1 := by simpa using z'
          obtain ⟨m, rfl⟩ : ∃ m, n = m + 1 := ⟨n - 1, by omega⟩
          simp only [searchS, z', cond_true] at g5
          conv => whnf
          refine .mk _ _ _ _ _ (leL_refl _) (c_balance _ _ _ _ _ _ _ _ _ _ _ _ _ _ hm.d0 hm.den hm.lo hm.hi) rfl ?_
          conv => whnf
          split
          · rename_i y
            have y' : decide (f (w64 (w64 (lo + hi) |>.tdiv 2)) ≤ 0) = true := y
            rw [hw2] at y'
            rw [y', cond_true] at g5
            conv => whnf
            refine ⟨⟨((lo + hi) / 2, hi, m), by simp only; omega, g2, by simp only; omega, by simp only; omega, g5⟩, ⟨?_, ?_, rfl, rfl⟩, ?_⟩
            · exact ⟨leV_refl _, leV_refl _, leV_refl _, leV_refl _, leV_refl _, trivial⟩
            · exact ⟨leL_refl _, ⟨leV_int hw2, leV_refl _, trivial⟩, leL_refl _, leL_refl _, trivial⟩
            · exact Nat.lt_succ_self m
          · rename_i y
            have y' : decide (f (w64 (w64 (lo + hi) |>.tdiv 2)) ≤ 0) = false := y
            rw [hw2] at y'
            rw [y', cond_false] at g5
            conv => whnf
            refine ⟨⟨(lo, (lo + hi) / 2, m), g1, by simp only; omega, by simp only; omega, by simp only; omega, g5⟩, ⟨?_, ?_, rfl, rfl⟩, ?_⟩
            · exact ⟨leV_refl _, leV_refl _, leV_refl _, leV_refl _, leV_refl _, trivial⟩
            · exact ⟨⟨leV_int hw2, leV_refl _, trivial⟩, leL_refl _, leL_refl _, leL_refl _, trivial⟩
            · exact Nat.lt_succ_self m
        · rename_i z
          have z' : decide (w64 (hi - lo) > 1) = false := z
          rw [hw] at z'
          conv => whnf
          refine ⟨?_, rfl⟩
          have e : lo = searchS f half.toNat 0 half := by
            rw [← g5]
            cases n with
            | zero => rfl
            | succ n => simp only [searchS, z', cond_false]
          have q2 : decide (f half ≤ 0) = false := by rw [← hh]; exact q'
          rw [hr]
          simp only [findS]
          show IV.tup [.agg [.int .i64 lo, .int .i64 d], .bool true] = _
          rw [show decide ((fun a => balanceW nl lf r c t tip w s p a d) half ≤ 0) = false from q2, cond_false, e]
  · rename_i h
    have h' : decide (0 ≤ w64 (d - 1)) = false := h
    simp at h'; omega

theorem c_sections (up : List Ces) (nl nd nr : Nat) (lf df : Nat → Int) (r1 r2 r3 r4 : Nat → Int) (w s p : Int) :
    Cs gl n_rotor_sections up [.agg [.lst none 1 nl fun i => [.int .i64 (lf i)], .lst none 1 nd fun i => [.int .i64 (df i)], .lst none 4 nr fun i => [.int .i64 (r1 i), .int .i64 (r2 i), .int .i64 (r3 i), .int .i64 (r4 i)]], .agg [.int .i64 w, .int .i64 s, .int .i64 p]]
      (.fn n_rotor_sections_1 [] [.vptr 3 1 (fun _ => [.lst none 1 nl fun i => [.int .i64 (lf i)], .lst none 1 nd fun i => [.int .i64 (df i)], .lst none 4 nr fun i => [.int .i64 (r1 i), .int .i64 (r2 i), .int .i64 (r3 i), .int .i64 (r4 i)]]) 0 0, .vptr 3 1 (fun _ => [.int .i64 w, .int .i64 s, .int .i64 p]) 0 0]) up := by
  refine mk h_rotor_sections rfl rfl ?_
  conv => whnf
  exact ⟨rfl, rfl⟩

theorem c_torque1 (ce : Ces) (up : List Ces) (k nl nd : Nat) (lf df : Nat → Int) (r c t tip w s p x : Int) (h3 : 0 ≤ classW nl t p x) (h4 : classW nl t p x < nl) (h5 : classW nl t p x < nd) (hc : lookC ce k = some (secL nl nd lf df r c t tip w s p)) :
    Cs gl n_rotor_section_torque_1 (ce :: up) [.int .i64 x, .ptr 1 k 0] (.int .i64 (ofW nl lf df r c t tip p x)) (ce :: up) := by
  refine mk h_rotor_section_torque_1 rfl rfl ?_
  conv => whnf
  split
  rotate_left
  · rename_i h; exact absurd (hc.symm.trans h) nofun
  rename_i c0 h
  obtain rfl := Option.some.inj (hc.symm.trans h)
  clear h
  conv => whnf
  refine .mk _ _ _ _ _ (leL_refl _) (c_class _ _ _ _ _ _ _ _ _ _ _ _ _) rfl ?_
  conv => whnf
  refine .mk 28 (by kernel_rfl) ?_
  conv => whnf
  split
  rotate_left
  · rename_i h; exact absurd (hc.symm.trans h) nofun
  rename_i c0 h
  obtain rfl := Option.some.inj (hc.symm.trans h)
  clear h
  conv => whnf
  split
  rotate_left
  · rename_i h; exact absurd (hc.symm.trans h) nofun
  rename_i c0 h
  obtain rfl := Option.some.inj (hc.symm.trans h)
  clear h
  conv => whnf
  split
  rotate_left
  · rename_i h; exact absurd (hc.symm.trans h) nofun
  rename_i c0 h
  obtain rfl := Option.some.inj (hc.symm.trans h)
  clear h
  conv => whnf
  split
  rotate_left
  · rename_i h; exact absurd (hc.symm.trans h) nofun
  rename_i c0 h
  obtain rfl := Option.some.inj (hc.symm.trans h)
  clear h
  conv => whnf
  split
  rotate_left
  · rename_i h
    have h' : decide (0 ≤ classW nl t p x) = false := h
    simp at h'; omega
  conv => whnf
  split
  rotate_left
  · rename_i h
    have h' : decide (classW nl t p x < (nl : Int)) = false := h
    simp at h'; omega
  conv => whnf
  split
  rotate_left
  · rename_i h; exact absurd (hc.symm.trans h) nofun
  rename_i c0 h
  obtain rfl := Option.some.inj (hc.symm.trans h)
  clear h
  conv => whnf
  split
  rotate_left
  · rename_i h
    have h' : decide (0 ≤ classW nl t p x) = false := h
    simp at h'; omega
  conv => whnf
  split
  rotate_left
  · rename_i h
    have h' : decide (classW nl t p x < (nd : Int)) = false := h
    simp at h'; omega
  conv => whnf
  exact ⟨rfl, rfl⟩

theorem c_mapped (up : List Ces) (n : Nat) (hn : n ≤ 1000000) (f φ : Nat → Int) (k : Nat) (hk : ∀ up i, i < n → Cs gl k up [.int .i64 (f i)] (.int .i64 (φ i)) up) :
    Cs gl n_rotor_mapped_int_api_Errno up [.lst none 1 n fun i => [.int .i64 (f i)], .fn k [] []] (.lst (some 19) 1 n fun i => [.int .i64 (φ i)]) up := by
  refine mk h_rotor_mapped_int_api_Errno rfl rfl ?_
  conv => whnf
  refine .mk (α := {i : Nat // i ≤ n}) (fun i => ⟨[(10, .int .i64 i.1), (9, .int .i64 n), (8, .lst none 1 n fun i => [.int .i64 (f i)]), (5, .lst (some 19) 1 i.1 fun i => [.int .i64 (φ i)]), (1, .fn k [] [])], [], up⟩) (fun i => n - i.1) ⟨0, Nat.zero_le _⟩ ⟨?_, trivial, rfl, rfl⟩ ?_
  · exact ⟨leV_refl _, leV_refl _, leV_refl _, rfl, leV_refl _, trivial⟩
  · rintro ⟨i, hi⟩
    conv => whnf
    split
    · rename_i hb
      have hlt : i < n := by simpa using hb
      conv => whnf
      split
      · conv => whnf
        refine .mk _ _ _ _ _ (leL_refl _) (hk _ i hlt) rfl ?_
        conv => whnf
        split
        · conv => whnf
          refine ⟨⟨i + 1, hlt⟩, ⟨?_, trivial, rfl, rfl⟩, ?_⟩
          · have hw : IntKind.i64.wrap ((i : Int) + 1) = ((i + 1 : Nat) : Int) := by
              rw [wrap_in] <;> omega
            refine ⟨leV_int hw, leV_refl _, leV_refl _, ⟨.inr rfl, rfl, rfl, fun j hj => ?_⟩, leV_refl _, trivial⟩
            show (if j < i then [IV.int .i64 (φ j)] else litF 1 [.int .i64 (φ i)] (j - i)) = [IV.int .i64 (φ j)]
            split
            · rfl
            · have : j = i := by have : j < i + 1 := hj; omega
              subst this; rw [Nat.sub_self]; rfl
          · show n - (i + 1) < n - i
            omega
        · rename_i h2
          have h2' : decide (i + 1 ≤ 1073741824) = false := h2
          simp at h2'; omega
      · rename_i h2; rw [hb] at h2; cases h2
    · rename_i hb
      have : i = n := by simp at hb; omega
      subst this
      conv => whnf
      exact ⟨rfl, rfl⟩

theorem c_first4 (up : List Ces) (a b c d : Int) : Cs gl n_rotor_first up [.lst none 1 4 fun i => [.int .i64 ([a, b, c, d].getD i 0)]] (.int .i64 (firstS ([a, b, c, d].getD · 0) 4 0)) up := c_first up 4 (by decide) fun i => [a, b, c, d].getD i 0
theorem c_RingCheck (up : List Ces) (r c t tip : Int) : Cs gl n_rotor_Ring_check up [.agg [.int .i64 r, .int .i64 c, .int .i64 t, .int .i64 tip]]
    (.int .i64 (firstS ([withinS r 1 200, withinS c 1 100, withinS t (-64) 64, withinS tip 0 256].getD · 0) 4 0)) up := by
  refine mk h_rotor_Ring_check rfl rfl ?_
  conv => whnf
  refine .mk 14 (by kernel_rfl) ?_
  conv => whnf
  refine .mk _ _ _ (leL_refl _) (c_within _ _ _ _) rfl ?_
  conv => whnf
  refine .mk _ _ _ (leL_refl _) (c_within _ _ _ _) rfl ?_
  conv => whnf
  refine .mk _ _ _ (leL_refl _) (c_within _ _ _ _) rfl ?_
  conv => whnf
  refine .mk _ _ _ (leL_refl _) (c_within _ _ _ _) rfl ?_
  conv => whnf
  refine .mk _ _ _ ?_ (c_first4 _ (withinS r 1 200) (withinS c 1 100) (withinS t (-64) 64) (withinS tip 0 256)) rfl ?_
  · exact ⟨⟨.inl rfl, rfl, rfl, fun i hi => by
      match i, hi with
      | 0, _ => rfl
      | 1, _ => rfl
      | 2, _ => rfl
      | 3, _ => rfl⟩, trivial⟩
  conv => whnf
  exact ⟨rfl, rfl⟩

theorem c_component (up : List Ces) (a b c : Int) : Cs gl n_rotor_component up [.agg [.int .i64 a, .int .i64 b, .int .i64 c]] (.agg [.int .i64 (w64 (a - c)), .int .i64 (w64 (b - c))]) up := by
  refine mk h_rotor_component rfl rfl ?_
  conv => whnf
  exact ⟨rfl, rfl⟩
theorem c_checkLoads1 (up : List Ces) (x : Int) : Cs gl n_rotor_checkLoads_1 up [.int .i64 x] (.int .i64 (withinS x (-1000000) 1000000)) up := by
  refine mk h_rotor_checkLoads_1 rfl rfl ?_
  conv => whnf
  refine .mk _ _ _ _ _ (leL_refl _) (c_within _ _ _ _) rfl ?_
  conv => whnf
  exact ⟨rfl, rfl⟩
theorem c_CheckPolar1 (up : List Ces) (x : Int) : Cs gl n_rotor_CheckPolar_1 up [.int .i64 x] (.int .i64 (withinS x 0 1000)) up := by
  refine mk h_rotor_CheckPolar_1 rfl rfl ?_
  conv => whnf
  refine .mk _ _ _ _ _ (leL_refl _) (c_within _ _ _ _) rfl ?_
  conv => whnf
  exact ⟨rfl, rfl⟩

end Go.Proofs.YtllmejkmogepjaaDoor.Ix

/-
  Ro2: contracts of the functions of the package rotor, the second part: CheckPolar, CheckBlade and the checks that use them.
-/
namespace Go.Proofs.YtllmejkmogepjaaDoor.Ix
open Go.Proofs
set_option maxRecDepth 100000
set_option linter.unusedVariables false
set_option linter.unusedSimpArgs false
variable {gl : Nat → IV}

theorem c_f2 (up : List Ces) (f : Nat → List IV) (a b : Int) (h0 : f 0 = [.int .i64 a]) (h1 : f 1 = [.int .i64 b]) : Cs gl n_rotor_first up [.lst none 1 2 f] (.int .i64 (orE a b)) up := by
  have := c_first (gl := gl) up 2 (by decide) fun i => [a, b].getD i 0
  have e : firstS (fun i => [a, b].getD i 0) 2 0 = orE a b := by rw [← orE_right (orE a b), orE_assoc]; rfl
  rw [← e]
  refine Comp.le ?_ this
  refine ⟨⟨.inl rfl, rfl, rfl, fun i hi => ?_⟩, trivial⟩
  match i, hi with
  | 0, _ => exact h0
  | 1, _ => exact h1
theorem c_f3 (up : List Ces) (f : Nat → List IV) (a b c : Int) (h0 : f 0 = [.int .i64 a]) (h1 : f 1 = [.int .i64 b]) (h2 : f 2 = [.int .i64 c]) : Cs gl n_rotor_first up [.lst none 1 3 f] (.int .i64 (orE a (orE b c))) up := by
  have := c_first (gl := gl) up 3 (by decide) fun i => [a, b, c].getD i 0
  have e : firstS (fun i => [a, b, c].getD i 0) 3 0 = orE a (orE b c) := by rw [← orE_right (orE a (orE b c)), orE_assoc, orE_assoc]; rfl
  rw [← e]
  refine Comp.le ?_ this
  refine ⟨⟨.inl rfl, rfl, rfl, fun i hi => ?_⟩, trivial⟩
  match i, hi with
  | 0, _ => exact h0
  | 1, _ => exact h1
  | 2, _ => exact h2

theorem orE_pos {a b : Int} (h : (a != 0) = true) : orE a b = a := by unfold orE; rw [h]; rfl
theorem orE_neg {a b : Int} (h : (a != 0) = false) : orE a b = b := by unfold orE; rw [h]; rfl

/-- The error of the class 'i'. -/
def liftS (lf : Nat → Int) (i : Nat) : Int := orE (withinS (lf i) 0 1000) (bif decide (lf i < lf (i - 1)) then 11 else 0)

theorem polarS_eq (nl nd : Nat) (lf df : Nat → Int) : polarS nl lf nd df =
    orE (orE (bif (nl : Int) == 0 then 12 else 0) (orE (bif decide ((nl : Int) > 32) then 5 else 0) (bif (nd : Int) != nl then 2 else 0))) (orE (firstS (liftS lf) nl 0) (firstS (fun i => withinS (df i) 0 1000) nd 0)) := by
  unfold polarS liftS
  simp only [orE_assoc]

theorem c_CheckPolar (up : List Ces) (nl nd : Nat) (lf df : Nat → Int) : Cs gl n_rotor_CheckPolar up [.agg [.lst none 1 nl fun i => [.int .i64 (lf i)], .lst none 1 nd fun i => [.int .i64 (df i)]]] (.int .i64 (polarS nl lf nd df)) up := by
  refine mk h_rotor_CheckPolar rfl rfl ?_
  rw [polarS_eq]
  conv => whnf
  refine .mk 14 (by kernel_rfl) ?_
  conv => whnf
  first | refine CALLQ.mk _ _ _ (leL_refl _) (c_when _ _ _) rfl ?_ | refine CALL0.mk _ _ _ _ _ (leL_refl _) (c_when _ _ _) rfl ?_
  conv => whnf
  first | refine CALLQ.mk _ _ _ (leL_refl _) (c_when _ _ _) rfl ?_ | refine CALL0.mk _ _ _ _ _ (leL_refl _) (c_when _ _ _) rfl ?_
  conv => whnf
  first | refine CALLQ.mk _ _ _ (leL_refl _) (c_when _ _ _) rfl ?_ | refine CALL0.mk _ _ _ _ _ (leL_refl _) (c_when _ _ _) rfl ?_
  conv => whnf
  first | refine CALLQ.mk _ _ _ (leL_refl _) (c_f3 _ _ _ _ _ rfl rfl rfl) rfl ?_ | refine CALL0.mk _ _ _ _ _ (leL_refl _) (c_f3 _ _ _ _ _ rfl rfl rfl) rfl ?_
  conv => whnf
  split
  · rename_i h
    conv => whnf
    refine ⟨?_, rfl⟩
    rw [orE_pos h]
  · rename_i h
    rw [orE_neg h]
    have h0 : orE (bif (nl : Int) == 0 then 12 else 0) (orE (bif decide ((nl : Int) > 32) then 5 else 0) (bif (nd : Int) != nl then 2 else 0)) = 0 := by simpa using h
    simp only [orE_zero] at h0
    rw [bif_zero (by decide), bif_zero (by decide), bif_zero (by decide)] at h0
    simp at h0
    clear h
    obtain ⟨h1, h2, h3⟩ := h0
    have h3' : nd = nl := by omega
    subst h3'
    conv => whnf
    refine .mk (α := {i : Nat // i ≤ nd ∧ firstS (liftS lf) nd 0 = firstS (liftS lf) (nd - i) i}) (fun i => ⟨[(31, .int .i64 i.1), (30, .int .i64 nd), (29, .lst none 1 nd fun i => [.int .i64 (lf i)]), (1, .ptr 0 1 0)], [(1, [.lst none 1 nd fun i => [.int .i64 (lf i)], .lst none 1 nd fun i => [.int .i64 (df i)]])], up⟩) (fun i => nd - i.1) ⟨0, Nat.zero_le _, rfl⟩ ⟨?_, ?_, rfl, rfl⟩ ?_
    · exact ⟨leV_refl _, leV_refl _, leV_refl _, leV_refl _, trivial⟩
    · exact ⟨leL_refl _, trivial⟩
    · rintro ⟨i, hi, hf⟩
      conv => whnf
      split
      · rename_i hb
        have hlt : i < nd := by simpa using hb
        have hstep : firstS (liftS lf) (nd - i) i = orE (liftS lf i) (firstS (liftS lf) (nd - (i + 1)) (i + 1)) := by
          rw [show nd - i = (nd - (i + 1)) + 1 by omega]; rfl
        conv => whnf
        split
        · conv => whnf
          refine .mk 14 (by kernel_rfl) ?_
          conv => whnf
          first | refine CALLQ.mk _ _ _ (leL_refl _) (c_within _ _ _ _) rfl ?_ | refine CALL0.mk _ _ _ _ _ (leL_refl _) (c_within _ _ _ _) rfl ?_
          conv => whnf
          have hm : (if w64 ((i : Int) - 1) > 0 then w64 ((i : Int) - 1) else 0) = ((i - 1 : Nat) : Int) := by
            rw [w64, wrap_in (by omega) (by omega)]; split <;> omega
          rw [hm]
          split
          rotate_left
          · rename_i h
            have h' : decide (0 ≤ ((i - 1 : Nat) : Int)) = false := h
            simp at h' <;> omega
          conv => whnf
          split
          rotate_left
          · rename_i h
            have h' : decide (((i - 1 : Nat) : Int) < nd) = false := h
            simp at h' <;> omega
          conv => whnf
          first | refine CALLQ.mk _ _ _ (leL_refl _) (c_when _ _ _) rfl ?_ | refine CALL0.mk _ _ _ _ _ (leL_refl _) (c_when _ _ _) rfl ?_
          conv => whnf
          first | refine CALLQ.mk _ _ _ (leL_refl _) (c_f2 _ _ _ _ rfl rfl) rfl ?_ | refine CALL0.mk _ _ _ _ _ (leL_refl _) (c_f2 _ _ _ _ rfl rfl) rfl ?_
          conv => whnf
          split
          · rename_i h
            have h' : (liftS lf i != 0) = true := h
            conv => whnf
            refine ⟨?_, rfl⟩
            show IV.int .i64 (liftS lf i) = _
            rw [hf, hstep, orE_pos h', orE_pos h']
          · rename_i h
            have h' : (liftS lf i != 0) = false := h
            conv => whnf
            refine ⟨⟨i + 1, hlt, by rw [hf, hstep, orE_neg h']⟩, ⟨⟨leV_int ?_, leV_refl _, leV_refl _, leV_refl _, trivial⟩, ⟨leL_refl _, trivial⟩, rfl, rfl⟩, ?_⟩
            · show w64 ((i : Int) + 1) = ((i + 1 : Nat) : Int)
              rw [w64, wrap_in] <;> omega
            · show nd - (i + 1) < nd - i
              omega
        · rename_i h2; rw [hb] at h2; cases h2
      · rename_i hb
        have : i = nd := by simp at hb; omega
        subst this
        rw [Nat.sub_self] at hf
        have hf : firstS (liftS lf) i 0 = 0 := hf
        conv => whnf
        refine .mk _ _ _ _ _ (leL_refl _) (c_mapped _ _ (by omega) df (fun j => withinS (df j) 0 1000) _ (fun up j _ => c_CheckPolar1 up (df j))) rfl ?_
        conv => whnf
        refine .mk _ _ _ _ _ (leL_refl _) (c_first _ _ (by omega) fun j => withinS (df j) 0 1000) rfl ?_
        conv => whnf
        refine ⟨?_, rfl⟩
        rw [hf]; rfl

theorem c_RingCheck' (up : List Ces) (r c t tip : Int) : Cs gl n_rotor_Ring_check up [.agg [.int .i64 r, .int .i64 c, .int .i64 t, .int .i64 tip]] (.int .i64 (ringS r c t tip)) up := by
  have := c_RingCheck (gl := gl) up r c t tip
  have e : firstS ([withinS r 1 200, withinS c 1 100, withinS t (-64) 64, withinS tip 0 256].getD · 0) 4 0 = ringS r c t tip := by rw [← orE_right (ringS r c t tip), ringS, orE_assoc, orE_assoc, orE_assoc]; rfl
  rw [← e]; exact this

theorem c_CheckFlow' (up : List Ces) (w s p : Int) : Cs gl n_rotor_CheckFlow up [flowI w s p] (.int .i64 (flowS w s p)) up := by
  have := c_CheckFlow (gl := gl) up w s p
  have e : (bif withinS w 1 50 != 0 then withinS w 1 50 else bif withinS s 1 1000 != 0 then withinS s 1 1000 else bif withinS p (-64) 64 != 0 then withinS p (-64) 64 else 0) = flowS w s p := by
    show orE _ (orE _ (orE _ 0)) = _
    rw [orE_right]; rfl
  rw [← e]; exact this

theorem bladeS_eq (nl nd nr : Nat) (lf df r1 r2 r3 r4 : Nat → Int) : bladeS nl lf nd df nr r1 r2 r3 r4 =
    orE (orE (polarS nl lf nd df) (orE (bif (nr : Int) == 0 then 12 else 0) (bif decide ((nr : Int) > 16) then 5 else 0))) (firstS (ringAt r1 r2 r3 r4) nr 0) := by
  unfold bladeS
  simp only [orE_assoc]

theorem c_CheckBlade (up : List Ces) (nl nd nr : Nat) (lf df r1 r2 r3 r4 : Nat → Int) : Cs gl n_rotor_CheckBlade up [bladeI nl nd nr lf df r1 r2 r3 r4] (.int .i64 (bladeS nl lf nd df nr r1 r2 r3 r4)) up := by
  refine mk h_rotor_CheckBlade rfl rfl ?_
  rw [bladeS_eq]
  conv => whnf
  refine .mk 15 (by kernel_rfl) ?_
  conv => whnf
  first | refine CALLQ.mk _ _ _ (leL_refl _) (c_CheckPolar _ _ _ _ _) rfl ?_ | refine CALL0.mk _ _ _ _ _ (leL_refl _) (c_CheckPolar _ _ _ _ _) rfl ?_
  conv => whnf
  first | refine CALLQ.mk _ _ _ (leL_refl _) (c_when _ _ _) rfl ?_ | refine CALL0.mk _ _ _ _ _ (leL_refl _) (c_when _ _ _) rfl ?_
  conv => whnf
  first | refine CALLQ.mk _ _ _ (leL_refl _) (c_when _ _ _) rfl ?_ | refine CALL0.mk _ _ _ _ _ (leL_refl _) (c_when _ _ _) rfl ?_
  conv => whnf
  first | refine CALLQ.mk _ _ _ (leL_refl _) (c_f3 _ _ _ _ _ rfl rfl rfl) rfl ?_ | refine CALL0.mk _ _ _ _ _ (leL_refl _) (c_f3 _ _ _ _ _ rfl rfl rfl) rfl ?_
  conv => whnf
  split
  · rename_i h
    conv => whnf
    refine ⟨?_, rfl⟩
    rw [orE_pos h]
  · rename_i h
    rw [orE_neg h]
    have h0 : orE (polarS nl lf nd df) (orE (bif (nr : Int) == 0 then 12 else 0) (bif decide ((nr : Int) > 16) then 5 else 0)) = 0 := by simpa using h
    simp only [orE_zero] at h0
    rw [bif_zero (by decide), bif_zero (by decide)] at h0
    simp at h0
    clear h
    obtain ⟨_, h2, h3⟩ := h0
    conv => whnf
    refine .mk (α := {i : Nat // i ≤ nr ∧ firstS (ringAt r1 r2 r3 r4) nr 0 = firstS (ringAt r1 r2 r3 r4) (nr - i) i}) (fun i => ⟨[(29, .int .i64 i.1), (28, .int .i64 nr), (27, .lst none 4 nr fun i => [.int .i64 (r1 i), .int .i64 (r2 i), .int .i64 (r3 i), .int .i64 (r4 i)]), (1, .ptr 0 1 0)], [(1, [.lst none 1 nl fun i => [.int .i64 (lf i)], .lst none 1 nd fun i => [.int .i64 (df i)], .lst none 4 nr fun i => [.int .i64 (r1 i), .int .i64 (r2 i), .int .i64 (r3 i), .int .i64 (r4 i)]])], up⟩) (fun i => nr - i.1) ⟨0, Nat.zero_le _, rfl⟩ ⟨?_, ?_, rfl, rfl⟩ ?_
    · exact ⟨leV_refl _, leV_refl _, leV_refl _, leV_refl _, trivial⟩
    · exact ⟨leL_refl _, trivial⟩
    · rintro ⟨i, hi, hf⟩
      conv => whnf
      split
      · rename_i hb
        have hlt : i < nr := by simpa using hb
        have hstep : firstS (ringAt r1 r2 r3 r4) (nr - i) i = orE (ringAt r1 r2 r3 r4 i) (firstS (ringAt r1 r2 r3 r4) (nr - (i + 1)) (i + 1)) := by
          rw [show nr - i = (nr - (i + 1)) + 1 by omega]; rfl
        conv => whnf
        split
        · conv => whnf
          refine .mk 15 (by kernel_rfl) ?_
          conv => whnf
          have hm : (if w64 ((i : Int) - 1) > 0 then w64 ((i : Int) - 1) else 0) = ((i - 1 : Nat) : Int) := by
            rw [w64, wrap_in (by omega) (by omega)]; split <;> omega
          split
          · rename_i h0
            conv => whnf
            rw [hm]
            split
            rotate_left
            · rename_i h
              have h' : decide (0 ≤ ((i - 1 : Nat) : Int)) = false := h
              simp at h' <;> omega
            conv => whnf
            split
            rotate_left
            · rename_i h
              have h' : decide (((i - 1 : Nat) : Int) < nr) = false := h
              simp at h' <;> omega
            conv => whnf
            have hq : orE (ringS (r1 i) (r2 i) (r3 i) (r4 i)) (bif decide (r1 i ≤ r1 (i - 1)) then 11 else 0) = ringAt r1 r2 r3 r4 i := by
              unfold ringAt
              rw [show decide (0 < i) = true from decide_eq_true (by simpa using h0), Bool.true_and]
            refine .mk _ _ _ _ _ (leL_refl _) (c_RingCheck' _ _ _ _ _) rfl ?_
            conv => whnf
            refine .mk _ _ _ _ _ (leL_refl _) (c_when _ _ _) rfl ?_
            conv => whnf
            refine .mk _ _ _ _ _ (leL_refl _) (c_f2 _ _ _ _ rfl rfl) rfl ?_
            conv => whnf
            split
            · rename_i h
              have h' : (orE (ringS (r1 i) (r2 i) (r3 i) (r4 i)) (bif decide (r1 i ≤ r1 (i - 1)) then 11 else 0) != 0) = true := h
              rw [hq] at h'
              conv => whnf
              refine ⟨?_, rfl⟩
              show IV.int .i64 (orE (ringS (r1 i) (r2 i) (r3 i) (r4 i)) (bif decide (r1 i ≤ r1 (i - 1)) then 11 else 0)) = _
              rw [hf, hstep, hq, orE_pos h']
            · rename_i h
              have h' : (orE (ringS (r1 i) (r2 i) (r3 i) (r4 i)) (bif decide (r1 i ≤ r1 (i - 1)) then 11 else 0) != 0) = false := h
              rw [hq] at h'
              conv => whnf
              refine ⟨⟨i + 1, hlt, by rw [hf, hstep, orE_neg h']⟩, ⟨⟨leV_int ?_, leV_refl _, leV_refl _, leV_refl _, trivial⟩, ⟨leL_refl _, trivial⟩, rfl, rfl⟩, ?_⟩
              · show w64 ((i : Int) + 1) = ((i + 1 : Nat) : Int)
                rw [w64, wrap_in] <;> omega
              · show nr - (i + 1) < nr - i
                omega
          · rename_i h0
            conv => whnf
            have hq : orE (ringS (r1 i) (r2 i) (r3 i) (r4 i)) (bif false then 11 else 0) = ringAt r1 r2 r3 r4 i := by
              unfold ringAt
              rw [show decide (0 < i) = false from decide_eq_false (by simpa using h0), Bool.false_and]
            refine .mk _ _ _ _ _ (leL_refl _) (c_RingCheck' _ _ _ _ _) rfl ?_
            conv => whnf
            refine .mk _ _ _ _ _ (leL_refl _) (c_when _ _ _) rfl ?_
            conv => whnf
            refine .mk _ _ _ _ _ (leL_refl _) (c_f2 _ _ _ _ rfl rfl) rfl ?_
            conv => whnf
            split
            · rename_i h
              have h' : (orE (ringS (r1 i) (r2 i) (r3 i) (r4 i)) (bif false then 11 else 0) != 0) = true := h
              rw [hq] at h'
              conv => whnf
              refine ⟨?_, rfl⟩
              show IV.int .i64 (orE (ringS (r1 i) (r2 i) (r3 i) (r4 i)) (bif false then 11 else 0)) = _
              rw [hf, hstep, hq, orE_pos h']
            · rename_i h
              have h' : (orE (ringS (r1 i) (r2 i) (r3 i) (r4 i)) (bif false then 11 else 0) != 0) = false := h
              rw [hq] at h'
              conv => whnf
              refine ⟨⟨i + 1, hlt, by rw [hf, hstep, orE_neg h']⟩, ⟨⟨leV_int ?_, leV_refl _, leV_refl _, leV_refl _, trivial⟩, ⟨leL_refl _, trivial⟩, rfl, rfl⟩, ?_⟩
              · show w64 ((i : Int) + 1) = ((i + 1 : Nat) : Int)
                rw [w64, wrap_in] <;> omega
              · show nr - (i + 1) < nr - i
                omega
        · rename_i h2; rw [hb] at h2; cases h2
      · rename_i hb
        have : i = nr := by simp at hb; omega
        subst this
        rw [Nat.sub_self] at hf
        have hf : firstS (ringAt r1 r2 r3 r4) i 0 = 0 := hf
        conv => whnf
        refine ⟨?_, rfl⟩
        rw [hf]
end Go.Proofs.YtllmejkmogepjaaDoor.Ix

/-
  P5: texts as lists of bytes: numerals, lines, the text of a blade.
-/
namespace Go.Proofs.YtllmejkmogepjaaDoor.Ix
set_option linter.unusedVariables false

/-- A string of these bytes. -/
abbrev bytesS (l : List UInt8) : ByteArray := ⟨l.toArray⟩

theorem bytesS_size (l : List UInt8) : (bytesS l).size = l.length := by simp [ByteArray.size]
theorem bytesS_data (l : List UInt8) : (bytesS l).data.toList = l := by simp
theorem bytesS_append (a b : List UInt8) : bytesS a ++ bytesS b = bytesS (a ++ b) := by
  apply ByteArray.ext
  simp [ByteArray.data_append]
theorem bytesS_mk (s : ByteArray) : bytesS s.data.toList = s := by cases s; simp [bytesS]

/-- Numbers, each behind a blank. -/
def numsS (f : Nat → Int) : Nat → List UInt8
  | 0 => []
  | n + 1 => numsS f n ++ 32 :: Go.Lib.itoa (f n)
def lineS (w : List UInt8) (n : Nat) (f : Nat → Int) : List UInt8 := w ++ numsS f n ++ [10]

theorem numsS_eq (f : Nat → Int) : ∀ n, Go.Lib.joinTail [32] ((List.range n).map fun i => Go.Lib.itoa (f i)) = numsS f n
  | 0 => rfl
  | n + 1 => by
    have ih := numsS_eq f n
    unfold Go.Lib.joinTail at *
    rw [List.range_succ]
    simp only [List.map_append, List.flatten_append, numsS, List.map_cons, List.map_nil]
    rw [ih]
    simp

theorem numsS_congr {f g : Nat → Int} : ∀ n, (∀ i, i < n → f i = g i) → numsS f n = numsS g n
  | 0, _ => rfl
  | n + 1, h => by simp only [numsS]; rw [numsS_congr n fun i hi => h i (by omega), h n (by omega)]

def i64 (x : Int) : Prop := -9223372036854775808 ≤ x ∧ x ≤ 9223372036854775807

theorem numsS_len {f : Nat → Int} : ∀ n, (∀ i, i < n → i64 (f i)) → (numsS f n).length ≤ n * 22
  | 0, _ => by simp [numsS]
  | n + 1, h => by
    have ih := numsS_len n fun i hi => h i (by omega)
    have := Go.Lib.itoa_length_le (f n) (h n (by omega)).1 (h n (by omega)).2
    simp only [numsS, List.length_append, List.length_cons]
    omega

/-- The numbers of a ring. -/
def Bl.ring (b : Bl) (i j : Nat) : Int := [b.r1 i, b.r2 i, b.r3 i, b.r4 i].getD j 0
def Bl.pol (b : Bl) (j : Nat) : Int := if j % 2 = 0 then b.lf (j / 2) else b.df (j / 2)
/-- polar, ring -/
abbrev polarW : List UInt8 := [112, 111, 108, 97, 114]
abbrev ringW : List UInt8 := [114, 105, 110, 103]
def ringsS (b : Bl) : Nat → List UInt8
  | 0 => []
  | k + 1 => ringsS b k ++ lineS ringW 4 (b.ring k)
/-- The text of a blade. -/
def Bl.text (b : Bl) : List UInt8 := lineS polarW (2 * b.nl) b.pol ++ ringsS b b.nr

theorem ringsS_len {b : Bl} : ∀ k, (∀ i, i < k → ∀ j, i64 (b.ring i j)) → (ringsS b k).length ≤ k * 93
  | 0, _ => by simp [ringsS]
  | k + 1, h => by
    have ih := ringsS_len k fun i hi => h i (by omega)
    have := numsS_len (f := b.ring k) 4 fun i hi => h k (by omega) i
    simp only [ringsS, List.length_append, lineS, List.length_cons, List.length_nil]
    omega

theorem ring_i64 {b : Bl} {f : Fl} {i : Nat} (h : b.ok f i) (j : Nat) : i64 (b.ring i j) := by
  have h1 := h.r
  have h2 := h.c
  have h3 := h.t
  have h4 := h.tip
  unfold Bl.ring i64
  match j with
  | 0 => simp; omega
  | 1 => simp; omega
  | 2 => simp; omega
  | 3 => simp; omega
  | j + 4 => simp
end Go.Proofs.YtllmejkmogepjaaDoor.Ix

/-
  Ix30: what a caller hands in, as the evaluator tells it: data that a claim reads, of a given shape.
-/
namespace Go.Proofs.YtllmejkmogepjaaDoor.Ix
set_option linter.unusedVariables false

inductive Shp where
  | int (k : IntKind)
  | bool
  | str
  | slice (e : Nat) (s : Shp)
  | agg (l : List (Nat × Shp))

def total : List (Nat × Shp) → Nat
  | [] => 0
  | x :: r => x.1 + total r

mutual
/-- The type 't' has this shape. -/
def ShpOK (P : Program) : Shp → TypeId → Prop
  | .int k, t => P.underlying t = some (.int k)
  | .bool, t => P.underlying t = some .bool
  | .str, t => P.underlying t = some .string
  | .slice e s, t => ∃ u, P.underlying t = some (.slice u) ∧ P.cellsOf u = e ∧ 0 < e ∧ ShpOK P s u
  | .agg l, t => P.cellsOf t = total l ∧ ((∃ fs, P.underlying t = some (.struct fs) ∧ ShpOKs P l 0 (fs.toList.map fun f => (f.offset, f.type))) ∨
      ∃ n e, P.underlying t = some (.array n e) ∧ ShpOKs P l 0 ((List.range n).map fun i => (i * P.cellsOf e, e)))
def ShpOKs (P : Program) : List (Nat × Shp) → Nat → List (Nat × TypeId) → Prop
  | [], _, [] => True
  | (sz, s) :: l, off, (o, u) :: r => o = off ∧ P.cellsOf u = sz ∧ ShpOK P s u ∧ ShpOKs P l (off + sz) r
  | _, _, _ => False
end

mutual
/-- Cells of this shape. -/
def Fit : Shp → List IV → Prop
  | .int k, xs => ∃ n, xs = [.int k n] ∧ (Lit.int k n).wf = true
  | .bool, xs => ∃ b, xs = [.bool b]
  | .str, xs => ∃ s : ByteArray, xs = [.str s] ∧ s.size ≤ maxLen
  | .slice e s, xs => ∃ n f, xs = [.lst none e n f] ∧ n ≤ maxLen ∧ ∀ i, i < n → (f i).length = e ∧ Fit s (f i)
  | .agg l, xs => FitL l xs
def FitL : List (Nat × Shp) → List IV → Prop
  | [], xs => xs = []
  | (sz, s) :: l, xs => ∃ ys zs, xs = ys ++ zs ∧ ys.length = sz ∧ Fit s ys ∧ FitL l zs
end

/-- The cells told. -/
def Tells (I : Imm) (xs : List IV) (cs : List Value) : Prop := xs.length = cs.length ∧ ∀ (j : Nat) y, xs[j]? = some y → D I y (cs.getD j undef) ∧ (cs.getD j undef).oneCell' = true

theorem Tells.one {I : Imm} {x : IV} {v : Value} (h : D I x v) (h1 : v.oneCell' = true) : Tells I [x] [v] := by
  refine ⟨rfl, fun j y hy => ?_⟩
  cases j with
  | zero => simp at hy; subst hy; exact ⟨h, h1⟩
  | succ j => simp at hy

theorem Tells.append {I : Imm} {xs ys : List IV} {cs ds : List Value} (h : Tells I xs cs) (k : Tells I ys ds) : Tells I (xs ++ ys) (cs ++ ds) := by
  refine ⟨by simp [h.1, k.1], fun j y hy => ?_⟩
  by_cases hj : j < xs.length
  · rw [List.getElem?_append_left hj] at hy
    have := h.2 j y hy
    rw [List.getD_eq_getElem?_getD, List.getElem?_append_left (by rw [← h.1]; exact hj), ← List.getD_eq_getElem?_getD]; exact this
  · rw [List.getElem?_append_right (by omega)] at hy
    have := k.2 _ y hy
    rw [List.getD_eq_getElem?_getD, List.getElem?_append_right (by rw [← h.1]; omega), ← h.1, ← List.getD_eq_getElem?_getD]; exact this

section
variable {H : Type} {enc : TypeId × Value → H} {P : Program} {w : World} {spare : Nat → Bool} {held : Bool}

theorem cells_get {base : Nat} {a : Addr} {n : Nat} {cs : List Value} (h : w.cells? base a n = some cs) : cs.length = n ∧ ∀ j, j < n → w.cell? (a.add j) = cs[j]? := by
  unfold World.cells? at h
  split at h
  · exact ⟨by simpa using mapM_some_length h, fun j hj => mapM_some_get h j j (by simp [hj])⟩
  · cases h

theorem cell_spot {a : Addr} {v : Value} (h : w.cell? a = some v) : a.spot = none := by
  unfold World.cell? at h
  split at h
  · cases hs : a.spot with
    | none => rfl
    | some x => simp [hs] at h
  · cases h

mutual
theorem fit_of_trod : ∀ (s : Shp) (t : TypeId), ShpOK P s t → ∀ (fuel : Nat) (cs : List Value) (x : DataW H × List MemPlace), DataW.trod enc P w 0 (fun _ => true) held fuel t cs = some x →
    ∃ xs, Fit s xs ∧ Tells (fun a => w.cell? a) xs cs
  | .int k, t, ht, fuel, cs, x, h => by
    simp only [ShpOK] at ht
    obtain ⟨n, rfl, _, hw⟩ := DataW.trod_int ht h
    exact ⟨_, ⟨n, rfl, hw⟩, .one (.int k n) rfl⟩
  | .bool, t, ht, fuel, cs, x, h => by
    simp only [ShpOK] at ht
    obtain ⟨b, rfl, _⟩ := DataW.trod_bool ht h
    exact ⟨_, ⟨b, rfl⟩, .one (.bool b) rfl⟩
  | .str, t, ht, fuel, cs, x, h => by
    simp only [ShpOK] at ht
    obtain ⟨s, rfl, _, hs⟩ := DataW.trod_string ht h
    exact ⟨_, ⟨s, rfl, hs⟩, .one (.str s) rfl⟩
  | .slice e s, t, ht, fuel, cs, x, h => by
    simp only [ShpOK] at ht
    obtain ⟨u, hu, rfl, he, hs⟩ := ht
    rcases DataW.trod_slice hu h with ⟨rfl, _⟩ | ⟨a, len, cap, elems, rest, n, _, rfl, _, _, hlc, hcm, hlen, hel, hsp, _⟩
    · exact ⟨[.lst none (P.cellsOf u) 0 fun _ => []], ⟨0, _, rfl, Nat.zero_le _, fun i hi => by omega⟩, .one (.lstN _ _) rfl⟩
    · obtain ⟨hr1, hr2⟩ := hsp rfl
      have ex : ∀ i, i < len → ∃ xs, Fit s xs ∧ ∃ vs, w.cells? 0 (a.add (i * P.cellsOf u)) (P.cellsOf u) = some vs ∧ Tells (fun a => w.cell? a) xs vs := by
        intro i hi
        have h1 := hel i hi
        rw [List.getElem?_eq_getElem (by omega), Option.bind_eq_some_iff] at h1
        obtain ⟨vs, hv, ht⟩ := h1
        obtain ⟨xs, k1, k2⟩ := fit_of_trod s u hs n vs _ ht
        exact ⟨xs, k1, vs, hv, k2⟩
      have hspot : 0 < cap → a.spot = none := by
        intro hc
        have : ∃ vs, w.cells? 0 (a.add (0 * P.cellsOf u)) (P.cellsOf u) = some vs := by
          by_cases hl : 0 < len
          · obtain ⟨_, _, vs, hv, _⟩ := ex 0 hl; exact ⟨vs, hv⟩
          · have h1 := hr2 0 (by omega)
            rw [List.getElem?_eq_getElem (by omega), Option.bind_eq_some_iff] at h1
            obtain ⟨vs, hv, _⟩ := h1
            exact ⟨vs, by rw [show len + 0 = 0 by omega] at hv; exact hv⟩
        obtain ⟨vs, hv⟩ := this
        obtain ⟨g1, g2⟩ := cells_get hv
        have := g2 0 he
        rw [List.getElem?_eq_getElem (by omega), Nat.zero_mul] at this
        have h0 : (a.add 0).add 0 = a := by simp [Addr.add]
        rw [h0] at this
        exact cell_spot this
      by_cases hc : cap = 0
      · subst hc
        have : len = 0 := by omega
        subst this
        exact ⟨[.lst none (P.cellsOf u) 0 fun _ => []], ⟨0, _, rfl, Nat.zero_le _, fun i hi => by omega⟩, .one (.lstN _ _) rfl⟩
      · obtain ⟨b, off, spot⟩ := a
        have hs0 := hspot (by omega)
        simp only at hs0
        subst hs0
        let f : Nat → List IV := fun i => if hi : i < len then (ex i hi).choose else []
        have hf : ∀ i (hi : i < len), Fit s (f i) ∧ ∃ vs, w.cells? 0 ((⟨b, off, none⟩ : Addr).add (i * P.cellsOf u)) (P.cellsOf u) = some vs ∧ Tells (fun a => w.cell? a) (f i) vs := by
          intro i hi
          have e : f i = (ex i hi).choose := dif_pos hi
          rw [e]; exact (ex i hi).choose_spec
        have hlen' : ∀ i, i < len → (f i).length = P.cellsOf u := fun i hi => by
          obtain ⟨_, vs, hv, ht⟩ := hf i hi
          rw [ht.1]; exact (cells_get hv).1
        have hcell : ∀ i j, i < len → j < P.cellsOf u → ∃ v, w.cell? ⟨b, off + i * P.cellsOf u + j, none⟩ = some v ∧ v.oneCell' = true ∧ ∀ x, (f i)[j]? = some x → D (fun a => w.cell? a) x v := by
          intro i j hi hj
          obtain ⟨_, vs, hv, ht⟩ := hf i hi
          obtain ⟨g1, g2⟩ := cells_get hv
          have h1 := g2 j hj
          rw [add_none, add_none] at h1
          have hjl : j < (f i).length := by rw [hlen' i hi]; exact hj
          have h3 := ht.2 j _ (List.getElem?_eq_getElem hjl)
          refine ⟨vs.getD j undef, ?_, h3.2, fun x hx => (ht.2 j x hx).1⟩
          rw [h1, List.getD_eq_getElem?_getD, List.getElem?_eq_getElem (by omega)]; rfl
        refine ⟨[.lst none (P.cellsOf u) len f], ⟨len, f, rfl, by omega, fun i hi => ⟨hlen' i hi, (hf i hi).1⟩⟩, .one ?_ rfl⟩
        refine .lst _ len f b off cap (fun i j => (w.cell? ⟨b, off + i * P.cellsOf u + j, none⟩).getD undef) hlc hlen' (fun i j hi hj => ?_) (fun i j hi hj => ?_) (fun i j x hi hx => ?_)
        · obtain ⟨v, hv, _⟩ := hcell i j hi hj
          show w.cell? _ = some ((w.cell? _).getD undef)
          rw [hv]; rfl
        · obtain ⟨v, hv, h1, _⟩ := hcell i j hi hj
          show ((w.cell? _).getD undef).oneCell' = true
          rw [hv]; exact h1
        · have hj : j < P.cellsOf u := by rw [← hlen' i hi]; exact (List.getElem?_eq_some_iff.1 hx).1
          obtain ⟨v, hv, _, hD⟩ := hcell i j hi hj
          show D _ x ((w.cell? _).getD undef)
          rw [hv]; exact hD x hx
  | .agg l, t, ht, fuel, cs, x, h => by
    simp only [ShpOK] at ht
    obtain ⟨hsz, ⟨fs, hu, hfs⟩ | ⟨n, e, hu, hfs⟩⟩ := ht
    · obtain ⟨ys, n, _, _, hcl, hyl, hy⟩ := DataW.trod_struct hu h
      have := fits_of_trod l 0 _ hfs n cs (fun i o u hi => by
        simp only [List.getElem?_map, Option.map_eq_some_iff] at hi
        obtain ⟨f, hf, e⟩ := hi
        simp only [Prod.mk.injEq] at e
        obtain ⟨rfl, rfl⟩ := e
        have hf' : fs[i]? = some f := by simpa using hf
        have hlt : i < ys.length := by rw [hyl]; exact (Array.getElem?_eq_some_iff.1 hf').1
        exact ⟨_, (hy i f hf').trans (List.getElem?_eq_getElem hlt)⟩) (by omega)
      simpa [Fit] using this
    · obtain ⟨ys, m, _, _, hcl, hyl, hy⟩ := DataW.trod_array hu h
      have := fits_of_trod l 0 _ hfs m cs (fun i o u hi => by
        simp only [List.getElem?_map, Option.map_eq_some_iff] at hi
        obtain ⟨f, hf, e⟩ := hi
        simp only [Prod.mk.injEq] at e
        obtain ⟨rfl, rfl⟩ := e
        obtain ⟨hlt, rfl⟩ := List.getElem?_eq_some_iff.1 hf
        simp at hlt ⊢
        have := hy i hlt
        rw [List.getElem?_eq_getElem (by omega)] at this
        exact ⟨_, _, this⟩) (by omega)
      simpa [Fit] using this
theorem fits_of_trod : ∀ (l : List (Nat × Shp)) (off : Nat) (ts : List (Nat × TypeId)), ShpOKs P l off ts → ∀ (fuel : Nat) (cs : List Value),
    (∀ (i : Nat) o u, ts[i]? = some (o, u) → ∃ x, DataW.trod enc P w 0 (fun _ => true) held fuel u ((cs.drop o).take (P.cellsOf u)) = some x) → cs.length = off + total l →
    ∃ xs, FitL l xs ∧ Tells (fun a => w.cell? a) xs (cs.drop off)
  | [], off, ts, h, fuel, cs, hx, hl => ⟨[], rfl, by
      have : cs.drop off = [] := by simp [total] at hl; simp [hl]
      rw [this]; exact ⟨rfl, fun j y hy => by simp at hy⟩⟩
  | (sz, s) :: l, off, [], h, fuel, cs, hx, hl => by simp [ShpOKs] at h
  | (sz, s) :: l, off, (o, u) :: r, h, fuel, cs, hx, hl => by
    simp only [ShpOKs] at h
    obtain ⟨rfl, rfl, h3, h4⟩ := h
    simp only [total] at hl
    obtain ⟨y, hy⟩ := hx 0 o u rfl
    obtain ⟨xs, k1, k2⟩ := fit_of_trod s u h3 fuel _ y hy
    obtain ⟨zs, m1, m2⟩ := fits_of_trod l (o + P.cellsOf u) r h4 fuel cs (fun i o' u' hi => hx (i + 1) o' u' (by simpa using hi)) (by omega)
    have hlen : xs.length = P.cellsOf u := by rw [k2.1]; simp; omega
    refine ⟨xs ++ zs, ?_, ?_⟩
    · simp only [FitL]; exact ⟨xs, zs, rfl, hlen, k1, m1⟩
    · have e : cs.drop o = (cs.drop o).take (P.cellsOf u) ++ cs.drop (o + P.cellsOf u) := by
        rw [← List.drop_drop, List.take_append_drop]
      rw [e]; exact k2.append m2
end
end
end Go.Proofs.YtllmejkmogepjaaDoor.Ix

/-
  Ix31: from a contract to a claim's own words: the arguments as data of given shapes, the call, the arguments as they were.
-/
namespace Go.Proofs.YtllmejkmogepjaaDoor.Ix
set_option linter.unusedVariables false

mutual
/-- Has the type 't' this shape? -/
def shpB (P : Program) : Shp → TypeId → Bool
  | .int k, t => match P.underlying t with
    | some (.int k') => decide (k' = k)
    | _ => false
  | .bool, t => match P.underlying t with
    | some .bool => true
    | _ => false
  | .str, t => match P.underlying t with
    | some .string => true
    | _ => false
  | .slice e s, t => match P.underlying t with
    | some (.slice u) => Nat.beq (P.cellsOf u) e && Nat.blt 0 e && shpB P s u
    | _ => false
  | .agg l, t => Nat.beq (P.cellsOf t) (total l) && match P.underlying t with
    | some (.struct fs) => shpsB P l 0 (fs.toList.map fun f => (f.offset, f.type))
    | some (.array n e) => shpsB P l 0 ((List.range n).map fun i => (i * P.cellsOf e, e))
    | _ => false
def shpsB (P : Program) : List (Nat × Shp) → Nat → List (Nat × TypeId) → Bool
  | [], _, [] => true
  | (sz, s) :: l, off, (o, u) :: r => Nat.beq o off && Nat.beq (P.cellsOf u) sz && shpB P s u && shpsB P l (off + sz) r
  | _, _, _ => false
end

mutual
theorem shp_ok {P : Program} : ∀ (s : Shp) (t : TypeId), shpB P s t = true → ShpOK P s t
  | .int k, t, h => by
    simp only [shpB] at h
    split at h
    · rename_i k' hk; simp at h; subst h; exact hk
    · cases h
  | .bool, t, h => by
    simp only [shpB] at h
    split at h
    · assumption
    · cases h
  | .str, t, h => by
    simp only [shpB] at h
    split at h
    · assumption
    · cases h
  | .slice e s, t, h => by
    simp only [shpB] at h
    split at h
    · rename_i u hu
      simp only [Bool.and_eq_true, beq_iff] at h
      exact ⟨u, hu, h.1.1, blt_lt h.1.2, shp_ok s u h.2⟩
    · cases h
  | .agg l, t, h => by
    simp only [shpB, Bool.and_eq_true, beq_iff] at h
    obtain ⟨h1, h2⟩ := h
    refine ⟨h1, ?_⟩
    split at h2
    · rename_i fs hf; exact .inl ⟨fs, hf, shps_ok l _ _ h2⟩
    · rename_i n e hf; exact .inr ⟨n, e, hf, shps_ok l _ _ h2⟩
    · cases h2
theorem shps_ok {P : Program} : ∀ (l : List (Nat × Shp)) (off : Nat) (ts : List (Nat × TypeId)), shpsB P l off ts = true → ShpOKs P l off ts
  | [], _, [], _ => trivial
  | [], _, _ :: _, h => by simp [shpsB] at h
  | (sz, s) :: l, off, [], h => by simp [shpsB] at h
  | (sz, s) :: l, off, (o, u) :: r, h => by
    simp only [shpsB, Bool.and_eq_true, beq_iff] at h
    exact ⟨h.1.1.1, h.1.1.2, shp_ok s u h.1.2, shps_ok l _ r h.2⟩
end

/-- A value of this shape. -/
def FitV : Shp → IV → Prop
  | .agg l, v => ∃ xs, v = .agg xs ∧ FitL l xs
  | s, v => Fit s [v]

section
variable {H : Type} {enc : TypeId × Value → H} {P : Program} {w : World} {held : Bool} {base : Nat}

theorem open_shp {r : Reach} {b0 : Nat} (s : Shp) (t : TypeId) (hs : ShpOK P s t) {v : Value} {d : DataW H} {p : List MemPlace} (hval : Value.okWide P w r b0 t v) (h : DataW.Trod enc P w 0 (fun _ => true) held t v d p) :
    ∃ x, FitV s x ∧ D (fun a => w.cell? a) x v := by
  obtain ⟨fuel, h⟩ := h
  obtain ⟨xs, h1, h2, h3⟩ := fit_of_trod s t hs fuel _ _ h
  have plain : v.cells = #[v] → (∃ x, xs = [x]) → ∃ x, xs = [x] ∧ D (fun a => w.cell? a) x v := fun e hx => by
    obtain ⟨x, rfl⟩ := hx
    refine ⟨x, rfl, ?_⟩
    have := (h3 0 x rfl).1
    rw [e] at this; exact this
  cases s with
  | agg l =>
    simp only [ShpOK] at hs
    have : ∃ cs, v = .agg cs := by
      unfold Value.okWide at hval
      obtain ⟨_, ⟨fs, hu, _⟩ | ⟨n, e, hu, _⟩⟩ := hs
      · rw [hu] at hval; exact ⟨_, hval.choose_spec.1⟩
      · rw [hu] at hval; exact ⟨_, hval.choose_spec.1⟩
    obtain ⟨cs, rfl⟩ := this
    refine ⟨.agg xs, ⟨xs, rfl, h1⟩, .agg xs cs (by simpa [Value.cells] using h2) (fun j u hu => ?_) (fun j x hx => ?_)⟩
    · have hlt : j < xs.length := by rw [h2]; simpa [Value.cells] using (Array.getElem?_eq_some_iff.1 hu).1
      have := (h3 j _ (List.getElem?_eq_getElem hlt)).2
      simp only [Value.cells, List.getD_eq_getElem?_getD, Array.getElem?_toList, hu] at this
      exact this
    · have := (h3 j x hx).1
      simp only [Value.cells, List.getD_eq_getElem?_getD, Array.getElem?_toList] at this
      rw [Array.getD_eq_getD_getElem?]; exact this
  | int k =>
    simp only [ShpOK] at hs
    obtain ⟨n, rfl, hw⟩ := h1
    obtain ⟨m, hm, _, _⟩ := DataW.trod_int hs h
    have e : v.cells = #[v] := by cases v <;> simp_all [Value.cells, Value.okWide, Cell.okWide, Cell.ok]
    obtain ⟨x, hx, hD⟩ := plain e ⟨_, rfl⟩
    cases hx
    exact ⟨_, ⟨n, rfl, hw⟩, hD⟩
  | bool =>
    simp only [ShpOK] at hs
    obtain ⟨n, rfl⟩ := h1
    have e : v.cells = #[v] := by cases v <;> simp_all [Value.cells, Value.okWide, Cell.okWide, Cell.ok]
    obtain ⟨x, hx, hD⟩ := plain e ⟨_, rfl⟩
    cases hx
    exact ⟨_, ⟨n, rfl⟩, hD⟩
  | str =>
    simp only [ShpOK] at hs
    obtain ⟨n, rfl, hn⟩ := h1
    have e : v.cells = #[v] := by cases v <;> simp_all [Value.cells, Value.okWide, Cell.okWide, Cell.ok]
    obtain ⟨x, hx, hD⟩ := plain e ⟨_, rfl⟩
    cases hx
    exact ⟨_, ⟨n, rfl, hn⟩, hD⟩
  | slice e s =>
    simp only [ShpOK] at hs
    obtain ⟨u, hu, _⟩ := hs
    obtain ⟨n, f, rfl, hn⟩ := h1
    have e : v.cells = #[v] := by cases v <;> simp_all [Value.cells, Value.okWide, Cell.okWide, Cell.ok]
    obtain ⟨x, hx, hD⟩ := plain e ⟨_, rfl⟩
    cases hx
    exact ⟨_, ⟨n, f, rfl, hn⟩, hD⟩

/-- All arguments. -/
theorem open_shps {r : Reach} {b0 : Nat} : ∀ (ss : List Shp) (ts : List TypeId) (vs : List Value) (ds : List (DataW H)) (p : List MemPlace), ss.length = ts.length → (∀ (j : Nat) s t, ss[j]? = some s → ts[j]? = some t → ShpOK P s t) →
    (∀ (j : Nat) t v, ts[j]? = some t → vs[j]? = some v → Value.okWide P w r b0 t v) → DataW.TrodAll enc P w 0 (fun _ => true) held ts vs ds p →
    ∃ xs : List IV, xs.length = vs.length ∧ vs.length = ss.length ∧ (∀ (j : Nat) s x, ss[j]? = some s → xs[j]? = some x → FitV s x) ∧ ∀ (j : Nat) x, xs[j]? = some x → D (fun a => w.cell? a) x (vs.getD j undef)
  | [], [], vs, ds, p, _, _, _, h => by
    cases vs <;> cases ds <;> simp [DataW.TrodAll] at h
    exact ⟨[], rfl, rfl, fun j s x h => by simp at h, fun j x h => by simp at h⟩
  | [], _ :: _, _, _, _, hl, _, _, _ => by simp at hl
  | _ :: _, [], _, _, _, hl, _, _, _ => by simp at hl
  | s :: ss, t :: ts, vs, ds, p, hl, hs, hv, h => by
    obtain ⟨v, vs', d, ds', p1, p2, rfl, rfl, rfl, h1, h2⟩ := Go.ChangeShapes.trodAll_cons h
    obtain ⟨x, g1, g2⟩ := open_shp s t (hs 0 s t rfl rfl) (hv 0 t v rfl rfl) h1
    obtain ⟨xs, k0, k1, k2, k3⟩ := open_shps ss ts vs' ds' p2 (by simpa using hl) (fun j s t a b => hs (j + 1) s t (by simpa using a) (by simpa using b)) (fun j t v a b => hv (j + 1) t v (by simpa using a) (by simpa using b)) h2
    refine ⟨x :: xs, by simp [k0], by simp [k1], fun j s' x' a b => ?_, fun j x' b => ?_⟩
    · cases j with
      | zero => simp at a b; subst a b; exact g1
      | succ j => exact k2 j s' x' (by simpa using a) (by simpa using b)
    · cases j with
      | zero => simp at b; subst b; simpa using g2
      | succ j => simpa using k3 j x' (by simpa using b)

theorem trodAll_len : ∀ (ts : List TypeId) (vs : List Value) (ds : List (DataW H)) (p : List MemPlace) {spare : Nat → Bool}, DataW.TrodAll enc P w base spare held ts vs ds p → ds.length = ts.length
  | [], vs, ds, p, _, h => by
    cases vs <;> cases ds <;> simp [DataW.TrodAll] at h
    rfl
  | t :: ts, vs, ds, p, _, h => by
    obtain ⟨v, vs', d, ds', p1, p2, rfl, rfl, rfl, h1, h2⟩ := Go.ChangeShapes.trodAll_cons h
    simp [trodAll_len ts vs' ds' p2 h2]

/-- What the call did not touch reads as it did. -/
theorem shut_all (hl : laidOutB P = true) {W W' : World} (hb : Go.RowKit.Below W.heap.size W W') : ∀ (ts : List TypeId) (vs : List Value) (ds : List (DataW H)) (p : List MemPlace), ts.all (fun t => P.readableRec t && Nat.blt t P.types.size) = true →
    DataW.TrodAll enc P W 0 (fun _ => true) true ts vs ds p → DataW.TrodAll enc P W' 0 (fun b => decide (b < W.heap.size)) true ts vs ds p
  | [], vs, ds, p, _, h => by
    cases vs <;> cases ds <;> simp [DataW.TrodAll] at h ⊢
    exact h
  | t :: ts, vs, ds, p, ht, h => by
    obtain ⟨v, vs', d, ds', p1, p2, rfl, rfl, rfl, h1, h2⟩ := Go.ChangeShapes.trodAll_cons h
    simp only [List.all_cons, Bool.and_eq_true] at ht
    have lt : ∀ x ∈ p1, x.block < W.heap.size := by
      obtain ⟨m, hm⟩ := h1; exact DataW.trod_lt m _ _ _ hm
    exact ⟨_, _, (Go.RowKit.Below.trod hl ht.1.1 (blt_lt ht.1.2) h1 hb lt), shut_all hl hb ts vs' ds' p2 ht.2 h2, rfl⟩
end

/-- A contract, in the words of a claim. -/
theorem Comp.runG {P : Program} {gl : Nat → IV} {g : Nat} {args : List IV} {r : IV} {up' : List Ces} (h : Comp P gl g [] args r up') {vals : Array Value} {W : World} (hg : ∀ g, D (fun a => W.cell? a) (gl g) (.pointer (some ⟨g, 0, none⟩))) (hz : Gsz gl W) (hl : args.length = vals.size)
    (ha : ∀ (j : Nat) x, args[j]? = some x → D (fun a => W.cell? a) x (vals.getD j undef)) :
    Calls P g vals W fun e W' => ∃ v, e = .returned v ∧ (∃ I s, V I (under fun _ _ => none) s r v) ∧ Go.RowKit.Below W.heap.size W W' := by
  have hm : MemR gl [] W (fun a => W.cell? a) (fun b => b < W.heap.size) (fun _ _ => none) (fun _ => noSig) := by
    refine ⟨fun l d c hc => ?_, fun l d l' d' b h1 => (by cases h1), fun l d b h1 => (by cases h1), fun a v h => h, hg, fun b h => h, hz⟩
    simp [upC, lookC] at hc
  refine (h.2 vals W (fun a => W.cell? a) (fun b => b < W.heap.size) (fun _ _ => none) (fun _ => noSig) hm hl (fun j x hx => .data (ha j x hx))).mono fun e W' hh => ?_
  obtain ⟨v, I', s, e1, e2, _, _, e5⟩ := hh
  exact ⟨v, e1, ⟨I', s, e2⟩, ⟨e5.os, e5.tape, e5.output, e5.size, fun k hk => e5.keep k hk⟩⟩

theorem Comp.run {P : Program} {g : Nat} {args : List IV} {r : IV} {up' : List Ces} (h : Comp P (fun _ => .dead) g [] args r up') {vals : Array Value} {W : World} (hl : args.length = vals.size)
    (ha : ∀ (j : Nat) x, args[j]? = some x → D (fun a => W.cell? a) x (vals.getD j undef)) :
    Calls P g vals W fun e W' => ∃ v, e = .returned v ∧ (∃ I s, V I (under fun _ _ => none) s r v) ∧ Go.RowKit.Below W.heap.size W W' := h.runG (fun _ => .dead _) (fun _ _ _ _ _ _ h => by cases h) hl ha

/-! ### Tables of numbers: what a datum says of the cells -/
mutual
def flatD {H : Type} : DataW H → List Value
  | .lit (.int k n) => [.int k n]
  | .agg parts => flatDs parts
  | _ => []
def flatDs {H : Type} : List (DataW H) → List Value
  | [] => []
  | d :: r => flatD d ++ flatDs r
end
mutual
def flatS : Shp → Bool
  | .int _ => true
  | .agg l => flatSs l
  | _ => false
def flatSs : List (Nat × Shp) → Bool
  | [] => true
  | (_, s) :: r => flatS s && flatSs r
end

section
variable {H : Type} {enc : TypeId × Value → H} {P : Program} {w : World} {held : Bool} {spare : Nat → Bool}

theorem shps_len : ∀ (l : List (Nat × Shp)) (off : Nat) (ts : List (Nat × TypeId)), ShpOKs P l off ts → ts.length = l.length
  | [], off, [], h => rfl
  | [], off, _ :: _, h => by simp [ShpOKs] at h
  | (sz, s) :: l, off, [], h => by simp [ShpOKs] at h
  | (sz, s) :: l, off, (o, u) :: r, h => by
    simp only [ShpOKs] at h
    simp [shps_len l _ r h.2.2.2]

mutual
theorem flat_of_trod : ∀ (s : Shp) (t : TypeId), ShpOK P s t → flatS s = true → ∀ (fuel : Nat) (cs : List Value) (x : DataW H × List MemPlace), DataW.trod enc P w 0 spare held fuel t cs = some x → flatD x.1 = cs
  | .int k, t, ht, _, fuel, cs, x, h => by
    simp only [ShpOK] at ht
    obtain ⟨n, rfl, rfl, hw⟩ := DataW.trod_int ht h
    rfl
  | .bool, t, ht, hf, fuel, cs, x, h => by simp [flatS] at hf
  | .str, t, ht, hf, fuel, cs, x, h => by simp [flatS] at hf
  | .slice e s, t, ht, hf, fuel, cs, x, h => by simp [flatS] at hf
  | .agg l, t, ht, hf, fuel, cs, x, h => by
    simp only [ShpOK] at ht
    simp only [flatS] at hf
    obtain ⟨hsz, ⟨fs, hu, hfs⟩ | ⟨n, e, hu, hfs⟩⟩ := ht
    · obtain ⟨ys, n, _, rfl, hcl, hyl, hy⟩ := DataW.trod_struct hu h
      have hlen := shps_len l 0 _ hfs
      simp only [List.length_map, Array.length_toList] at hlen
      have := flats_of_trod l 0 _ hfs hf n cs ys (fun i o u hi => by
        simp only [List.getElem?_map, Option.map_eq_some_iff] at hi
        obtain ⟨f, hf, e⟩ := hi
        simp only [Prod.mk.injEq] at e
        obtain ⟨rfl, rfl⟩ := e
        exact hy i f (by simpa using hf)) (by simp [hyl]) (by omega)
      simpa [flatD] using this
    · obtain ⟨ys, m, _, rfl, hcl, hyl, hy⟩ := DataW.trod_array hu h
      have := flats_of_trod l 0 _ hfs hf m cs ys (fun i o u hi => by
        simp only [List.getElem?_map, Option.map_eq_some_iff] at hi
        obtain ⟨f, hf, e⟩ := hi
        simp only [Prod.mk.injEq] at e
        obtain ⟨rfl, rfl⟩ := e
        obtain ⟨hlt, rfl⟩ := List.getElem?_eq_some_iff.1 hf
        simp at hlt ⊢
        exact hy i hlt) (by simp [hyl]) (by omega)
      simpa [flatD] using this
theorem flats_of_trod : ∀ (l : List (Nat × Shp)) (off : Nat) (ts : List (Nat × TypeId)), ShpOKs P l off ts → flatSs l = true → ∀ (fuel : Nat) (cs : List Value) (xs : List (DataW H × List MemPlace)),
    (∀ (i : Nat) o u, ts[i]? = some (o, u) → DataW.trod enc P w 0 spare held fuel u ((cs.drop o).take (P.cellsOf u)) = xs[i]?) → xs.length = ts.length → cs.length = off + total l → flatDs (xs.map (·.1)) = cs.drop off
  | [], off, ts, h, _, fuel, cs, xs, hx, hxl, hl => by
    have h0 := shps_len [] off ts h
    have : xs = [] := by simpa using hxl.trans h0
    subst this
    simp [total] at hl
    simp [flatDs, hl]
  | (sz, s) :: l, off, [], h, _, fuel, cs, xs, hx, hxl, hl => by simp [ShpOKs] at h
  | (sz, s) :: l, off, (o, u) :: r, h, hf, fuel, cs, xs, hx, hxl, hl => by
    simp only [ShpOKs] at h
    obtain ⟨rfl, rfl, h3, h4⟩ := h
    simp only [total] at hl
    simp only [flatSs, Bool.and_eq_true] at hf
    cases xs with
    | nil => simp at hxl
    | cons y ys =>
      have hy := hx 0 o u rfl
      have k1 := flat_of_trod s u h3 hf.1 fuel _ y hy
      have k2 := flats_of_trod l (o + P.cellsOf u) r h4 hf.2 fuel cs ys (fun i o' u' hi => by have := hx (i + 1) o' u' (by simpa using hi); simpa using this) (by simpa using hxl) (by omega)
      simp only [List.map_cons, flatDs, k1, k2]
      rw [← List.drop_drop, List.take_append_drop]
end
end

end Go.Proofs.YtllmejkmogepjaaDoor.Ix

/-
  Ix32: a contract of the library, told of the memory below the heap's end, as a contract here; a table among the variables.
-/
namespace Go.Proofs.YtllmejkmogepjaaDoor.Ix
set_option linter.unusedVariables false

theorem Below_cells {w w' : World} (h : Go.RowKit.Below w.heap.size w w') {k : Nat} {o : Obj} (hk : w.heap[k]? = some o) : w'.heap[k]? = some o := by
  rw [h.block k (heap_lt hk)]; exact hk

theorem MemR.below {gl : Nat → IV} {cs : List Ces} {w w' : World} {I : Imm} {X : Nat → Prop} {β : Beta} {σ : Nat → Sig} (m : MemR gl cs w I X β σ) (h : Go.RowKit.Below w.heap.size w w') : MemR gl cs w' I X β σ := by
  refine ⟨fun l d c hc => ?_, m.inj, m.keys, fun x v hx => ?_, m.glo, fun b hb => Nat.lt_of_lt_of_le (m.xb b hb) h.size, m.gz.of fun g arr el mm hg => ⟨arr, el, mm, Below_cells h hg, rfl⟩⟩
  · obtain ⟨b, arr, el, h1, h2, h3⟩ := m.cell l d c hc
    exact ⟨b, arr, el, h1, Below_cells h h2, h3⟩
  · have h1 := m.im x v hx
    rw [World.cell?_of_block (h.block x.block (World.block_lt_of_cell? w _ h1))]; exact h1

theorem comp_of_below {P : Program} {gl : Nat → IV} {g : Nat} {up : List Ces} {args : List IV} {r : IV} {fn : Func} {c : Code} (hf : P.funcs[g]? = some fn) (hb : fn.body = some c) (hn : (fn.name == "runtime.NumGoroutine") = false)
    (h : ∀ (vals : Array Value) (w : World) (I : Imm) (X : Nat → Prop) (β : Beta) (σ : Nat → Sig), MemR gl up w I X β σ → args.length = vals.size →
      (∀ (j : Nat) x, args[j]? = some x → V I (under β) noSig x (vals.getD j undef)) → Calls P g vals w fun e w' => ∃ v, e = .returned v ∧ D I r v ∧ Go.RowKit.Below w.heap.size w w') : Comp P gl g up args r up := by
  refine ⟨⟨fn, c, hf, hb, hn⟩, fun vals w I X β σ m hl ha => (h vals w I X β σ m hl ha).mono ?_⟩
  rintro e w' ⟨v, he, hd, bel⟩
  exact ⟨v, I, noSig, he, .data hd, ⟨fun t g h => (by cases h), fun t t' g g' h => (by cases h)⟩, m.below bel,
    ⟨bel.os, bel.tape, bel.output, bel.size, fun b hb => bel.block b (m.xb b hb), fun _ _ h => h, fun _ _ => rfl, fun k o hk _ => Below_cells bel hk⟩⟩

theorem noSig_str {I : Imm} {β : Beta} {s : ByteArray} {v : Value} (h : V I β noSig (.str s) v) : v = .string s := by
  cases h with
  | data h => cases h; rfl

theorem noSig_int {I : Imm} {β : Beta} {k : IntKind} {n : Int} {v : Value} (h : V I β noSig (.int k n) v) : v = .int k n := by
  cases h with
  | data h => cases h; rfl

/-- A list of strings that came in. -/
theorem noSig_strs {I : Imm} {β : Beta} {n : Nat} {f : Nat → List IV} (s : Nat → ByteArray) (hf : ∀ i, i < n → f i = [.str (s i)]) {v : Value} (h : V I β noSig (.lst none 1 n f) v) :
    (n = 0 ∧ ∃ p, v = .slice p 0 0) ∨ ∃ b o c, v = .slice (some ⟨b, o, none⟩) n c ∧ n ≤ c ∧ ∀ i, i < n → I ⟨b, o + i, none⟩ = some (.string (s i)) := by
  cases h with
  | data h =>
    cases h with
    | lstN e f => exact .inl ⟨rfl, _, rfl⟩
    | lst e n f b off c g hc hl hI h1 h =>
      refine .inr ⟨b, off, c, rfl, hc, fun i hi => ?_⟩
      have hd := h i 0 _ hi (by rw [hf i hi]; rfl)
      have hs : g i 0 = .string (s i) := by generalize g i 0 = u at hd; cases hd; rfl
      have := hI i 0 hi (by decide)
      rw [hs] at this
      simpa using this

/-- A variable that is told as a row of integers is that table. -/
theorem tab_of {P : Program} {gl : Nat → IV} {cs : List Ces} {w : World} {I : Imm} {X : Nat → Prop} {β : Beta} {σ : Nat → Sig} (m : MemR gl cs w I X β σ) {name : String} {g : Nat} {k : IntKind} {zs : List Int} (hg : P.globalNamed name = some g)
    (h : gl g = .vptr zs.length 1 (fun _ => zs.map fun z => .int k z) 0 0) (hz : 0 < zs.length) : Go.Lib.TabIs P w name k zs := by
  obtain ⟨arr, el, mm, h1, h2⟩ := m.gz g _ _ _ _ _ h (by decide) hz
  have hd := m.glo g
  rw [h] at hd
  generalize hv : Value.pointer (some ⟨g, 0, none⟩) = v at hd
  cases hd with
  | vptr e n f i j b off gg hi hl hI h1' hD =>
    simp at hv
    obtain ⟨rfl, hoff⟩ := hv
    subst hoff
    unfold Go.Lib.TabIs World.var?
    rw [hg]
    simp only [Option.bind_some, h1]
    congr 1
    apply Array.ext
    · simp [h2]
    · intro j hj hj'
      have hj2 : j < zs.length := by simpa using hj'
      have hx := m.im _ _ (hI 0 j (by decide) hj2)
      have hd := hD 0 j (.int k zs[j]) (by decide) (by simp [hj2])
      have hs : gg 0 j = .int k zs[j] := by generalize gg 0 j = u at hd; cases hd; rfl
      rw [hs] at hx
      simp [World.cell?, h1] at hx
      rw [Array.getElem?_eq_getElem hj] at hx
      simpa using hx
end Go.Proofs.YtllmejkmogepjaaDoor.Ix

/- The shelf's contracts at this seat, laid in plain words. Written by shelf.py. -/
namespace Go.Proofs.YtllmejkmogepjaaDoor.Ix
open Go.Proofs Go.Shelf
def laysItoa_ren : Go.Shelf.Ren := ⟨fun | 171 => 109 | 243 => 119 | 246 => 123 | 283 => 126 | 284 => 127 | 285 => 128 | 286 => 129 | 129 => 131 | 317 => 130 | 318 => 132 | 319 => 133 | 320 => 134 | 337 => 135 | 338 => 136 | n => n, fun | 3 => 3 | 9 => 9 | 2 => 2 | 4 => 4 | 171 => 180 | 0 => 0 | 53 => 181 | 37 => 158 | 5 => 5 | 173 => 184 | 212 => 187 | 51 => 188 | 20 => 20 | 213 => 189 | 46 => 191 | 232 => 194 | 233 => 195 | n => n, fun | 17 => 2 | 18 => 3 | 19 => 4 | n => n⟩
theorem laysItoa : Go.Proofs.LaysM.n171 Tryd.prog laysItoa_ren := {
  mixed := by kernel_rfl
  f129 := Tryd.func131.trans (congrArg some (by kernel_rfl))
  f171 := Tryd.func109.trans (congrArg some (by kernel_rfl))
  f243 := Tryd.func119.trans (congrArg some (by kernel_rfl))
  f246 := Tryd.func123.trans (congrArg some (by kernel_rfl))
  f283 := Tryd.func126.trans (congrArg some (by kernel_rfl))
  f284 := Tryd.func127.trans (congrArg some (by kernel_rfl))
  f285 := Tryd.func128.trans (congrArg some (by kernel_rfl))
  f286 := Tryd.func129.trans (congrArg some (by kernel_rfl))
  f317 := Tryd.func130.trans (congrArg some (by kernel_rfl))
  f318 := Tryd.func132.trans (congrArg some (by kernel_rfl))
  f319 := Tryd.func133.trans (congrArg some (by kernel_rfl))
  f320 := Tryd.func134.trans (congrArg some (by kernel_rfl))
  f337 := Tryd.func135.trans (congrArg some (by kernel_rfl))
  f338 := Tryd.func136.trans (congrArg some (by kernel_rfl))
  t0 := Tryd.underlying0
  a0 := Tryd.isAgg0
  z0 := Tryd.sizeOf0
  v0 := Tryd.zeroValue0
  t2 := Tryd.underlying2
  a2 := Tryd.isAgg2
  z2 := Tryd.sizeOf2
  v2 := Tryd.zeroValue2
  t3 := Tryd.underlying3
  a3 := Tryd.isAgg3
  z3 := Tryd.sizeOf3
  v3 := Tryd.zeroValue3
  t4 := Tryd.underlying4
  a4 := Tryd.isAgg4
  z4 := Tryd.sizeOf4
  v4 := Tryd.zeroValue4
  t5 := Tryd.underlying5
  a5 := Tryd.isAgg5
  z5 := Tryd.sizeOf5
  v5 := Tryd.zeroValue5
  t9 := Tryd.underlying9
  a9 := Tryd.isAgg9
  z9 := Tryd.sizeOf9
  v9 := Tryd.zeroValue9
  t20 := Tryd.underlying20
  a20 := Tryd.isAgg20
  z20 := Tryd.sizeOf20
  v20 := Tryd.zeroValue20
  t37 := Tryd.underlying158
  a37 := Tryd.isAgg158
  z37 := Tryd.sizeOf158
  v37 := Tryd.zeroValue158
  t46 := Tryd.underlying191
  a46 := Tryd.isAgg191
  z46 := Tryd.sizeOf191
  v46 := Tryd.zeroValue191
  t51 := Tryd.underlying188
  a51 := Tryd.isAgg188
  z51 := Tryd.sizeOf188
  v51 := Tryd.zeroValue188
  t53 := Tryd.underlying181
  a53 := Tryd.isAgg181
  z53 := Tryd.sizeOf181
  v53 := Tryd.zeroValue181
  t171 := Tryd.underlying180
  a171 := Tryd.isAgg180
  z171 := Tryd.sizeOf180
  v171 := Tryd.zeroValue180
  t173 := Tryd.underlying184
  a173 := Tryd.isAgg184
  z173 := Tryd.sizeOf184
  v173 := Tryd.zeroValue184
  t212 := Tryd.underlying187
  a212 := Tryd.isAgg187
  z212 := Tryd.sizeOf187
  v212 := Tryd.zeroValue187
  t213 := Tryd.underlying189
  a213 := Tryd.isAgg189
  z213 := Tryd.sizeOf189
  t232 := Tryd.underlying194
  a232 := Tryd.isAgg194
  z232 := Tryd.sizeOf194
  v232 := Tryd.zeroValue194
  t233 := Tryd.underlying195
  a233 := Tryd.isAgg195
  z233 := Tryd.sizeOf195
  v233 := Tryd.zeroValue195
  g17 := by kernel_rfl
  g18 := by kernel_rfl
  g19 := by kernel_rfl
  i0 := by kernel_rfl
  i2 := by kernel_rfl
  i3 := by kernel_rfl
  i4 := by kernel_rfl
  i5 := by kernel_rfl
  i9 := by kernel_rfl
  i20 := by kernel_rfl
  i37 := by kernel_rfl
  i46 := by kernel_rfl
  i51 := by kernel_rfl
  i53 := by kernel_rfl
  i171 := by kernel_rfl
  i173 := by kernel_rfl
  i212 := by kernel_rfl
  i232 := by kernel_rfl
  i233 := by kernel_rfl
  m17 := by kernel_rfl
  m18 := by kernel_rfl
  m19 := by kernel_rfl }

def laysJoin_ren : Go.Shelf.Ren := ⟨fun | 156 => 107 | 165 => 116 | 166 => 117 | 169 => 118 | 240 => 121 | 241 => 122 | 276 => 124 | 277 => 125 | n => n, fun | 31 => 156 | 9 => 9 | 3 => 3 | 4 => 4 | 0 => 0 | 20 => 20 | 72 => 167 | 76 => 171 | 70 => 165 | 37 => 158 | 75 => 170 | 127 => 175 | 164 => 177 | 5 => 5 | 80 => 173 | n => n, fun | n => n⟩
theorem laysJoin : Go.Proofs.Lays.n156 Tryd.prog laysJoin_ren := {
  mixed := by kernel_rfl
  f156 := Tryd.func107.trans (congrArg some (by kernel_rfl))
  f165 := Tryd.func116.trans (congrArg some (by kernel_rfl))
  f166 := Tryd.func117.trans (congrArg some (by kernel_rfl))
  f169 := Tryd.func118.trans (congrArg some (by kernel_rfl))
  f240 := Tryd.func121.trans (congrArg some (by kernel_rfl))
  f241 := Tryd.func122.trans (congrArg some (by kernel_rfl))
  f276 := Tryd.func124.trans (congrArg some (by kernel_rfl))
  f277 := Tryd.func125.trans (congrArg some (by kernel_rfl))
  t0 := Tryd.underlying0
  a0 := Tryd.isAgg0
  z0 := Tryd.sizeOf0
  v0 := Tryd.zeroValue0
  t3 := Tryd.underlying3
  a3 := Tryd.isAgg3
  z3 := Tryd.sizeOf3
  v3 := Tryd.zeroValue3
  t4 := Tryd.underlying4
  a4 := Tryd.isAgg4
  z4 := Tryd.sizeOf4
  v4 := Tryd.zeroValue4
  t9 := Tryd.underlying9
  a9 := Tryd.isAgg9
  z9 := Tryd.sizeOf9
  v9 := Tryd.zeroValue9
  t20 := Tryd.underlying20
  a20 := Tryd.isAgg20
  z20 := Tryd.sizeOf20
  v20 := Tryd.zeroValue20
  t31 := Tryd.underlying156
  a31 := Tryd.isAgg156
  z31 := Tryd.sizeOf156
  v31 := Tryd.zeroValue156
  t37 := Tryd.underlying158
  a37 := Tryd.isAgg158
  z37 := Tryd.sizeOf158
  v37 := Tryd.zeroValue158
  t70 := Tryd.underlying165
  a70 := Tryd.isAgg165
  z70 := Tryd.sizeOf165
  v70 := Tryd.zeroValue165
  t72 := Tryd.underlying167
  a72 := Tryd.isAgg167
  z72 := Tryd.sizeOf167
  v72 := Tryd.zeroValue167
  t75 := Tryd.underlying170
  a75 := Tryd.isAgg170
  z75 := Tryd.sizeOf170
  v75 := Tryd.zeroValue170
  t76 := Tryd.underlying171
  a76 := Tryd.isAgg171
  z76 := Tryd.sizeOf171
  v76 := Tryd.zeroValue171
  t127 := Tryd.underlying175
  a127 := Tryd.isAgg175
  z127 := Tryd.sizeOf175
  v127 := Tryd.zeroValue175
  t164 := Tryd.underlying177
  a164 := Tryd.isAgg177
  z164 := Tryd.sizeOf177
  v164 := Tryd.zeroValue177 }

theorem extraJoin : Builder.Extra Tryd.prog laysJoin_ren := {
  sizeBuilder := by kernel_rfl
  liesBuilder := by kernel_rfl
  t5 := Tryd.underlying5
  a5 := Tryd.isAgg5
  z5 := Tryd.sizeOf5
  v5 := Tryd.zeroValue5
  infoByte := by kernel_rfl
  cellsByte := by kernel_rfl
  sizeByte := by kernel_rfl
  neB5 := by decide }
end Go.Proofs.YtllmejkmogepjaaDoor.Ix

/-
  St1: contracts about texts: numerals and joined strings out of the library, a line, the text of a blade.
-/
namespace Go.Proofs.YtllmejkmogepjaaDoor.Ix
open Go.Proofs
set_option maxRecDepth 100000
set_option linter.unusedVariables false
set_option linter.unusedSimpArgs false
variable {gl : Nat → IV}

/-- The table of the powers of ten, as it lies. -/
noncomputable abbrev powI : IV := .vptr Go.Lib.pow10Tab.length 1 (fun _ => Go.Lib.pow10Tab.map fun z => .int .u64 z) 0 0
theorem gPow : prog.globalNamed "internal/strconv.uint64pow10" = some g_internal_strconv_uint64pow10 := by kernel_rfl

theorem one_arg {vals : Array Value} (h : 1 = vals.size) : ∃ v, vals = #[v] := by
  rcases vals with ⟨l⟩
  match l, h with
  | [v], _ => exact ⟨v, rfl⟩
theorem two_args {vals : Array Value} (h : 2 = vals.size) : ∃ v u, vals = #[v, u] := by
  rcases vals with ⟨l⟩
  match l, h with
  | [v, u], _ => exact ⟨v, u, rfl⟩

theorem c_Itoa (up : List Ces) (hg : gl g_internal_strconv_uint64pow10 = powI) (n : Int) (hn : i64 n) : Cs gl n_strconv_Itoa up [.int .i64 n] (.str (bytesS (Go.Lib.itoa n))) up := by
  refine comp_of_below h_strconv_Itoa rfl rfl fun vals w I X β σ m hl ha => ?_
  obtain ⟨v, rfl⟩ := one_arg hl
  have hv := noSig_int (ha 0 _ rfl)
  have hv : v = .int .i64 n := hv
  subst hv
  refine (Any.strconv_Itoa laysItoa n hn.1 hn.2 w (tab_of m gPow hg (by rw [Go.Lib.pow10Tab_length]; decide))).mono ?_
  rintro e w' ⟨rfl, k, os, rfl⟩
  refine ⟨_, rfl, .str _, rfl, rfl, rfl, by simp [Go.Sort.grow, World.drewN], fun k hk => ?_⟩
  simp only [Go.Sort.grow, World.drewN]
  rw [Array.getElem?_append_left hk]

theorem c_Join (up : List Ces) (n : Nat) (f : Nat → List IV) (s : Nat → List UInt8) (sep : List UInt8) (hf : ∀ i, i < n → f i = [.str (bytesS (s i))]) (hn : n ≤ 1000000) (hl : (Go.Lib.join ((List.range n).map s) sep).length ≤ 140737488355328) :
    Cs gl n_strings_Join up [.lst none 1 n f, .str (bytesS sep)] (.str (bytesS (Go.Lib.join ((List.range n).map s) sep))) up := by
  refine comp_of_below h_strings_Join rfl rfl fun vals w I X β σ m hlen ha => ?_
  obtain ⟨v, u, rfl⟩ := two_args hlen
  have hu : u = .string (bytesS sep) := noSig_str (ha 1 _ rfl)
  subst hu
  rcases noSig_strs (fun i => bytesS (s i)) hf (ha 0 _ rfl) with ⟨rfl, p, hv⟩ | ⟨b, o, c, hv, hc, hI⟩
  · have hv : v = .slice p 0 0 := hv
    subst hv
    refine (Any.strings_Join_none laysJoin extraJoin p 0 (bytesS sep) w).mono ?_
    rintro e w' ⟨rfl, rfl⟩
    exact ⟨_, rfl, .str _, Go.RowKit.Below.refl _ _⟩
  · have hv : v = .slice (some ⟨b, o, none⟩) n c := hv
    subst hv
    by_cases h0 : n = 0
    · subst h0
      refine (Any.strings_Join_none laysJoin extraJoin (some ⟨b, o, none⟩) c (bytesS sep) w).mono ?_
      rintro e w' ⟨rfl, rfl⟩
      exact ⟨_, rfl, .str _, Go.RowKit.Below.refl _ _⟩
    · have hcell : ∀ (j : Nat) x, ((List.range n).map fun i => bytesS (s i))[j]? = some x → w.cell? ⟨b, o + j, none⟩ = some (.string x) := fun j x hx => by
        rw [List.getElem?_map] at hx
        by_cases hj : j < n
        · rw [List.getElem?_range hj] at hx
          cases hx
          exact m.im _ _ (hI j hj)
        · rw [List.getElem?_eq_none (by simp; omega)] at hx; cases hx
      have e : ((List.range n).map fun i => bytesS (s i)).map (fun x => x.data.toList) = (List.range n).map s := by
        rw [List.map_map]
        exact List.map_congr_left fun i _ => bytesS_data (s i)
      have hb : b < w.heap.size := World.block_lt_of_cell? w _ (m.im _ _ (hI 0 (by omega)))
      have hJ := Any.strings_Join laysJoin extraJoin b o c ((List.range n).map fun i => bytesS (s i)) (bytesS sep) w hcell hb (by simp; omega) (by simpa using hc) (by rw [e, bytesS_data]; exact hl)
      rw [e, bytesS_data] at hJ
      have hsz : ((List.range n).map fun i => bytesS (s i)).length = n := by simp
      rw [hsz] at hJ
      refine hJ.mono ?_
      rintro e w' ⟨rfl, bel⟩
      exact ⟨_, rfl, .str _, bel⟩

theorem c_mappedS (up : List Ces) (n : Nat) (hn : n ≤ 1000000) (f : Nat → Int) (φ : Nat → ByteArray) (k : Nat) (hk : ∀ up i, i < n → Cs gl k up [.int .i64 (f i)] (.str (φ i)) up) :
    Cs gl n_rotor_mapped_int_string up [.lst none 1 n fun i => [.int .i64 (f i)], .fn k [] []] (.lst (some 19) 1 n fun i => [.str (φ i)]) up := by
  refine mk h_rotor_mapped_int_string rfl rfl ?_
  conv => whnf
  refine .mk (α := {i : Nat // i ≤ n}) (fun i => ⟨[(10, .int .i64 i.1), (9, .int .i64 n), (8, .lst none 1 n fun i => [.int .i64 (f i)]), (5, .lst (some 19) 1 i.1 fun i => [.str (φ i)]), (1, .fn k [] [])], [], up⟩) (fun i => n - i.1) ⟨0, Nat.zero_le _⟩ ⟨?_, trivial, rfl, rfl⟩ ?_
  · exact ⟨leV_refl _, leV_refl _, leV_refl _, rfl, leV_refl _, trivial⟩
  · rintro ⟨i, hi⟩
    conv => whnf
    split
    · rename_i hb
      have hlt : i < n := by simpa using hb
      conv => whnf
      split
      · conv => whnf
        refine .mk _ _ _ _ _ (leL_refl _) (hk _ i hlt) rfl ?_
        conv => whnf
        split
        · conv => whnf
          refine ⟨⟨i + 1, hlt⟩, ⟨?_, trivial, rfl, rfl⟩, ?_⟩
          · have hw : IntKind.i64.wrap ((i : Int) + 1) = ((i + 1 : Nat) : Int) := by
              rw [wrap_in] <;> omega
            refine ⟨leV_int hw, leV_refl _, leV_refl _, ⟨.inr rfl, rfl, rfl, fun j hj => ?_⟩, leV_refl _, trivial⟩
            show (if j < i then [IV.str (φ j)] else litF 1 [.str (φ i)] (j - i)) = [IV.str (φ j)]
            split
            · rfl
            · have : j = i := by have : j < i + 1 := hj; omega
              subst this; rw [Nat.sub_self]; rfl
          · show n - (i + 1) < n - i
            omega
        · rename_i h2
          have h2' : decide (i + 1 ≤ 1073741824) = false := h2
          simp at h2'; omega
      · rename_i h2; rw [hb] at h2; cases h2
    · rename_i hb
      have : i = n := by simp at hb; omega
      subst this
      conv => whnf
      exact ⟨rfl, rfl⟩

theorem c_line (up : List Ces) (hg : gl g_internal_strconv_uint64pow10 = powI) (w : List UInt8) (n : Nat) (f : Nat → Int) (hn : n ≤ 64) (hw : w.length ≤ 64) (hf : ∀ i, i < n → i64 (f i)) :
    Cs gl n_rotor_line up [.str (bytesS w), .lst none 1 n fun i => [.int .i64 (f i)]] (.str (bytesS (lineS w n f))) up := by
  refine mk h_rotor_line rfl rfl ?_
  have hlen := numsS_len n hf
  let s : Nat → List UInt8 := fun i => if i < 1 then w else Go.Lib.itoa (f (i - 1))
  have hs : (List.range (1 + n)).map s = w :: (List.range n).map fun i => Go.Lib.itoa (f i) := by
    rw [Nat.add_comm 1 n, List.range_succ_eq_map, List.map_cons, List.map_map]
    rfl
  have hj : Go.Lib.join ((List.range (1 + n)).map s) [32] = w ++ numsS f n := by
    rw [hs, Go.Lib.join_cons, numsS_eq]
  have hjl : (Go.Lib.join ((List.range (1 + n)).map s) [32]).length ≤ 10000 := by
    rw [hj, List.length_append]; omega
  have hJ : ∀ up, Cs gl n_strings_Join up [.lst none 1 (1 + n) (appF 1 (litF 1 [.str (bytesS w)]) fun i => [.str (bytesS (Go.Lib.itoa (f i)))]), .str (bytesS [32])] (.str (bytesS (w ++ numsS f n))) up := fun up => by
    rw [← hj]
    refine c_Join up (1 + n) _ s [32] (fun i hi => ?_) (by omega) (by omega)
    show (if i < 1 then litF 1 [.str (bytesS w)] i else [.str (bytesS (Go.Lib.itoa (f (i - 1))))]) = [.str (bytesS (if i < 1 then w else Go.Lib.itoa (f (i - 1))))]
    split
    · rename_i h
      have : i = 0 := by omega
      subst this
      rfl
    · rfl
  conv => whnf
  refine .mk _ _ _ _ _ (leL_refl _) (c_mappedS _ n (by omega) f (fun i => bytesS (Go.Lib.itoa (f i))) n_strconv_Itoa (fun up i hi => c_Itoa up hg (f i) (hf i hi))) rfl ?_
  conv => whnf
  split
  rotate_left
  · rename_i h
    have h' : decide (1 + n ≤ 1073741824) = false := h
    simp at h' <;> omega
  conv => whnf
  refine .mk _ _ _ _ _ (leL_refl _) (hJ _) rfl ?_
  conv => whnf
  split
  · conv => whnf
    refine ⟨?_, rfl⟩
    show IV.str (bytesS (w ++ numsS f n) ++ bytesS [10]) = _
    rw [bytesS_append]; rfl
  · rename_i h
    have h : decide ((bytesS (w ++ numsS f n)).size + (bytesS [10]).size ≤ 1099511627776) = false := h
    rw [bytesS_size, bytesS_size, List.length_append] at h
    simp at h; omega

/-- The text of a blade, or the error. -/
def printR (b : Bl) : IV := bif b.err != 0 then .tup [.str (bytesS []), .int .i64 b.err] else .tup [.str (bytesS b.text), .int .i64 0]

theorem c_Print (up : List Ces) (hg : gl g_internal_strconv_uint64pow10 = powI) (b : Bl) : Cs gl n_rotor_Print up [b.iv] (printR b) up := by
  refine mk h_rotor_Print rfl rfl ?_
  unfold printR
  conv => whnf
  refine .mk _ _ _ _ _ (leL_refl _) (c_CheckBlade _ _ _ _ _ _ _ _ _ _) rfl ?_
  conv => whnf
  split
  · rename_i h
    have h : (b.err != 0) = true := h
    conv => whnf
    refine ⟨?_, rfl⟩
    rw [h]; rfl
  · rename_i h
    have h : (b.err != 0) = false := h
    rw [h, cond_false]
    obtain ⟨hnd, hn1, hn2, ok⟩ := Bl.good (b := b) (f := ⟨1, 1, 0⟩) (by simpa using h) (by decide)
    have ok0 := ok 0 (by omega)
    have hl1 := ok0.n1
    clear h
    let F : Nat → List IV := fun j => [.int .i64 (b.pol j)]
    conv => whnf
    refine .mk (α := {k : Nat // k ≤ b.nl}) (fun k => ⟨[(20, .int .i64 k.1), (19, .int .i64 b.nl), (18, .lst none 1 b.nl fun i => [.int .i64 (b.lf i)]), (5, .lst (some 34) 1 (2 * k.1) F), (1, .ptr 0 1 0)],
      [(1, [.lst none 1 b.nl fun i => [.int .i64 (b.lf i)], .lst none 1 b.nd fun i => [.int .i64 (b.df i)], .lst none 4 b.nr fun i => [.int .i64 (b.r1 i), .int .i64 (b.r2 i), .int .i64 (b.r3 i), .int .i64 (b.r4 i)]])], up⟩) (fun k => b.nl - k.1) ⟨0, Nat.zero_le _⟩ ⟨?_, ?_, rfl, rfl⟩ ?_
    · exact ⟨leV_refl _, leV_refl _, leV_refl _, rfl, leV_refl _, trivial⟩
    · exact ⟨leL_refl _, trivial⟩
    rintro ⟨k, hk⟩
    have hw : w64 ((k : Int) + 1) = ((k + 1 : Nat) : Int) := by rw [w64, wrap_in] <;> omega
    conv => whnf
    split
    · rename_i h
      have h : decide ((k : Int) < b.nl) = true := h
      have hlt : k < b.nl := by simpa using h
      conv => whnf
      split
      rotate_left
      · rename_i h
        have h' : decide ((k : Int) < b.nl) = false := h
        simp at h' <;> omega
      conv => whnf
      split
      rotate_left
      · rename_i h
        have h' : decide ((k : Int) < b.nd) = false := h
        simp at h' <;> omega
      conv => whnf
      split
      rotate_left
      · rename_i h
        have h' : decide (2 * k + 2 ≤ 1073741824) = false := h
        simp at h' <;> omega
      conv => whnf
      refine ⟨⟨k + 1, hlt⟩, ⟨⟨leV_int hw, leV_refl _, leV_refl _, ⟨.inr rfl, rfl, rfl, fun j hj => ?_⟩, leV_refl _, trivial⟩, ⟨leL_refl _, trivial⟩, rfl, rfl⟩, (by show b.nl - (k + 1) < b.nl - k; omega)⟩
      have hj : j < 2 * k + 2 := hj
      show (if j < 2 * k then F j else litF 1 [.int .i64 (b.lf k), .int .i64 (b.df k)] (j - 2 * k)) = F j
      split
      · rfl
      · rcases (show j = 2 * k ∨ j = 2 * k + 1 by omega) with e | e
        · subst e
          rw [Nat.sub_self]
          show [IV.int .i64 (b.lf k)] = [.int .i64 (b.pol (2 * k))]
          unfold Bl.pol
          rw [if_pos (by omega), show 2 * k / 2 = k by omega]
        · subst e
          rw [show 2 * k + 1 - 2 * k = 1 by omega]
          show [IV.int .i64 (b.df k)] = [.int .i64 (b.pol (2 * k + 1))]
          unfold Bl.pol
          rw [if_neg (by omega), show (2 * k + 1) / 2 = k by omega]
    · rename_i h
      have h : decide ((k : Int) < b.nl) = false := h
      have : k = b.nl := by simp at h; omega
      subst this
      have hpol : ∀ i, i < 2 * b.nl → i64 (b.pol i) := fun i hi => by
        have h1 := ok0.lf0 (i / 2) (by omega)
        have h2 := ok0.df0 (i / 2) (by omega)
        unfold Bl.pol i64
        split <;> omega
      have hpl := numsS_len (2 * b.nl) hpol
      conv => whnf
      refine .mk _ _ _ _ _ (leL_refl _) (c_line _ hg polarW (2 * b.nl) b.pol (by omega) (by decide) hpol) rfl ?_
      conv => whnf
      let R : Nat → List IV := fun i => [.int .i64 (b.r1 i), .int .i64 (b.r2 i), .int .i64 (b.r3 i), .int .i64 (b.r4 i)]
      refine .mk (α := {k : Nat // k ≤ b.nr}) (fun k => ⟨[(41, .int .i64 k.1), (40, .int .i64 b.nr), (39, .lst none 4 b.nr R), (8, .str (bytesS (lineS polarW (2 * b.nl) b.pol ++ ringsS b k.1)))], [], up⟩) (fun k => b.nr - k.1) ⟨0, Nat.zero_le _⟩ ⟨?_, trivial, rfl, rfl⟩ ?_
      · refine ⟨leV_refl _, leV_refl _, leV_refl _, ?_, trivial⟩
        show leV _ (.str (bytesS (lineS polarW (2 * b.nl) b.pol ++ [])))
        rw [List.append_nil]
        exact leV_refl _
      rintro ⟨k, hk⟩
      have hw : w64 ((k : Int) + 1) = ((k + 1 : Nat) : Int) := by rw [w64, wrap_in] <;> omega
      have hrl := ringsS_len k fun i hi j => ring_i64 (ok i (by omega)) j
      have hT : (lineS polarW (2 * b.nl) b.pol ++ ringsS b k).length ≤ 4096 := by
        simp only [List.length_append, lineS, List.length_cons, List.length_nil]
        omega
      conv => whnf
      split
      · rename_i h
        have h : decide ((k : Int) < b.nr) = true := h
        have hlt : k < b.nr := by simpa using h
        have hrk := numsS_len (f := b.ring k) 4 fun i hi => ring_i64 (ok k hlt) i
        have hline : ∀ up, Cs gl n_rotor_line up [.str (bytesS ringW), .lst none 1 4 (litF 1 [.int .i64 (b.r1 k), .int .i64 (b.r2 k), .int .i64 (b.r3 k), .int .i64 (b.r4 k)])] (.str (bytesS (lineS ringW 4 (b.ring k)))) up := fun up => by
          refine Comp.le ?_ (c_line up hg ringW 4 (b.ring k) (by decide) (by decide) fun i hi => ring_i64 (ok k hlt) i)
          refine ⟨leV_refl _, ⟨.inl rfl, rfl, rfl, fun i hi => ?_⟩, trivial⟩
          match i, hi with
          | 0, _ => rfl
          | 1, _ => rfl
          | 2, _ => rfl
          | 3, _ => rfl
        conv => whnf
        split
        rotate_left
        · rename_i h
          have h' : decide ((k : Int) < b.nr) = false := h
          simp at h' <;> omega
        conv => whnf
        refine .mk _ _ _ _ _ (leL_refl _) (hline _) rfl ?_
        conv => whnf
        split
        · conv => whnf
          refine ⟨⟨k + 1, hlt⟩, ⟨⟨leV_int hw, leV_refl _, leV_refl _, ?_, trivial⟩, trivial, rfl, rfl⟩, (by show b.nr - (k + 1) < b.nr - k; omega)⟩
          show leV (.str (bytesS (lineS polarW (2 * b.nl) b.pol ++ ringsS b k) ++ bytesS (lineS ringW 4 (b.ring k)))) _
          rw [bytesS_append, List.append_assoc]
          exact leV_refl _
        · rename_i h
          have h : decide ((bytesS (lineS polarW (2 * b.nl) b.pol ++ ringsS b k)).size + (bytesS (lineS ringW 4 (b.ring k))).size ≤ 1099511627776) = false := h
          rw [bytesS_size, bytesS_size] at h
          have h := of_decide_eq_false h
          simp only [lineS, List.length_append, List.length_cons, List.length_nil] at h hT
          omega
      · rename_i h
        have h : decide ((k : Int) < b.nr) = false := h
        have : k = b.nr := by simp at h; omega
        subst this
        conv => whnf
        split
        · rename_i h
          have h : decide (((bytesS (lineS polarW (2 * b.nl) b.pol ++ ringsS b b.nr)).size : Int) > 4096) = true := h
          rw [bytesS_size] at h
          simp only [decide_eq_true_eq] at h
          omega
        · conv => whnf
          exact ⟨rfl, rfl⟩
end Go.Proofs.YtllmejkmogepjaaDoor.Ix

/-
  Ro6: contracts of the functions of the package rotor, the sixth part: loads and pairs.
-/
namespace Go.Proofs.YtllmejkmogepjaaDoor.Ix
open Go.Proofs
set_option maxRecDepth 100000
set_option linter.unusedVariables false
set_option linter.unusedSimpArgs false
variable {gl : Nat → IV}

def loadS (a b c : Int) : Int := orE (withinS a (-1000000) 1000000) (orE (withinS b (-1000000) 1000000) (withinS c (-1000000) 1000000))

theorem c_checkLoads (up : List Ces) (a b c : Int) : Cs gl n_rotor_checkLoads up [.agg [.int .i64 a, .int .i64 b, .int .i64 c]] (.int .i64 (loadS a b c)) up := by
  refine mk h_rotor_checkLoads rfl rfl ?_
  conv => whnf
  refine .mk _ _ _ _ _ ?_ (c_mapped _ 3 (by decide) (fun i => [a, b, c].getD i 0) (fun i => withinS ([a, b, c].getD i 0) (-1000000) 1000000) n_rotor_checkLoads_1 (fun up i _ => c_checkLoads1 up _)) rfl ?_
  · refine ⟨⟨.inl rfl, rfl, rfl, fun i hi => ?_⟩, rfl, trivial⟩
    match i, hi with
    | 0, _ => rfl
    | 1, _ => rfl
    | 2, _ => rfl
  conv => whnf
  refine .mk _ _ _ _ _ (leL_refl _) (c_f3 _ _ _ _ _ rfl rfl rfl) rfl ?_
  conv => whnf
  exact ⟨rfl, rfl⟩

theorem loadS_ok {a b c : Int} (h : loadS a b c = 0) : (-1000000 ≤ a ∧ a ≤ 1000000) ∧ (-1000000 ≤ b ∧ b ≤ 1000000) ∧ (-1000000 ≤ c ∧ c ≤ 1000000) := by
  unfold loadS at h
  simpa only [orE_zero, withinS_zero] using h

/-- The sum and the component, or the error. -/
def splitR (a b c : Int) : IV :=
  bif loadS a b c != 0 then .tup [.int .i64 0, .agg [.int .i64 0, .int .i64 0], .int .i64 (loadS a b c)]
  else .tup [.int .i64 (a + b + c), .agg [.int .i64 (a - c), .int .i64 (b - c)], .int .i64 0]

theorem c_Split (up : List Ces) (a b c : Int) : Cs gl n_rotor_Split up [.agg [.int .i64 a, .int .i64 b, .int .i64 c]] (splitR a b c) up := by
  refine mk h_rotor_Split rfl rfl ?_
  unfold splitR
  conv => whnf
  refine .mk _ _ _ _ _ (leL_refl _) (c_checkLoads _ _ _ _) rfl ?_
  conv => whnf
  split
  · rename_i h
    have h : (loadS a b c != 0) = true := h
    conv => whnf
    refine ⟨?_, rfl⟩
    rw [h]; rfl
  · rename_i h
    have h : (loadS a b c != 0) = false := h
    rw [h, cond_false]
    obtain ⟨h1, h2, h3⟩ := loadS_ok (show loadS a b c = 0 by simpa using h)
    have e1 : w64 (w64 (a + b) + c) = a + b + c := by
      have : w64 (a + b) = a + b := by rw [w64, wrap_in] <;> omega
      rw [this, w64, wrap_in] <;> omega
    have e2 : w64 (a - c) = a - c := by rw [w64, wrap_in] <;> omega
    have e3 : w64 (b - c) = b - c := by rw [w64, wrap_in] <;> omega
    conv => whnf
    split
    · rename_i g
      have g : (a == 0 && (b == 0 && (c == 0 && true))) = true := g
      simp at g
      obtain ⟨rfl, rfl, rfl⟩ := g
      conv => whnf
      exact ⟨rfl, rfl⟩
    · conv => whnf
      refine .mk 10 (by kernel_rfl) ?_
      conv => whnf
      first | refine CALLQ.mk _ _ _ (leL_refl _) (c_component _ _ _ _) rfl ?_ | refine CALL0.mk _ _ _ _ _ (leL_refl _) (c_component _ _ _ _) rfl ?_
      conv => whnf
      refine ⟨?_, rfl⟩
      show IV.tup [.int .i64 (w64 (w64 (a + b) + c)), .agg [.int .i64 (w64 (a - c)), .int .i64 (w64 (b - c))], .int .i64 0] = _
      rw [e1, e2, e3]

def pairS (a b : Int) : Int := orE (withinS a (-999999999) 999999999) (withinS b (-999999999) 999999999)

theorem c_PairCheck (up : List Ces) (a b : Int) : Cs gl n_rotor_Pair_check up [.agg [.int .i64 a, .int .i64 b]] (.int .i64 (pairS a b)) up := by
  refine mk h_rotor_Pair_check rfl rfl ?_
  conv => whnf
  refine .mk 8 (by kernel_rfl) ?_
  conv => whnf
  first | refine CALLQ.mk _ _ _ (leL_refl _) (c_within _ _ _ _) rfl ?_ | refine CALL0.mk _ _ _ _ _ (leL_refl _) (c_within _ _ _ _) rfl ?_
  conv => whnf
  first | refine CALLQ.mk _ _ _ (leL_refl _) (c_within _ _ _ _) rfl ?_ | refine CALL0.mk _ _ _ _ _ (leL_refl _) (c_within _ _ _ _) rfl ?_
  conv => whnf
  first | refine CALLQ.mk _ _ _ (leL_refl _) (c_f2 _ _ _ _ rfl rfl) rfl ?_ | refine CALL0.mk _ _ _ _ _ (leL_refl _) (c_f2 _ _ _ _ rfl rfl) rfl ?_
  conv => whnf
  exact ⟨rfl, rfl⟩

theorem pairS_ok {a b : Int} (h : pairS a b = 0) : (-999999999 ≤ a ∧ a ≤ 999999999) ∧ (-999999999 ≤ b ∧ b ≤ 999999999) := by
  unfold pairS at h
  simpa only [orE_zero, withinS_zero] using h

theorem mulA {x y A B : Int} (h1 : -A ≤ x ∧ x ≤ A) (h3 : -B ≤ y ∧ y ≤ B) : -(A * B) ≤ x * y ∧ x * y ≤ A * B := by
  by_cases hx : 0 ≤ x
  · by_cases hy : 0 ≤ y
    · have := mulB hx h1.2 hy h3.2; omega
    · have := mulB (y := -y) hx h1.2 (by omega) (show -y ≤ B by omega)
      rw [Int.mul_neg] at this; omega
  · by_cases hy : 0 ≤ y
    · have := mulB (x := -x) (by omega) (show -x ≤ A by omega) hy h3.2
      rw [Int.neg_mul] at this; omega
    · have := mulB (x := -x) (y := -y) (by omega) (show -x ≤ A by omega) (by omega) (show -y ≤ B by omega)
      rw [Int.neg_mul_neg] at this; omega

/-- The norm, or the error. -/
def normR (a b : Int) : IV :=
  bif pairS a b != 0 then .tup [.int .i64 0, .int .i64 (pairS a b)] else .tup [.int .i64 (a * a - a * b + b * b), .int .i64 0]

theorem c_Norm (up : List Ces) (a b : Int) : Cs gl n_rotor_Norm up [.agg [.int .i64 a, .int .i64 b]] (normR a b) up := by
  refine mk h_rotor_Norm rfl rfl ?_
  unfold normR
  conv => whnf
  refine .mk _ _ _ _ _ (leL_refl _) (c_PairCheck _ _ _) rfl ?_
  conv => whnf
  split
  · rename_i h
    have h : (pairS a b != 0) = true := h
    conv => whnf
    refine ⟨?_, rfl⟩
    rw [h]; rfl
  · rename_i h
    have h : (pairS a b != 0) = false := h
    rw [h, cond_false]
    obtain ⟨h1, h2⟩ := pairS_ok (show pairS a b = 0 by simpa using h)
    have b1 := mulA (A := 999999999) (B := 999999999) h1 h1
    have b2 := mulA (A := 999999999) (B := 999999999) h1 h2
    have b3 := mulA (A := 999999999) (B := 999999999) h2 h2
    have e1 : w64 (a * a) = a * a := by rw [w64, wrap_in] <;> omega
    have e2 : w64 (a * b) = a * b := by rw [w64, wrap_in] <;> omega
    have e3 : w64 (b * b) = b * b := by rw [w64, wrap_in] <;> omega
    have e4 : w64 (a * a - a * b) = a * a - a * b := by rw [w64, wrap_in] <;> omega
    have e5 : w64 (a * a - a * b + b * b) = a * a - a * b + b * b := by rw [w64, wrap_in] <;> omega
    conv => whnf
    refine ⟨?_, rfl⟩
    show IV.tup [.int .i64 (w64 (w64 (w64 (a * a) - w64 (a * b)) + w64 (b * b))), .int .i64 0] = _
    rw [e1, e2, e3, e4, e5]
end Go.Proofs.YtllmejkmogepjaaDoor.Ix

/-
  Ro7: contracts of the functions of the package rotor, the seventh part: products and turns of pairs, loads merged, records.
-/
namespace Go.Proofs.YtllmejkmogepjaaDoor.Ix
open Go.Proofs
set_option maxRecDepth 100000
set_option linter.unusedVariables false
set_option linter.unusedSimpArgs false
variable {gl : Nat → IV}

/-- The table of the powers of w, as it lies. -/
abbrev rootsI : IV := .vptr 6 1 (fun _ => [.int .i64 1, .int .i64 0, .int .i64 0, .int .i64 1, .int .i64 (-1), .int .i64 (-1)]) 0 0

def timesP (a b c d : Int) : Int × Int := (a * c - b * d, a * d + b * c - b * d)

theorem c_times (up : List Ces) (a b c d : Int) (ha : -999999999 ≤ a ∧ a ≤ 999999999) (hb : -999999999 ≤ b ∧ b ≤ 999999999) (hc : -999999999 ≤ c ∧ c ≤ 999999999) (hd : -999999999 ≤ d ∧ d ≤ 999999999) :
    Cs gl n_rotor_Pair_times up [.agg [.int .i64 a, .int .i64 b], .agg [.int .i64 c, .int .i64 d]] (.agg [.int .i64 (timesP a b c d).1, .int .i64 (timesP a b c d).2]) up := by
  refine mk h_rotor_Pair_times rfl rfl ?_
  have b1 := mulA (A := 999999999) (B := 999999999) ha hc
  have b2 := mulA (A := 999999999) (B := 999999999) hb hd
  have b3 := mulA (A := 999999999) (B := 999999999) ha hd
  have b4 := mulA (A := 999999999) (B := 999999999) hb hc
  have e1 : w64 (a * c) = a * c := by rw [w64, wrap_in] <;> omega
  have e2 : w64 (b * d) = b * d := by rw [w64, wrap_in] <;> omega
  have e3 : w64 (a * d) = a * d := by rw [w64, wrap_in] <;> omega
  have e4 : w64 (b * c) = b * c := by rw [w64, wrap_in] <;> omega
  have e5 : w64 (a * c - b * d) = a * c - b * d := by rw [w64, wrap_in] <;> omega
  have e6 : w64 (a * d + b * c) = a * d + b * c := by rw [w64, wrap_in] <;> omega
  have e7 : w64 (a * d + b * c - b * d) = a * d + b * c - b * d := by rw [w64, wrap_in] <;> omega
  conv => whnf
  refine ⟨?_, rfl⟩
  show IV.agg [.int .i64 (w64 (w64 (a * c) - w64 (b * d))), .int .i64 (w64 (w64 (w64 (a * d) + w64 (b * c)) - w64 (b * d)))] = _
  rw [e1, e2, e3, e4, e5, e6, e7]; rfl

/-- How many thirds, from 0 to 2. -/
def thirdS (n : Int) : Int := (n.tmod 3 + 3).tmod 3
/-- A pair turned. -/
def turnP (a b n : Int) : Int × Int := if thirdS n = 0 then (a, b) else if thirdS n = 1 then (-b, a - b) else (b - a, -a)

theorem thirdS_cases (n : Int) : thirdS n = 0 ∨ thirdS n = 1 ∨ thirdS n = 2 := by
  unfold thirdS
  have h1 := Int.tmod_lt_of_pos n (show (0 : Int) < 3 by decide)
  have h2 : -3 < n.tmod 3 := by
    have := Int.neg_le_neg (Int.le_of_lt (Int.tmod_lt_of_pos (-n) (show (0 : Int) < 3 by decide)))
    have h3 := Int.tmod_lt_of_pos (-n) (show (0 : Int) < 3 by decide)
    rw [Int.neg_tmod] at h3
    omega
  rw [Int.tmod_eq_emod_of_nonneg (by omega)]
  omega

theorem evo_gl {P : Program} {T : Nat → Ty} {gl : Nat → IV} {nt : Nat} {vis : Nat → List IV → Nat → (Nat → List IV) → Prop} {yld : Option (Nat × Nat × (Nat → List IV))} {ds : Option (List Deferred)} {S : St} {n : Nat} {v : IV} (h : gl n = v) : evo ⟨P, T, gl, nt, vis, yld, ds⟩ S (.global n) = v := h

theorem c_turned (up : List Ces) (hg : gl g_rotor_roots = rootsI) (a b n : Int) (ha : -999999999 ≤ a ∧ a ≤ 999999999) (hb : -999999999 ≤ b ∧ b ≤ 999999999) :
    Cs gl n_rotor_Pair_turned up [.agg [.int .i64 a, .int .i64 b], .int .i64 n] (.agg [.int .i64 (turnP a b n).1, .int .i64 (turnP a b n).2]) up := by
  refine mk h_rotor_Pair_turned rfl rfl ?_
  have hw : w64 (n.tmod 3 + 3) = n.tmod 3 + 3 := by
    have h1 := Int.tmod_lt_of_pos n (show (0 : Int) < 3 by decide)
    have h3 := Int.tmod_lt_of_pos (-n) (show (0 : Int) < 3 by decide)
    rw [Int.neg_tmod] at h3
    rw [w64, wrap_in] <;> omega
  have ht : (IntKind.i64.wrap (n.tmod 3 + 3)).tmod 3 = thirdS n := by
    show (w64 (n.tmod 3 + 3)).tmod 3 = _
    rw [hw]; rfl
  conv => whnf
  refine .mk 8 (by kernel_rfl) ?_
  conv => whnf
  rw [ht]
  rcases thirdS_cases n with e | e | e
  · have r : turnP a b n = timesP a b 1 0 := by
      unfold turnP timesP
      rw [if_pos e]; simp
    rw [e, r]
    conv => whnf
    rw [evo_gl hg]
    conv => whnf
    first | refine CALLQ.mk _ _ _ (leL_refl _) (c_times _ _ _ _ _ ha hb (by decide) (by decide)) rfl ?_ | refine CALL0.mk _ _ _ _ _ (leL_refl _) (c_times _ _ _ _ _ ha hb (by decide) (by decide)) rfl ?_
    conv => whnf
    exact ⟨rfl, rfl⟩
  · have r : turnP a b n = timesP a b 0 1 := by
      unfold turnP timesP
      rw [if_neg (by omega), if_pos e]; simp
    rw [e, r]
    conv => whnf
    rw [evo_gl hg]
    conv => whnf
    first | refine CALLQ.mk _ _ _ (leL_refl _) (c_times _ _ _ _ _ ha hb (by decide) (by decide)) rfl ?_ | refine CALL0.mk _ _ _ _ _ (leL_refl _) (c_times _ _ _ _ _ ha hb (by decide) (by decide)) rfl ?_
    conv => whnf
    exact ⟨rfl, rfl⟩
  · have r : turnP a b n = timesP a b (-1) (-1) := by
      unfold turnP timesP
      rw [if_neg (by omega), if_neg (by omega)]; simp; omega
    rw [e, r]
    conv => whnf
    rw [evo_gl hg]
    conv => whnf
    first | refine CALLQ.mk _ _ _ (leL_refl _) (c_times _ _ _ _ _ ha hb (by decide) (by decide)) rfl ?_ | refine CALL0.mk _ _ _ _ _ (leL_refl _) (c_times _ _ _ _ _ ha hb (by decide) (by decide)) rfl ?_
    conv => whnf
    exact ⟨rfl, rfl⟩

/-- A pair turned, or the error. -/
def turnErr (a b n : Int) : Int := orE (pairS a b) (withinS n (-999999999) 999999999)
def turnR (a b n : Int) : IV :=
  bif turnErr a b n != 0 then .tup [.agg [.int .i64 0, .int .i64 0], .int .i64 (turnErr a b n)] else .tup [.agg [.int .i64 (turnP a b n).1, .int .i64 (turnP a b n).2], .int .i64 0]

theorem c_Turn (up : List Ces) (hg : gl g_rotor_roots = rootsI) (a b n : Int) : Cs gl n_rotor_Turn up [.agg [.int .i64 a, .int .i64 b], .int .i64 n] (turnR a b n) up := by
  refine mk h_rotor_Turn rfl rfl ?_
  unfold turnR
  conv => whnf
  refine .mk _ _ _ _ _ (leL_refl _) (c_PairCheck _ _ _) rfl ?_
  conv => whnf
  refine .mk _ _ _ _ _ (leL_refl _) (c_within _ _ _ _) rfl ?_
  conv => whnf
  refine .mk _ _ _ _ _ (leL_refl _) (c_f2 _ _ _ _ rfl rfl) rfl ?_
  conv => whnf
  split
  · rename_i h
    have h : (turnErr a b n != 0) = true := h
    conv => whnf
    refine ⟨?_, rfl⟩
    rw [h]; rfl
  · rename_i h
    have h : (turnErr a b n != 0) = false := h
    rw [h, cond_false]
    have h0 : turnErr a b n = 0 := by simpa using h
    unfold turnErr at h0
    rw [orE_zero] at h0
    obtain ⟨k1, k2⟩ := pairS_ok h0.1
    conv => whnf
    refine .mk _ _ _ _ _ (leL_refl _) (c_turned _ hg _ _ _ k1 k2) rfl ?_
    conv => whnf
    exact ⟨rfl, rfl⟩

/-- The loads with a sum and a component, or the error. -/
def mergeE (s a b : Int) : Int := orE (withinS s (-3000000) 3000000) (pairS a b)
def mergeR (s a b : Int) : IV :=
  bif mergeE s a b != 0 then .tup [.agg [.int .i64 0, .int .i64 0, .int .i64 0], .int .i64 (mergeE s a b)] else
    bif (s - a - b).tmod 3 != 0 then .tup [.agg [.int .i64 0, .int .i64 0, .int .i64 0], .int .i64 30] else
      let t := (s - a - b).tdiv 3
      bif loadS (a + t) (b + t) t != 0 then .tup [.agg [.int .i64 0, .int .i64 0, .int .i64 0], .int .i64 (loadS (a + t) (b + t) t)] else .tup [.agg [.int .i64 (a + t), .int .i64 (b + t), .int .i64 t], .int .i64 0]

theorem c_Merge (up : List Ces) (s a b : Int) : Cs gl n_rotor_Merge up [.int .i64 s, .agg [.int .i64 a, .int .i64 b]] (mergeR s a b) up := by
  refine mk h_rotor_Merge rfl rfl ?_
  unfold mergeR
  conv => whnf
  refine .mk 6 (by kernel_rfl) ?_
  conv => whnf
  first | refine CALLQ.mk _ _ _ (leL_refl _) (c_within _ _ _ _) rfl ?_ | refine CALL0.mk _ _ _ _ _ (leL_refl _) (c_within _ _ _ _) rfl ?_
  conv => whnf
  first | refine CALLQ.mk _ _ _ (leL_refl _) (c_PairCheck _ _ _) rfl ?_ | refine CALL0.mk _ _ _ _ _ (leL_refl _) (c_PairCheck _ _ _) rfl ?_
  conv => whnf
  first | refine CALLQ.mk _ _ _ (leL_refl _) (c_f2 _ _ _ _ rfl rfl) rfl ?_ | refine CALL0.mk _ _ _ _ _ (leL_refl _) (c_f2 _ _ _ _ rfl rfl) rfl ?_
  conv => whnf
  split
  · rename_i h
    have h : (mergeE s a b != 0) = true := h
    conv => whnf
    refine ⟨?_, rfl⟩
    rw [h]; rfl
  · rename_i h
    have h : (mergeE s a b != 0) = false := h
    rw [h, cond_false]
    have h0 : mergeE s a b = 0 := by simpa using h
    unfold mergeE at h0
    rw [orE_zero, withinS_zero] at h0
    obtain ⟨k1, k2⟩ := pairS_ok h0.2
    have e1 : w64 (w64 (s - a) - b) = s - a - b := by
      have : w64 (s - a) = s - a := by rw [w64, wrap_in] <;> omega
      rw [this, w64, wrap_in] <;> omega
    have q1 : -3000000000 ≤ (s - a - b).tdiv 3 ∧ (s - a - b).tdiv 3 ≤ 3000000000 := by
      by_cases hp : 0 ≤ s - a - b
      · rw [Int.tdiv_eq_ediv_of_nonneg hp]; omega
      · have := Int.neg_tdiv (a := s - a - b) (b := 3)
        rw [Int.tdiv_eq_ediv_of_nonneg (show 0 ≤ -(s - a - b) by omega)] at this
        omega
    have e2 : w64 ((s - a - b).tdiv 3) = (s - a - b).tdiv 3 := by rw [w64, wrap_in] <;> omega
    have e3 : w64 (a + (s - a - b).tdiv 3) = a + (s - a - b).tdiv 3 := by rw [w64, wrap_in] <;> omega
    have e4 : w64 (b + (s - a - b).tdiv 3) = b + (s - a - b).tdiv 3 := by rw [w64, wrap_in] <;> omega
    conv => whnf
    split
    · rename_i h
      have h : ((w64 (w64 (s - a) - b)).tmod 3 != 0) = true := h
      rw [e1] at h
      conv => whnf
      refine ⟨?_, rfl⟩
      rw [h]; rfl
    · rename_i h
      have h : ((w64 (w64 (s - a) - b)).tmod 3 != 0) = false := h
      rw [e1] at h
      rw [h, cond_false]
      have hl : ∀ up, Cs gl n_rotor_checkLoads up [.agg [.int .i64 (w64 (a + w64 ((w64 (w64 (s - a) - b)).tdiv 3))), .int .i64 (w64 (b + w64 ((w64 (w64 (s - a) - b)).tdiv 3))), .int .i64 (w64 ((w64 (w64 (s - a) - b)).tdiv 3))]]
          (.int .i64 (loadS (a + (s - a - b).tdiv 3) (b + (s - a - b).tdiv 3) ((s - a - b).tdiv 3))) up := fun up => by
        rw [e1, e2, e3, e4]
        exact c_checkLoads up _ _ _
      conv => whnf
      refine .mk _ _ _ _ _ (leL_refl _) (hl _) rfl ?_
      conv => whnf
      split
      · rename_i h
        have h : (loadS (a + (s - a - b).tdiv 3) (b + (s - a - b).tdiv 3) ((s - a - b).tdiv 3) != 0) = true := h
        conv => whnf
        refine ⟨?_, rfl⟩
        simp only [h]; rfl
      · rename_i h
        have h : (loadS (a + (s - a - b).tdiv 3) (b + (s - a - b).tdiv 3) ((s - a - b).tdiv 3) != 0) = false := h
        conv => whnf
        refine ⟨?_, rfl⟩
        simp only [h, cond_false]
        show IV.tup [.agg [.int .i64 (w64 (a + w64 ((w64 (w64 (s - a) - b)).tdiv 3))), .int .i64 (w64 (b + w64 ((w64 (w64 (s - a) - b)).tdiv 3))), .int .i64 (w64 ((w64 (w64 (s - a) - b)).tdiv 3))], .int .i64 0] = _
        rw [e1, e2, e3, e4]
end Go.Proofs.YtllmejkmogepjaaDoor.Ix

/-
  IxSh: the shapes of blades and flows, and the blades and flows that fit them.
-/
namespace Go.Proofs.YtllmejkmogepjaaDoor.Ix

abbrev intS : Shp := .int .i64
abbrev intsS (n : Nat) : Shp := .agg (List.replicate n (1, intS))
abbrev bladeShp : Shp := .agg [(2, .agg [(1, .slice 1 intS), (1, .slice 1 intS)]), (1, .slice 4 (.agg [(1, intS), (1, intS), (1, intS), (1, intS)]))]
abbrev flowShp : Shp := .agg [(1, intS), (1, intS), (1, intS)]

def intAt (l : List IV) (j : Nat) : Int := match l[j]? with
  | some (.int _ n) => n
  | _ => 0

theorem fit_ints : ∀ (n : Nat) (xs : List IV), FitL (List.replicate n (1, intS)) xs → xs = (List.range n).map fun j => IV.int .i64 (intAt xs j)
  | 0, xs, h => by simpa [FitL] using h
  | n + 1, xs, h => by
    simp only [List.replicate_succ, FitL] at h
    obtain ⟨ys, zs, rfl, hl, ⟨m, rfl, _⟩, h2⟩ := h
    have ih := fit_ints n zs h2
    rw [List.range_succ_eq_map, List.map_cons, List.map_map]
    refine List.cons_eq_cons.2 ⟨rfl, ?_⟩
    show zs = _
    rw [show ((fun j => IV.int .i64 (intAt ([IV.int .i64 m] ++ zs) j)) ∘ Nat.succ) = fun j => IV.int .i64 (intAt zs j) from by funext j; simp [intAt]]
    exact ih

theorem fit_slice1 {xs : List IV} (h : Fit (.slice 1 intS) xs) : ∃ (n : Nat) (f : Nat → Int), n ≤ maxLen ∧ leL xs [.lst none 1 n fun i => [.int .i64 (f i)]] := by
  obtain ⟨n, f, rfl, hn, h⟩ := h
  refine ⟨n, fun i => intAt (f i) 0, hn, ⟨.inl rfl, rfl, rfl, fun i hi => ?_⟩, trivial⟩
  obtain ⟨_, m, hm, _⟩ := h i hi
  show f i = [.int .i64 (intAt (f i) 0)]
  rw [hm]; rfl

theorem fit_slice4 {xs : List IV} (h : Fit (.slice 4 (.agg [(1, intS), (1, intS), (1, intS), (1, intS)])) xs) : ∃ (n : Nat) (f1 f2 f3 f4 : Nat → Int), n ≤ maxLen ∧ leL xs [.lst none 4 n fun i => [.int .i64 (f1 i), .int .i64 (f2 i), .int .i64 (f3 i), .int .i64 (f4 i)]] := by
  obtain ⟨n, f, rfl, hn, h⟩ := h
  refine ⟨n, fun i => intAt (f i) 0, fun i => intAt (f i) 1, fun i => intAt (f i) 2, fun i => intAt (f i) 3, hn, ⟨.inl rfl, rfl, rfl, fun i hi => ?_⟩, trivial⟩
  obtain ⟨_, hf⟩ := h i hi
  exact fit_ints 4 (f i) hf

theorem leL_append : ∀ {xs ys us vs : List IV}, leL xs us → leL ys vs → leL (xs ++ ys) (us ++ vs)
  | [], _, [], _, _, h => h
  | [], _, _ :: _, _, h, _ => h.elim
  | _ :: _, _, [], _, h, _ => h.elim
  | _ :: _, _, _ :: _, _, h, k => ⟨h.1, leL_append h.2 k⟩

theorem fit_blade {v : IV} (h : FitV bladeShp v) : ∃ b : Bl, leV v b.iv ∧ b.nl ≤ maxLen ∧ b.nd ≤ maxLen ∧ b.nr ≤ maxLen := by
  obtain ⟨xs, rfl, h⟩ := h
  simp only [FitL] at h
  obtain ⟨p, q, rfl, _, ⟨p1, q1, rfl, _, h1, q2, z, rfl, _, h2, rfl⟩, q3, z, rfl, _, h3, rfl⟩ := h
  obtain ⟨nl, lf, k1, m1⟩ := fit_slice1 h1
  obtain ⟨nd, df, k2, m2⟩ := fit_slice1 h2
  obtain ⟨nr, r1, r2, r3, r4, k3, m3⟩ := fit_slice4 h3
  refine ⟨⟨nl, nd, nr, lf, df, r1, r2, r3, r4⟩, ?_, k1, k2, k3⟩
  have := leL_append (leL_append m1 m2) m3
  simpa [leV] using this

theorem fit_flow {v : IV} (h : FitV flowShp v) : ∃ f : Fl, v = f.iv := by
  obtain ⟨xs, rfl, h⟩ := h
  have := fit_ints 3 xs h
  exact ⟨⟨intAt xs 0, intAt xs 1, intAt xs 2⟩, by rw [this]; simp [intAt, List.range, List.range.loop]⟩

theorem fit_u8s : ∀ (n : Nat) (xs : List IV), FitL (List.replicate n (1, .int .u8)) xs → xs = (List.range n).map (fun j => IV.int .u8 (intAt xs j)) ∧ ∀ j, j < n → 0 ≤ intAt xs j ∧ intAt xs j < 256
  | 0, xs, h => by
    simp only [List.replicate_zero, FitL] at h
    exact ⟨by simpa using h, fun j hj => by omega⟩
  | n + 1, xs, h => by
    simp only [List.replicate_succ, FitL] at h
    obtain ⟨ys, zs, rfl, hl, ⟨m, rfl, hw⟩, h2⟩ := h
    obtain ⟨ih, ih2⟩ := fit_u8s n zs h2
    refine ⟨?_, fun j hj => ?_⟩
    · rw [List.range_succ_eq_map, List.map_cons, List.map_map]
      refine List.cons_eq_cons.2 ⟨rfl, ?_⟩
      show zs = _
      rw [show ((fun j => IV.int .u8 (intAt ([IV.int .u8 m] ++ zs) j)) ∘ Nat.succ) = fun j => IV.int .u8 (intAt zs j) from by funext j; simp [intAt]]
      exact ih
    · cases j with
      | zero =>
        have e : intAt ([IV.int .u8 m] ++ zs) 0 = m := rfl
        rw [e]
        simp [Lit.wf, IntKind.min, IntKind.max, IntKind.signed, IntKind.bits] at hw
        omega
      | succ j =>
        have e : intAt ([IV.int .u8 m] ++ zs) (j + 1) = intAt zs j := by simp [intAt]
        rw [e]; exact ih2 j (by omega)

end Go.Proofs.YtllmejkmogepjaaDoor.Ix

/-
  Ix33: the tables that a row lists as laid, as what is told of the variables.
-/
namespace Go.Proofs.YtllmejkmogepjaaDoor.Ix
open Go.RowKit
set_option linter.unusedVariables false

theorem laid_in {P : Program} {w : World} {n : String} {d : DataW Unit} : ∀ {l : List (String × DataW Unit)} {ps : List MemPlace}, DataW.LaidVars P w l ps → (n, d) ∈ l →
    ∃ g t cs fuel p, P.globalNamed n = some g ∧ (P.globals[g]?).map (·.type) = some t ∧ w.var? P n = some cs ∧ DataW.trod (fun _ => ()) P w 0 (fun _ => true) false fuel t cs.toList = some (d, p)
  | [], ps, _, hm => by cases hm
  | (m, e) :: r, ps, h, hm => by
    simp only [DataW.LaidVars] at h
    obtain ⟨g, t, cs, fuel, p, q, h1, h2, h3, h4, h5, _⟩ := h
    cases hm with
    | head => exact ⟨g, t, cs, fuel, p, h1, h2, h3, h4⟩
    | tail _ hm => exact laid_in h5 hm

theorem laid_tab {P : Program} {w : World} {laid : List (String × DataW Unit)} (h : laidMetH P laid w) (hp : (laid.all fun x => x.2.handleName?.isNone) = true) {n : String} {d : DataW Unit} {g t : Nat} (hm : (n, d) ∈ laid)
    (hg : P.globalNamed n = some g) (ht : (P.globals[g]?).map (·.type) = some t) {s : Shp} (hs : shpB P s t = true) (hf : flatS s = true) {vs : List Value} (hv : flatD d = vs) :
    (∀ j, w.cell? ⟨g, j, none⟩ = vs[j]?) ∧ ∃ arr el m, w.heap[g]? = some (.cells arr el m) ∧ arr.size = vs.length := by
  rw [MakeChecks.laidMetH_plain _ _ _ hp] at h
  obtain ⟨ps, h, _, _⟩ := h
  obtain ⟨g0, t0, cs0, f0, p0, hg0, ht0, hv0, hd0⟩ := laid_in h hm
  obtain rfl := Option.some.inj (hg.symm.trans hg0)
  obtain rfl := Option.some.inj (ht.symm.trans ht0)
  have hfl := flat_of_trod s _ (shp_ok _ _ hs) hf _ _ _ hd0
  have hcs : cs0.toList = vs := by rw [← hfl]; exact hv
  refine ⟨fun j => ?_, ?_⟩
  · have := World.var?_cell hg0 hv0 j
    rw [← hcs]
    simpa using this
  · unfold World.var? at hv0
    rw [hg0] at hv0
    simp only [Option.bind_some] at hv0
    split at hv0
    · rename_i arr el m he
      cases hv0
      exact ⟨_, _, _, he, by rw [← hcs]; simp⟩
    · cases hv0

/-- A row of integers at a variable's head. -/
theorem D_tab {I : Imm} {g : Nat} (xs : List IV) (vs : List Value) (hl : xs.length = vs.length) (hI : ∀ j v, vs[j]? = some v → I ⟨g, j, none⟩ = some v)
    (hx : ∀ (j : Nat) x, xs[j]? = some x → ∃ k z, x = .int k z ∧ vs[j]? = some (.int k z)) : D I (.vptr xs.length 1 (fun _ => xs) 0 0) (.pointer (some ⟨g, 0, none⟩)) := by
  have hat : ∀ j, j < xs.length → vs[j]? = some (vs.getD j undef) := fun j hj => by
    rw [List.getD_eq_getElem?_getD, List.getElem?_eq_getElem (by omega)]; rfl
  have := D.vptr (I := I) xs.length 1 (fun _ => xs) 0 0 g 0 (fun _ j => vs.getD j undef) (by decide) (fun _ _ => rfl)
    (fun i j hi hj => by
      have : i = 0 := by omega
      subst this
      simp only [Nat.zero_mul, Nat.zero_add]
      exact hI j _ (hat j hj))
    (fun i j hi hj => by
      obtain ⟨k, z, _, e⟩ := hx j _ (List.getElem?_eq_getElem hj)
      show (vs.getD j undef).oneCell' = true
      rw [List.getD_eq_getElem?_getD, e]; rfl)
    (fun i j x hi hxj => by
      obtain ⟨k, z, rfl, e⟩ := hx j x hxj
      show D I _ (vs.getD j undef)
      rw [List.getD_eq_getElem?_getD, e]; exact .int k z)
  simpa using this
end Go.Proofs.YtllmejkmogepjaaDoor.Ix

/-
  RowD: what all rows of the door seat share: the tables that are laid, the start that meets them.
-/
namespace Go.Proofs.YtllmejkmogepjaaDoor
open Go Go.ChangeShapes Go.WideShapes Go.ChangeAt Go.RowKit Go.Proofs.YtllmejkmogepjaaDoor.Ix
set_option linter.unusedVariables false

theorem own : ownKnob Tryd.prog.godebug = none := by kernel_rfl
theorem laidOut : laidOutB Tryd.prog = true := by kernel_rfl
theorem gRoots : Tryd.prog.globalNamed "nacelle/rotor.roots" = some 0 := by kernel_rfl
theorem tRoots : (Tryd.prog.globals[0]?).map (·.type) = some 160 := by kernel_rfl
noncomputable abbrev laid4 : List (String × DataW Unit) := [("math/bits.deBruijn32tab", Rows.laid_math_bits_deBruijn32tab), ("math/bits.deBruijn64tab", Rows.laid_math_bits_deBruijn64tab), ("internal/strconv.uint64pow10", Rows.laid_internal_strconv_uint64pow10), ("nacelle/rotor.roots", Rows.laid_nacelle_rotor_roots)]
theorem plain4 : (laid4.all fun x => x.2.handleName?.isNone) = true := by kernel_rfl
abbrev rootsShp : Shp := .agg [(2, .agg [(1, intS), (1, intS)]), (2, .agg [(1, intS), (1, intS)]), (2, .agg [(1, intS), (1, intS)])]
abbrev powShp : Shp := .agg (List.replicate 20 (1, .int .u64))
theorem shapeRoots : shpB Tryd.prog rootsShp 160 = true := by kernel_rfl

theorem door_met (os : Os) (args : Array Value) : laidMetH Tryd.prog laid4 ((World.doorLaid Tryd.prog 400 os).forCall (fun _ _ => 0) ⟨#[], args, []⟩).memory :=
  laidMetH_of_parts3 (fuel := 8) (laidMet_of_run' 8 (by kernel_rfl) (by kernel_rfl)) (by kernel_rfl) (by kernel_rfl)

/-- What is told of the package's variables. -/
noncomputable def gl4 : Nat → IV := fun g => match g with
  | 0 => rootsI
  | 2 => powI
  | _ => .dead

abbrev rootsV : List Value := [.int .i64 1, .int .i64 0, .int .i64 0, .int .i64 1, .int .i64 (-1), .int .i64 (-1)]

theorem roots_in {W : World} (h : laidMetH Tryd.prog laid4 W) : (∀ j, W.cell? ⟨0, j, none⟩ = rootsV[j]?) ∧ ∃ arr el m, W.heap[0]? = some (.cells arr el m) ∧ arr.size = rootsV.length :=
  laid_tab h plain4 (d := Rows.laid_nacelle_rotor_roots) (by simp) gRoots tRoots shapeRoots rfl rfl
theorem tPow : (Tryd.prog.globals[2]?).map (·.type) = some 187 := by kernel_rfl
theorem shapePow : shpB Tryd.prog powShp 187 = true := by kernel_rfl
noncomputable abbrev powV : List Value := Go.Lib.pow10Tab.map fun z => .int .u64 z
theorem pow_in {W : World} (h : laidMetH Tryd.prog laid4 W) : (∀ j, W.cell? ⟨2, j, none⟩ = powV[j]?) ∧ ∃ arr el m, W.heap[2]? = some (.cells arr el m) ∧ arr.size = powV.length :=
  laid_tab h plain4 (d := Rows.laid_internal_strconv_uint64pow10) (by simp) gPow tPow shapePow (by decide) (by kernel_rfl)

theorem glo4 {W : World} (h : laidMetH Tryd.prog laid4 W) : ∀ g, D (fun a => W.cell? a) (gl4 g) (.pointer (some ⟨g, 0, none⟩)) := by
  intro g
  match g with
  | 0 =>
    refine D_tab [.int .i64 1, .int .i64 0, .int .i64 0, .int .i64 1, .int .i64 (-1), .int .i64 (-1)] rootsV rfl (fun j v hv => by rw [(roots_in h).1]; exact hv) fun j x hx => ?_
    match j, hx with
    | 0, hx | 1, hx | 2, hx | 3, hx | 4, hx | 5, hx => cases hx; exact ⟨_, _, rfl, rfl⟩
    | _ + 6, hx => cases hx
  | 1 => exact .dead _
  | 2 =>
    have := D_tab (I := fun a => W.cell? a) (g := 2) (Go.Lib.pow10Tab.map fun z => IV.int .u64 z) powV (by simp) (fun j v hv => by rw [(pow_in h).1]; exact hv) fun j x hx => by
      rw [List.getElem?_map, Option.map_eq_some_iff] at hx
      obtain ⟨z, hz, rfl⟩ := hx
      exact ⟨_, _, rfl, by rw [List.getElem?_map, hz]; rfl⟩
    rw [List.length_map] at this
    exact this
  | _ + 3 => exact .dead _

theorem gsz4 {W : World} (h : laidMetH Tryd.prog laid4 W) : Gsz gl4 W := by
  intro g e n f i j hg hn he
  match g, hg with
  | 0, hg =>
    cases hg
    exact (roots_in h).2
  | 1, hg => cases hg
  | 2, hg =>
    have hg : powI = .vptr e n f i j := hg
    injection hg with h1 h2
    subst h1; subst h2
    obtain ⟨arr, el, m, k1, k2⟩ := (pow_in h).2
    exact ⟨arr, el, m, k1, by rw [k2]; simp⟩
  | _ + 3, hg => cases hg
end Go.Proofs.YtllmejkmogepjaaDoor

/-
  Ro3: contracts of the functions of the package rotor, the third part: Balance, Find, CheckBracket, Refine.
-/
namespace Go.Proofs.YtllmejkmogepjaaDoor.Ix
open Go.Proofs
set_option maxRecDepth 100000
set_option linter.unusedVariables false
set_option linter.unusedSimpArgs false
variable {gl : Nat → IV}

theorem c_checkRing (up : List Ces) (b : Bl) (f : Fl) (ring : Int) : Cs gl n_rotor_checkRing up [b.iv, f.iv, .int .i64 ring] (.int .i64 (ringErr b f ring)) up := by
  refine mk h_rotor_checkRing rfl rfl ?_
  conv => whnf
  refine .mk 16 (by kernel_rfl) ?_
  conv => whnf
  first | refine CALLQ.mk _ _ _ (leL_refl _) (c_CheckBlade _ _ _ _ _ _ _ _ _ _) rfl ?_ | refine CALL0.mk _ _ _ _ _ (leL_refl _) (c_CheckBlade _ _ _ _ _ _ _ _ _ _) rfl ?_
  conv => whnf
  first | refine CALLQ.mk _ _ _ (leL_refl _) (c_CheckFlow' _ _ _ _) rfl ?_ | refine CALL0.mk _ _ _ _ _ (leL_refl _) (c_CheckFlow' _ _ _ _) rfl ?_
  conv => whnf
  split
  · rename_i h
    have h' : decide (ring < 0) = true := h
    conv => whnf
    first | refine CALLQ.mk _ _ _ (leL_refl _) (c_when _ _ _) rfl ?_ | refine CALL0.mk _ _ _ _ _ (leL_refl _) (c_when _ _ _) rfl ?_
    conv => whnf
    first | refine CALLQ.mk _ _ _ (leL_refl _) (c_f3 _ _ _ _ _ rfl rfl rfl) rfl ?_ | refine CALL0.mk _ _ _ _ _ (leL_refl _) (c_f3 _ _ _ _ _ rfl rfl rfl) rfl ?_
    conv => whnf
    refine ⟨?_, rfl⟩
    unfold ringErr
    rw [h', Bool.true_or]; rfl
  · rename_i h
    have h' : decide (ring < 0) = false := h
    conv => whnf
    first | refine CALLQ.mk _ _ _ (leL_refl _) (c_when _ _ _) rfl ?_ | refine CALL0.mk _ _ _ _ _ (leL_refl _) (c_when _ _ _) rfl ?_
    conv => whnf
    first | refine CALLQ.mk _ _ _ (leL_refl _) (c_f3 _ _ _ _ _ rfl rfl rfl) rfl ?_ | refine CALL0.mk _ _ _ _ _ (leL_refl _) (c_f3 _ _ _ _ _ rfl rfl rfl) rfl ?_
    conv => whnf
    refine ⟨?_, rfl⟩
    unfold ringErr
    rw [h', Bool.false_or]; rfl

theorem c_IndCheck (up : List Ces) (a d : Int) : Cs gl n_rotor_Induction_check up [.agg [.int .i64 a, .int .i64 d]] (.int .i64 (indErr a d)) up := by
  refine mk h_rotor_Induction_check rfl rfl ?_
  conv => whnf
  refine .mk _ _ _ _ _ (leL_refl _) (c_checkDepth _ _) rfl ?_
  conv => whnf
  split
  · rename_i h
    have h' : (withinS d 1 12 != 0) = true := h
    conv => whnf
    refine ⟨?_, rfl⟩
    unfold indErr
    rw [orE_pos h']
  · rename_i h
    have h' : (withinS d 1 12 != 0) = false := h
    have h0 : withinS d 1 12 = 0 := by simpa using h'
    rw [withinS_zero] at h0
    have e1 : w64 (d - 1) = ((d - 1).toNat : Int) := by rw [w64, wrap_in] <;> omega
    have e2 : halfW d = 2 ^ (d - 1).toNat := by
      have := halfW_eq (d := d.toNat) (by omega) (by omega)
      rw [show ((d.toNat : Nat) : Int) = d by omega] at this
      rw [this]; congr 1; omega
    conv => whnf
    refine .mk 7 (by kernel_rfl) ?_
    conv => whnf
    split
    rotate_left
    · rename_i h
      have h' : decide (0 ≤ w64 (d - 1)) = false := h
      simp at h' <;> omega
    conv => whnf
    first | refine CALLQ.mk _ _ _ (leL_refl _) (c_within _ _ _ _) rfl ?_ | refine CALL0.mk _ _ _ _ _ (leL_refl _) (c_within _ _ _ _) rfl ?_
    conv => whnf
    refine ⟨?_, rfl⟩
    show IV.int .i64 (withinS a 0 (halfW d)) = _
    unfold indErr
    rw [orE_neg h', e2]

theorem c_checkAll (up : List Ces) (b : Bl) (f : Fl) (d : Int) : Cs gl n_rotor_checkAll up [b.iv, f.iv, .int .i64 d] (.int .i64 (allErr b f d)) up := by
  refine mk h_rotor_checkAll rfl rfl ?_
  conv => whnf
  refine .mk 8 (by kernel_rfl) ?_
  conv => whnf
  first | refine CALLQ.mk _ _ _ (leL_refl _) (c_CheckBlade _ _ _ _ _ _ _ _ _ _) rfl ?_ | refine CALL0.mk _ _ _ _ _ (leL_refl _) (c_CheckBlade _ _ _ _ _ _ _ _ _ _) rfl ?_
  conv => whnf
  first | refine CALLQ.mk _ _ _ (leL_refl _) (c_CheckFlow' _ _ _ _) rfl ?_ | refine CALL0.mk _ _ _ _ _ (leL_refl _) (c_CheckFlow' _ _ _ _) rfl ?_
  conv => whnf
  first | refine CALLQ.mk _ _ _ (leL_refl _) (c_checkDepth _ _) rfl ?_ | refine CALL0.mk _ _ _ _ _ (leL_refl _) (c_checkDepth _ _) rfl ?_
  conv => whnf
  first | refine CALLQ.mk _ _ _ (leL_refl _) (c_f3 _ _ _ _ _ rfl rfl rfl) rfl ?_ | refine CALL0.mk _ _ _ _ _ (leL_refl _) (c_f3 _ _ _ _ _ rfl rfl rfl) rfl ?_
  conv => whnf
  exact ⟨rfl, rfl⟩

/-- The ring 'i' of a blade in a flow. -/
abbrev secAt (b : Bl) (f : Fl) (i : Nat) : IV := secI b.nl b.nd b.lf b.df (b.r1 i) (b.r2 i) (b.r3 i) (b.r4 i) f.w f.s f.p

theorem c_balP (up : List Ces) (b : Bl) (f : Fl) (i : Nat) (h : b.ok f i) (a : Int) (d : Nat) (hd : d ≤ 12) (h0 : 0 ≤ a) (h1 : a ≤ 2 ^ d) :
    Cs gl n_rotor_section_balance up [secAt b f i, .agg [.int .i64 a, .int .i64 d]] (.int .i64 (b.bal f i a d)) up := by
  have o := balOK h hd h0 h1
  have := c_balance (gl := gl) up b.nl b.nd b.lf b.df (b.r1 i) (b.r2 i) (b.r3 i) (b.r4 i) f.w f.s f.p a d o.d0 o.den o.lo o.hi
  rw [balanceW_eq h hd h0 h1] at this
  exact this

theorem c_Balance (up : List Ces) (b : Bl) (f : Fl) (ring a d : Int) : Cs gl n_rotor_Balance up [b.iv, f.iv, .int .i64 ring, .agg [.int .i64 a, .int .i64 d]] (balR b f ring a d) up := by
  refine mk h_rotor_Balance rfl rfl ?_
  unfold balR
  simp only
  conv => whnf
  refine .mk 8 (by kernel_rfl) ?_
  conv => whnf
  first | refine CALLQ.mk _ _ _ (leL_refl _) (c_checkRing _ b f _) rfl ?_ | refine CALL0.mk _ _ _ _ _ (leL_refl _) (c_checkRing _ b f _) rfl ?_
  conv => whnf
  first | refine CALLQ.mk _ _ _ (leL_refl _) (c_IndCheck _ _ _) rfl ?_ | refine CALL0.mk _ _ _ _ _ (leL_refl _) (c_IndCheck _ _ _) rfl ?_
  conv => whnf
  first | refine CALLQ.mk _ _ _ (leL_refl _) (c_f2 _ _ _ _ rfl rfl) rfl ?_ | refine CALL0.mk _ _ _ _ _ (leL_refl _) (c_f2 _ _ _ _ rfl rfl) rfl ?_
  conv => whnf
  split
  · rename_i h
    have h' : (orE (ringErr b f ring) (indErr a d) != 0) = true := h
    conv => whnf
    refine ⟨?_, rfl⟩
    rw [h']; rfl
  · rename_i h
    have h' : (orE (ringErr b f ring) (indErr a d) != 0) = false := h
    have h0 : orE (ringErr b f ring) (indErr a d) = 0 := by simpa using h'
    rw [h']
    have hz := h0
    rw [orE_zero] at h0
    obtain ⟨g1, g2, g3, g4⟩ := ringErr_ok h0.1
    obtain ⟨n, rfl, k2, k3, k4⟩ := indErr_ok h0.2
    obtain ⟨_, _, _, ok⟩ := Bl.good g1 g2
    have hp := Int.pow_succ (2 : Int) n
    have hq := two_pos n
    conv => whnf
    refine .mk 12 (by kernel_rfl) ?_
    conv => whnf
    split
    rotate_left
    · rename_i h
      have h' : decide (0 ≤ ring) = false := h
      simp at h' <;> omega
    conv => whnf
    split
    rotate_left
    · rename_i h
      have h' : decide (ring < b.nr) = false := h
      simp at h' <;> omega
    conv => whnf
    first | refine CALLQ.mk _ _ _ (leL_refl _) (c_balP _ b f ring.toNat (ok _ (by omega)) a (n + 1) (by omega) k3 (by omega)) rfl ?_ | refine CALL0.mk _ _ _ _ _ (leL_refl _) (c_balP _ b f ring.toNat (ok _ (by omega)) a (n + 1) (by omega) k3 (by omega)) rfl ?_
    conv => whnf
    refine ⟨?_, rfl⟩
    rw [hz]; rfl

theorem findS_congr {f g : Int → Int} {half : Int} (h0 : 0 ≤ half) (h : ∀ a, 0 ≤ a → a ≤ half → f a = g a) : findS f half = findS g half := by
  unfold findS
  rw [h half h0 (Int.le_refl _), searchS_congr _ _ _ h]

/-- What 'find' hands back. -/
def findI (o : Option Int) (d : Int) : IV := match o with
  | none => .tup [.agg [.int .i64 0, .int .i64 0], .bool false]
  | some a => .tup [.agg [.int .i64 a, .int .i64 d], .bool true]

theorem c_findP (up : List Ces) (b : Bl) (f : Fl) (i : Nat) (h : b.ok f i) (d : Nat) (hd : d < 12) :
    Cs gl n_rotor_section_find up [secAt b f i, .int .i64 ((d + 1 : Nat) : Int)] (findI (b.br f i d) ((d + 1 : Nat) : Int)) up := by
  have hh : halfW ((d + 1 : Nat) : Int) = 2 ^ d := halfW_eq (d := d + 1) (by omega) (by omega)
  have hp := two_pos d
  have hl := pow_le12 (d := d) (by omega)
  have hs := Int.pow_succ (2 : Int) d
  refine c_find (gl := gl) up b.nl b.nd b.lf b.df (b.r1 i) (b.r2 i) (b.r3 i) (b.r4 i) f.w f.s f.p _ (2 ^ d) ?_ hh ⟨by omega, by omega⟩ (fun a h1 h2 => balOK h (by omega) h1 (by omega)) _ ?_
  · rw [w64, wrap_in] <;> omega
  · have e : findS (fun a => balanceW b.nl b.lf (b.r1 i) (b.r2 i) (b.r3 i) (b.r4 i) f.w f.s f.p a ((d + 1 : Nat) : Int)) (2 ^ d) = b.br f i d := by
      unfold Bl.br brP
      exact findS_congr (by omega) fun a h1 h2 => balanceW_eq h (by omega) h1 (by omega)
    rw [e]
    unfold findI
    cases b.br f i d <;> rfl

theorem c_Find (up : List Ces) (b : Bl) (f : Fl) (ring d : Int) : Cs gl n_rotor_Find up [b.iv, f.iv, .int .i64 ring, .int .i64 d] (findR b f ring d) up := by
  refine mk h_rotor_Find rfl rfl ?_
  unfold findR
  simp only
  conv => whnf
  refine .mk _ _ _ _ _ (leL_refl _) (c_checkRing _ b f _) rfl ?_
  conv => whnf
  refine .mk _ _ _ _ _ (leL_refl _) (c_checkDepth _ _) rfl ?_
  conv => whnf
  refine .mk _ _ _ _ _ (leL_refl _) (c_f2 _ _ _ _ rfl rfl) rfl ?_
  conv => whnf
  split
  · rename_i h
    have h' : (orE (ringErr b f ring) (withinS d 1 12) != 0) = true := h
    conv => whnf
    refine ⟨?_, rfl⟩
    rw [h']; rfl
  · rename_i h
    have h' : (orE (ringErr b f ring) (withinS d 1 12) != 0) = false := h
    have h0 : orE (ringErr b f ring) (withinS d 1 12) = 0 := by simpa using h'
    rw [h', cond_false]
    rw [orE_zero, withinS_zero] at h0
    obtain ⟨g1, g2, g3, g4⟩ := ringErr_ok h0.1
    obtain ⟨_, _, _, ok⟩ := Bl.good g1 g2
    obtain ⟨n, rfl⟩ : ∃ n : Nat, d = ((n + 1 : Nat) : Int) := ⟨(d - 1).toNat, by omega⟩
    rw [show (((n + 1 : Nat) : Int) - 1).toNat = n by omega]
    have hf := fun up => c_findP (gl := gl) up b f ring.toNat (ok _ (by omega)) n (by omega)
    conv => whnf
    refine .mk 16 (by kernel_rfl) ?_
    conv => whnf
    split
    rotate_left
    · rename_i h
      have h' : decide (0 ≤ ring) = false := h
      simp at h' <;> omega
    conv => whnf
    split
    rotate_left
    · rename_i h
      have h' : decide (ring < b.nr) = false := h
      simp at h' <;> omega
    conv => whnf
    generalize b.br f ring.toNat n = o at hf ⊢
    cases o with
    | none =>
      first | refine CALLQ.mk _ _ _ (leL_refl _) (hf _) rfl ?_ | refine CALL0.mk _ _ _ _ _ (leL_refl _) (hf _) rfl ?_
      conv => whnf
      refine .mk 4 (by kernel_rfl) ?_
      conv => whnf
      first | refine CALLQ.mk _ _ _ (leL_refl _) (c_when _ _ _) rfl ?_ | refine CALL0.mk _ _ _ _ _ (leL_refl _) (c_when _ _ _) rfl ?_
      conv => whnf
      exact ⟨rfl, rfl⟩
    | some a =>
      first | refine CALLQ.mk _ _ _ (leL_refl _) (hf _) rfl ?_ | refine CALL0.mk _ _ _ _ _ (leL_refl _) (hf _) rfl ?_
      conv => whnf
      refine .mk 4 (by kernel_rfl) ?_
      conv => whnf
      first | refine CALLQ.mk _ _ _ (leL_refl _) (c_when _ _ _) rfl ?_ | refine CALL0.mk _ _ _ _ _ (leL_refl _) (c_when _ _ _) rfl ?_
      conv => whnf
      exact ⟨rfl, rfl⟩

theorem c_isBr (up : List Ces) (b : Bl) (f : Fl) (i : Nat) (h : b.ok f i) (a : Int) (d : Nat) (hd : d ≤ 12) (hd1 : 1 ≤ d) (h0 : 0 ≤ a) (h1 : a ≤ 2 ^ (d - 1)) :
    Cs gl n_rotor_section_brackets up [secAt b f i, .agg [.int .i64 a, .int .i64 d]] (.bool (isBr b f i a d)) up := by
  have hp := two_pos (d - 1)
  have hl := pow_le12 (d := d - 1) (by omega)
  have hs := pow_half hd1
  have e1 : w64 (a + 1) = a + 1 := by rw [w64, wrap_in] <;> omega
  have := c_brackets (gl := gl) up b.nl b.nd b.lf b.df (b.r1 i) (b.r2 i) (b.r3 i) (b.r4 i) f.w f.s f.p a d (by rw [w64, wrap_in] <;> omega) (balOK h hd h0 (by omega)) (by rw [e1]; exact balOK h hd (by omega) (by omega))
  have e : bracketsW b.nl b.lf (b.r1 i) (b.r2 i) (b.r3 i) (b.r4 i) f.w f.s f.p a d = isBr b f i a d := by
    unfold bracketsW isBr
    rw [halfW_eq hd hd1, e1, balanceW_eq h hd h0 (by omega), balanceW_eq h hd (by omega) (by omega)]
    rfl
  rw [← e]; exact this

theorem c_CheckBracket (up : List Ces) (b : Bl) (f : Fl) (ring a d : Int) : Cs gl n_rotor_CheckBracket up [b.iv, f.iv, .int .i64 ring, .agg [.int .i64 a, .int .i64 d]] (.int .i64 (brErr b f ring a d)) up := by
  refine mk h_rotor_CheckBracket rfl rfl ?_
  unfold brErr
  conv => whnf
  refine .mk 8 (by kernel_rfl) ?_
  conv => whnf
  first | refine CALLQ.mk _ _ _ (leL_refl _) (c_checkRing _ b f _) rfl ?_ | refine CALL0.mk _ _ _ _ _ (leL_refl _) (c_checkRing _ b f _) rfl ?_
  conv => whnf
  first | refine CALLQ.mk _ _ _ (leL_refl _) (c_IndCheck _ _ _) rfl ?_ | refine CALL0.mk _ _ _ _ _ (leL_refl _) (c_IndCheck _ _ _) rfl ?_
  conv => whnf
  first | refine CALLQ.mk _ _ _ (leL_refl _) (c_f2 _ _ _ _ rfl rfl) rfl ?_ | refine CALL0.mk _ _ _ _ _ (leL_refl _) (c_f2 _ _ _ _ rfl rfl) rfl ?_
  conv => whnf
  split
  · rename_i h
    have h' : (orE (ringErr b f ring) (indErr a d) != 0) = true := h
    conv => whnf
    refine ⟨?_, rfl⟩
    rw [orE_pos h']
  · rename_i h
    have h' : (orE (ringErr b f ring) (indErr a d) != 0) = false := h
    have h0 : orE (ringErr b f ring) (indErr a d) = 0 := by simpa using h'
    rw [orE_neg h']
    rw [orE_zero] at h0
    obtain ⟨g1, g2, g3, g4⟩ := ringErr_ok h0.1
    obtain ⟨n, rfl, k2, k3, k4⟩ := indErr_ok h0.2
    obtain ⟨_, _, _, ok⟩ := Bl.good g1 g2
    conv => whnf
    refine .mk 13 (by kernel_rfl) ?_
    conv => whnf
    split
    rotate_left
    · rename_i h
      have h' : decide (0 ≤ ring) = false := h
      simp at h' <;> omega
    conv => whnf
    split
    rotate_left
    · rename_i h
      have h' : decide (ring < b.nr) = false := h
      simp at h' <;> omega
    conv => whnf
    first | refine CALLQ.mk _ _ _ (leL_refl _) (c_isBr _ b f ring.toNat (ok _ (by omega)) a (n + 1) (by omega) (by omega) k3 (by simpa using k4)) rfl ?_ | refine CALL0.mk _ _ _ _ _ (leL_refl _) (c_isBr _ b f ring.toNat (ok _ (by omega)) a (n + 1) (by omega) (by omega) k3 (by simpa using k4)) rfl ?_
    conv => whnf
    first | refine CALLQ.mk _ _ _ (leL_refl _) (c_when _ _ _) rfl ?_ | refine CALL0.mk _ _ _ _ _ (leL_refl _) (c_when _ _ _) rfl ?_
    conv => whnf
    exact ⟨rfl, rfl⟩

theorem c_Refine (up : List Ces) (b : Bl) (f : Fl) (ring a d : Int) : Cs gl n_rotor_Refine up [b.iv, f.iv, .int .i64 ring, .agg [.int .i64 a, .int .i64 d]] (refineR b f ring a d) up := by
  refine mk h_rotor_Refine rfl rfl ?_
  unfold refineR
  simp only
  conv => whnf
  refine .mk 11 (by kernel_rfl) ?_
  conv => whnf
  first | refine CALLQ.mk _ _ _ (leL_refl _) (c_CheckBracket _ b f _ _ _) rfl ?_ | refine CALL0.mk _ _ _ _ _ (leL_refl _) (c_CheckBracket _ b f _ _ _) rfl ?_
  conv => whnf
  first | refine CALLQ.mk _ _ _ (leL_refl _) (c_when _ _ _) rfl ?_ | refine CALL0.mk _ _ _ _ _ (leL_refl _) (c_when _ _ _) rfl ?_
  conv => whnf
  first | refine CALLQ.mk _ _ _ (leL_refl _) (c_f2 _ _ _ _ rfl rfl) rfl ?_ | refine CALL0.mk _ _ _ _ _ (leL_refl _) (c_f2 _ _ _ _ rfl rfl) rfl ?_
  conv => whnf
  split
  · rename_i h
    have h' : (orE (brErr b f ring a d) (bif d == 12 then 23 else 0) != 0) = true := h
    conv => whnf
    refine ⟨?_, rfl⟩
    rw [h']; rfl
  · rename_i h
    have h' : (orE (brErr b f ring a d) (bif d == 12 then 23 else 0) != 0) = false := h
    have h0 : orE (brErr b f ring a d) (bif d == 12 then 23 else 0) = 0 := by simpa using h'
    rw [h', cond_false]
    simp only [brErr, orE_zero] at h0
    rw [bif_zero (by decide), bif_zero (by decide)] at h0
    simp at h0
    obtain ⟨⟨⟨q1, q2⟩, q3⟩, q4⟩ := h0
    obtain ⟨g1, g2, g3, g4⟩ := ringErr_ok q1
    obtain ⟨n, rfl, k2, k3, k4⟩ := indErr_ok q2
    obtain ⟨_, _, _, ok⟩ := Bl.good g1 g2
    have hp := two_pos n
    have hl := pow_le12 (d := n) (by omega)
    have hs := Int.pow_succ (2 : Int) n
    have q5 : a < 2 ^ n := by
      unfold isBr at q3
      simp at q3
      exact q3.1
    have e1 : w64 (2 * a) = 2 * a := by rw [w64, wrap_in] <;> omega
    have e2 : w64 (((n + 1 : Nat) : Int) + 1) = ((n + 2 : Nat) : Int) := by rw [w64, wrap_in] <;> omega
    have hb : ∀ up, Cs gl n_rotor_section_brackets up [secAt b f ring.toNat, .agg [.int .i64 (w64 (2 * a)), .int .i64 (w64 (((n + 1 : Nat) : Int) + 1))]] (.bool (isBr b f ring.toNat (2 * a) (n + 2))) up := fun up => by
      rw [e1, e2]
      exact c_isBr (gl := gl) up b f ring.toNat (ok _ (by omega)) (2 * a) (n + 2) (by omega) (by omega) (by omega) (by show 2 * a ≤ 2 ^ (n + 1); omega)
    have e3 : w64 (2 * a + 1) = 2 * a + 1 := by rw [w64, wrap_in] <;> omega
    rw [show (((n + 1 : Nat) : Int).toNat + 1) = n + 2 by omega]
    conv => whnf
    refine .mk 10 (by kernel_rfl) ?_
    conv => whnf
    split
    rotate_left
    · rename_i h
      have h' : decide (0 ≤ ring) = false := h
      simp at h' <;> omega
    conv => whnf
    split
    rotate_left
    · rename_i h
      have h' : decide (ring < b.nr) = false := h
      simp at h' <;> omega
    conv => whnf
    refine .mk _ _ _ _ _ (leL_refl _) (hb _) rfl ?_
    conv => whnf
    split
    · rename_i h
      have h' : (!(isBr b f ring.toNat (2 * a) (n + 2))) = true := h
      have h'' : isBr b f ring.toNat (2 * a) (n + 2) = false := by simpa using h'
      conv => whnf
      refine .mk _ _ _ _ _ (leL_refl _) (c_next _ _ _) rfl ?_
      conv => whnf
      refine ⟨?_, rfl⟩
      show IV.tup [.agg [.int .i64 (w64 (w64 (2 * a) + 1)), .int .i64 (w64 (((n + 1 : Nat) : Int) + 1))], .int .i64 0] = _
      rw [e1, e2, e3, h'']; rfl
    · rename_i h
      have h' : (!(isBr b f ring.toNat (2 * a) (n + 2))) = false := h
      have h'' : isBr b f ring.toNat (2 * a) (n + 2) = true := by simpa using h'
      conv => whnf
      refine ⟨?_, rfl⟩
      show IV.tup [.agg [.int .i64 (w64 (2 * a)), .int .i64 (w64 (((n + 1 : Nat) : Int) + 1))], .int .i64 0] = _
      rw [e1, e2, h'']; rfl
end Go.Proofs.YtllmejkmogepjaaDoor.Ix

/-
  Ro4: contracts of the functions of the package rotor, the fourth part: the torque and the thrust of a ring.
-/
namespace Go.Proofs.YtllmejkmogepjaaDoor.Ix
open Go.Proofs
set_option maxRecDepth 100000
set_option linter.unusedVariables false
set_option linter.unusedSimpArgs false
variable {gl : Nat → IV}

def Bl.infl (b : Bl) (f : Fl) (i : Nat) (a : Int) (d : Nat) : Int := inflP (b.r1 i) f.w f.s a d
def Bl.of (b : Bl) (f : Fl) (i : Nat) (x : Int) : Int := ofP b.nl b.lf b.df (b.r1 i) (b.r2 i) (b.r3 i) (b.r4 i) f.p x

def Bl.stp (b : Bl) (f : Fl) (i : Nat) (a : Int) (d : Nat) (k : Nat) : Int × Int := stepsP b.nl b.lf b.df (b.r1 i) (b.r2 i) (b.r3 i) (b.r4 i) f.p (b.infl f i (a + 1) d) (b.infl f i a d) k

theorem c_inflP (up : List Ces) (b : Bl) (f : Fl) (i : Nat) (h : b.ok f i) (a a' : Int) (d : Nat) (hd : d ≤ 12) (h0 : 0 ≤ a) (h1 : a ≤ 2 ^ d) (e : a' = a) :
    Cs gl n_rotor_section_inflow up [secAt b f i, .agg [.int .i64 a', .int .i64 d]] (.int .i64 (b.infl f i a d)) up := by
  subst e
  have o := balOK h hd h0 h1
  have := c_inflow (gl := gl) up b.nl b.nd b.lf b.df (b.r1 i) (b.r2 i) (b.r3 i) (b.r4 i) f.w f.s f.p a' d o.d0 o.den
  rw [inflowW_eq h hd h0 h1] at this
  exact this

/-- The cells of the ring 'i'. -/
abbrev secC (b : Bl) (f : Fl) (i : Nat) : List IV := secL b.nl b.nd b.lf b.df (b.r1 i) (b.r2 i) (b.r3 i) (b.r4 i) f.w f.s f.p

theorem c_ofP (ce : Ces) (up : List Ces) (k : Nat) (b : Bl) (f : Fl) (i : Nat) (h : b.ok f i) (hn : b.nd = b.nl) (x x' : Int) (e' : x' = x) (h1 : -100000 ≤ x) (h2 : x ≤ 100000) (hc : lookC ce k = some (secC b f i)) :
    Cs gl n_rotor_section_torque_1 (ce :: up) [.int .i64 x', .ptr 1 k 0] (.int .i64 (b.of f i x)) (ce :: up) := by
  subst e'
  have hcl := clsP_lo h x'
  have e := classW_eq h (x := x') (by omega) (by omega)
  have := c_torque1 (gl := gl) ce up k b.nl b.nd b.lf b.df (b.r1 i) (b.r2 i) (b.r3 i) (b.r4 i) f.w f.s f.p x' (by rw [e]; exact hcl.1) (by rw [e]; exact hcl.2) (by rw [e, hn]; exact hcl.2) hc
  rw [(ofP_bound h h1 h2).2.2] at this
  exact this

theorem infl_rng {b : Bl} {f : Fl} {i : Nat} (h : b.ok f i) {a : Int} {d : Nat} (h0 : 0 ≤ a) (h1 : a ≤ 2 ^ d) : 0 ≤ b.infl f i a d ∧ b.infl f i a d ≤ 51200 := ⟨inflP_nonneg h h1, inflP_le h h0⟩

theorem c_torque (up : List Ces) (b : Bl) (f : Fl) (i : Nat) (h : b.ok f i) (hn : b.nd = b.nl) (a : Int) (d : Nat) (hd : d ≤ 12) (h0 : 0 ≤ a) (h1 : a + 1 ≤ 2 ^ d) :
    Cs gl n_rotor_section_torque up [secAt b f i, .agg [.int .i64 a, .int .i64 d]] (.agg [.int .i64 (b.tor f i a d).1, .int .i64 (b.tor f i a d).2]) up := by
  refine mk h_rotor_section_torque rfl rfl ?_
  have hp := two_pos d
  have hl := pow_le12 hd
  have hn1 := h.n1
  have ht := h.t
  have hpp := h.p
  have e1 : w64 (a + 1) = a + 1 := by rw [w64, wrap_in] <;> omega
  have r1 := infl_rng h (d := d) (a := a + 1) (by omega) h1
  have r2 := infl_rng h (d := d) (a := a) h0 (by omega)
  conv => whnf
  refine .mk 7 (by kernel_rfl) ?_
  conv => whnf
  first | refine CALLQ.mk _ _ _ (leL_refl _) (c_next _ _ _) rfl ?_ | refine CALL0.mk _ _ _ _ _ (leL_refl _) (c_next _ _ _) rfl ?_
  conv => whnf
  first | refine CALLQ.mk _ _ _ (leL_refl _) (c_inflP _ b f i h (a + 1) _ d hd (by omega) h1 e1) rfl ?_ | refine CALL0.mk _ _ _ _ _ (leL_refl _) (c_inflP _ b f i h (a + 1) _ d hd (by omega) h1 e1) rfl ?_
  conv => whnf
  first | refine CALLQ.mk _ _ _ (leL_refl _) (c_inflP _ b f i h a _ d hd h0 (by omega) rfl) rfl ?_ | refine CALL0.mk _ _ _ _ _ (leL_refl _) (c_inflP _ b f i h a _ d hd h0 (by omega) rfl) rfl ?_
  conv => whnf
  refine .mk _ _ _ _ _ (leL_refl _) (c_ofP _ _ 2 b f i h hn _ _ rfl (by omega) (by omega) rfl) rfl ?_
  conv => whnf
  refine .mk _ _ _ _ _ (leL_refl _) (c_ofP _ _ 2 b f i h hn _ _ rfl (by omega) (by omega) rfl) rfl ?_
  conv => whnf
  refine .mk _ _ _ _ _ (leL_refl _) (c_ofP _ _ 2 b f i h hn _ _ rfl (by omega) (by omega) rfl) rfl ?_
  conv => whnf
  refine .mk _ _ _ _ _ (leL_refl _) (c_ofP _ _ 2 b f i h hn _ _ rfl (by omega) (by omega) rfl) rfl ?_
  conv => whnf
  have emin : (if b.of f i (b.infl f i a d) < b.of f i (b.infl f i (a + 1) d) then b.of f i (b.infl f i a d) else b.of f i (b.infl f i (a + 1) d)) = (b.stp f i a d 0).1 := by
    show _ = min (b.of f i (b.infl f i (a + 1) d)) (b.of f i (b.infl f i a d))
    omega
  have emax : (if b.of f i (b.infl f i a d) > b.of f i (b.infl f i (a + 1) d) then b.of f i (b.infl f i a d) else b.of f i (b.infl f i (a + 1) d)) = (b.stp f i a d 0).2 := by
    show _ = max (b.of f i (b.infl f i (a + 1) d)) (b.of f i (b.infl f i a d))
    omega
  have en : w64 ((b.nl : Int) + 2) = ((b.nl + 2 : Nat) : Int) := by rw [w64, wrap_in] <;> omega
  refine .mk (α := {k : Nat // k ≤ b.nl + 2}) (fun k => ⟨[(39, .int .i64 k.1), (38, .int .i64 ((b.nl + 2 : Nat) : Int)), (5, .int .i64 (b.infl f i (a + 1) d)), (6, .int .i64 (b.infl f i a d)), (7, .fn n_rotor_section_torque_1 [] [.ptr 0 2 0]), (2, .ptr 0 2 0), (4, .ptr 0 4 0), (8, .ptr 0 8 0)],
      [(8, [.int .i64 (b.stp f i a d k.1).1, .int .i64 (b.stp f i a d k.1).2]), (4, [.int .i64 0, .int .i64 0]), (2, secC b f i)], up⟩) (fun k => b.nl + 2 - k.1) ⟨0, Nat.zero_le _⟩ ⟨?_, ?_, rfl, rfl⟩ ?_
  · exact ⟨leV_refl _, leV_int en, leV_refl _, leV_refl _, leV_refl _, leV_refl _, leV_refl _, leV_refl _, trivial⟩
  · exact ⟨⟨leV_int emin, leV_int emax, trivial⟩, leL_refl _, leL_refl _, trivial⟩
  · rintro ⟨k, hk⟩
    have ej : w64 (w64 (w64 (b.r3 i + f.p) + k) - 1) = b.r3 i + f.p + k - 1 := by
      have q1 : w64 (b.r3 i + f.p) = b.r3 i + f.p := by rw [w64, wrap_in] <;> omega
      rw [q1]
      have q2 : w64 (b.r3 i + f.p + k) = b.r3 i + f.p + k := by rw [w64, wrap_in] <;> omega
      rw [q2, w64, wrap_in] <;> omega
    have hw : w64 ((k : Int) + 1) = ((k + 1 : Nat) : Int) := by rw [w64, wrap_in] <;> omega
    conv => whnf
    split
    · rename_i hb
      have hlt : k < b.nl + 2 := by
        have hb' : decide ((k : Int) < ((b.nl + 2 : Nat) : Int)) = true := hb
        simp at hb'; omega
      conv => whnf
      refine .mk _ _ _ _ _ (leL_refl _) (c_shift _ _ _ _ _ _ _ _ _ _ _ _) rfl ?_
      conv => whnf
      split
      · rename_i g1
        have g1 : decide (w64 (w64 (w64 (b.r3 i + f.p) + k) - 1) > b.infl f i (a + 1) d) = true := g1
        rw [ej] at g1
        conv => whnf
        split
        · rename_i g2
          have g2 : decide (w64 (w64 (w64 (b.r3 i + f.p) + k) - 1) < b.infl f i a d) = true := g2
          rw [ej] at g2
          simp at g1 g2
          have hs : b.stp f i a d (k + 1) = (min (b.stp f i a d k).1 (b.of f i (b.r3 i + f.p + k - 1)), max (b.stp f i a d k).2 (b.of f i (b.r3 i + f.p + k - 1))) := by
            show (if _ then _ else _) = _
            rw [if_pos ⟨g1, g2⟩]; rfl
          conv => whnf
          refine .mk 13 (by kernel_rfl) ?_
          conv => whnf
          first | refine CALLQ.mk _ _ _ (leL_refl _) (c_ofP _ _ 2 b f i h hn _ _ ej (by omega) (by omega) rfl) rfl ?_ | refine CALL0.mk _ _ _ _ _ (leL_refl _) (c_ofP _ _ 2 b f i h hn _ _ ej (by omega) (by omega) rfl) rfl ?_
          conv => whnf
          first | refine CALLQ.mk _ _ _ (leL_refl _) (c_ofP _ _ 2 b f i h hn _ _ ej (by omega) (by omega) rfl) rfl ?_ | refine CALL0.mk _ _ _ _ _ (leL_refl _) (c_ofP _ _ 2 b f i h hn _ _ ej (by omega) (by omega) rfl) rfl ?_
          conv => whnf
          refine ⟨⟨k + 1, hlt⟩, ⟨⟨leV_int hw, leV_refl _, leV_refl _, leV_refl _, leV_refl _, leV_refl _, leV_refl _, leV_refl _, trivial⟩, ⟨⟨leV_int ?_, leV_int ?_, trivial⟩, leL_refl _, leL_refl _, trivial⟩, rfl, rfl⟩, ?_⟩
          · show (if b.of f i (b.r3 i + f.p + k - 1) < (b.stp f i a d k).1 then b.of f i (b.r3 i + f.p + k - 1) else (b.stp f i a d k).1) = _
            rw [hs]; simp only; omega
          · show (if b.of f i (b.r3 i + f.p + k - 1) > (b.stp f i a d k).2 then b.of f i (b.r3 i + f.p + k - 1) else (b.stp f i a d k).2) = _
            rw [hs]; simp only; omega
          · show b.nl + 2 - (k + 1) < b.nl + 2 - k
            omega
        · rename_i g2
          have g2 : decide (w64 (w64 (w64 (b.r3 i + f.p) + k) - 1) < b.infl f i a d) = false := g2
          rw [ej] at g2
          simp at g1 g2
          have hs : b.stp f i a d (k + 1) = b.stp f i a d k := by
            show (if _ then _ else _) = _
            exact if_neg fun g => absurd g.2 (Int.not_lt.2 g2)
          conv => whnf
          refine ⟨⟨k + 1, hlt⟩, ⟨⟨leV_int hw, leV_refl _, leV_refl _, leV_refl _, leV_refl _, leV_refl _, leV_refl _, leV_refl _, trivial⟩, ⟨⟨leV_int ?_, leV_int ?_, trivial⟩, leL_refl _, leL_refl _, trivial⟩, rfl, rfl⟩, ?_⟩
          · show (b.stp f i a d k).1 = _
            rw [hs]
          · show (b.stp f i a d k).2 = _
            rw [hs]
          · show b.nl + 2 - (k + 1) < b.nl + 2 - k
            omega
      · rename_i g1
        have g1 : decide (w64 (w64 (w64 (b.r3 i + f.p) + k) - 1) > b.infl f i (a + 1) d) = false := g1
        rw [ej] at g1
        simp at g1
        have hs : b.stp f i a d (k + 1) = b.stp f i a d k := by
          show (if _ then _ else _) = _
          exact if_neg fun g => absurd g.1 (Int.not_lt.2 g1)
        conv => whnf
        refine ⟨⟨k + 1, hlt⟩, ⟨⟨leV_int hw, leV_refl _, leV_refl _, leV_refl _, leV_refl _, leV_refl _, leV_refl _, leV_refl _, trivial⟩, ⟨⟨leV_int ?_, leV_int ?_, trivial⟩, leL_refl _, leL_refl _, trivial⟩, rfl, rfl⟩, ?_⟩
        · show (b.stp f i a d k).1 = _
          rw [hs]
        · show (b.stp f i a d k).2 = _
          rw [hs]
        · show b.nl + 2 - (k + 1) < b.nl + 2 - k
          omega
    · rename_i hb
      have : k = b.nl + 2 := by
        have hb' : decide ((k : Int) < ((b.nl + 2 : Nat) : Int)) = false := hb
        simp at hb'; omega
      subst this
      conv => whnf
      exact ⟨rfl, rfl⟩

theorem c_thrust1 (ce : Ces) (up : List Ces) (k m : Nat) (b : Bl) (f : Fl) (i : Nat) (h : b.ok f i) (a : Int) (d : Nat) (hd : d ≤ 12) (x x' : Int) (e' : x' = x) (h0 : 0 ≤ x) (h1 : x ≤ 2 ^ d)
    (hx : lookC ce k = some [.int .i64 a, .int .i64 d]) (hs : lookC ce m = some (secC b f i)) :
    Cs gl n_rotor_section_thrust_1 (ce :: up) [.int .i64 x', .ptr 1 k 0, .ptr 1 m 0] (.int .i64 (thrustP (b.r1 i) x d)) (ce :: up) := by
  subst e'
  refine mk h_rotor_section_thrust_1 rfl rfl ?_
  have e := (thrustP_bound h hd h0 h1).2.2
  conv => whnf
  refine .mk 12 (by kernel_rfl) ?_
  conv => whnf
  split
  rotate_left
  · rename_i h; exact absurd (hx.symm.trans h) nofun
  rename_i c0 h
  obtain rfl := Option.some.inj (hx.symm.trans h)
  clear h
  conv => whnf
  split
  rotate_left
  · rename_i h; exact absurd (hs.symm.trans h) nofun
  rename_i c0 h
  obtain rfl := Option.some.inj (hs.symm.trans h)
  clear h
  conv => whnf
  refine ⟨?_, rfl⟩
  rw [← e]; rfl

theorem c_thrust (up : List Ces) (b : Bl) (f : Fl) (i : Nat) (h : b.ok f i) (a : Int) (d : Nat) (hd : d ≤ 12) (h0 : 0 ≤ a) (h1 : a + 1 ≤ 2 ^ d) :
    Cs gl n_rotor_section_thrust up [secAt b f i, .agg [.int .i64 a, .int .i64 d]] (.agg [.int .i64 (b.thr i a d).1, .int .i64 (b.thr i a d).2]) up := by
  refine mk h_rotor_section_thrust rfl rfl ?_
  have hp := two_pos d
  have hl := pow_le12 hd
  have e1 : w64 (a + 1) = a + 1 := by rw [w64, wrap_in] <;> omega
  conv => whnf
  refine .mk 10 (by kernel_rfl) ?_
  conv => whnf
  first | refine CALLQ.mk _ _ _ (leL_refl _) (c_thrust1 _ _ 3 2 b f i h a d hd _ _ rfl h0 (by omega) rfl rfl) rfl ?_ | refine CALL0.mk _ _ _ _ _ (leL_refl _) (c_thrust1 _ _ 3 2 b f i h a d hd _ _ rfl h0 (by omega) rfl rfl) rfl ?_
  conv => whnf
  first | refine CALLQ.mk _ _ _ (leL_refl _) (c_thrust1 _ _ 3 2 b f i h a d hd _ _ e1 (by omega) h1 rfl rfl) rfl ?_ | refine CALL0.mk _ _ _ _ _ (leL_refl _) (c_thrust1 _ _ 3 2 b f i h a d hd _ _ e1 (by omega) h1 rfl rfl) rfl ?_
  conv => whnf
  exact ⟨rfl, rfl⟩

end Go.Proofs.YtllmejkmogepjaaDoor.Ix
