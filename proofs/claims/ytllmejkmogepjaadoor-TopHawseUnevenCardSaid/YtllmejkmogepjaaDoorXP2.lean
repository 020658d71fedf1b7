/-
  P2: without wraps: within the bounds of valid blades and flows what the code reckons is the plain law's word.
-/
import Derived.Test.YtllmejkmogepjaaDoorXD1
import Derived.Test.YtllmejkmogepjaaDoorXP1
namespace Go.Proofs.YtllmejkmogepjaaDoor.Ix

theorem mulB {x y A B : Int} (h1 : 0 ≤ x) (h2 : x ≤ A) (h3 : 0 ≤ y) (h4 : y ≤ B) : 0 ≤ x * y ∧ x * y ≤ A * B := by
  refine ⟨Int.mul_nonneg h1 h3, ?_⟩
  have g1 := Int.mul_le_mul_of_nonneg_right h2 h3
  have g2 := Int.mul_le_mul_of_nonneg_left h4 (show 0 ≤ A by omega)
  omega

theorem pow_le12 {d : Nat} (h : d ≤ 12) : (2 : Int) ^ d ≤ 4096 := by
  have : d = 0 ∨ d = 1 ∨ d = 2 ∨ d = 3 ∨ d = 4 ∨ d = 5 ∨ d = 6 ∨ d = 7 ∨ d = 8 ∨ d = 9 ∨ d = 10 ∨ d = 11 ∨ d = 12 := by omega
  rcases this with h|h|h|h|h|h|h|h|h|h|h|h|h <;> subst h <;> decide

variable {n : Nat} {lf df : Nat → Int} {r c t tip w s p : Int}

theorem wholeW_eq {d : Nat} (h : d ≤ 12) : wholeW d = 2 ^ d := by
  unfold wholeW
  have h1 := two_pos d
  have h2 := pow_le12 h
  rw [show min (d : Int).toNat 64 = d by omega, Int.one_mul, w64, wrap_in] <;> omega

theorem halfW_eq {d : Nat} (h : d ≤ 12) (h1 : 1 ≤ d) : halfW d = 2 ^ (d - 1) := by
  unfold halfW
  have e : w64 ((d : Int) - 1) = ((d - 1 : Nat) : Int) := by rw [w64, wrap_in] <;> omega
  rw [e]
  exact wholeW_eq (d := d - 1) (by omega)

theorem denW_eq (h : SecOK n lf df r c t tip w s p) {d : Nat} (hd : d ≤ 12) : denW r s d = 2 ^ d * s * r := by
  unfold denW
  rw [wholeW_eq hd]
  have h1 := two_pos d
  have h2 := pow_le12 hd
  have hs := h.s
  have hr := h.r
  have b1 := mulB (x := 2 ^ d) (y := s) (A := 4096) (B := 1000) (by omega) h2 (by omega) (by omega)
  have b2 := mulB (x := 2 ^ d * s) (y := r) (A := 4096 * 1000) (B := 200) b1.1 b1.2 (by omega) (by omega)
  have e1 : w64 (2 ^ d * s) = 2 ^ d * s := by rw [w64, wrap_in] <;> omega
  rw [e1, w64, wrap_in] <;> omega

theorem inflowW_eq (h : SecOK n lf df r c t tip w s p) {a : Int} {d : Nat} (hd : d ≤ 12) (h0 : 0 ≤ a) (h1 : a ≤ 2 ^ d) : inflowW r w s a d = inflP r w s a d := by
  unfold inflowW
  rw [denW_eq h hd, wholeW_eq hd]
  have q1 := two_pos d
  have q2 := pow_le12 hd
  have hw := h.w
  have e1 : w64 (2 ^ d - a) = 2 ^ d - a := by rw [w64, wrap_in] <;> omega
  have e2 : w64 (1024 * (2 ^ d - a)) = 1024 * (2 ^ d - a) := by rw [w64, wrap_in] <;> omega
  have b1 := mulB (x := 1024 * (2 ^ d - a)) (y := w) (A := 1024 * 4096) (B := 50) (by omega) (by omega) (by omega) (by omega)
  have e3 : w64 (1024 * (2 ^ d - a) * w) = 1024 * (2 ^ d - a) * w := by rw [w64, wrap_in] <;> omega
  rw [e1, e2, e3, Int.tdiv_eq_ediv_of_nonneg b1.1]
  show w64 (inflP r w s a d) = _
  have g1 := inflP_nonneg h h1
  have g2 := inflP_le h (d := d) h0
  rw [w64, wrap_in] <;> omega

theorem minW_eq (a b : Int) : minW a b = min a b := by unfold minW; omega
theorem maxW_eq (a b : Int) : maxW a b = max a b := by unfold maxW; omega

theorem classW_eq (h : SecOK n lf df r c t tip w s p) {x : Int} (h1 : -1000000 ≤ x) (h2 : x ≤ 1000000) : classW n t p x = clsP n t p x := by
  unfold classW clsP
  have ht := h.t
  have hp := h.p
  have hn := h.n1
  have e1 : w64 (t + p) = t + p := by rw [w64, wrap_in] <;> omega
  rw [e1]
  have e2 : w64 (x - (t + p)) = x - (t + p) := by rw [w64, wrap_in] <;> omega
  have e3 : w64 ((n : Int) - 1) = n - 1 := by rw [w64, wrap_in] <;> omega
  rw [e2, e3, minW_eq, maxW_eq]

theorem infl_class (h : SecOK n lf df r c t tip w s p) {a : Int} {d : Nat} (hd : d ≤ 12) (h0 : 0 ≤ a) (h1 : a ≤ 2 ^ d) : classW n t p (inflowW r w s a d) = clsP n t p (inflP r w s a d) := by
  rw [inflowW_eq h hd h0 h1]
  have g1 := inflP_nonneg h h1
  have g2 := inflP_le h (d := d) h0
  exact classW_eq h (by omega) (by omega)

theorem balOK (h : SecOK n lf df r c t tip w s p) {a : Int} {d : Nat} (hd : d ≤ 12) (h0 : 0 ≤ a) (h1 : a ≤ 2 ^ d) : BalOK n r t w s p a d := by
  have hc := clsP_lo h (inflP r w s a d)
  refine ⟨by omega, ?_, ?_, ?_⟩
  · rw [denW_eq h hd]; have := den_pos h d; omega
  · rw [infl_class h hd h0 h1]; exact hc.1
  · rw [infl_class h hd h0 h1]; exact hc.2

theorem balanceW_eq (h : SecOK n lf df r c t tip w s p) {a : Int} {d : Nat} (hd : d ≤ 12) (h0 : 0 ≤ a) (h1 : a ≤ 2 ^ d) : balanceW n lf r c t tip w s p a d = balP n lf r c t tip w s p a d := by
  unfold balanceW balP
  rw [infl_class h hd h0 h1, wholeW_eq hd]
  have q1 := two_pos d
  have q2 := pow_le12 hd
  have hc := clsP_lo h (inflP r w s a d)
  have hl := h.lf0 (clsP n t p (inflP r w s a d)).toNat (by omega)
  have hr := h.r
  have hcc := h.c
  have htip := h.tip
  generalize lf (clsP n t p (inflP r w s a d)).toNat = l at *
  have e0 : w64 (1024 * a) = 1024 * a := by rw [w64, wrap_in] <;> omega
  have e1 : w64 (2 ^ d - a) = 2 ^ d - a := by rw [w64, wrap_in] <;> omega
  have b1 := mulB (x := 1024 * a) (y := 2 ^ d - a) (A := 1024 * 4096) (B := 4096) (by omega) (by omega) (by omega) (by omega)
  have e2 : w64 (1024 * a * (2 ^ d - a)) = 1024 * a * (2 ^ d - a) := by rw [w64, wrap_in] <;> omega
  have b2 := mulB (x := 1024 * a * (2 ^ d - a)) (y := r) (A := 1024 * 4096 * 4096) (B := 200) b1.1 b1.2 (by omega) (by omega)
  have e3 : w64 (1024 * a * (2 ^ d - a) * r) = 1024 * a * (2 ^ d - a) * r := by rw [w64, wrap_in] <;> omega
  have b3 := mulB (x := 2 ^ d) (y := 2 ^ d) (A := 4096) (B := 4096) (by omega) (by omega) (by omega) (by omega)
  have e4 : w64 ((2 : Int) ^ d * 2 ^ d) = 2 ^ d * 2 ^ d := by rw [w64, wrap_in] <;> omega
  have b4 := mulB (x := 2 ^ d * 2 ^ d) (y := c) (A := 4096 * 4096) (B := 100) b3.1 b3.2 (by omega) (by omega)
  have e5 : w64 ((2 : Int) ^ d * 2 ^ d * c) = 2 ^ d * 2 ^ d * c := by rw [w64, wrap_in] <;> omega
  have b5 := mulB (x := 2 ^ d * 2 ^ d * c) (y := tip) (A := 4096 * 4096 * 100) (B := 256) b4.1 b4.2 (by omega) (by omega)
  have e6 : w64 ((2 : Int) ^ d * 2 ^ d * c * tip) = 2 ^ d * 2 ^ d * c * tip := by rw [w64, wrap_in] <;> omega
  have b6 := mulB (x := 2 ^ d * 2 ^ d * c * tip) (y := l) (A := 4096 * 4096 * 100 * 256) (B := 1000) b5.1 b5.2 (by omega) (by omega)
  have e7 : w64 ((2 : Int) ^ d * 2 ^ d * c * tip * l) = 2 ^ d * 2 ^ d * c * tip * l := by rw [w64, wrap_in] <;> omega
  rw [e0, e1, e2, e3, e4, e5, e6, e7, w64, wrap_in] <;> omega

theorem balP_bound (h : SecOK n lf df r c t tip w s p) {a : Int} {d : Nat} (hd : d ≤ 12) (h0 : 0 ≤ a) (h1 : a ≤ 2 ^ d) : -1000000000000000 ≤ balP n lf r c t tip w s p a d ∧ balP n lf r c t tip w s p a d ≤ 1000000000000000 := by
  unfold balP
  have q1 := two_pos d
  have q2 := pow_le12 hd
  have hc := clsP_lo h (inflP r w s a d)
  have hl := h.lf0 (clsP n t p (inflP r w s a d)).toNat (by omega)
  have hr := h.r
  have hcc := h.c
  have htip := h.tip
  generalize lf (clsP n t p (inflP r w s a d)).toNat = l at *
  have b1 := mulB (x := 1024 * a) (y := 2 ^ d - a) (A := 1024 * 4096) (B := 4096) (by omega) (by omega) (by omega) (by omega)
  have b2 := mulB (x := 1024 * a * (2 ^ d - a)) (y := r) (A := 1024 * 4096 * 4096) (B := 200) b1.1 b1.2 (by omega) (by omega)
  have b3 := mulB (x := 2 ^ d) (y := 2 ^ d) (A := 4096) (B := 4096) (by omega) (by omega) (by omega) (by omega)
  have b4 := mulB (x := 2 ^ d * 2 ^ d) (y := c) (A := 4096 * 4096) (B := 100) b3.1 b3.2 (by omega) (by omega)
  have b5 := mulB (x := 2 ^ d * 2 ^ d * c) (y := tip) (A := 4096 * 4096 * 100) (B := 256) b4.1 b4.2 (by omega) (by omega)
  have b6 := mulB (x := 2 ^ d * 2 ^ d * c * tip) (y := l) (A := 4096 * 4096 * 100 * 256) (B := 1000) b5.1 b5.2 (by omega) (by omega)
  omega

theorem ofP_bound (h : SecOK n lf df r c t tip w s p) {x : Int} (h1 : -100000 ≤ x) (h2 : x ≤ 100000) : -1000000000000000 ≤ ofP n lf df r c t tip p x ∧ ofP n lf df r c t tip p x ≤ 1000000000000000 ∧ ofW n lf df r c t tip p x = ofP n lf df r c t tip p x := by
  unfold ofP ofW
  rw [classW_eq h (by omega) (by omega)]
  have hc := clsP_lo h x
  have hl := h.lf0 (clsP n t p x).toNat (by omega)
  have hd := h.df0 (clsP n t p x).toNat (by omega)
  have hr := h.r
  have hcc := h.c
  have htip := h.tip
  generalize lf (clsP n t p x).toNat = l at *
  generalize df (clsP n t p x).toNat = g at *
  have b1 := mulB (x := r) (y := c) (A := 200) (B := 100) (by omega) (by omega) (by omega) (by omega)
  have e1 : w64 (r * c) = r * c := by rw [w64, wrap_in] <;> omega
  have b2 := mulB (x := r * c) (y := tip) (A := 200 * 100) (B := 256) b1.1 b1.2 (by omega) (by omega)
  have e2 : w64 (r * c * tip) = r * c * tip := by rw [w64, wrap_in] <;> omega
  have b3 : -(100000 * 1000) ≤ x * l ∧ x * l ≤ 100000 * 1000 := by
    by_cases hx : 0 ≤ x
    · have := mulB (x := x) (y := l) (A := 100000) (B := 1000) hx h2 (by omega) (by omega); omega
    · have := mulB (x := -x) (y := l) (A := 100000) (B := 1000) (by omega) (by omega) (by omega) (by omega)
      rw [Int.neg_mul] at this; omega
  have e3 : w64 (x * l) = x * l := by rw [w64, wrap_in] <;> omega
  have e4 : w64 (1024 * g) = 1024 * g := by rw [w64, wrap_in] <;> omega
  have e5 : w64 (x * l - 1024 * g) = x * l - 1024 * g := by rw [w64, wrap_in] <;> omega
  rw [e1, e2, e3, e4, e5]
  have hy : -110000000 ≤ x * l - 1024 * g ∧ x * l - 1024 * g ≤ 110000000 := by omega
  generalize r * c * tip = q at *
  generalize x * l - 1024 * g = y at *
  have b6 : -(5120000 * 110000000) ≤ q * y ∧ q * y ≤ 5120000 * 110000000 := by
    by_cases hx : 0 ≤ y
    · have := mulB (x := q) (y := y) (A := 5120000) (B := 110000000) b2.1 (by omega) hx (by omega); omega
    · have := mulB (x := q) (y := -y) (A := 5120000) (B := 110000000) b2.1 (by omega) (by omega) (by omega)
      rw [Int.mul_neg] at this; omega
  refine ⟨by omega, by omega, ?_⟩
  rw [w64, wrap_in] <;> omega

theorem thrustP_bound (h : SecOK n lf df r c t tip w s p) {a : Int} {d : Nat} (hd : d ≤ 12) (h0 : 0 ≤ a) (h1 : a ≤ 2 ^ d) : 0 ≤ thrustP r a d ∧ thrustP r a d ≤ 1000000000000000 ∧ w64 (w64 (w64 (1024 * a) * w64 (wholeW d - a)) * r) = thrustP r a d := by
  unfold thrustP
  rw [wholeW_eq hd]
  have q1 := two_pos d
  have q2 := pow_le12 hd
  have hr := h.r
  have e0 : w64 (1024 * a) = 1024 * a := by rw [w64, wrap_in] <;> omega
  have e1 : w64 (2 ^ d - a) = 2 ^ d - a := by rw [w64, wrap_in] <;> omega
  have b1 := mulB (x := 1024 * a) (y := 2 ^ d - a) (A := 1024 * 4096) (B := 4096) (by omega) (by omega) (by omega) (by omega)
  have e2 : w64 (1024 * a * (2 ^ d - a)) = 1024 * a * (2 ^ d - a) := by rw [w64, wrap_in] <;> omega
  have b2 := mulB (x := 1024 * a * (2 ^ d - a)) (y := r) (A := 1024 * 4096 * 4096) (B := 200) b1.1 b1.2 (by omega) (by omega)
  rw [e0, e1, e2]
  refine ⟨b2.1, by omega, ?_⟩
  rw [w64, wrap_in] <;> omega

/-! The search. -/
theorem searchS_br (f : Int → Int) : ∀ (m : Nat) (lo hi : Int), lo < hi → hi - lo ≤ m → f lo ≤ 0 → 0 < f hi →
    lo ≤ searchS f m lo hi ∧ searchS f m lo hi < hi ∧ f (searchS f m lo hi) ≤ 0 ∧ 0 < f (searchS f m lo hi + 1)
  | 0, lo, hi, h1, h2, _, _ => by omega
  | m + 1, lo, hi, h1, h2, h3, h4 => by
    simp only [searchS]
    by_cases e : hi - lo > 1
    · rw [decide_eq_true e, cond_true]
      by_cases e2 : f ((lo + hi) / 2) ≤ 0
      · rw [decide_eq_true e2, cond_true]
        have := searchS_br f m ((lo + hi) / 2) hi (by omega) (by omega) e2 h4
        exact ⟨by omega, this.2⟩
      · rw [decide_eq_false e2, cond_false]
        have := searchS_br f m lo ((lo + hi) / 2) (by omega) (by omega) h3 (by omega)
        exact ⟨this.1, by omega, this.2.2⟩
    · rw [decide_eq_false e, cond_false]
      exact ⟨Int.le_refl _, h1, h3, by rw [show lo + 1 = hi by omega]; exact h4⟩

theorem searchS_congr {f g : Int → Int} : ∀ (m : Nat) (lo hi : Int), (∀ a, lo ≤ a → a ≤ hi → f a = g a) → searchS f m lo hi = searchS g m lo hi
  | 0, lo, hi, _ => rfl
  | m + 1, lo, hi, h => by
    simp only [searchS]
    by_cases e : hi - lo > 1
    · rw [decide_eq_true e, cond_true, cond_true, h ((lo + hi) / 2) (by omega) (by omega)]
      rw [searchS_congr m _ hi (fun a h1 h2 => h a (by omega) h2), searchS_congr m lo _ (fun a h1 h2 => h a h1 (by omega))]
    · rw [decide_eq_false e, cond_false, cond_false]

/-- The bracket at the depth 'd + 1', if there is one. -/
def brP (n : Nat) (lf : Nat → Int) (r c t tip w s p : Int) (d : Nat) : Option Int := findS (fun a => balP n lf r c t tip w s p a (d + 1)) (2 ^ d)

theorem brP_some (h : SecOK n lf df r c t tip w s p) {d : Nat} {a : Int} : brP n lf r c t tip w s p d = some a ↔ IsBr (fun a => balP n lf r c t tip w s p a (d + 1)) (2 ^ d) a := by
  have key : 0 < balP n lf r c t tip w s p (2 ^ d) (d + 1) → IsBr (fun a => balP n lf r c t tip w s p a (d + 1)) (2 ^ d) (searchS (fun a => balP n lf r c t tip w s p a (d + 1)) (2 ^ d : Int).toNat 0 (2 ^ d)) := by
    intro hp
    exact searchS_br (fun a => balP n lf r c t tip w s p a (d + 1)) _ 0 (2 ^ d) (two_pos d) (by have := two_pos d; omega) (balP_zero h _) hp
  constructor
  · intro hb
    unfold brP findS at hb
    by_cases e : balP n lf r c t tip w s p (2 ^ d) (d + 1) ≤ 0
    · simp [e] at hb
    · simp [e] at hb
      rw [← hb]; exact key (by omega)
  · intro hb
    have hp : 0 < balP n lf r c t tip w s p (2 ^ d) (d + 1) := by
      have := balP_mono h (a := a + 1) (b := 2 ^ d) (d := d + 1) (by have := hb.2.1; omega) (by have := hb.2.1; rw [Int.pow_succ]; omega)
      have := hb.2.2.2
      simp only at this; omega
    unfold brP findS
    have e : ¬ balP n lf r c t tip w s p (2 ^ d) (d + 1) ≤ 0 := by omega
    simp only [e, decide_false, cond_false]
    rw [(key hp).uniq h hb]

theorem brP_none {d : Nat} : brP n lf r c t tip w s p d = none ↔ balP n lf r c t tip w s p 1 1 ≤ 0 := by
  unfold brP findS
  simp only [balP_half]
  have : (0 : Int) < 4 ^ d := Int.pow_pos (by decide)
  have h1 : 4 ^ d * balP n lf r c t tip w s p 1 1 ≤ 0 ↔ balP n lf r c t tip w s p 1 1 ≤ 0 := by
    constructor
    · intro hq
      by_cases e : 0 < balP n lf r c t tip w s p 1 1
      · have := Int.mul_pos this e; omega
      · omega
    · intro hq
      have := Int.mul_nonneg (show (0 : Int) ≤ 4 ^ d by omega) (show 0 ≤ - balP n lf r c t tip w s p 1 1 by omega)
      rw [Int.mul_neg] at this; omega
  by_cases e : 4 ^ d * balP n lf r c t tip w s p 1 1 ≤ 0
  · simp [e, h1.1 e]
  · have e' : ¬ balP n lf r c t tip w s p 1 1 ≤ 0 := fun q => e (h1.2 q)
    simp [e, e']

/-- Brackets of two depths, one within the other. -/
theorem brP_deep (h : SecOK n lf df r c t tip w s p) {d : Nat} {a : Int} (ha : brP n lf r c t tip w s p d = some a) : ∀ k : Nat, ∃ a', brP n lf r c t tip w s p (d + k) = some a' ∧ 2 ^ k * a ≤ a' ∧ a' + 1 ≤ 2 ^ k * (a + 1)
  | 0 => ⟨a, ha, by simp, by simp⟩
  | k + 1 => by
    obtain ⟨a', h1, h2, h3⟩ := brP_deep h ha k
    have := ((brP_some h).1 h1).finer
    refine ⟨_, (brP_some h).2 this, ?_, ?_⟩
    · rw [Int.pow_succ]; split <;> grind
    · rw [Int.pow_succ]; split <;> grind

end Go.Proofs.YtllmejkmogepjaaDoor.Ix
