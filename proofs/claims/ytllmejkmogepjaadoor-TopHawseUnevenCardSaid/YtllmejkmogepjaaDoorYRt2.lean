/-
  Rt2: what TopHawseFinest asks, told of brackets, torques and thrusts: the brackets of all depths lie one in another, and so do the sums of torques and thrusts.
-/
import Derived.Test.YtllmejkmogepjaaDoorYRt1
namespace Go.Proofs.YtllmejkmogepjaaDoor.Ix
open Go.Proofs
set_option maxRecDepth 100000
set_option linter.unusedVariables false
variable {gl : Nat → IV}

/-- A valid blade in a valid flow. -/
structure Good (b : Bl) (f : Fl) : Prop where
  be : b.err = 0
  fe : f.err = 0

theorem Good.all {b : Bl} {f : Fl} (g : Good b f) : b.nd = b.nl ∧ 1 ≤ b.nr ∧ b.nr ≤ 16 ∧ ∀ i, i < b.nr → b.ok f i := Bl.good g.be g.fe

theorem Good.ring {b : Bl} {f : Fl} (g : Good b f) {i : Nat} (hi : i < b.nr) : ringErr b f i = 0 := by
  unfold ringErr
  rw [g.be, g.fe]
  have h1 : decide ((i : Int) < 0) = false := decide_eq_false (by omega)
  have h2 : decide ((i : Int) ≥ b.nr) = false := decide_eq_false (by omega)
  rw [h1, h2]; rfl

theorem dep_ok {D : Nat} (hD : D < 12) : withinS ((D + 1 : Nat) : Int) 1 12 = 0 := by rw [withinS_zero]; omega

theorem findR_ok {b : Bl} {f : Fl} (g : Good b f) {i : Nat} (hi : i < b.nr) {D : Nat} (hD : D < 12) :
    findR b f i ((D + 1 : Nat) : Int) = match b.br f i D with
      | none => .tup [.agg [.int .i64 0, .int .i64 0], .int .i64 7]
      | some a => .tup [.agg [.int .i64 a, .int .i64 ((D + 1 : Nat) : Int)], .int .i64 0] := by
  unfold findR
  simp only
  rw [g.ring hi, dep_ok hD]
  rw [show (((D + 1 : Nat) : Int) - 1).toNat = D by omega, show ((i : Int)).toNat = i by omega]
  rfl

theorem indErr_zero {a : Int} {D : Nat} (hD : D < 12) (h0 : 0 ≤ a) (h1 : a ≤ 2 ^ D) : indErr a ((D + 1 : Nat) : Int) = 0 := by
  unfold indErr
  rw [orE_zero, withinS_zero, withinS_zero, show (((D + 1 : Nat) : Int) - 1).toNat = D by omega]
  omega

theorem balR_ok {b : Bl} {f : Fl} (g : Good b f) {i : Nat} (hi : i < b.nr) {D : Nat} (hD : D < 12) {a : Int} (h0 : 0 ≤ a) (h1 : a ≤ 2 ^ D) :
    balR b f i a ((D + 1 : Nat) : Int) = .tup [.int .i64 (b.bal f i a (D + 1)), .int .i64 0] := by
  unfold balR
  simp only
  rw [g.ring hi, indErr_zero hD h0 h1]
  rw [show (((D + 1 : Nat) : Int)).toNat = D + 1 by omega, show ((i : Int)).toNat = i by omega]
  rfl

/-- The bracket of ring 'i' at the depth 'D + 1', if there is one. -/
def Bl.at (b : Bl) (f : Fl) (i D : Nat) : Int := (b.br f i D).getD 0

theorem br_at {b : Bl} {f : Fl} {i D : Nat} (h : (b.br f i D).isSome = true) : b.br f i D = some (b.at f i D) := by
  unfold Bl.at
  obtain ⟨a, ha⟩ := Option.isSome_iff_exists.1 h
  rw [ha]; rfl

theorem br_none_iff {b : Bl} {f : Fl} {i : Nat} (D E : Nat) : b.br f i D = none ↔ b.br f i E = none := by
  unfold Bl.br
  rw [brP_none, brP_none]

theorem br_some_all {b : Bl} {f : Fl} {i D : Nat} (h : (b.br f i D).isSome = true) (E : Nat) : (b.br f i E).isSome = true := by
  cases hE : b.br f i E with
  | none => rw [(br_none_iff D E).2 hE] at h; cases h
  | some a => rfl

theorem at_br {b : Bl} {f : Fl} {i D : Nat} (ok : b.ok f i) (h : (b.br f i D).isSome = true) : 0 ≤ b.at f i D ∧ b.at f i D < 2 ^ D ∧ b.bal f i (b.at f i D) (D + 1) ≤ 0 ∧ 0 < b.bal f i (b.at f i D + 1) (D + 1) :=
  (brP_some ok).1 (br_at h)

/-- The bracket one bit finer. -/
theorem at_next {b : Bl} {f : Fl} {i D : Nat} (ok : b.ok f i) (h : (b.br f i D).isSome = true) : b.at f i (D + 1) = if 0 < b.bal f i (2 * b.at f i D + 1) (D + 1 + 1) then 2 * b.at f i D else 2 * b.at f i D + 1 := by
  have h1 := ((brP_some ok).1 (br_at h)).finer
  have h2 := (brP_some ok).1 (br_at (br_some_all h (D + 1)))
  exact h2.uniq ok h1

theorem refineR_ok {b : Bl} {f : Fl} (g : Good b f) {i : Nat} (hi : i < b.nr) {D : Nat} (hD : D + 1 < 12) (h : (b.br f i D).isSome = true) :
    refineR b f i (b.at f i D) ((D + 1 : Nat) : Int) = .tup [.agg [.int .i64 (b.at f i (D + 1)), .int .i64 ((D + 1 + 1 : Nat) : Int)], .int .i64 0] := by
  have ok := g.all.2.2.2 i hi
  obtain ⟨a1, a2, a3, a4⟩ := at_br ok h
  have hp := Int.pow_succ (2 : Int) D
  have hd := balP_dbl b.nl b.lf (b.r1 i) (b.r2 i) (b.r3 i) (b.r4 i) f.w f.s f.p (b.at f i D) (D + 1)
  have hd : b.bal f i (2 * b.at f i D) (D + 1 + 1) = 4 * b.bal f i (b.at f i D) (D + 1) := hd
  have hbr : isBr b f i (b.at f i D) (D + 1) = true := by
    unfold isBr
    simp only [Bool.and_eq_true, decide_eq_true_eq]
    exact ⟨by simpa using a2, a3, a4⟩
  have hb2 : isBr b f i (2 * b.at f i D) (D + 1 + 1) = decide (0 < b.bal f i (2 * b.at f i D + 1) (D + 1 + 1)) := by
    unfold isBr
    rw [decide_eq_true (show 2 * b.at f i D < 2 ^ (D + 1 + 1 - 1) by show 2 * b.at f i D < 2 ^ (D + 1); omega), decide_eq_true (show b.bal f i (2 * b.at f i D) (D + 1 + 1) ≤ 0 by omega)]
    rfl
  unfold refineR brErr
  simp only
  rw [g.ring hi, indErr_zero (by omega) a1 (by omega)]
  rw [show (((D + 1 : Nat) : Int)).toNat = D + 1 by omega, show ((i : Int)).toNat = i by omega, hbr, hb2, at_next ok h]
  have h12 : ((((D + 1 : Nat) : Int)) == 12) = false := by
    rw [beq_eq_false_iff_ne]; omega
  rw [h12]
  have e : (((D + 1 : Nat) : Int)) + 1 = ((D + 1 + 1 : Nat) : Int) := by omega
  rw [e]
  by_cases q : 0 < b.bal f i (2 * b.at f i D + 1) (D + 1 + 1)
  · rw [decide_eq_true q, if_pos q]; rfl
  · rw [decide_eq_false q, if_neg q]; rfl

theorem at_deep {b : Bl} {f : Fl} {i D : Nat} (ok : b.ok f i) (h : (b.br f i D).isSome = true) (k : Nat) : 2 ^ k * b.at f i D ≤ b.at f i (D + k) ∧ b.at f i (D + k) + 1 ≤ 2 ^ k * (b.at f i D + 1) := by
  obtain ⟨a', h1, h2, h3⟩ := brP_deep ok (br_at h) k
  have : b.at f i (D + k) = a' := by
    have h1 : b.br f i (D + k) = some a' := h1
    unfold Bl.at; rw [h1]; rfl
  rw [this]; exact ⟨h2, h3⟩

/-! The sums. -/
def Bl.T (b : Bl) (f : Fl) (D : Nat) : Int × Int := (sumTo (fun i => (b.tor f i (b.at f i D) (D + 1)).1) b.nr, sumTo (fun i => (b.tor f i (b.at f i D) (D + 1)).2) b.nr)
def Bl.F (b : Bl) (f : Fl) (D : Nat) : Int × Int := (sumTo (fun i => (b.thr i (b.at f i D) (D + 1)).1) b.nr, sumTo (fun i => (b.thr i (b.at f i D) (D + 1)).2) b.nr)

theorem allBr_iff {b : Bl} {f : Fl} (D E : Nat) : allBr b f D ↔ allBr b f E := ⟨fun h i hi => br_some_all (h i hi) E, fun h i hi => br_some_all (h i hi) D⟩

theorem allErr_zero {b : Bl} {f : Fl} (g : Good b f) {D : Nat} (hD : D < 12) : allErr b f ((D + 1 : Nat) : Int) = 0 := by
  unfold allErr
  rw [g.be, g.fe, dep_ok hD]; rfl

theorem torR_ok {b : Bl} {f : Fl} (g : Good b f) {D : Nat} (hD : D < 12) :
    sumR b f ((D + 1 : Nat) : Int) (fun i a d => b.tor f i a d) = if allBr b f 0 then .tup [.agg [.int .i64 (b.T f D).1, .int .i64 (b.T f D).2], .int .i64 0] else .tup [.agg [.int .i64 0, .int .i64 0], .int .i64 7] := by
  unfold sumR
  rw [allErr_zero g hD, show (((D + 1 : Nat) : Int) - 1).toNat = D by omega, show (((D + 1 : Nat) : Int)).toNat = D + 1 by omega]
  by_cases h : allBr b f 0
  · rw [if_pos h, if_pos ((allBr_iff 0 D).1 h)]; rfl
  · rw [if_neg h, if_neg (fun q => h ((allBr_iff 0 D).2 q))]; rfl

theorem thrR_ok {b : Bl} {f : Fl} (g : Good b f) {D : Nat} (hD : D < 12) :
    sumR b f ((D + 1 : Nat) : Int) (fun i a d => b.thr i a d) = if allBr b f 0 then .tup [.agg [.int .i64 (b.F f D).1, .int .i64 (b.F f D).2], .int .i64 0] else .tup [.agg [.int .i64 0, .int .i64 0], .int .i64 7] := by
  unfold sumR
  rw [allErr_zero g hD, show (((D + 1 : Nat) : Int) - 1).toNat = D by omega, show (((D + 1 : Nat) : Int)).toNat = D + 1 by omega]
  by_cases h : allBr b f 0
  · rw [if_pos h, if_pos ((allBr_iff 0 D).1 h)]; rfl
  · rw [if_neg h, if_neg (fun q => h ((allBr_iff 0 D).2 q))]; rfl

theorem T_nested {b : Bl} {f : Fl} (g : Good b f) (h : allBr b f 0) (D k : Nat) : (b.T f D).1 ≤ (b.T f (D + k)).1 ∧ (b.T f (D + k)).2 ≤ (b.T f D).2 := by
  have key : ∀ i, i < b.nr → (b.tor f i (b.at f i D) (D + 1)).1 ≤ (b.tor f i (b.at f i (D + k)) (D + k + 1)).1 ∧ (b.tor f i (b.at f i (D + k)) (D + k + 1)).2 ≤ (b.tor f i (b.at f i D) (D + 1)).2 := fun i hi => by
    have ok := g.all.2.2.2 i hi
    obtain ⟨h1, h2⟩ := at_deep ok (br_some_all (h i hi) D) k
    have := torqueP_nested ok (d := D + 1) (k := k) h1 h2
    rw [show D + 1 + k = D + k + 1 by omega] at this
    exact this
  exact ⟨sumTo_le _ fun i hi => (key i hi).1, sumTo_le _ fun i hi => (key i hi).2⟩

theorem F_nested {b : Bl} {f : Fl} (g : Good b f) (h : allBr b f 0) (D k : Nat) (hk : D + k < 12) :
    4 ^ k * (b.F f D).1 ≤ (b.F f (D + k)).1 ∧ (b.F f (D + k)).2 ≤ 4 ^ k * (b.F f D).2 ∧ 0 ≤ 4 ^ k * (b.F f D).1 ∧ 4 ^ k * (b.F f D).2 ≤ 16 * 1000000000000000 ∧ 0 ≤ (b.F f (D + k)).1 ∧ (b.F f (D + k)).1 ≤ 16 * 1000000000000000 ∧ 0 ≤ (b.F f (D + k)).2 ∧ (b.F f (D + k)).2 ≤ 16 * 1000000000000000 := by
  have key : ∀ i, i < b.nr → 4 ^ k * (b.thr i (b.at f i D) (D + 1)).1 ≤ (b.thr i (b.at f i (D + k)) (D + k + 1)).1 ∧ (b.thr i (b.at f i (D + k)) (D + k + 1)).2 ≤ 4 ^ k * (b.thr i (b.at f i D) (D + 1)).2 ∧
      0 ≤ 4 ^ k * (b.thr i (b.at f i D) (D + 1)).1 ∧ 4 ^ k * (b.thr i (b.at f i D) (D + 1)).2 ≤ 1000000000000000 ∧ 0 ≤ (b.thr i (b.at f i (D + k)) (D + k + 1)).1 ∧ (b.thr i (b.at f i (D + k)) (D + k + 1)).1 ≤ 1000000000000000 ∧ 0 ≤ (b.thr i (b.at f i (D + k)) (D + k + 1)).2 ∧ (b.thr i (b.at f i (D + k)) (D + k + 1)).2 ≤ 1000000000000000 := fun i hi => by
    have ok := g.all.2.2.2 i hi
    obtain ⟨a1, a2, _, _⟩ := at_br ok (br_some_all (h i hi) D)
    obtain ⟨c1, c2, _, _⟩ := at_br ok (br_some_all (h i hi) (D + k))
    obtain ⟨h1, h2⟩ := at_deep ok (br_some_all (h i hi) D) k
    have hn := thrustP_nested (r := b.r1 i) (d := D) (k := k) (by have := ok.r; omega) a2 h1 h2
    rw [show D + 1 + k = D + k + 1 by omega] at hn
    have hp := two_pos k
    have hs := Int.pow_succ (2 : Int) (D + k)
    have e := Int.pow_add (2 : Int) D k
    have q1 : 2 ^ k * (b.at f i D + 1) ≤ 2 ^ k * 2 ^ D := Int.mul_le_mul_of_nonneg_left (by omega) (by omega)
    have q2 : 2 ^ k * (2 : Int) ^ D = 2 ^ D * 2 ^ k := Int.mul_comm _ _
    have q3 : 0 ≤ 2 ^ k * b.at f i D := Int.mul_nonneg (by omega) a1
    have q4 : 2 ^ k * b.at f i D ≤ 2 ^ k * (b.at f i D + 1) := Int.mul_le_mul_of_nonneg_left (by omega) (by omega)
    have m1 := thrustP_bound ok (d := D + k + 1) (a := 2 ^ k * b.at f i D) (by omega) q3 (by omega)
    have m2 := thrustP_bound ok (d := D + k + 1) (a := 2 ^ k * (b.at f i D + 1)) (by omega) (by omega) (by omega)
    have m3 := thrustP_bound ok (d := D + k + 1) (a := b.at f i (D + k)) (by omega) c1 (by omega)
    have m4 := thrustP_bound ok (d := D + k + 1) (a := b.at f i (D + k) + 1) (by omega) (by omega) (by omega)
    have s1 := thrustP_shift (b.r1 i) (b.at f i D) (D + 1) k
    have s2 := thrustP_shift (b.r1 i) (b.at f i D + 1) (D + 1) k
    rw [show D + 1 + k = D + k + 1 by omega] at s1 s2
    rw [s1] at m1
    rw [s2] at m2
    exact ⟨hn.1, hn.2, m1.1, m2.2.1, m3.1, m3.2.1, m4.1, m4.2.1⟩
  have hn := g.all.2.2.1
  have e1 : 4 ^ k * (b.F f D).1 = sumTo (fun i => 4 ^ k * (b.thr i (b.at f i D) (D + 1)).1) b.nr := (sumTo_mul _ _).symm
  have e2 : 4 ^ k * (b.F f D).2 = sumTo (fun i => 4 ^ k * (b.thr i (b.at f i D) (D + 1)).2) b.nr := (sumTo_mul _ _).symm
  have z : ∀ n, sumTo (fun _ => 0) n = 0 := fun n => by induction n with
    | zero => rfl
    | succ n ih => simp [sumTo, ih]
  have up : ∀ (x : Nat → Int), (∀ i, i < b.nr → x i ≤ 1000000000000000) → sumTo x b.nr ≤ 16 * 1000000000000000 := fun x hx => by
    have h1 := sumTo_le (h := fun _ => 1000000000000000) b.nr hx
    have h2 : ∀ n : Nat, sumTo (fun _ => 1000000000000000) n = n * 1000000000000000 := fun n => by induction n with
      | zero => rfl
      | succ n ih => simp only [sumTo, ih]; omega
    rw [h2] at h1; omega
  have dn : ∀ (x : Nat → Int), (∀ i, i < b.nr → 0 ≤ x i) → 0 ≤ sumTo x b.nr := fun x hx => by
    have h1 := sumTo_le (g := fun _ => 0) b.nr hx
    rw [z] at h1; exact h1
  rw [e1, e2]
  exact ⟨sumTo_le _ fun i hi => (key i hi).1, sumTo_le _ fun i hi => (key i hi).2.1, dn _ fun i hi => (key i hi).2.2.1, up _ fun i hi => (key i hi).2.2.2.1, dn _ fun i hi => (key i hi).2.2.2.2.1, up _ fun i hi => (key i hi).2.2.2.2.2.1,
    dn _ fun i hi => (key i hi).2.2.2.2.2.2.1, up _ fun i hi => (key i hi).2.2.2.2.2.2.2⟩
end Go.Proofs.YtllmejkmogepjaaDoor.Ix
