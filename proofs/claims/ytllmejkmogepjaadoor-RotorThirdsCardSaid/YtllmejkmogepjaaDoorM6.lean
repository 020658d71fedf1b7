/-
  Ll1: RotorLoads: the reference's components, merged loads and records, and the law.
-/
import Derived.Test.YtllmejkmogepjaaDoorM5
namespace Go.Proofs.YtllmejkmogepjaaDoor.Ix
open Go.Proofs
set_option maxRecDepth 100000
set_option linter.unusedVariables false
variable {gl : Nat → IV}

theorem c_rCheckLoads (up : List Ces) (a b c : Int) : Cs gl n_nacelleref03_CheckLoads up [.agg [.int .i64 a, .int .i64 b, .int .i64 c]] (.int .i64 (loadS a b c)) up := by
  refine mk h_nacelleref03_CheckLoads rfl rfl ?_
  conv => whnf
  refine .mk 11 (by kernel_rfl) ?_
  conv => whnf
  refine .mk _ _ _ (leL_refl _) (c_CheckRange _ _ _ _) rfl ?_
  conv => whnf
  refine .mk _ _ _ (leL_refl _) (c_CheckRange _ _ _ _) rfl ?_
  conv => whnf
  refine .mk _ _ _ (leL_refl _) (c_CheckRange _ _ _ _) rfl ?_
  conv => whnf
  refine .mk _ _ _ (leL_refl _) (c_rf3 _ _ _ _ _ rfl rfl rfl) rfl ?_
  conv => whnf
  exact ⟨rfl, rfl⟩

/-- The error of a record. -/
def recS (n : Nat) (x y z : Nat → Int) : Int := bif decide ((n : Int) > 400) then 5 else recE n x y z

theorem recR_u (n : Nat) (x y z : Nat → Int) (φ : Int → Int → Nat → Int × Int) : recR n x y z φ =
    .tup [.agg [.int .i64 (zE (recS n x y z) (sumTo (fun i => (φ (x i - z i) (y i - z i) i).1) n)), .int .i64 (zE (recS n x y z) (sumTo (fun i => (φ (x i - z i) (y i - z i) i).2) n))], .int .i64 (recS n x y z)] := by
  unfold recR recS
  cases decide ((n : Int) > 400) with
  | true => rfl
  | false =>
    simp only [cond_false]
    rw [tup_u2]

theorem c_rCheckRecord (up : List Ces) (n : Nat) (x y z : Nat → Int) : Cs gl n_nacelleref03_CheckRecord up [loadsI none n x y z] (.int .i64 (recS n x y z)) up := by
  refine mk h_nacelleref03_CheckRecord rfl rfl ?_
  unfold recS
  conv => whnf
  split
  · rename_i h
    have h : decide ((n : Int) > 400) = true := h
    conv => whnf
    refine ⟨?_, rfl⟩
    rw [h]; rfl
  · rename_i h
    have h : decide ((n : Int) > 400) = false := h
    rw [h, cond_false]
    have hn : n ≤ 400 := by simp at h; omega
    clear h
    obtain ⟨R, hR⟩ : ∃ R, R = recE n x y z := ⟨_, rfl⟩
    rw [← hR]
    unfold recE at hR
    conv => whnf
    refine .mk (α := {i : Nat // i ≤ n ∧ R = firstS (fun i => loadS (x i) (y i) (z i)) (n - i) i}) (fun i => ⟨[(3, .int .i64 i.1), (0, loadsI none n x y z)], [], up⟩) (fun i => n - i.1) ⟨0, Nat.zero_le _, hR⟩ ⟨⟨leV_refl _, leV_refl _, trivial⟩, trivial, rfl, rfl⟩ ?_
    rintro ⟨i, hi, hf⟩
    conv => whnf
    split
    · rename_i hb
      have hlt : i < n := by
        have hb' : decide ((i : Int) < n) = true := hb
        simpa using hb'
      have hstep : firstS (fun i => loadS (x i) (y i) (z i)) (n - i) i = orE (loadS (x i) (y i) (z i)) (firstS (fun i => loadS (x i) (y i) (z i)) (n - (i + 1)) (i + 1)) := by
        rw [show n - i = (n - (i + 1)) + 1 by omega]; rfl
      have hw : w64 ((i : Int) + 1) = ((i + 1 : Nat) : Int) := by rw [w64, wrap_in] <;> omega
      conv => whnf
      split
      rotate_left
      · rename_i h
        have h' : decide ((i : Int) < n) = false := h
        simp at h' <;> omega
      conv => whnf
      refine .mk _ _ _ _ _ (leL_refl _) (c_rCheckLoads _ _ _ _) rfl ?_
      conv => whnf
      split
      · rename_i h
        have h : (loadS (x i) (y i) (z i) != 0) = true := h
        conv => whnf
        refine ⟨?_, rfl⟩
        show IV.int .i64 (loadS (x i) (y i) (z i)) = _
        rw [hf, hstep, orE_pos h]
      · rename_i h
        have h : (loadS (x i) (y i) (z i) != 0) = false := h
        conv => whnf
        exact ⟨⟨i + 1, hlt, by rw [hf, hstep, orE_neg h]⟩, ⟨⟨leV_int hw, leV_refl _, trivial⟩, trivial, rfl, rfl⟩, (by show n - (i + 1) < n - i; omega)⟩
    · rename_i hb
      have : i = n := by
        have hb' : decide ((i : Int) < n) = false := hb
        simp at hb'; omega
      conv => whnf
      refine ⟨?_, rfl⟩
      show IV.int .i64 0 = _
      rw [hf, this, Nat.sub_self]; rfl

theorem c_rPlus (up : List Ces) (a b c d : Int) (h1 : i64 (a + c)) (h2 : i64 (b + d)) : Cs gl n_nacelleref03_Plus up [.agg [.int .i64 a, .int .i64 b], .agg [.int .i64 c, .int .i64 d]] (.agg [.int .i64 (a + c), .int .i64 (b + d)]) up := by
  refine mk h_nacelleref03_Plus rfl rfl ?_
  unfold i64 at h1 h2
  have e1 : w64 (a + c) = a + c := by rw [w64, wrap_in] <;> omega
  have e2 : w64 (b + d) = b + d := by rw [w64, wrap_in] <;> omega
  conv => whnf
  refine ⟨?_, rfl⟩
  show IV.agg [.int .i64 (w64 (a + c)), .int .i64 (w64 (b + d))] = _
  rw [e1, e2]

theorem c_rComponent (up : List Ces) (a b c : Int) (ha : -1000000 ≤ a ∧ a ≤ 1000000) (hb : -1000000 ≤ b ∧ b ≤ 1000000) (hc : -1000000 ≤ c ∧ c ≤ 1000000) :
    Cs gl n_nacelleref03_Component up [.agg [.int .i64 a, .int .i64 b, .int .i64 c]] (.agg [.int .i64 (a - c), .int .i64 (b - c)]) up := by
  refine mk h_nacelleref03_Component rfl rfl ?_
  have t1 : turnP b 0 1 = (0, b) := by
    unfold turnP
    rw [if_neg (by decide), if_pos (by decide)]; simp
  have t2 : turnP c 0 2 = (-c, -c) := by
    unfold turnP
    rw [if_neg (by decide), if_neg (by decide)]; simp
  have h1 := fun up => c_rTurn (gl := gl) up b 0 1 1000000 (by decide) hb (by decide)
  have h2 := fun up => c_rTurn (gl := gl) up c 0 2 1000000 (by decide) hc (by decide)
  rw [t1] at h1
  rw [t2] at h2
  conv => whnf
  refine .mk 13 (by kernel_rfl) ?_
  conv => whnf
  refine .mk _ _ _ (leL_refl _) (h1 _) rfl ?_
  conv => whnf
  refine .mk _ _ _ (leL_refl _) (h2 _) rfl ?_
  conv => whnf
  refine .mk _ _ _ (leL_refl _) (c_rPlus _ _ _ _ _ (by unfold i64; omega) (by unfold i64; omega)) rfl ?_
  conv => whnf
  refine .mk _ _ _ (leL_refl _) (c_rPlus _ _ _ _ _ (by unfold i64; omega) (by unfold i64; omega)) rfl ?_
  conv => whnf
  refine ⟨?_, rfl⟩
  rw [show a + (0 + -c) = a - c by omega, show 0 + (b + -c) = b - c by omega]

theorem turnP_bound (a b : Int) (n : Int) {A : Int} (h1 : -A ≤ a ∧ a ≤ A) (h2 : -A ≤ b ∧ b ≤ A) : (-(2 * A) ≤ (turnP a b n).1 ∧ (turnP a b n).1 ≤ 2 * A) ∧ (-(2 * A) ≤ (turnP a b n).2 ∧ (turnP a b n).2 ≤ 2 * A) := by
  rw [← turnK_eq]
  have := thirdS_cases n
  exact turnK_bound h1 h2 _ (by omega)

theorem sumTo_b {g : Nat → Int} (n : Nat) (hn : n ≤ 400) (h : ∀ i, i < n → -4000000 ≤ g i ∧ g i ≤ 4000000) : -1600000000 ≤ sumTo g n ∧ sumTo g n ≤ 1600000000 := by
  have := sumTo_bound (g := g) (B := 4000000) n fun i hi => h i hi
  have e : (n : Int) ≤ 400 := by omega
  have := Int.mul_le_mul_of_nonneg_right e (show (0 : Int) ≤ 4000000 by decide)
  omega

theorem c_rRotating (up : List Ces) (n : Nat) (hn : n ≤ 400) (x y z : Nat → Int) (hv : ∀ i, i < n → (-1000000 ≤ x i ∧ x i ≤ 1000000) ∧ (-1000000 ≤ y i ∧ y i ≤ 1000000) ∧ (-1000000 ≤ z i ∧ z i ≤ 1000000)) :
    Cs gl n_nacelleref03_Rotating up [loadsI none n x y z] (.agg [.int .i64 (sumTo (fun i => x i - z i) n), .int .i64 (sumTo (fun i => y i - z i) n)]) up := by
  refine mk h_nacelleref03_Rotating rfl rfl ?_
  have hS1 : ∀ k, k ≤ n → -1600000000 ≤ sumTo (fun i => x i - z i) k ∧ sumTo (fun i => x i - z i) k ≤ 1600000000 := fun k hk => sumTo_b k (by omega) fun i hi => by
    have := hv i (by omega)
    omega
  have hS2 : ∀ k, k ≤ n → -1600000000 ≤ sumTo (fun i => y i - z i) k ∧ sumTo (fun i => y i - z i) k ≤ 1600000000 := fun k hk => sumTo_b k (by omega) fun i hi => by
    have := hv i (by omega)
    omega
  conv => whnf
  refine .mk (α := {k : Nat // k ≤ n}) (fun k => ⟨[(4, .int .i64 k.1), (0, loadsI none n x y z), (2, .ptr 0 2 0), (3, .ptr 0 3 0)], [(3, [.int .i64 (sumTo (fun i => x i - z i) k.1), .int .i64 (sumTo (fun i => y i - z i) k.1)]), (2, [.int .i64 0, .int .i64 0])], up⟩) (fun k => n - k.1) ⟨0, Nat.zero_le _⟩ ⟨?_, ?_, rfl, rfl⟩ ?_
  · exact ⟨leV_refl _, leV_refl _, leV_refl _, leV_refl _, trivial⟩
  · exact ⟨leL_refl _, leL_refl _, trivial⟩
  rintro ⟨k, hk⟩
  have hw : w64 ((k : Int) + 1) = ((k + 1 : Nat) : Int) := by rw [w64, wrap_in] <;> omega
  conv => whnf
  split
  · rename_i hb
    have hlt : k < n := by
      have hb' : decide ((k : Int) < n) = true := hb
      simpa using hb'
    obtain ⟨q1, q2, q3⟩ := hv k hlt
    conv => whnf
    refine .mk 7 (by kernel_rfl) ?_
    conv => whnf
    split
    rotate_left
    · rename_i h
      have h' : decide ((k : Int) < n) = false := h
      simp at h' <;> omega
    conv => whnf
    refine .mk _ _ _ (leL_refl _) (c_rComponent _ _ _ _ q1 q2 q3) rfl ?_
    conv => whnf
    refine .mk _ _ _ (leL_refl _) (c_rPlus _ _ _ _ _ (show i64 (sumTo _ (k + 1)) from by have := hS1 (k + 1) hlt; unfold i64; omega) (show i64 (sumTo _ (k + 1)) from by have := hS2 (k + 1) hlt; unfold i64; omega)) rfl ?_
    conv => whnf
    exact ⟨⟨k + 1, hlt⟩, ⟨⟨leV_int hw, leV_refl _, leV_refl _, leV_refl _, trivial⟩, ⟨leL_refl _, leL_refl _, trivial⟩, rfl, rfl⟩, (by show n - (k + 1) < n - k; omega)⟩
  · rename_i hb
    have : k = n := by
      have hb' : decide ((k : Int) < n) = false := hb
      simp at hb'; omega
    subst this
    conv => whnf
    exact ⟨rfl, rfl⟩

theorem c_rFixed (up : List Ces) (n : Nat) (hn : n ≤ 400) (x y z : Nat → Int) (hv : ∀ i, i < n → (-1000000 ≤ x i ∧ x i ≤ 1000000) ∧ (-1000000 ≤ y i ∧ y i ≤ 1000000) ∧ (-1000000 ≤ z i ∧ z i ≤ 1000000)) :
    Cs gl n_nacelleref03_Fixed up [loadsI none n x y z] (.agg [.int .i64 (sumTo (fun i => (turnP (x i - z i) (y i - z i) i).1) n), .int .i64 (sumTo (fun i => (turnP (x i - z i) (y i - z i) i).2) n)]) up := by
  refine mk h_nacelleref03_Fixed rfl rfl ?_
  have hS1 : ∀ k, k ≤ n → -1600000000 ≤ sumTo (fun i => (turnP (x i - z i) (y i - z i) i).1) k ∧ sumTo (fun i => (turnP (x i - z i) (y i - z i) i).1) k ≤ 1600000000 := fun k hk => sumTo_b k (by omega) fun i hi => by
    have := hv i (by omega)
    have := turnP_bound (x i - z i) (y i - z i) i (A := 2000000) (by omega) (by omega)
    omega
  have hS2 : ∀ k, k ≤ n → -1600000000 ≤ sumTo (fun i => (turnP (x i - z i) (y i - z i) i).2) k ∧ sumTo (fun i => (turnP (x i - z i) (y i - z i) i).2) k ≤ 1600000000 := fun k hk => sumTo_b k (by omega) fun i hi => by
    have := hv i (by omega)
    have := turnP_bound (x i - z i) (y i - z i) i (A := 2000000) (by omega) (by omega)
    omega
  conv => whnf
  refine .mk (α := {k : Nat // k ≤ n}) (fun k => ⟨[(4, .int .i64 k.1), (0, loadsI none n x y z), (2, .ptr 0 2 0), (3, .ptr 0 3 0)], [(3, [.int .i64 (sumTo (fun i => (turnP (x i - z i) (y i - z i) i).1) k.1), .int .i64 (sumTo (fun i => (turnP (x i - z i) (y i - z i) i).2) k.1)]), (2, [.int .i64 0, .int .i64 0])], up⟩) (fun k => n - k.1) ⟨0, Nat.zero_le _⟩ ⟨?_, ?_, rfl, rfl⟩ ?_
  · exact ⟨leV_refl _, leV_refl _, leV_refl _, leV_refl _, trivial⟩
  · exact ⟨leL_refl _, leL_refl _, trivial⟩
  rintro ⟨k, hk⟩
  have hw : w64 ((k : Int) + 1) = ((k + 1 : Nat) : Int) := by rw [w64, wrap_in] <;> omega
  conv => whnf
  split
  · rename_i hb
    have hlt : k < n := by
      have hb' : decide ((k : Int) < n) = true := hb
      simpa using hb'
    obtain ⟨q1, q2, q3⟩ := hv k hlt
    conv => whnf
    refine .mk 9 (by kernel_rfl) ?_
    conv => whnf
    split
    rotate_left
    · rename_i h
      have h' : decide ((k : Int) < n) = false := h
      simp at h' <;> omega
    conv => whnf
    refine .mk _ _ _ (leL_refl _) (c_rComponent _ _ _ _ q1 q2 q3) rfl ?_
    conv => whnf
    refine .mk _ _ _ (leL_refl _) (c_rTurn _ (x k - z k) (y k - z k) k 2000000 (by decide) (by omega) (by omega)) rfl ?_
    conv => whnf
    refine .mk _ _ _ (leL_refl _) (c_rPlus _ _ _ _ _ (show i64 (sumTo _ (k + 1)) from by have := hS1 (k + 1) hlt; unfold i64; omega) (show i64 (sumTo _ (k + 1)) from by have := hS2 (k + 1) hlt; unfold i64; omega)) rfl ?_
    conv => whnf
    exact ⟨⟨k + 1, hlt⟩, ⟨⟨leV_int hw, leV_refl _, leV_refl _, leV_refl _, trivial⟩, ⟨leL_refl _, leL_refl _, trivial⟩, rfl, rfl⟩, (by show n - (k + 1) < n - k; omega)⟩
  · rename_i hb
    have : k = n := by
      have hb' : decide ((k : Int) < n) = false := hb
      simp at hb'; omega
    subst this
    conv => whnf
    exact ⟨rfl, rfl⟩

/-- The loads with a sum and a component, and the error. -/
def mergeQ (s a b : Int) : Int × Int × Int × Int :=
  bif (s - a - b).tmod 3 != 0 then (0, 0, 0, 30) else
    bif loadS (a + (s - a - b).tdiv 3) (b + (s - a - b).tdiv 3) ((s - a - b).tdiv 3) != 0 then (0, 0, 0, loadS (a + (s - a - b).tdiv 3) (b + (s - a - b).tdiv 3) ((s - a - b).tdiv 3))
    else (a + (s - a - b).tdiv 3, b + (s - a - b).tdiv 3, (s - a - b).tdiv 3, 0)

theorem mergeR_ok {s a b : Int} (h : mergeE s a b = 0) : mergeR s a b = .tup [.agg [.int .i64 (mergeQ s a b).1, .int .i64 (mergeQ s a b).2.1, .int .i64 (mergeQ s a b).2.2.1], .int .i64 (mergeQ s a b).2.2.2] := by
  unfold mergeR mergeQ
  rw [h]
  simp only
  cases ((s - a - b).tmod 3 != 0) with
  | true => rfl
  | false =>
    simp only [cond_false]
    cases (loadS (a + (s - a - b).tdiv 3) (b + (s - a - b).tdiv 3) ((s - a - b).tdiv 3) != 0) <;> rfl
theorem mergeR_no {s a b : Int} (h : mergeE s a b ≠ 0) : mergeR s a b = .tup [.agg [.int .i64 0, .int .i64 0, .int .i64 0], .int .i64 (mergeE s a b)] := by
  unfold mergeR
  rw [show (mergeE s a b != 0) = true by simpa using h]; rfl

theorem tmod3_iff (x y : Int) (k : Int) (h : y = x + 3 * k) : y.tmod 3 = 0 ↔ x.tmod 3 = 0 := by
  subst h
  constructor
  · intro h
    have h1 := Int.dvd_of_tmod_eq_zero h
    exact Int.tmod_eq_zero_of_dvd (by omega)
  · intro h
    have h1 := Int.dvd_of_tmod_eq_zero h
    exact Int.tmod_eq_zero_of_dvd (by omega)

theorem tdiv3 {x : Int} (h : x.tmod 3 = 0) : ∃ q, x = 3 * q ∧ x.tdiv 3 = q := by
  obtain ⟨q, rfl⟩ := Int.dvd_of_tmod_eq_zero h
  exact ⟨q, rfl, Int.mul_tdiv_cancel_left q (by decide)⟩

theorem c_rMerge (up : List Ces) (s a b : Int) (h : mergeE s a b = 0) :
    Cs gl n_nacelleref03_Merge up [.int .i64 s, .agg [.int .i64 a, .int .i64 b]] (.tup [.agg [.int .i64 (mergeQ s a b).1, .int .i64 (mergeQ s a b).2.1, .int .i64 (mergeQ s a b).2.2.1], .int .i64 (mergeQ s a b).2.2.2]) up := by
  refine mk h_nacelleref03_Merge rfl rfl ?_
  unfold mergeE at h
  rw [orE_zero, withinS_zero] at h
  obtain ⟨k0, k⟩ := h
  obtain ⟨k1, k2⟩ := pairS_ok k
  have e1 : w64 (2 * a) = 2 * a := by rw [w64, wrap_in] <;> omega
  have e2 : w64 (s + 2 * a) = s + 2 * a := by rw [w64, wrap_in] <;> omega
  have e3 : w64 (w64 (s + w64 (2 * a)) - b) = s + 2 * a - b := by rw [e1, e2, w64, wrap_in] <;> omega
  have hm := tmod3_iff (s - a - b) (s + 2 * a - b) a (by omega)
  unfold mergeQ
  conv => whnf
  split
  · rename_i g
    have g : ((w64 (w64 (s + w64 (2 * a)) - b)).tmod 3 != 0) = true := g
    rw [e3] at g
    have g2 : ((s - a - b).tmod 3 != 0) = true := by
      simp only [bne_iff_ne, ne_eq] at g ⊢
      exact fun e => g (hm.2 e)
    conv => whnf
    refine ⟨?_, rfl⟩
    rw [g2]; rfl
  · rename_i g
    have g : ((w64 (w64 (s + w64 (2 * a)) - b)).tmod 3 != 0) = false := g
    rw [e3] at g
    have g1 : (s + 2 * a - b).tmod 3 = 0 := by simpa using g
    have g2 := hm.1 g1
    obtain ⟨q, q1, q2⟩ := tdiv3 g2
    obtain ⟨q', q3, q4⟩ := tdiv3 g1
    have q5 : q' = q + a := by omega
    subst q5
    rw [show ((s - a - b).tmod 3 != 0) = false by simpa using g2, cond_false, q2]
    have d1 : w64 ((w64 (w64 (s + w64 (2 * a)) - b)).tdiv 3) = q + a := by rw [e3, q4, w64, wrap_in] <;> omega
    have d2 : w64 (w64 ((w64 (w64 (s + w64 (2 * a)) - b)).tdiv 3) - a) = q := by rw [d1, w64, wrap_in] <;> omega
    have d3 : w64 (w64 (w64 ((w64 (w64 (s + w64 (2 * a)) - b)).tdiv 3) - a) + b) = b + q := by rw [d2, w64, wrap_in] <;> omega
    have hl : ∀ up, Cs gl n_nacelleref03_CheckLoads up [.agg [.int .i64 (w64 ((w64 (w64 (s + w64 (2 * a)) - b)).tdiv 3)), .int .i64 (w64 (w64 (w64 ((w64 (w64 (s + w64 (2 * a)) - b)).tdiv 3) - a) + b)), .int .i64 (w64 (w64 ((w64 (w64 (s + w64 (2 * a)) - b)).tdiv 3) - a))]] (.int .i64 (loadS (a + q) (b + q) q)) up := fun up => by
      rw [d3, d2, d1, show q + a = a + q by omega]
      exact c_rCheckLoads up _ _ _
    conv => whnf
    refine .mk _ _ _ _ _ (leL_refl _) (hl _) rfl ?_
    conv => whnf
    split
    · rename_i h
      have h : (loadS (a + q) (b + q) q != 0) = true := h
      conv => whnf
      refine ⟨?_, rfl⟩
      rw [h]; rfl
    · rename_i h
      have h : (loadS (a + q) (b + q) q != 0) = false := h
      conv => whnf
      refine ⟨?_, rfl⟩
      rw [h, cond_false]
      show IV.tup [.agg [.int .i64 (w64 ((w64 (w64 (s + w64 (2 * a)) - b)).tdiv 3)), .int .i64 (w64 (w64 (w64 ((w64 (w64 (s + w64 (2 * a)) - b)).tdiv 3) - a) + b)), .int .i64 (w64 (w64 ((w64 (w64 (s + w64 (2 * a)) - b)).tdiv 3) - a))], .int .i64 0] = _
      rw [d3, d2, d1, show q + a = a + q by omega]
end Go.Proofs.YtllmejkmogepjaaDoor.Ix

/-
  Ll2: RotorLoads: the law.
-/
namespace Go.Proofs.YtllmejkmogepjaaDoor.Ix
open Go.Proofs
set_option maxRecDepth 100000
set_option linter.unusedVariables false
variable {gl : Nat → IV}

theorem splitR_u (a b c : Int) : splitR a b c = .tup [.int .i64 (zE (loadS a b c) (a + b + c)), .agg [.int .i64 (zE (loadS a b c) (a - c)), .int .i64 (zE (loadS a b c) (b - c))], .int .i64 (loadS a b c)] := by
  unfold splitR
  cases h : (loadS a b c != 0) with
  | true => rw [zE_pos h, zE_pos h, zE_pos h]; rfl
  | false => rw [zE_neg h, zE_neg h, zE_neg h, ne0 h]; rfl

theorem recS_ok {n : Nat} {x y z : Nat → Int} (h : recS n x y z = 0) : n ≤ 400 ∧ ∀ i, i < n → (-1000000 ≤ x i ∧ x i ≤ 1000000) ∧ (-1000000 ≤ y i ∧ y i ≤ 1000000) ∧ (-1000000 ≤ z i ∧ z i ≤ 1000000) := by
  unfold recS at h
  cases hb : decide ((n : Int) > 400) with
  | true => rw [hb] at h; cases h
  | false =>
    rw [hb, cond_false] at h
    simp at hb
    exact ⟨by omega, recE_ok h⟩

set_option maxHeartbeats 8000000 in
theorem c_RotorLoads (up : List Ces) (hr : gl g_rotor_roots = rootsI) (hp : gl g_internal_strconv_uint64pow10 = powI) (p q r s t u : Int) (n : Nat) (x y z : Nat → Int) :
    Cs gl n_nacellelaw03_RotorLoads up [.agg [.int .i64 p, .int .i64 q, .int .i64 r, .int .i64 s, .int .i64 t, .int .i64 u], loadsI none n x y z] (.bool true) up := by
  refine mk h_nacellelaw03_RotorLoads rfl rfl ?_
  have hS := fun up => c_Split (gl := gl) up p q r
  have hM := fun up => c_Merge (gl := gl) up s t u
  have hR := fun up => c_Rotating (gl := gl) up n x y z
  have hF := fun up => c_Fixed (gl := gl) up hr n x y z
  simp only [splitR_u] at hS
  unfold rotR at hR
  unfold fixR at hF
  simp only [recR_u] at hR hF
  conv => whnf
  refine .mk _ _ _ _ _ (leL_refl _) (c_awake _ hr hp) rfl ?_
  conv => whnf
  split
  · conv => whnf
    split
    · conv => whnf
      refine .mk _ _ _ _ _ (leL_refl _) (c_awake _ hr hp) rfl ?_
      conv => whnf
      exact ⟨rfl, rfl⟩
    · rename_i h
      have h : ((n : Int) != 401) = false := h
      have hn : n ≤ 1000000 := by simp at h; omega
      conv => whnf
      refine .mk _ _ _ _ _ (leL_refl _) (hS _) rfl ?_
      conv => whnf
      rcases Classical.em (mergeE s t u = 0) with w2 | w2
      · rw [mergeR_ok w2] at hM
        refine .mk _ _ _ _ _ (leL_refl _) (hM _) rfl ?_
        conv => whnf
        split
        rotate_left
        · rename_i h
          have h' : decide (n ≤ 1073741824) = false := h
          simp at h' <;> omega
        conv => whnf
        refine .mk _ _ _ _ _ (leL_refl _) (hR _) rfl ?_
        conv => whnf
        split
        rotate_left
        · rename_i h
          have h' : decide (n ≤ 1073741824) = false := h
          simp at h' <;> omega
        conv => whnf
        refine .mk _ _ _ _ _ (leL_refl _) (hF _) rfl ?_
        conv => whnf
        refine .mk 13 (by kernel_rfl) ?_
        conv => whnf
        refine .mk _ _ _ (leL_refl _) (c_rCheckLoads _ _ _ _) rfl ?_
        conv => whnf
        refine .mk _ _ _ (leL_refl _) (c_CheckRange _ _ _ _) rfl ?_
        conv => whnf
        refine .mk _ _ _ (leL_refl _) (c_rCheckPair _ _ _) rfl ?_
        conv => whnf
        refine .mk _ _ _ (leL_refl _) (c_rf2 _ _ _ _ rfl rfl) rfl ?_
        conv => whnf
        refine .mk _ _ _ (leL_refl _) (c_rCheckRecord _ _ _ _ _) rfl ?_
        conv => whnf
        split
        · rename_i q1
          have z1 : loadS p q r = 0 := by simpa using q1
          obtain ⟨k1, k2, k3⟩ := loadS_ok z1
          have e1 : w64 (w64 (p + q) + r) = p + q + r := by
            have : w64 (p + q) = p + q := by rw [w64, wrap_in] <;> omega
            rw [this, w64, wrap_in] <;> omega
          conv => whnf
          refine .mk 14 (by kernel_rfl) ?_
          conv => whnf
          refine .mk _ _ _ (leL_refl _) (c_rComponent _ _ _ _ k1 k2 k3) rfl ?_
          conv => whnf
          split
          · conv => whnf
            refine .mk _ _ _ _ _ (leL_refl _) (c_rMerge _ _ _ _ w2) rfl ?_
            conv => whnf
            split
            · rename_i q3
              have z3 : recS n x y z = 0 := by simpa using q3
              obtain ⟨hn4, hv⟩ := recS_ok z3
              conv => whnf
              refine .mk _ _ _ _ _ (leL_refl _) (c_rRotating _ n hn4 x y z hv) rfl ?_
              conv => whnf
              refine .mk _ _ _ _ _ (leL_refl _) (c_rFixed _ n hn4 x y z hv) rfl ?_
              conv => whnf
              refine .mk _ _ _ _ _ (leL_refl _) (c_number _ _ _ _ _ rfl (fun h => zE_ne h) (fun h => by first | exact absurd h z1 | exact (by rw [h, zE_0]; exact e1.symm))) rfl ?_
              conv => whnf
              refine .mk _ _ _ _ _ (leL_refl _) (c_pair _ _ _ _ _ _ _ rfl (fun h => ⟨zE_ne h, zE_ne h⟩) (fun h => by first | exact absurd h z1 | (rw [h]; exact ⟨rfl, rfl⟩))) rfl ?_
              conv => whnf
              split
              rotate_left
              · rename_i h
                exact absurd h (by simp)
              conv => whnf
              split
              rotate_left
              · rename_i h
                exact absurd h (by simp)
              conv => whnf
              refine .mk _ _ _ _ _ (leL_refl _) (c_pair _ _ _ _ _ _ _ rfl (fun h => ⟨zE_ne h, zE_ne h⟩) (fun h => by first | exact absurd h z3 | (rw [h]; exact ⟨rfl, rfl⟩))) rfl ?_
              conv => whnf
              refine .mk _ _ _ _ _ (leL_refl _) (c_pair _ _ _ _ _ _ _ rfl (fun h => ⟨zE_ne h, zE_ne h⟩) (fun h => by first | exact absurd h z3 | (rw [h]; exact ⟨rfl, rfl⟩))) rfl ?_
              conv => whnf
              exact ⟨rfl, rfl⟩
            · rename_i q3
              have z3 : recS n x y z ≠ 0 := by simpa using q3
              conv => whnf
              refine .mk _ _ _ _ _ (leL_refl _) (c_number _ _ _ _ _ rfl (fun h => zE_ne h) (fun h => by first | exact absurd h z1 | exact (by rw [h, zE_0]; exact e1.symm))) rfl ?_
              conv => whnf
              refine .mk _ _ _ _ _ (leL_refl _) (c_pair _ _ _ _ _ _ _ rfl (fun h => ⟨zE_ne h, zE_ne h⟩) (fun h => by first | exact absurd h z1 | (rw [h]; exact ⟨rfl, rfl⟩))) rfl ?_
              conv => whnf
              split
              rotate_left
              · rename_i h
                exact absurd h (by simp)
              conv => whnf
              split
              rotate_left
              · rename_i h
                exact absurd h (by simp)
              conv => whnf
              refine .mk _ _ _ _ _ (leL_refl _) (c_pair _ _ _ _ _ _ _ rfl (fun h => ⟨zE_ne h, zE_ne h⟩) (fun h => by first | exact absurd h z3 | (rw [h]; exact ⟨rfl, rfl⟩))) rfl ?_
              conv => whnf
              refine .mk _ _ _ _ _ (leL_refl _) (c_pair _ _ _ _ _ _ _ rfl (fun h => ⟨zE_ne h, zE_ne h⟩) (fun h => by first | exact absurd h z3 | (rw [h]; exact ⟨rfl, rfl⟩))) rfl ?_
              conv => whnf
              exact ⟨rfl, rfl⟩
          · rename_i q2
            exact absurd w2 (by unfold mergeE; simpa using q2)
        · rename_i q1
          have z1 : loadS p q r ≠ 0 := by simpa using q1
          conv => whnf
          split
          · conv => whnf
            refine .mk _ _ _ _ _ (leL_refl _) (c_rMerge _ _ _ _ w2) rfl ?_
            conv => whnf
            split
            · rename_i q3
              have z3 : recS n x y z = 0 := by simpa using q3
              obtain ⟨hn4, hv⟩ := recS_ok z3
              conv => whnf
              refine .mk _ _ _ _ _ (leL_refl _) (c_rRotating _ n hn4 x y z hv) rfl ?_
              conv => whnf
              refine .mk _ _ _ _ _ (leL_refl _) (c_rFixed _ n hn4 x y z hv) rfl ?_
              conv => whnf
              refine .mk _ _ _ _ _ (leL_refl _) (c_number _ _ _ _ _ rfl (fun h => zE_ne h) (fun h => by first | exact absurd h z1 | exact (by rw [h, zE_0]; exact e1.symm))) rfl ?_
              conv => whnf
              refine .mk _ _ _ _ _ (leL_refl _) (c_pair _ _ _ _ _ _ _ rfl (fun h => ⟨zE_ne h, zE_ne h⟩) (fun h => by first | exact absurd h z1 | (rw [h]; exact ⟨rfl, rfl⟩))) rfl ?_
              conv => whnf
              split
              rotate_left
              · rename_i h
                exact absurd h (by simp)
              conv => whnf
              split
              rotate_left
              · rename_i h
                exact absurd h (by simp)
              conv => whnf
              refine .mk _ _ _ _ _ (leL_refl _) (c_pair _ _ _ _ _ _ _ rfl (fun h => ⟨zE_ne h, zE_ne h⟩) (fun h => by first | exact absurd h z3 | (rw [h]; exact ⟨rfl, rfl⟩))) rfl ?_
              conv => whnf
              refine .mk _ _ _ _ _ (leL_refl _) (c_pair _ _ _ _ _ _ _ rfl (fun h => ⟨zE_ne h, zE_ne h⟩) (fun h => by first | exact absurd h z3 | (rw [h]; exact ⟨rfl, rfl⟩))) rfl ?_
              conv => whnf
              exact ⟨rfl, rfl⟩
            · rename_i q3
              have z3 : recS n x y z ≠ 0 := by simpa using q3
              conv => whnf
              refine .mk _ _ _ _ _ (leL_refl _) (c_number _ _ _ _ _ rfl (fun h => zE_ne h) (fun h => by first | exact absurd h z1 | exact (by rw [h, zE_0]; exact e1.symm))) rfl ?_
              conv => whnf
              refine .mk _ _ _ _ _ (leL_refl _) (c_pair _ _ _ _ _ _ _ rfl (fun h => ⟨zE_ne h, zE_ne h⟩) (fun h => by first | exact absurd h z1 | (rw [h]; exact ⟨rfl, rfl⟩))) rfl ?_
              conv => whnf
              split
              rotate_left
              · rename_i h
                exact absurd h (by simp)
              conv => whnf
              split
              rotate_left
              · rename_i h
                exact absurd h (by simp)
              conv => whnf
              refine .mk _ _ _ _ _ (leL_refl _) (c_pair _ _ _ _ _ _ _ rfl (fun h => ⟨zE_ne h, zE_ne h⟩) (fun h => by first | exact absurd h z3 | (rw [h]; exact ⟨rfl, rfl⟩))) rfl ?_
              conv => whnf
              refine .mk _ _ _ _ _ (leL_refl _) (c_pair _ _ _ _ _ _ _ rfl (fun h => ⟨zE_ne h, zE_ne h⟩) (fun h => by first | exact absurd h z3 | (rw [h]; exact ⟨rfl, rfl⟩))) rfl ?_
              conv => whnf
              exact ⟨rfl, rfl⟩
          · rename_i q2
            exact absurd w2 (by unfold mergeE; simpa using q2)
      · rw [mergeR_no w2] at hM
        unfold mergeE at hM
        refine .mk _ _ _ _ _ (leL_refl _) (hM _) rfl ?_
        conv => whnf
        split
        rotate_left
        · rename_i h
          have h' : decide (n ≤ 1073741824) = false := h
          simp at h' <;> omega
        conv => whnf
        refine .mk _ _ _ _ _ (leL_refl _) (hR _) rfl ?_
        conv => whnf
        split
        rotate_left
        · rename_i h
          have h' : decide (n ≤ 1073741824) = false := h
          simp at h' <;> omega
        conv => whnf
        refine .mk _ _ _ _ _ (leL_refl _) (hF _) rfl ?_
        conv => whnf
        refine .mk 13 (by kernel_rfl) ?_
        conv => whnf
        refine .mk _ _ _ (leL_refl _) (c_rCheckLoads _ _ _ _) rfl ?_
        conv => whnf
        refine .mk _ _ _ (leL_refl _) (c_CheckRange _ _ _ _) rfl ?_
        conv => whnf
        refine .mk _ _ _ (leL_refl _) (c_rCheckPair _ _ _) rfl ?_
        conv => whnf
        refine .mk _ _ _ (leL_refl _) (c_rf2 _ _ _ _ rfl rfl) rfl ?_
        conv => whnf
        refine .mk _ _ _ (leL_refl _) (c_rCheckRecord _ _ _ _ _) rfl ?_
        conv => whnf
        split
        · rename_i q1
          have z1 : loadS p q r = 0 := by simpa using q1
          obtain ⟨k1, k2, k3⟩ := loadS_ok z1
          have e1 : w64 (w64 (p + q) + r) = p + q + r := by
            have : w64 (p + q) = p + q := by rw [w64, wrap_in] <;> omega
            rw [this, w64, wrap_in] <;> omega
          conv => whnf
          refine .mk 14 (by kernel_rfl) ?_
          conv => whnf
          refine .mk _ _ _ (leL_refl _) (c_rComponent _ _ _ _ k1 k2 k3) rfl ?_
          conv => whnf
          split
          · rename_i q2
            exact absurd (show mergeE s t u = 0 by unfold mergeE; simpa using q2) w2
          · conv => whnf
            split
            · rename_i q3
              have z3 : recS n x y z = 0 := by simpa using q3
              obtain ⟨hn4, hv⟩ := recS_ok z3
              conv => whnf
              refine .mk _ _ _ _ _ (leL_refl _) (c_rRotating _ n hn4 x y z hv) rfl ?_
              conv => whnf
              refine .mk _ _ _ _ _ (leL_refl _) (c_rFixed _ n hn4 x y z hv) rfl ?_
              conv => whnf
              refine .mk _ _ _ _ _ (leL_refl _) (c_number _ _ _ _ _ rfl (fun h => zE_ne h) (fun h => by first | exact absurd h z1 | exact (by rw [h, zE_0]; exact e1.symm))) rfl ?_
              conv => whnf
              refine .mk _ _ _ _ _ (leL_refl _) (c_pair _ _ _ _ _ _ _ rfl (fun h => ⟨zE_ne h, zE_ne h⟩) (fun h => by first | exact absurd h z1 | (rw [h]; exact ⟨rfl, rfl⟩))) rfl ?_
              conv => whnf
              split
              rotate_left
              · rename_i h
                exact absurd h (by simp)
              conv => whnf
              refine .mk _ _ _ _ _ (leL_refl _) (c_pair _ _ _ _ _ _ _ rfl (fun h => ⟨zE_ne h, zE_ne h⟩) (fun h => by first | exact absurd h z3 | (rw [h]; exact ⟨rfl, rfl⟩))) rfl ?_
              conv => whnf
              refine .mk _ _ _ _ _ (leL_refl _) (c_pair _ _ _ _ _ _ _ rfl (fun h => ⟨zE_ne h, zE_ne h⟩) (fun h => by first | exact absurd h z3 | (rw [h]; exact ⟨rfl, rfl⟩))) rfl ?_
              conv => whnf
              exact ⟨rfl, rfl⟩
            · rename_i q3
              have z3 : recS n x y z ≠ 0 := by simpa using q3
              conv => whnf
              refine .mk _ _ _ _ _ (leL_refl _) (c_number _ _ _ _ _ rfl (fun h => zE_ne h) (fun h => by first | exact absurd h z1 | exact (by rw [h, zE_0]; exact e1.symm))) rfl ?_
              conv => whnf
              refine .mk _ _ _ _ _ (leL_refl _) (c_pair _ _ _ _ _ _ _ rfl (fun h => ⟨zE_ne h, zE_ne h⟩) (fun h => by first | exact absurd h z1 | (rw [h]; exact ⟨rfl, rfl⟩))) rfl ?_
              conv => whnf
              split
              rotate_left
              · rename_i h
                exact absurd h (by simp)
              conv => whnf
              refine .mk _ _ _ _ _ (leL_refl _) (c_pair _ _ _ _ _ _ _ rfl (fun h => ⟨zE_ne h, zE_ne h⟩) (fun h => by first | exact absurd h z3 | (rw [h]; exact ⟨rfl, rfl⟩))) rfl ?_
              conv => whnf
              refine .mk _ _ _ _ _ (leL_refl _) (c_pair _ _ _ _ _ _ _ rfl (fun h => ⟨zE_ne h, zE_ne h⟩) (fun h => by first | exact absurd h z3 | (rw [h]; exact ⟨rfl, rfl⟩))) rfl ?_
              conv => whnf
              exact ⟨rfl, rfl⟩
        · rename_i q1
          have z1 : loadS p q r ≠ 0 := by simpa using q1
          conv => whnf
          split
          · rename_i q2
            exact absurd (show mergeE s t u = 0 by unfold mergeE; simpa using q2) w2
          · conv => whnf
            split
            · rename_i q3
              have z3 : recS n x y z = 0 := by simpa using q3
              obtain ⟨hn4, hv⟩ := recS_ok z3
              conv => whnf
              refine .mk _ _ _ _ _ (leL_refl _) (c_rRotating _ n hn4 x y z hv) rfl ?_
              conv => whnf
              refine .mk _ _ _ _ _ (leL_refl _) (c_rFixed _ n hn4 x y z hv) rfl ?_
              conv => whnf
              refine .mk _ _ _ _ _ (leL_refl _) (c_number _ _ _ _ _ rfl (fun h => zE_ne h) (fun h => by first | exact absurd h z1 | exact (by rw [h, zE_0]; exact e1.symm))) rfl ?_
              conv => whnf
              refine .mk _ _ _ _ _ (leL_refl _) (c_pair _ _ _ _ _ _ _ rfl (fun h => ⟨zE_ne h, zE_ne h⟩) (fun h => by first | exact absurd h z1 | (rw [h]; exact ⟨rfl, rfl⟩))) rfl ?_
              conv => whnf
              split
              rotate_left
              · rename_i h
                exact absurd h (by simp)
              conv => whnf
              refine .mk _ _ _ _ _ (leL_refl _) (c_pair _ _ _ _ _ _ _ rfl (fun h => ⟨zE_ne h, zE_ne h⟩) (fun h => by first | exact absurd h z3 | (rw [h]; exact ⟨rfl, rfl⟩))) rfl ?_
              conv => whnf
              refine .mk _ _ _ _ _ (leL_refl _) (c_pair _ _ _ _ _ _ _ rfl (fun h => ⟨zE_ne h, zE_ne h⟩) (fun h => by first | exact absurd h z3 | (rw [h]; exact ⟨rfl, rfl⟩))) rfl ?_
              conv => whnf
              exact ⟨rfl, rfl⟩
            · rename_i q3
              have z3 : recS n x y z ≠ 0 := by simpa using q3
              conv => whnf
              refine .mk _ _ _ _ _ (leL_refl _) (c_number _ _ _ _ _ rfl (fun h => zE_ne h) (fun h => by first | exact absurd h z1 | exact (by rw [h, zE_0]; exact e1.symm))) rfl ?_
              conv => whnf
              refine .mk _ _ _ _ _ (leL_refl _) (c_pair _ _ _ _ _ _ _ rfl (fun h => ⟨zE_ne h, zE_ne h⟩) (fun h => by first | exact absurd h z1 | (rw [h]; exact ⟨rfl, rfl⟩))) rfl ?_
              conv => whnf
              split
              rotate_left
              · rename_i h
                exact absurd h (by simp)
              conv => whnf
              refine .mk _ _ _ _ _ (leL_refl _) (c_pair _ _ _ _ _ _ _ rfl (fun h => ⟨zE_ne h, zE_ne h⟩) (fun h => by first | exact absurd h z3 | (rw [h]; exact ⟨rfl, rfl⟩))) rfl ?_
              conv => whnf
              refine .mk _ _ _ _ _ (leL_refl _) (c_pair _ _ _ _ _ _ _ rfl (fun h => ⟨zE_ne h, zE_ne h⟩) (fun h => by first | exact absurd h z3 | (rw [h]; exact ⟨rfl, rfl⟩))) rfl ?_
              conv => whnf
              exact ⟨rfl, rfl⟩
  · rename_i h
    have h : decide ((n : Int) > 20) = false := h
    have hn : n ≤ 1000000 := by simp at h; omega
    conv => whnf
    refine .mk _ _ _ _ _ (leL_refl _) (hS _) rfl ?_
    conv => whnf
    rcases Classical.em (mergeE s t u = 0) with w2 | w2
    · rw [mergeR_ok w2] at hM
      refine .mk _ _ _ _ _ (leL_refl _) (hM _) rfl ?_
      conv => whnf
      split
      rotate_left
      · rename_i h
        have h' : decide (n ≤ 1073741824) = false := h
        simp at h' <;> omega
      conv => whnf
      refine .mk _ _ _ _ _ (leL_refl _) (hR _) rfl ?_
      conv => whnf
      split
      rotate_left
      · rename_i h
        have h' : decide (n ≤ 1073741824) = false := h
        simp at h' <;> omega
      conv => whnf
      refine .mk _ _ _ _ _ (leL_refl _) (hF _) rfl ?_
      conv => whnf
      refine .mk 13 (by kernel_rfl) ?_
      conv => whnf
      refine .mk _ _ _ (leL_refl _) (c_rCheckLoads _ _ _ _) rfl ?_
      conv => whnf
      refine .mk _ _ _ (leL_refl _) (c_CheckRange _ _ _ _) rfl ?_
      conv => whnf
      refine .mk _ _ _ (leL_refl _) (c_rCheckPair _ _ _) rfl ?_
      conv => whnf
      refine .mk _ _ _ (leL_refl _) (c_rf2 _ _ _ _ rfl rfl) rfl ?_
      conv => whnf
      refine .mk _ _ _ (leL_refl _) (c_rCheckRecord _ _ _ _ _) rfl ?_
      conv => whnf
      split
      · rename_i q1
        have z1 : loadS p q r = 0 := by simpa using q1
        obtain ⟨k1, k2, k3⟩ := loadS_ok z1
        have e1 : w64 (w64 (p + q) + r) = p + q + r := by
          have : w64 (p + q) = p + q := by rw [w64, wrap_in] <;> omega
          rw [this, w64, wrap_in] <;> omega
        conv => whnf
        refine .mk 14 (by kernel_rfl) ?_
        conv => whnf
        refine .mk _ _ _ (leL_refl _) (c_rComponent _ _ _ _ k1 k2 k3) rfl ?_
        conv => whnf
        split
        · conv => whnf
          refine .mk _ _ _ _ _ (leL_refl _) (c_rMerge _ _ _ _ w2) rfl ?_
          conv => whnf
          split
          · rename_i q3
            have z3 : recS n x y z = 0 := by simpa using q3
            obtain ⟨hn4, hv⟩ := recS_ok z3
            conv => whnf
            refine .mk _ _ _ _ _ (leL_refl _) (c_rRotating _ n hn4 x y z hv) rfl ?_
            conv => whnf
            refine .mk _ _ _ _ _ (leL_refl _) (c_rFixed _ n hn4 x y z hv) rfl ?_
            conv => whnf
            refine .mk _ _ _ _ _ (leL_refl _) (c_number _ _ _ _ _ rfl (fun h => zE_ne h) (fun h => by first | exact absurd h z1 | exact (by rw [h, zE_0]; exact e1.symm))) rfl ?_
            conv => whnf
            refine .mk _ _ _ _ _ (leL_refl _) (c_pair _ _ _ _ _ _ _ rfl (fun h => ⟨zE_ne h, zE_ne h⟩) (fun h => by first | exact absurd h z1 | (rw [h]; exact ⟨rfl, rfl⟩))) rfl ?_
            conv => whnf
            split
            rotate_left
            · rename_i h
              exact absurd h (by simp)
            conv => whnf
            split
            rotate_left
            · rename_i h
              exact absurd h (by simp)
            conv => whnf
            refine .mk _ _ _ _ _ (leL_refl _) (c_pair _ _ _ _ _ _ _ rfl (fun h => ⟨zE_ne h, zE_ne h⟩) (fun h => by first | exact absurd h z3 | (rw [h]; exact ⟨rfl, rfl⟩))) rfl ?_
            conv => whnf
            refine .mk _ _ _ _ _ (leL_refl _) (c_pair _ _ _ _ _ _ _ rfl (fun h => ⟨zE_ne h, zE_ne h⟩) (fun h => by first | exact absurd h z3 | (rw [h]; exact ⟨rfl, rfl⟩))) rfl ?_
            conv => whnf
            exact ⟨rfl, rfl⟩
          · rename_i q3
            have z3 : recS n x y z ≠ 0 := by simpa using q3
            conv => whnf
            refine .mk _ _ _ _ _ (leL_refl _) (c_number _ _ _ _ _ rfl (fun h => zE_ne h) (fun h => by first | exact absurd h z1 | exact (by rw [h, zE_0]; exact e1.symm))) rfl ?_
            conv => whnf
            refine .mk _ _ _ _ _ (leL_refl _) (c_pair _ _ _ _ _ _ _ rfl (fun h => ⟨zE_ne h, zE_ne h⟩) (fun h => by first | exact absurd h z1 | (rw [h]; exact ⟨rfl, rfl⟩))) rfl ?_
            conv => whnf
            split
            rotate_left
            · rename_i h
              exact absurd h (by simp)
            conv => whnf
            split
            rotate_left
            · rename_i h
              exact absurd h (by simp)
            conv => whnf
            refine .mk _ _ _ _ _ (leL_refl _) (c_pair _ _ _ _ _ _ _ rfl (fun h => ⟨zE_ne h, zE_ne h⟩) (fun h => by first | exact absurd h z3 | (rw [h]; exact ⟨rfl, rfl⟩))) rfl ?_
            conv => whnf
            refine .mk _ _ _ _ _ (leL_refl _) (c_pair _ _ _ _ _ _ _ rfl (fun h => ⟨zE_ne h, zE_ne h⟩) (fun h => by first | exact absurd h z3 | (rw [h]; exact ⟨rfl, rfl⟩))) rfl ?_
            conv => whnf
            exact ⟨rfl, rfl⟩
        · rename_i q2
          exact absurd w2 (by unfold mergeE; simpa using q2)
      · rename_i q1
        have z1 : loadS p q r ≠ 0 := by simpa using q1
        conv => whnf
        split
        · conv => whnf
          refine .mk _ _ _ _ _ (leL_refl _) (c_rMerge _ _ _ _ w2) rfl ?_
          conv => whnf
          split
          · rename_i q3
            have z3 : recS n x y z = 0 := by simpa using q3
            obtain ⟨hn4, hv⟩ := recS_ok z3
            conv => whnf
            refine .mk _ _ _ _ _ (leL_refl _) (c_rRotating _ n hn4 x y z hv) rfl ?_
            conv => whnf
            refine .mk _ _ _ _ _ (leL_refl _) (c_rFixed _ n hn4 x y z hv) rfl ?_
            conv => whnf
            refine .mk _ _ _ _ _ (leL_refl _) (c_number _ _ _ _ _ rfl (fun h => zE_ne h) (fun h => by first | exact absurd h z1 | exact (by rw [h, zE_0]; exact e1.symm))) rfl ?_
            conv => whnf
            refine .mk _ _ _ _ _ (leL_refl _) (c_pair _ _ _ _ _ _ _ rfl (fun h => ⟨zE_ne h, zE_ne h⟩) (fun h => by first | exact absurd h z1 | (rw [h]; exact ⟨rfl, rfl⟩))) rfl ?_
            conv => whnf
            split
            rotate_left
            · rename_i h
              exact absurd h (by simp)
            conv => whnf
            split
            rotate_left
            · rename_i h
              exact absurd h (by simp)
            conv => whnf
            refine .mk _ _ _ _ _ (leL_refl _) (c_pair _ _ _ _ _ _ _ rfl (fun h => ⟨zE_ne h, zE_ne h⟩) (fun h => by first | exact absurd h z3 | (rw [h]; exact ⟨rfl, rfl⟩))) rfl ?_
            conv => whnf
            refine .mk _ _ _ _ _ (leL_refl _) (c_pair _ _ _ _ _ _ _ rfl (fun h => ⟨zE_ne h, zE_ne h⟩) (fun h => by first | exact absurd h z3 | (rw [h]; exact ⟨rfl, rfl⟩))) rfl ?_
            conv => whnf
            exact ⟨rfl, rfl⟩
          · rename_i q3
            have z3 : recS n x y z ≠ 0 := by simpa using q3
            conv => whnf
            refine .mk _ _ _ _ _ (leL_refl _) (c_number _ _ _ _ _ rfl (fun h => zE_ne h) (fun h => by first | exact absurd h z1 | exact (by rw [h, zE_0]; exact e1.symm))) rfl ?_
            conv => whnf
            refine .mk _ _ _ _ _ (leL_refl _) (c_pair _ _ _ _ _ _ _ rfl (fun h => ⟨zE_ne h, zE_ne h⟩) (fun h => by first | exact absurd h z1 | (rw [h]; exact ⟨rfl, rfl⟩))) rfl ?_
            conv => whnf
            split
            rotate_left
            · rename_i h
              exact absurd h (by simp)
            conv => whnf
            split
            rotate_left
            · rename_i h
              exact absurd h (by simp)
            conv => whnf
            refine .mk _ _ _ _ _ (leL_refl _) (c_pair _ _ _ _ _ _ _ rfl (fun h => ⟨zE_ne h, zE_ne h⟩) (fun h => by first | exact absurd h z3 | (rw [h]; exact ⟨rfl, rfl⟩))) rfl ?_
            conv => whnf
            refine .mk _ _ _ _ _ (leL_refl _) (c_pair _ _ _ _ _ _ _ rfl (fun h => ⟨zE_ne h, zE_ne h⟩) (fun h => by first | exact absurd h z3 | (rw [h]; exact ⟨rfl, rfl⟩))) rfl ?_
            conv => whnf
            exact ⟨rfl, rfl⟩
        · rename_i q2
          exact absurd w2 (by unfold mergeE; simpa using q2)
    · rw [mergeR_no w2] at hM
      unfold mergeE at hM
      refine .mk _ _ _ _ _ (leL_refl _) (hM _) rfl ?_
      conv => whnf
      split
      rotate_left
      · rename_i h
        have h' : decide (n ≤ 1073741824) = false := h
        simp at h' <;> omega
      conv => whnf
      refine .mk _ _ _ _ _ (leL_refl _) (hR _) rfl ?_
      conv => whnf
      split
      rotate_left
      · rename_i h
        have h' : decide (n ≤ 1073741824) = false := h
        simp at h' <;> omega
      conv => whnf
      refine .mk _ _ _ _ _ (leL_refl _) (hF _) rfl ?_
      conv => whnf
      refine .mk 13 (by kernel_rfl) ?_
      conv => whnf
      refine .mk _ _ _ (leL_refl _) (c_rCheckLoads _ _ _ _) rfl ?_
      conv => whnf
      refine .mk _ _ _ (leL_refl _) (c_CheckRange _ _ _ _) rfl ?_
      conv => whnf
      refine .mk _ _ _ (leL_refl _) (c_rCheckPair _ _ _) rfl ?_
      conv => whnf
      refine .mk _ _ _ (leL_refl _) (c_rf2 _ _ _ _ rfl rfl) rfl ?_
      conv => whnf
      refine .mk _ _ _ (leL_refl _) (c_rCheckRecord _ _ _ _ _) rfl ?_
      conv => whnf
      split
      · rename_i q1
        have z1 : loadS p q r = 0 := by simpa using q1
        obtain ⟨k1, k2, k3⟩ := loadS_ok z1
        have e1 : w64 (w64 (p + q) + r) = p + q + r := by
          have : w64 (p + q) = p + q := by rw [w64, wrap_in] <;> omega
          rw [this, w64, wrap_in] <;> omega
        conv => whnf
        refine .mk 14 (by kernel_rfl) ?_
        conv => whnf
        refine .mk _ _ _ (leL_refl _) (c_rComponent _ _ _ _ k1 k2 k3) rfl ?_
        conv => whnf
        split
        · rename_i q2
          exact absurd (show mergeE s t u = 0 by unfold mergeE; simpa using q2) w2
        · conv => whnf
          split
          · rename_i q3
            have z3 : recS n x y z = 0 := by simpa using q3
            obtain ⟨hn4, hv⟩ := recS_ok z3
            conv => whnf
            refine .mk _ _ _ _ _ (leL_refl _) (c_rRotating _ n hn4 x y z hv) rfl ?_
            conv => whnf
            refine .mk _ _ _ _ _ (leL_refl _) (c_rFixed _ n hn4 x y z hv) rfl ?_
            conv => whnf
            refine .mk _ _ _ _ _ (leL_refl _) (c_number _ _ _ _ _ rfl (fun h => zE_ne h) (fun h => by first | exact absurd h z1 | exact (by rw [h, zE_0]; exact e1.symm))) rfl ?_
            conv => whnf
            refine .mk _ _ _ _ _ (leL_refl _) (c_pair _ _ _ _ _ _ _ rfl (fun h => ⟨zE_ne h, zE_ne h⟩) (fun h => by first | exact absurd h z1 | (rw [h]; exact ⟨rfl, rfl⟩))) rfl ?_
            conv => whnf
            split
            rotate_left
            · rename_i h
              exact absurd h (by simp)
            conv => whnf
            refine .mk _ _ _ _ _ (leL_refl _) (c_pair _ _ _ _ _ _ _ rfl (fun h => ⟨zE_ne h, zE_ne h⟩) (fun h => by first | exact absurd h z3 | (rw [h]; exact ⟨rfl, rfl⟩))) rfl ?_
            conv => whnf
            refine .mk _ _ _ _ _ (leL_refl _) (c_pair _ _ _ _ _ _ _ rfl (fun h => ⟨zE_ne h, zE_ne h⟩) (fun h => by first | exact absurd h z3 | (rw [h]; exact ⟨rfl, rfl⟩))) rfl ?_
            conv => whnf
            exact ⟨rfl, rfl⟩
          · rename_i q3
            have z3 : recS n x y z ≠ 0 := by simpa using q3
            conv => whnf
            refine .mk _ _ _ _ _ (leL_refl _) (c_number _ _ _ _ _ rfl (fun h => zE_ne h) (fun h => by first | exact absurd h z1 | exact (by rw [h, zE_0]; exact e1.symm))) rfl ?_
            conv => whnf
            refine .mk _ _ _ _ _ (leL_refl _) (c_pair _ _ _ _ _ _ _ rfl (fun h => ⟨zE_ne h, zE_ne h⟩) (fun h => by first | exact absurd h z1 | (rw [h]; exact ⟨rfl, rfl⟩))) rfl ?_
            conv => whnf
            split
            rotate_left
            · rename_i h
              exact absurd h (by simp)
            conv => whnf
            refine .mk _ _ _ _ _ (leL_refl _) (c_pair _ _ _ _ _ _ _ rfl (fun h => ⟨zE_ne h, zE_ne h⟩) (fun h => by first | exact absurd h z3 | (rw [h]; exact ⟨rfl, rfl⟩))) rfl ?_
            conv => whnf
            refine .mk _ _ _ _ _ (leL_refl _) (c_pair _ _ _ _ _ _ _ rfl (fun h => ⟨zE_ne h, zE_ne h⟩) (fun h => by first | exact absurd h z3 | (rw [h]; exact ⟨rfl, rfl⟩))) rfl ?_
            conv => whnf
            exact ⟨rfl, rfl⟩
      · rename_i q1
        have z1 : loadS p q r ≠ 0 := by simpa using q1
        conv => whnf
        split
        · rename_i q2
          exact absurd (show mergeE s t u = 0 by unfold mergeE; simpa using q2) w2
        · conv => whnf
          split
          · rename_i q3
            have z3 : recS n x y z = 0 := by simpa using q3
            obtain ⟨hn4, hv⟩ := recS_ok z3
            conv => whnf
            refine .mk _ _ _ _ _ (leL_refl _) (c_rRotating _ n hn4 x y z hv) rfl ?_
            conv => whnf
            refine .mk _ _ _ _ _ (leL_refl _) (c_rFixed _ n hn4 x y z hv) rfl ?_
            conv => whnf
            refine .mk _ _ _ _ _ (leL_refl _) (c_number _ _ _ _ _ rfl (fun h => zE_ne h) (fun h => by first | exact absurd h z1 | exact (by rw [h, zE_0]; exact e1.symm))) rfl ?_
            conv => whnf
            refine .mk _ _ _ _ _ (leL_refl _) (c_pair _ _ _ _ _ _ _ rfl (fun h => ⟨zE_ne h, zE_ne h⟩) (fun h => by first | exact absurd h z1 | (rw [h]; exact ⟨rfl, rfl⟩))) rfl ?_
            conv => whnf
            split
            rotate_left
            · rename_i h
              exact absurd h (by simp)
            conv => whnf
            refine .mk _ _ _ _ _ (leL_refl _) (c_pair _ _ _ _ _ _ _ rfl (fun h => ⟨zE_ne h, zE_ne h⟩) (fun h => by first | exact absurd h z3 | (rw [h]; exact ⟨rfl, rfl⟩))) rfl ?_
            conv => whnf
            refine .mk _ _ _ _ _ (leL_refl _) (c_pair _ _ _ _ _ _ _ rfl (fun h => ⟨zE_ne h, zE_ne h⟩) (fun h => by first | exact absurd h z3 | (rw [h]; exact ⟨rfl, rfl⟩))) rfl ?_
            conv => whnf
            exact ⟨rfl, rfl⟩
          · rename_i q3
            have z3 : recS n x y z ≠ 0 := by simpa using q3
            conv => whnf
            refine .mk _ _ _ _ _ (leL_refl _) (c_number _ _ _ _ _ rfl (fun h => zE_ne h) (fun h => by first | exact absurd h z1 | exact (by rw [h, zE_0]; exact e1.symm))) rfl ?_
            conv => whnf
            refine .mk _ _ _ _ _ (leL_refl _) (c_pair _ _ _ _ _ _ _ rfl (fun h => ⟨zE_ne h, zE_ne h⟩) (fun h => by first | exact absurd h z1 | (rw [h]; exact ⟨rfl, rfl⟩))) rfl ?_
            conv => whnf
            split
            rotate_left
            · rename_i h
              exact absurd h (by simp)
            conv => whnf
            refine .mk _ _ _ _ _ (leL_refl _) (c_pair _ _ _ _ _ _ _ rfl (fun h => ⟨zE_ne h, zE_ne h⟩) (fun h => by first | exact absurd h z3 | (rw [h]; exact ⟨rfl, rfl⟩))) rfl ?_
            conv => whnf
            refine .mk _ _ _ _ _ (leL_refl _) (c_pair _ _ _ _ _ _ _ rfl (fun h => ⟨zE_ne h, zE_ne h⟩) (fun h => by first | exact absurd h z3 | (rw [h]; exact ⟨rfl, rfl⟩))) rfl ?_
            conv => whnf
            exact ⟨rfl, rfl⟩
end Go.Proofs.YtllmejkmogepjaaDoor.Ix

/-
  Lt1: RotorThirds: the law.
-/
namespace Go.Proofs.YtllmejkmogepjaaDoor.Ix
open Go.Proofs
set_option maxRecDepth 100000
set_option linter.unusedVariables false
variable {gl : Nat → IV}

theorem maxW_le {a b n : Int} (h : ¬ maxW a b > n) : ¬ a > n ∧ ¬ b > n := by unfold maxW at h; split at h <;> omega
theorem maxW_lt {a b n : Int} (h1 : a ≤ n) (h2 : b ≤ n) : maxW a b ≤ n := by unfold maxW; split <;> omega
theorem minW_ge {a b n : Int} (h : ¬ minW a b < n) : ¬ a < n ∧ ¬ b < n := by unfold minW at h; split at h <;> omega

theorem max8 {a b c d : Int} (h : decide (maxW (maxW (maxW (maxW (maxW (maxW (maxW a (w64 (0 - a))) b) (w64 (0 - b))) c) (w64 (0 - c))) d) (w64 (0 - d)) > 10000) = false) :
    (a ≤ 10000 ∧ b ≤ 10000) ∧ c ≤ 10000 ∧ d ≤ 10000 := by
  have h := of_decide_eq_false h
  obtain ⟨h, _⟩ := maxW_le h
  obtain ⟨h, d1⟩ := maxW_le h
  obtain ⟨h, _⟩ := maxW_le h
  obtain ⟨h, c1⟩ := maxW_le h
  obtain ⟨h, _⟩ := maxW_le h
  obtain ⟨h, b1⟩ := maxW_le h
  obtain ⟨a1, _⟩ := maxW_le h
  exact ⟨⟨Int.not_lt.1 a1, Int.not_lt.1 b1⟩, Int.not_lt.1 c1, Int.not_lt.1 d1⟩
theorem min4 {a b c d : Int} (h : decide (minW (minW (minW a b) c) d < -10000) = false) : (-10000 ≤ a ∧ -10000 ≤ b) ∧ -10000 ≤ c ∧ -10000 ≤ d := by
  have h := of_decide_eq_false h
  obtain ⟨h, d2⟩ := minW_ge h
  obtain ⟨h, c2⟩ := minW_ge h
  obtain ⟨a2, b2⟩ := minW_ge h
  omega

theorem sq_nonneg (a : Int) : 0 ≤ a * a := by
  rcases Int.le_total 0 a with h | h
  · exact Int.mul_nonneg h h
  · have := Int.mul_nonneg (show 0 ≤ -a by omega) (show 0 ≤ -a by omega)
    rw [Int.neg_mul_neg] at this
    exact this

theorem normP_rng {a b : Int} (ha : -10000 ≤ a ∧ a ≤ 10000) (hb : -10000 ≤ b ∧ b ≤ 10000) : 0 ≤ normP a b ∧ normP a b ≤ 1000000000 := by
  have e : 4 * normP a b = (2 * a - b) * (2 * a - b) + 3 * (b * b) := by unfold normP; grind
  have h2 := sq_nonneg (2 * a - b)
  have h3 := sq_nonneg b
  have b1 := mulA (A := 10000) (B := 10000) ha ha
  have b2 := mulA (A := 10000) (B := 10000) ha hb
  have b3 := mulA (A := 10000) (B := 10000) hb hb
  refine ⟨by omega, ?_⟩
  unfold normP
  omega

theorem normP_times (a b c d : Int) : normP (timesP a b c d).1 (timesP a b c d).2 = normP a b * normP c d := by
  unfold normP timesP
  simp only
  grind

theorem pairS_in {a b : Int} (ha : -999999999 ≤ a ∧ a ≤ 999999999) (hb : -999999999 ≤ b ∧ b ≤ 999999999) : pairS a b = 0 := by
  unfold pairS
  simp only [orE_zero, withinS_zero]
  exact ⟨ha, hb⟩

theorem t_Split (up : List Ces) (x y z s : Int) (h : loadS x y z = 0) (e : x + y + z = s) : Cs gl n_rotor_Split up [.agg [.int .i64 x, .int .i64 y, .int .i64 z]] (.tup [.int .i64 s, .agg [.int .i64 (x - z), .int .i64 (y - z)], .int .i64 0]) up := by
  have := c_Split (gl := gl) up x y z
  rw [splitR_u, h, e] at this
  exact this

theorem t_Turn (up : List Ces) (hr : gl g_rotor_roots = rootsI) (a b n c d : Int) (ha : -999999999 ≤ a ∧ a ≤ 999999999) (hb : -999999999 ≤ b ∧ b ≤ 999999999) (hn : -999999999 ≤ n ∧ n ≤ 999999999) (h1 : (turnP a b n).1 = c) (h2 : (turnP a b n).2 = d) :
    Cs gl n_rotor_Turn up [.agg [.int .i64 a, .int .i64 b], .int .i64 n] (.tup [.agg [.int .i64 c, .int .i64 d], .int .i64 0]) up := by
  have := c_Turn (gl := gl) up hr a b n
  unfold turnR turnErr at this
  rw [tup_u2, pairS_in ha hb, show withinS n (-999999999) 999999999 = 0 from withinS_zero.2 hn, h1, h2] at this
  exact this

theorem t_Norm (up : List Ces) (a b m : Int) (ha : -999999999 ≤ a ∧ a ≤ 999999999) (hb : -999999999 ≤ b ∧ b ≤ 999999999) (h : normP a b = m) : Cs gl n_rotor_Norm up [.agg [.int .i64 a, .int .i64 b]] (.tup [.int .i64 m, .int .i64 0]) up := by
  have := c_Norm (gl := gl) up a b
  unfold normR at this
  rw [tup_u1, pairS_in ha hb, show a * a - a * b + b * b = m from h] at this
  exact this

theorem t_Times (up : List Ces) (a b c d p q : Int) (ha : -999999999 ≤ a ∧ a ≤ 999999999) (hb : -999999999 ≤ b ∧ b ≤ 999999999) (hc : -999999999 ≤ c ∧ c ≤ 999999999) (hd : -999999999 ≤ d ∧ d ≤ 999999999) (h1 : (timesP a b c d).1 = p) (h2 : (timesP a b c d).2 = q) :
    Cs gl n_rotor_Times up [.agg [.int .i64 a, .int .i64 b], .agg [.int .i64 c, .int .i64 d]] (.tup [.agg [.int .i64 p, .int .i64 q], .int .i64 0]) up := by
  have := c_Times (gl := gl) up a b c d
  unfold timesR at this
  rw [tup_u2, pairS_in ha hb, pairS_in hc hd, h1, h2] at this
  exact this

theorem t_Conj (up : List Ces) (a b : Int) (ha : -999999999 ≤ a ∧ a ≤ 999999999) (hb : -999999999 ≤ b ∧ b ≤ 999999999) : Cs gl n_rotor_Conjugate up [.agg [.int .i64 a, .int .i64 b]] (.tup [.agg [.int .i64 (a - b), .int .i64 (-b)], .int .i64 0]) up := by
  have := c_Conjugate (gl := gl) up a b
  unfold conjR at this
  rw [tup_u2, pairS_in ha hb] at this
  exact this

theorem t_Merge (up : List Ces) (x y z : Int) (hx : -1000000 ≤ x ∧ x ≤ 1000000) (hy : -1000000 ≤ y ∧ y ≤ 1000000) (hz : -1000000 ≤ z ∧ z ≤ 1000000) :
    Cs gl n_rotor_Merge up [.int .i64 (x + y + z), .agg [.int .i64 (x - z), .int .i64 (y - z)]] (.tup [.agg [.int .i64 x, .int .i64 y, .int .i64 z], .int .i64 0]) up := by
  have := c_Merge (gl := gl) up (x + y + z) (x - z) (y - z)
  have h0 : mergeE (x + y + z) (x - z) (y - z) = 0 := by
    unfold mergeE
    rw [orE_zero, withinS_zero]
    exact ⟨by omega, pairS_in (by omega) (by omega)⟩
  have e : x + y + z - (x - z) - (y - z) = 3 * z := by omega
  have hq : mergeQ (x + y + z) (x - z) (y - z) = (x, y, z, 0) := by
    unfold mergeQ
    rw [e, show (3 * z).tmod 3 = 0 from Int.tmod_eq_zero_of_dvd ⟨z, rfl⟩, Int.mul_tdiv_cancel_left z (by decide), show x - z + z = x by omega, show y - z + z = y by omega]
    rw [show loadS x y z = 0 by unfold loadS; simp only [orE_zero, withinS_zero]; exact ⟨hx, hy, hz⟩]
    rfl
  rw [mergeR_ok h0, hq] at this
  exact this

theorem t_rec {n : Nat} (hn : n ≤ 400) {x y z : Nat → Int} (hv : ∀ i, i < n → loadS (x i) (y i) (z i) = 0) : recS n x y z = 0 := by
  unfold recS
  rw [show decide ((n : Int) > 400) = false by simp; omega, cond_false]
  unfold recE
  rw [firstS_zero]
  exact fun j _ hj => hv j (by omega)

/-- The record whose loads stand still. -/
def stX (x y z : Int) (i : Nat) : Int := [x, y, z].getD i 0
abbrev stL (x y z : Int) : IV := .lst none 3 3 (litF 3 [.int .i64 x, .int .i64 y, .int .i64 z, .int .i64 y, .int .i64 z, .int .i64 x, .int .i64 z, .int .i64 x, .int .i64 y])
abbrev alL (x y z : Int) : IV := .lst none 3 3 (litF 3 [.int .i64 x, .int .i64 y, .int .i64 z, .int .i64 x, .int .i64 y, .int .i64 z, .int .i64 x, .int .i64 y, .int .i64 z])
theorem st_le (x y z : Int) : leL [stL x y z] [loadsI none 3 (stX x y z) (stX y z x) (stX z x y)] := ⟨⟨.inl rfl, rfl, rfl, fun i hi => by
  match i, hi with
  | 0, _ => rfl
  | 1, _ => rfl
  | 2, _ => rfl⟩, trivial⟩
theorem al_le (x y z : Int) : leL [alL x y z] [loadsI none 3 (fun _ => x) (fun _ => y) (fun _ => z)] := ⟨⟨.inl rfl, rfl, rfl, fun i hi => by
  match i, hi with
  | 0, _ => rfl
  | 1, _ => rfl
  | 2, _ => rfl⟩, trivial⟩

theorem loadS_in {x y z : Int} (hx : -1000000 ≤ x ∧ x ≤ 1000000) (hy : -1000000 ≤ y ∧ y ≤ 1000000) (hz : -1000000 ≤ z ∧ z ≤ 1000000) : loadS x y z = 0 := by
  unfold loadS; simp only [orE_zero, withinS_zero]; exact ⟨hx, hy, hz⟩

theorem st_ok {x y z : Int} (hx : -1000000 ≤ x ∧ x ≤ 1000000) (hy : -1000000 ≤ y ∧ y ≤ 1000000) (hz : -1000000 ≤ z ∧ z ≤ 1000000) : recS 3 (stX x y z) (stX y z x) (stX z x y) = 0 := t_rec (by decide) fun i hi => by
  match i, hi with
  | 0, _ => exact loadS_in hx hy hz
  | 1, _ => exact loadS_in hy hz hx
  | 2, _ => exact loadS_in hz hx hy

theorem turn0 (a b : Int) : turnP a b (0 : Nat) = (a, b) := by unfold turnP; rw [if_pos (by decide)]
theorem turn1 (a b : Int) : turnP a b (1 : Nat) = (-b, a - b) := by unfold turnP; rw [if_neg (by decide), if_pos (by decide)]
theorem turn2 (a b : Int) : turnP a b (2 : Nat) = (b - a, -a) := by unfold turnP; rw [if_neg (by decide), if_neg (by decide)]

theorem turn_1a (a b : Int) : (turnP a b 1).1 = -b := by rw [show (1 : Int) = ((1 : Nat) : Int) from rfl, turn1]
theorem turn_1b (a b : Int) : (turnP a b 1).2 = a - b := by rw [show (1 : Int) = ((1 : Nat) : Int) from rfl, turn1]
theorem turn_2a (a b : Int) : (turnP a b 2).1 = b - a := by rw [show (2 : Int) = ((2 : Nat) : Int) from rfl, turn2]
theorem turn_2b (a b : Int) : (turnP a b 2).2 = -a := by rw [show (2 : Int) = ((2 : Nat) : Int) from rfl, turn2]
theorem norm_turn (a b : Int) : normP (-b) (a - b) = normP a b := by unfold normP; grind
theorem conj_1 (a b : Int) : (timesP a b (a - b) (-b)).1 = normP a b := by unfold normP timesP; simp only; grind
theorem conj_2 (a b : Int) : (timesP a b (a - b) (-b)).2 = 0 := by unfold timesP; simp only; grind
theorem same_1 {x y z : Int} (h : (x == y) = true) : ((x - z == 0 && (y - z == 0 && true)) != (y == z)) = false := by
  have h : x = y := by simpa using h
  subst h
  by_cases e : x = z
  · subst e; simp
  · have e2 : ¬ x - z = 0 := by omega
    have e3 : (x - z == 0) = false := by simpa using e2
    have e4 : (x == z) = false := by simpa using e
    rw [e3, e4]; rfl
theorem same_2 {x y z : Int} (h : (x == y) = false) : ((x - z == 0 && (y - z == 0 && true)) != false) = false := by
  have h : ¬ x = y := by simpa using h
  by_cases e : x - z = 0
  · have e2 : ¬ y - z = 0 := by omega
    simp [e2]
  · simp [e]

theorem t_Rot_still (up : List Ces) (x y z : Int) (hx : -1000000 ≤ x ∧ x ≤ 1000000) (hy : -1000000 ≤ y ∧ y ≤ 1000000) (hz : -1000000 ≤ z ∧ z ≤ 1000000) :
    Cs gl n_rotor_Rotating up [stL x y z] (.tup [.agg [.int .i64 0, .int .i64 0], .int .i64 0]) up := by
  have := c_Rotating (gl := gl) up 3 (stX x y z) (stX y z x) (stX z x y)
  unfold rotR at this
  rw [recR_u, st_ok hx hy hz] at this
  have e1 : sumTo (fun i => stX x y z i - stX z x y i) 3 = 0 := by
    show 0 + (x - z) + (y - x) + (z - y) = 0
    omega
  have e2 : sumTo (fun i => stX y z x i - stX z x y i) 3 = 0 := by
    show 0 + (y - z) + (z - x) + (x - y) = 0
    omega
  rw [e1, e2] at this
  exact Comp.le (st_le x y z) this

theorem t_Fix_still (up : List Ces) (hr : gl g_rotor_roots = rootsI) (x y z p q : Int) (hx : -1000000 ≤ x ∧ x ≤ 1000000) (hy : -1000000 ≤ y ∧ y ≤ 1000000) (hz : -1000000 ≤ z ∧ z ≤ 1000000) (hp : 3 * (x - z) = p) (hq : 3 * (y - z) = q) :
    Cs gl n_rotor_Fixed up [stL x y z] (.tup [.agg [.int .i64 p, .int .i64 q], .int .i64 0]) up := by
  have := c_Fixed (gl := gl) up hr 3 (stX x y z) (stX y z x) (stX z x y)
  unfold fixR at this
  rw [recR_u, st_ok hx hy hz] at this
  have e1 : sumTo (fun i => (turnP (stX x y z i - stX z x y i) (stX y z x i - stX z x y i) i).1) 3 = p := by
    show 0 + (turnP (x - z) (y - z) (0 : Nat)).1 + (turnP (y - x) (z - x) (1 : Nat)).1 + (turnP (z - y) (x - y) (2 : Nat)).1 = p
    rw [turn0, turn1, turn2]
    simp only
    omega
  have e2 : sumTo (fun i => (turnP (stX x y z i - stX z x y i) (stX y z x i - stX z x y i) i).2) 3 = q := by
    show 0 + (turnP (x - z) (y - z) (0 : Nat)).2 + (turnP (y - x) (z - x) (1 : Nat)).2 + (turnP (z - y) (x - y) (2 : Nat)).2 = q
    rw [turn0, turn1, turn2]
    simp only
    omega
  rw [e1, e2] at this
  exact Comp.le (st_le x y z) this

theorem t_Rot_along (up : List Ces) (x y z p q : Int) (h : loadS x y z = 0) (hp : 3 * (x - z) = p) (hq : 3 * (y - z) = q) :
    Cs gl n_rotor_Rotating up [alL x y z] (.tup [.agg [.int .i64 p, .int .i64 q], .int .i64 0]) up := by
  have := c_Rotating (gl := gl) up 3 (fun _ => x) (fun _ => y) (fun _ => z)
  unfold rotR at this
  rw [recR_u, t_rec (by decide) fun _ _ => h] at this
  have e1 : sumTo (fun i => x - z) 3 = p := by
    show 0 + (x - z) + (x - z) + (x - z) = p
    omega
  have e2 : sumTo (fun i => y - z) 3 = q := by
    show 0 + (y - z) + (y - z) + (y - z) = q
    omega
  rw [e1, e2] at this
  exact Comp.le (al_le x y z) this

theorem t_Fix_along (up : List Ces) (hr : gl g_rotor_roots = rootsI) (x y z : Int) (h : loadS x y z = 0) :
    Cs gl n_rotor_Fixed up [alL x y z] (.tup [.agg [.int .i64 0, .int .i64 0], .int .i64 0]) up := by
  have := c_Fixed (gl := gl) up hr 3 (fun _ => x) (fun _ => y) (fun _ => z)
  unfold fixR at this
  rw [recR_u, t_rec (by decide) fun _ _ => h] at this
  have e1 : sumTo (fun i => (turnP (x - z) (y - z) i).1) 3 = 0 := by
    show 0 + (turnP (x - z) (y - z) (0 : Nat)).1 + (turnP (x - z) (y - z) (1 : Nat)).1 + (turnP (x - z) (y - z) (2 : Nat)).1 = 0
    rw [turn0, turn1, turn2]
    simp only
    omega
  have e2 : sumTo (fun i => (turnP (x - z) (y - z) i).2) 3 = 0 := by
    show 0 + (turnP (x - z) (y - z) (0 : Nat)).2 + (turnP (x - z) (y - z) (1 : Nat)).2 + (turnP (x - z) (y - z) (2 : Nat)).2 = 0
    rw [turn0, turn1, turn2]
    simp only
    omega
  rw [e1, e2] at this
  exact Comp.le (al_le x y z) this

/-- The guard of the pairs. -/
def pairsG (a b c d : Int) : Bool := decide (maxW (maxW (maxW (maxW (maxW (maxW (maxW a (w64 (0 - a))) b) (w64 (0 - b))) c) (w64 (0 - c))) d) (w64 (0 - d)) > 10000)
def pairsL (a b c d : Int) : Bool := decide (minW (minW (minW a b) c) d < -10000)

set_option maxHeartbeats 4000000 in
theorem thirds_no (up : List Ces) (hr : gl g_rotor_roots = rootsI) (hpw : gl g_internal_strconv_uint64pow10 = powI) (x y z a b c d : Int) (h : loadS x y z ≠ 0 ∨ pairsG a b c d = true ∨ pairsL a b c d = true) :
    Cs gl n_nacellelaw03_RotorThirds up [.agg [.int .i64 x, .int .i64 y, .int .i64 z], .agg [.int .i64 a, .int .i64 b], .agg [.int .i64 c, .int .i64 d]] (.bool true) up := by
  refine mk h_nacellelaw03_RotorThirds rfl rfl ?_
  conv => whnf
  refine .mk _ _ _ _ _ (leL_refl _) (c_awake _ hr hpw) rfl ?_
  conv => whnf
  refine .mk _ _ _ _ _ (leL_refl _) (c_rCheckLoads _ _ _ _) rfl ?_
  conv => whnf
  split
  · conv => whnf
    refine .mk _ _ _ _ _ (leL_refl _) (c_awake _ hr hpw) rfl ?_
    conv => whnf
    exact ⟨rfl, rfl⟩
  rename_i h1
  conv => whnf
  split
  · conv => whnf
    refine .mk _ _ _ _ _ (leL_refl _) (c_awake _ hr hpw) rfl ?_
    conv => whnf
    exact ⟨rfl, rfl⟩
  rename_i h2
  conv => whnf
  split
  · conv => whnf
    refine .mk _ _ _ _ _ (leL_refl _) (c_awake _ hr hpw) rfl ?_
    conv => whnf
    exact ⟨rfl, rfl⟩
  rename_i h3
  have h3 : pairsL a b c d = false := h3
  have h2 : pairsG a b c d = false := h2
  have h1 : loadS x y z = 0 := by simpa using h1
  rcases h with h | h | h
  · exact absurd h1 h
  · rw [h2] at h; cases h
  · rw [h3] at h; cases h

/-- What is read behind each call. -/
def lvThirds : List (Nat × List Nat) := [(47, [3, 4, 5, 6, 7, 8, 9, 10, 11, 47]), (51, [3, 4, 5, 6, 7, 8, 9, 10, 11, 49, 51]), (90, [3, 4, 5, 6, 7, 8, 9, 10, 11, 90]), (100, [3, 4, 5, 6, 7, 8, 9, 10, 11, 100]), (106, [3, 4, 5, 6, 8, 9, 10, 11, 106]), (113, [3, 4, 5, 6, 8, 9, 10, 11, 12, 13, 113]), (118, [3, 4, 5, 6, 8, 9, 10, 11, 12, 13, 14, 15, 118]), (183, [3, 4, 5, 6, 9, 183]), (188, [3, 4, 5, 6, 9, 18, 19, 188]), (193, [3, 4, 6, 9, 18, 19, 20, 21, 193]), (238, [3, 4, 6, 9, 20, 22, 238]), (243, [3, 4, 6, 9, 20, 22, 24, 25, 243]), (248, [3, 4, 6, 9, 20, 22, 24, 25, 26, 27, 248]), (253, [3, 4, 6, 9, 20, 22, 24, 25, 27, 28, 29, 253]), (258, [3, 4, 6, 9, 20, 22, 24, 25, 27, 28, 29, 30, 31, 258]), (264, [3, 4, 6, 9, 20, 22, 24, 25, 27, 28, 29, 30, 31, 33, 264]), (334, [6, 9, 36, 37, 334]), (339, [6, 9, 37, 38, 39, 339]), (344, [6, 9, 37, 38, 39, 40, 41, 344]), (349, [6, 9, 38, 39, 40, 41, 42, 43, 349])]
set_option maxHeartbeats 8000000 in
theorem thirds_yes (up : List Ces) (hr : gl g_rotor_roots = rootsI) (hpw : gl g_internal_strconv_uint64pow10 = powI) (x y z a b c d m n p q : Int) (hl : loadS x y z = 0) (hg1 : pairsG a b c d = false) (hg2 : pairsL a b c d = false)
    (hm : m = normP a b) (hn : n = normP c d) (hp1 : p = (timesP a b c d).1) (hp2 : q = (timesP a b c d).2)
    (k1 : -1000000 ≤ x ∧ x ≤ 1000000) (k2 : -1000000 ≤ y ∧ y ≤ 1000000) (k3 : -1000000 ≤ z ∧ z ≤ 1000000)
    (a1 : -10000 ≤ a ∧ a ≤ 10000) (b1 : -10000 ≤ b ∧ b ≤ 10000) (c1 : -10000 ≤ c ∧ c ≤ 10000) (d1 : -10000 ≤ d ∧ d ≤ 10000)
    (m1 : 0 ≤ m ∧ m ≤ 1000000000) (n1 : 0 ≤ n ∧ n ≤ 1000000000)
    (p1 : -300000000 ≤ p ∧ p ≤ 300000000) (p2 : -300000000 ≤ q ∧ q ≤ 300000000) (g3 : maxW (maxW (maxW p (w64 (0 - p))) q) (w64 (0 - q)) ≤ 999999999)
    (emn : w64 (m * n) = m * n) (es : w64 (w64 (x + y) + z) = x + y + z) (e3 : w64 (3 * (x - z)) = 3 * (x - z)) (e4 : w64 (3 * (y - z)) = 3 * (y - z)) :
    Cs gl n_nacellelaw03_RotorThirds up [.agg [.int .i64 x, .int .i64 y, .int .i64 z], .agg [.int .i64 a, .int .i64 b], .agg [.int .i64 c, .int .i64 d]] (.bool true) up := by
  have x1 := loadS_in k3 k1 k2
  have x2 : z + x + y = x + y + z := by omega
  have x3 := turn_1a (x - z) (y - z)
  have x4 := turn_1b (x - z) (y - z)
  rw [show -(y - z) = z - y by omega] at x3
  rw [show x - z - (y - z) = x - y by omega] at x4
  have t1 := t_Times (gl := gl) (a := a) (b := b) (c := c) (d := d) (p := p) (q := q) (ha := by omega) (hb := by omega) (hc := by omega) (hd := by omega) (h1 := hp1.symm) (h2 := hp2.symm)
  have t2 := t_Norm (gl := gl) (a := a) (b := b) (m := m) (ha := by omega) (hb := by omega) (h := hm.symm)
  have t3 := t_Norm (gl := gl) (a := c) (b := d) (m := n) (ha := by omega) (hb := by omega) (h := hn.symm)
  have t4 := t_Norm (gl := gl) (a := p) (b := q) (m := m * n) (ha := by omega) (hb := by omega) (h := by rw [hm, hn, hp1, hp2]; exact normP_times a b c d)
  have t5 := fun up => t_Turn (gl := gl) up hr a b 1 (-b) (a - b) (by omega) (by omega) (by decide) (turn_1a a b) (turn_1b a b)
  have t6 := fun up => t_Norm (gl := gl) up (-b) (a - b) m (by omega) (by omega) ((norm_turn a b).trans hm.symm)
  have t7 := fun up => t_Turn (gl := gl) up hr (-b) (a - b) 2 a b (by omega) (by omega) (by decide) (by rw [turn_2a]; omega) (by rw [turn_2b]; omega)
  have t8 := fun up => t_Conj (gl := gl) up a b (by omega) (by omega)
  have t9 := fun up => t_Times (gl := gl) up a b (a - b) (-b) m 0 (by omega) (by omega) (by omega) (by omega) ((conj_1 a b).trans hm.symm) (conj_2 a b)
  have t10 := fun up => t_Turn (gl := gl) up hr (x - z) (y - z) 1 (z - y) (x - y) (by omega) (by omega) (by decide) x3 x4
  have q1 : decide (maxW (maxW (maxW p (w64 (0 - p))) q) (w64 (0 - q)) > 999999999) = false := decide_eq_false (by omega)
  have q2 : decide (m < 0) = false := decide_eq_false (by omega)
  have q3 : decide (m > 1000000000) = false := decide_eq_false (by omega)
  have q4 : decide (n < 0) = false := decide_eq_false (by omega)
  have q5 : decide (n > 1000000000) = false := decide_eq_false (by omega)
  have q6 := same_1 (x := x) (y := y) (z := z)
  have q7 := same_2 (x := x) (y := y) (z := z)
  clear hm hn hp1 hp2 a1 b1 c1 d1 m1 n1 p1 p2 g3 x3 x4
  refine mk h_nacellelaw03_RotorThirds rfl rfl ?_
  conv => whnf
  refine CALL0.cutBy lvThirds _ _ _ _ _ (leL_refl _) (c_awake _ hr hpw) rfl ?_
  conv => whnf
  refine CALL0.cutBy lvThirds _ _ _ _ _ (leL_refl _) (c_rCheckLoads _ _ _ _) rfl ?_
  conv => whnf
  split
  · rename_i h
    exact absurd h (by simp [hl])
  rename_i hN
  clear hN
  conv => whnf
  split
  · rename_i h
    exact Bool.noConfusion ((hg1).symm.trans h)
  rename_i hN
  clear hN
  conv => whnf
  split
  · rename_i h
    exact Bool.noConfusion ((hg2).symm.trans h)
  rename_i hN
  clear hN
  conv => whnf
  refine CALL0.cutBy lvThirds _ _ _ _ _ (leL_refl _) (t_Split _ x y z (x + y + z) hl rfl) rfl ?_
  conv => whnf
  refine CALL0.cutBy lvThirds _ _ _ _ _ (leL_refl _) (t_Split _ z x y (x + y + z) x1 x2) rfl ?_
  conv => whnf
  refine CALL0.cutBy lvThirds _ _ _ _ _ (leL_refl _) (t_Merge _ x y z k1 k2 k3) rfl ?_
  conv => whnf
  refine CALL0.cutBy lvThirds _ _ _ _ _ (leL_refl _) (t10 _) rfl ?_
  conv => whnf
  refine .mk 59 (by kernel_rfl) ?_
  conv => whnf
  split
  · rename_i h
    exact absurd h (by simp)
  rename_i hN
  clear hN
  conv => whnf
  split
  · rename_i h
    exact absurd h (by simp [es])
  rename_i hN
  clear hN
  conv => whnf
  split
  · rename_i h
    exact absurd h (by simp)
  rename_i hN
  clear hN
  conv => whnf
  split
  · rename_i h
    exact absurd h (by simp)
  rename_i hN
  clear hN
  conv => whnf
  split
  · rename_i hxy
    conv => whnf
    split
    · rename_i h
      exact Bool.noConfusion ((q6 hxy).symm.trans h)
    rename_i hN
    clear hN
    conv => whnf
    refine CALL0.cutBy lvThirds _ _ _ _ _ (leL_refl _) (t1 _) rfl ?_
    conv => whnf
    refine CALL0.cutBy lvThirds _ _ _ _ _ (leL_refl _) (t2 _) rfl ?_
    conv => whnf
    refine CALL0.cutBy lvThirds _ _ _ _ _ (leL_refl _) (t3 _) rfl ?_
    conv => whnf
    split
    · rename_i h
      exact Bool.noConfusion ((q1).symm.trans h)
    rename_i hN
    clear hN
    conv => whnf
    split
    · rename_i h
      exact Bool.noConfusion ((q2).symm.trans h)
    rename_i hN
    clear hN
    conv => whnf
    split
    · rename_i h
      exact Bool.noConfusion ((q3).symm.trans h)
    rename_i hN
    clear hN
    conv => whnf
    split
    · rename_i h
      exact Bool.noConfusion ((q4).symm.trans h)
    rename_i hN
    clear hN
    conv => whnf
    split
    · rename_i h
      exact Bool.noConfusion ((q5).symm.trans h)
    rename_i hN
    clear hN
    conv => whnf
    refine CALL0.cutBy lvThirds _ _ _ _ _ (leL_refl _) (t4 _) rfl ?_
    conv => whnf
    refine CALL0.cutBy lvThirds _ _ _ _ _ (leL_refl _) (t5 _) rfl ?_
    conv => whnf
    refine CALL0.cutBy lvThirds _ _ _ _ _ (leL_refl _) (t6 _) rfl ?_
    conv => whnf
    refine CALL0.cutBy lvThirds _ _ _ _ _ (leL_refl _) (t7 _) rfl ?_
    conv => whnf
    refine CALL0.cutBy lvThirds _ _ _ _ _ (leL_refl _) (t8 _) rfl ?_
    conv => whnf
    refine CALL0.cutBy lvThirds _ _ _ _ _ (leL_refl _) (t9 _) rfl ?_
    conv => whnf
    split
    · rename_i h
      exact absurd h (by simp [emn])
    rename_i hN
    clear hN
    conv => whnf
    split
    · rename_i h
      exact absurd h (by simp)
    rename_i hN
    clear hN
    conv => whnf
    split
    · rename_i h
      exact absurd h (by simp)
    rename_i hN
    clear hN
    conv => whnf
    split
    · rename_i h
      exact absurd h (by simp)
    rename_i hN
    clear hN
    conv => whnf
    refine CALL0.cutBy lvThirds _ _ _ _ _ (leL_refl _) (t_Rot_still _ x y z k1 k2 k3) rfl ?_
    conv => whnf
    refine CALL0.cutBy lvThirds _ _ _ _ _ (leL_refl _) (t_Fix_still _ hr x y z _ _ k1 k2 k3 rfl rfl) rfl ?_
    conv => whnf
    refine CALL0.cutBy lvThirds _ _ _ _ _ (leL_refl _) (t_Rot_along _ x y z _ _ hl rfl rfl) rfl ?_
    conv => whnf
    refine CALL0.cutBy lvThirds _ _ _ _ _ (leL_refl _) (t_Fix_along _ hr x y z hl) rfl ?_
    conv => whnf
    split
    rotate_left
    · rename_i h
      exact absurd h (by simp [e3, e4])
    conv => whnf
    split
    rotate_left
    · rename_i h
      exact absurd h (by simp [e3, e4])
    conv => whnf
    exact ⟨rfl, rfl⟩
  · rename_i hxy
    conv => whnf
    split
    · rename_i h
      exact Bool.noConfusion ((q7 hxy).symm.trans h)
    rename_i hN
    clear hN
    conv => whnf
    refine CALL0.cutBy lvThirds _ _ _ _ _ (leL_refl _) (t1 _) rfl ?_
    conv => whnf
    refine CALL0.cutBy lvThirds _ _ _ _ _ (leL_refl _) (t2 _) rfl ?_
    conv => whnf
    refine CALL0.cutBy lvThirds _ _ _ _ _ (leL_refl _) (t3 _) rfl ?_
    conv => whnf
    split
    · rename_i h
      exact Bool.noConfusion ((q1).symm.trans h)
    rename_i hN
    clear hN
    conv => whnf
    split
    · rename_i h
      exact Bool.noConfusion ((q2).symm.trans h)
    rename_i hN
    clear hN
    conv => whnf
    split
    · rename_i h
      exact Bool.noConfusion ((q3).symm.trans h)
    rename_i hN
    clear hN
    conv => whnf
    split
    · rename_i h
      exact Bool.noConfusion ((q4).symm.trans h)
    rename_i hN
    clear hN
    conv => whnf
    split
    · rename_i h
      exact Bool.noConfusion ((q5).symm.trans h)
    rename_i hN
    clear hN
    conv => whnf
    refine CALL0.cutBy lvThirds _ _ _ _ _ (leL_refl _) (t4 _) rfl ?_
    conv => whnf
    refine CALL0.cutBy lvThirds _ _ _ _ _ (leL_refl _) (t5 _) rfl ?_
    conv => whnf
    refine CALL0.cutBy lvThirds _ _ _ _ _ (leL_refl _) (t6 _) rfl ?_
    conv => whnf
    refine CALL0.cutBy lvThirds _ _ _ _ _ (leL_refl _) (t7 _) rfl ?_
    conv => whnf
    refine CALL0.cutBy lvThirds _ _ _ _ _ (leL_refl _) (t8 _) rfl ?_
    conv => whnf
    refine CALL0.cutBy lvThirds _ _ _ _ _ (leL_refl _) (t9 _) rfl ?_
    conv => whnf
    split
    · rename_i h
      exact absurd h (by simp [emn])
    rename_i hN
    clear hN
    conv => whnf
    split
    · rename_i h
      exact absurd h (by simp)
    rename_i hN
    clear hN
    conv => whnf
    split
    · rename_i h
      exact absurd h (by simp)
    rename_i hN
    clear hN
    conv => whnf
    split
    · rename_i h
      exact absurd h (by simp)
    rename_i hN
    clear hN
    conv => whnf
    refine CALL0.cutBy lvThirds _ _ _ _ _ (leL_refl _) (t_Rot_still _ x y z k1 k2 k3) rfl ?_
    conv => whnf
    refine CALL0.cutBy lvThirds _ _ _ _ _ (leL_refl _) (t_Fix_still _ hr x y z _ _ k1 k2 k3 rfl rfl) rfl ?_
    conv => whnf
    refine CALL0.cutBy lvThirds _ _ _ _ _ (leL_refl _) (t_Rot_along _ x y z _ _ hl rfl rfl) rfl ?_
    conv => whnf
    refine CALL0.cutBy lvThirds _ _ _ _ _ (leL_refl _) (t_Fix_along _ hr x y z hl) rfl ?_
    conv => whnf
    split
    rotate_left
    · rename_i h
      exact absurd h (by simp [e3, e4])
    conv => whnf
    split
    rotate_left
    · rename_i h
      exact absurd h (by simp [e3, e4])
    conv => whnf
    exact ⟨rfl, rfl⟩

theorem c_RotorThirds (up : List Ces) (hr : gl g_rotor_roots = rootsI) (hpw : gl g_internal_strconv_uint64pow10 = powI) (x y z a b c d : Int) :
    Cs gl n_nacellelaw03_RotorThirds up [.agg [.int .i64 x, .int .i64 y, .int .i64 z], .agg [.int .i64 a, .int .i64 b], .agg [.int .i64 c, .int .i64 d]] (.bool true) up := by
  by_cases hl : loadS x y z = 0
  rotate_left
  · exact thirds_no up hr hpw x y z a b c d (.inl hl)
  cases hg1 : pairsG a b c d with
  | true => exact thirds_no up hr hpw x y z a b c d (.inr (.inl hg1))
  | false =>
  cases hg2 : pairsL a b c d with
  | true => exact thirds_no up hr hpw x y z a b c d (.inr (.inr hg2))
  | false =>
  obtain ⟨k1, k2, k3⟩ := loadS_ok hl
  obtain ⟨⟨a1, b1⟩, c1, d1⟩ := max8 hg1
  obtain ⟨⟨a2, b2⟩, c2, d2⟩ := min4 hg2
  obtain ⟨m, hm⟩ : ∃ m, m = normP a b := ⟨_, rfl⟩
  obtain ⟨n, hn⟩ : ∃ n, n = normP c d := ⟨_, rfl⟩
  obtain ⟨p, hp1⟩ : ∃ p, p = (timesP a b c d).1 := ⟨_, rfl⟩
  obtain ⟨q, hp2⟩ : ∃ q, q = (timesP a b c d).2 := ⟨_, rfl⟩
  have m1 : 0 ≤ m ∧ m ≤ 1000000000 := by rw [hm]; exact normP_rng (by omega) (by omega)
  have n1 : 0 ≤ n ∧ n ≤ 1000000000 := by rw [hn]; exact normP_rng (by omega) (by omega)
  have q1 := mulA (A := 10000) (B := 10000) (x := a) (y := c) (by omega) (by omega)
  have q2 := mulA (A := 10000) (B := 10000) (x := b) (y := d) (by omega) (by omega)
  have q3 := mulA (A := 10000) (B := 10000) (x := a) (y := d) (by omega) (by omega)
  have q4 := mulA (A := 10000) (B := 10000) (x := b) (y := c) (by omega) (by omega)
  have p1 : -300000000 ≤ p ∧ p ≤ 300000000 := by rw [hp1]; unfold timesP; simp only; omega
  have p2 : -300000000 ≤ q ∧ q ≤ 300000000 := by rw [hp2]; unfold timesP; simp only; omega
  have mn := mulB m1.1 m1.2 n1.1 n1.2
  have emn : w64 (m * n) = m * n := by rw [w64, wrap_in] <;> omega
  have es : w64 (w64 (x + y) + z) = x + y + z := by
    have : w64 (x + y) = x + y := by rw [w64, wrap_in] <;> omega
    rw [this, w64, wrap_in] <;> omega
  have e3 : w64 (3 * (x - z)) = 3 * (x - z) := by rw [w64, wrap_in] <;> omega
  have e4 : w64 (3 * (y - z)) = 3 * (y - z) := by rw [w64, wrap_in] <;> omega
  have g3 : maxW (maxW (maxW p (w64 (0 - p))) q) (w64 (0 - q)) ≤ 999999999 :=
    maxW_lt (maxW_lt (maxW_lt (n := 999999999) (a := p) (b := w64 (0 - p)) (by omega) (by rw [w64, wrap_in] <;> omega)) (b := q) (by omega)) (b := w64 (0 - q)) (by rw [w64, wrap_in] <;> omega)
  exact thirds_yes up hr hpw x y z a b c d m n p q hl hg1 hg2 hm hn hp1 hp2 k1 k2 k3 ⟨a2, a1⟩ ⟨b2, b1⟩ ⟨c2, c1⟩ ⟨d2, d1⟩ m1 n1 p1 p2 g3 emn es e3 e4
end Go.Proofs.YtllmejkmogepjaaDoor.Ix

/-
  IxSh2: pairs, loads, whole numbers that fit their shapes.
-/
namespace Go.Proofs.YtllmejkmogepjaaDoor.Ix

abbrev pairShp : Shp := .agg [(1, intS), (1, intS)]
abbrev tripShp : Shp := .agg [(1, intS), (1, intS), (1, intS)]

theorem fit_int {v : IV} (h : FitV intS v) : ∃ n, v = .int .i64 n := by
  obtain ⟨m, h, _⟩ := h
  exact ⟨m, (List.cons.inj h).1⟩

theorem fit_pair {v : IV} (h : FitV pairShp v) : ∃ a b, v = .agg [.int .i64 a, .int .i64 b] := by
  obtain ⟨xs, rfl, h⟩ := h
  have := fit_ints 2 xs h
  exact ⟨intAt xs 0, intAt xs 1, by rw [this]; simp [intAt, List.range, List.range.loop]⟩

theorem fit_trip {v : IV} (h : FitV tripShp v) : ∃ a b c, v = .agg [.int .i64 a, .int .i64 b, .int .i64 c] := by
  obtain ⟨xs, rfl, h⟩ := h
  have := fit_ints 3 xs h
  exact ⟨intAt xs 0, intAt xs 1, intAt xs 2, by rw [this]; simp [intAt, List.range, List.range.loop]⟩

theorem cells2 {ys : List IV} (h : Fit pairShp ys) : ∃ a b, ys = [.int .i64 a, .int .i64 b] := by
  have := fit_ints 2 ys h
  exact ⟨intAt ys 0, intAt ys 1, by rw [this]; simp [intAt, List.range, List.range.loop]⟩
theorem cells3 {ys : List IV} (h : Fit tripShp ys) : ∃ a b c, ys = [.int .i64 a, .int .i64 b, .int .i64 c] := by
  have := fit_ints 3 ys h
  exact ⟨intAt ys 0, intAt ys 1, intAt ys 2, by rw [this]; simp [intAt, List.range, List.range.loop]⟩
theorem cells1 {ys : List IV} (h : Fit intS ys) : ∃ a, ys = [.int .i64 a] := by
  obtain ⟨m, rfl, _⟩ := h
  exact ⟨m, rfl⟩

theorem fit_loads {v : IV} (h : FitV (.agg [(3, .agg [(1, intS), (1, intS), (1, intS)]), (1, intS), (2, .agg [(1, intS), (1, intS)])]) v) :
    ∃ p q r s t u, v = .agg [.int .i64 p, .int .i64 q, .int .i64 r, .int .i64 s, .int .i64 t, .int .i64 u] := by
  obtain ⟨xs, rfl, h⟩ := h
  simp only [FitL] at h
  obtain ⟨y1, z1, rfl, _, h1, y2, z2, rfl, _, h2, y3, z3, rfl, _, h3, rfl⟩ := h
  obtain ⟨p, q, r, rfl⟩ := cells3 h1
  obtain ⟨s, rfl⟩ := cells1 h2
  obtain ⟨t, u, rfl⟩ := cells2 h3
  exact ⟨p, q, r, s, t, u, rfl⟩

theorem fit_spot {v : IV} (h : FitV (.agg [(1, intS), (2, .agg [(1, intS), (1, intS)]), (1, intS), (1, intS)]) v) :
    ∃ p q r s t, v = .agg [.int .i64 p, .int .i64 q, .int .i64 r, .int .i64 s, .int .i64 t] := by
  obtain ⟨xs, rfl, h⟩ := h
  simp only [FitL] at h
  obtain ⟨y1, z1, rfl, _, h1, y2, z2, rfl, _, h2, y3, z3, rfl, _, h3, y4, z4, rfl, _, h4, rfl⟩ := h
  obtain ⟨p, rfl⟩ := cells1 h1
  obtain ⟨q, r, rfl⟩ := cells2 h2
  obtain ⟨s, rfl⟩ := cells1 h3
  obtain ⟨t, rfl⟩ := cells1 h4
  exact ⟨p, q, r, s, t, rfl⟩

theorem fit_quad {v : IV} (h : FitV (.agg [(1, intS), (1, intS), (1, intS), (1, intS)]) v) : ∃ p q r s, v = .agg [.int .i64 p, .int .i64 q, .int .i64 r, .int .i64 s] := by
  obtain ⟨xs, rfl, h⟩ := h
  have := fit_ints 4 xs h
  exact ⟨intAt xs 0, intAt xs 1, intAt xs 2, intAt xs 3, by rw [this]; simp [intAt, List.range, List.range.loop]⟩

theorem fit_slice3 {v : IV} (h : FitV (.slice 3 tripShp) v) : ∃ (n : Nat) (x y z : Nat → Int), n ≤ maxLen ∧ leV v (.lst none 3 n fun i => [.int .i64 (x i), .int .i64 (y i), .int .i64 (z i)]) := by
  obtain ⟨n, f, h, hn, hf⟩ := h
  obtain rfl := (List.cons.inj h).1
  refine ⟨n, fun i => intAt (f i) 0, fun i => intAt (f i) 1, fun i => intAt (f i) 2, hn, .inl rfl, rfl, rfl, fun i hi => ?_⟩
  obtain ⟨_, hf⟩ := hf i hi
  exact fit_ints 3 (f i) hf
end Go.Proofs.YtllmejkmogepjaaDoor.Ix
