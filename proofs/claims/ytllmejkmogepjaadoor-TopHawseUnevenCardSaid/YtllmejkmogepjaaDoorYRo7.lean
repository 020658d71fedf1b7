/-
  Ro7: contracts of the functions of the package rotor, the seventh part: products and turns of pairs, loads merged, records.
-/
import Derived.Test.YtllmejkmogepjaaDoorYRo6
namespace Go.Proofs.YtllmejkmogepjaaDoor.Ix
open Go.Proofs
set_option maxRecDepth 100000
set_option linter.unusedVariables false
variable {gl : Nat → IV}

/-- The table of the powers of w, as it lies. -/
abbrev rootsI : IV := .vptr 6 1 (fun _ => [.int .i64 1, .int .i64 0, .int .i64 0, .int .i64 1, .int .i64 (-1), .int .i64 (-1)]) 0 0

def timesP (a b c d : Int) : Int × Int := (a * c - b * d, a * d + b * c - b * d)

theorem c_times (up : List Ces) (a b c d : Int) (ha : -999999999 ≤ a ∧ a ≤ 999999999) (hb : -999999999 ≤ b ∧ b ≤ 999999999) (hc : -999999999 ≤ c ∧ c ≤ 999999999) (hd : -999999999 ≤ d ∧ d ≤ 999999999) :
    Cs gl n_rotor_Pair_times up [.agg [.int .i64 a, .int .i64 b], .agg [.int .i64 c, .int .i64 d]] (.agg [.int .i64 (timesP a b c d).1, .int .i64 (timesP a b c d).2]) up := by
  refine mk h_rotor_Pair_times rfl rfl ?_
  have b1 := mulA (A := 999999999) (B := 999999999) ha hc
  have b2 := mulA (A := 999999999) (B := 999999999) hb hd
  have b3 := mulA (A := 999999999) (B := 999999999) ha hd
  have b4 := mulA (A := 999999999) (B := 999999999) hb hc
  have e1 : w64 (a * c) = a * c := by rw [w64, wrap_in] <;> omega
  have e2 : w64 (b * d) = b * d := by rw [w64, wrap_in] <;> omega
  have e3 : w64 (a * d) = a * d := by rw [w64, wrap_in] <;> omega
  have e4 : w64 (b * c) = b * c := by rw [w64, wrap_in] <;> omega
  have e5 : w64 (a * c - b * d) = a * c - b * d := by rw [w64, wrap_in] <;> omega
  have e6 : w64 (a * d + b * c) = a * d + b * c := by rw [w64, wrap_in] <;> omega
  have e7 : w64 (a * d + b * c - b * d) = a * d + b * c - b * d := by rw [w64, wrap_in] <;> omega
  conv => whnf
  refine ⟨?_, rfl⟩
  show IV.agg [.int .i64 (w64 (w64 (a * c) - w64 (b * d))), .int .i64 (w64 (w64 (w64 (a * d) + w64 (b * c)) - w64 (b * d)))] = _
  rw [e1, e2, e3, e4, e5, e6, e7]; rfl

/-- How many thirds, from 0 to 2. -/
def thirdS (n : Int) : Int := (n.tmod 3 + 3).tmod 3
/-- A pair turned. -/
def turnP (a b n : Int) : Int × Int := if thirdS n = 0 then (a, b) else if thirdS n = 1 then (-b, a - b) else (b - a, -a)

theorem thirdS_cases (n : Int) : thirdS n = 0 ∨ thirdS n = 1 ∨ thirdS n = 2 := by
  unfold thirdS
  have h1 := Int.tmod_lt_of_pos n (show (0 : Int) < 3 by decide)
  have h2 : -3 < n.tmod 3 := by
    have := Int.neg_le_neg (Int.le_of_lt (Int.tmod_lt_of_pos (-n) (show (0 : Int) < 3 by decide)))
    have h3 := Int.tmod_lt_of_pos (-n) (show (0 : Int) < 3 by decide)
    rw [Int.neg_tmod] at h3
    omega
  rw [Int.tmod_eq_emod_of_nonneg (by omega)]
  omega

theorem evo_gl {P : Program} {T : Nat → Ty} {gl : Nat → IV} {nt : Nat} {vis : Nat → List IV → Nat → (Nat → List IV) → Prop} {yld : Option (Nat × Nat × (Nat → List IV))} {ds : Option (List Deferred)} {S : St} {n : Nat} {v : IV} (h : gl n = v) : evo ⟨P, T, gl, nt, vis, yld, ds⟩ S (.global n) = v := h

theorem c_turned (up : List Ces) (hg : gl g_rotor_roots = rootsI) (a b n : Int) (ha : -999999999 ≤ a ∧ a ≤ 999999999) (hb : -999999999 ≤ b ∧ b ≤ 999999999) :
    Cs gl n_rotor_Pair_turned up [.agg [.int .i64 a, .int .i64 b], .int .i64 n] (.agg [.int .i64 (turnP a b n).1, .int .i64 (turnP a b n).2]) up := by
  refine mk h_rotor_Pair_turned rfl rfl ?_
  have hw : w64 (n.tmod 3 + 3) = n.tmod 3 + 3 := by
    have h1 := Int.tmod_lt_of_pos n (show (0 : Int) < 3 by decide)
    have h3 := Int.tmod_lt_of_pos (-n) (show (0 : Int) < 3 by decide)
    rw [Int.neg_tmod] at h3
    rw [w64, wrap_in] <;> omega
  have ht : (IntKind.i64.wrap (n.tmod 3 + 3)).tmod 3 = thirdS n := by
    show (w64 (n.tmod 3 + 3)).tmod 3 = _
    rw [hw]; rfl
  conv => whnf
  refine .mk 8 (by kernel_rfl) ?_
  conv => whnf
  rw [ht]
  rcases thirdS_cases n with e | e | e
  · have r : turnP a b n = timesP a b 1 0 := by
      unfold turnP timesP
      rw [if_pos e]; simp
    rw [e, r]
    conv => whnf
    rw [evo_gl hg]
    conv => whnf
    refine .mk _ _ _ (leL_refl _) (c_times _ _ _ _ _ ha hb (by decide) (by decide)) rfl ?_
    conv => whnf
    exact ⟨rfl, rfl⟩
  · have r : turnP a b n = timesP a b 0 1 := by
      unfold turnP timesP
      rw [if_neg (by omega), if_pos e]; simp
    rw [e, r]
    conv => whnf
    rw [evo_gl hg]
    conv => whnf
    refine .mk _ _ _ (leL_refl _) (c_times _ _ _ _ _ ha hb (by decide) (by decide)) rfl ?_
    conv => whnf
    exact ⟨rfl, rfl⟩
  · have r : turnP a b n = timesP a b (-1) (-1) := by
      unfold turnP timesP
      rw [if_neg (by omega), if_neg (by omega)]; simp; omega
    rw [e, r]
    conv => whnf
    rw [evo_gl hg]
    conv => whnf
    refine .mk _ _ _ (leL_refl _) (c_times _ _ _ _ _ ha hb (by decide) (by decide)) rfl ?_
    conv => whnf
    exact ⟨rfl, rfl⟩

/-- A pair turned, or the error. -/
def turnErr (a b n : Int) : Int := orE (pairS a b) (withinS n (-999999999) 999999999)
def turnR (a b n : Int) : IV :=
  bif turnErr a b n != 0 then .tup [.agg [.int .i64 0, .int .i64 0], .int .i64 (turnErr a b n)] else .tup [.agg [.int .i64 (turnP a b n).1, .int .i64 (turnP a b n).2], .int .i64 0]

theorem c_Turn (up : List Ces) (hg : gl g_rotor_roots = rootsI) (a b n : Int) : Cs gl n_rotor_Turn up [.agg [.int .i64 a, .int .i64 b], .int .i64 n] (turnR a b n) up := by
  refine mk h_rotor_Turn rfl rfl ?_
  unfold turnR
  conv => whnf
  refine .mk _ _ _ _ _ (leL_refl _) (c_PairCheck _ _ _) rfl ?_
  conv => whnf
  refine .mk _ _ _ _ _ (leL_refl _) (c_within _ _ _ _) rfl ?_
  conv => whnf
  refine .mk _ _ _ _ _ (leL_refl _) (c_f2 _ _ _ _ rfl rfl) rfl ?_
  conv => whnf
  split
  · rename_i h
    have h : (turnErr a b n != 0) = true := h
    conv => whnf
    refine ⟨?_, rfl⟩
    rw [h]; rfl
  · rename_i h
    have h : (turnErr a b n != 0) = false := h
    rw [h, cond_false]
    have h0 : turnErr a b n = 0 := by simpa using h
    unfold turnErr at h0
    rw [orE_zero] at h0
    obtain ⟨k1, k2⟩ := pairS_ok h0.1
    conv => whnf
    refine .mk _ _ _ _ _ (leL_refl _) (c_turned _ hg _ _ _ k1 k2) rfl ?_
    conv => whnf
    exact ⟨rfl, rfl⟩

/-- The loads with a sum and a component, or the error. -/
def mergeE (s a b : Int) : Int := orE (withinS s (-3000000) 3000000) (pairS a b)
def mergeR (s a b : Int) : IV :=
  bif mergeE s a b != 0 then .tup [.agg [.int .i64 0, .int .i64 0, .int .i64 0], .int .i64 (mergeE s a b)] else
    bif (s - a - b).tmod 3 != 0 then .tup [.agg [.int .i64 0, .int .i64 0, .int .i64 0], .int .i64 30] else
      let t := (s - a - b).tdiv 3
      bif loadS (a + t) (b + t) t != 0 then .tup [.agg [.int .i64 0, .int .i64 0, .int .i64 0], .int .i64 (loadS (a + t) (b + t) t)] else .tup [.agg [.int .i64 (a + t), .int .i64 (b + t), .int .i64 t], .int .i64 0]

theorem c_Merge (up : List Ces) (s a b : Int) : Cs gl n_rotor_Merge up [.int .i64 s, .agg [.int .i64 a, .int .i64 b]] (mergeR s a b) up := by
  refine mk h_rotor_Merge rfl rfl ?_
  unfold mergeR
  conv => whnf
  refine .mk 6 (by kernel_rfl) ?_
  conv => whnf
  refine .mk _ _ _ (leL_refl _) (c_within _ _ _ _) rfl ?_
  conv => whnf
  refine .mk _ _ _ (leL_refl _) (c_PairCheck _ _ _) rfl ?_
  conv => whnf
  refine .mk _ _ _ (leL_refl _) (c_f2 _ _ _ _ rfl rfl) rfl ?_
  conv => whnf
  split
  · rename_i h
    have h : (mergeE s a b != 0) = true := h
    conv => whnf
    refine ⟨?_, rfl⟩
    rw [h]; rfl
  · rename_i h
    have h : (mergeE s a b != 0) = false := h
    rw [h, cond_false]
    have h0 : mergeE s a b = 0 := by simpa using h
    unfold mergeE at h0
    rw [orE_zero, withinS_zero] at h0
    obtain ⟨k1, k2⟩ := pairS_ok h0.2
    have e1 : w64 (w64 (s - a) - b) = s - a - b := by
      have : w64 (s - a) = s - a := by rw [w64, wrap_in] <;> omega
      rw [this, w64, wrap_in] <;> omega
    have q1 : -3000000000 ≤ (s - a - b).tdiv 3 ∧ (s - a - b).tdiv 3 ≤ 3000000000 := by
      by_cases hp : 0 ≤ s - a - b
      · rw [Int.tdiv_eq_ediv_of_nonneg hp]; omega
      · have := Int.neg_tdiv (a := s - a - b) (b := 3)
        rw [Int.tdiv_eq_ediv_of_nonneg (show 0 ≤ -(s - a - b) by omega)] at this
        omega
    have e2 : w64 ((s - a - b).tdiv 3) = (s - a - b).tdiv 3 := by rw [w64, wrap_in] <;> omega
    have e3 : w64 (a + (s - a - b).tdiv 3) = a + (s - a - b).tdiv 3 := by rw [w64, wrap_in] <;> omega
    have e4 : w64 (b + (s - a - b).tdiv 3) = b + (s - a - b).tdiv 3 := by rw [w64, wrap_in] <;> omega
    conv => whnf
    split
    · rename_i h
      have h : ((w64 (w64 (s - a) - b)).tmod 3 != 0) = true := h
      rw [e1] at h
      conv => whnf
      refine ⟨?_, rfl⟩
      rw [h]; rfl
    · rename_i h
      have h : ((w64 (w64 (s - a) - b)).tmod 3 != 0) = false := h
      rw [e1] at h
      rw [h, cond_false]
      have hl : ∀ up, Cs gl n_rotor_checkLoads up [.agg [.int .i64 (w64 (a + w64 ((w64 (w64 (s - a) - b)).tdiv 3))), .int .i64 (w64 (b + w64 ((w64 (w64 (s - a) - b)).tdiv 3))), .int .i64 (w64 ((w64 (w64 (s - a) - b)).tdiv 3))]]
          (.int .i64 (loadS (a + (s - a - b).tdiv 3) (b + (s - a - b).tdiv 3) ((s - a - b).tdiv 3))) up := fun up => by
        rw [e1, e2, e3, e4]
        exact c_checkLoads up _ _ _
      conv => whnf
      refine .mk _ _ _ _ _ (leL_refl _) (hl _) rfl ?_
      conv => whnf
      split
      · rename_i h
        have h : (loadS (a + (s - a - b).tdiv 3) (b + (s - a - b).tdiv 3) ((s - a - b).tdiv 3) != 0) = true := h
        conv => whnf
        refine ⟨?_, rfl⟩
        simp only [h]; rfl
      · rename_i h
        have h : (loadS (a + (s - a - b).tdiv 3) (b + (s - a - b).tdiv 3) ((s - a - b).tdiv 3) != 0) = false := h
        conv => whnf
        refine ⟨?_, rfl⟩
        simp only [h, cond_false]
        show IV.tup [.agg [.int .i64 (w64 (a + w64 ((w64 (w64 (s - a) - b)).tdiv 3))), .int .i64 (w64 (b + w64 ((w64 (w64 (s - a) - b)).tdiv 3))), .int .i64 (w64 ((w64 (w64 (s - a) - b)).tdiv 3))], .int .i64 0] = _
        rw [e1, e2, e3, e4]
end Go.Proofs.YtllmejkmogepjaaDoor.Ix
