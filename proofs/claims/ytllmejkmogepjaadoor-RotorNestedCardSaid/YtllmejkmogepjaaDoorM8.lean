/-
  Ln2: RotorNested: where each ring balances.
-/
import Derived.Test.YtllmejkmogepjaaDoorM7
namespace Go.Proofs.YtllmejkmogepjaaDoor.Ix
open Go.Proofs
set_option maxRecDepth 100000
set_option linter.unusedVariables false
set_option linter.unusedSimpArgs false
variable {gl : Nat → IV}

def chF (b : Bl) (k i : Nat) : List IV := [.int .i64 (b.r1 i), .int .i64 (if i < k then 2 * b.r2 i else b.r2 i), .int .i64 (b.r3 i), .int .i64 (if i < k then b.r4 i / 2 else b.r4 i)]
def chG (b : Bl) (i : Nat) : Nat → List IV := setRow (chF b i) i 1 (.int .i64 (w64 (2 * b.r2 i)))
theorem ch_nth1 {b : Bl} {i j : Nat} (hin : i < b.nr) : nthI (flatR 4 b.nr (chF b i) ++ List.replicate j .dead) ((i : Int).toNat * 4 + 1) = some (.int .i64 (b.r2 i)) := by
  rw [Int.toNat_natCast]
  exact flat_nth hin (by omega) (by simp [chF])
theorem ch_nth3 {b : Bl} {i j : Nat} (hin : i < b.nr) : nthI (flatR 4 b.nr (chF b i) ++ List.replicate j .dead) ((i : Int).toNat * 4 + 3) = some (.int .i64 (b.r4 i)) := by
  rw [Int.toNat_natCast]
  exact flat_nth hin (by omega) (by simp [chF])
theorem ch_lay1 {b : Bl} {i j : Nat} (hin : i < b.nr) : lay (flatR 4 b.nr (chF b i) ++ List.replicate j .dead) ((i : Int).toNat * 4 + 1) [.int .i64 (w64 (2 * b.r2 i))] = some (flatR 4 b.nr (chG b i) ++ List.replicate j .dead) := by
  rw [Int.toNat_natCast, flat_lay (e := 4) (f := chF b i) (v := .int .i64 (w64 (2 * b.r2 i))) (j := 1) hin (by omega) rfl]
  rfl
theorem ch_lay3 {b : Bl} {i j : Nat} (hin : i < b.nr) (h2 : 0 ≤ b.r2 i) (h3 : 2 * b.r2 i ≤ 100) {v : Int} (hv : v = b.r4 i / 2) : lay (flatR 4 b.nr (chG b i) ++ List.replicate j .dead) ((i : Int).toNat * 4 + 3) [.int .i64 v] = some (flatR 4 b.nr (chF b (i + 1)) ++ List.replicate j .dead) := by
  rw [Int.toNat_natCast, flat_lay (e := 4) (f := chG b i) (v := .int .i64 v) (j := 3) hin (by omega) (by simp [chG, setRow, chF])]
  refine congrArg (fun g => some (flatR 4 b.nr g ++ List.replicate j IV.dead)) ?_
  funext z
  unfold chG setRow
  rw [w64, wrap_in (by omega) (by omega), hv]
  by_cases hz : z = i
  · subst hz; simp [chF]
  · rw [if_neg hz, if_neg hz]
    unfold chF
    by_cases hz2 : z < i
    · rw [if_pos hz2, if_pos hz2, if_pos (by omega), if_pos (by omega)]
    · rw [if_neg hz2, if_neg hz2, if_neg (by omega), if_neg (by omega)]

theorem ring_rng {b : Bl} (h : b.err = 0) (i : Nat) (hi : i < b.nr) : (1 ≤ b.r2 i ∧ b.r2 i ≤ 100) ∧ 0 ≤ b.r4 i ∧ b.r4 i ≤ 256 := by
  have h : bladeS b.nl b.lf b.nd b.df b.nr b.r1 b.r2 b.r3 b.r4 = 0 := h
  unfold bladeS at h
  rw [orE_zero, orE_zero, orE_zero, firstS_zero] at h
  have k := h.2.2.2 i (by omega) (by omega)
  unfold ringAt ringS at k
  simp only [orE_zero, withinS_zero] at k
  have k2 := k.1.2.1
  have k4 := k.1.2.2.2
  omega

/-- What is read behind each call. -/
def lvNested2 : List (Nat × List Nat) := [(26, [2, 3, 4, 6, 7, 8, 9, 10, 11, 26]), (31, [2, 3, 4, 6, 7, 8, 9, 10, 11, 28, 31]), (36, [2, 3, 4, 6, 7, 8, 9, 10, 11, 34, 36]), (41, [2, 3, 4, 6, 7, 8, 9, 10, 11, 39, 41]), (52, [2, 3, 4, 6, 7, 8, 9, 10, 11, 52]), (55, [2, 3, 4, 6, 7, 8, 9, 10, 11, 55]), (58, [2, 3, 4, 6, 7, 8, 9, 10, 11, 58]), (63, [2, 3, 4, 6, 7, 8, 9, 10, 11, 63]), (67, [2, 3, 4, 6, 7, 8, 9, 10, 11, 67]), (72, [2, 3, 4, 6, 7, 8, 9, 10, 11, 72]), (75, [2, 3, 4, 6, 7, 8, 9, 10, 11, 75]), (80, [2, 3, 4, 6, 7, 8, 9, 10, 11, 12, 80]), (84, [2, 3, 4, 6, 7, 8, 9, 10, 11, 12, 84]), (89, [2, 3, 4, 6, 7, 8, 9, 10, 11, 12, 13, 14, 89]), (92, [2, 3, 4, 6, 7, 8, 9, 10, 11, 12, 13, 14, 92]), (190, [2, 3, 4, 6, 7, 9, 11, 13, 17, 21, 123, 124, 125, 190]), (191, [2, 3, 4, 6, 7, 9, 11, 13, 17, 21, 123, 124, 125, 191]), (243, [2, 4, 6, 7, 11, 20, 243]), (246, [2, 4, 6, 7, 11, 20, 246]), (251, [2, 4, 6, 7, 11, 22, 23, 251]), (254, [6, 7, 11, 22, 23, 254])]
set_option maxHeartbeats 8000000 in
theorem nested_all (up : List Ces) (hr : gl g_rotor_roots = rootsI) (hp : gl g_internal_strconv_uint64pow10 = powI) (b : Bl) (f : Fl) (d : Int) (n : Nat) (hs : lightB b f = true) (zB : b.err = 0) (zF : f.err = 0) (hd : d = ((n + 1 : Nat) : Int)) (hn : n + 1 < 12) (hall : allBr b f 0) :
    Cs gl n_nacellelaw03_RotorNested up [b.iv, f.iv, .int .i64 d] (.bool true) up := by
  have hsh : b.short = true := by
    unfold lightB at hs
    simp only [Bool.and_eq_true] at hs
    exact hs.1
  obtain ⟨hl, hdd, hnn⟩ := short_le hsh
  have hpos : 0 < b.nr := err_pos zB
  have hA := fun up => c_awake (gl := gl) up hr hp
  have hS := fun up => c_light (gl := gl) up b f
  have hE := fun up => c_rCheckBlade (gl := gl) up b
  have hFl := fun up => c_rCheckFlow (gl := gl) up f.w f.s f.p
  rw [hs] at hS
  rw [zB] at hE
  have zF' : flowS f.w f.s f.p = 0 := zF
  rw [zF'] at hFl
  have hb := fun up => c_blade (gl := gl) up b hl hdd hnn
  have q1 : decide (d < 1) = false := decide_eq_false (by omega)
  have q2 : decide (d ≥ 12) = false := decide_eq_false (by omega)
  have g : Good b f := ⟨zB, zF⟩
  have hw : w64 (d + 1) = ((n + 1 + 1 : Nat) : Int) := by rw [w64, wrap_in] <;> omega
  have hF0 := fun up => c_Thrust (gl := gl) up b f d
  have hF1 := fun up => c_Thrust (gl := gl) up b f (w64 (d + 1))
  have hT0 := fun up => c_Torque (gl := gl) up b f d
  have hT1 := fun up => c_Torque (gl := gl) up b f (w64 (d + 1))
  have hR := fun up => c_Rings (gl := gl) up b f d
  rw [hd, thrR_ok g (by omega)] at hF0
  rw [hw, thrR_ok g (by omega)] at hF1
  rw [hd, torR_ok g (by omega)] at hT0
  rw [hw, torR_ok g (by omega)] at hT1
  unfold ringsR at hR
  rw [hd, allErr_zero g (by omega), show (((n + 1 : Nat) : Int) - 1).toNat = n by omega, show (((n + 1 : Nat) : Int)).toNat = n + 1 by omega] at hR
  simp only [bne_self_eq_false, cond_false] at hR
  rw [← hw] at hF1 hT1
  rw [← hd] at hF0 hT0 hR
  rw [if_pos hall] at hF0 hF1 hT0 hT1
  rw [if_pos ((allBr_iff 0 n).1 hall)] at hR
  have hto := T_order (b := b) (f := f) n
  have hfo := F_order g hall n
  obtain ⟨ht1, ht2⟩ := T_nested g hall n 1
  obtain ⟨hf1, hf2, hf3, hf4, hf5, hf6, hf7, hf8⟩ := F_nested g hall n 1 hn
  obtain ⟨m, hm⟩ : ∃ m, m = b.T f n := ⟨_, rfl⟩
  obtain ⟨o, ho⟩ : ∃ o, o = b.T f (n + 1) := ⟨_, rfl⟩
  obtain ⟨t, ht⟩ : ∃ t, t = b.F f n := ⟨_, rfl⟩
  obtain ⟨u, hu⟩ : ∃ u, u = b.F f (n + 1) := ⟨_, rfl⟩
  rw [← hm, ← ho] at ht1 ht2
  rw [← hm] at hto
  rw [← ht] at hfo hf1 hf2 hf3 hf4
  rw [← hu] at hf1 hf2 hf5 hf6 hf7 hf8
  rw [← ht] at hF0
  rw [← hu] at hF1
  rw [← hm] at hT0
  rw [← ho] at hT1
  let g1 : Nat → Int := fun i => (b.tor f i ((b.br f i n).getD 0) (n + 1)).1
  let g2 : Nat → Int := fun i => (b.tor f i ((b.br f i n).getD 0) (n + 1)).2
  refine mk h_nacellelaw03_RotorNested rfl rfl ?_
  conv => whnf
  repeat first
    | (show DRAW _ _ _ _ _; (first | refine .mk 0 (by decide +kernel) ?_ | refine .mk 1 (by decide +kernel) ?_ | refine .mk 2 (by decide +kernel) ?_ | refine .mk 3 (by decide +kernel) ?_ | refine .mk 4 (by decide +kernel) ?_ | refine .mk 5 (by decide +kernel) ?_ | refine .mk 6 (by decide +kernel) ?_ | refine .mk 7 (by decide +kernel) ?_ | refine .mk 8 (by decide +kernel) ?_ | refine .mk 9 (by decide +kernel) ?_ | refine .mk 10 (by decide +kernel) ?_ | refine .mk 11 (by decide +kernel) ?_ | refine .mk 12 (by decide +kernel) ?_ | refine .mk 13 (by decide +kernel) ?_ | refine .mk 14 (by decide +kernel) ?_ | refine .mk 15 (by decide +kernel) ?_ | refine .mk 16 (by decide +kernel) ?_ | refine .mk 17 (by decide +kernel) ?_ | refine .mk 18 (by decide +kernel) ?_ | refine .mk 19 (by decide +kernel) ?_ | refine .mk 20 (by decide +kernel) ?_ | refine .mk 21 (by decide +kernel) ?_ | refine .mk 22 (by decide +kernel) ?_ | refine .mk 23 (by decide +kernel) ?_ | refine .mk 24 (by decide +kernel) ?_ | refine .mk 25 (by decide +kernel) ?_ | refine .mk 26 (by decide +kernel) ?_ | refine .mk 27 (by decide +kernel) ?_ | refine .mk 28 (by decide +kernel) ?_ | refine .mk 29 (by decide +kernel) ?_ | refine .mk 30 (by decide +kernel) ?_ | refine .mk 31 (by decide +kernel) ?_ | refine .mk 32 (by decide +kernel) ?_ | refine .mk 33 (by decide +kernel) ?_ | refine .mk 34 (by decide +kernel) ?_ | refine .mk 35 (by decide +kernel) ?_ | refine .mk 36 (by decide +kernel) ?_ | refine .mk 37 (by decide +kernel) ?_ | refine .mk 38 (by decide +kernel) ?_ | refine .mk 39 (by decide +kernel) ?_ | refine .mk 40 (by decide +kernel) ?_ | refine .mk 41 (by decide +kernel) ?_); (conv => whnf))
    | (refine HOLD.mk (by first | exact trivial | exact ⟨⟨rfl, rfl⟩, trivial⟩ | exact ⟨⟨rfl, rfl⟩, ⟨rfl, rfl⟩, trivial⟩) ?_; (conv => whnf))
    | (refine CALL0.cutBy lvNested2 _ _ _ _ _ (leL_refl _) (hA ..) rfl ?_; conv => whnf)
    | (refine CALL0.mk _ _ _ _ _ (leL_refl _) (hA ..) rfl ?_; conv => whnf)
    | (refine CALLQ.mk _ _ _ (leL_refl _) (hA ..) rfl ?_; conv => whnf)
    | (refine CALL0.cutBy lvNested2 _ _ _ _ _ (leL_refl _) (hS ..) rfl ?_; conv => whnf)
    | (refine CALL0.mk _ _ _ _ _ (leL_refl _) (hS ..) rfl ?_; conv => whnf)
    | (refine CALLQ.mk _ _ _ (leL_refl _) (hS ..) rfl ?_; conv => whnf)
    | (refine CALL0.cutBy lvNested2 _ _ _ _ _ (leL_refl _) (hE ..) rfl ?_; conv => whnf)
    | (refine CALL0.mk _ _ _ _ _ (leL_refl _) (hE ..) rfl ?_; conv => whnf)
    | (refine CALLQ.mk _ _ _ (leL_refl _) (hE ..) rfl ?_; conv => whnf)
    | (refine CALL0.cutBy lvNested2 _ _ _ _ _ (leL_refl _) (hFl ..) rfl ?_; conv => whnf)
    | (refine CALL0.mk _ _ _ _ _ (leL_refl _) (hFl ..) rfl ?_; conv => whnf)
    | (refine CALLQ.mk _ _ _ (leL_refl _) (hFl ..) rfl ?_; conv => whnf)
  split
  · rename_i h
    exact Bool.noConfusion ((q1).symm.trans h)
  rename_i hN
  clear hN
  conv => whnf
  split
  · rename_i h
    exact Bool.noConfusion ((q2).symm.trans h)
  rename_i hN
  clear hN
  conv => whnf
  repeat first
    | (show DRAW _ _ _ _ _; (first | refine .mk 0 (by decide +kernel) ?_ | refine .mk 1 (by decide +kernel) ?_ | refine .mk 2 (by decide +kernel) ?_ | refine .mk 3 (by decide +kernel) ?_ | refine .mk 4 (by decide +kernel) ?_ | refine .mk 5 (by decide +kernel) ?_ | refine .mk 6 (by decide +kernel) ?_ | refine .mk 7 (by decide +kernel) ?_ | refine .mk 8 (by decide +kernel) ?_ | refine .mk 9 (by decide +kernel) ?_ | refine .mk 10 (by decide +kernel) ?_ | refine .mk 11 (by decide +kernel) ?_ | refine .mk 12 (by decide +kernel) ?_ | refine .mk 13 (by decide +kernel) ?_ | refine .mk 14 (by decide +kernel) ?_ | refine .mk 15 (by decide +kernel) ?_ | refine .mk 16 (by decide +kernel) ?_ | refine .mk 17 (by decide +kernel) ?_ | refine .mk 18 (by decide +kernel) ?_ | refine .mk 19 (by decide +kernel) ?_ | refine .mk 20 (by decide +kernel) ?_ | refine .mk 21 (by decide +kernel) ?_ | refine .mk 22 (by decide +kernel) ?_ | refine .mk 23 (by decide +kernel) ?_ | refine .mk 24 (by decide +kernel) ?_ | refine .mk 25 (by decide +kernel) ?_ | refine .mk 26 (by decide +kernel) ?_ | refine .mk 27 (by decide +kernel) ?_ | refine .mk 28 (by decide +kernel) ?_ | refine .mk 29 (by decide +kernel) ?_ | refine .mk 30 (by decide +kernel) ?_ | refine .mk 31 (by decide +kernel) ?_ | refine .mk 32 (by decide +kernel) ?_ | refine .mk 33 (by decide +kernel) ?_ | refine .mk 34 (by decide +kernel) ?_ | refine .mk 35 (by decide +kernel) ?_ | refine .mk 36 (by decide +kernel) ?_ | refine .mk 37 (by decide +kernel) ?_ | refine .mk 38 (by decide +kernel) ?_ | refine .mk 39 (by decide +kernel) ?_ | refine .mk 40 (by decide +kernel) ?_ | refine .mk 41 (by decide +kernel) ?_); (conv => whnf))
    | (refine HOLD.mk (by first | exact trivial | exact ⟨⟨rfl, rfl⟩, trivial⟩ | exact ⟨⟨rfl, rfl⟩, ⟨rfl, rfl⟩, trivial⟩) ?_; (conv => whnf))
    | (refine CALL0.cutBy lvNested2 _ _ _ _ _ (leL_refl _) (hA ..) rfl ?_; conv => whnf)
    | (refine CALL0.mk _ _ _ _ _ (leL_refl _) (hA ..) rfl ?_; conv => whnf)
    | (refine CALLQ.mk _ _ _ (leL_refl _) (hA ..) rfl ?_; conv => whnf)
  repeat first
    | (show DRAW _ _ _ _ _; (first | refine .mk 0 (by decide +kernel) ?_ | refine .mk 1 (by decide +kernel) ?_ | refine .mk 2 (by decide +kernel) ?_ | refine .mk 3 (by decide +kernel) ?_ | refine .mk 4 (by decide +kernel) ?_ | refine .mk 5 (by decide +kernel) ?_ | refine .mk 6 (by decide +kernel) ?_ | refine .mk 7 (by decide +kernel) ?_ | refine .mk 8 (by decide +kernel) ?_ | refine .mk 9 (by decide +kernel) ?_ | refine .mk 10 (by decide +kernel) ?_ | refine .mk 11 (by decide +kernel) ?_ | refine .mk 12 (by decide +kernel) ?_ | refine .mk 13 (by decide +kernel) ?_ | refine .mk 14 (by decide +kernel) ?_ | refine .mk 15 (by decide +kernel) ?_ | refine .mk 16 (by decide +kernel) ?_ | refine .mk 17 (by decide +kernel) ?_ | refine .mk 18 (by decide +kernel) ?_ | refine .mk 19 (by decide +kernel) ?_ | refine .mk 20 (by decide +kernel) ?_ | refine .mk 21 (by decide +kernel) ?_ | refine .mk 22 (by decide +kernel) ?_ | refine .mk 23 (by decide +kernel) ?_ | refine .mk 24 (by decide +kernel) ?_ | refine .mk 25 (by decide +kernel) ?_ | refine .mk 26 (by decide +kernel) ?_ | refine .mk 27 (by decide +kernel) ?_ | refine .mk 28 (by decide +kernel) ?_ | refine .mk 29 (by decide +kernel) ?_ | refine .mk 30 (by decide +kernel) ?_ | refine .mk 31 (by decide +kernel) ?_ | refine .mk 32 (by decide +kernel) ?_ | refine .mk 33 (by decide +kernel) ?_ | refine .mk 34 (by decide +kernel) ?_ | refine .mk 35 (by decide +kernel) ?_ | refine .mk 36 (by decide +kernel) ?_ | refine .mk 37 (by decide +kernel) ?_ | refine .mk 38 (by decide +kernel) ?_ | refine .mk 39 (by decide +kernel) ?_ | refine .mk 40 (by decide +kernel) ?_ | refine .mk 41 (by decide +kernel) ?_); (conv => whnf))
    | (refine HOLD.mk (by first | exact trivial | exact ⟨⟨rfl, rfl⟩, trivial⟩ | exact ⟨⟨rfl, rfl⟩, ⟨rfl, rfl⟩, trivial⟩) ?_; (conv => whnf))
    | (refine CALL0.cutBy lvNested2 _ _ _ _ _ (leL_refl _) (hb ..) rfl ?_; conv => whnf)
    | (refine CALL0.mk _ _ _ _ _ (leL_refl _) (hb ..) rfl ?_; conv => whnf)
    | (refine CALLQ.mk _ _ _ (leL_refl _) (hb ..) rfl ?_; conv => whnf)
    | (refine CALL0.cutBy lvNested2 _ _ _ _ _ (leL_refl _) (hF0 ..) rfl ?_; conv => whnf)
    | (refine CALL0.mk _ _ _ _ _ (leL_refl _) (hF0 ..) rfl ?_; conv => whnf)
    | (refine CALLQ.mk _ _ _ (leL_refl _) (hF0 ..) rfl ?_; conv => whnf)
    | (refine CALL0.cutBy lvNested2 _ _ _ _ _ (leL_refl _) (hF1 ..) rfl ?_; conv => whnf)
    | (refine CALL0.mk _ _ _ _ _ (leL_refl _) (hF1 ..) rfl ?_; conv => whnf)
    | (refine CALLQ.mk _ _ _ (leL_refl _) (hF1 ..) rfl ?_; conv => whnf)
    | (refine CALL0.cutBy lvNested2 _ _ _ _ _ (leL_refl _) (hT0 ..) rfl ?_; conv => whnf)
    | (refine CALL0.mk _ _ _ _ _ (leL_refl _) (hT0 ..) rfl ?_; conv => whnf)
    | (refine CALLQ.mk _ _ _ (leL_refl _) (hT0 ..) rfl ?_; conv => whnf)
    | (refine CALL0.cutBy lvNested2 _ _ _ _ _ (leL_refl _) (hT1 ..) rfl ?_; conv => whnf)
    | (refine CALL0.mk _ _ _ _ _ (leL_refl _) (hT1 ..) rfl ?_; conv => whnf)
    | (refine CALLQ.mk _ _ _ (leL_refl _) (hT1 ..) rfl ?_; conv => whnf)
    | (refine CALL0.cutBy lvNested2 _ _ _ _ _ (leL_refl _) (hR ..) rfl ?_; conv => whnf)
    | (refine CALL0.mk _ _ _ _ _ (leL_refl _) (hR ..) rfl ?_; conv => whnf)
    | (refine CALLQ.mk _ _ _ (leL_refl _) (hR ..) rfl ?_; conv => whnf)
  split
  · rename_i h
    exact Bool.noConfusion (((bne_self_eq_false (b.nr : Int))).symm.trans h)
  rename_i hN
  clear hN
  conv => whnf
  have hsum : ∀ k, k ≤ b.nr → (-16000000000000000 ≤ sumTo g1 k ∧ sumTo g1 k ≤ 16000000000000000) ∧ (-16000000000000000 ≤ sumTo g2 k ∧ sumTo g2 k ≤ 16000000000000000) := fun k hk => by
    have hn16 := g.all.2.2.1
    have hb' := fun i (hi : i < k) => tor_bound (g.all.2.2.2 i (by omega)) (d := n) (by omega) (br_at (br_some_all (hall i (by omega)) n))
    have b1 := sumTo_bound (g := g1) (B := 1000000000000000) k fun i hi => (hb' i hi).1
    have b2 := sumTo_bound (g := g2) (B := 1000000000000000) k fun i hi => (hb' i hi).2
    omega
  have hstep : ∀ k, k < b.nr → w64 (sumTo g1 k + g1 k) = sumTo g1 (k + 1) ∧ w64 (sumTo g2 k + g2 k) = sumTo g2 (k + 1) := fun k hk => by
    have h1 := hsum (k + 1) (by omega)
    simp only [sumTo] at h1 ⊢
    exact ⟨by rw [w64, wrap_in] <;> omega, by rw [w64, wrap_in] <;> omega⟩
  refine .mk (α := {k : Nat // k ≤ b.nr}) (fun k => ⟨[(125, .int .i64 k.1), (124, .int .i64 b.nr), (123, .lst none 2 b.nr fun i => [.int .i64 (g1 i), .int .i64 (g2 i)]), (17, .ptr 0 17 0), (2, .int .i64 d), (3, .ptr 0 3 0), (4, .ptr 0 4 0), (7, .ptr 0 7 0), (9, .ptr 0 9 0), (11, .ptr 0 11 0), (13, .ptr 0 13 0), (6, .bool false)],
    [(17, [.int .i64 (sumTo g1 k.1), .int .i64 (sumTo g2 k.1)]), (13, [.int .i64 o.1, .int .i64 o.2]), (11, [.int .i64 m.1, .int .i64 m.2]), (9, [.int .i64 u.1, .int .i64 u.2]), (7, [.int .i64 t.1, .int .i64 t.2]), (4, [.int .i64 f.w, .int .i64 f.s, .int .i64 f.p]),
     (3, [.lst none 1 b.nl fun i => [.int .i64 (b.lf i)], .lst none 1 b.nd fun i => [.int .i64 (b.df i)], .lst none 4 b.nr fun i => [.int .i64 (b.r1 i), .int .i64 (b.r2 i), .int .i64 (b.r3 i), .int .i64 (b.r4 i)]])], up⟩) (fun k => b.nr - k.1) ⟨0, Nat.zero_le _⟩ ⟨?_, ?_, rfl, rfl⟩ ?_
  · refine ⟨leV_refl _, leV_refl _, ⟨.inl rfl, rfl, rfl, fun i hi => rfl⟩, leV_refl _, leV_refl _, leV_refl _, leV_refl _, leV_refl _, leV_refl _, leV_refl _, leV_refl _, leV_refl _, trivial⟩
  · exact ⟨leL_refl _, leL_refl _, leL_refl _, leL_refl _, leL_refl _, leL_refl _, leL_refl _, trivial⟩
  rintro ⟨k, hk⟩
  have hkw : w64 ((k : Int) + 1) = ((k + 1 : Nat) : Int) := by rw [w64, wrap_in] <;> omega
  by_cases hlt : k < b.nr
  · have q : decide ((k : Int) < b.nr) = true := decide_eq_true (by omega)
    obtain ⟨e1, e2⟩ := hstep k hlt
    conv => whnf
    split
    rotate_left
    · rename_i h
      exact Bool.noConfusion ((q).symm.trans h)
    rename_i hN
    clear hN
    conv => whnf
    split
    rotate_left
    · rename_i h
      exact Bool.noConfusion ((q).symm.trans h)
    rename_i hN
    clear hN
    conv => whnf
    refine DRAW.mkH 10 [19] [] [7, 8, 9] (by decide +kernel) ?_
    conv => whnf
    repeat first
      | (show DRAW _ _ _ _ _; (first | refine .mk 0 (by decide +kernel) ?_ | refine .mk 1 (by decide +kernel) ?_ | refine .mk 2 (by decide +kernel) ?_ | refine .mk 3 (by decide +kernel) ?_ | refine .mk 4 (by decide +kernel) ?_ | refine .mk 5 (by decide +kernel) ?_ | refine .mk 6 (by decide +kernel) ?_ | refine .mk 7 (by decide +kernel) ?_ | refine .mk 8 (by decide +kernel) ?_ | refine .mk 9 (by decide +kernel) ?_ | refine .mk 10 (by decide +kernel) ?_ | refine .mk 11 (by decide +kernel) ?_ | refine .mk 12 (by decide +kernel) ?_ | refine .mk 13 (by decide +kernel) ?_ | refine .mk 14 (by decide +kernel) ?_ | refine .mk 15 (by decide +kernel) ?_ | refine .mk 16 (by decide +kernel) ?_ | refine .mk 17 (by decide +kernel) ?_ | refine .mk 18 (by decide +kernel) ?_ | refine .mk 19 (by decide +kernel) ?_ | refine .mk 20 (by decide +kernel) ?_ | refine .mk 21 (by decide +kernel) ?_ | refine .mk 22 (by decide +kernel) ?_ | refine .mk 23 (by decide +kernel) ?_ | refine .mk 24 (by decide +kernel) ?_ | refine .mk 25 (by decide +kernel) ?_ | refine .mk 26 (by decide +kernel) ?_ | refine .mk 27 (by decide +kernel) ?_ | refine .mk 28 (by decide +kernel) ?_ | refine .mk 29 (by decide +kernel) ?_ | refine .mk 30 (by decide +kernel) ?_ | refine .mk 31 (by decide +kernel) ?_ | refine .mk 32 (by decide +kernel) ?_ | refine .mk 33 (by decide +kernel) ?_ | refine .mk 34 (by decide +kernel) ?_ | refine .mk 35 (by decide +kernel) ?_ | refine .mk 36 (by decide +kernel) ?_ | refine .mk 37 (by decide +kernel) ?_ | refine .mk 38 (by decide +kernel) ?_ | refine .mk 39 (by decide +kernel) ?_ | refine .mk 40 (by decide +kernel) ?_ | refine .mk 41 (by decide +kernel) ?_); (conv => whnf))
      | (refine HOLD.mk (by first | exact trivial | exact ⟨⟨rfl, rfl⟩, trivial⟩ | exact ⟨⟨rfl, rfl⟩, ⟨rfl, rfl⟩, trivial⟩) ?_; (conv => whnf))
    refine ⟨⟨k + 1, hlt⟩, ⟨⟨leV_int hkw, leV_refl _, leV_refl _, leV_refl _, leV_refl _, leV_refl _, leV_refl _, leV_refl _, leV_refl _, leV_refl _, leV_refl _, leV_refl _, trivial⟩, ⟨⟨leV_int e1, leV_int e2, trivial⟩, leL_refl _, leL_refl _, leL_refl _, leL_refl _, leL_refl _, leL_refl _, trivial⟩, rfl, rfl⟩, (by show b.nr - (k + 1) < b.nr - k; omega)⟩
  · have q : decide ((k : Int) < b.nr) = false := decide_eq_false (by omega)
    have : k = b.nr := by omega
    subst this
    have hm1 : sumTo g1 b.nr = m.1 := by rw [hm]; rfl
    have hm2 : sumTo g2 b.nr = m.2 := by rw [hm]; rfl
    rw [hm1, hm2]
    conv => whnf
    split
    · rename_i h
      exact Bool.noConfusion ((q).symm.trans h)
    rename_i hN
    clear hN
    conv => whnf
    have z1 : (!(m.1 == m.1 && (m.2 == m.2 && true))) = false := by simp
    have z2 : decide (m.1 > m.2) = false := decide_eq_false (by omega)
    have z3 : decide (o.1 < m.1) = false := decide_eq_false (by omega)
    have z4 : decide (o.2 > m.2) = false := decide_eq_false (by omega)
    have z5 : decide (t.1 > t.2) = false := decide_eq_false (by omega)
    have e1 : w64 (4 * t.1) = 4 * t.1 := by rw [w64, wrap_in] <;> omega
    have e2 : w64 (4 * t.2) = 4 * t.2 := by rw [w64, wrap_in] <;> omega
    have z6 : decide (u.1 < w64 (4 * t.1)) = false := decide_eq_false (by omega)
    have z7 : decide (u.2 > w64 (4 * t.2)) = false := decide_eq_false (by omega)
    split
    · rename_i h
      exact Bool.noConfusion ((z1).symm.trans h)
    rename_i hN
    clear hN
    conv => whnf
    split
    · rename_i h
      exact Bool.noConfusion ((z2).symm.trans h)
    rename_i hN
    clear hN
    conv => whnf
    split
    · rename_i h
      exact Bool.noConfusion ((z3).symm.trans h)
    rename_i hN
    clear hN
    conv => whnf
    split
    · rename_i h
      exact Bool.noConfusion ((z4).symm.trans h)
    rename_i hN
    clear hN
    conv => whnf
    split
    · rename_i h
      exact Bool.noConfusion ((z5).symm.trans h)
    rename_i hN
    clear hN
    conv => whnf
    split
    · rename_i h
      exact Bool.noConfusion ((z6).symm.trans h)
    rename_i hN
    clear hN
    conv => whnf
    split
    · rename_i h
      exact Bool.noConfusion ((z7).symm.trans h)
    rename_i hN
    clear hN
    conv => whnf
    clear z1 z2 z3 z4 z5 z6 z7 e1 e2 hF0 hF1 hT0 hT1 hR hm1 hm2 hsum hstep ht1 ht2 hf1 hf2 hf3 hf4 hf5 hf6 hf7 hf8 hto hfo
    repeat first
      | (show DRAW _ _ _ _ _; (first | refine .mk 0 (by decide +kernel) ?_ | refine .mk 1 (by decide +kernel) ?_ | refine .mk 2 (by decide +kernel) ?_ | refine .mk 3 (by decide +kernel) ?_ | refine .mk 4 (by decide +kernel) ?_ | refine .mk 5 (by decide +kernel) ?_ | refine .mk 6 (by decide +kernel) ?_ | refine .mk 7 (by decide +kernel) ?_ | refine .mk 8 (by decide +kernel) ?_ | refine .mk 9 (by decide +kernel) ?_ | refine .mk 10 (by decide +kernel) ?_ | refine .mk 11 (by decide +kernel) ?_ | refine .mk 12 (by decide +kernel) ?_ | refine .mk 13 (by decide +kernel) ?_ | refine .mk 14 (by decide +kernel) ?_ | refine .mk 15 (by decide +kernel) ?_ | refine .mk 16 (by decide +kernel) ?_ | refine .mk 17 (by decide +kernel) ?_ | refine .mk 18 (by decide +kernel) ?_ | refine .mk 19 (by decide +kernel) ?_ | refine .mk 20 (by decide +kernel) ?_ | refine .mk 21 (by decide +kernel) ?_ | refine .mk 22 (by decide +kernel) ?_ | refine .mk 23 (by decide +kernel) ?_ | refine .mk 24 (by decide +kernel) ?_ | refine .mk 25 (by decide +kernel) ?_ | refine .mk 26 (by decide +kernel) ?_ | refine .mk 27 (by decide +kernel) ?_ | refine .mk 28 (by decide +kernel) ?_ | refine .mk 29 (by decide +kernel) ?_ | refine .mk 30 (by decide +kernel) ?_ | refine .mk 31 (by decide +kernel) ?_ | refine .mk 32 (by decide +kernel) ?_ | refine .mk 33 (by decide +kernel) ?_ | refine .mk 34 (by decide +kernel) ?_ | refine .mk 35 (by decide +kernel) ?_ | refine .mk 36 (by decide +kernel) ?_ | refine .mk 37 (by decide +kernel) ?_ | refine .mk 38 (by decide +kernel) ?_ | refine .mk 39 (by decide +kernel) ?_ | refine .mk 40 (by decide +kernel) ?_ | refine .mk 41 (by decide +kernel) ?_); (conv => whnf))
      | (refine HOLD.mk (by first | exact trivial | exact ⟨⟨rfl, rfl⟩, trivial⟩ | exact ⟨⟨rfl, rfl⟩, ⟨rfl, rfl⟩, trivial⟩) ?_; (conv => whnf))
      | (refine CALL0.cutBy lvNested2 _ _ _ _ _ (leL_refl _) (hb ..) rfl ?_; conv => whnf)
      | (refine CALL0.mk _ _ _ _ _ (leL_refl _) (hb ..) rfl ?_; conv => whnf)
      | (refine CALLQ.mk _ _ _ (leL_refl _) (hb ..) rfl ?_; conv => whnf)
    refine .thaw (liveOf lvNested2 191) 191 rfl [.lst none 1 b.nl fun i => [.int .i64 (b.lf i)], .lst none 1 b.nd fun i => [.int .i64 (b.df i)]] 4 b.nr 20 (fun i => [.int .i64 (b.r1 i), .int .i64 (b.r2 i), .int .i64 (b.r3 i), .int .i64 (b.r4 i)])
      (leL_refl _) rfl (fun i _ => rfl) hpos (fun vs hv _ => ?_) rfl (fun j cc bb => ?_)
    · match vs, hv with
      | [v1, v2], _ => exact c_told [] b.nr hnn b.r1 b.r2 b.r3 b.r4 v1 v2
    conv => whnf
    have hft := flat_tag (t := 191) (e := 4) (n := b.nr) (m := j) (f := fun i => [.int .i64 (b.r1 i), .int .i64 (b.r2 i), .int .i64 (b.r3 i), .int .i64 (b.r4 i)]) (fun i _ => rfl)
    split
    · rename_i h
      exact absurd h (by simp [tmTag, ceTag, hasTag, hasTagL, hft])
    rename_i hN
    clear hN
    conv => whnf
    clear hft
    have hcl : ∀ k, clL [20, 191, 11, 7, 4, 3] (flatR 4 b.nr (chF b k) ++ List.replicate j .dead) = true := fun k => flat_cl (fun i _ => rfl)
    refine .mk (α := {i : Nat // i ≤ b.nr ∧ ∀ z, z < i → b.r4 z % 2 = 0 ∧ 2 * b.r2 z ≤ 100}) (fun i => ⟨[(195, .int .i64 i.1), (194, .int .i64 b.nr), (20, .ptr 0 20 0), (2, .int .i64 d), (4, .ptr 0 4 0), (7, .ptr 0 7 0), (11, .ptr 0 11 0), (6, .bool false)],
      [(20, [.lst none 1 b.nl fun i => [.int .i64 (b.lf i)], .lst none 1 b.nd fun i => [.int .i64 (b.df i)], .row 191 4 b.nr cc bb]),
       (191, flatR 4 b.nr (chF b i.1) ++ List.replicate j .dead),
       (11, [.int .i64 m.1, .int .i64 m.2]), (7, [.int .i64 t.1, .int .i64 t.2]), (4, [.int .i64 f.w, .int .i64 f.s, .int .i64 f.p]),
       (3, [.lst none 1 b.nl fun i => [.int .i64 (b.lf i)], .lst none 1 b.nd fun i => [.int .i64 (b.df i)], .lst none 4 b.nr fun i => [.int .i64 (b.r1 i), .int .i64 (b.r2 i), .int .i64 (b.r3 i), .int .i64 (b.r4 i)]])], up⟩) (fun i => b.nr - i.1) ⟨0, Nat.zero_le _, fun z hz => by omega⟩ ⟨?_, ?_, rfl, ?_⟩ ?_
    · exact ⟨leV_refl _, leV_refl _, leV_refl _, leV_refl _, leV_refl _, leV_refl _, leV_refl _, leV_refl _, trivial⟩
    · exact ⟨leL_refl _, leL_refl _, leL_refl _, leL_refl _, leL_refl _, leL_refl _, trivial⟩
    · simp [clT, clC, clL, clV, keys, hcl]
    rintro ⟨i, hi, hi64⟩
    have hiw : w64 ((i : Int) + 1) = ((i + 1 : Nat) : Int) := by rw [w64, wrap_in] <;> omega
    by_cases hin : i < b.nr
    · have q : decide ((i : Int) < b.nr) = true := decide_eq_true (by omega)
      have hc1 := ch_nth1 (b := b) (j := j) hin
      have hc3 := ch_nth3 (b := b) (j := j) hin
      obtain ⟨⟨r2a, r2b⟩, r4a, r4b⟩ := ring_rng zB i hin
      conv => whnf
      split
      rotate_left
      · rename_i h
        exact Bool.noConfusion ((q).symm.trans h)
      rename_i hN
      clear hN
      conv => whnf
      split
      rotate_left
      · rename_i h
        exact Bool.noConfusion ((q).symm.trans h)
      rename_i hN
      clear hN
      conv => whnf
      have hc := hc3
      split
      rotate_left
      · rename_i h; exact absurd (hc.symm.trans h) nofun
      rename_i c0 h
      obtain rfl := Option.some.inj (hc.symm.trans h)
      clear h
      conv => whnf
      cases z6 : ((b.r4 i).tmod 2 != 0) with
      | true =>
        conv => whnf
        exact ⟨rfl, rfl⟩
      | false =>
        conv => whnf
        split
        rotate_left
        · rename_i h
          exact Bool.noConfusion ((q).symm.trans h)
        rename_i hN
        clear hN
        conv => whnf
        have hc := hc1
        split
        rotate_left
        · rename_i h; exact absurd (hc.symm.trans h) nofun
        rename_i c0 h
        obtain rfl := Option.some.inj (hc.symm.trans h)
        clear h
        conv => whnf
        cases z7 : decide (w64 (2 * b.r2 i) > 100) with
        | true =>
          conv => whnf
          exact ⟨rfl, rfl⟩
        | false =>
          conv => whnf
          refine DRAW.mkH 20 [20] [] [3, 4, 5, 19] (by decide +kernel) ?_
          conv => whnf
          repeat first
            | (show DRAW _ _ _ _ _; (first | refine .mk 0 (by decide +kernel) ?_ | refine .mk 1 (by decide +kernel) ?_ | refine .mk 2 (by decide +kernel) ?_ | refine .mk 3 (by decide +kernel) ?_ | refine .mk 4 (by decide +kernel) ?_ | refine .mk 5 (by decide +kernel) ?_ | refine .mk 6 (by decide +kernel) ?_ | refine .mk 7 (by decide +kernel) ?_ | refine .mk 8 (by decide +kernel) ?_ | refine .mk 9 (by decide +kernel) ?_ | refine .mk 10 (by decide +kernel) ?_ | refine .mk 11 (by decide +kernel) ?_ | refine .mk 12 (by decide +kernel) ?_ | refine .mk 13 (by decide +kernel) ?_ | refine .mk 14 (by decide +kernel) ?_ | refine .mk 15 (by decide +kernel) ?_ | refine .mk 16 (by decide +kernel) ?_ | refine .mk 17 (by decide +kernel) ?_ | refine .mk 18 (by decide +kernel) ?_ | refine .mk 19 (by decide +kernel) ?_ | refine .mk 20 (by decide +kernel) ?_ | refine .mk 21 (by decide +kernel) ?_ | refine .mk 22 (by decide +kernel) ?_ | refine .mk 23 (by decide +kernel) ?_ | refine .mk 24 (by decide +kernel) ?_ | refine .mk 25 (by decide +kernel) ?_ | refine .mk 26 (by decide +kernel) ?_ | refine .mk 27 (by decide +kernel) ?_ | refine .mk 28 (by decide +kernel) ?_ | refine .mk 29 (by decide +kernel) ?_ | refine .mk 30 (by decide +kernel) ?_ | refine .mk 31 (by decide +kernel) ?_ | refine .mk 32 (by decide +kernel) ?_ | refine .mk 33 (by decide +kernel) ?_ | refine .mk 34 (by decide +kernel) ?_ | refine .mk 35 (by decide +kernel) ?_ | refine .mk 36 (by decide +kernel) ?_ | refine .mk 37 (by decide +kernel) ?_ | refine .mk 38 (by decide +kernel) ?_ | refine .mk 39 (by decide +kernel) ?_ | refine .mk 40 (by decide +kernel) ?_ | refine .mk 41 (by decide +kernel) ?_); (conv => whnf))
            | (refine HOLD.mk (by first | exact trivial | exact ⟨⟨rfl, rfl⟩, trivial⟩ | exact ⟨⟨rfl, rfl⟩, ⟨rfl, rfl⟩, trivial⟩) ?_; (conv => whnf))
          split
          rotate_left
          · rename_i h
            exact Bool.noConfusion ((q).symm.trans h)
          rename_i hN
          clear hN
          conv => whnf
          split
          rotate_left
          · rename_i h; exact absurd (hc.symm.trans h) nofun
          rename_i c0 h
          obtain rfl := Option.some.inj (hc.symm.trans h)
          clear h
          conv => whnf
          split
          rotate_left
          · rename_i h
            exact Bool.noConfusion ((q).symm.trans h)
          rename_i hN
          clear hN
          conv => whnf
          have hc := hc3
          split
          rotate_left
          · rename_i h; exact absurd (hc.symm.trans h) nofun
          rename_i c0 h
          obtain rfl := Option.some.inj (hc.symm.trans h)
          clear h
          conv => whnf
          repeat first
            | (show DRAW _ _ _ _ _; (first | refine .mk 0 (by decide +kernel) ?_ | refine .mk 1 (by decide +kernel) ?_ | refine .mk 2 (by decide +kernel) ?_ | refine .mk 3 (by decide +kernel) ?_ | refine .mk 4 (by decide +kernel) ?_ | refine .mk 5 (by decide +kernel) ?_ | refine .mk 6 (by decide +kernel) ?_ | refine .mk 7 (by decide +kernel) ?_ | refine .mk 8 (by decide +kernel) ?_ | refine .mk 9 (by decide +kernel) ?_ | refine .mk 10 (by decide +kernel) ?_ | refine .mk 11 (by decide +kernel) ?_ | refine .mk 12 (by decide +kernel) ?_ | refine .mk 13 (by decide +kernel) ?_ | refine .mk 14 (by decide +kernel) ?_ | refine .mk 15 (by decide +kernel) ?_ | refine .mk 16 (by decide +kernel) ?_ | refine .mk 17 (by decide +kernel) ?_ | refine .mk 18 (by decide +kernel) ?_ | refine .mk 19 (by decide +kernel) ?_ | refine .mk 20 (by decide +kernel) ?_ | refine .mk 21 (by decide +kernel) ?_ | refine .mk 22 (by decide +kernel) ?_ | refine .mk 23 (by decide +kernel) ?_ | refine .mk 24 (by decide +kernel) ?_ | refine .mk 25 (by decide +kernel) ?_ | refine .mk 26 (by decide +kernel) ?_ | refine .mk 27 (by decide +kernel) ?_ | refine .mk 28 (by decide +kernel) ?_ | refine .mk 29 (by decide +kernel) ?_ | refine .mk 30 (by decide +kernel) ?_ | refine .mk 31 (by decide +kernel) ?_ | refine .mk 32 (by decide +kernel) ?_ | refine .mk 33 (by decide +kernel) ?_ | refine .mk 34 (by decide +kernel) ?_ | refine .mk 35 (by decide +kernel) ?_ | refine .mk 36 (by decide +kernel) ?_ | refine .mk 37 (by decide +kernel) ?_ | refine .mk 38 (by decide +kernel) ?_ | refine .mk 39 (by decide +kernel) ?_ | refine .mk 40 (by decide +kernel) ?_ | refine .mk 41 (by decide +kernel) ?_); (conv => whnf))
            | (refine HOLD.mk (by first | exact trivial | exact ⟨⟨rfl, rfl⟩, trivial⟩ | exact ⟨⟨rfl, rfl⟩, ⟨rfl, rfl⟩, trivial⟩) ?_; (conv => whnf))
          split
          rotate_left
          · rename_i h
            exact Bool.noConfusion ((q).symm.trans h)
          rename_i hN
          clear hN
          conv => whnf
          repeat first
            | (show DRAW _ _ _ _ _; (first | refine .mk 0 (by decide +kernel) ?_ | refine .mk 1 (by decide +kernel) ?_ | refine .mk 2 (by decide +kernel) ?_ | refine .mk 3 (by decide +kernel) ?_ | refine .mk 4 (by decide +kernel) ?_ | refine .mk 5 (by decide +kernel) ?_ | refine .mk 6 (by decide +kernel) ?_ | refine .mk 7 (by decide +kernel) ?_ | refine .mk 8 (by decide +kernel) ?_ | refine .mk 9 (by decide +kernel) ?_ | refine .mk 10 (by decide +kernel) ?_ | refine .mk 11 (by decide +kernel) ?_ | refine .mk 12 (by decide +kernel) ?_ | refine .mk 13 (by decide +kernel) ?_ | refine .mk 14 (by decide +kernel) ?_ | refine .mk 15 (by decide +kernel) ?_ | refine .mk 16 (by decide +kernel) ?_ | refine .mk 17 (by decide +kernel) ?_ | refine .mk 18 (by decide +kernel) ?_ | refine .mk 19 (by decide +kernel) ?_ | refine .mk 20 (by decide +kernel) ?_ | refine .mk 21 (by decide +kernel) ?_ | refine .mk 22 (by decide +kernel) ?_ | refine .mk 23 (by decide +kernel) ?_ | refine .mk 24 (by decide +kernel) ?_ | refine .mk 25 (by decide +kernel) ?_ | refine .mk 26 (by decide +kernel) ?_ | refine .mk 27 (by decide +kernel) ?_ | refine .mk 28 (by decide +kernel) ?_ | refine .mk 29 (by decide +kernel) ?_ | refine .mk 30 (by decide +kernel) ?_ | refine .mk 31 (by decide +kernel) ?_ | refine .mk 32 (by decide +kernel) ?_ | refine .mk 33 (by decide +kernel) ?_ | refine .mk 34 (by decide +kernel) ?_ | refine .mk 35 (by decide +kernel) ?_ | refine .mk 36 (by decide +kernel) ?_ | refine .mk 37 (by decide +kernel) ?_ | refine .mk 38 (by decide +kernel) ?_ | refine .mk 39 (by decide +kernel) ?_ | refine .mk 40 (by decide +kernel) ?_ | refine .mk 41 (by decide +kernel) ?_); (conv => whnf))
            | (refine HOLD.mk (by first | exact trivial | exact ⟨⟨rfl, rfl⟩, trivial⟩ | exact ⟨⟨rfl, rfl⟩, ⟨rfl, rfl⟩, trivial⟩) ?_; (conv => whnf))
          have hc := ch_lay1 (b := b) (j := j) hin
          split
          rotate_left
          · rename_i h; exact absurd (hc.symm.trans h) nofun
          rename_i c0 h
          obtain rfl := Option.some.inj (hc.symm.trans h)
          clear h
          conv => whnf
          repeat first
            | (show DRAW _ _ _ _ _; (first | refine .mk 0 (by decide +kernel) ?_ | refine .mk 1 (by decide +kernel) ?_ | refine .mk 2 (by decide +kernel) ?_ | refine .mk 3 (by decide +kernel) ?_ | refine .mk 4 (by decide +kernel) ?_ | refine .mk 5 (by decide +kernel) ?_ | refine .mk 6 (by decide +kernel) ?_ | refine .mk 7 (by decide +kernel) ?_ | refine .mk 8 (by decide +kernel) ?_ | refine .mk 9 (by decide +kernel) ?_ | refine .mk 10 (by decide +kernel) ?_ | refine .mk 11 (by decide +kernel) ?_ | refine .mk 12 (by decide +kernel) ?_ | refine .mk 13 (by decide +kernel) ?_ | refine .mk 14 (by decide +kernel) ?_ | refine .mk 15 (by decide +kernel) ?_ | refine .mk 16 (by decide +kernel) ?_ | refine .mk 17 (by decide +kernel) ?_ | refine .mk 18 (by decide +kernel) ?_ | refine .mk 19 (by decide +kernel) ?_ | refine .mk 20 (by decide +kernel) ?_ | refine .mk 21 (by decide +kernel) ?_ | refine .mk 22 (by decide +kernel) ?_ | refine .mk 23 (by decide +kernel) ?_ | refine .mk 24 (by decide +kernel) ?_ | refine .mk 25 (by decide +kernel) ?_ | refine .mk 26 (by decide +kernel) ?_ | refine .mk 27 (by decide +kernel) ?_ | refine .mk 28 (by decide +kernel) ?_ | refine .mk 29 (by decide +kernel) ?_ | refine .mk 30 (by decide +kernel) ?_ | refine .mk 31 (by decide +kernel) ?_ | refine .mk 32 (by decide +kernel) ?_ | refine .mk 33 (by decide +kernel) ?_ | refine .mk 34 (by decide +kernel) ?_ | refine .mk 35 (by decide +kernel) ?_ | refine .mk 36 (by decide +kernel) ?_ | refine .mk 37 (by decide +kernel) ?_ | refine .mk 38 (by decide +kernel) ?_ | refine .mk 39 (by decide +kernel) ?_ | refine .mk 40 (by decide +kernel) ?_ | refine .mk 41 (by decide +kernel) ?_); (conv => whnf))
            | (refine HOLD.mk (by first | exact trivial | exact ⟨⟨rfl, rfl⟩, trivial⟩ | exact ⟨⟨rfl, rfl⟩, ⟨rfl, rfl⟩, trivial⟩) ?_; (conv => whnf))
          split
          rotate_left
          · rename_i h
            exact Bool.noConfusion ((q).symm.trans h)
          rename_i hN
          clear hN
          conv => whnf
          repeat first
            | (show DRAW _ _ _ _ _; (first | refine .mk 0 (by decide +kernel) ?_ | refine .mk 1 (by decide +kernel) ?_ | refine .mk 2 (by decide +kernel) ?_ | refine .mk 3 (by decide +kernel) ?_ | refine .mk 4 (by decide +kernel) ?_ | refine .mk 5 (by decide +kernel) ?_ | refine .mk 6 (by decide +kernel) ?_ | refine .mk 7 (by decide +kernel) ?_ | refine .mk 8 (by decide +kernel) ?_ | refine .mk 9 (by decide +kernel) ?_ | refine .mk 10 (by decide +kernel) ?_ | refine .mk 11 (by decide +kernel) ?_ | refine .mk 12 (by decide +kernel) ?_ | refine .mk 13 (by decide +kernel) ?_ | refine .mk 14 (by decide +kernel) ?_ | refine .mk 15 (by decide +kernel) ?_ | refine .mk 16 (by decide +kernel) ?_ | refine .mk 17 (by decide +kernel) ?_ | refine .mk 18 (by decide +kernel) ?_ | refine .mk 19 (by decide +kernel) ?_ | refine .mk 20 (by decide +kernel) ?_ | refine .mk 21 (by decide +kernel) ?_ | refine .mk 22 (by decide +kernel) ?_ | refine .mk 23 (by decide +kernel) ?_ | refine .mk 24 (by decide +kernel) ?_ | refine .mk 25 (by decide +kernel) ?_ | refine .mk 26 (by decide +kernel) ?_ | refine .mk 27 (by decide +kernel) ?_ | refine .mk 28 (by decide +kernel) ?_ | refine .mk 29 (by decide +kernel) ?_ | refine .mk 30 (by decide +kernel) ?_ | refine .mk 31 (by decide +kernel) ?_ | refine .mk 32 (by decide +kernel) ?_ | refine .mk 33 (by decide +kernel) ?_ | refine .mk 34 (by decide +kernel) ?_ | refine .mk 35 (by decide +kernel) ?_ | refine .mk 36 (by decide +kernel) ?_ | refine .mk 37 (by decide +kernel) ?_ | refine .mk 38 (by decide +kernel) ?_ | refine .mk 39 (by decide +kernel) ?_ | refine .mk 40 (by decide +kernel) ?_ | refine .mk 41 (by decide +kernel) ?_); (conv => whnf))
            | (refine HOLD.mk (by first | exact trivial | exact ⟨⟨rfl, rfl⟩, trivial⟩ | exact ⟨⟨rfl, rfl⟩, ⟨rfl, rfl⟩, trivial⟩) ?_; (conv => whnf))
          have hev : b.r4 i % 2 = 0 := by
            have := Int.tmod_eq_emod_of_nonneg (b := 2) r4a
            have h6 : (b.r4 i).tmod 2 = 0 := by simpa using z6
            omega
          have hch : 2 * b.r2 i ≤ 100 := by
            have h7 := of_decide_eq_false z7
            rw [w64, wrap_in (by omega) (by omega)] at h7
            omega
          have hq4 : w64 ((b.r4 i).tdiv 2) = b.r4 i / 2 := by
            rw [Int.tdiv_eq_ediv_of_nonneg r4a, w64, wrap_in (by omega) (by omega)]
          have hc := ch_lay3 (j := j) hin (by omega) hch hq4
          split
          rotate_left
          · rename_i h; exact absurd (hc.symm.trans h) nofun
          rename_i c0 h
          obtain rfl := Option.some.inj (hc.symm.trans h)
          clear h
          conv => whnf
          repeat first
            | (show DRAW _ _ _ _ _; (first | refine .mk 0 (by decide +kernel) ?_ | refine .mk 1 (by decide +kernel) ?_ | refine .mk 2 (by decide +kernel) ?_ | refine .mk 3 (by decide +kernel) ?_ | refine .mk 4 (by decide +kernel) ?_ | refine .mk 5 (by decide +kernel) ?_ | refine .mk 6 (by decide +kernel) ?_ | refine .mk 7 (by decide +kernel) ?_ | refine .mk 8 (by decide +kernel) ?_ | refine .mk 9 (by decide +kernel) ?_ | refine .mk 10 (by decide +kernel) ?_ | refine .mk 11 (by decide +kernel) ?_ | refine .mk 12 (by decide +kernel) ?_ | refine .mk 13 (by decide +kernel) ?_ | refine .mk 14 (by decide +kernel) ?_ | refine .mk 15 (by decide +kernel) ?_ | refine .mk 16 (by decide +kernel) ?_ | refine .mk 17 (by decide +kernel) ?_ | refine .mk 18 (by decide +kernel) ?_ | refine .mk 19 (by decide +kernel) ?_ | refine .mk 20 (by decide +kernel) ?_ | refine .mk 21 (by decide +kernel) ?_ | refine .mk 22 (by decide +kernel) ?_ | refine .mk 23 (by decide +kernel) ?_ | refine .mk 24 (by decide +kernel) ?_ | refine .mk 25 (by decide +kernel) ?_ | refine .mk 26 (by decide +kernel) ?_ | refine .mk 27 (by decide +kernel) ?_ | refine .mk 28 (by decide +kernel) ?_ | refine .mk 29 (by decide +kernel) ?_ | refine .mk 30 (by decide +kernel) ?_ | refine .mk 31 (by decide +kernel) ?_ | refine .mk 32 (by decide +kernel) ?_ | refine .mk 33 (by decide +kernel) ?_ | refine .mk 34 (by decide +kernel) ?_ | refine .mk 35 (by decide +kernel) ?_ | refine .mk 36 (by decide +kernel) ?_ | refine .mk 37 (by decide +kernel) ?_ | refine .mk 38 (by decide +kernel) ?_ | refine .mk 39 (by decide +kernel) ?_ | refine .mk 40 (by decide +kernel) ?_ | refine .mk 41 (by decide +kernel) ?_); (conv => whnf))
            | (refine HOLD.mk (by first | exact trivial | exact ⟨⟨rfl, rfl⟩, trivial⟩ | exact ⟨⟨rfl, rfl⟩, ⟨rfl, rfl⟩, trivial⟩) ?_; (conv => whnf))
          have hi2 : ∀ z, z < i + 1 → b.r4 z % 2 = 0 ∧ 2 * b.r2 z ≤ 100 := fun z hz => by
            by_cases hzi : z = i
            · subst hzi; exact ⟨hev, hch⟩
            · exact hi64 z (by omega)
          refine ⟨⟨i + 1, hin, hi2⟩, ⟨⟨leV_int hiw, leV_refl _, leV_refl _, leV_refl _, leV_refl _, leV_refl _, leV_refl _, leV_refl _, trivial⟩, ⟨leL_refl _, leL_refl _, leL_refl _, leL_refl _, leL_refl _, leL_refl _, trivial⟩, rfl, ?_⟩, (by show b.nr - (i + 1) < b.nr - i; omega)⟩
          simp [clT, clC, clL, clV, keys, hcl]
    · have q : decide ((i : Int) < b.nr) = false := decide_eq_false (by omega)
      have hin2 : i = b.nr := by omega
      subst hin2
      have hev : ∀ i, i < b.nr → b.r4 i % 2 = 0 := fun i hi => (hi64 i hi).1
      have g' : Good b.ch f := ⟨err_ch zB fun i hi => (hi64 i hi).2, zF⟩
      have hFc := fun up => c_Thrust (gl := gl) up b.ch f d
      have hTc := fun up => c_Torque (gl := gl) up b.ch f d
      rw [hd, thrR_ok g' (by omega), if_pos (allBr_ch hev hall), F_ch hev, ← ht, ← hd] at hFc
      rw [hd, torR_ok g' (by omega), if_pos (allBr_ch hev hall), T_ch hev, ← hm, ← hd] at hTc
      have hbt := fun up => c_blade (gl := gl) up b.ch hl hdd hnn
      conv => whnf
      split
      · rename_i h
        exact Bool.noConfusion ((q).symm.trans h)
      rename_i hN
      clear hN
      conv => whnf
      refine DRAW.mkR 191 4 b.nr (chF b b.nr) (List.replicate j .dead) rfl (fun i _ => ⟨rfl, rfl⟩) 9 (by decide +kernel) (by simp [rowT, rowV]) (by simp [rowC, rowV, rowVL]) ?_
      conv => whnf
      refine .mk _ _ _ ?_ (hbt _) rfl ?_
      · refine ⟨⟨leV_refl _, leV_refl _, ⟨.inl rfl, rfl, rfl, fun z hz => ?_⟩, trivial⟩, trivial⟩
        show [_, _, _, _] = [_, _, _, _]
        rw [if_pos hz, if_pos hz]
        rfl
      conv => whnf
      repeat first
        | (show DRAW _ _ _ _ _; (first | refine .mk 0 (by decide +kernel) ?_ | refine .mk 1 (by decide +kernel) ?_ | refine .mk 2 (by decide +kernel) ?_ | refine .mk 3 (by decide +kernel) ?_ | refine .mk 4 (by decide +kernel) ?_ | refine .mk 5 (by decide +kernel) ?_ | refine .mk 6 (by decide +kernel) ?_ | refine .mk 7 (by decide +kernel) ?_ | refine .mk 8 (by decide +kernel) ?_ | refine .mk 9 (by decide +kernel) ?_ | refine .mk 10 (by decide +kernel) ?_ | refine .mk 11 (by decide +kernel) ?_ | refine .mk 12 (by decide +kernel) ?_ | refine .mk 13 (by decide +kernel) ?_ | refine .mk 14 (by decide +kernel) ?_ | refine .mk 15 (by decide +kernel) ?_ | refine .mk 16 (by decide +kernel) ?_ | refine .mk 17 (by decide +kernel) ?_ | refine .mk 18 (by decide +kernel) ?_ | refine .mk 19 (by decide +kernel) ?_ | refine .mk 20 (by decide +kernel) ?_ | refine .mk 21 (by decide +kernel) ?_ | refine .mk 22 (by decide +kernel) ?_ | refine .mk 23 (by decide +kernel) ?_ | refine .mk 24 (by decide +kernel) ?_ | refine .mk 25 (by decide +kernel) ?_ | refine .mk 26 (by decide +kernel) ?_ | refine .mk 27 (by decide +kernel) ?_ | refine .mk 28 (by decide +kernel) ?_ | refine .mk 29 (by decide +kernel) ?_ | refine .mk 30 (by decide +kernel) ?_ | refine .mk 31 (by decide +kernel) ?_ | refine .mk 32 (by decide +kernel) ?_ | refine .mk 33 (by decide +kernel) ?_ | refine .mk 34 (by decide +kernel) ?_ | refine .mk 35 (by decide +kernel) ?_ | refine .mk 36 (by decide +kernel) ?_ | refine .mk 37 (by decide +kernel) ?_ | refine .mk 38 (by decide +kernel) ?_ | refine .mk 39 (by decide +kernel) ?_ | refine .mk 40 (by decide +kernel) ?_ | refine .mk 41 (by decide +kernel) ?_); (conv => whnf))
        | (refine HOLD.mk (by first | exact trivial | exact ⟨⟨rfl, rfl⟩, trivial⟩ | exact ⟨⟨rfl, rfl⟩, ⟨rfl, rfl⟩, trivial⟩) ?_; (conv => whnf))
        | (refine CALL0.cutBy lvNested2 _ _ _ _ _ (leL_refl _) (hFc ..) rfl ?_; conv => whnf)
        | (refine CALL0.mk _ _ _ _ _ (leL_refl _) (hFc ..) rfl ?_; conv => whnf)
        | (refine CALLQ.mk _ _ _ (leL_refl _) (hFc ..) rfl ?_; conv => whnf)
      refine .mk _ _ _ ?_ (hbt _) rfl ?_
      · refine ⟨⟨leV_refl _, leV_refl _, ⟨.inl rfl, rfl, rfl, fun z hz => ?_⟩, trivial⟩, trivial⟩
        show [_, _, _, _] = [_, _, _, _]
        rw [if_pos hz, if_pos hz]
        rfl
      conv => whnf
      repeat first
        | (show DRAW _ _ _ _ _; (first | refine .mk 0 (by decide +kernel) ?_ | refine .mk 1 (by decide +kernel) ?_ | refine .mk 2 (by decide +kernel) ?_ | refine .mk 3 (by decide +kernel) ?_ | refine .mk 4 (by decide +kernel) ?_ | refine .mk 5 (by decide +kernel) ?_ | refine .mk 6 (by decide +kernel) ?_ | refine .mk 7 (by decide +kernel) ?_ | refine .mk 8 (by decide +kernel) ?_ | refine .mk 9 (by decide +kernel) ?_ | refine .mk 10 (by decide +kernel) ?_ | refine .mk 11 (by decide +kernel) ?_ | refine .mk 12 (by decide +kernel) ?_ | refine .mk 13 (by decide +kernel) ?_ | refine .mk 14 (by decide +kernel) ?_ | refine .mk 15 (by decide +kernel) ?_ | refine .mk 16 (by decide +kernel) ?_ | refine .mk 17 (by decide +kernel) ?_ | refine .mk 18 (by decide +kernel) ?_ | refine .mk 19 (by decide +kernel) ?_ | refine .mk 20 (by decide +kernel) ?_ | refine .mk 21 (by decide +kernel) ?_ | refine .mk 22 (by decide +kernel) ?_ | refine .mk 23 (by decide +kernel) ?_ | refine .mk 24 (by decide +kernel) ?_ | refine .mk 25 (by decide +kernel) ?_ | refine .mk 26 (by decide +kernel) ?_ | refine .mk 27 (by decide +kernel) ?_ | refine .mk 28 (by decide +kernel) ?_ | refine .mk 29 (by decide +kernel) ?_ | refine .mk 30 (by decide +kernel) ?_ | refine .mk 31 (by decide +kernel) ?_ | refine .mk 32 (by decide +kernel) ?_ | refine .mk 33 (by decide +kernel) ?_ | refine .mk 34 (by decide +kernel) ?_ | refine .mk 35 (by decide +kernel) ?_ | refine .mk 36 (by decide +kernel) ?_ | refine .mk 37 (by decide +kernel) ?_ | refine .mk 38 (by decide +kernel) ?_ | refine .mk 39 (by decide +kernel) ?_ | refine .mk 40 (by decide +kernel) ?_ | refine .mk 41 (by decide +kernel) ?_); (conv => whnf))
        | (refine HOLD.mk (by first | exact trivial | exact ⟨⟨rfl, rfl⟩, trivial⟩ | exact ⟨⟨rfl, rfl⟩, ⟨rfl, rfl⟩, trivial⟩) ?_; (conv => whnf))
        | (refine CALL0.cutBy lvNested2 _ _ _ _ _ (leL_refl _) (hTc ..) rfl ?_; conv => whnf)
        | (refine CALL0.mk _ _ _ _ _ (leL_refl _) (hTc ..) rfl ?_; conv => whnf)
        | (refine CALLQ.mk _ _ _ (leL_refl _) (hTc ..) rfl ?_; conv => whnf)
      split
      rotate_left
      · rename_i h
        exact Bool.noConfusion (((show (t.1 == t.1 && (t.2 == t.2 && true)) = true by simp)).symm.trans h)
      rename_i hN
      clear hN
      conv => whnf
      exact ⟨by simp, rfl⟩

theorem c_RotorNested (up : List Ces) (hr : gl g_rotor_roots = rootsI) (hp : gl g_internal_strconv_uint64pow10 = powI) (b : Bl) (f : Fl) (d : Int) :
    Cs gl n_nacellelaw03_RotorNested up [b.iv, f.iv, .int .i64 d] (.bool true) up := by
  refine nested_guard up hr hp b f d fun hs zB zF d1 d2 => ?_
  obtain ⟨n, rfl⟩ : ∃ n : Nat, d = ((n + 1 : Nat) : Int) := ⟨(d - 1).toNat, by omega⟩
  by_cases hall : allBr b f 0
  · exact nested_all up hr hp b f _ n hs zB zF rfl (by omega) hall
  · exact nested_none up hr hp b f _ n hs zB zF rfl (by omega) hall
end Go.Proofs.YtllmejkmogepjaaDoor.Ix

/-
  IxSh2: pairs, loads, whole numbers that fit their shapes.
-/
namespace Go.Proofs.YtllmejkmogepjaaDoor.Ix

abbrev pairShp : Shp := .agg [(1, intS), (1, intS)]
abbrev tripShp : Shp := .agg [(1, intS), (1, intS), (1, intS)]

theorem fit_int {v : IV} (h : FitV intS v) : ∃ n, v = .int .i64 n := by
  obtain ⟨m, h, _⟩ := h
  exact ⟨m, (List.cons.inj h).1⟩

theorem fit_pair {v : IV} (h : FitV pairShp v) : ∃ a b, v = .agg [.int .i64 a, .int .i64 b] := by
  obtain ⟨xs, rfl, h⟩ := h
  have := fit_ints 2 xs h
  exact ⟨intAt xs 0, intAt xs 1, by rw [this]; simp [intAt, List.range, List.range.loop]⟩

theorem fit_trip {v : IV} (h : FitV tripShp v) : ∃ a b c, v = .agg [.int .i64 a, .int .i64 b, .int .i64 c] := by
  obtain ⟨xs, rfl, h⟩ := h
  have := fit_ints 3 xs h
  exact ⟨intAt xs 0, intAt xs 1, intAt xs 2, by rw [this]; simp [intAt, List.range, List.range.loop]⟩

theorem cells2 {ys : List IV} (h : Fit pairShp ys) : ∃ a b, ys = [.int .i64 a, .int .i64 b] := by
  have := fit_ints 2 ys h
  exact ⟨intAt ys 0, intAt ys 1, by rw [this]; simp [intAt, List.range, List.range.loop]⟩
theorem cells3 {ys : List IV} (h : Fit tripShp ys) : ∃ a b c, ys = [.int .i64 a, .int .i64 b, .int .i64 c] := by
  have := fit_ints 3 ys h
  exact ⟨intAt ys 0, intAt ys 1, intAt ys 2, by rw [this]; simp [intAt, List.range, List.range.loop]⟩
theorem cells1 {ys : List IV} (h : Fit intS ys) : ∃ a, ys = [.int .i64 a] := by
  obtain ⟨m, rfl, _⟩ := h
  exact ⟨m, rfl⟩

theorem fit_loads {v : IV} (h : FitV (.agg [(3, .agg [(1, intS), (1, intS), (1, intS)]), (1, intS), (2, .agg [(1, intS), (1, intS)])]) v) :
    ∃ p q r s t u, v = .agg [.int .i64 p, .int .i64 q, .int .i64 r, .int .i64 s, .int .i64 t, .int .i64 u] := by
  obtain ⟨xs, rfl, h⟩ := h
  simp only [FitL] at h
  obtain ⟨y1, z1, rfl, _, h1, y2, z2, rfl, _, h2, y3, z3, rfl, _, h3, rfl⟩ := h
  obtain ⟨p, q, r, rfl⟩ := cells3 h1
  obtain ⟨s, rfl⟩ := cells1 h2
  obtain ⟨t, u, rfl⟩ := cells2 h3
  exact ⟨p, q, r, s, t, u, rfl⟩

theorem fit_spot {v : IV} (h : FitV (.agg [(1, intS), (2, .agg [(1, intS), (1, intS)]), (1, intS), (1, intS)]) v) :
    ∃ p q r s t, v = .agg [.int .i64 p, .int .i64 q, .int .i64 r, .int .i64 s, .int .i64 t] := by
  obtain ⟨xs, rfl, h⟩ := h
  simp only [FitL] at h
  obtain ⟨y1, z1, rfl, _, h1, y2, z2, rfl, _, h2, y3, z3, rfl, _, h3, y4, z4, rfl, _, h4, rfl⟩ := h
  obtain ⟨p, rfl⟩ := cells1 h1
  obtain ⟨q, r, rfl⟩ := cells2 h2
  obtain ⟨s, rfl⟩ := cells1 h3
  obtain ⟨t, rfl⟩ := cells1 h4
  exact ⟨p, q, r, s, t, rfl⟩

theorem fit_quad {v : IV} (h : FitV (.agg [(1, intS), (1, intS), (1, intS), (1, intS)]) v) : ∃ p q r s, v = .agg [.int .i64 p, .int .i64 q, .int .i64 r, .int .i64 s] := by
  obtain ⟨xs, rfl, h⟩ := h
  have := fit_ints 4 xs h
  exact ⟨intAt xs 0, intAt xs 1, intAt xs 2, intAt xs 3, by rw [this]; simp [intAt, List.range, List.range.loop]⟩

theorem fit_slice3 {v : IV} (h : FitV (.slice 3 tripShp) v) : ∃ (n : Nat) (x y z : Nat → Int), n ≤ maxLen ∧ leV v (.lst none 3 n fun i => [.int .i64 (x i), .int .i64 (y i), .int .i64 (z i)]) := by
  obtain ⟨n, f, h, hn, hf⟩ := h
  obtain rfl := (List.cons.inj h).1
  refine ⟨n, fun i => intAt (f i) 0, fun i => intAt (f i) 1, fun i => intAt (f i) 2, hn, .inl rfl, rfl, rfl, fun i hi => ?_⟩
  obtain ⟨_, hf⟩ := hf i hi
  exact fit_ints 3 (f i) hf
end Go.Proofs.YtllmejkmogepjaaDoor.Ix
