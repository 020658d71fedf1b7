/-
  Rr1: contracts of the reference's functions for blades and flows.
-/
import Derived.Test.YtllmejkmogepjaaDoorYRo2
namespace Go.Proofs.YtllmejkmogepjaaDoor.Ix
open Go.Proofs
set_option maxRecDepth 100000
set_option linter.unusedVariables false
variable {gl : Nat → IV}

theorem c_CheckRange (up : List Ces) (n lo hi : Int) : Cs gl n_nacelleref01_CheckRange up [.int .i64 n, .int .i64 lo, .int .i64 hi] (.int .i64 (withinS n lo hi)) up := by
  refine mk h_nacelleref01_CheckRange rfl rfl ?_
  conv => whnf
  split
  · rename_i h
    have h : decide (n < lo) = true := h
    conv => whnf
    simp [withinS, h]
  · rename_i h
    have h : decide (n < lo) = false := h
    conv => whnf
    split
    · rename_i h2
      have h2 : decide (n > hi) = true := h2
      conv => whnf
      simp [withinS, h, h2]
    · rename_i h2
      have h2 : decide (n > hi) = false := h2
      conv => whnf
      simp [withinS, h, h2]

theorem c_CheckAngle (up : List Ces) (n : Int) : Cs gl n_nacelleref03_CheckAngle up [.int .i64 n] (.int .i64 (withinS n (-64) 64)) up := by
  refine mk h_nacelleref03_CheckAngle rfl rfl ?_
  conv => whnf
  refine .mk _ _ _ _ _ (leL_refl _) (c_CheckRange _ _ _ _) rfl ?_
  conv => whnf
  exact ⟨rfl, rfl⟩

theorem c_rFirst (up : List Ces) (n : Nat) (hn : n ≤ 4611686018427387904) (f : Nat → Int) : Cs gl n_nacelleref01_First up [.lst none 1 n fun i => [.int .i64 (f i)]] (.int .i64 (firstS f n 0)) up := by
  refine mk h_nacelleref01_First rfl rfl ?_
  conv => whnf
  refine .mk (α := {i : Nat // i ≤ n ∧ firstS f n 0 = firstS f (n - i) i}) (fun i => ⟨[(3, .int .i64 i.1), (0, .lst none 1 n fun i => [.int .i64 (f i)])], [], up⟩) (fun i => n - i.1) ⟨0, Nat.zero_le _, rfl⟩ ⟨⟨leV_refl _, leV_refl _, trivial⟩, trivial, rfl, rfl⟩ ?_
  rintro ⟨i, hi, hf⟩
  conv => whnf
  split
  · rename_i hb
    have hlt : i < n := by
      have hb' : decide ((i : Int) < n) = true := hb
      simpa using hb'
    have hstep : firstS f (n - i) i = orE (f i) (firstS f (n - (i + 1)) (i + 1)) := by
      rw [show n - i = (n - (i + 1)) + 1 by omega]; rfl
    conv => whnf
    split
    rotate_left
    · rename_i h
      have h' : decide ((i : Int) < n) = false := h
      simp at h' <;> omega
    conv => whnf
    split
    · rename_i h2
      have h2 : (f i != 0) = true := h2
      conv => whnf
      split
      · conv => whnf
        refine ⟨?_, rfl⟩
        show IV.int .i64 (f i) = _
        rw [hf, hstep, orE_pos h2]
      · rename_i h3
        have h3 : decide ((i : Int) < n) = false := h3
        simp at h3; omega
    · rename_i h2
      have h2 : (f i != 0) = false := h2
      conv => whnf
      refine ⟨⟨i + 1, hlt, by rw [hf, hstep, orE_neg h2]⟩, ⟨⟨leV_int ?_, leV_refl _, trivial⟩, trivial, rfl, rfl⟩, ?_⟩
      · show w64 ((i : Int) + 1) = ((i + 1 : Nat) : Int)
        rw [w64, wrap_in] <;> omega
      · show n - (i + 1) < n - i
        omega
  · rename_i hb
    have : i = n := by
      have hb' : decide ((i : Int) < n) = false := hb
      simp at hb'; omega
    conv => whnf
    refine ⟨?_, rfl⟩
    rw [hf, this, Nat.sub_self]; rfl

theorem c_rf3 (up : List Ces) (f : Nat → List IV) (a b c : Int) (h0 : f 0 = [.int .i64 a]) (h1 : f 1 = [.int .i64 b]) (h2 : f 2 = [.int .i64 c]) : Cs gl n_nacelleref01_First up [.lst none 1 3 f] (.int .i64 (orE a (orE b c))) up := by
  have := c_rFirst (gl := gl) up 3 (by decide) fun i => [a, b, c].getD i 0
  have e : firstS (fun i => [a, b, c].getD i 0) 3 0 = orE a (orE b c) := by rw [← orE_right (orE a (orE b c)), orE_assoc, orE_assoc]; rfl
  rw [← e]
  refine Comp.le ?_ this
  refine ⟨⟨.inl rfl, rfl, rfl, fun i hi => ?_⟩, trivial⟩
  match i, hi with
  | 0, _ => exact h0
  | 1, _ => exact h1
  | 2, _ => exact h2
theorem c_rf4 (up : List Ces) (f : Nat → List IV) (a b c d : Int) (h0 : f 0 = [.int .i64 a]) (h1 : f 1 = [.int .i64 b]) (h2 : f 2 = [.int .i64 c]) (h3 : f 3 = [.int .i64 d]) : Cs gl n_nacelleref01_First up [.lst none 1 4 f] (.int .i64 (orE a (orE b (orE c d)))) up := by
  have := c_rFirst (gl := gl) up 4 (by decide) fun i => [a, b, c, d].getD i 0
  have e : firstS (fun i => [a, b, c, d].getD i 0) 4 0 = orE a (orE b (orE c d)) := by rw [← orE_right (orE a (orE b (orE c d))), orE_assoc, orE_assoc, orE_assoc]; rfl
  rw [← e]
  refine Comp.le ?_ this
  refine ⟨⟨.inl rfl, rfl, rfl, fun i hi => ?_⟩, trivial⟩
  match i, hi with
  | 0, _ => exact h0
  | 1, _ => exact h1
  | 2, _ => exact h2
  | 3, _ => exact h3

theorem c_rCheckFlow (up : List Ces) (w s p : Int) : Cs gl n_nacelleref03_CheckFlow up [flowI w s p] (.int .i64 (flowS w s p)) up := by
  refine mk h_nacelleref03_CheckFlow rfl rfl ?_
  conv => whnf
  refine .mk 11 (by kernel_rfl) ?_
  conv => whnf
  refine .mk _ _ _ (leL_refl _) (c_CheckRange _ _ _ _) rfl ?_
  conv => whnf
  refine .mk _ _ _ (leL_refl _) (c_CheckRange _ _ _ _) rfl ?_
  conv => whnf
  refine .mk _ _ _ (leL_refl _) (c_CheckAngle _ _) rfl ?_
  conv => whnf
  refine .mk _ _ _ (leL_refl _) (c_rf3 _ _ _ _ _ rfl rfl rfl) rfl ?_
  conv => whnf
  exact ⟨rfl, rfl⟩

theorem c_rCheckPolar (up : List Ces) (nl nd : Nat) (lf df : Nat → Int) : Cs gl n_nacelleref03_CheckPolar up [.agg [.lst none 1 nl fun i => [.int .i64 (lf i)], .lst none 1 nd fun i => [.int .i64 (df i)]]] (.int .i64 (polarS nl lf nd df)) up := by
  refine mk h_nacelleref03_CheckPolar rfl rfl ?_
  rw [polarS_eq]
  conv => whnf
  split
  · rename_i h
    have h : ((nl : Int) == 0) = true := h
    conv => whnf
    refine ⟨?_, rfl⟩
    rw [h]; rfl
  · rename_i h1
    have h1 : ((nl : Int) == 0) = false := h1
    rw [h1]
    conv => whnf
    split
    · rename_i h
      have h : decide ((nl : Int) > 32) = true := h
      conv => whnf
      refine ⟨?_, rfl⟩
      rw [h]; rfl
    · rename_i h2
      have h2 : decide ((nl : Int) > 32) = false := h2
      rw [h2]
      conv => whnf
      split
      · rename_i h
        have h : ((nd : Int) != nl) = true := h
        conv => whnf
        refine ⟨?_, rfl⟩
        rw [h]; rfl
      · rename_i h3
        have h3 : ((nd : Int) != nl) = false := h3
        rw [h3]
        have hk : orE (orE (bif false then 12 else 0) (orE (bif false then 5 else 0) (bif false then 2 else 0))) (orE (firstS (liftS lf) nl 0) (firstS (fun i => withinS (df i) 0 1000) nd 0)) = orE (firstS (liftS lf) nl 0) (firstS (fun i => withinS (df i) 0 1000) nd 0) := rfl
        rw [hk]
        clear hk
        have h3' : nd = nl := by simp at h3; omega
        subst h3'
        have h2' : nd ≤ 32 := by simp at h2; omega
        obtain ⟨R, hR⟩ : ∃ R, R = orE (firstS (liftS lf) nd 0) (firstS (fun i => withinS (df i) 0 1000) nd 0) := ⟨_, rfl⟩
        rw [← hR]
        conv => whnf
        refine .mk (α := {i : Nat // i ≤ nd ∧ R = orE (firstS (liftS lf) (nd - i) i) (firstS (fun i => withinS (df i) 0 1000) nd 0)}) (fun i => ⟨[(3, .int .i64 i.1), (1, .ptr 0 1 0)], [(1, [.lst none 1 nd fun i => [.int .i64 (lf i)], .lst none 1 nd fun i => [.int .i64 (df i)]])], up⟩) (fun i => nd - i.1) ⟨0, Nat.zero_le _, hR⟩ ⟨⟨leV_refl _, leV_refl _, trivial⟩, ⟨leL_refl _, trivial⟩, rfl, rfl⟩ ?_
        rintro ⟨i, hi, hf⟩
        conv => whnf
        split
        · rename_i hb
          have hlt : i < nd := by
            have hb' : decide ((i : Int) < nd) = true := hb
            simpa using hb'
          have hstep : firstS (liftS lf) (nd - i) i = orE (liftS lf i) (firstS (liftS lf) (nd - (i + 1)) (i + 1)) := by
            rw [show nd - i = (nd - (i + 1)) + 1 by omega]; rfl
          have hm : w64 ((i : Int) - 1) = (i : Int) - 1 := by rw [w64, wrap_in] <;> omega
          have hw : w64 ((i : Int) + 1) = ((i + 1 : Nat) : Int) := by rw [w64, wrap_in] <;> omega
          conv => whnf
          split
          rotate_left
          · rename_i h
            have h' : decide ((i : Int) < nd) = false := h
            simp at h' <;> omega
          conv => whnf
          refine .mk _ _ _ _ _ (leL_refl _) (c_CheckRange _ _ _ _) rfl ?_
          conv => whnf
          split
          · rename_i h
            have h : (withinS (lf i) 0 1000 != 0) = true := h
            have hl : liftS lf i = withinS (lf i) 0 1000 := orE_pos h
            conv => whnf
            refine ⟨?_, rfl⟩
            show IV.int .i64 (withinS (lf i) 0 1000) = _
            rw [hf, hstep, hl, orE_pos h, orE_pos h]
          · rename_i h
            have h : (withinS (lf i) 0 1000 != 0) = false := h
            have hl : liftS lf i = bif decide (lf i < lf (i - 1)) then 11 else 0 := orE_neg h
            conv => whnf
            refine .mk 16 (by kernel_rfl) ?_
            conv => whnf
            split
            · rename_i h0
              have h0 : decide ((i : Int) > 0) = true := h0
              have h0' : 0 < i := by simpa using h0
              conv => whnf
              split
              rotate_left
              · rename_i h
                have h' : decide ((i : Int) < nd) = false := h
                simp at h' <;> omega
              conv => whnf
              rw [show IntKind.i64.wrap ((i : Int) - 1) = ((i - 1 : Nat) : Int) by show w64 _ = _; rw [hm]; omega]
              split
              rotate_left
              · rename_i h
                have h' : decide (0 ≤ ((i - 1 : Nat) : Int)) = false := h
                simp at h' <;> omega
              conv => whnf
              split
              rotate_left
              · rename_i h
                have h' : decide (((i - 1 : Nat) : Int) < nd) = false := h
                simp at h' <;> omega
              conv => whnf
              split
              · rename_i g
                have g : decide (lf i < lf (i - 1)) = true := g
                rw [g] at hl
                conv => whnf
                refine ⟨?_, rfl⟩
                rw [hf, hstep, hl]; rfl
              · rename_i g
                have g : decide (lf i < lf (i - 1)) = false := g
                rw [g] at hl
                conv => whnf
                exact ⟨⟨i + 1, hlt, by rw [hf, hstep, hl]; rfl⟩, ⟨⟨leV_int hw, leV_refl _, trivial⟩, ⟨leL_refl _, trivial⟩, rfl, rfl⟩, (by show nd - (i + 1) < nd - i; omega)⟩
            · rename_i h0
              have h0 : decide ((i : Int) > 0) = false := h0
              have h0' : i = 0 := by simpa using h0
              have g : decide (lf i < lf (i - 1)) = false := by subst h0'; simp
              rw [g] at hl
              conv => whnf
              exact ⟨⟨i + 1, hlt, by rw [hf, hstep, hl]; rfl⟩, ⟨⟨leV_int hw, leV_refl _, trivial⟩, ⟨leL_refl _, trivial⟩, rfl, rfl⟩, (by show nd - (i + 1) < nd - i; omega)⟩
        · rename_i hb
          have : i = nd := by
            have hb' : decide ((i : Int) < nd) = false := hb
            simp at hb'; omega
          have hz : R = firstS (fun i => withinS (df i) 0 1000) nd 0 := by rw [hf, this, Nat.sub_self]; rfl
          conv => whnf
          refine .mk (α := {i : Nat // i ≤ nd ∧ R = firstS (fun i => withinS (df i) 0 1000) (nd - i) i}) (fun i => ⟨[(5, .int .i64 i.1), (1, .ptr 0 1 0)], [(1, [.lst none 1 nd fun i => [.int .i64 (lf i)], .lst none 1 nd fun i => [.int .i64 (df i)]])], up⟩) (fun i => nd - i.1) ⟨0, Nat.zero_le _, hz⟩ ⟨⟨leV_refl _, leV_refl _, trivial⟩, ⟨leL_refl _, trivial⟩, rfl, rfl⟩ ?_
          rintro ⟨j, hj, hg⟩
          conv => whnf
          split
          · rename_i hb
            have hlt : j < nd := by
              have hb' : decide ((j : Int) < nd) = true := hb
              simpa using hb'
            have hstep : firstS (fun i => withinS (df i) 0 1000) (nd - j) j = orE (withinS (df j) 0 1000) (firstS (fun i => withinS (df i) 0 1000) (nd - (j + 1)) (j + 1)) := by
              rw [show nd - j = (nd - (j + 1)) + 1 by omega]; rfl
            have hw : w64 ((j : Int) + 1) = ((j + 1 : Nat) : Int) := by rw [w64, wrap_in] <;> omega
            conv => whnf
            split
            rotate_left
            · rename_i h
              have h' : decide ((j : Int) < nd) = false := h
              simp at h' <;> omega
            conv => whnf
            refine .mk _ _ _ _ _ (leL_refl _) (c_CheckRange _ _ _ _) rfl ?_
            conv => whnf
            split
            · rename_i h
              have h : (withinS (df j) 0 1000 != 0) = true := h
              conv => whnf
              refine ⟨?_, rfl⟩
              show IV.int .i64 (withinS (df j) 0 1000) = _
              rw [hg, hstep, orE_pos h]
            · rename_i h
              have h : (withinS (df j) 0 1000 != 0) = false := h
              conv => whnf
              exact ⟨⟨j + 1, hlt, by rw [hg, hstep, orE_neg h]⟩, ⟨⟨leV_int hw, leV_refl _, trivial⟩, ⟨leL_refl _, trivial⟩, rfl, rfl⟩, (by show nd - (j + 1) < nd - j; omega)⟩
          · rename_i hb
            have : j = nd := by
              have hb' : decide ((j : Int) < nd) = false := hb
              simp at hb'; omega
            conv => whnf
            refine ⟨?_, rfl⟩
            rw [hg, this, Nat.sub_self]; rfl

theorem bladeS_eq3 (nl nd nr : Nat) (lf df r1 r2 r3 r4 : Nat → Int) : bladeS nl lf nd df nr r1 r2 r3 r4 =
    orE (polarS nl lf nd df) (orE (bif (nr : Int) == 0 then 12 else 0) (orE (bif decide ((nr : Int) > 16) then 5 else 0) (firstS (ringAt r1 r2 r3 r4) nr 0))) := rfl

theorem c_rCheckBlade (up : List Ces) (b : Bl) : Cs gl n_nacelleref03_CheckBlade up [b.iv] (.int .i64 b.err) up := by
  obtain ⟨nl, nd, nr, lf, df, r1, r2, r3, r4⟩ := b
  refine mk h_nacelleref03_CheckBlade rfl rfl ?_
  show ibody _ _ _ _ _ fun r up' => r = .int .i64 (bladeS nl lf nd df nr r1 r2 r3 r4) ∧ _
  rw [bladeS_eq3]
  conv => whnf
  refine .mk _ _ _ _ _ (leL_refl _) (c_rCheckPolar _ _ _ _ _) rfl ?_
  conv => whnf
  split
  · rename_i h
    have h : (polarS nl lf nd df != 0) = true := h
    conv => whnf
    refine ⟨?_, rfl⟩
    rw [orE_pos h]
  · rename_i h
    have h : (polarS nl lf nd df != 0) = false := h
    rw [orE_neg h]
    clear h
    conv => whnf
    split
    · rename_i h
      have h : ((nr : Int) == 0) = true := h
      conv => whnf
      refine ⟨?_, rfl⟩
      rw [h]; rfl
    · rename_i h1
      have h1 : ((nr : Int) == 0) = false := h1
      rw [h1]
      conv => whnf
      split
      · rename_i h
        have h : decide ((nr : Int) > 16) = true := h
        conv => whnf
        refine ⟨?_, rfl⟩
        rw [h]; rfl
      · rename_i h2
        have h2 : decide ((nr : Int) > 16) = false := h2
        rw [h2]
        have h2' : nr ≤ 16 := by simp at h2; omega
        obtain ⟨R, hR⟩ : ∃ R, R = firstS (ringAt r1 r2 r3 r4) nr 0 := ⟨_, rfl⟩
        rw [show orE (bif false then 12 else 0) (orE (bif false then 5 else 0) (firstS (ringAt r1 r2 r3 r4) nr 0)) = R from hR.symm]
        conv => whnf
        refine .mk (α := {i : Nat // i ≤ nr ∧ R = firstS (ringAt r1 r2 r3 r4) (nr - i) i}) (fun i => ⟨[(4, .int .i64 i.1), (1, .ptr 0 1 0)], [(1, [.lst none 1 nl fun i => [.int .i64 (lf i)], .lst none 1 nd fun i => [.int .i64 (df i)], .lst none 4 nr fun i => [.int .i64 (r1 i), .int .i64 (r2 i), .int .i64 (r3 i), .int .i64 (r4 i)]])], up⟩) (fun i => nr - i.1) ⟨0, Nat.zero_le _, hR⟩ ⟨⟨leV_refl _, leV_refl _, trivial⟩, ⟨leL_refl _, trivial⟩, rfl, rfl⟩ ?_
        rintro ⟨i, hi, hf⟩
        conv => whnf
        split
        · rename_i hb
          have hlt : i < nr := by
            have hb' : decide ((i : Int) < nr) = true := hb
            simpa using hb'
          have hstep : firstS (ringAt r1 r2 r3 r4) (nr - i) i = orE (ringAt r1 r2 r3 r4 i) (firstS (ringAt r1 r2 r3 r4) (nr - (i + 1)) (i + 1)) := by
            rw [show nr - i = (nr - (i + 1)) + 1 by omega]; rfl
          have hm : w64 ((i : Int) - 1) = (i : Int) - 1 := by rw [w64, wrap_in] <;> omega
          have hw : w64 ((i : Int) + 1) = ((i + 1 : Nat) : Int) := by rw [w64, wrap_in] <;> omega
          conv => whnf
          split
          rotate_left
          · rename_i h
            have h' : decide ((i : Int) < nr) = false := h
            simp at h' <;> omega
          conv => whnf
          refine .mk 14 (by kernel_rfl) ?_
          conv => whnf
          refine .mk _ _ _ (leL_refl _) (c_CheckRange _ _ _ _) rfl ?_
          conv => whnf
          refine .mk _ _ _ (leL_refl _) (c_CheckRange _ _ _ _) rfl ?_
          conv => whnf
          refine .mk _ _ _ (leL_refl _) (c_CheckRange _ _ _ _) rfl ?_
          conv => whnf
          refine .mk _ _ _ (leL_refl _) (c_CheckRange _ _ _ _) rfl ?_
          conv => whnf
          refine .mk _ _ _ (leL_refl _) (c_rf4 _ _ _ _ _ _ rfl rfl rfl rfl) rfl ?_
          conv => whnf
          split
          · rename_i h
            have h : (ringS (r1 i) (r2 i) (r3 i) (r4 i) != 0) = true := h
            have hl : ringAt r1 r2 r3 r4 i = ringS (r1 i) (r2 i) (r3 i) (r4 i) := orE_pos h
            conv => whnf
            refine ⟨?_, rfl⟩
            show IV.int .i64 (ringS (r1 i) (r2 i) (r3 i) (r4 i)) = _
            rw [hf, hstep, hl, orE_pos h]
          · rename_i h
            have h : (ringS (r1 i) (r2 i) (r3 i) (r4 i) != 0) = false := h
            have hl : ringAt r1 r2 r3 r4 i = bif decide (0 < i) && decide (r1 i ≤ r1 (i - 1)) then 11 else 0 := orE_neg h
            conv => whnf
            refine .mk 14 (by kernel_rfl) ?_
            conv => whnf
            split
            · rename_i h0
              have h0 : decide ((i : Int) > 0) = true := h0
              have h0' : 0 < i := by simpa using h0
              rw [decide_eq_true h0', Bool.true_and] at hl
              conv => whnf
              rw [show IntKind.i64.wrap ((i : Int) - 1) = ((i - 1 : Nat) : Int) by show w64 _ = _; rw [hm]; omega]
              split
              rotate_left
              · rename_i h
                have h' : decide (0 ≤ ((i - 1 : Nat) : Int)) = false := h
                simp at h' <;> omega
              conv => whnf
              split
              rotate_left
              · rename_i h
                have h' : decide (((i - 1 : Nat) : Int) < nr) = false := h
                simp at h' <;> omega
              conv => whnf
              split
              · rename_i g
                have g : decide (r1 i ≤ r1 (i - 1)) = true := g
                rw [g] at hl
                conv => whnf
                refine ⟨?_, rfl⟩
                rw [hf, hstep, hl]; rfl
              · rename_i g
                have g : decide (r1 i ≤ r1 (i - 1)) = false := g
                rw [g] at hl
                conv => whnf
                exact ⟨⟨i + 1, hlt, by rw [hf, hstep, hl]; rfl⟩, ⟨⟨leV_int hw, leV_refl _, trivial⟩, ⟨leL_refl _, trivial⟩, rfl, rfl⟩, (by show nr - (i + 1) < nr - i; omega)⟩
            · rename_i h0
              have h0 : decide ((i : Int) > 0) = false := h0
              have h0' : ¬ 0 < i := by simpa using h0
              rw [decide_eq_false h0', Bool.false_and] at hl
              conv => whnf
              exact ⟨⟨i + 1, hlt, by rw [hf, hstep, hl]; rfl⟩, ⟨⟨leV_int hw, leV_refl _, trivial⟩, ⟨leL_refl _, trivial⟩, rfl, rfl⟩, (by show nr - (i + 1) < nr - i; omega)⟩
        · rename_i hb
          have : i = nr := by
            have hb' : decide ((i : Int) < nr) = false := hb
            simp at hb'; omega
          conv => whnf
          refine ⟨?_, rfl⟩
          rw [hf, this, Nat.sub_self]; rfl

def Bl.short (b : Bl) : Bool :=
  (decide ((b.nl : Int) ≤ 5) || (b.nl : Int) == 33) && ((decide ((b.nd : Int) ≤ 5) || (b.nd : Int) == 33) && (decide ((b.nr : Int) ≤ 3) || (b.nr : Int) == 17))

theorem c_Short (up : List Ces) (b : Bl) : Cs gl n_nacelleref03_Short up [b.iv] (.bool b.short) up := by
  refine mk h_nacelleref03_Short rfl rfl ?_
  conv => whnf
  repeat' (split <;> (conv => whnf))
  all_goals (refine ⟨?_, rfl⟩; simp_all [Bl.short] <;> omega)

/-- Are the inflows of a valid blade few? -/
def lightS (b : Bl) (f : Fl) : Bool := decide (w64 ((w64 (1024 * f.w)).tdiv (w64 (f.s * b.r1 0))) ≤ 4096)

theorem c_Light (up : List Ces) (b : Bl) (f : Fl) (hb : b.err = 0) (hf : f.err = 0) : Cs gl n_nacelleref03_Light up [b.iv, f.iv] (.bool (lightS b f)) up := by
  refine mk h_nacelleref03_Light rfl rfl ?_
  obtain ⟨_, hn1, hn2, ok⟩ := Bl.good hb hf
  have o := ok 0 (by omega)
  have hw := o.w
  have hs := o.s
  have hr := o.r
  have b1 := mulB (x := f.s) (y := b.r1 0) (A := 1000) (B := 200) (by omega) (by omega) (by omega) (by omega)
  have b2 := Int.mul_pos (show 0 < f.s by omega) (show 0 < b.r1 0 by omega)
  have e : w64 (f.s * b.r1 0) = f.s * b.r1 0 := by rw [w64, wrap_in] <;> omega
  conv => whnf
  refine .mk 13 (by kernel_rfl) ?_
  conv => whnf
  split
  rotate_left
  · rename_i h
    have h' : decide ((0 : Int) < b.nr) = false := h
    simp at h' <;> omega
  conv => whnf
  split
  · conv => whnf
    exact ⟨rfl, rfl⟩
  · rename_i h
    have h' : (w64 (f.s * b.r1 0) != 0) = false := h
    rw [e] at h'
    simp at h'
    omega
end Go.Proofs.YtllmejkmogepjaaDoor.Ix
