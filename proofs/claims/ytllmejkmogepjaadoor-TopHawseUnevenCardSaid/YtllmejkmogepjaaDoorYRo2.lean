/-
  Ro2: contracts of the functions of the package rotor, the second part: CheckPolar, CheckBlade and the checks that use them.
-/
import Derived.Test.YtllmejkmogepjaaDoorYRo1
namespace Go.Proofs.YtllmejkmogepjaaDoor.Ix
open Go.Proofs
set_option maxRecDepth 100000
set_option linter.unusedVariables false
variable {gl : Nat → IV}

theorem c_f2 (up : List Ces) (f : Nat → List IV) (a b : Int) (h0 : f 0 = [.int .i64 a]) (h1 : f 1 = [.int .i64 b]) : Cs gl n_rotor_first up [.lst none 1 2 f] (.int .i64 (orE a b)) up := by
  have := c_first (gl := gl) up 2 (by decide) fun i => [a, b].getD i 0
  have e : firstS (fun i => [a, b].getD i 0) 2 0 = orE a b := by rw [← orE_right (orE a b), orE_assoc]; rfl
  rw [← e]
  refine Comp.le ?_ this
  refine ⟨⟨.inl rfl, rfl, rfl, fun i hi => ?_⟩, trivial⟩
  match i, hi with
  | 0, _ => exact h0
  | 1, _ => exact h1
theorem c_f3 (up : List Ces) (f : Nat → List IV) (a b c : Int) (h0 : f 0 = [.int .i64 a]) (h1 : f 1 = [.int .i64 b]) (h2 : f 2 = [.int .i64 c]) : Cs gl n_rotor_first up [.lst none 1 3 f] (.int .i64 (orE a (orE b c))) up := by
  have := c_first (gl := gl) up 3 (by decide) fun i => [a, b, c].getD i 0
  have e : firstS (fun i => [a, b, c].getD i 0) 3 0 = orE a (orE b c) := by rw [← orE_right (orE a (orE b c)), orE_assoc, orE_assoc]; rfl
  rw [← e]
  refine Comp.le ?_ this
  refine ⟨⟨.inl rfl, rfl, rfl, fun i hi => ?_⟩, trivial⟩
  match i, hi with
  | 0, _ => exact h0
  | 1, _ => exact h1
  | 2, _ => exact h2

theorem orE_pos {a b : Int} (h : (a != 0) = true) : orE a b = a := by unfold orE; rw [h]; rfl
theorem orE_neg {a b : Int} (h : (a != 0) = false) : orE a b = b := by unfold orE; rw [h]; rfl

/-- The error of the class 'i'. -/
def liftS (lf : Nat → Int) (i : Nat) : Int := orE (withinS (lf i) 0 1000) (bif decide (lf i < lf (i - 1)) then 11 else 0)

theorem polarS_eq (nl nd : Nat) (lf df : Nat → Int) : polarS nl lf nd df =
    orE (orE (bif (nl : Int) == 0 then 12 else 0) (orE (bif decide ((nl : Int) > 32) then 5 else 0) (bif (nd : Int) != nl then 2 else 0))) (orE (firstS (liftS lf) nl 0) (firstS (fun i => withinS (df i) 0 1000) nd 0)) := by
  unfold polarS liftS
  simp only [orE_assoc]

theorem c_CheckPolar (up : List Ces) (nl nd : Nat) (lf df : Nat → Int) : Cs gl n_rotor_CheckPolar up [.agg [.lst none 1 nl fun i => [.int .i64 (lf i)], .lst none 1 nd fun i => [.int .i64 (df i)]]] (.int .i64 (polarS nl lf nd df)) up := by
  refine mk h_rotor_CheckPolar rfl rfl ?_
  rw [polarS_eq]
  conv => whnf
  refine .mk 14 (by kernel_rfl) ?_
  conv => whnf
  refine .mk _ _ _ (leL_refl _) (c_when _ _ _) rfl ?_
  conv => whnf
  refine .mk _ _ _ (leL_refl _) (c_when _ _ _) rfl ?_
  conv => whnf
  refine .mk _ _ _ (leL_refl _) (c_when _ _ _) rfl ?_
  conv => whnf
  refine .mk _ _ _ (leL_refl _) (c_f3 _ _ _ _ _ rfl rfl rfl) rfl ?_
  conv => whnf
  split
  · rename_i h
    conv => whnf
    refine ⟨?_, rfl⟩
    rw [orE_pos h]
  · rename_i h
    rw [orE_neg h]
    have h0 : orE (bif (nl : Int) == 0 then 12 else 0) (orE (bif decide ((nl : Int) > 32) then 5 else 0) (bif (nd : Int) != nl then 2 else 0)) = 0 := by simpa using h
    simp only [orE_zero] at h0
    rw [bif_zero (by decide), bif_zero (by decide), bif_zero (by decide)] at h0
    simp at h0
    clear h
    obtain ⟨h1, h2, h3⟩ := h0
    have h3' : nd = nl := by omega
    subst h3'
    conv => whnf
    refine .mk (α := {i : Nat // i ≤ nd ∧ firstS (liftS lf) nd 0 = firstS (liftS lf) (nd - i) i}) (fun i => ⟨[(31, .int .i64 i.1), (30, .int .i64 nd), (29, .lst none 1 nd fun i => [.int .i64 (lf i)]), (1, .ptr 0 1 0)], [(1, [.lst none 1 nd fun i => [.int .i64 (lf i)], .lst none 1 nd fun i => [.int .i64 (df i)]])], up⟩) (fun i => nd - i.1) ⟨0, Nat.zero_le _, rfl⟩ ⟨?_, ?_, rfl, rfl⟩ ?_
    · exact ⟨leV_refl _, leV_refl _, leV_refl _, leV_refl _, trivial⟩
    · exact ⟨leL_refl _, trivial⟩
    · rintro ⟨i, hi, hf⟩
      conv => whnf
      split
      · rename_i hb
        have hlt : i < nd := by simpa using hb
        have hstep : firstS (liftS lf) (nd - i) i = orE (liftS lf i) (firstS (liftS lf) (nd - (i + 1)) (i + 1)) := by
          rw [show nd - i = (nd - (i + 1)) + 1 by omega]; rfl
        conv => whnf
        split
        · conv => whnf
          refine .mk 14 (by kernel_rfl) ?_
          conv => whnf
          refine .mk _ _ _ (leL_refl _) (c_within _ _ _ _) rfl ?_
          conv => whnf
          have hm : (if w64 ((i : Int) - 1) > 0 then w64 ((i : Int) - 1) else 0) = ((i - 1 : Nat) : Int) := by
            rw [w64, wrap_in (by omega) (by omega)]; split <;> omega
          rw [hm]
          split
          rotate_left
          · rename_i h
            have h' : decide (0 ≤ ((i - 1 : Nat) : Int)) = false := h
            simp at h' <;> omega
          conv => whnf
          split
          rotate_left
          · rename_i h
            have h' : decide (((i - 1 : Nat) : Int) < nd) = false := h
            simp at h' <;> omega
          conv => whnf
          refine .mk _ _ _ (leL_refl _) (c_when _ _ _) rfl ?_
          conv => whnf
          refine .mk _ _ _ (leL_refl _) (c_f2 _ _ _ _ rfl rfl) rfl ?_
          conv => whnf
          split
          · rename_i h
            have h' : (liftS lf i != 0) = true := h
            conv => whnf
            refine ⟨?_, rfl⟩
            show IV.int .i64 (liftS lf i) = _
            rw [hf, hstep, orE_pos h', orE_pos h']
          · rename_i h
            have h' : (liftS lf i != 0) = false := h
            conv => whnf
            refine ⟨⟨i + 1, hlt, by rw [hf, hstep, orE_neg h']⟩, ⟨⟨leV_int ?_, leV_refl _, leV_refl _, leV_refl _, trivial⟩, ⟨leL_refl _, trivial⟩, rfl, rfl⟩, ?_⟩
            · show w64 ((i : Int) + 1) = ((i + 1 : Nat) : Int)
              rw [w64, wrap_in] <;> omega
            · show nd - (i + 1) < nd - i
              omega
        · rename_i h2; rw [hb] at h2; cases h2
      · rename_i hb
        have : i = nd := by simp at hb; omega
        subst this
        rw [Nat.sub_self] at hf
        have hf : firstS (liftS lf) i 0 = 0 := hf
        conv => whnf
        refine .mk _ _ _ _ _ (leL_refl _) (c_mapped _ _ (by omega) df (fun j => withinS (df j) 0 1000) _ (fun up j _ => c_CheckPolar1 up (df j))) rfl ?_
        conv => whnf
        refine .mk _ _ _ _ _ (leL_refl _) (c_first _ _ (by omega) fun j => withinS (df j) 0 1000) rfl ?_
        conv => whnf
        refine ⟨?_, rfl⟩
        rw [hf]; rfl

theorem c_RingCheck' (up : List Ces) (r c t tip : Int) : Cs gl n_rotor_Ring_check up [.agg [.int .i64 r, .int .i64 c, .int .i64 t, .int .i64 tip]] (.int .i64 (ringS r c t tip)) up := by
  have := c_RingCheck (gl := gl) up r c t tip
  have e : firstS ([withinS r 1 200, withinS c 1 100, withinS t (-64) 64, withinS tip 0 256].getD · 0) 4 0 = ringS r c t tip := by rw [← orE_right (ringS r c t tip), ringS, orE_assoc, orE_assoc, orE_assoc]; rfl
  rw [← e]; exact this

theorem c_CheckFlow' (up : List Ces) (w s p : Int) : Cs gl n_rotor_CheckFlow up [flowI w s p] (.int .i64 (flowS w s p)) up := by
  have := c_CheckFlow (gl := gl) up w s p
  have e : (bif withinS w 1 50 != 0 then withinS w 1 50 else bif withinS s 1 1000 != 0 then withinS s 1 1000 else bif withinS p (-64) 64 != 0 then withinS p (-64) 64 else 0) = flowS w s p := by
    show orE _ (orE _ (orE _ 0)) = _
    rw [orE_right]; rfl
  rw [← e]; exact this

theorem bladeS_eq (nl nd nr : Nat) (lf df r1 r2 r3 r4 : Nat → Int) : bladeS nl lf nd df nr r1 r2 r3 r4 =
    orE (orE (polarS nl lf nd df) (orE (bif (nr : Int) == 0 then 12 else 0) (bif decide ((nr : Int) > 16) then 5 else 0))) (firstS (ringAt r1 r2 r3 r4) nr 0) := by
  unfold bladeS
  simp only [orE_assoc]

theorem c_CheckBlade (up : List Ces) (nl nd nr : Nat) (lf df r1 r2 r3 r4 : Nat → Int) : Cs gl n_rotor_CheckBlade up [bladeI nl nd nr lf df r1 r2 r3 r4] (.int .i64 (bladeS nl lf nd df nr r1 r2 r3 r4)) up := by
  refine mk h_rotor_CheckBlade rfl rfl ?_
  rw [bladeS_eq]
  conv => whnf
  refine .mk 15 (by kernel_rfl) ?_
  conv => whnf
  refine .mk _ _ _ (leL_refl _) (c_CheckPolar _ _ _ _ _) rfl ?_
  conv => whnf
  refine .mk _ _ _ (leL_refl _) (c_when _ _ _) rfl ?_
  conv => whnf
  refine .mk _ _ _ (leL_refl _) (c_when _ _ _) rfl ?_
  conv => whnf
  refine .mk _ _ _ (leL_refl _) (c_f3 _ _ _ _ _ rfl rfl rfl) rfl ?_
  conv => whnf
  split
  · rename_i h
    conv => whnf
    refine ⟨?_, rfl⟩
    rw [orE_pos h]
  · rename_i h
    rw [orE_neg h]
    have h0 : orE (polarS nl lf nd df) (orE (bif (nr : Int) == 0 then 12 else 0) (bif decide ((nr : Int) > 16) then 5 else 0)) = 0 := by simpa using h
    simp only [orE_zero] at h0
    rw [bif_zero (by decide), bif_zero (by decide)] at h0
    simp at h0
    clear h
    obtain ⟨_, h2, h3⟩ := h0
    conv => whnf
    refine .mk (α := {i : Nat // i ≤ nr ∧ firstS (ringAt r1 r2 r3 r4) nr 0 = firstS (ringAt r1 r2 r3 r4) (nr - i) i}) (fun i => ⟨[(29, .int .i64 i.1), (28, .int .i64 nr), (27, .lst none 4 nr fun i => [.int .i64 (r1 i), .int .i64 (r2 i), .int .i64 (r3 i), .int .i64 (r4 i)]), (1, .ptr 0 1 0)], [(1, [.lst none 1 nl fun i => [.int .i64 (lf i)], .lst none 1 nd fun i => [.int .i64 (df i)], .lst none 4 nr fun i => [.int .i64 (r1 i), .int .i64 (r2 i), .int .i64 (r3 i), .int .i64 (r4 i)]])], up⟩) (fun i => nr - i.1) ⟨0, Nat.zero_le _, rfl⟩ ⟨?_, ?_, rfl, rfl⟩ ?_
    · exact ⟨leV_refl _, leV_refl _, leV_refl _, leV_refl _, trivial⟩
    · exact ⟨leL_refl _, trivial⟩
    · rintro ⟨i, hi, hf⟩
      conv => whnf
      split
      · rename_i hb
        have hlt : i < nr := by simpa using hb
        have hstep : firstS (ringAt r1 r2 r3 r4) (nr - i) i = orE (ringAt r1 r2 r3 r4 i) (firstS (ringAt r1 r2 r3 r4) (nr - (i + 1)) (i + 1)) := by
          rw [show nr - i = (nr - (i + 1)) + 1 by omega]; rfl
        conv => whnf
        split
        · conv => whnf
          refine .mk 15 (by kernel_rfl) ?_
          conv => whnf
          have hm : (if w64 ((i : Int) - 1) > 0 then w64 ((i : Int) - 1) else 0) = ((i - 1 : Nat) : Int) := by
            rw [w64, wrap_in (by omega) (by omega)]; split <;> omega
          split
          · rename_i h0
            conv => whnf
            rw [hm]
            split
            rotate_left
            · rename_i h
              have h' : decide (0 ≤ ((i - 1 : Nat) : Int)) = false := h
              simp at h' <;> omega
            conv => whnf
            split
            rotate_left
            · rename_i h
              have h' : decide (((i - 1 : Nat) : Int) < nr) = false := h
              simp at h' <;> omega
            conv => whnf
            have hq : orE (ringS (r1 i) (r2 i) (r3 i) (r4 i)) (bif decide (r1 i ≤ r1 (i - 1)) then 11 else 0) = ringAt r1 r2 r3 r4 i := by
              unfold ringAt
              rw [show decide (0 < i) = true from decide_eq_true (by simpa using h0), Bool.true_and]
            refine .mk _ _ _ _ _ (leL_refl _) (c_RingCheck' _ _ _ _ _) rfl ?_
            conv => whnf
            refine .mk _ _ _ _ _ (leL_refl _) (c_when _ _ _) rfl ?_
            conv => whnf
            refine .mk _ _ _ _ _ (leL_refl _) (c_f2 _ _ _ _ rfl rfl) rfl ?_
            conv => whnf
            split
            · rename_i h
              have h' : (orE (ringS (r1 i) (r2 i) (r3 i) (r4 i)) (bif decide (r1 i ≤ r1 (i - 1)) then 11 else 0) != 0) = true := h
              rw [hq] at h'
              conv => whnf
              refine ⟨?_, rfl⟩
              show IV.int .i64 (orE (ringS (r1 i) (r2 i) (r3 i) (r4 i)) (bif decide (r1 i ≤ r1 (i - 1)) then 11 else 0)) = _
              rw [hf, hstep, hq, orE_pos h']
            · rename_i h
              have h' : (orE (ringS (r1 i) (r2 i) (r3 i) (r4 i)) (bif decide (r1 i ≤ r1 (i - 1)) then 11 else 0) != 0) = false := h
              rw [hq] at h'
              conv => whnf
              refine ⟨⟨i + 1, hlt, by rw [hf, hstep, orE_neg h']⟩, ⟨⟨leV_int ?_, leV_refl _, leV_refl _, leV_refl _, trivial⟩, ⟨leL_refl _, trivial⟩, rfl, rfl⟩, ?_⟩
              · show w64 ((i : Int) + 1) = ((i + 1 : Nat) : Int)
                rw [w64, wrap_in] <;> omega
              · show nr - (i + 1) < nr - i
                omega
          · rename_i h0
            conv => whnf
            have hq : orE (ringS (r1 i) (r2 i) (r3 i) (r4 i)) (bif false then 11 else 0) = ringAt r1 r2 r3 r4 i := by
              unfold ringAt
              rw [show decide (0 < i) = false from decide_eq_false (by simpa using h0), Bool.false_and]
            refine .mk _ _ _ _ _ (leL_refl _) (c_RingCheck' _ _ _ _ _) rfl ?_
            conv => whnf
            refine .mk _ _ _ _ _ (leL_refl _) (c_when _ _ _) rfl ?_
            conv => whnf
            refine .mk _ _ _ _ _ (leL_refl _) (c_f2 _ _ _ _ rfl rfl) rfl ?_
            conv => whnf
            split
            · rename_i h
              have h' : (orE (ringS (r1 i) (r2 i) (r3 i) (r4 i)) (bif false then 11 else 0) != 0) = true := h
              rw [hq] at h'
              conv => whnf
              refine ⟨?_, rfl⟩
              show IV.int .i64 (orE (ringS (r1 i) (r2 i) (r3 i) (r4 i)) (bif false then 11 else 0)) = _
              rw [hf, hstep, hq, orE_pos h']
            · rename_i h
              have h' : (orE (ringS (r1 i) (r2 i) (r3 i) (r4 i)) (bif false then 11 else 0) != 0) = false := h
              rw [hq] at h'
              conv => whnf
              refine ⟨⟨i + 1, hlt, by rw [hf, hstep, orE_neg h']⟩, ⟨⟨leV_int ?_, leV_refl _, leV_refl _, leV_refl _, trivial⟩, ⟨leL_refl _, trivial⟩, rfl, rfl⟩, ?_⟩
              · show w64 ((i : Int) + 1) = ((i + 1 : Nat) : Int)
                rw [w64, wrap_in] <;> omega
              · show nr - (i + 1) < nr - i
                omega
        · rename_i h2; rw [hb] at h2; cases h2
      · rename_i hb
        have : i = nr := by simp at hb; omega
        subst this
        rw [Nat.sub_self] at hf
        have hf : firstS (ringAt r1 r2 r3 r4) i 0 = 0 := hf
        conv => whnf
        refine ⟨?_, rfl⟩
        rw [hf]
end Go.Proofs.YtllmejkmogepjaaDoor.Ix
