/-
  Kt1: the reference's table; ControlTables: the law.
-/
import Derived.Test.YtkdlegfakefjgaaDoorM8
namespace Go.Proofs.YtkdlegfakefjgaaDoor.Ix
open Go.Proofs
set_option maxRecDepth 100000
set_option linter.unusedVariables false
set_option linter.unusedSimpArgs false
variable {gl : Nat → IV}


set_option maxHeartbeats 16000000 in
theorem c_rTable (up : List Ces) (m : Mc) (hm : m.ok) :
    Cs gl n_nacelleref05_Table up [m.iv] (.lst (some 44) 2 (rowsOf m (numN m) (m.fea + 1).toNat).length fun i => ((rowsOf m (numN m) (m.fea + 1).toNat).getD i row0).cs) up := by
  have hf := hm.fea
  have hl := hm.lim
  refine mk h_nacelleref05_Table rfl rfl ?_
  generalize hF : (m.fea + 1).toNat = F
  let G : Nat → Nat → List IV := fun k i => ((rowsOf m (numN m) k).getD i row0).cs
  conv => whnf
  refine .mk (α := {k : Nat // k ≤ F}) (fun k => ⟨[(4, .int .i64 k.1), (3, .lst (some 44) 2 (rowsOf m (numN m) k.1).length (G k.1)), (1, .ptr 0 1 0)], [(1, m.cs)], up⟩) (fun k => F - k.1) ⟨0, Nat.zero_le _⟩ ⟨⟨leV_refl _, rfl, leV_refl _, trivial⟩, ⟨leL_refl _, trivial⟩, rfl, rfl⟩ ?_
  rintro ⟨k, hk⟩
  have hw : w64 ((k : Int) + 1) = ((k + 1 : Nat) : Int) := by rw [w64, wrap_in] <;> omega
  by_cases hlt : k < F
  rotate_left
  · have q : decide ((k : Int) ≤ m.fea) = false := decide_eq_false (by omega)
    have : k = F := by omega
    subst this
    conv => whnf
    split
    · rename_i h
      exact Bool.noConfusion ((q).symm.trans h)
    rename_i hN
    clear hN
    conv => whnf
    exact ⟨rfl, rfl⟩
  have q : decide ((k : Int) ≤ m.fea) = true := decide_eq_true (by omega)
  have hlen := rowsOf_len m (numN m) k
  have hfirst := first_at hm (a := (k : Int)) (by omega)
  generalize hr : firstS0 m (numN m) k = r at hfirst
  generalize hL : (m.lim + 1).toNat = L at hfirst
  obtain ⟨r1, r2, r3⟩ := hfirst
  let sp : Nat → Int := fun x => if x ≤ r then (x : Int) - 1 else (r : Int) - 1
  conv => whnf
  split
  rotate_left
  · rename_i h
    exact Bool.noConfusion ((q).symm.trans h)
  rename_i hN
  clear hN
  conv => whnf
  refine .mk (α := {x : Nat // x ≤ r + 1 ∧ (x = r + 1 → r < L)}) (fun x => ⟨[(6, .int .i64 x.1), (5, .ptr 0 5 0), (4, .int .i64 k), (3, .lst (some 44) 2 (rowsOf m (numN m) k).length (G k)), (1, .ptr 0 1 0)], [(5, [.int .i64 k, .int .i64 (sp x.1)]), (1, m.cs)], up⟩) (fun x => r + 1 - x.1) ⟨0, by omega, fun h => by omega⟩ ⟨⟨leV_refl _, leV_refl _, leV_refl _, leV_refl _, leV_refl _, trivial⟩, ⟨⟨leV_refl _, leV_int ?_, trivial⟩, leL_refl _, trivial⟩, rfl, rfl⟩ ?_
  · show (-1 : Int) = if 0 ≤ r then ((0 : Nat) : Int) - 1 else (r : Int) - 1
    rw [if_pos (Nat.zero_le _)]; rfl
  rintro ⟨x, hx, hx2⟩
  have hwx : w64 ((x : Int) + 1) = ((x + 1 : Nat) : Int) := by rw [w64, wrap_in] <;> omega
  have hwm : w64 ((x : Int) - 1) = (x : Int) - 1 := by rw [w64, wrap_in] <;> omega
  by_cases hxr : x ≤ r
  · have hspx : sp x = (x : Int) - 1 := if_pos hxr
    by_cases hxl : x < L
    · have q1 : decide ((x : Int) ≤ m.lim) = true := decide_eq_true (by omega)
      have q2 : (sp x == w64 ((x : Int) - 1)) = true := by rw [hspx, hwm]; exact beq_self_eq_true _
      have hS := fun up => c_rSafe (gl := gl) up m (atS k x) hm (atS_rng hm (by omega) (by omega)) (by show (x : Int) ≤ 10000; omega)
      by_cases hxr2 : x < r
      · have hs : (atS k x).safeN m = true := by
          have := r2 x hxr2
          unfold unsafeN at this
          simpa using this
        rw [hs] at hS
        conv => whnf
        split
        rotate_left
        · rename_i h
          exact Bool.noConfusion ((q1).symm.trans h)
        rename_i hN
        clear hN
        conv => whnf
        split
        rotate_left
        · rename_i h
          exact Bool.noConfusion ((q2).symm.trans h)
        rename_i hN
        clear hN
        conv => whnf
        repeat first
          | (refine DRAW.seek ?_; repeat (first | refine TRYD.take ?_ | refine TRYD.next ?_); conv => whnf)
          | (refine HOLD.mk (by first | exact trivial | exact ⟨⟨rfl, rfl⟩, trivial⟩ | exact ⟨⟨rfl, rfl⟩, ⟨rfl, rfl⟩, trivial⟩) ?_; (conv => whnf))
          | (refine CALL0.by (hS ..) rfl ?_; conv => whnf)
          | (refine CALLQ.mk _ _ _ (leL_refl _) (hS ..) rfl ?_; conv => whnf)
        refine ⟨⟨x + 1, by omega, fun h => by omega⟩, ⟨⟨leV_int hwx, leV_refl _, leV_refl _, leV_refl _, leV_refl _, trivial⟩, ⟨⟨leV_refl _, leV_int ?_, trivial⟩, leL_refl _, trivial⟩, rfl, rfl⟩, (by show r + 1 - (x + 1) < r + 1 - x; omega)⟩
        show (x : Int) = if x + 1 ≤ r then ((x + 1 : Nat) : Int) - 1 else (r : Int) - 1
        rw [if_pos (by omega)]; omega
      · have hxe : x = r := by omega
        have hs : (atS k x).safeN m = false := by
          have := r3 (by omega)
          rw [← hxe] at this
          unfold unsafeN at this
          simpa using this
        rw [hs] at hS
        conv => whnf
        split
        rotate_left
        · rename_i h
          exact Bool.noConfusion ((q1).symm.trans h)
        rename_i hN
        clear hN
        conv => whnf
        split
        rotate_left
        · rename_i h
          exact Bool.noConfusion ((q2).symm.trans h)
        rename_i hN
        clear hN
        conv => whnf
        repeat first
          | (refine DRAW.seek ?_; repeat (first | refine TRYD.take ?_ | refine TRYD.next ?_); conv => whnf)
          | (refine HOLD.mk (by first | exact trivial | exact ⟨⟨rfl, rfl⟩, trivial⟩ | exact ⟨⟨rfl, rfl⟩, ⟨rfl, rfl⟩, trivial⟩) ?_; (conv => whnf))
          | (refine CALL0.by (hS ..) rfl ?_; conv => whnf)
          | (refine CALLQ.mk _ _ _ (leL_refl _) (hS ..) rfl ?_; conv => whnf)
        refine ⟨⟨x + 1, by omega, fun h => by omega⟩, ⟨⟨leV_int hwx, leV_refl _, leV_refl _, leV_refl _, leV_refl _, trivial⟩, ⟨⟨leV_refl _, leV_int ?_, trivial⟩, leL_refl _, trivial⟩, rfl, rfl⟩, (by show r + 1 - (x + 1) < r + 1 - x; omega)⟩
        show sp x = if x + 1 ≤ r then ((x + 1 : Nat) : Int) - 1 else (r : Int) - 1
        rw [if_neg (by omega), hspx, hxe]
    · have hxe : x = r := by omega
      have q1 : decide ((x : Int) ≤ m.lim) = false := decide_eq_false (by omega)
      have hsp : sp x = (r : Int) - 1 := by rw [hspx, hxe]
      cases qz : decide (0 < r) with
      | true =>
        have hz := of_decide_eq_true qz
        have q5 : decide (sp x ≥ 0) = true := by rw [hsp]; exact decide_eq_true (by omega)
        have e1 : rowsOf m (numN m) (k + 1) = rowsOf m (numN m) k ++ [⟨k, (r : Int) - 1⟩] := by
          conv => lhs; unfold rowsOf
          rw [hr, qz]; rfl
        conv => whnf
        split
        · rename_i h
          exact Bool.noConfusion ((q1).symm.trans h)
        rename_i hN
        clear hN
        conv => whnf
        split
        rotate_left
        · rename_i h
          exact Bool.noConfusion ((q5).symm.trans h)
        rename_i hN
        clear hN
        conv => whnf
        split
        rotate_left
        · rename_i h
          have h' : decide ((rowsOf m (numN m) k).length + 1 ≤ 1073741824) = false := h
          simp at h' <;> omega
        conv => whnf
        refine ⟨⟨k + 1, hlt⟩, ⟨⟨leV_int hw, ⟨.inr rfl, rfl, ?_, fun j hj => ?_⟩, leV_refl _, trivial⟩, ⟨leL_refl _, trivial⟩, rfl, rfl⟩, (by show F - (k + 1) < F - k; omega)⟩
        · show (rowsOf m (numN m) k).length + 1 = (rowsOf m (numN m) (k + 1)).length
          rw [e1]; simp
        · show (if j < (rowsOf m (numN m) k).length then G k j else litF 2 [IV.int .i64 k, IV.int .i64 (sp x)] (j - (rowsOf m (numN m) k).length)) = ((rowsOf m (numN m) (k + 1)).getD j row0).cs
          rw [e1]
          split
          · rename_i hj2
            show ((rowsOf m (numN m) k).getD j row0).cs = _
            rw [List.getD_eq_getElem?_getD, List.getD_eq_getElem?_getD, List.getElem?_append_left hj2]
          · have hj' : j < (rowsOf m (numN m) k).length + 1 := hj
            have : j = (rowsOf m (numN m) k).length := by omega
            subst this
            rw [Nat.sub_self, List.getD_eq_getElem?_getD, List.getElem?_append_right (Nat.le_refl _), Nat.sub_self, hsp]
            rfl
      | false =>
        have hz := of_decide_eq_false qz
        have q5 : decide (sp x ≥ 0) = false := by rw [hsp]; exact decide_eq_false (by omega)
        have e1 : rowsOf m (numN m) (k + 1) = rowsOf m (numN m) k := by
          conv => lhs; unfold rowsOf
          rw [hr, qz]; rfl
        conv => whnf
        split
        · rename_i h
          exact Bool.noConfusion ((q1).symm.trans h)
        rename_i hN
        clear hN
        conv => whnf
        split
        · rename_i h
          exact Bool.noConfusion ((q5).symm.trans h)
        rename_i hN
        clear hN
        conv => whnf
        refine ⟨⟨k + 1, hlt⟩, ⟨⟨leV_int hw, ⟨.inr rfl, rfl, ?_, fun j hj => ?_⟩, leV_refl _, trivial⟩, ⟨leL_refl _, trivial⟩, rfl, rfl⟩, (by show F - (k + 1) < F - k; omega)⟩
        · show (rowsOf m (numN m) k).length = (rowsOf m (numN m) (k + 1)).length
          rw [e1]
        · show ((rowsOf m (numN m) k).getD j row0).cs = ((rowsOf m (numN m) (k + 1)).getD j row0).cs
          rw [e1]
  · have hxe : x = r + 1 := by omega
    have hsp : sp x = (r : Int) - 1 := if_neg hxr
    by_cases hxl : x < L
    · have q1 : decide ((x : Int) ≤ m.lim) = true := decide_eq_true (by omega)
      have q2 : (sp x == w64 ((x : Int) - 1)) = false := by
        rw [hsp, hwm, hxe]
        have : ¬ ((r : Int) - 1 = ((r + 1 : Nat) : Int) - 1) := by omega
        simpa using this
      cases qz : decide (0 < r) with
      | true =>
        have hz := of_decide_eq_true qz
        have q5 : decide (sp x ≥ 0) = true := by rw [hsp]; exact decide_eq_true (by omega)
        have e1 : rowsOf m (numN m) (k + 1) = rowsOf m (numN m) k ++ [⟨k, (r : Int) - 1⟩] := by
          conv => lhs; unfold rowsOf
          rw [hr, qz]; rfl
        conv => whnf
        split
        rotate_left
        · rename_i h
          exact Bool.noConfusion ((q1).symm.trans h)
        rename_i hN
        clear hN
        conv => whnf
        split
        · rename_i h
          exact Bool.noConfusion ((q2).symm.trans h)
        rename_i hN
        clear hN
        conv => whnf
        split
        rotate_left
        · rename_i h
          exact Bool.noConfusion ((q5).symm.trans h)
        rename_i hN
        clear hN
        conv => whnf
        split
        rotate_left
        · rename_i h
          have h' : decide ((rowsOf m (numN m) k).length + 1 ≤ 1073741824) = false := h
          simp at h' <;> omega
        conv => whnf
        refine ⟨⟨k + 1, hlt⟩, ⟨⟨leV_int hw, ⟨.inr rfl, rfl, ?_, fun j hj => ?_⟩, leV_refl _, trivial⟩, ⟨leL_refl _, trivial⟩, rfl, rfl⟩, (by show F - (k + 1) < F - k; omega)⟩
        · show (rowsOf m (numN m) k).length + 1 = (rowsOf m (numN m) (k + 1)).length
          rw [e1]; simp
        · show (if j < (rowsOf m (numN m) k).length then G k j else litF 2 [IV.int .i64 k, IV.int .i64 (sp x)] (j - (rowsOf m (numN m) k).length)) = ((rowsOf m (numN m) (k + 1)).getD j row0).cs
          rw [e1]
          split
          · rename_i hj2
            show ((rowsOf m (numN m) k).getD j row0).cs = _
            rw [List.getD_eq_getElem?_getD, List.getD_eq_getElem?_getD, List.getElem?_append_left hj2]
          · have hj' : j < (rowsOf m (numN m) k).length + 1 := hj
            have : j = (rowsOf m (numN m) k).length := by omega
            subst this
            rw [Nat.sub_self, List.getD_eq_getElem?_getD, List.getElem?_append_right (Nat.le_refl _), Nat.sub_self, hsp]
            rfl
      | false =>
        have hz := of_decide_eq_false qz
        have q5 : decide (sp x ≥ 0) = false := by rw [hsp]; exact decide_eq_false (by omega)
        have e1 : rowsOf m (numN m) (k + 1) = rowsOf m (numN m) k := by
          conv => lhs; unfold rowsOf
          rw [hr, qz]; rfl
        conv => whnf
        split
        rotate_left
        · rename_i h
          exact Bool.noConfusion ((q1).symm.trans h)
        rename_i hN
        clear hN
        conv => whnf
        split
        · rename_i h
          exact Bool.noConfusion ((q2).symm.trans h)
        rename_i hN
        clear hN
        conv => whnf
        split
        · rename_i h
          exact Bool.noConfusion ((q5).symm.trans h)
        rename_i hN
        clear hN
        conv => whnf
        refine ⟨⟨k + 1, hlt⟩, ⟨⟨leV_int hw, ⟨.inr rfl, rfl, ?_, fun j hj => ?_⟩, leV_refl _, trivial⟩, ⟨leL_refl _, trivial⟩, rfl, rfl⟩, (by show F - (k + 1) < F - k; omega)⟩
        · show (rowsOf m (numN m) k).length = (rowsOf m (numN m) (k + 1)).length
          rw [e1]
        · show ((rowsOf m (numN m) k).getD j row0).cs = ((rowsOf m (numN m) (k + 1)).getD j row0).cs
          rw [e1]
    · have q1 : decide ((x : Int) ≤ m.lim) = false := decide_eq_false (by omega)
      cases qz : decide (0 < r) with
      | true =>
        have hz := of_decide_eq_true qz
        have q5 : decide (sp x ≥ 0) = true := by rw [hsp]; exact decide_eq_true (by omega)
        have e1 : rowsOf m (numN m) (k + 1) = rowsOf m (numN m) k ++ [⟨k, (r : Int) - 1⟩] := by
          conv => lhs; unfold rowsOf
          rw [hr, qz]; rfl
        conv => whnf
        split
        · rename_i h
          exact Bool.noConfusion ((q1).symm.trans h)
        rename_i hN
        clear hN
        conv => whnf
        split
        rotate_left
        · rename_i h
          exact Bool.noConfusion ((q5).symm.trans h)
        rename_i hN
        clear hN
        conv => whnf
        split
        rotate_left
        · rename_i h
          have h' : decide ((rowsOf m (numN m) k).length + 1 ≤ 1073741824) = false := h
          simp at h' <;> omega
        conv => whnf
        refine ⟨⟨k + 1, hlt⟩, ⟨⟨leV_int hw, ⟨.inr rfl, rfl, ?_, fun j hj => ?_⟩, leV_refl _, trivial⟩, ⟨leL_refl _, trivial⟩, rfl, rfl⟩, (by show F - (k + 1) < F - k; omega)⟩
        · show (rowsOf m (numN m) k).length + 1 = (rowsOf m (numN m) (k + 1)).length
          rw [e1]; simp
        · show (if j < (rowsOf m (numN m) k).length then G k j else litF 2 [IV.int .i64 k, IV.int .i64 (sp x)] (j - (rowsOf m (numN m) k).length)) = ((rowsOf m (numN m) (k + 1)).getD j row0).cs
          rw [e1]
          split
          · rename_i hj2
            show ((rowsOf m (numN m) k).getD j row0).cs = _
            rw [List.getD_eq_getElem?_getD, List.getD_eq_getElem?_getD, List.getElem?_append_left hj2]
          · have hj' : j < (rowsOf m (numN m) k).length + 1 := hj
            have : j = (rowsOf m (numN m) k).length := by omega
            subst this
            rw [Nat.sub_self, List.getD_eq_getElem?_getD, List.getElem?_append_right (Nat.le_refl _), Nat.sub_self, hsp]
            rfl
      | false =>
        have hz := of_decide_eq_false qz
        have q5 : decide (sp x ≥ 0) = false := by rw [hsp]; exact decide_eq_false (by omega)
        have e1 : rowsOf m (numN m) (k + 1) = rowsOf m (numN m) k := by
          conv => lhs; unfold rowsOf
          rw [hr, qz]; rfl
        conv => whnf
        split
        · rename_i h
          exact Bool.noConfusion ((q1).symm.trans h)
        rename_i hN
        clear hN
        conv => whnf
        split
        · rename_i h
          exact Bool.noConfusion ((q5).symm.trans h)
        rename_i hN
        clear hN
        conv => whnf
        refine ⟨⟨k + 1, hlt⟩, ⟨⟨leV_int hw, ⟨.inr rfl, rfl, ?_, fun j hj => ?_⟩, leV_refl _, trivial⟩, ⟨leL_refl _, trivial⟩, rfl, rfl⟩, (by show F - (k + 1) < F - k; omega)⟩
        · show (rowsOf m (numN m) k).length = (rowsOf m (numN m) (k + 1)).length
          rw [e1]
        · show ((rowsOf m (numN m) k).getD j row0).cs = ((rowsOf m (numN m) (k + 1)).getD j row0).cs
          rw [e1]

def eqRw (a b : Rw) : Bool := a.pitch == b.pitch && (a.speed == b.speed && true)
theorem eqRw_refl (a : Rw) : eqRw a a = true := by unfold eqRw; simp
def sameRw (n k : Nat) (f g : Nat → Rw) : Bool := bif (n : Int) != k then false else allB (fun i => eqRw (f i) (g i)) n 0

theorem c_rSameRows (up : List Ces) (n k : Nat) (hn : n ≤ 10000000) (f g : Nat → Rw) :
    Cs gl n_nacelleref05_SameRows up [.lst none 2 n fun i => (f i).cs, .lst none 2 k fun i => (g i).cs] (.bool (sameRw n k f g)) up := by
  refine mk h_nacelleref05_SameRows rfl rfl ?_
  unfold sameRw
  cases q0 : ((n : Int) != k) with
  | true =>
    conv => whnf
    split
    rotate_left
    · rename_i h
      exact Bool.noConfusion ((q0).symm.trans h)
    rename_i hN
    clear hN
    conv => whnf
    exact ⟨rfl, rfl⟩
  | false =>
    have e : n = k := by have : (n : Int) = k := by simpa using q0
                         omega
    subst e
    conv => whnf
    split
    · rename_i h
      exact Bool.noConfusion ((q0).symm.trans h)
    rename_i hN
    clear hN
    conv => whnf
    refine .mk (α := {i : Nat // i ≤ n ∧ allB (fun i => eqRw (f i) (g i)) n 0 = allB (fun i => eqRw (f i) (g i)) (n - i) i}) (fun i => ⟨[(5, .int .i64 i.1), (1, .lst none 2 n fun i => (g i).cs), (0, .lst none 2 n fun i => (f i).cs)], [], up⟩) (fun i => n - i.1) ⟨0, Nat.zero_le _, rfl⟩ ⟨?_, ?_, rfl, rfl⟩ ?_
    · exact ⟨leV_refl _, leV_refl _, leV_refl _, trivial⟩
    · exact trivial
    rintro ⟨i, hi, he⟩
    have hw : w64 ((i : Int) + 1) = ((i + 1 : Nat) : Int) := by rw [w64, wrap_in] <;> omega
    by_cases hlt : i < n
    · have q : decide ((i : Int) < (n : Int)) = true := decide_eq_true (by omega)
      rw [allB_step hlt] at he
      cases qe : eqRw (f i) (g i) with
      | false =>
        rw [qe, Bool.false_and] at he
        have ne : (!eqRw (f i) (g i)) = true := by rw [qe]; rfl
        conv => whnf
        split
        rotate_left
        · rename_i h
          exact Bool.noConfusion ((q).symm.trans h)
        rename_i hN
        clear hN
        conv => whnf
        refine DRAW.seek ?_
        repeat (first | refine TRYD.take ?_ | refine TRYD.next ?_)
        conv => whnf
        split
        rotate_left
        · rename_i h
          exact Bool.noConfusion ((q).symm.trans h)
        rename_i hN
        clear hN
        conv => whnf
        split
        rotate_left
        · rename_i h
          exact Bool.noConfusion ((q).symm.trans h)
        rename_i hN
        clear hN
        conv => whnf
        split
        rotate_left
        · rename_i h
          exact Bool.noConfusion ((ne).symm.trans h)
        rename_i hN
        clear hN
        conv => whnf
        exact ⟨congrArg IV.bool he.symm, rfl⟩
      | true =>
        rw [qe, Bool.true_and] at he
        have ne : (!eqRw (f i) (g i)) = false := by rw [qe]; rfl
        conv => whnf
        split
        rotate_left
        · rename_i h
          exact Bool.noConfusion ((q).symm.trans h)
        rename_i hN
        clear hN
        conv => whnf
        refine DRAW.seek ?_
        repeat (first | refine TRYD.take ?_ | refine TRYD.next ?_)
        conv => whnf
        split
        rotate_left
        · rename_i h
          exact Bool.noConfusion ((q).symm.trans h)
        rename_i hN
        clear hN
        conv => whnf
        split
        rotate_left
        · rename_i h
          exact Bool.noConfusion ((q).symm.trans h)
        rename_i hN
        clear hN
        conv => whnf
        split
        · rename_i h
          exact Bool.noConfusion ((ne).symm.trans h)
        rename_i hN
        clear hN
        conv => whnf
        exact ⟨⟨i + 1, hlt, he⟩, ⟨⟨leV_int hw, leV_refl _, leV_refl _, trivial⟩, trivial, rfl, rfl⟩, (by show n - (i + 1) < n - i; omega)⟩
    · have q : decide ((i : Int) < (n : Int)) = false := decide_eq_false (by omega)
      have : i = n := by omega
      subst this
      rw [Nat.sub_self] at he
      conv => whnf
      split
      · rename_i h
        exact Bool.noConfusion ((q).symm.trans h)
      rename_i hN
      clear hN
      conv => whnf
      exact ⟨congrArg IV.bool he.symm, rfl⟩

theorem sameRw_refl (n : Nat) (f : Nat → Rw) : sameRw n n f f = true := by
  unfold sameRw
  rw [show ((n : Int) != n) = false by simp, cond_false]
  have : ∀ n i, allB (fun i => eqRw (f i) (f i)) n i = true := by
    intro n
    induction n with
    | zero => intro i; rfl
    | succ n ih => intro i; unfold allB; rw [ih, eqRw_refl]; rfl
  exact this n 0
end Go.Proofs.YtkdlegfakefjgaaDoor.Ix

/-
  Ks2: ControlProofs: the law.
-/
namespace Go.Proofs.YtkdlegfakefjgaaDoor.Ix
open Go.Proofs
set_option maxRecDepth 100000
set_option linter.unusedVariables false
set_option linter.unusedSimpArgs false
variable {gl : Nat → IV}

/-- What the reference says of 'n' states of a stop. -/
noncomputable def rcsErr (s : Sta) (m : Mc) (stuck : Int) (n : Nat) (f : Nat → Sta) : Int :=
  bif decide ((n : Int) > 4096) then 5 else bif decide (s.pk m stuck > m.lim) then 22 else bif !sameSt n (1 + s.num m stuck) f (s.stopS m stuck) then 22 else 0

theorem cs_err (s : Sta) (m : Mc) (stuck : Int) (n : Nat) (f : Nat → Sta) : csErr s m stuck n f = orE (s.err0 m stuck) (rcsErr s m stuck n f) := by
  have e : csErr0 s m stuck n = orE (s.err0 m stuck) (bif decide ((n : Int) > 4096) then 5 else 0) := by
    unfold csErr0 Sta.err0
    simp only [orL, orE_right, orE_assoc]
  unfold csErr
  rw [e]
  by_cases h0 : s.err0 m stuck = 0
  · rw [h0, show ∀ x, orE 0 x = x from fun x => orE_no rfl, show ∀ x, orE 0 x = x from fun x => orE_no rfl]
    unfold rcsErr Sta.pk sameSt
    cases decide ((n : Int) > 4096) with
    | true => rfl
    | false => rfl
  · have q : (s.err0 m stuck != 0) = true := by simpa using h0
    rw [orE_ne q, orE_ne q, q]
    rfl

/-- What is read behind each call. -/
def lvProofs : List (Nat × List Nat) := [(10, [3, 4, 5, 6, 7, 8, 10, 11]), (30, [3, 4, 5, 6, 7, 8, 30]), (32, [3, 4, 5, 6, 7, 8, 32]), (34, [3, 4, 5, 6, 7, 8, 32, 34]), (39, [3, 4, 5, 6, 7, 8, 32, 34, 36, 39]), (40, [3, 4, 5, 6, 7, 8, 40]), (43, [3, 4, 5, 6, 7, 8, 43]), (46, [3, 4, 5, 6, 7, 8, 43, 46]), (48, [3, 4, 5, 6, 7, 8, 48]), (57, [6, 7, 8, 57]), (62, [6, 61, 62])]
end Go.Proofs.YtkdlegfakefjgaaDoor.Ix

/-
  Kt3: ControlMonotone: the law.
-/
namespace Go.Proofs.YtkdlegfakefjgaaDoor.Ix
open Go.Proofs
set_option maxRecDepth 100000
set_option linter.unusedVariables false
set_option linter.unusedSimpArgs false
variable {gl : Nat → IV}

theorem mono_no (up : List Ces) (hk : gl g_control_kinds = kindsI) (hg : gl g_internal_strconv_uint64pow10 = powI) (m : Mc) (s : Sta) (x y : Int) (h : m.smallB = false ∨ decide ((s.mode.size : Int) > 40) = true ∨ (s.err m != 0) = true ∨ eqS s.mode sIdle = true) :
    Cs gl n_nacellelaw05_ControlMonotone up [m.iv, s.iv, .agg [.int .u8 x, .int .u8 y]] (.bool true) up := by
  have hS := fun up => c_rSmall (gl := gl) up m
  have hE := fun up => c_rState (gl := gl) up m s
  have hA := fun up => c_awake (gl := gl) up hk hg
  refine mk h_nacellelaw05_ControlMonotone rfl rfl ?_
  cases qs : m.smallB with
  | false =>
    rw [qs] at hS
    conv => whnf
    repeat first
      | (refine DRAW.seek ?_; repeat (first | refine TRYD.take ?_ | refine TRYD.next ?_); conv => whnf)
      | (refine HOLD.mk (by first | exact trivial | exact ⟨⟨rfl, rfl⟩, trivial⟩ | exact ⟨⟨rfl, rfl⟩, ⟨rfl, rfl⟩, trivial⟩) ?_; (conv => whnf))
      | (refine CALL0.by (hS ..) rfl ?_; conv => whnf)
      | (refine CALLQ.mk _ _ _ (leL_refl _) (hS ..) rfl ?_; conv => whnf)
      | (refine CALL0.by (hA ..) rfl ?_; conv => whnf)
      | (refine CALLQ.mk _ _ _ (leL_refl _) (hA ..) rfl ?_; conv => whnf)
    exact ⟨rfl, rfl⟩
  | true =>
    rw [qs] at hS
    replace h := h.resolve_left (by rw [qs]; nofun)
    cases ql : decide ((s.mode.size : Int) > 40) with
    | true =>
      conv => whnf
      repeat first
        | (refine DRAW.seek ?_; repeat (first | refine TRYD.take ?_ | refine TRYD.next ?_); conv => whnf)
        | (refine HOLD.mk (by first | exact trivial | exact ⟨⟨rfl, rfl⟩, trivial⟩ | exact ⟨⟨rfl, rfl⟩, ⟨rfl, rfl⟩, trivial⟩) ?_; (conv => whnf))
        | (refine CALL0.by (hS ..) rfl ?_; conv => whnf)
        | (refine CALLQ.mk _ _ _ (leL_refl _) (hS ..) rfl ?_; conv => whnf)
      split
      rotate_left
      · rename_i h
        exact Bool.noConfusion ((ql).symm.trans h)
      rename_i hN
      clear hN
      conv => whnf
      repeat first
        | (refine DRAW.seek ?_; repeat (first | refine TRYD.take ?_ | refine TRYD.next ?_); conv => whnf)
        | (refine HOLD.mk (by first | exact trivial | exact ⟨⟨rfl, rfl⟩, trivial⟩ | exact ⟨⟨rfl, rfl⟩, ⟨rfl, rfl⟩, trivial⟩) ?_; (conv => whnf))
        | (refine CALL0.by (hA ..) rfl ?_; conv => whnf)
        | (refine CALLQ.mk _ _ _ (leL_refl _) (hA ..) rfl ?_; conv => whnf)
      exact ⟨rfl, rfl⟩
    | false =>
      replace h := h.resolve_left (by rw [ql]; nofun)
      cases qe : (s.err m != 0) with
      | true =>
        conv => whnf
        repeat first
          | (refine DRAW.seek ?_; repeat (first | refine TRYD.take ?_ | refine TRYD.next ?_); conv => whnf)
          | (refine HOLD.mk (by first | exact trivial | exact ⟨⟨rfl, rfl⟩, trivial⟩ | exact ⟨⟨rfl, rfl⟩, ⟨rfl, rfl⟩, trivial⟩) ?_; (conv => whnf))
          | (refine CALL0.by (hS ..) rfl ?_; conv => whnf)
          | (refine CALLQ.mk _ _ _ (leL_refl _) (hS ..) rfl ?_; conv => whnf)
        split
        · rename_i h
          exact Bool.noConfusion ((ql).symm.trans h)
        rename_i hN
        clear hN
        conv => whnf
        repeat first
          | (refine DRAW.seek ?_; repeat (first | refine TRYD.take ?_ | refine TRYD.next ?_); conv => whnf)
          | (refine HOLD.mk (by first | exact trivial | exact ⟨⟨rfl, rfl⟩, trivial⟩ | exact ⟨⟨rfl, rfl⟩, ⟨rfl, rfl⟩, trivial⟩) ?_; (conv => whnf))
          | (refine CALL0.by (hE ..) rfl ?_; conv => whnf)
          | (refine CALLQ.mk _ _ _ (leL_refl _) (hE ..) rfl ?_; conv => whnf)
        split
        rotate_left
        · rename_i h
          exact Bool.noConfusion ((qe).symm.trans h)
        rename_i hN
        clear hN
        conv => whnf
        repeat first
          | (refine DRAW.seek ?_; repeat (first | refine TRYD.take ?_ | refine TRYD.next ?_); conv => whnf)
          | (refine HOLD.mk (by first | exact trivial | exact ⟨⟨rfl, rfl⟩, trivial⟩ | exact ⟨⟨rfl, rfl⟩, ⟨rfl, rfl⟩, trivial⟩) ?_; (conv => whnf))
          | (refine CALL0.by (hA ..) rfl ?_; conv => whnf)
          | (refine CALLQ.mk _ _ _ (leL_refl _) (hA ..) rfl ?_; conv => whnf)
        exact ⟨rfl, rfl⟩
      | false =>
        have qi := h.resolve_left (by rw [qe]; nofun)
        conv => whnf
        repeat first
          | (refine DRAW.seek ?_; repeat (first | refine TRYD.take ?_ | refine TRYD.next ?_); conv => whnf)
          | (refine HOLD.mk (by first | exact trivial | exact ⟨⟨rfl, rfl⟩, trivial⟩ | exact ⟨⟨rfl, rfl⟩, ⟨rfl, rfl⟩, trivial⟩) ?_; (conv => whnf))
          | (refine CALL0.by (hS ..) rfl ?_; conv => whnf)
          | (refine CALLQ.mk _ _ _ (leL_refl _) (hS ..) rfl ?_; conv => whnf)
        split
        · rename_i h
          exact Bool.noConfusion ((ql).symm.trans h)
        rename_i hN
        clear hN
        conv => whnf
        repeat first
          | (refine DRAW.seek ?_; repeat (first | refine TRYD.take ?_ | refine TRYD.next ?_); conv => whnf)
          | (refine HOLD.mk (by first | exact trivial | exact ⟨⟨rfl, rfl⟩, trivial⟩ | exact ⟨⟨rfl, rfl⟩, ⟨rfl, rfl⟩, trivial⟩) ?_; (conv => whnf))
          | (refine CALL0.by (hE ..) rfl ?_; conv => whnf)
          | (refine CALLQ.mk _ _ _ (leL_refl _) (hE ..) rfl ?_; conv => whnf)
        split
        · rename_i h
          exact Bool.noConfusion ((qe).symm.trans h)
        rename_i hN
        clear hN
        conv => whnf
        split
        rotate_left
        · rename_i h
          exact Bool.noConfusion ((qi).symm.trans h)
        rename_i hN
        clear hN
        conv => whnf
        repeat first
          | (refine DRAW.seek ?_; repeat (first | refine TRYD.take ?_ | refine TRYD.next ?_); conv => whnf)
          | (refine HOLD.mk (by first | exact trivial | exact ⟨⟨rfl, rfl⟩, trivial⟩ | exact ⟨⟨rfl, rfl⟩, ⟨rfl, rfl⟩, trivial⟩) ?_; (conv => whnf))
          | (refine CALL0.by (hA ..) rfl ?_; conv => whnf)
          | (refine CALLQ.mk _ _ _ (leL_refl _) (hA ..) rfl ?_; conv => whnf)
        exact ⟨rfl, rfl⟩

/-- A state that runs or stops, with other numbers. -/
theorem err_other {m : Mc} {s : Sta} (h : s.err m = 0) (hi : eqS s.mode sIdle = false) {t : Sta} (hmode : t.mode = s.mode) (htor : t.tor = s.tor) (hst : t.stuck = s.stuck) (h1 : 0 ≤ t.speed ∧ t.speed ≤ m.lim) (h2 : 0 ≤ t.p0 ∧ t.p0 ≤ m.fea) (h3 : 0 ≤ t.p1 ∧ t.p1 ≤ m.fea) (h4 : 0 ≤ t.p2 ∧ t.p2 ≤ m.fea) : t.err m = 0 := by
  obtain ⟨hm, hr, hl, hs, ht, hk, hf⟩ := Sta.err_rng h
  have hk' : t.known = true := by unfold Sta.known; rw [hmode]; exact hk
  have hf' : t.fits m = true := by
    unfold Sta.fits at hf ⊢
    simp only [eqS_beq] at hf ⊢
    rw [hmode, htor, hi] at *
    exact hf
  unfold Sta.err Sta.err1 Sta.err2
  rw [orE_zero, orL_zero, orL_zero]
  simp only [List.mem_cons, List.not_mem_nil, or_false, forall_eq_or_imp, forall_eq, withinS_zero]
  rw [hk', hf', htor, hst]
  exact ⟨⟨Mc.err_of hm, rfl, h1⟩, h2, h3, h4, ht, hs, rfl⟩

theorem err_machine {m c : Mc} {s : Sta} (h : s.err m = 0) (hc : c.ok) (hf : c.fea = m.fea) (hl : c.lim = m.lim) (ht : c.tor = m.tor) : s.err c = 0 := by
  unfold Sta.err Sta.err1 Sta.err2 at h ⊢
  rw [orE_zero, orL_zero, orL_zero] at h ⊢
  simp only [List.mem_cons, List.not_mem_nil, or_false, forall_eq_or_imp, forall_eq] at h ⊢
  obtain ⟨⟨h1, h2, h3⟩, h4, h5, h6, h7, h8, h9⟩ := h
  have e : s.fits c = s.fits m := by unfold Sta.fits; rw [hf]
  rw [hf, hl, ht, e]
  exact ⟨⟨Mc.err_of hc, h2, h3⟩, h4, h5, h6, h7, h8, h9⟩

/-- A stop of a small machine takes few steps. -/
theorem num_small {m : Mc} (hm : m.ok) (hf : m.fea ≤ 20) (hl : m.lim ≤ 100) {s : Sta} (hs : s.rng m) (hsp : s.speed ≤ m.lim) {k : Int} (h1 : -1 ≤ k) (h2 : k ≤ 2) : s.num m k ≤ 2120 := by
  have hmu : s.mu m k ≤ (2120 : Nat) := by
    obtain ⟨g1, g2, g3, g4⟩ := hs
    unfold Sta.mu Sta.far
    (repeat' split) <;> omega
  obtain ⟨n, h, hn⟩ := takes_exists hm h1 h2 2120 s hs hmu (by omega)
  rw [num_eq h (by omega)]
  exact hn

/-- What Peak says of a state without an error. -/
theorem c_PeakOk (up : List Ces) (s : Sta) (m : Mc) (k : Int) (he : s.err m = 0) (h1 : -1 ≤ k) (h2 : k ≤ 2) : Cs gl n_control_Peak up [m.iv, s.iv, .int .i64 k] (.tup [.int .i64 (s.pk m k), .int .i64 (s.num m k), .int .i64 0]) up := by
  obtain ⟨hm, hr, hl, _⟩ := Sta.err_rng he
  have hlim := hm.lim
  have h := c_Peak (gl := gl) up s m k (s.num m k) fun _ => takes_num hm hr (by omega) h1 h2
  have e0 : s.err0 m k = 0 := by
    unfold Sta.err0
    rw [he, withinS_zero.2 ⟨h1, h2⟩]; rfl
  unfold Sta.peakR at h
  rw [e0] at h
  exact h
theorem c_SafeOk (up : List Ces) (s : Sta) (m : Mc) (he : s.err m = 0) : Cs gl n_control_Safe up [m.iv, s.iv] (.tup [.bool (s.safeN m), .int .i64 0]) up := by
  obtain ⟨hm, hr, hl, _⟩ := Sta.err_rng he
  have hlim := hm.lim
  have h := c_Safe (gl := gl) up s m (fun k => s.num m k) fun _ k hk => takes_num hm hr (by omega) (by omega) (by omega)
  unfold Sta.SafeR at h
  rw [he] at h
  exact h
theorem c_StopOk (up : List Ces) (s : Sta) (m : Mc) (k : Int) (he : s.err m = 0) (h1 : -1 ≤ k) (h2 : k ≤ 2) : Cs gl n_control_Stop up [m.iv, s.iv, .int .i64 k] (bif decide (s.pk m k > m.lim) then .tup [.nilS, .int .i64 4] else .tup [.lst none 7 (1 + s.num m k) fun i => (s.stopS m k i).cs, .int .i64 0]) up := by
  obtain ⟨hm, hr, hl, _⟩ := Sta.err_rng he
  have hlim := hm.lim
  have h := c_Stop (gl := gl) up s m k (s.num m k) fun _ => takes_num hm hr (by omega) h1 h2
  have e0 : s.err0 m k = 0 := by
    unfold Sta.err0
    rw [he, withinS_zero.2 ⟨h1, h2⟩]; rfl
  unfold Sta.StopR at h
  rw [e0, stopF_eq] at h
  unfold Sta.pk
  cases q : decide (s.most m k (s.num m k) > m.lim) with
  | true => rw [q] at h; exact h
  | false => rw [q] at h; exact Comp.res h ⟨tagless _ _ _ _, leV_refl _, trivial⟩

/-- What is read behind each call. -/
def lvMono : List (Nat × List Nat) := [(36, [3, 4, 5, 6, 7, 8, 9, 10, 11, 36]), (47, [3, 4, 5, 6, 7, 8, 9, 10, 11, 44, 47]), (55, [3, 4, 5, 6, 7, 8, 9, 10, 11, 55]), (66, [3, 4, 6, 7, 8, 9, 10, 11, 66]), (68, [3, 4, 6, 7, 8, 9, 10, 11, 66, 68]), (70, [3, 4, 6, 7, 8, 9, 10, 11, 70]), (76, [3, 4, 6, 7, 8, 9, 10, 11, 76]), (78, [3, 4, 6, 7, 8, 9, 10, 11, 76, 78]), (79, [3, 4, 6, 7, 8, 9, 10, 11, 79]), (85, [3, 4, 6, 7, 8, 9, 10, 11, 12, 14, 85]), (87, [3, 4, 6, 7, 8, 9, 10, 11, 12, 14, 85, 87]), (88, [3, 4, 6, 7, 8, 9, 10, 11, 12, 14, 88]), (115, [3, 4, 6, 7, 8, 9, 10, 15, 112, 113, 115]), (139, [3, 4, 6, 7, 9, 10, 15, 17, 18, 19, 139]), (141, [3, 4, 6, 7, 9, 10, 15, 17, 18, 19, 139, 141]), (143, [3, 4, 6, 7, 9, 10, 15, 17, 18, 19, 143]), (149, [3, 4, 6, 7, 9, 10, 15, 17, 18, 19, 20, 22, 149]), (151, [3, 4, 6, 7, 9, 10, 15, 17, 18, 19, 20, 22, 149, 151]), (153, [3, 4, 6, 7, 9, 10, 15, 17, 18, 19, 20, 22, 153]), (160, [3, 4, 6, 7, 9, 10, 15, 17, 18, 20, 22, 23, 25, 158, 160]), (162, [3, 4, 6, 7, 9, 10, 15, 17, 18, 20, 22, 23, 25, 162]), (168, [3, 4, 6, 7, 9, 10, 15, 17, 18, 20, 22, 23, 25, 26, 28, 168]), (170, [3, 4, 6, 7, 9, 10, 15, 18, 20, 22, 23, 25, 26, 28, 168, 170]), (171, [3, 4, 6, 7, 9, 10, 15, 18, 20, 22, 23, 25, 26, 28, 171]), (176, [3, 4, 6, 7, 9, 10, 15, 18, 20, 22, 23, 25, 26, 28, 29, 30, 176]), (178, [3, 4, 6, 7, 9, 10, 15, 20, 22, 23, 25, 26, 28, 29, 30, 176, 178]), (179, [3, 4, 6, 7, 9, 10, 15, 20, 22, 23, 25, 26, 28, 29, 30, 179]), (220, [3, 4, 6, 7, 9, 10, 220]), (222, [3, 4, 6, 7, 9, 10, 220, 222]), (224, [3, 4, 6, 7, 9, 10, 224]), (252, [4, 6, 7, 33, 244, 250, 252]), (254, [6, 7, 33, 244, 250, 252, 254]), (257, [6, 244, 250, 257]), (262, [6, 261, 262])]

set_option maxHeartbeats 32000000 in
theorem mono_000 (up : List Ces) (hk : gl g_control_kinds = kindsI) (hg : gl g_internal_strconv_uint64pow10 = powI) (m : Mc) (s : Sta) (x y : Int) (hs : m.smallB = true) (ql : decide ((s.mode.size : Int) > 40) = false) (he : s.err m = 0) (qi : eqS s.mode sIdle = false)
    (st : Int) (hst : Int.tmod (IntKind.i64.wrap x) 3 = st) (h1 : 0 ≤ st) (h2 : st ≤ 2) (hkk : Int.tmod (IntKind.i64.wrap y) 3 = 0) (hsafe : s.safeN m = false) (hp : decide (s.pk m st > m.lim) = true) :
    Cs gl n_nacellelaw05_ControlMonotone up [m.iv, s.iv, .agg [.int .u8 x, .int .u8 y]] (.bool true) up := by
  obtain ⟨hm, hfe, hli, hra⟩ := small_ok hs (Mc.err_of (Sta.err_rng he).1)
  obtain ⟨_, hr, hl, hstk, htor, hkn, hft⟩ := Sta.err_rng he
  have g0 := hm.wind
  have g1 := hm.fea
  have g2 := hm.lim
  have g3 := hr.speed
  have g4 := hr.p0
  have g5 := hr.p1
  have g6 := hr.p2
  have e1 : w64 (s.speed - 1) = s.speed - 1 := by rw [w64, wrap_in] <;> omega
  have e2 : w64 (s.p0 + 1) = s.p0 + 1 := by rw [w64, wrap_in] <;> omega
  have e3 : w64 (m.wind - 1) = m.wind - 1 := by rw [w64, wrap_in] <;> omega
  have heS : (Sta.mk s.mode (maxW 0 (w64 (s.speed - 1))) s.p0 s.p1 s.p2 s.tor s.stuck).err m = 0 := err_other he qi rfl rfl rfl (by show 0 ≤ maxW 0 _ ∧ maxW 0 _ ≤ _; rw [e1, maxW_eq]; omega) g4 g5 g6
  have hmin : 0 ≤ minW m.fea (w64 (s.p0 + 1)) ∧ minW m.fea (w64 (s.p0 + 1)) ≤ m.fea ∧ s.p0 ≤ minW m.fea (w64 (s.p0 + 1)) := by
    rw [e2]; unfold minW; split <;> omega
  have heN : (Sta.mk s.mode s.speed (minW m.fea (w64 (s.p0 + 1))) s.p1 s.p2 s.tor s.stuck).err m = 0 := err_other he qi rfl rfl rfl ⟨g3.1, hl⟩ ⟨hmin.1, hmin.2.1⟩ g5 g6
  have hc : (Mc.mk (maxW 1 (w64 (m.wind - 1))) m.fea m.rate m.tor m.lim m.rated m.gain).ok := ⟨by show 1 ≤ maxW 1 _ ∧ maxW 1 _ ≤ 100; rw [e3, maxW_eq]; omega, hm.fea, hm.rate, hm.tor, hm.lim, hm.rated, hm.gain, by
    have := hm.two
    show maxW 1 _ < 2 * m.fea
    rw [e3, maxW_eq]; omega⟩
  have heC : s.err (Mc.mk (maxW 1 (w64 (m.wind - 1))) m.fea m.rate m.tor m.lim m.rated m.gain) = 0 := err_machine he hc rfl rfl rfl
  have hsp : s.speed ≤ 10000 := by omega
  have leS : (Sta.mk s.mode (maxW 0 (w64 (s.speed - 1))) s.p0 s.p1 s.p2 s.tor s.stuck).le s := ⟨by show maxW 0 _ ≤ _; rw [e1, maxW_eq]; omega, Int.le_refl _, Int.le_refl _, Int.le_refl _⟩
  have leN : (Sta.mk s.mode s.speed (minW m.fea (w64 (s.p0 + 1))) s.p1 s.p2 s.tor s.stuck).le s := ⟨Int.le_refl _, hmin.2.2, Int.le_refl _, Int.le_refl _⟩
  have k1 : -1 ≤ st := by omega
  obtain ⟨_, hrS, hlS, _⟩ := Sta.err_rng heS
  obtain ⟨_, hrN, hlN, _⟩ := Sta.err_rng heN
  obtain ⟨_, hrC, hlC, _⟩ := Sta.err_rng heC
  have b0 := pk_ge (m := m) (s := s) (k := st)
  have b1 := pk_le hm hm rfl rfl (Int.le_refl _) (s := s) (t := s) (k := -1) (k' := st) (by omega) (by omega) k1 h2 (.inr rfl) hr hr hsp hsp s.le_refl
  have b2 := pk_le hm hm rfl rfl (Int.le_refl _) (k := st) (k' := st) k1 h2 k1 h2 (.inl rfl) hrS hr (by omega) hsp leS
  have b3 := pk_le hm hm rfl rfl (Int.le_refl _) (k := st) (k' := st) k1 h2 k1 h2 (.inl rfl) hrN hr (by omega) hsp leN
  have b4 := pk_le hc hm rfl rfl (by show maxW 1 _ ≤ m.wind; rw [e3, maxW_eq]; omega) (s := s) (t := s) (k := st) (k' := st) k1 h2 k1 h2 (.inl rfl) hrC hr hsp hsp s.le_refl
  have hS := fun up => c_rSmall (gl := gl) up m
  rw [hs] at hS
  have hE := fun up => c_rState (gl := gl) up m s
  rw [he] at hE
  have hA := fun up => c_awake (gl := gl) up hk hg
  have P0 := fun up => c_PeakOk (gl := gl) up s m st he k1 h2
  have P1 := fun up => c_PeakOk (gl := gl) up s m (-1) he (by omega) (by omega)
  have P2 := fun up => c_PeakOk (gl := gl) up _ m st heS k1 h2
  have P3 := fun up => c_PeakOk (gl := gl) up _ m st heN k1 h2
  have P4 := fun up => c_PeakOk (gl := gl) up s _ st heC k1 h2
  have F0 := fun up => c_SafeOk (gl := gl) up s m he
  have F1 := fun up => c_SafeOk (gl := gl) up _ m heS
  have F2 := fun up => c_SafeOk (gl := gl) up _ m heN
  have C1 := fun up => c_state (gl := gl) up (Sta.mk s.mode (maxW 0 (w64 (s.speed - 1))) s.p0 s.p1 s.p2 s.tor s.stuck)
  have C2 := fun up => c_state (gl := gl) up (Sta.mk s.mode s.speed (minW m.fea (w64 (s.p0 + 1))) s.p1 s.p2 s.tor s.stuck)
  have T0 := fun up => c_StopOk (gl := gl) up s m st he k1 h2
  rw [hsafe] at F0
  rw [hp] at T0
  have q1 : decide (s.pk m st < s.speed) = false := decide_eq_false (by omega)
  have q2 : decide (s.pk m (-1) > s.pk m st) = false := decide_eq_false (by omega)
  obtain ⟨n, hn⟩ : ∃ n, n = s.num m st := ⟨_, rfl⟩
  have hn2 := num_small hm hfe hli hr hl k1 h2
  rw [← hn] at P0 T0 hn2
  have q4 : decide ((Sta.mk s.mode (maxW 0 (w64 (s.speed - 1))) s.p0 s.p1 s.p2 s.tor s.stuck).pk m st > s.pk m st) = false := decide_eq_false (by omega)
  have q5 : decide ((Sta.mk s.mode s.speed (minW m.fea (w64 (s.p0 + 1))) s.p1 s.p2 s.tor s.stuck).pk m st > s.pk m st) = false := decide_eq_false (by omega)
  have q6 : decide (s.pk (Mc.mk (maxW 1 (w64 (m.wind - 1))) m.fea m.rate m.tor m.lim m.rated m.gain) st > s.pk m st) = false := decide_eq_false (by omega)
  have q7 : (!(false == decide (s.pk m st ≤ m.lim))) = false := by
    have := of_decide_eq_true hp
    rw [show decide (s.pk m st ≤ m.lim) = false from decide_eq_false (by omega)]; rfl
  simp only [cond_true, cond_false] at T0
  clear b0 b1 b2 b3 b4 hrS hlS hrN hlN hrC hlC leS leN heS heN heC e1 e2 e3 g0 g1 g2 g3 g4 g5 g6 hr hl hstk htor hkn hft hfe hli hra hn hsafe hp he hsp
  refine mk h_nacellelaw05_ControlMonotone rfl rfl ?_
  conv => whnf
  repeat first
    | (refine DRAW.seek ?_; repeat (first | refine TRYD.take ?_ | refine TRYD.next ?_); conv => whnf)
    | (refine HOLD.mk (by first | exact trivial | exact ⟨⟨rfl, rfl⟩, trivial⟩ | exact ⟨⟨rfl, rfl⟩, ⟨rfl, rfl⟩, trivial⟩) ?_; (conv => whnf))
    | (refine CALL0.cutBy lvMono _ _ _ _ _ (leL_refl _) (hS ..) rfl ?_; conv => whnf)
    | (refine CALL0.by (hS ..) rfl ?_; conv => whnf)
    | (refine CALLQ.mk _ _ _ (leL_refl _) (hS ..) rfl ?_; conv => whnf)
  split
  · rename_i h
    exact Bool.noConfusion ((ql).symm.trans h)
  rename_i hN
  clear hN
  conv => whnf
  repeat first
    | (refine DRAW.seek ?_; repeat (first | refine TRYD.take ?_ | refine TRYD.next ?_); conv => whnf)
    | (refine HOLD.mk (by first | exact trivial | exact ⟨⟨rfl, rfl⟩, trivial⟩ | exact ⟨⟨rfl, rfl⟩, ⟨rfl, rfl⟩, trivial⟩) ?_; (conv => whnf))
    | (refine CALL0.cutBy lvMono _ _ _ _ _ (leL_refl _) (hE ..) rfl ?_; conv => whnf)
    | (refine CALL0.by (hE ..) rfl ?_; conv => whnf)
    | (refine CALLQ.mk _ _ _ (leL_refl _) (hE ..) rfl ?_; conv => whnf)
  split
  · rename_i h
    exact Bool.noConfusion ((qi).symm.trans h)
  rename_i hN
  clear hN
  conv => whnf
  refine DRAW.seek ?_
  repeat (first | refine TRYD.take ?_ | refine TRYD.next ?_)
  conv => whnf
  simp only [hst, hkk]
  repeat first
    | (refine DRAW.seek ?_; repeat (first | refine TRYD.take ?_ | refine TRYD.next ?_); conv => whnf)
    | (refine HOLD.mk (by first | exact trivial | exact ⟨⟨rfl, rfl⟩, trivial⟩ | exact ⟨⟨rfl, rfl⟩, ⟨rfl, rfl⟩, trivial⟩) ?_; (conv => whnf))
    | (refine CALL0.cutBy lvMono _ _ _ _ _ (leL_refl _) (c_machine ..) rfl ?_; conv => whnf)
    | (refine CALL0.by (c_machine ..) rfl ?_; conv => whnf)
    | (refine CALLQ.mk _ _ _ (leL_refl _) (c_machine ..) rfl ?_; conv => whnf)
    | (refine CALL0.cutBy lvMono _ _ _ _ _ (leL_refl _) (c_state ..) rfl ?_; conv => whnf)
    | (refine CALL0.by (c_state ..) rfl ?_; conv => whnf)
    | (refine CALLQ.mk _ _ _ (leL_refl _) (c_state ..) rfl ?_; conv => whnf)
    | (refine CALL0.cutBy lvMono _ _ _ _ _ (leL_refl _) (P0 ..) rfl ?_; conv => whnf)
    | (refine CALL0.by (P0 ..) rfl ?_; conv => whnf)
    | (refine CALLQ.mk _ _ _ (leL_refl _) (P0 ..) rfl ?_; conv => whnf)
    | (refine CALL0.cutBy lvMono _ _ _ _ _ (leL_refl _) (P1 ..) rfl ?_; conv => whnf)
    | (refine CALL0.by (P1 ..) rfl ?_; conv => whnf)
    | (refine CALLQ.mk _ _ _ (leL_refl _) (P1 ..) rfl ?_; conv => whnf)
    | (refine CALL0.cutBy lvMono _ _ _ _ _ (leL_refl _) (F0 ..) rfl ?_; conv => whnf)
    | (refine CALL0.by (F0 ..) rfl ?_; conv => whnf)
    | (refine CALLQ.mk _ _ _ (leL_refl _) (F0 ..) rfl ?_; conv => whnf)
  split
  · rename_i h
    exact Bool.noConfusion ((q1).symm.trans h)
  rename_i hN
  clear hN
  conv => whnf
  split
  · rename_i h
    exact Bool.noConfusion ((q2).symm.trans h)
  rename_i hN
  clear hN
  conv => whnf
  repeat first
    | (refine DRAW.seek ?_; repeat (first | refine TRYD.take ?_ | refine TRYD.next ?_); conv => whnf)
    | (refine HOLD.mk (by first | exact trivial | exact ⟨⟨rfl, rfl⟩, trivial⟩ | exact ⟨⟨rfl, rfl⟩, ⟨rfl, rfl⟩, trivial⟩) ?_; (conv => whnf))
    | (refine CALL0.cutBy lvMono _ _ _ _ _ (leL_refl _) (c_machine ..) rfl ?_; conv => whnf)
    | (refine CALL0.by (c_machine ..) rfl ?_; conv => whnf)
    | (refine CALLQ.mk _ _ _ (leL_refl _) (c_machine ..) rfl ?_; conv => whnf)
  repeat first
    | (refine DRAW.seek ?_; repeat (first | refine TRYD.take ?_ | refine TRYD.next ?_); conv => whnf)
    | (refine HOLD.mk (by first | exact trivial | exact ⟨⟨rfl, rfl⟩, trivial⟩ | exact ⟨⟨rfl, rfl⟩, ⟨rfl, rfl⟩, trivial⟩) ?_; (conv => whnf))
    | (refine CALL0.cutBy lvMono _ _ _ _ _ (leL_refl _) (C1 ..) rfl ?_; conv => whnf)
    | (refine CALL0.by (C1 ..) rfl ?_; conv => whnf)
    | (refine CALLQ.mk _ _ _ (leL_refl _) (C1 ..) rfl ?_; conv => whnf)
    | (refine CALL0.cutBy lvMono _ _ _ _ _ (leL_refl _) (C2 ..) rfl ?_; conv => whnf)
    | (refine CALL0.by (C2 ..) rfl ?_; conv => whnf)
    | (refine CALLQ.mk _ _ _ (leL_refl _) (C2 ..) rfl ?_; conv => whnf)
    | (refine CALL0.cutBy lvMono _ _ _ _ _ (leL_refl _) (c_state ..) rfl ?_; conv => whnf)
    | (refine CALL0.by (c_state ..) rfl ?_; conv => whnf)
    | (refine CALLQ.mk _ _ _ (leL_refl _) (c_state ..) rfl ?_; conv => whnf)
    | (refine CALL0.cutBy lvMono _ _ _ _ _ (leL_refl _) (P2 ..) rfl ?_; conv => whnf)
    | (refine CALL0.by (P2 ..) rfl ?_; conv => whnf)
    | (refine CALLQ.mk _ _ _ (leL_refl _) (P2 ..) rfl ?_; conv => whnf)
    | (refine CALL0.cutBy lvMono _ _ _ _ _ (leL_refl _) (P3 ..) rfl ?_; conv => whnf)
    | (refine CALL0.by (P3 ..) rfl ?_; conv => whnf)
    | (refine CALLQ.mk _ _ _ (leL_refl _) (P3 ..) rfl ?_; conv => whnf)
    | (refine CALL0.cutBy lvMono _ _ _ _ _ (leL_refl _) (P4 ..) rfl ?_; conv => whnf)
    | (refine CALL0.by (P4 ..) rfl ?_; conv => whnf)
    | (refine CALLQ.mk _ _ _ (leL_refl _) (P4 ..) rfl ?_; conv => whnf)
    | (refine CALL0.cutBy lvMono _ _ _ _ _ (leL_refl _) (F1 ..) rfl ?_; conv => whnf)
    | (refine CALL0.by (F1 ..) rfl ?_; conv => whnf)
    | (refine CALLQ.mk _ _ _ (leL_refl _) (F1 ..) rfl ?_; conv => whnf)
    | (refine CALL0.cutBy lvMono _ _ _ _ _ (leL_refl _) (F2 ..) rfl ?_; conv => whnf)
    | (refine CALL0.by (F2 ..) rfl ?_; conv => whnf)
    | (refine CALLQ.mk _ _ _ (leL_refl _) (F2 ..) rfl ?_; conv => whnf)
    | (refine CALL0.cutBy lvMono _ _ _ _ _ (leL_refl _) (c_machine ..) rfl ?_; conv => whnf)
    | (refine CALL0.by (c_machine ..) rfl ?_; conv => whnf)
    | (refine CALLQ.mk _ _ _ (leL_refl _) (c_machine ..) rfl ?_; conv => whnf)
  split
  · rename_i h
    exact Bool.noConfusion ((q4).symm.trans h)
  rename_i hN
  clear hN
  conv => whnf
  split
  · rename_i h
    exact Bool.noConfusion ((q5).symm.trans h)
  rename_i hN
  clear hN
  conv => whnf
  split
  · rename_i h
    exact Bool.noConfusion ((q6).symm.trans h)
  rename_i hN
  clear hN
  conv => whnf
  repeat first
    | (refine DRAW.seek ?_; repeat (first | refine TRYD.take ?_ | refine TRYD.next ?_); conv => whnf)
    | (refine HOLD.mk (by first | exact trivial | exact ⟨⟨rfl, rfl⟩, trivial⟩ | exact ⟨⟨rfl, rfl⟩, ⟨rfl, rfl⟩, trivial⟩) ?_; (conv => whnf))
    | (refine CALL0.cutBy lvMono _ _ _ _ _ (leL_refl _) (c_machine ..) rfl ?_; conv => whnf)
    | (refine CALL0.by (c_machine ..) rfl ?_; conv => whnf)
    | (refine CALLQ.mk _ _ _ (leL_refl _) (c_machine ..) rfl ?_; conv => whnf)
    | (refine CALL0.cutBy lvMono _ _ _ _ _ (leL_refl _) (c_state ..) rfl ?_; conv => whnf)
    | (refine CALL0.by (c_state ..) rfl ?_; conv => whnf)
    | (refine CALLQ.mk _ _ _ (leL_refl _) (c_state ..) rfl ?_; conv => whnf)
    | (refine CALL0.cutBy lvMono _ _ _ _ _ (leL_refl _) (T0 ..) rfl ?_; conv => whnf)
    | (refine CALL0.by (T0 ..) rfl ?_; conv => whnf)
    | (refine CALLQ.mk _ _ _ (leL_refl _) (T0 ..) rfl ?_; conv => whnf)
  split
  · rename_i h
    exact Bool.noConfusion ((q7).symm.trans h)
  rename_i hN
  clear hN
  conv => whnf
  repeat first
    | (refine DRAW.seek ?_; repeat (first | refine TRYD.take ?_ | refine TRYD.next ?_); conv => whnf)
    | (refine HOLD.mk (by first | exact trivial | exact ⟨⟨rfl, rfl⟩, trivial⟩ | exact ⟨⟨rfl, rfl⟩, ⟨rfl, rfl⟩, trivial⟩) ?_; (conv => whnf))
    | (refine CALL0.cutBy lvMono _ _ _ _ _ (leL_refl _) (hA ..) rfl ?_; conv => whnf)
    | (refine CALL0.by (hA ..) rfl ?_; conv => whnf)
    | (refine CALLQ.mk _ _ _ (leL_refl _) (hA ..) rfl ?_; conv => whnf)
  exact ⟨rfl, rfl⟩

set_option maxHeartbeats 32000000 in
theorem mono_001 (up : List Ces) (hk : gl g_control_kinds = kindsI) (hg : gl g_internal_strconv_uint64pow10 = powI) (m : Mc) (s : Sta) (x y : Int) (hs : m.smallB = true) (ql : decide ((s.mode.size : Int) > 40) = false) (he : s.err m = 0) (qi : eqS s.mode sIdle = false)
    (st : Int) (hst : Int.tmod (IntKind.i64.wrap x) 3 = st) (h1 : 0 ≤ st) (h2 : st ≤ 2) (hkk : Int.tmod (IntKind.i64.wrap y) 3 = 0) (hsafe : s.safeN m = false) (hp : decide (s.pk m st > m.lim) = false) :
    Cs gl n_nacellelaw05_ControlMonotone up [m.iv, s.iv, .agg [.int .u8 x, .int .u8 y]] (.bool true) up := by
  obtain ⟨hm, hfe, hli, hra⟩ := small_ok hs (Mc.err_of (Sta.err_rng he).1)
  obtain ⟨_, hr, hl, hstk, htor, hkn, hft⟩ := Sta.err_rng he
  have g0 := hm.wind
  have g1 := hm.fea
  have g2 := hm.lim
  have g3 := hr.speed
  have g4 := hr.p0
  have g5 := hr.p1
  have g6 := hr.p2
  have e1 : w64 (s.speed - 1) = s.speed - 1 := by rw [w64, wrap_in] <;> omega
  have e2 : w64 (s.p0 + 1) = s.p0 + 1 := by rw [w64, wrap_in] <;> omega
  have e3 : w64 (m.wind - 1) = m.wind - 1 := by rw [w64, wrap_in] <;> omega
  have heS : (Sta.mk s.mode (maxW 0 (w64 (s.speed - 1))) s.p0 s.p1 s.p2 s.tor s.stuck).err m = 0 := err_other he qi rfl rfl rfl (by show 0 ≤ maxW 0 _ ∧ maxW 0 _ ≤ _; rw [e1, maxW_eq]; omega) g4 g5 g6
  have hmin : 0 ≤ minW m.fea (w64 (s.p0 + 1)) ∧ minW m.fea (w64 (s.p0 + 1)) ≤ m.fea ∧ s.p0 ≤ minW m.fea (w64 (s.p0 + 1)) := by
    rw [e2]; unfold minW; split <;> omega
  have heN : (Sta.mk s.mode s.speed (minW m.fea (w64 (s.p0 + 1))) s.p1 s.p2 s.tor s.stuck).err m = 0 := err_other he qi rfl rfl rfl ⟨g3.1, hl⟩ ⟨hmin.1, hmin.2.1⟩ g5 g6
  have hc : (Mc.mk (maxW 1 (w64 (m.wind - 1))) m.fea m.rate m.tor m.lim m.rated m.gain).ok := ⟨by show 1 ≤ maxW 1 _ ∧ maxW 1 _ ≤ 100; rw [e3, maxW_eq]; omega, hm.fea, hm.rate, hm.tor, hm.lim, hm.rated, hm.gain, by
    have := hm.two
    show maxW 1 _ < 2 * m.fea
    rw [e3, maxW_eq]; omega⟩
  have heC : s.err (Mc.mk (maxW 1 (w64 (m.wind - 1))) m.fea m.rate m.tor m.lim m.rated m.gain) = 0 := err_machine he hc rfl rfl rfl
  have hsp : s.speed ≤ 10000 := by omega
  have leS : (Sta.mk s.mode (maxW 0 (w64 (s.speed - 1))) s.p0 s.p1 s.p2 s.tor s.stuck).le s := ⟨by show maxW 0 _ ≤ _; rw [e1, maxW_eq]; omega, Int.le_refl _, Int.le_refl _, Int.le_refl _⟩
  have leN : (Sta.mk s.mode s.speed (minW m.fea (w64 (s.p0 + 1))) s.p1 s.p2 s.tor s.stuck).le s := ⟨Int.le_refl _, hmin.2.2, Int.le_refl _, Int.le_refl _⟩
  have k1 : -1 ≤ st := by omega
  obtain ⟨_, hrS, hlS, _⟩ := Sta.err_rng heS
  obtain ⟨_, hrN, hlN, _⟩ := Sta.err_rng heN
  obtain ⟨_, hrC, hlC, _⟩ := Sta.err_rng heC
  have b0 := pk_ge (m := m) (s := s) (k := st)
  have b1 := pk_le hm hm rfl rfl (Int.le_refl _) (s := s) (t := s) (k := -1) (k' := st) (by omega) (by omega) k1 h2 (.inr rfl) hr hr hsp hsp s.le_refl
  have b2 := pk_le hm hm rfl rfl (Int.le_refl _) (k := st) (k' := st) k1 h2 k1 h2 (.inl rfl) hrS hr (by omega) hsp leS
  have b3 := pk_le hm hm rfl rfl (Int.le_refl _) (k := st) (k' := st) k1 h2 k1 h2 (.inl rfl) hrN hr (by omega) hsp leN
  have b4 := pk_le hc hm rfl rfl (by show maxW 1 _ ≤ m.wind; rw [e3, maxW_eq]; omega) (s := s) (t := s) (k := st) (k' := st) k1 h2 k1 h2 (.inl rfl) hrC hr hsp hsp s.le_refl
  have hS := fun up => c_rSmall (gl := gl) up m
  rw [hs] at hS
  have hE := fun up => c_rState (gl := gl) up m s
  rw [he] at hE
  have hA := fun up => c_awake (gl := gl) up hk hg
  have P0 := fun up => c_PeakOk (gl := gl) up s m st he k1 h2
  have P1 := fun up => c_PeakOk (gl := gl) up s m (-1) he (by omega) (by omega)
  have P2 := fun up => c_PeakOk (gl := gl) up _ m st heS k1 h2
  have P3 := fun up => c_PeakOk (gl := gl) up _ m st heN k1 h2
  have P4 := fun up => c_PeakOk (gl := gl) up s _ st heC k1 h2
  have F0 := fun up => c_SafeOk (gl := gl) up s m he
  have F1 := fun up => c_SafeOk (gl := gl) up _ m heS
  have F2 := fun up => c_SafeOk (gl := gl) up _ m heN
  have C1 := fun up => c_state (gl := gl) up (Sta.mk s.mode (maxW 0 (w64 (s.speed - 1))) s.p0 s.p1 s.p2 s.tor s.stuck)
  have C2 := fun up => c_state (gl := gl) up (Sta.mk s.mode s.speed (minW m.fea (w64 (s.p0 + 1))) s.p1 s.p2 s.tor s.stuck)
  have T0 := fun up => c_StopOk (gl := gl) up s m st he k1 h2
  rw [hsafe] at F0
  rw [hp] at T0
  have q1 : decide (s.pk m st < s.speed) = false := decide_eq_false (by omega)
  have q2 : decide (s.pk m (-1) > s.pk m st) = false := decide_eq_false (by omega)
  obtain ⟨n, hn⟩ : ∃ n, n = s.num m st := ⟨_, rfl⟩
  have hn2 := num_small hm hfe hli hr hl k1 h2
  rw [← hn] at P0 T0 hn2
  have q4 : decide ((Sta.mk s.mode (maxW 0 (w64 (s.speed - 1))) s.p0 s.p1 s.p2 s.tor s.stuck).pk m st > s.pk m st) = false := decide_eq_false (by omega)
  have q5 : decide ((Sta.mk s.mode s.speed (minW m.fea (w64 (s.p0 + 1))) s.p1 s.p2 s.tor s.stuck).pk m st > s.pk m st) = false := decide_eq_false (by omega)
  have q6 : decide (s.pk (Mc.mk (maxW 1 (w64 (m.wind - 1))) m.fea m.rate m.tor m.lim m.rated m.gain) st > s.pk m st) = false := decide_eq_false (by omega)
  have q7 : (!(true == decide (s.pk m st ≤ m.lim))) = false := by
    have := of_decide_eq_false hp
    rw [show decide (s.pk m st ≤ m.lim) = true from decide_eq_true (by omega)]; rfl
  have q8 : (((1 + n : Nat) : Int) == w64 ((n : Int) + 1)) = true := by
    rw [w64, wrap_in (by omega) (by omega)]
    have : ((1 + n : Nat) : Int) = (n : Int) + 1 := by omega
    simpa using this
  have hCS := fun up => c_CheckStop (gl := gl) up s m st (1 + n) (by omega) (s.stopS m st)
  have eCS : csErr s m st (1 + n) (s.stopS m st) = 0 := by
    rw [cs_err]
    have e0 : s.err0 m st = 0 := by
      unfold Sta.err0
      rw [he, withinS_zero.2 ⟨k1, h2⟩]; rfl
    rw [e0, show ∀ x, orE 0 x = x from fun x => orE_no rfl]
    unfold rcsErr
    rw [show decide (((1 + n : Nat) : Int) > 4096) = false from decide_eq_false (by omega), hp, ← hn, sameSt_refl]; rfl
  rw [eCS] at hCS
  simp only [cond_true, cond_false] at T0
  clear b0 b1 b2 b3 b4 hrS hlS hrN hlN hrC hlC leS leN heS heN heC e1 e2 e3 g0 g1 g2 g3 g4 g5 g6 hr hl hstk htor hkn hft hfe hli hra hn hsafe hp he hsp
  refine mk h_nacellelaw05_ControlMonotone rfl rfl ?_
  conv => whnf
  repeat first
    | (refine DRAW.seek ?_; repeat (first | refine TRYD.take ?_ | refine TRYD.next ?_); conv => whnf)
    | (refine HOLD.mk (by first | exact trivial | exact ⟨⟨rfl, rfl⟩, trivial⟩ | exact ⟨⟨rfl, rfl⟩, ⟨rfl, rfl⟩, trivial⟩) ?_; (conv => whnf))
    | (refine CALL0.cutBy lvMono _ _ _ _ _ (leL_refl _) (hS ..) rfl ?_; conv => whnf)
    | (refine CALL0.by (hS ..) rfl ?_; conv => whnf)
    | (refine CALLQ.mk _ _ _ (leL_refl _) (hS ..) rfl ?_; conv => whnf)
  split
  · rename_i h
    exact Bool.noConfusion ((ql).symm.trans h)
  rename_i hN
  clear hN
  conv => whnf
  repeat first
    | (refine DRAW.seek ?_; repeat (first | refine TRYD.take ?_ | refine TRYD.next ?_); conv => whnf)
    | (refine HOLD.mk (by first | exact trivial | exact ⟨⟨rfl, rfl⟩, trivial⟩ | exact ⟨⟨rfl, rfl⟩, ⟨rfl, rfl⟩, trivial⟩) ?_; (conv => whnf))
    | (refine CALL0.cutBy lvMono _ _ _ _ _ (leL_refl _) (hE ..) rfl ?_; conv => whnf)
    | (refine CALL0.by (hE ..) rfl ?_; conv => whnf)
    | (refine CALLQ.mk _ _ _ (leL_refl _) (hE ..) rfl ?_; conv => whnf)
  split
  · rename_i h
    exact Bool.noConfusion ((qi).symm.trans h)
  rename_i hN
  clear hN
  conv => whnf
  refine DRAW.seek ?_
  repeat (first | refine TRYD.take ?_ | refine TRYD.next ?_)
  conv => whnf
  simp only [hst, hkk]
  repeat first
    | (refine DRAW.seek ?_; repeat (first | refine TRYD.take ?_ | refine TRYD.next ?_); conv => whnf)
    | (refine HOLD.mk (by first | exact trivial | exact ⟨⟨rfl, rfl⟩, trivial⟩ | exact ⟨⟨rfl, rfl⟩, ⟨rfl, rfl⟩, trivial⟩) ?_; (conv => whnf))
    | (refine CALL0.cutBy lvMono _ _ _ _ _ (leL_refl _) (c_machine ..) rfl ?_; conv => whnf)
    | (refine CALL0.by (c_machine ..) rfl ?_; conv => whnf)
    | (refine CALLQ.mk _ _ _ (leL_refl _) (c_machine ..) rfl ?_; conv => whnf)
    | (refine CALL0.cutBy lvMono _ _ _ _ _ (leL_refl _) (c_state ..) rfl ?_; conv => whnf)
    | (refine CALL0.by (c_state ..) rfl ?_; conv => whnf)
    | (refine CALLQ.mk _ _ _ (leL_refl _) (c_state ..) rfl ?_; conv => whnf)
    | (refine CALL0.cutBy lvMono _ _ _ _ _ (leL_refl _) (P0 ..) rfl ?_; conv => whnf)
    | (refine CALL0.by (P0 ..) rfl ?_; conv => whnf)
    | (refine CALLQ.mk _ _ _ (leL_refl _) (P0 ..) rfl ?_; conv => whnf)
    | (refine CALL0.cutBy lvMono _ _ _ _ _ (leL_refl _) (P1 ..) rfl ?_; conv => whnf)
    | (refine CALL0.by (P1 ..) rfl ?_; conv => whnf)
    | (refine CALLQ.mk _ _ _ (leL_refl _) (P1 ..) rfl ?_; conv => whnf)
    | (refine CALL0.cutBy lvMono _ _ _ _ _ (leL_refl _) (F0 ..) rfl ?_; conv => whnf)
    | (refine CALL0.by (F0 ..) rfl ?_; conv => whnf)
    | (refine CALLQ.mk _ _ _ (leL_refl _) (F0 ..) rfl ?_; conv => whnf)
  split
  · rename_i h
    exact Bool.noConfusion ((q1).symm.trans h)
  rename_i hN
  clear hN
  conv => whnf
  split
  · rename_i h
    exact Bool.noConfusion ((q2).symm.trans h)
  rename_i hN
  clear hN
  conv => whnf
  repeat first
    | (refine DRAW.seek ?_; repeat (first | refine TRYD.take ?_ | refine TRYD.next ?_); conv => whnf)
    | (refine HOLD.mk (by first | exact trivial | exact ⟨⟨rfl, rfl⟩, trivial⟩ | exact ⟨⟨rfl, rfl⟩, ⟨rfl, rfl⟩, trivial⟩) ?_; (conv => whnf))
    | (refine CALL0.cutBy lvMono _ _ _ _ _ (leL_refl _) (c_machine ..) rfl ?_; conv => whnf)
    | (refine CALL0.by (c_machine ..) rfl ?_; conv => whnf)
    | (refine CALLQ.mk _ _ _ (leL_refl _) (c_machine ..) rfl ?_; conv => whnf)
  repeat first
    | (refine DRAW.seek ?_; repeat (first | refine TRYD.take ?_ | refine TRYD.next ?_); conv => whnf)
    | (refine HOLD.mk (by first | exact trivial | exact ⟨⟨rfl, rfl⟩, trivial⟩ | exact ⟨⟨rfl, rfl⟩, ⟨rfl, rfl⟩, trivial⟩) ?_; (conv => whnf))
    | (refine CALL0.cutBy lvMono _ _ _ _ _ (leL_refl _) (C1 ..) rfl ?_; conv => whnf)
    | (refine CALL0.by (C1 ..) rfl ?_; conv => whnf)
    | (refine CALLQ.mk _ _ _ (leL_refl _) (C1 ..) rfl ?_; conv => whnf)
    | (refine CALL0.cutBy lvMono _ _ _ _ _ (leL_refl _) (C2 ..) rfl ?_; conv => whnf)
    | (refine CALL0.by (C2 ..) rfl ?_; conv => whnf)
    | (refine CALLQ.mk _ _ _ (leL_refl _) (C2 ..) rfl ?_; conv => whnf)
    | (refine CALL0.cutBy lvMono _ _ _ _ _ (leL_refl _) (c_state ..) rfl ?_; conv => whnf)
    | (refine CALL0.by (c_state ..) rfl ?_; conv => whnf)
    | (refine CALLQ.mk _ _ _ (leL_refl _) (c_state ..) rfl ?_; conv => whnf)
    | (refine CALL0.cutBy lvMono _ _ _ _ _ (leL_refl _) (P2 ..) rfl ?_; conv => whnf)
    | (refine CALL0.by (P2 ..) rfl ?_; conv => whnf)
    | (refine CALLQ.mk _ _ _ (leL_refl _) (P2 ..) rfl ?_; conv => whnf)
    | (refine CALL0.cutBy lvMono _ _ _ _ _ (leL_refl _) (P3 ..) rfl ?_; conv => whnf)
    | (refine CALL0.by (P3 ..) rfl ?_; conv => whnf)
    | (refine CALLQ.mk _ _ _ (leL_refl _) (P3 ..) rfl ?_; conv => whnf)
    | (refine CALL0.cutBy lvMono _ _ _ _ _ (leL_refl _) (P4 ..) rfl ?_; conv => whnf)
    | (refine CALL0.by (P4 ..) rfl ?_; conv => whnf)
    | (refine CALLQ.mk _ _ _ (leL_refl _) (P4 ..) rfl ?_; conv => whnf)
    | (refine CALL0.cutBy lvMono _ _ _ _ _ (leL_refl _) (F1 ..) rfl ?_; conv => whnf)
    | (refine CALL0.by (F1 ..) rfl ?_; conv => whnf)
    | (refine CALLQ.mk _ _ _ (leL_refl _) (F1 ..) rfl ?_; conv => whnf)
    | (refine CALL0.cutBy lvMono _ _ _ _ _ (leL_refl _) (F2 ..) rfl ?_; conv => whnf)
    | (refine CALL0.by (F2 ..) rfl ?_; conv => whnf)
    | (refine CALLQ.mk _ _ _ (leL_refl _) (F2 ..) rfl ?_; conv => whnf)
    | (refine CALL0.cutBy lvMono _ _ _ _ _ (leL_refl _) (c_machine ..) rfl ?_; conv => whnf)
    | (refine CALL0.by (c_machine ..) rfl ?_; conv => whnf)
    | (refine CALLQ.mk _ _ _ (leL_refl _) (c_machine ..) rfl ?_; conv => whnf)
  split
  · rename_i h
    exact Bool.noConfusion ((q4).symm.trans h)
  rename_i hN
  clear hN
  conv => whnf
  split
  · rename_i h
    exact Bool.noConfusion ((q5).symm.trans h)
  rename_i hN
  clear hN
  conv => whnf
  split
  · rename_i h
    exact Bool.noConfusion ((q6).symm.trans h)
  rename_i hN
  clear hN
  conv => whnf
  repeat first
    | (refine DRAW.seek ?_; repeat (first | refine TRYD.take ?_ | refine TRYD.next ?_); conv => whnf)
    | (refine HOLD.mk (by first | exact trivial | exact ⟨⟨rfl, rfl⟩, trivial⟩ | exact ⟨⟨rfl, rfl⟩, ⟨rfl, rfl⟩, trivial⟩) ?_; (conv => whnf))
    | (refine CALL0.cutBy lvMono _ _ _ _ _ (leL_refl _) (c_machine ..) rfl ?_; conv => whnf)
    | (refine CALL0.by (c_machine ..) rfl ?_; conv => whnf)
    | (refine CALLQ.mk _ _ _ (leL_refl _) (c_machine ..) rfl ?_; conv => whnf)
    | (refine CALL0.cutBy lvMono _ _ _ _ _ (leL_refl _) (c_state ..) rfl ?_; conv => whnf)
    | (refine CALL0.by (c_state ..) rfl ?_; conv => whnf)
    | (refine CALLQ.mk _ _ _ (leL_refl _) (c_state ..) rfl ?_; conv => whnf)
    | (refine CALL0.cutBy lvMono _ _ _ _ _ (leL_refl _) (T0 ..) rfl ?_; conv => whnf)
    | (refine CALL0.by (T0 ..) rfl ?_; conv => whnf)
    | (refine CALLQ.mk _ _ _ (leL_refl _) (T0 ..) rfl ?_; conv => whnf)
  split
  · rename_i h
    exact Bool.noConfusion ((q7).symm.trans h)
  rename_i hN
  clear hN
  conv => whnf
  refine DRAW.seek ?_
  repeat (first | refine TRYD.take ?_ | refine TRYD.next ?_)
  conv => whnf
  rw [show (((1 + n : Nat) : Int) == IntKind.i64.wrap ((n : Int) + 1)) = true from q8]
  conv => whnf
  repeat first
    | (refine DRAW.seek ?_; repeat (first | refine TRYD.take ?_ | refine TRYD.next ?_); conv => whnf)
    | (refine HOLD.mk (by first | exact trivial | exact ⟨⟨rfl, rfl⟩, trivial⟩ | exact ⟨⟨rfl, rfl⟩, ⟨rfl, rfl⟩, trivial⟩) ?_; (conv => whnf))
    | (refine CALL0.cutBy lvMono _ _ _ _ _ (leL_refl _) (c_machine ..) rfl ?_; conv => whnf)
    | (refine CALL0.by (c_machine ..) rfl ?_; conv => whnf)
    | (refine CALLQ.mk _ _ _ (leL_refl _) (c_machine ..) rfl ?_; conv => whnf)
    | (refine CALL0.cutBy lvMono _ _ _ _ _ (leL_refl _) (c_state ..) rfl ?_; conv => whnf)
    | (refine CALL0.by (c_state ..) rfl ?_; conv => whnf)
    | (refine CALLQ.mk _ _ _ (leL_refl _) (c_state ..) rfl ?_; conv => whnf)
    | (refine CALL0.cutBy lvMono _ _ _ _ _ (leL_refl _) (hCS ..) rfl ?_; conv => whnf)
    | (refine CALL0.by (hCS ..) rfl ?_; conv => whnf)
    | (refine CALLQ.mk _ _ _ (leL_refl _) (hCS ..) rfl ?_; conv => whnf)
    | (refine CALL0.cutBy lvMono _ _ _ _ _ (leL_refl _) (hA ..) rfl ?_; conv => whnf)
    | (refine CALL0.by (hA ..) rfl ?_; conv => whnf)
    | (refine CALLQ.mk _ _ _ (leL_refl _) (hA ..) rfl ?_; conv => whnf)
  exact ⟨rfl, rfl⟩

set_option maxHeartbeats 32000000 in
theorem mono_010 (up : List Ces) (hk : gl g_control_kinds = kindsI) (hg : gl g_internal_strconv_uint64pow10 = powI) (m : Mc) (s : Sta) (x y : Int) (hs : m.smallB = true) (ql : decide ((s.mode.size : Int) > 40) = false) (he : s.err m = 0) (qi : eqS s.mode sIdle = false)
    (st : Int) (hst : Int.tmod (IntKind.i64.wrap x) 3 = st) (h1 : 0 ≤ st) (h2 : st ≤ 2) (hkk : Int.tmod (IntKind.i64.wrap y) 3 = 0) (hsafe : s.safeN m = true) (hp : decide (s.pk m st > m.lim) = true) :
    Cs gl n_nacellelaw05_ControlMonotone up [m.iv, s.iv, .agg [.int .u8 x, .int .u8 y]] (.bool true) up := by
  obtain ⟨hm, hfe, hli, hra⟩ := small_ok hs (Mc.err_of (Sta.err_rng he).1)
  obtain ⟨_, hr, hl, hstk, htor, hkn, hft⟩ := Sta.err_rng he
  have g0 := hm.wind
  have g1 := hm.fea
  have g2 := hm.lim
  have g3 := hr.speed
  have g4 := hr.p0
  have g5 := hr.p1
  have g6 := hr.p2
  have e1 : w64 (s.speed - 1) = s.speed - 1 := by rw [w64, wrap_in] <;> omega
  have e2 : w64 (s.p0 + 1) = s.p0 + 1 := by rw [w64, wrap_in] <;> omega
  have e3 : w64 (m.wind - 1) = m.wind - 1 := by rw [w64, wrap_in] <;> omega
  have heS : (Sta.mk s.mode (maxW 0 (w64 (s.speed - 1))) s.p0 s.p1 s.p2 s.tor s.stuck).err m = 0 := err_other he qi rfl rfl rfl (by show 0 ≤ maxW 0 _ ∧ maxW 0 _ ≤ _; rw [e1, maxW_eq]; omega) g4 g5 g6
  have hmin : 0 ≤ minW m.fea (w64 (s.p0 + 1)) ∧ minW m.fea (w64 (s.p0 + 1)) ≤ m.fea ∧ s.p0 ≤ minW m.fea (w64 (s.p0 + 1)) := by
    rw [e2]; unfold minW; split <;> omega
  have heN : (Sta.mk s.mode s.speed (minW m.fea (w64 (s.p0 + 1))) s.p1 s.p2 s.tor s.stuck).err m = 0 := err_other he qi rfl rfl rfl ⟨g3.1, hl⟩ ⟨hmin.1, hmin.2.1⟩ g5 g6
  have hc : (Mc.mk (maxW 1 (w64 (m.wind - 1))) m.fea m.rate m.tor m.lim m.rated m.gain).ok := ⟨by show 1 ≤ maxW 1 _ ∧ maxW 1 _ ≤ 100; rw [e3, maxW_eq]; omega, hm.fea, hm.rate, hm.tor, hm.lim, hm.rated, hm.gain, by
    have := hm.two
    show maxW 1 _ < 2 * m.fea
    rw [e3, maxW_eq]; omega⟩
  have heC : s.err (Mc.mk (maxW 1 (w64 (m.wind - 1))) m.fea m.rate m.tor m.lim m.rated m.gain) = 0 := err_machine he hc rfl rfl rfl
  have hsp : s.speed ≤ 10000 := by omega
  have leS : (Sta.mk s.mode (maxW 0 (w64 (s.speed - 1))) s.p0 s.p1 s.p2 s.tor s.stuck).le s := ⟨by show maxW 0 _ ≤ _; rw [e1, maxW_eq]; omega, Int.le_refl _, Int.le_refl _, Int.le_refl _⟩
  have leN : (Sta.mk s.mode s.speed (minW m.fea (w64 (s.p0 + 1))) s.p1 s.p2 s.tor s.stuck).le s := ⟨Int.le_refl _, hmin.2.2, Int.le_refl _, Int.le_refl _⟩
  have k1 : -1 ≤ st := by omega
  obtain ⟨_, hrS, hlS, _⟩ := Sta.err_rng heS
  obtain ⟨_, hrN, hlN, _⟩ := Sta.err_rng heN
  obtain ⟨_, hrC, hlC, _⟩ := Sta.err_rng heC
  have b0 := pk_ge (m := m) (s := s) (k := st)
  have b1 := pk_le hm hm rfl rfl (Int.le_refl _) (s := s) (t := s) (k := -1) (k' := st) (by omega) (by omega) k1 h2 (.inr rfl) hr hr hsp hsp s.le_refl
  have b2 := pk_le hm hm rfl rfl (Int.le_refl _) (k := st) (k' := st) k1 h2 k1 h2 (.inl rfl) hrS hr (by omega) hsp leS
  have b3 := pk_le hm hm rfl rfl (Int.le_refl _) (k := st) (k' := st) k1 h2 k1 h2 (.inl rfl) hrN hr (by omega) hsp leN
  have b4 := pk_le hc hm rfl rfl (by show maxW 1 _ ≤ m.wind; rw [e3, maxW_eq]; omega) (s := s) (t := s) (k := st) (k' := st) k1 h2 k1 h2 (.inl rfl) hrC hr hsp hsp s.le_refl
  have hS := fun up => c_rSmall (gl := gl) up m
  rw [hs] at hS
  have hE := fun up => c_rState (gl := gl) up m s
  rw [he] at hE
  have hA := fun up => c_awake (gl := gl) up hk hg
  have P0 := fun up => c_PeakOk (gl := gl) up s m st he k1 h2
  have P1 := fun up => c_PeakOk (gl := gl) up s m (-1) he (by omega) (by omega)
  have P2 := fun up => c_PeakOk (gl := gl) up _ m st heS k1 h2
  have P3 := fun up => c_PeakOk (gl := gl) up _ m st heN k1 h2
  have P4 := fun up => c_PeakOk (gl := gl) up s _ st heC k1 h2
  have F0 := fun up => c_SafeOk (gl := gl) up s m he
  have F1 := fun up => c_SafeOk (gl := gl) up _ m heS
  have F2 := fun up => c_SafeOk (gl := gl) up _ m heN
  have C1 := fun up => c_state (gl := gl) up (Sta.mk s.mode (maxW 0 (w64 (s.speed - 1))) s.p0 s.p1 s.p2 s.tor s.stuck)
  have C2 := fun up => c_state (gl := gl) up (Sta.mk s.mode s.speed (minW m.fea (w64 (s.p0 + 1))) s.p1 s.p2 s.tor s.stuck)
  have T0 := fun up => c_StopOk (gl := gl) up s m st he k1 h2
  rw [hsafe] at F0
  rw [hp] at T0
  have s1 := safe_mono hm hrS hr (by omega) hsp leS rfl hsafe
  have s2 := safe_mono hm hrN hr (by omega) hsp leN rfl hsafe
  rw [s1] at F1
  rw [s2] at F2
  have q1 : decide (s.pk m st < s.speed) = false := decide_eq_false (by omega)
  have q2 : decide (s.pk m (-1) > s.pk m st) = false := decide_eq_false (by omega)
  obtain ⟨n, hn⟩ : ∃ n, n = s.num m st := ⟨_, rfl⟩
  have hn2 := num_small hm hfe hli hr hl k1 h2
  rw [← hn] at P0 T0 hn2
  have q4 : decide ((Sta.mk s.mode (maxW 0 (w64 (s.speed - 1))) s.p0 s.p1 s.p2 s.tor s.stuck).pk m st > s.pk m st) = false := decide_eq_false (by omega)
  have q5 : decide ((Sta.mk s.mode s.speed (minW m.fea (w64 (s.p0 + 1))) s.p1 s.p2 s.tor s.stuck).pk m st > s.pk m st) = false := decide_eq_false (by omega)
  have q6 : decide (s.pk (Mc.mk (maxW 1 (w64 (m.wind - 1))) m.fea m.rate m.tor m.lim m.rated m.gain) st > s.pk m st) = false := decide_eq_false (by omega)
  have q7 : (!(false == decide (s.pk m st ≤ m.lim))) = false := by
    have := of_decide_eq_true hp
    rw [show decide (s.pk m st ≤ m.lim) = false from decide_eq_false (by omega)]; rfl
  simp only [cond_true, cond_false] at T0
  clear b0 b1 b2 b3 b4 hrS hlS hrN hlN hrC hlC leS leN heS heN heC e1 e2 e3 g0 g1 g2 g3 g4 g5 g6 hr hl hstk htor hkn hft hfe hli hra hn hsafe hp he hsp
  refine mk h_nacellelaw05_ControlMonotone rfl rfl ?_
  conv => whnf
  repeat first
    | (refine DRAW.seek ?_; repeat (first | refine TRYD.take ?_ | refine TRYD.next ?_); conv => whnf)
    | (refine HOLD.mk (by first | exact trivial | exact ⟨⟨rfl, rfl⟩, trivial⟩ | exact ⟨⟨rfl, rfl⟩, ⟨rfl, rfl⟩, trivial⟩) ?_; (conv => whnf))
    | (refine CALL0.cutBy lvMono _ _ _ _ _ (leL_refl _) (hS ..) rfl ?_; conv => whnf)
    | (refine CALL0.by (hS ..) rfl ?_; conv => whnf)
    | (refine CALLQ.mk _ _ _ (leL_refl _) (hS ..) rfl ?_; conv => whnf)
  split
  · rename_i h
    exact Bool.noConfusion ((ql).symm.trans h)
  rename_i hN
  clear hN
  conv => whnf
  repeat first
    | (refine DRAW.seek ?_; repeat (first | refine TRYD.take ?_ | refine TRYD.next ?_); conv => whnf)
    | (refine HOLD.mk (by first | exact trivial | exact ⟨⟨rfl, rfl⟩, trivial⟩ | exact ⟨⟨rfl, rfl⟩, ⟨rfl, rfl⟩, trivial⟩) ?_; (conv => whnf))
    | (refine CALL0.cutBy lvMono _ _ _ _ _ (leL_refl _) (hE ..) rfl ?_; conv => whnf)
    | (refine CALL0.by (hE ..) rfl ?_; conv => whnf)
    | (refine CALLQ.mk _ _ _ (leL_refl _) (hE ..) rfl ?_; conv => whnf)
  split
  · rename_i h
    exact Bool.noConfusion ((qi).symm.trans h)
  rename_i hN
  clear hN
  conv => whnf
  refine DRAW.seek ?_
  repeat (first | refine TRYD.take ?_ | refine TRYD.next ?_)
  conv => whnf
  simp only [hst, hkk]
  repeat first
    | (refine DRAW.seek ?_; repeat (first | refine TRYD.take ?_ | refine TRYD.next ?_); conv => whnf)
    | (refine HOLD.mk (by first | exact trivial | exact ⟨⟨rfl, rfl⟩, trivial⟩ | exact ⟨⟨rfl, rfl⟩, ⟨rfl, rfl⟩, trivial⟩) ?_; (conv => whnf))
    | (refine CALL0.cutBy lvMono _ _ _ _ _ (leL_refl _) (c_machine ..) rfl ?_; conv => whnf)
    | (refine CALL0.by (c_machine ..) rfl ?_; conv => whnf)
    | (refine CALLQ.mk _ _ _ (leL_refl _) (c_machine ..) rfl ?_; conv => whnf)
    | (refine CALL0.cutBy lvMono _ _ _ _ _ (leL_refl _) (c_state ..) rfl ?_; conv => whnf)
    | (refine CALL0.by (c_state ..) rfl ?_; conv => whnf)
    | (refine CALLQ.mk _ _ _ (leL_refl _) (c_state ..) rfl ?_; conv => whnf)
    | (refine CALL0.cutBy lvMono _ _ _ _ _ (leL_refl _) (P0 ..) rfl ?_; conv => whnf)
    | (refine CALL0.by (P0 ..) rfl ?_; conv => whnf)
    | (refine CALLQ.mk _ _ _ (leL_refl _) (P0 ..) rfl ?_; conv => whnf)
    | (refine CALL0.cutBy lvMono _ _ _ _ _ (leL_refl _) (P1 ..) rfl ?_; conv => whnf)
    | (refine CALL0.by (P1 ..) rfl ?_; conv => whnf)
    | (refine CALLQ.mk _ _ _ (leL_refl _) (P1 ..) rfl ?_; conv => whnf)
    | (refine CALL0.cutBy lvMono _ _ _ _ _ (leL_refl _) (F0 ..) rfl ?_; conv => whnf)
    | (refine CALL0.by (F0 ..) rfl ?_; conv => whnf)
    | (refine CALLQ.mk _ _ _ (leL_refl _) (F0 ..) rfl ?_; conv => whnf)
  split
  · rename_i h
    exact Bool.noConfusion ((q1).symm.trans h)
  rename_i hN
  clear hN
  conv => whnf
  split
  · rename_i h
    exact Bool.noConfusion ((q2).symm.trans h)
  rename_i hN
  clear hN
  conv => whnf
  repeat first
    | (refine DRAW.seek ?_; repeat (first | refine TRYD.take ?_ | refine TRYD.next ?_); conv => whnf)
    | (refine HOLD.mk (by first | exact trivial | exact ⟨⟨rfl, rfl⟩, trivial⟩ | exact ⟨⟨rfl, rfl⟩, ⟨rfl, rfl⟩, trivial⟩) ?_; (conv => whnf))
    | (refine CALL0.cutBy lvMono _ _ _ _ _ (leL_refl _) (c_machine ..) rfl ?_; conv => whnf)
    | (refine CALL0.by (c_machine ..) rfl ?_; conv => whnf)
    | (refine CALLQ.mk _ _ _ (leL_refl _) (c_machine ..) rfl ?_; conv => whnf)
  repeat first
    | (refine DRAW.seek ?_; repeat (first | refine TRYD.take ?_ | refine TRYD.next ?_); conv => whnf)
    | (refine HOLD.mk (by first | exact trivial | exact ⟨⟨rfl, rfl⟩, trivial⟩ | exact ⟨⟨rfl, rfl⟩, ⟨rfl, rfl⟩, trivial⟩) ?_; (conv => whnf))
    | (refine CALL0.cutBy lvMono _ _ _ _ _ (leL_refl _) (C1 ..) rfl ?_; conv => whnf)
    | (refine CALL0.by (C1 ..) rfl ?_; conv => whnf)
    | (refine CALLQ.mk _ _ _ (leL_refl _) (C1 ..) rfl ?_; conv => whnf)
    | (refine CALL0.cutBy lvMono _ _ _ _ _ (leL_refl _) (C2 ..) rfl ?_; conv => whnf)
    | (refine CALL0.by (C2 ..) rfl ?_; conv => whnf)
    | (refine CALLQ.mk _ _ _ (leL_refl _) (C2 ..) rfl ?_; conv => whnf)
    | (refine CALL0.cutBy lvMono _ _ _ _ _ (leL_refl _) (c_state ..) rfl ?_; conv => whnf)
    | (refine CALL0.by (c_state ..) rfl ?_; conv => whnf)
    | (refine CALLQ.mk _ _ _ (leL_refl _) (c_state ..) rfl ?_; conv => whnf)
    | (refine CALL0.cutBy lvMono _ _ _ _ _ (leL_refl _) (P2 ..) rfl ?_; conv => whnf)
    | (refine CALL0.by (P2 ..) rfl ?_; conv => whnf)
    | (refine CALLQ.mk _ _ _ (leL_refl _) (P2 ..) rfl ?_; conv => whnf)
    | (refine CALL0.cutBy lvMono _ _ _ _ _ (leL_refl _) (P3 ..) rfl ?_; conv => whnf)
    | (refine CALL0.by (P3 ..) rfl ?_; conv => whnf)
    | (refine CALLQ.mk _ _ _ (leL_refl _) (P3 ..) rfl ?_; conv => whnf)
    | (refine CALL0.cutBy lvMono _ _ _ _ _ (leL_refl _) (P4 ..) rfl ?_; conv => whnf)
    | (refine CALL0.by (P4 ..) rfl ?_; conv => whnf)
    | (refine CALLQ.mk _ _ _ (leL_refl _) (P4 ..) rfl ?_; conv => whnf)
    | (refine CALL0.cutBy lvMono _ _ _ _ _ (leL_refl _) (F1 ..) rfl ?_; conv => whnf)
    | (refine CALL0.by (F1 ..) rfl ?_; conv => whnf)
    | (refine CALLQ.mk _ _ _ (leL_refl _) (F1 ..) rfl ?_; conv => whnf)
    | (refine CALL0.cutBy lvMono _ _ _ _ _ (leL_refl _) (F2 ..) rfl ?_; conv => whnf)
    | (refine CALL0.by (F2 ..) rfl ?_; conv => whnf)
    | (refine CALLQ.mk _ _ _ (leL_refl _) (F2 ..) rfl ?_; conv => whnf)
    | (refine CALL0.cutBy lvMono _ _ _ _ _ (leL_refl _) (c_machine ..) rfl ?_; conv => whnf)
    | (refine CALL0.by (c_machine ..) rfl ?_; conv => whnf)
    | (refine CALLQ.mk _ _ _ (leL_refl _) (c_machine ..) rfl ?_; conv => whnf)
  split
  · rename_i h
    exact Bool.noConfusion ((q4).symm.trans h)
  rename_i hN
  clear hN
  conv => whnf
  split
  · rename_i h
    exact Bool.noConfusion ((q5).symm.trans h)
  rename_i hN
  clear hN
  conv => whnf
  split
  · rename_i h
    exact Bool.noConfusion ((q6).symm.trans h)
  rename_i hN
  clear hN
  conv => whnf
  repeat first
    | (refine DRAW.seek ?_; repeat (first | refine TRYD.take ?_ | refine TRYD.next ?_); conv => whnf)
    | (refine HOLD.mk (by first | exact trivial | exact ⟨⟨rfl, rfl⟩, trivial⟩ | exact ⟨⟨rfl, rfl⟩, ⟨rfl, rfl⟩, trivial⟩) ?_; (conv => whnf))
    | (refine CALL0.cutBy lvMono _ _ _ _ _ (leL_refl _) (c_machine ..) rfl ?_; conv => whnf)
    | (refine CALL0.by (c_machine ..) rfl ?_; conv => whnf)
    | (refine CALLQ.mk _ _ _ (leL_refl _) (c_machine ..) rfl ?_; conv => whnf)
    | (refine CALL0.cutBy lvMono _ _ _ _ _ (leL_refl _) (c_state ..) rfl ?_; conv => whnf)
    | (refine CALL0.by (c_state ..) rfl ?_; conv => whnf)
    | (refine CALLQ.mk _ _ _ (leL_refl _) (c_state ..) rfl ?_; conv => whnf)
    | (refine CALL0.cutBy lvMono _ _ _ _ _ (leL_refl _) (T0 ..) rfl ?_; conv => whnf)
    | (refine CALL0.by (T0 ..) rfl ?_; conv => whnf)
    | (refine CALLQ.mk _ _ _ (leL_refl _) (T0 ..) rfl ?_; conv => whnf)
  split
  · rename_i h
    exact Bool.noConfusion ((q7).symm.trans h)
  rename_i hN
  clear hN
  conv => whnf
  repeat first
    | (refine DRAW.seek ?_; repeat (first | refine TRYD.take ?_ | refine TRYD.next ?_); conv => whnf)
    | (refine HOLD.mk (by first | exact trivial | exact ⟨⟨rfl, rfl⟩, trivial⟩ | exact ⟨⟨rfl, rfl⟩, ⟨rfl, rfl⟩, trivial⟩) ?_; (conv => whnf))
    | (refine CALL0.cutBy lvMono _ _ _ _ _ (leL_refl _) (hA ..) rfl ?_; conv => whnf)
    | (refine CALL0.by (hA ..) rfl ?_; conv => whnf)
    | (refine CALLQ.mk _ _ _ (leL_refl _) (hA ..) rfl ?_; conv => whnf)
  exact ⟨rfl, rfl⟩

set_option maxHeartbeats 32000000 in
theorem mono_011 (up : List Ces) (hk : gl g_control_kinds = kindsI) (hg : gl g_internal_strconv_uint64pow10 = powI) (m : Mc) (s : Sta) (x y : Int) (hs : m.smallB = true) (ql : decide ((s.mode.size : Int) > 40) = false) (he : s.err m = 0) (qi : eqS s.mode sIdle = false)
    (st : Int) (hst : Int.tmod (IntKind.i64.wrap x) 3 = st) (h1 : 0 ≤ st) (h2 : st ≤ 2) (hkk : Int.tmod (IntKind.i64.wrap y) 3 = 0) (hsafe : s.safeN m = true) (hp : decide (s.pk m st > m.lim) = false) :
    Cs gl n_nacellelaw05_ControlMonotone up [m.iv, s.iv, .agg [.int .u8 x, .int .u8 y]] (.bool true) up := by
  obtain ⟨hm, hfe, hli, hra⟩ := small_ok hs (Mc.err_of (Sta.err_rng he).1)
  obtain ⟨_, hr, hl, hstk, htor, hkn, hft⟩ := Sta.err_rng he
  have g0 := hm.wind
  have g1 := hm.fea
  have g2 := hm.lim
  have g3 := hr.speed
  have g4 := hr.p0
  have g5 := hr.p1
  have g6 := hr.p2
  have e1 : w64 (s.speed - 1) = s.speed - 1 := by rw [w64, wrap_in] <;> omega
  have e2 : w64 (s.p0 + 1) = s.p0 + 1 := by rw [w64, wrap_in] <;> omega
  have e3 : w64 (m.wind - 1) = m.wind - 1 := by rw [w64, wrap_in] <;> omega
  have heS : (Sta.mk s.mode (maxW 0 (w64 (s.speed - 1))) s.p0 s.p1 s.p2 s.tor s.stuck).err m = 0 := err_other he qi rfl rfl rfl (by show 0 ≤ maxW 0 _ ∧ maxW 0 _ ≤ _; rw [e1, maxW_eq]; omega) g4 g5 g6
  have hmin : 0 ≤ minW m.fea (w64 (s.p0 + 1)) ∧ minW m.fea (w64 (s.p0 + 1)) ≤ m.fea ∧ s.p0 ≤ minW m.fea (w64 (s.p0 + 1)) := by
    rw [e2]; unfold minW; split <;> omega
  have heN : (Sta.mk s.mode s.speed (minW m.fea (w64 (s.p0 + 1))) s.p1 s.p2 s.tor s.stuck).err m = 0 := err_other he qi rfl rfl rfl ⟨g3.1, hl⟩ ⟨hmin.1, hmin.2.1⟩ g5 g6
  have hc : (Mc.mk (maxW 1 (w64 (m.wind - 1))) m.fea m.rate m.tor m.lim m.rated m.gain).ok := ⟨by show 1 ≤ maxW 1 _ ∧ maxW 1 _ ≤ 100; rw [e3, maxW_eq]; omega, hm.fea, hm.rate, hm.tor, hm.lim, hm.rated, hm.gain, by
    have := hm.two
    show maxW 1 _ < 2 * m.fea
    rw [e3, maxW_eq]; omega⟩
  have heC : s.err (Mc.mk (maxW 1 (w64 (m.wind - 1))) m.fea m.rate m.tor m.lim m.rated m.gain) = 0 := err_machine he hc rfl rfl rfl
  have hsp : s.speed ≤ 10000 := by omega
  have leS : (Sta.mk s.mode (maxW 0 (w64 (s.speed - 1))) s.p0 s.p1 s.p2 s.tor s.stuck).le s := ⟨by show maxW 0 _ ≤ _; rw [e1, maxW_eq]; omega, Int.le_refl _, Int.le_refl _, Int.le_refl _⟩
  have leN : (Sta.mk s.mode s.speed (minW m.fea (w64 (s.p0 + 1))) s.p1 s.p2 s.tor s.stuck).le s := ⟨Int.le_refl _, hmin.2.2, Int.le_refl _, Int.le_refl _⟩
  have k1 : -1 ≤ st := by omega
  obtain ⟨_, hrS, hlS, _⟩ := Sta.err_rng heS
  obtain ⟨_, hrN, hlN, _⟩ := Sta.err_rng heN
  obtain ⟨_, hrC, hlC, _⟩ := Sta.err_rng heC
  have b0 := pk_ge (m := m) (s := s) (k := st)
  have b1 := pk_le hm hm rfl rfl (Int.le_refl _) (s := s) (t := s) (k := -1) (k' := st) (by omega) (by omega) k1 h2 (.inr rfl) hr hr hsp hsp s.le_refl
  have b2 := pk_le hm hm rfl rfl (Int.le_refl _) (k := st) (k' := st) k1 h2 k1 h2 (.inl rfl) hrS hr (by omega) hsp leS
  have b3 := pk_le hm hm rfl rfl (Int.le_refl _) (k := st) (k' := st) k1 h2 k1 h2 (.inl rfl) hrN hr (by omega) hsp leN
  have b4 := pk_le hc hm rfl rfl (by show maxW 1 _ ≤ m.wind; rw [e3, maxW_eq]; omega) (s := s) (t := s) (k := st) (k' := st) k1 h2 k1 h2 (.inl rfl) hrC hr hsp hsp s.le_refl
  have hS := fun up => c_rSmall (gl := gl) up m
  rw [hs] at hS
  have hE := fun up => c_rState (gl := gl) up m s
  rw [he] at hE
  have hA := fun up => c_awake (gl := gl) up hk hg
  have P0 := fun up => c_PeakOk (gl := gl) up s m st he k1 h2
  have P1 := fun up => c_PeakOk (gl := gl) up s m (-1) he (by omega) (by omega)
  have P2 := fun up => c_PeakOk (gl := gl) up _ m st heS k1 h2
  have P3 := fun up => c_PeakOk (gl := gl) up _ m st heN k1 h2
  have P4 := fun up => c_PeakOk (gl := gl) up s _ st heC k1 h2
  have F0 := fun up => c_SafeOk (gl := gl) up s m he
  have F1 := fun up => c_SafeOk (gl := gl) up _ m heS
  have F2 := fun up => c_SafeOk (gl := gl) up _ m heN
  have C1 := fun up => c_state (gl := gl) up (Sta.mk s.mode (maxW 0 (w64 (s.speed - 1))) s.p0 s.p1 s.p2 s.tor s.stuck)
  have C2 := fun up => c_state (gl := gl) up (Sta.mk s.mode s.speed (minW m.fea (w64 (s.p0 + 1))) s.p1 s.p2 s.tor s.stuck)
  have T0 := fun up => c_StopOk (gl := gl) up s m st he k1 h2
  rw [hsafe] at F0
  rw [hp] at T0
  have s1 := safe_mono hm hrS hr (by omega) hsp leS rfl hsafe
  have s2 := safe_mono hm hrN hr (by omega) hsp leN rfl hsafe
  rw [s1] at F1
  rw [s2] at F2
  have q1 : decide (s.pk m st < s.speed) = false := decide_eq_false (by omega)
  have q2 : decide (s.pk m (-1) > s.pk m st) = false := decide_eq_false (by omega)
  obtain ⟨n, hn⟩ : ∃ n, n = s.num m st := ⟨_, rfl⟩
  have hn2 := num_small hm hfe hli hr hl k1 h2
  rw [← hn] at P0 T0 hn2
  have q4 : decide ((Sta.mk s.mode (maxW 0 (w64 (s.speed - 1))) s.p0 s.p1 s.p2 s.tor s.stuck).pk m st > s.pk m st) = false := decide_eq_false (by omega)
  have q5 : decide ((Sta.mk s.mode s.speed (minW m.fea (w64 (s.p0 + 1))) s.p1 s.p2 s.tor s.stuck).pk m st > s.pk m st) = false := decide_eq_false (by omega)
  have q6 : decide (s.pk (Mc.mk (maxW 1 (w64 (m.wind - 1))) m.fea m.rate m.tor m.lim m.rated m.gain) st > s.pk m st) = false := decide_eq_false (by omega)
  have q7 : (!(true == decide (s.pk m st ≤ m.lim))) = false := by
    have := of_decide_eq_false hp
    rw [show decide (s.pk m st ≤ m.lim) = true from decide_eq_true (by omega)]; rfl
  have q8 : (((1 + n : Nat) : Int) == w64 ((n : Int) + 1)) = true := by
    rw [w64, wrap_in (by omega) (by omega)]
    have : ((1 + n : Nat) : Int) = (n : Int) + 1 := by omega
    simpa using this
  have hCS := fun up => c_CheckStop (gl := gl) up s m st (1 + n) (by omega) (s.stopS m st)
  have eCS : csErr s m st (1 + n) (s.stopS m st) = 0 := by
    rw [cs_err]
    have e0 : s.err0 m st = 0 := by
      unfold Sta.err0
      rw [he, withinS_zero.2 ⟨k1, h2⟩]; rfl
    rw [e0, show ∀ x, orE 0 x = x from fun x => orE_no rfl]
    unfold rcsErr
    rw [show decide (((1 + n : Nat) : Int) > 4096) = false from decide_eq_false (by omega), hp, ← hn, sameSt_refl]; rfl
  rw [eCS] at hCS
  simp only [cond_true, cond_false] at T0
  clear b0 b1 b2 b3 b4 hrS hlS hrN hlN hrC hlC leS leN heS heN heC e1 e2 e3 g0 g1 g2 g3 g4 g5 g6 hr hl hstk htor hkn hft hfe hli hra hn hsafe hp he hsp
  refine mk h_nacellelaw05_ControlMonotone rfl rfl ?_
  conv => whnf
  repeat first
    | (refine DRAW.seek ?_; repeat (first | refine TRYD.take ?_ | refine TRYD.next ?_); conv => whnf)
    | (refine HOLD.mk (by first | exact trivial | exact ⟨⟨rfl, rfl⟩, trivial⟩ | exact ⟨⟨rfl, rfl⟩, ⟨rfl, rfl⟩, trivial⟩) ?_; (conv => whnf))
    | (refine CALL0.cutBy lvMono _ _ _ _ _ (leL_refl _) (hS ..) rfl ?_; conv => whnf)
    | (refine CALL0.by (hS ..) rfl ?_; conv => whnf)
    | (refine CALLQ.mk _ _ _ (leL_refl _) (hS ..) rfl ?_; conv => whnf)
  split
  · rename_i h
    exact Bool.noConfusion ((ql).symm.trans h)
  rename_i hN
  clear hN
  conv => whnf
  repeat first
    | (refine DRAW.seek ?_; repeat (first | refine TRYD.take ?_ | refine TRYD.next ?_); conv => whnf)
    | (refine HOLD.mk (by first | exact trivial | exact ⟨⟨rfl, rfl⟩, trivial⟩ | exact ⟨⟨rfl, rfl⟩, ⟨rfl, rfl⟩, trivial⟩) ?_; (conv => whnf))
    | (refine CALL0.cutBy lvMono _ _ _ _ _ (leL_refl _) (hE ..) rfl ?_; conv => whnf)
    | (refine CALL0.by (hE ..) rfl ?_; conv => whnf)
    | (refine CALLQ.mk _ _ _ (leL_refl _) (hE ..) rfl ?_; conv => whnf)
  split
  · rename_i h
    exact Bool.noConfusion ((qi).symm.trans h)
  rename_i hN
  clear hN
  conv => whnf
  refine DRAW.seek ?_
  repeat (first | refine TRYD.take ?_ | refine TRYD.next ?_)
  conv => whnf
  simp only [hst, hkk]
  repeat first
    | (refine DRAW.seek ?_; repeat (first | refine TRYD.take ?_ | refine TRYD.next ?_); conv => whnf)
    | (refine HOLD.mk (by first | exact trivial | exact ⟨⟨rfl, rfl⟩, trivial⟩ | exact ⟨⟨rfl, rfl⟩, ⟨rfl, rfl⟩, trivial⟩) ?_; (conv => whnf))
    | (refine CALL0.cutBy lvMono _ _ _ _ _ (leL_refl _) (c_machine ..) rfl ?_; conv => whnf)
    | (refine CALL0.by (c_machine ..) rfl ?_; conv => whnf)
    | (refine CALLQ.mk _ _ _ (leL_refl _) (c_machine ..) rfl ?_; conv => whnf)
    | (refine CALL0.cutBy lvMono _ _ _ _ _ (leL_refl _) (c_state ..) rfl ?_; conv => whnf)
    | (refine CALL0.by (c_state ..) rfl ?_; conv => whnf)
    | (refine CALLQ.mk _ _ _ (leL_refl _) (c_state ..) rfl ?_; conv => whnf)
    | (refine CALL0.cutBy lvMono _ _ _ _ _ (leL_refl _) (P0 ..) rfl ?_; conv => whnf)
    | (refine CALL0.by (P0 ..) rfl ?_; conv => whnf)
    | (refine CALLQ.mk _ _ _ (leL_refl _) (P0 ..) rfl ?_; conv => whnf)
    | (refine CALL0.cutBy lvMono _ _ _ _ _ (leL_refl _) (P1 ..) rfl ?_; conv => whnf)
    | (refine CALL0.by (P1 ..) rfl ?_; conv => whnf)
    | (refine CALLQ.mk _ _ _ (leL_refl _) (P1 ..) rfl ?_; conv => whnf)
    | (refine CALL0.cutBy lvMono _ _ _ _ _ (leL_refl _) (F0 ..) rfl ?_; conv => whnf)
    | (refine CALL0.by (F0 ..) rfl ?_; conv => whnf)
    | (refine CALLQ.mk _ _ _ (leL_refl _) (F0 ..) rfl ?_; conv => whnf)
  split
  · rename_i h
    exact Bool.noConfusion ((q1).symm.trans h)
  rename_i hN
  clear hN
  conv => whnf
  split
  · rename_i h
    exact Bool.noConfusion ((q2).symm.trans h)
  rename_i hN
  clear hN
  conv => whnf
  repeat first
    | (refine DRAW.seek ?_; repeat (first | refine TRYD.take ?_ | refine TRYD.next ?_); conv => whnf)
    | (refine HOLD.mk (by first | exact trivial | exact ⟨⟨rfl, rfl⟩, trivial⟩ | exact ⟨⟨rfl, rfl⟩, ⟨rfl, rfl⟩, trivial⟩) ?_; (conv => whnf))
    | (refine CALL0.cutBy lvMono _ _ _ _ _ (leL_refl _) (c_machine ..) rfl ?_; conv => whnf)
    | (refine CALL0.by (c_machine ..) rfl ?_; conv => whnf)
    | (refine CALLQ.mk _ _ _ (leL_refl _) (c_machine ..) rfl ?_; conv => whnf)
  repeat first
    | (refine DRAW.seek ?_; repeat (first | refine TRYD.take ?_ | refine TRYD.next ?_); conv => whnf)
    | (refine HOLD.mk (by first | exact trivial | exact ⟨⟨rfl, rfl⟩, trivial⟩ | exact ⟨⟨rfl, rfl⟩, ⟨rfl, rfl⟩, trivial⟩) ?_; (conv => whnf))
    | (refine CALL0.cutBy lvMono _ _ _ _ _ (leL_refl _) (C1 ..) rfl ?_; conv => whnf)
    | (refine CALL0.by (C1 ..) rfl ?_; conv => whnf)
    | (refine CALLQ.mk _ _ _ (leL_refl _) (C1 ..) rfl ?_; conv => whnf)
    | (refine CALL0.cutBy lvMono _ _ _ _ _ (leL_refl _) (C2 ..) rfl ?_; conv => whnf)
    | (refine CALL0.by (C2 ..) rfl ?_; conv => whnf)
    | (refine CALLQ.mk _ _ _ (leL_refl _) (C2 ..) rfl ?_; conv => whnf)
    | (refine CALL0.cutBy lvMono _ _ _ _ _ (leL_refl _) (c_state ..) rfl ?_; conv => whnf)
    | (refine CALL0.by (c_state ..) rfl ?_; conv => whnf)
    | (refine CALLQ.mk _ _ _ (leL_refl _) (c_state ..) rfl ?_; conv => whnf)
    | (refine CALL0.cutBy lvMono _ _ _ _ _ (leL_refl _) (P2 ..) rfl ?_; conv => whnf)
    | (refine CALL0.by (P2 ..) rfl ?_; conv => whnf)
    | (refine CALLQ.mk _ _ _ (leL_refl _) (P2 ..) rfl ?_; conv => whnf)
    | (refine CALL0.cutBy lvMono _ _ _ _ _ (leL_refl _) (P3 ..) rfl ?_; conv => whnf)
    | (refine CALL0.by (P3 ..) rfl ?_; conv => whnf)
    | (refine CALLQ.mk _ _ _ (leL_refl _) (P3 ..) rfl ?_; conv => whnf)
    | (refine CALL0.cutBy lvMono _ _ _ _ _ (leL_refl _) (P4 ..) rfl ?_; conv => whnf)
    | (refine CALL0.by (P4 ..) rfl ?_; conv => whnf)
    | (refine CALLQ.mk _ _ _ (leL_refl _) (P4 ..) rfl ?_; conv => whnf)
    | (refine CALL0.cutBy lvMono _ _ _ _ _ (leL_refl _) (F1 ..) rfl ?_; conv => whnf)
    | (refine CALL0.by (F1 ..) rfl ?_; conv => whnf)
    | (refine CALLQ.mk _ _ _ (leL_refl _) (F1 ..) rfl ?_; conv => whnf)
    | (refine CALL0.cutBy lvMono _ _ _ _ _ (leL_refl _) (F2 ..) rfl ?_; conv => whnf)
    | (refine CALL0.by (F2 ..) rfl ?_; conv => whnf)
    | (refine CALLQ.mk _ _ _ (leL_refl _) (F2 ..) rfl ?_; conv => whnf)
    | (refine CALL0.cutBy lvMono _ _ _ _ _ (leL_refl _) (c_machine ..) rfl ?_; conv => whnf)
    | (refine CALL0.by (c_machine ..) rfl ?_; conv => whnf)
    | (refine CALLQ.mk _ _ _ (leL_refl _) (c_machine ..) rfl ?_; conv => whnf)
  split
  · rename_i h
    exact Bool.noConfusion ((q4).symm.trans h)
  rename_i hN
  clear hN
  conv => whnf
  split
  · rename_i h
    exact Bool.noConfusion ((q5).symm.trans h)
  rename_i hN
  clear hN
  conv => whnf
  split
  · rename_i h
    exact Bool.noConfusion ((q6).symm.trans h)
  rename_i hN
  clear hN
  conv => whnf
  repeat first
    | (refine DRAW.seek ?_; repeat (first | refine TRYD.take ?_ | refine TRYD.next ?_); conv => whnf)
    | (refine HOLD.mk (by first | exact trivial | exact ⟨⟨rfl, rfl⟩, trivial⟩ | exact ⟨⟨rfl, rfl⟩, ⟨rfl, rfl⟩, trivial⟩) ?_; (conv => whnf))
    | (refine CALL0.cutBy lvMono _ _ _ _ _ (leL_refl _) (c_machine ..) rfl ?_; conv => whnf)
    | (refine CALL0.by (c_machine ..) rfl ?_; conv => whnf)
    | (refine CALLQ.mk _ _ _ (leL_refl _) (c_machine ..) rfl ?_; conv => whnf)
    | (refine CALL0.cutBy lvMono _ _ _ _ _ (leL_refl _) (c_state ..) rfl ?_; conv => whnf)
    | (refine CALL0.by (c_state ..) rfl ?_; conv => whnf)
    | (refine CALLQ.mk _ _ _ (leL_refl _) (c_state ..) rfl ?_; conv => whnf)
    | (refine CALL0.cutBy lvMono _ _ _ _ _ (leL_refl _) (T0 ..) rfl ?_; conv => whnf)
    | (refine CALL0.by (T0 ..) rfl ?_; conv => whnf)
    | (refine CALLQ.mk _ _ _ (leL_refl _) (T0 ..) rfl ?_; conv => whnf)
  split
  · rename_i h
    exact Bool.noConfusion ((q7).symm.trans h)
  rename_i hN
  clear hN
  conv => whnf
  refine DRAW.seek ?_
  repeat (first | refine TRYD.take ?_ | refine TRYD.next ?_)
  conv => whnf
  rw [show (((1 + n : Nat) : Int) == IntKind.i64.wrap ((n : Int) + 1)) = true from q8]
  conv => whnf
  repeat first
    | (refine DRAW.seek ?_; repeat (first | refine TRYD.take ?_ | refine TRYD.next ?_); conv => whnf)
    | (refine HOLD.mk (by first | exact trivial | exact ⟨⟨rfl, rfl⟩, trivial⟩ | exact ⟨⟨rfl, rfl⟩, ⟨rfl, rfl⟩, trivial⟩) ?_; (conv => whnf))
    | (refine CALL0.cutBy lvMono _ _ _ _ _ (leL_refl _) (c_machine ..) rfl ?_; conv => whnf)
    | (refine CALL0.by (c_machine ..) rfl ?_; conv => whnf)
    | (refine CALLQ.mk _ _ _ (leL_refl _) (c_machine ..) rfl ?_; conv => whnf)
    | (refine CALL0.cutBy lvMono _ _ _ _ _ (leL_refl _) (c_state ..) rfl ?_; conv => whnf)
    | (refine CALL0.by (c_state ..) rfl ?_; conv => whnf)
    | (refine CALLQ.mk _ _ _ (leL_refl _) (c_state ..) rfl ?_; conv => whnf)
    | (refine CALL0.cutBy lvMono _ _ _ _ _ (leL_refl _) (hCS ..) rfl ?_; conv => whnf)
    | (refine CALL0.by (hCS ..) rfl ?_; conv => whnf)
    | (refine CALLQ.mk _ _ _ (leL_refl _) (hCS ..) rfl ?_; conv => whnf)
    | (refine CALL0.cutBy lvMono _ _ _ _ _ (leL_refl _) (hA ..) rfl ?_; conv => whnf)
    | (refine CALL0.by (hA ..) rfl ?_; conv => whnf)
    | (refine CALLQ.mk _ _ _ (leL_refl _) (hA ..) rfl ?_; conv => whnf)
  exact ⟨rfl, rfl⟩
end Go.Proofs.YtkdlegfakefjgaaDoor.Ix

/-
  Kt4: ControlMonotone: the law (another blade).
-/
namespace Go.Proofs.YtkdlegfakefjgaaDoor.Ix
open Go.Proofs
set_option maxRecDepth 100000
set_option linter.unusedVariables false
set_option linter.unusedSimpArgs false
variable {gl : Nat → IV}
/-- What is read behind each call. -/
def lvMono1 : List (Nat × List Nat) := [(36, [3, 4, 5, 6, 7, 8, 9, 10, 11, 36]), (47, [3, 4, 5, 6, 7, 8, 9, 10, 11, 44, 47]), (55, [3, 4, 5, 6, 7, 8, 9, 10, 11, 55]), (66, [3, 4, 6, 7, 8, 9, 10, 11, 66]), (68, [3, 4, 6, 7, 8, 9, 10, 11, 66, 68]), (70, [3, 4, 6, 7, 8, 9, 10, 11, 70]), (76, [3, 4, 6, 7, 8, 9, 10, 11, 76]), (78, [3, 4, 6, 7, 8, 9, 10, 11, 76, 78]), (79, [3, 4, 6, 7, 8, 9, 10, 11, 79]), (85, [3, 4, 6, 7, 8, 9, 10, 11, 12, 14, 85]), (87, [3, 4, 6, 7, 8, 9, 10, 11, 12, 14, 85, 87]), (88, [3, 4, 6, 7, 8, 9, 10, 11, 12, 14, 88]), (115, [3, 4, 6, 7, 8, 9, 10, 15, 112, 113, 115]), (139, [3, 4, 6, 7, 9, 10, 15, 17, 18, 19, 139]), (141, [3, 4, 6, 7, 9, 10, 15, 17, 18, 19, 139, 141]), (143, [3, 4, 6, 7, 9, 10, 15, 17, 18, 19, 143]), (149, [3, 4, 6, 7, 9, 10, 15, 17, 18, 19, 20, 22, 149]), (151, [3, 4, 6, 7, 9, 10, 15, 17, 18, 19, 20, 22, 149, 151]), (153, [3, 4, 6, 7, 9, 10, 15, 17, 18, 19, 20, 22, 153]), (160, [3, 4, 6, 7, 9, 10, 15, 17, 18, 20, 22, 23, 25, 158, 160]), (162, [3, 4, 6, 7, 9, 10, 15, 17, 18, 20, 22, 23, 25, 162]), (168, [3, 4, 6, 7, 9, 10, 15, 17, 18, 20, 22, 23, 25, 26, 28, 168]), (170, [3, 4, 6, 7, 9, 10, 15, 18, 20, 22, 23, 25, 26, 28, 168, 170]), (171, [3, 4, 6, 7, 9, 10, 15, 18, 20, 22, 23, 25, 26, 28, 171]), (176, [3, 4, 6, 7, 9, 10, 15, 18, 20, 22, 23, 25, 26, 28, 29, 30, 176]), (178, [3, 4, 6, 7, 9, 10, 15, 20, 22, 23, 25, 26, 28, 29, 30, 176, 178]), (179, [3, 4, 6, 7, 9, 10, 15, 20, 22, 23, 25, 26, 28, 29, 30, 179]), (220, [3, 4, 6, 7, 9, 10, 220]), (222, [3, 4, 6, 7, 9, 10, 220, 222]), (224, [3, 4, 6, 7, 9, 10, 224]), (252, [4, 6, 7, 33, 244, 250, 252]), (254, [6, 7, 33, 244, 250, 252, 254]), (257, [6, 244, 250, 257]), (262, [6, 261, 262])]

set_option maxHeartbeats 32000000 in
theorem mono_100 (up : List Ces) (hk : gl g_control_kinds = kindsI) (hg : gl g_internal_strconv_uint64pow10 = powI) (m : Mc) (s : Sta) (x y : Int) (hs : m.smallB = true) (ql : decide ((s.mode.size : Int) > 40) = false) (he : s.err m = 0) (qi : eqS s.mode sIdle = false)
    (st : Int) (hst : Int.tmod (IntKind.i64.wrap x) 3 = st) (h1 : 0 ≤ st) (h2 : st ≤ 2) (hkk : Int.tmod (IntKind.i64.wrap y) 3 = 1) (hsafe : s.safeN m = false) (hp : decide (s.pk m st > m.lim) = true) :
    Cs gl n_nacellelaw05_ControlMonotone up [m.iv, s.iv, .agg [.int .u8 x, .int .u8 y]] (.bool true) up := by
  obtain ⟨hm, hfe, hli, hra⟩ := small_ok hs (Mc.err_of (Sta.err_rng he).1)
  obtain ⟨_, hr, hl, hstk, htor, hkn, hft⟩ := Sta.err_rng he
  have g0 := hm.wind
  have g1 := hm.fea
  have g2 := hm.lim
  have g3 := hr.speed
  have g4 := hr.p0
  have g5 := hr.p1
  have g6 := hr.p2
  have e1 : w64 (s.speed - 1) = s.speed - 1 := by rw [w64, wrap_in] <;> omega
  have e2 : w64 (s.p1 + 1) = s.p1 + 1 := by rw [w64, wrap_in] <;> omega
  have e3 : w64 (m.wind - 1) = m.wind - 1 := by rw [w64, wrap_in] <;> omega
  have heS : (Sta.mk s.mode (maxW 0 (w64 (s.speed - 1))) s.p0 s.p1 s.p2 s.tor s.stuck).err m = 0 := err_other he qi rfl rfl rfl (by show 0 ≤ maxW 0 _ ∧ maxW 0 _ ≤ _; rw [e1, maxW_eq]; omega) g4 g5 g6
  have hmin : 0 ≤ minW m.fea (w64 (s.p1 + 1)) ∧ minW m.fea (w64 (s.p1 + 1)) ≤ m.fea ∧ s.p1 ≤ minW m.fea (w64 (s.p1 + 1)) := by
    rw [e2]; unfold minW; split <;> omega
  have heN : (Sta.mk s.mode s.speed s.p0 (minW m.fea (w64 (s.p1 + 1))) s.p2 s.tor s.stuck).err m = 0 := err_other he qi rfl rfl rfl ⟨g3.1, hl⟩ g4 ⟨hmin.1, hmin.2.1⟩ g6
  have hc : (Mc.mk (maxW 1 (w64 (m.wind - 1))) m.fea m.rate m.tor m.lim m.rated m.gain).ok := ⟨by show 1 ≤ maxW 1 _ ∧ maxW 1 _ ≤ 100; rw [e3, maxW_eq]; omega, hm.fea, hm.rate, hm.tor, hm.lim, hm.rated, hm.gain, by
    have := hm.two
    show maxW 1 _ < 2 * m.fea
    rw [e3, maxW_eq]; omega⟩
  have heC : s.err (Mc.mk (maxW 1 (w64 (m.wind - 1))) m.fea m.rate m.tor m.lim m.rated m.gain) = 0 := err_machine he hc rfl rfl rfl
  have hsp : s.speed ≤ 10000 := by omega
  have leS : (Sta.mk s.mode (maxW 0 (w64 (s.speed - 1))) s.p0 s.p1 s.p2 s.tor s.stuck).le s := ⟨by show maxW 0 _ ≤ _; rw [e1, maxW_eq]; omega, Int.le_refl _, Int.le_refl _, Int.le_refl _⟩
  have leN : (Sta.mk s.mode s.speed s.p0 (minW m.fea (w64 (s.p1 + 1))) s.p2 s.tor s.stuck).le s := ⟨Int.le_refl _, Int.le_refl _, hmin.2.2, Int.le_refl _⟩
  have k1 : -1 ≤ st := by omega
  obtain ⟨_, hrS, hlS, _⟩ := Sta.err_rng heS
  obtain ⟨_, hrN, hlN, _⟩ := Sta.err_rng heN
  obtain ⟨_, hrC, hlC, _⟩ := Sta.err_rng heC
  have b0 := pk_ge (m := m) (s := s) (k := st)
  have b1 := pk_le hm hm rfl rfl (Int.le_refl _) (s := s) (t := s) (k := -1) (k' := st) (by omega) (by omega) k1 h2 (.inr rfl) hr hr hsp hsp s.le_refl
  have b2 := pk_le hm hm rfl rfl (Int.le_refl _) (k := st) (k' := st) k1 h2 k1 h2 (.inl rfl) hrS hr (by omega) hsp leS
  have b3 := pk_le hm hm rfl rfl (Int.le_refl _) (k := st) (k' := st) k1 h2 k1 h2 (.inl rfl) hrN hr (by omega) hsp leN
  have b4 := pk_le hc hm rfl rfl (by show maxW 1 _ ≤ m.wind; rw [e3, maxW_eq]; omega) (s := s) (t := s) (k := st) (k' := st) k1 h2 k1 h2 (.inl rfl) hrC hr hsp hsp s.le_refl
  have hS := fun up => c_rSmall (gl := gl) up m
  rw [hs] at hS
  have hE := fun up => c_rState (gl := gl) up m s
  rw [he] at hE
  have hA := fun up => c_awake (gl := gl) up hk hg
  have P0 := fun up => c_PeakOk (gl := gl) up s m st he k1 h2
  have P1 := fun up => c_PeakOk (gl := gl) up s m (-1) he (by omega) (by omega)
  have P2 := fun up => c_PeakOk (gl := gl) up _ m st heS k1 h2
  have P3 := fun up => c_PeakOk (gl := gl) up _ m st heN k1 h2
  have P4 := fun up => c_PeakOk (gl := gl) up s _ st heC k1 h2
  have F0 := fun up => c_SafeOk (gl := gl) up s m he
  have F1 := fun up => c_SafeOk (gl := gl) up _ m heS
  have F2 := fun up => c_SafeOk (gl := gl) up _ m heN
  have C1 := fun up => c_state (gl := gl) up (Sta.mk s.mode (maxW 0 (w64 (s.speed - 1))) s.p0 s.p1 s.p2 s.tor s.stuck)
  have C2 := fun up => c_state (gl := gl) up (Sta.mk s.mode s.speed s.p0 (minW m.fea (w64 (s.p1 + 1))) s.p2 s.tor s.stuck)
  have T0 := fun up => c_StopOk (gl := gl) up s m st he k1 h2
  rw [hsafe] at F0
  rw [hp] at T0
  have q1 : decide (s.pk m st < s.speed) = false := decide_eq_false (by omega)
  have q2 : decide (s.pk m (-1) > s.pk m st) = false := decide_eq_false (by omega)
  obtain ⟨n, hn⟩ : ∃ n, n = s.num m st := ⟨_, rfl⟩
  have hn2 := num_small hm hfe hli hr hl k1 h2
  rw [← hn] at P0 T0 hn2
  have q4 : decide ((Sta.mk s.mode (maxW 0 (w64 (s.speed - 1))) s.p0 s.p1 s.p2 s.tor s.stuck).pk m st > s.pk m st) = false := decide_eq_false (by omega)
  have q5 : decide ((Sta.mk s.mode s.speed s.p0 (minW m.fea (w64 (s.p1 + 1))) s.p2 s.tor s.stuck).pk m st > s.pk m st) = false := decide_eq_false (by omega)
  have q6 : decide (s.pk (Mc.mk (maxW 1 (w64 (m.wind - 1))) m.fea m.rate m.tor m.lim m.rated m.gain) st > s.pk m st) = false := decide_eq_false (by omega)
  have q7 : (!(false == decide (s.pk m st ≤ m.lim))) = false := by
    have := of_decide_eq_true hp
    rw [show decide (s.pk m st ≤ m.lim) = false from decide_eq_false (by omega)]; rfl
  simp only [cond_true, cond_false] at T0
  clear b0 b1 b2 b3 b4 hrS hlS hrN hlN hrC hlC leS leN heS heN heC e1 e2 e3 g0 g1 g2 g3 g4 g5 g6 hr hl hstk htor hkn hft hfe hli hra hn hsafe hp he hsp
  refine mk h_nacellelaw05_ControlMonotone rfl rfl ?_
  conv => whnf
  repeat first
    | (refine DRAW.seek ?_; repeat (first | refine TRYD.take ?_ | refine TRYD.next ?_); conv => whnf)
    | (refine HOLD.mk (by first | exact trivial | exact ⟨⟨rfl, rfl⟩, trivial⟩ | exact ⟨⟨rfl, rfl⟩, ⟨rfl, rfl⟩, trivial⟩) ?_; (conv => whnf))
    | (refine CALL0.cutBy lvMono1 _ _ _ _ _ (leL_refl _) (hS ..) rfl ?_; conv => whnf)
    | (refine CALL0.by (hS ..) rfl ?_; conv => whnf)
    | (refine CALLQ.mk _ _ _ (leL_refl _) (hS ..) rfl ?_; conv => whnf)
  split
  · rename_i h
    exact Bool.noConfusion ((ql).symm.trans h)
  rename_i hN
  clear hN
  conv => whnf
  repeat first
    | (refine DRAW.seek ?_; repeat (first | refine TRYD.take ?_ | refine TRYD.next ?_); conv => whnf)
    | (refine HOLD.mk (by first | exact trivial | exact ⟨⟨rfl, rfl⟩, trivial⟩ | exact ⟨⟨rfl, rfl⟩, ⟨rfl, rfl⟩, trivial⟩) ?_; (conv => whnf))
    | (refine CALL0.cutBy lvMono1 _ _ _ _ _ (leL_refl _) (hE ..) rfl ?_; conv => whnf)
    | (refine CALL0.by (hE ..) rfl ?_; conv => whnf)
    | (refine CALLQ.mk _ _ _ (leL_refl _) (hE ..) rfl ?_; conv => whnf)
  split
  · rename_i h
    exact Bool.noConfusion ((qi).symm.trans h)
  rename_i hN
  clear hN
  conv => whnf
  refine DRAW.seek ?_
  repeat (first | refine TRYD.take ?_ | refine TRYD.next ?_)
  conv => whnf
  simp only [hst, hkk]
  repeat first
    | (refine DRAW.seek ?_; repeat (first | refine TRYD.take ?_ | refine TRYD.next ?_); conv => whnf)
    | (refine HOLD.mk (by first | exact trivial | exact ⟨⟨rfl, rfl⟩, trivial⟩ | exact ⟨⟨rfl, rfl⟩, ⟨rfl, rfl⟩, trivial⟩) ?_; (conv => whnf))
    | (refine CALL0.cutBy lvMono1 _ _ _ _ _ (leL_refl _) (c_machine ..) rfl ?_; conv => whnf)
    | (refine CALL0.by (c_machine ..) rfl ?_; conv => whnf)
    | (refine CALLQ.mk _ _ _ (leL_refl _) (c_machine ..) rfl ?_; conv => whnf)
    | (refine CALL0.cutBy lvMono1 _ _ _ _ _ (leL_refl _) (c_state ..) rfl ?_; conv => whnf)
    | (refine CALL0.by (c_state ..) rfl ?_; conv => whnf)
    | (refine CALLQ.mk _ _ _ (leL_refl _) (c_state ..) rfl ?_; conv => whnf)
    | (refine CALL0.cutBy lvMono1 _ _ _ _ _ (leL_refl _) (P0 ..) rfl ?_; conv => whnf)
    | (refine CALL0.by (P0 ..) rfl ?_; conv => whnf)
    | (refine CALLQ.mk _ _ _ (leL_refl _) (P0 ..) rfl ?_; conv => whnf)
    | (refine CALL0.cutBy lvMono1 _ _ _ _ _ (leL_refl _) (P1 ..) rfl ?_; conv => whnf)
    | (refine CALL0.by (P1 ..) rfl ?_; conv => whnf)
    | (refine CALLQ.mk _ _ _ (leL_refl _) (P1 ..) rfl ?_; conv => whnf)
    | (refine CALL0.cutBy lvMono1 _ _ _ _ _ (leL_refl _) (F0 ..) rfl ?_; conv => whnf)
    | (refine CALL0.by (F0 ..) rfl ?_; conv => whnf)
    | (refine CALLQ.mk _ _ _ (leL_refl _) (F0 ..) rfl ?_; conv => whnf)
  split
  · rename_i h
    exact Bool.noConfusion ((q1).symm.trans h)
  rename_i hN
  clear hN
  conv => whnf
  split
  · rename_i h
    exact Bool.noConfusion ((q2).symm.trans h)
  rename_i hN
  clear hN
  conv => whnf
  repeat first
    | (refine DRAW.seek ?_; repeat (first | refine TRYD.take ?_ | refine TRYD.next ?_); conv => whnf)
    | (refine HOLD.mk (by first | exact trivial | exact ⟨⟨rfl, rfl⟩, trivial⟩ | exact ⟨⟨rfl, rfl⟩, ⟨rfl, rfl⟩, trivial⟩) ?_; (conv => whnf))
    | (refine CALL0.cutBy lvMono1 _ _ _ _ _ (leL_refl _) (c_machine ..) rfl ?_; conv => whnf)
    | (refine CALL0.by (c_machine ..) rfl ?_; conv => whnf)
    | (refine CALLQ.mk _ _ _ (leL_refl _) (c_machine ..) rfl ?_; conv => whnf)
  repeat first
    | (refine DRAW.seek ?_; repeat (first | refine TRYD.take ?_ | refine TRYD.next ?_); conv => whnf)
    | (refine HOLD.mk (by first | exact trivial | exact ⟨⟨rfl, rfl⟩, trivial⟩ | exact ⟨⟨rfl, rfl⟩, ⟨rfl, rfl⟩, trivial⟩) ?_; (conv => whnf))
    | (refine CALL0.cutBy lvMono1 _ _ _ _ _ (leL_refl _) (C1 ..) rfl ?_; conv => whnf)
    | (refine CALL0.by (C1 ..) rfl ?_; conv => whnf)
    | (refine CALLQ.mk _ _ _ (leL_refl _) (C1 ..) rfl ?_; conv => whnf)
    | (refine CALL0.cutBy lvMono1 _ _ _ _ _ (leL_refl _) (C2 ..) rfl ?_; conv => whnf)
    | (refine CALL0.by (C2 ..) rfl ?_; conv => whnf)
    | (refine CALLQ.mk _ _ _ (leL_refl _) (C2 ..) rfl ?_; conv => whnf)
    | (refine CALL0.cutBy lvMono1 _ _ _ _ _ (leL_refl _) (c_state ..) rfl ?_; conv => whnf)
    | (refine CALL0.by (c_state ..) rfl ?_; conv => whnf)
    | (refine CALLQ.mk _ _ _ (leL_refl _) (c_state ..) rfl ?_; conv => whnf)
    | (refine CALL0.cutBy lvMono1 _ _ _ _ _ (leL_refl _) (P2 ..) rfl ?_; conv => whnf)
    | (refine CALL0.by (P2 ..) rfl ?_; conv => whnf)
    | (refine CALLQ.mk _ _ _ (leL_refl _) (P2 ..) rfl ?_; conv => whnf)
    | (refine CALL0.cutBy lvMono1 _ _ _ _ _ (leL_refl _) (P3 ..) rfl ?_; conv => whnf)
    | (refine CALL0.by (P3 ..) rfl ?_; conv => whnf)
    | (refine CALLQ.mk _ _ _ (leL_refl _) (P3 ..) rfl ?_; conv => whnf)
    | (refine CALL0.cutBy lvMono1 _ _ _ _ _ (leL_refl _) (P4 ..) rfl ?_; conv => whnf)
    | (refine CALL0.by (P4 ..) rfl ?_; conv => whnf)
    | (refine CALLQ.mk _ _ _ (leL_refl _) (P4 ..) rfl ?_; conv => whnf)
    | (refine CALL0.cutBy lvMono1 _ _ _ _ _ (leL_refl _) (F1 ..) rfl ?_; conv => whnf)
    | (refine CALL0.by (F1 ..) rfl ?_; conv => whnf)
    | (refine CALLQ.mk _ _ _ (leL_refl _) (F1 ..) rfl ?_; conv => whnf)
    | (refine CALL0.cutBy lvMono1 _ _ _ _ _ (leL_refl _) (F2 ..) rfl ?_; conv => whnf)
    | (refine CALL0.by (F2 ..) rfl ?_; conv => whnf)
    | (refine CALLQ.mk _ _ _ (leL_refl _) (F2 ..) rfl ?_; conv => whnf)
    | (refine CALL0.cutBy lvMono1 _ _ _ _ _ (leL_refl _) (c_machine ..) rfl ?_; conv => whnf)
    | (refine CALL0.by (c_machine ..) rfl ?_; conv => whnf)
    | (refine CALLQ.mk _ _ _ (leL_refl _) (c_machine ..) rfl ?_; conv => whnf)
  split
  · rename_i h
    exact Bool.noConfusion ((q4).symm.trans h)
  rename_i hN
  clear hN
  conv => whnf
  split
  · rename_i h
    exact Bool.noConfusion ((q5).symm.trans h)
  rename_i hN
  clear hN
  conv => whnf
  split
  · rename_i h
    exact Bool.noConfusion ((q6).symm.trans h)
  rename_i hN
  clear hN
  conv => whnf
  repeat first
    | (refine DRAW.seek ?_; repeat (first | refine TRYD.take ?_ | refine TRYD.next ?_); conv => whnf)
    | (refine HOLD.mk (by first | exact trivial | exact ⟨⟨rfl, rfl⟩, trivial⟩ | exact ⟨⟨rfl, rfl⟩, ⟨rfl, rfl⟩, trivial⟩) ?_; (conv => whnf))
    | (refine CALL0.cutBy lvMono1 _ _ _ _ _ (leL_refl _) (c_machine ..) rfl ?_; conv => whnf)
    | (refine CALL0.by (c_machine ..) rfl ?_; conv => whnf)
    | (refine CALLQ.mk _ _ _ (leL_refl _) (c_machine ..) rfl ?_; conv => whnf)
    | (refine CALL0.cutBy lvMono1 _ _ _ _ _ (leL_refl _) (c_state ..) rfl ?_; conv => whnf)
    | (refine CALL0.by (c_state ..) rfl ?_; conv => whnf)
    | (refine CALLQ.mk _ _ _ (leL_refl _) (c_state ..) rfl ?_; conv => whnf)
    | (refine CALL0.cutBy lvMono1 _ _ _ _ _ (leL_refl _) (T0 ..) rfl ?_; conv => whnf)
    | (refine CALL0.by (T0 ..) rfl ?_; conv => whnf)
    | (refine CALLQ.mk _ _ _ (leL_refl _) (T0 ..) rfl ?_; conv => whnf)
  split
  · rename_i h
    exact Bool.noConfusion ((q7).symm.trans h)
  rename_i hN
  clear hN
  conv => whnf
  repeat first
    | (refine DRAW.seek ?_; repeat (first | refine TRYD.take ?_ | refine TRYD.next ?_); conv => whnf)
    | (refine HOLD.mk (by first | exact trivial | exact ⟨⟨rfl, rfl⟩, trivial⟩ | exact ⟨⟨rfl, rfl⟩, ⟨rfl, rfl⟩, trivial⟩) ?_; (conv => whnf))
    | (refine CALL0.cutBy lvMono1 _ _ _ _ _ (leL_refl _) (hA ..) rfl ?_; conv => whnf)
    | (refine CALL0.by (hA ..) rfl ?_; conv => whnf)
    | (refine CALLQ.mk _ _ _ (leL_refl _) (hA ..) rfl ?_; conv => whnf)
  exact ⟨rfl, rfl⟩

set_option maxHeartbeats 32000000 in
theorem mono_101 (up : List Ces) (hk : gl g_control_kinds = kindsI) (hg : gl g_internal_strconv_uint64pow10 = powI) (m : Mc) (s : Sta) (x y : Int) (hs : m.smallB = true) (ql : decide ((s.mode.size : Int) > 40) = false) (he : s.err m = 0) (qi : eqS s.mode sIdle = false)
    (st : Int) (hst : Int.tmod (IntKind.i64.wrap x) 3 = st) (h1 : 0 ≤ st) (h2 : st ≤ 2) (hkk : Int.tmod (IntKind.i64.wrap y) 3 = 1) (hsafe : s.safeN m = false) (hp : decide (s.pk m st > m.lim) = false) :
    Cs gl n_nacellelaw05_ControlMonotone up [m.iv, s.iv, .agg [.int .u8 x, .int .u8 y]] (.bool true) up := by
  obtain ⟨hm, hfe, hli, hra⟩ := small_ok hs (Mc.err_of (Sta.err_rng he).1)
  obtain ⟨_, hr, hl, hstk, htor, hkn, hft⟩ := Sta.err_rng he
  have g0 := hm.wind
  have g1 := hm.fea
  have g2 := hm.lim
  have g3 := hr.speed
  have g4 := hr.p0
  have g5 := hr.p1
  have g6 := hr.p2
  have e1 : w64 (s.speed - 1) = s.speed - 1 := by rw [w64, wrap_in] <;> omega
  have e2 : w64 (s.p1 + 1) = s.p1 + 1 := by rw [w64, wrap_in] <;> omega
  have e3 : w64 (m.wind - 1) = m.wind - 1 := by rw [w64, wrap_in] <;> omega
  have heS : (Sta.mk s.mode (maxW 0 (w64 (s.speed - 1))) s.p0 s.p1 s.p2 s.tor s.stuck).err m = 0 := err_other he qi rfl rfl rfl (by show 0 ≤ maxW 0 _ ∧ maxW 0 _ ≤ _; rw [e1, maxW_eq]; omega) g4 g5 g6
  have hmin : 0 ≤ minW m.fea (w64 (s.p1 + 1)) ∧ minW m.fea (w64 (s.p1 + 1)) ≤ m.fea ∧ s.p1 ≤ minW m.fea (w64 (s.p1 + 1)) := by
    rw [e2]; unfold minW; split <;> omega
  have heN : (Sta.mk s.mode s.speed s.p0 (minW m.fea (w64 (s.p1 + 1))) s.p2 s.tor s.stuck).err m = 0 := err_other he qi rfl rfl rfl ⟨g3.1, hl⟩ g4 ⟨hmin.1, hmin.2.1⟩ g6
  have hc : (Mc.mk (maxW 1 (w64 (m.wind - 1))) m.fea m.rate m.tor m.lim m.rated m.gain).ok := ⟨by show 1 ≤ maxW 1 _ ∧ maxW 1 _ ≤ 100; rw [e3, maxW_eq]; omega, hm.fea, hm.rate, hm.tor, hm.lim, hm.rated, hm.gain, by
    have := hm.two
    show maxW 1 _ < 2 * m.fea
    rw [e3, maxW_eq]; omega⟩
  have heC : s.err (Mc.mk (maxW 1 (w64 (m.wind - 1))) m.fea m.rate m.tor m.lim m.rated m.gain) = 0 := err_machine he hc rfl rfl rfl
  have hsp : s.speed ≤ 10000 := by omega
  have leS : (Sta.mk s.mode (maxW 0 (w64 (s.speed - 1))) s.p0 s.p1 s.p2 s.tor s.stuck).le s := ⟨by show maxW 0 _ ≤ _; rw [e1, maxW_eq]; omega, Int.le_refl _, Int.le_refl _, Int.le_refl _⟩
  have leN : (Sta.mk s.mode s.speed s.p0 (minW m.fea (w64 (s.p1 + 1))) s.p2 s.tor s.stuck).le s := ⟨Int.le_refl _, Int.le_refl _, hmin.2.2, Int.le_refl _⟩
  have k1 : -1 ≤ st := by omega
  obtain ⟨_, hrS, hlS, _⟩ := Sta.err_rng heS
  obtain ⟨_, hrN, hlN, _⟩ := Sta.err_rng heN
  obtain ⟨_, hrC, hlC, _⟩ := Sta.err_rng heC
  have b0 := pk_ge (m := m) (s := s) (k := st)
  have b1 := pk_le hm hm rfl rfl (Int.le_refl _) (s := s) (t := s) (k := -1) (k' := st) (by omega) (by omega) k1 h2 (.inr rfl) hr hr hsp hsp s.le_refl
  have b2 := pk_le hm hm rfl rfl (Int.le_refl _) (k := st) (k' := st) k1 h2 k1 h2 (.inl rfl) hrS hr (by omega) hsp leS
  have b3 := pk_le hm hm rfl rfl (Int.le_refl _) (k := st) (k' := st) k1 h2 k1 h2 (.inl rfl) hrN hr (by omega) hsp leN
  have b4 := pk_le hc hm rfl rfl (by show maxW 1 _ ≤ m.wind; rw [e3, maxW_eq]; omega) (s := s) (t := s) (k := st) (k' := st) k1 h2 k1 h2 (.inl rfl) hrC hr hsp hsp s.le_refl
  have hS := fun up => c_rSmall (gl := gl) up m
  rw [hs] at hS
  have hE := fun up => c_rState (gl := gl) up m s
  rw [he] at hE
  have hA := fun up => c_awake (gl := gl) up hk hg
  have P0 := fun up => c_PeakOk (gl := gl) up s m st he k1 h2
  have P1 := fun up => c_PeakOk (gl := gl) up s m (-1) he (by omega) (by omega)
  have P2 := fun up => c_PeakOk (gl := gl) up _ m st heS k1 h2
  have P3 := fun up => c_PeakOk (gl := gl) up _ m st heN k1 h2
  have P4 := fun up => c_PeakOk (gl := gl) up s _ st heC k1 h2
  have F0 := fun up => c_SafeOk (gl := gl) up s m he
  have F1 := fun up => c_SafeOk (gl := gl) up _ m heS
  have F2 := fun up => c_SafeOk (gl := gl) up _ m heN
  have C1 := fun up => c_state (gl := gl) up (Sta.mk s.mode (maxW 0 (w64 (s.speed - 1))) s.p0 s.p1 s.p2 s.tor s.stuck)
  have C2 := fun up => c_state (gl := gl) up (Sta.mk s.mode s.speed s.p0 (minW m.fea (w64 (s.p1 + 1))) s.p2 s.tor s.stuck)
  have T0 := fun up => c_StopOk (gl := gl) up s m st he k1 h2
  rw [hsafe] at F0
  rw [hp] at T0
  have q1 : decide (s.pk m st < s.speed) = false := decide_eq_false (by omega)
  have q2 : decide (s.pk m (-1) > s.pk m st) = false := decide_eq_false (by omega)
  obtain ⟨n, hn⟩ : ∃ n, n = s.num m st := ⟨_, rfl⟩
  have hn2 := num_small hm hfe hli hr hl k1 h2
  rw [← hn] at P0 T0 hn2
  have q4 : decide ((Sta.mk s.mode (maxW 0 (w64 (s.speed - 1))) s.p0 s.p1 s.p2 s.tor s.stuck).pk m st > s.pk m st) = false := decide_eq_false (by omega)
  have q5 : decide ((Sta.mk s.mode s.speed s.p0 (minW m.fea (w64 (s.p1 + 1))) s.p2 s.tor s.stuck).pk m st > s.pk m st) = false := decide_eq_false (by omega)
  have q6 : decide (s.pk (Mc.mk (maxW 1 (w64 (m.wind - 1))) m.fea m.rate m.tor m.lim m.rated m.gain) st > s.pk m st) = false := decide_eq_false (by omega)
  have q7 : (!(true == decide (s.pk m st ≤ m.lim))) = false := by
    have := of_decide_eq_false hp
    rw [show decide (s.pk m st ≤ m.lim) = true from decide_eq_true (by omega)]; rfl
  have q8 : (((1 + n : Nat) : Int) == w64 ((n : Int) + 1)) = true := by
    rw [w64, wrap_in (by omega) (by omega)]
    have : ((1 + n : Nat) : Int) = (n : Int) + 1 := by omega
    simpa using this
  have hCS := fun up => c_CheckStop (gl := gl) up s m st (1 + n) (by omega) (s.stopS m st)
  have eCS : csErr s m st (1 + n) (s.stopS m st) = 0 := by
    rw [cs_err]
    have e0 : s.err0 m st = 0 := by
      unfold Sta.err0
      rw [he, withinS_zero.2 ⟨k1, h2⟩]; rfl
    rw [e0, show ∀ x, orE 0 x = x from fun x => orE_no rfl]
    unfold rcsErr
    rw [show decide (((1 + n : Nat) : Int) > 4096) = false from decide_eq_false (by omega), hp, ← hn, sameSt_refl]; rfl
  rw [eCS] at hCS
  simp only [cond_true, cond_false] at T0
  clear b0 b1 b2 b3 b4 hrS hlS hrN hlN hrC hlC leS leN heS heN heC e1 e2 e3 g0 g1 g2 g3 g4 g5 g6 hr hl hstk htor hkn hft hfe hli hra hn hsafe hp he hsp
  refine mk h_nacellelaw05_ControlMonotone rfl rfl ?_
  conv => whnf
  repeat first
    | (refine DRAW.seek ?_; repeat (first | refine TRYD.take ?_ | refine TRYD.next ?_); conv => whnf)
    | (refine HOLD.mk (by first | exact trivial | exact ⟨⟨rfl, rfl⟩, trivial⟩ | exact ⟨⟨rfl, rfl⟩, ⟨rfl, rfl⟩, trivial⟩) ?_; (conv => whnf))
    | (refine CALL0.cutBy lvMono1 _ _ _ _ _ (leL_refl _) (hS ..) rfl ?_; conv => whnf)
    | (refine CALL0.by (hS ..) rfl ?_; conv => whnf)
    | (refine CALLQ.mk _ _ _ (leL_refl _) (hS ..) rfl ?_; conv => whnf)
  split
  · rename_i h
    exact Bool.noConfusion ((ql).symm.trans h)
  rename_i hN
  clear hN
  conv => whnf
  repeat first
    | (refine DRAW.seek ?_; repeat (first | refine TRYD.take ?_ | refine TRYD.next ?_); conv => whnf)
    | (refine HOLD.mk (by first | exact trivial | exact ⟨⟨rfl, rfl⟩, trivial⟩ | exact ⟨⟨rfl, rfl⟩, ⟨rfl, rfl⟩, trivial⟩) ?_; (conv => whnf))
    | (refine CALL0.cutBy lvMono1 _ _ _ _ _ (leL_refl _) (hE ..) rfl ?_; conv => whnf)
    | (refine CALL0.by (hE ..) rfl ?_; conv => whnf)
    | (refine CALLQ.mk _ _ _ (leL_refl _) (hE ..) rfl ?_; conv => whnf)
  split
  · rename_i h
    exact Bool.noConfusion ((qi).symm.trans h)
  rename_i hN
  clear hN
  conv => whnf
  refine DRAW.seek ?_
  repeat (first | refine TRYD.take ?_ | refine TRYD.next ?_)
  conv => whnf
  simp only [hst, hkk]
  repeat first
    | (refine DRAW.seek ?_; repeat (first | refine TRYD.take ?_ | refine TRYD.next ?_); conv => whnf)
    | (refine HOLD.mk (by first | exact trivial | exact ⟨⟨rfl, rfl⟩, trivial⟩ | exact ⟨⟨rfl, rfl⟩, ⟨rfl, rfl⟩, trivial⟩) ?_; (conv => whnf))
    | (refine CALL0.cutBy lvMono1 _ _ _ _ _ (leL_refl _) (c_machine ..) rfl ?_; conv => whnf)
    | (refine CALL0.by (c_machine ..) rfl ?_; conv => whnf)
    | (refine CALLQ.mk _ _ _ (leL_refl _) (c_machine ..) rfl ?_; conv => whnf)
    | (refine CALL0.cutBy lvMono1 _ _ _ _ _ (leL_refl _) (c_state ..) rfl ?_; conv => whnf)
    | (refine CALL0.by (c_state ..) rfl ?_; conv => whnf)
    | (refine CALLQ.mk _ _ _ (leL_refl _) (c_state ..) rfl ?_; conv => whnf)
    | (refine CALL0.cutBy lvMono1 _ _ _ _ _ (leL_refl _) (P0 ..) rfl ?_; conv => whnf)
    | (refine CALL0.by (P0 ..) rfl ?_; conv => whnf)
    | (refine CALLQ.mk _ _ _ (leL_refl _) (P0 ..) rfl ?_; conv => whnf)
    | (refine CALL0.cutBy lvMono1 _ _ _ _ _ (leL_refl _) (P1 ..) rfl ?_; conv => whnf)
    | (refine CALL0.by (P1 ..) rfl ?_; conv => whnf)
    | (refine CALLQ.mk _ _ _ (leL_refl _) (P1 ..) rfl ?_; conv => whnf)
    | (refine CALL0.cutBy lvMono1 _ _ _ _ _ (leL_refl _) (F0 ..) rfl ?_; conv => whnf)
    | (refine CALL0.by (F0 ..) rfl ?_; conv => whnf)
    | (refine CALLQ.mk _ _ _ (leL_refl _) (F0 ..) rfl ?_; conv => whnf)
  split
  · rename_i h
    exact Bool.noConfusion ((q1).symm.trans h)
  rename_i hN
  clear hN
  conv => whnf
  split
  · rename_i h
    exact Bool.noConfusion ((q2).symm.trans h)
  rename_i hN
  clear hN
  conv => whnf
  repeat first
    | (refine DRAW.seek ?_; repeat (first | refine TRYD.take ?_ | refine TRYD.next ?_); conv => whnf)
    | (refine HOLD.mk (by first | exact trivial | exact ⟨⟨rfl, rfl⟩, trivial⟩ | exact ⟨⟨rfl, rfl⟩, ⟨rfl, rfl⟩, trivial⟩) ?_; (conv => whnf))
    | (refine CALL0.cutBy lvMono1 _ _ _ _ _ (leL_refl _) (c_machine ..) rfl ?_; conv => whnf)
    | (refine CALL0.by (c_machine ..) rfl ?_; conv => whnf)
    | (refine CALLQ.mk _ _ _ (leL_refl _) (c_machine ..) rfl ?_; conv => whnf)
  repeat first
    | (refine DRAW.seek ?_; repeat (first | refine TRYD.take ?_ | refine TRYD.next ?_); conv => whnf)
    | (refine HOLD.mk (by first | exact trivial | exact ⟨⟨rfl, rfl⟩, trivial⟩ | exact ⟨⟨rfl, rfl⟩, ⟨rfl, rfl⟩, trivial⟩) ?_; (conv => whnf))
    | (refine CALL0.cutBy lvMono1 _ _ _ _ _ (leL_refl _) (C1 ..) rfl ?_; conv => whnf)
    | (refine CALL0.by (C1 ..) rfl ?_; conv => whnf)
    | (refine CALLQ.mk _ _ _ (leL_refl _) (C1 ..) rfl ?_; conv => whnf)
    | (refine CALL0.cutBy lvMono1 _ _ _ _ _ (leL_refl _) (C2 ..) rfl ?_; conv => whnf)
    | (refine CALL0.by (C2 ..) rfl ?_; conv => whnf)
    | (refine CALLQ.mk _ _ _ (leL_refl _) (C2 ..) rfl ?_; conv => whnf)
    | (refine CALL0.cutBy lvMono1 _ _ _ _ _ (leL_refl _) (c_state ..) rfl ?_; conv => whnf)
    | (refine CALL0.by (c_state ..) rfl ?_; conv => whnf)
    | (refine CALLQ.mk _ _ _ (leL_refl _) (c_state ..) rfl ?_; conv => whnf)
    | (refine CALL0.cutBy lvMono1 _ _ _ _ _ (leL_refl _) (P2 ..) rfl ?_; conv => whnf)
    | (refine CALL0.by (P2 ..) rfl ?_; conv => whnf)
    | (refine CALLQ.mk _ _ _ (leL_refl _) (P2 ..) rfl ?_; conv => whnf)
    | (refine CALL0.cutBy lvMono1 _ _ _ _ _ (leL_refl _) (P3 ..) rfl ?_; conv => whnf)
    | (refine CALL0.by (P3 ..) rfl ?_; conv => whnf)
    | (refine CALLQ.mk _ _ _ (leL_refl _) (P3 ..) rfl ?_; conv => whnf)
    | (refine CALL0.cutBy lvMono1 _ _ _ _ _ (leL_refl _) (P4 ..) rfl ?_; conv => whnf)
    | (refine CALL0.by (P4 ..) rfl ?_; conv => whnf)
    | (refine CALLQ.mk _ _ _ (leL_refl _) (P4 ..) rfl ?_; conv => whnf)
    | (refine CALL0.cutBy lvMono1 _ _ _ _ _ (leL_refl _) (F1 ..) rfl ?_; conv => whnf)
    | (refine CALL0.by (F1 ..) rfl ?_; conv => whnf)
    | (refine CALLQ.mk _ _ _ (leL_refl _) (F1 ..) rfl ?_; conv => whnf)
    | (refine CALL0.cutBy lvMono1 _ _ _ _ _ (leL_refl _) (F2 ..) rfl ?_; conv => whnf)
    | (refine CALL0.by (F2 ..) rfl ?_; conv => whnf)
    | (refine CALLQ.mk _ _ _ (leL_refl _) (F2 ..) rfl ?_; conv => whnf)
    | (refine CALL0.cutBy lvMono1 _ _ _ _ _ (leL_refl _) (c_machine ..) rfl ?_; conv => whnf)
    | (refine CALL0.by (c_machine ..) rfl ?_; conv => whnf)
    | (refine CALLQ.mk _ _ _ (leL_refl _) (c_machine ..) rfl ?_; conv => whnf)
  split
  · rename_i h
    exact Bool.noConfusion ((q4).symm.trans h)
  rename_i hN
  clear hN
  conv => whnf
  split
  · rename_i h
    exact Bool.noConfusion ((q5).symm.trans h)
  rename_i hN
  clear hN
  conv => whnf
  split
  · rename_i h
    exact Bool.noConfusion ((q6).symm.trans h)
  rename_i hN
  clear hN
  conv => whnf
  repeat first
    | (refine DRAW.seek ?_; repeat (first | refine TRYD.take ?_ | refine TRYD.next ?_); conv => whnf)
    | (refine HOLD.mk (by first | exact trivial | exact ⟨⟨rfl, rfl⟩, trivial⟩ | exact ⟨⟨rfl, rfl⟩, ⟨rfl, rfl⟩, trivial⟩) ?_; (conv => whnf))
    | (refine CALL0.cutBy lvMono1 _ _ _ _ _ (leL_refl _) (c_machine ..) rfl ?_; conv => whnf)
    | (refine CALL0.by (c_machine ..) rfl ?_; conv => whnf)
    | (refine CALLQ.mk _ _ _ (leL_refl _) (c_machine ..) rfl ?_; conv => whnf)
    | (refine CALL0.cutBy lvMono1 _ _ _ _ _ (leL_refl _) (c_state ..) rfl ?_; conv => whnf)
    | (refine CALL0.by (c_state ..) rfl ?_; conv => whnf)
    | (refine CALLQ.mk _ _ _ (leL_refl _) (c_state ..) rfl ?_; conv => whnf)
    | (refine CALL0.cutBy lvMono1 _ _ _ _ _ (leL_refl _) (T0 ..) rfl ?_; conv => whnf)
    | (refine CALL0.by (T0 ..) rfl ?_; conv => whnf)
    | (refine CALLQ.mk _ _ _ (leL_refl _) (T0 ..) rfl ?_; conv => whnf)
  split
  · rename_i h
    exact Bool.noConfusion ((q7).symm.trans h)
  rename_i hN
  clear hN
  conv => whnf
  refine DRAW.seek ?_
  repeat (first | refine TRYD.take ?_ | refine TRYD.next ?_)
  conv => whnf
  rw [show (((1 + n : Nat) : Int) == IntKind.i64.wrap ((n : Int) + 1)) = true from q8]
  conv => whnf
  repeat first
    | (refine DRAW.seek ?_; repeat (first | refine TRYD.take ?_ | refine TRYD.next ?_); conv => whnf)
    | (refine HOLD.mk (by first | exact trivial | exact ⟨⟨rfl, rfl⟩, trivial⟩ | exact ⟨⟨rfl, rfl⟩, ⟨rfl, rfl⟩, trivial⟩) ?_; (conv => whnf))
    | (refine CALL0.cutBy lvMono1 _ _ _ _ _ (leL_refl _) (c_machine ..) rfl ?_; conv => whnf)
    | (refine CALL0.by (c_machine ..) rfl ?_; conv => whnf)
    | (refine CALLQ.mk _ _ _ (leL_refl _) (c_machine ..) rfl ?_; conv => whnf)
    | (refine CALL0.cutBy lvMono1 _ _ _ _ _ (leL_refl _) (c_state ..) rfl ?_; conv => whnf)
    | (refine CALL0.by (c_state ..) rfl ?_; conv => whnf)
    | (refine CALLQ.mk _ _ _ (leL_refl _) (c_state ..) rfl ?_; conv => whnf)
    | (refine CALL0.cutBy lvMono1 _ _ _ _ _ (leL_refl _) (hCS ..) rfl ?_; conv => whnf)
    | (refine CALL0.by (hCS ..) rfl ?_; conv => whnf)
    | (refine CALLQ.mk _ _ _ (leL_refl _) (hCS ..) rfl ?_; conv => whnf)
    | (refine CALL0.cutBy lvMono1 _ _ _ _ _ (leL_refl _) (hA ..) rfl ?_; conv => whnf)
    | (refine CALL0.by (hA ..) rfl ?_; conv => whnf)
    | (refine CALLQ.mk _ _ _ (leL_refl _) (hA ..) rfl ?_; conv => whnf)
  exact ⟨rfl, rfl⟩

set_option maxHeartbeats 32000000 in
theorem mono_110 (up : List Ces) (hk : gl g_control_kinds = kindsI) (hg : gl g_internal_strconv_uint64pow10 = powI) (m : Mc) (s : Sta) (x y : Int) (hs : m.smallB = true) (ql : decide ((s.mode.size : Int) > 40) = false) (he : s.err m = 0) (qi : eqS s.mode sIdle = false)
    (st : Int) (hst : Int.tmod (IntKind.i64.wrap x) 3 = st) (h1 : 0 ≤ st) (h2 : st ≤ 2) (hkk : Int.tmod (IntKind.i64.wrap y) 3 = 1) (hsafe : s.safeN m = true) (hp : decide (s.pk m st > m.lim) = true) :
    Cs gl n_nacellelaw05_ControlMonotone up [m.iv, s.iv, .agg [.int .u8 x, .int .u8 y]] (.bool true) up := by
  obtain ⟨hm, hfe, hli, hra⟩ := small_ok hs (Mc.err_of (Sta.err_rng he).1)
  obtain ⟨_, hr, hl, hstk, htor, hkn, hft⟩ := Sta.err_rng he
  have g0 := hm.wind
  have g1 := hm.fea
  have g2 := hm.lim
  have g3 := hr.speed
  have g4 := hr.p0
  have g5 := hr.p1
  have g6 := hr.p2
  have e1 : w64 (s.speed - 1) = s.speed - 1 := by rw [w64, wrap_in] <;> omega
  have e2 : w64 (s.p1 + 1) = s.p1 + 1 := by rw [w64, wrap_in] <;> omega
  have e3 : w64 (m.wind - 1) = m.wind - 1 := by rw [w64, wrap_in] <;> omega
  have heS : (Sta.mk s.mode (maxW 0 (w64 (s.speed - 1))) s.p0 s.p1 s.p2 s.tor s.stuck).err m = 0 := err_other he qi rfl rfl rfl (by show 0 ≤ maxW 0 _ ∧ maxW 0 _ ≤ _; rw [e1, maxW_eq]; omega) g4 g5 g6
  have hmin : 0 ≤ minW m.fea (w64 (s.p1 + 1)) ∧ minW m.fea (w64 (s.p1 + 1)) ≤ m.fea ∧ s.p1 ≤ minW m.fea (w64 (s.p1 + 1)) := by
    rw [e2]; unfold minW; split <;> omega
  have heN : (Sta.mk s.mode s.speed s.p0 (minW m.fea (w64 (s.p1 + 1))) s.p2 s.tor s.stuck).err m = 0 := err_other he qi rfl rfl rfl ⟨g3.1, hl⟩ g4 ⟨hmin.1, hmin.2.1⟩ g6
  have hc : (Mc.mk (maxW 1 (w64 (m.wind - 1))) m.fea m.rate m.tor m.lim m.rated m.gain).ok := ⟨by show 1 ≤ maxW 1 _ ∧ maxW 1 _ ≤ 100; rw [e3, maxW_eq]; omega, hm.fea, hm.rate, hm.tor, hm.lim, hm.rated, hm.gain, by
    have := hm.two
    show maxW 1 _ < 2 * m.fea
    rw [e3, maxW_eq]; omega⟩
  have heC : s.err (Mc.mk (maxW 1 (w64 (m.wind - 1))) m.fea m.rate m.tor m.lim m.rated m.gain) = 0 := err_machine he hc rfl rfl rfl
  have hsp : s.speed ≤ 10000 := by omega
  have leS : (Sta.mk s.mode (maxW 0 (w64 (s.speed - 1))) s.p0 s.p1 s.p2 s.tor s.stuck).le s := ⟨by show maxW 0 _ ≤ _; rw [e1, maxW_eq]; omega, Int.le_refl _, Int.le_refl _, Int.le_refl _⟩
  have leN : (Sta.mk s.mode s.speed s.p0 (minW m.fea (w64 (s.p1 + 1))) s.p2 s.tor s.stuck).le s := ⟨Int.le_refl _, Int.le_refl _, hmin.2.2, Int.le_refl _⟩
  have k1 : -1 ≤ st := by omega
  obtain ⟨_, hrS, hlS, _⟩ := Sta.err_rng heS
  obtain ⟨_, hrN, hlN, _⟩ := Sta.err_rng heN
  obtain ⟨_, hrC, hlC, _⟩ := Sta.err_rng heC
  have b0 := pk_ge (m := m) (s := s) (k := st)
  have b1 := pk_le hm hm rfl rfl (Int.le_refl _) (s := s) (t := s) (k := -1) (k' := st) (by omega) (by omega) k1 h2 (.inr rfl) hr hr hsp hsp s.le_refl
  have b2 := pk_le hm hm rfl rfl (Int.le_refl _) (k := st) (k' := st) k1 h2 k1 h2 (.inl rfl) hrS hr (by omega) hsp leS
  have b3 := pk_le hm hm rfl rfl (Int.le_refl _) (k := st) (k' := st) k1 h2 k1 h2 (.inl rfl) hrN hr (by omega) hsp leN
  have b4 := pk_le hc hm rfl rfl (by show maxW 1 _ ≤ m.wind; rw [e3, maxW_eq]; omega) (s := s) (t := s) (k := st) (k' := st) k1 h2 k1 h2 (.inl rfl) hrC hr hsp hsp s.le_refl
  have hS := fun up => c_rSmall (gl := gl) up m
  rw [hs] at hS
  have hE := fun up => c_rState (gl := gl) up m s
  rw [he] at hE
  have hA := fun up => c_awake (gl := gl) up hk hg
  have P0 := fun up => c_PeakOk (gl := gl) up s m st he k1 h2
  have P1 := fun up => c_PeakOk (gl := gl) up s m (-1) he (by omega) (by omega)
  have P2 := fun up => c_PeakOk (gl := gl) up _ m st heS k1 h2
  have P3 := fun up => c_PeakOk (gl := gl) up _ m st heN k1 h2
  have P4 := fun up => c_PeakOk (gl := gl) up s _ st heC k1 h2
  have F0 := fun up => c_SafeOk (gl := gl) up s m he
  have F1 := fun up => c_SafeOk (gl := gl) up _ m heS
  have F2 := fun up => c_SafeOk (gl := gl) up _ m heN
  have C1 := fun up => c_state (gl := gl) up (Sta.mk s.mode (maxW 0 (w64 (s.speed - 1))) s.p0 s.p1 s.p2 s.tor s.stuck)
  have C2 := fun up => c_state (gl := gl) up (Sta.mk s.mode s.speed s.p0 (minW m.fea (w64 (s.p1 + 1))) s.p2 s.tor s.stuck)
  have T0 := fun up => c_StopOk (gl := gl) up s m st he k1 h2
  rw [hsafe] at F0
  rw [hp] at T0
  have s1 := safe_mono hm hrS hr (by omega) hsp leS rfl hsafe
  have s2 := safe_mono hm hrN hr (by omega) hsp leN rfl hsafe
  rw [s1] at F1
  rw [s2] at F2
  have q1 : decide (s.pk m st < s.speed) = false := decide_eq_false (by omega)
  have q2 : decide (s.pk m (-1) > s.pk m st) = false := decide_eq_false (by omega)
  obtain ⟨n, hn⟩ : ∃ n, n = s.num m st := ⟨_, rfl⟩
  have hn2 := num_small hm hfe hli hr hl k1 h2
  rw [← hn] at P0 T0 hn2
  have q4 : decide ((Sta.mk s.mode (maxW 0 (w64 (s.speed - 1))) s.p0 s.p1 s.p2 s.tor s.stuck).pk m st > s.pk m st) = false := decide_eq_false (by omega)
  have q5 : decide ((Sta.mk s.mode s.speed s.p0 (minW m.fea (w64 (s.p1 + 1))) s.p2 s.tor s.stuck).pk m st > s.pk m st) = false := decide_eq_false (by omega)
  have q6 : decide (s.pk (Mc.mk (maxW 1 (w64 (m.wind - 1))) m.fea m.rate m.tor m.lim m.rated m.gain) st > s.pk m st) = false := decide_eq_false (by omega)
  have q7 : (!(false == decide (s.pk m st ≤ m.lim))) = false := by
    have := of_decide_eq_true hp
    rw [show decide (s.pk m st ≤ m.lim) = false from decide_eq_false (by omega)]; rfl
  simp only [cond_true, cond_false] at T0
  clear b0 b1 b2 b3 b4 hrS hlS hrN hlN hrC hlC leS leN heS heN heC e1 e2 e3 g0 g1 g2 g3 g4 g5 g6 hr hl hstk htor hkn hft hfe hli hra hn hsafe hp he hsp
  refine mk h_nacellelaw05_ControlMonotone rfl rfl ?_
  conv => whnf
  repeat first
    | (refine DRAW.seek ?_; repeat (first | refine TRYD.take ?_ | refine TRYD.next ?_); conv => whnf)
    | (refine HOLD.mk (by first | exact trivial | exact ⟨⟨rfl, rfl⟩, trivial⟩ | exact ⟨⟨rfl, rfl⟩, ⟨rfl, rfl⟩, trivial⟩) ?_; (conv => whnf))
    | (refine CALL0.cutBy lvMono1 _ _ _ _ _ (leL_refl _) (hS ..) rfl ?_; conv => whnf)
    | (refine CALL0.by (hS ..) rfl ?_; conv => whnf)
    | (refine CALLQ.mk _ _ _ (leL_refl _) (hS ..) rfl ?_; conv => whnf)
  split
  · rename_i h
    exact Bool.noConfusion ((ql).symm.trans h)
  rename_i hN
  clear hN
  conv => whnf
  repeat first
    | (refine DRAW.seek ?_; repeat (first | refine TRYD.take ?_ | refine TRYD.next ?_); conv => whnf)
    | (refine HOLD.mk (by first | exact trivial | exact ⟨⟨rfl, rfl⟩, trivial⟩ | exact ⟨⟨rfl, rfl⟩, ⟨rfl, rfl⟩, trivial⟩) ?_; (conv => whnf))
    | (refine CALL0.cutBy lvMono1 _ _ _ _ _ (leL_refl _) (hE ..) rfl ?_; conv => whnf)
    | (refine CALL0.by (hE ..) rfl ?_; conv => whnf)
    | (refine CALLQ.mk _ _ _ (leL_refl _) (hE ..) rfl ?_; conv => whnf)
  split
  · rename_i h
    exact Bool.noConfusion ((qi).symm.trans h)
  rename_i hN
  clear hN
  conv => whnf
  refine DRAW.seek ?_
  repeat (first | refine TRYD.take ?_ | refine TRYD.next ?_)
  conv => whnf
  simp only [hst, hkk]
  repeat first
    | (refine DRAW.seek ?_; repeat (first | refine TRYD.take ?_ | refine TRYD.next ?_); conv => whnf)
    | (refine HOLD.mk (by first | exact trivial | exact ⟨⟨rfl, rfl⟩, trivial⟩ | exact ⟨⟨rfl, rfl⟩, ⟨rfl, rfl⟩, trivial⟩) ?_; (conv => whnf))
    | (refine CALL0.cutBy lvMono1 _ _ _ _ _ (leL_refl _) (c_machine ..) rfl ?_; conv => whnf)
    | (refine CALL0.by (c_machine ..) rfl ?_; conv => whnf)
    | (refine CALLQ.mk _ _ _ (leL_refl _) (c_machine ..) rfl ?_; conv => whnf)
    | (refine CALL0.cutBy lvMono1 _ _ _ _ _ (leL_refl _) (c_state ..) rfl ?_; conv => whnf)
    | (refine CALL0.by (c_state ..) rfl ?_; conv => whnf)
    | (refine CALLQ.mk _ _ _ (leL_refl _) (c_state ..) rfl ?_; conv => whnf)
    | (refine CALL0.cutBy lvMono1 _ _ _ _ _ (leL_refl _) (P0 ..) rfl ?_; conv => whnf)
    | (refine CALL0.by (P0 ..) rfl ?_; conv => whnf)
    | (refine CALLQ.mk _ _ _ (leL_refl _) (P0 ..) rfl ?_; conv => whnf)
    | (refine CALL0.cutBy lvMono1 _ _ _ _ _ (leL_refl _) (P1 ..) rfl ?_; conv => whnf)
    | (refine CALL0.by (P1 ..) rfl ?_; conv => whnf)
    | (refine CALLQ.mk _ _ _ (leL_refl _) (P1 ..) rfl ?_; conv => whnf)
    | (refine CALL0.cutBy lvMono1 _ _ _ _ _ (leL_refl _) (F0 ..) rfl ?_; conv => whnf)
    | (refine CALL0.by (F0 ..) rfl ?_; conv => whnf)
    | (refine CALLQ.mk _ _ _ (leL_refl _) (F0 ..) rfl ?_; conv => whnf)
  split
  · rename_i h
    exact Bool.noConfusion ((q1).symm.trans h)
  rename_i hN
  clear hN
  conv => whnf
  split
  · rename_i h
    exact Bool.noConfusion ((q2).symm.trans h)
  rename_i hN
  clear hN
  conv => whnf
  repeat first
    | (refine DRAW.seek ?_; repeat (first | refine TRYD.take ?_ | refine TRYD.next ?_); conv => whnf)
    | (refine HOLD.mk (by first | exact trivial | exact ⟨⟨rfl, rfl⟩, trivial⟩ | exact ⟨⟨rfl, rfl⟩, ⟨rfl, rfl⟩, trivial⟩) ?_; (conv => whnf))
    | (refine CALL0.cutBy lvMono1 _ _ _ _ _ (leL_refl _) (c_machine ..) rfl ?_; conv => whnf)
    | (refine CALL0.by (c_machine ..) rfl ?_; conv => whnf)
    | (refine CALLQ.mk _ _ _ (leL_refl _) (c_machine ..) rfl ?_; conv => whnf)
  repeat first
    | (refine DRAW.seek ?_; repeat (first | refine TRYD.take ?_ | refine TRYD.next ?_); conv => whnf)
    | (refine HOLD.mk (by first | exact trivial | exact ⟨⟨rfl, rfl⟩, trivial⟩ | exact ⟨⟨rfl, rfl⟩, ⟨rfl, rfl⟩, trivial⟩) ?_; (conv => whnf))
    | (refine CALL0.cutBy lvMono1 _ _ _ _ _ (leL_refl _) (C1 ..) rfl ?_; conv => whnf)
    | (refine CALL0.by (C1 ..) rfl ?_; conv => whnf)
    | (refine CALLQ.mk _ _ _ (leL_refl _) (C1 ..) rfl ?_; conv => whnf)
    | (refine CALL0.cutBy lvMono1 _ _ _ _ _ (leL_refl _) (C2 ..) rfl ?_; conv => whnf)
    | (refine CALL0.by (C2 ..) rfl ?_; conv => whnf)
    | (refine CALLQ.mk _ _ _ (leL_refl _) (C2 ..) rfl ?_; conv => whnf)
    | (refine CALL0.cutBy lvMono1 _ _ _ _ _ (leL_refl _) (c_state ..) rfl ?_; conv => whnf)
    | (refine CALL0.by (c_state ..) rfl ?_; conv => whnf)
    | (refine CALLQ.mk _ _ _ (leL_refl _) (c_state ..) rfl ?_; conv => whnf)
    | (refine CALL0.cutBy lvMono1 _ _ _ _ _ (leL_refl _) (P2 ..) rfl ?_; conv => whnf)
    | (refine CALL0.by (P2 ..) rfl ?_; conv => whnf)
    | (refine CALLQ.mk _ _ _ (leL_refl _) (P2 ..) rfl ?_; conv => whnf)
    | (refine CALL0.cutBy lvMono1 _ _ _ _ _ (leL_refl _) (P3 ..) rfl ?_; conv => whnf)
    | (refine CALL0.by (P3 ..) rfl ?_; conv => whnf)
    | (refine CALLQ.mk _ _ _ (leL_refl _) (P3 ..) rfl ?_; conv => whnf)
    | (refine CALL0.cutBy lvMono1 _ _ _ _ _ (leL_refl _) (P4 ..) rfl ?_; conv => whnf)
    | (refine CALL0.by (P4 ..) rfl ?_; conv => whnf)
    | (refine CALLQ.mk _ _ _ (leL_refl _) (P4 ..) rfl ?_; conv => whnf)
    | (refine CALL0.cutBy lvMono1 _ _ _ _ _ (leL_refl _) (F1 ..) rfl ?_; conv => whnf)
    | (refine CALL0.by (F1 ..) rfl ?_; conv => whnf)
    | (refine CALLQ.mk _ _ _ (leL_refl _) (F1 ..) rfl ?_; conv => whnf)
    | (refine CALL0.cutBy lvMono1 _ _ _ _ _ (leL_refl _) (F2 ..) rfl ?_; conv => whnf)
    | (refine CALL0.by (F2 ..) rfl ?_; conv => whnf)
    | (refine CALLQ.mk _ _ _ (leL_refl _) (F2 ..) rfl ?_; conv => whnf)
    | (refine CALL0.cutBy lvMono1 _ _ _ _ _ (leL_refl _) (c_machine ..) rfl ?_; conv => whnf)
    | (refine CALL0.by (c_machine ..) rfl ?_; conv => whnf)
    | (refine CALLQ.mk _ _ _ (leL_refl _) (c_machine ..) rfl ?_; conv => whnf)
  split
  · rename_i h
    exact Bool.noConfusion ((q4).symm.trans h)
  rename_i hN
  clear hN
  conv => whnf
  split
  · rename_i h
    exact Bool.noConfusion ((q5).symm.trans h)
  rename_i hN
  clear hN
  conv => whnf
  split
  · rename_i h
    exact Bool.noConfusion ((q6).symm.trans h)
  rename_i hN
  clear hN
  conv => whnf
  repeat first
    | (refine DRAW.seek ?_; repeat (first | refine TRYD.take ?_ | refine TRYD.next ?_); conv => whnf)
    | (refine HOLD.mk (by first | exact trivial | exact ⟨⟨rfl, rfl⟩, trivial⟩ | exact ⟨⟨rfl, rfl⟩, ⟨rfl, rfl⟩, trivial⟩) ?_; (conv => whnf))
    | (refine CALL0.cutBy lvMono1 _ _ _ _ _ (leL_refl _) (c_machine ..) rfl ?_; conv => whnf)
    | (refine CALL0.by (c_machine ..) rfl ?_; conv => whnf)
    | (refine CALLQ.mk _ _ _ (leL_refl _) (c_machine ..) rfl ?_; conv => whnf)
    | (refine CALL0.cutBy lvMono1 _ _ _ _ _ (leL_refl _) (c_state ..) rfl ?_; conv => whnf)
    | (refine CALL0.by (c_state ..) rfl ?_; conv => whnf)
    | (refine CALLQ.mk _ _ _ (leL_refl _) (c_state ..) rfl ?_; conv => whnf)
    | (refine CALL0.cutBy lvMono1 _ _ _ _ _ (leL_refl _) (T0 ..) rfl ?_; conv => whnf)
    | (refine CALL0.by (T0 ..) rfl ?_; conv => whnf)
    | (refine CALLQ.mk _ _ _ (leL_refl _) (T0 ..) rfl ?_; conv => whnf)
  split
  · rename_i h
    exact Bool.noConfusion ((q7).symm.trans h)
  rename_i hN
  clear hN
  conv => whnf
  repeat first
    | (refine DRAW.seek ?_; repeat (first | refine TRYD.take ?_ | refine TRYD.next ?_); conv => whnf)
    | (refine HOLD.mk (by first | exact trivial | exact ⟨⟨rfl, rfl⟩, trivial⟩ | exact ⟨⟨rfl, rfl⟩, ⟨rfl, rfl⟩, trivial⟩) ?_; (conv => whnf))
    | (refine CALL0.cutBy lvMono1 _ _ _ _ _ (leL_refl _) (hA ..) rfl ?_; conv => whnf)
    | (refine CALL0.by (hA ..) rfl ?_; conv => whnf)
    | (refine CALLQ.mk _ _ _ (leL_refl _) (hA ..) rfl ?_; conv => whnf)
  exact ⟨rfl, rfl⟩

set_option maxHeartbeats 32000000 in
theorem mono_111 (up : List Ces) (hk : gl g_control_kinds = kindsI) (hg : gl g_internal_strconv_uint64pow10 = powI) (m : Mc) (s : Sta) (x y : Int) (hs : m.smallB = true) (ql : decide ((s.mode.size : Int) > 40) = false) (he : s.err m = 0) (qi : eqS s.mode sIdle = false)
    (st : Int) (hst : Int.tmod (IntKind.i64.wrap x) 3 = st) (h1 : 0 ≤ st) (h2 : st ≤ 2) (hkk : Int.tmod (IntKind.i64.wrap y) 3 = 1) (hsafe : s.safeN m = true) (hp : decide (s.pk m st > m.lim) = false) :
    Cs gl n_nacellelaw05_ControlMonotone up [m.iv, s.iv, .agg [.int .u8 x, .int .u8 y]] (.bool true) up := by
  obtain ⟨hm, hfe, hli, hra⟩ := small_ok hs (Mc.err_of (Sta.err_rng he).1)
  obtain ⟨_, hr, hl, hstk, htor, hkn, hft⟩ := Sta.err_rng he
  have g0 := hm.wind
  have g1 := hm.fea
  have g2 := hm.lim
  have g3 := hr.speed
  have g4 := hr.p0
  have g5 := hr.p1
  have g6 := hr.p2
  have e1 : w64 (s.speed - 1) = s.speed - 1 := by rw [w64, wrap_in] <;> omega
  have e2 : w64 (s.p1 + 1) = s.p1 + 1 := by rw [w64, wrap_in] <;> omega
  have e3 : w64 (m.wind - 1) = m.wind - 1 := by rw [w64, wrap_in] <;> omega
  have heS : (Sta.mk s.mode (maxW 0 (w64 (s.speed - 1))) s.p0 s.p1 s.p2 s.tor s.stuck).err m = 0 := err_other he qi rfl rfl rfl (by show 0 ≤ maxW 0 _ ∧ maxW 0 _ ≤ _; rw [e1, maxW_eq]; omega) g4 g5 g6
  have hmin : 0 ≤ minW m.fea (w64 (s.p1 + 1)) ∧ minW m.fea (w64 (s.p1 + 1)) ≤ m.fea ∧ s.p1 ≤ minW m.fea (w64 (s.p1 + 1)) := by
    rw [e2]; unfold minW; split <;> omega
  have heN : (Sta.mk s.mode s.speed s.p0 (minW m.fea (w64 (s.p1 + 1))) s.p2 s.tor s.stuck).err m = 0 := err_other he qi rfl rfl rfl ⟨g3.1, hl⟩ g4 ⟨hmin.1, hmin.2.1⟩ g6
  have hc : (Mc.mk (maxW 1 (w64 (m.wind - 1))) m.fea m.rate m.tor m.lim m.rated m.gain).ok := ⟨by show 1 ≤ maxW 1 _ ∧ maxW 1 _ ≤ 100; rw [e3, maxW_eq]; omega, hm.fea, hm.rate, hm.tor, hm.lim, hm.rated, hm.gain, by
    have := hm.two
    show maxW 1 _ < 2 * m.fea
    rw [e3, maxW_eq]; omega⟩
  have heC : s.err (Mc.mk (maxW 1 (w64 (m.wind - 1))) m.fea m.rate m.tor m.lim m.rated m.gain) = 0 := err_machine he hc rfl rfl rfl
  have hsp : s.speed ≤ 10000 := by omega
  have leS : (Sta.mk s.mode (maxW 0 (w64 (s.speed - 1))) s.p0 s.p1 s.p2 s.tor s.stuck).le s := ⟨by show maxW 0 _ ≤ _; rw [e1, maxW_eq]; omega, Int.le_refl _, Int.le_refl _, Int.le_refl _⟩
  have leN : (Sta.mk s.mode s.speed s.p0 (minW m.fea (w64 (s.p1 + 1))) s.p2 s.tor s.stuck).le s := ⟨Int.le_refl _, Int.le_refl _, hmin.2.2, Int.le_refl _⟩
  have k1 : -1 ≤ st := by omega
  obtain ⟨_, hrS, hlS, _⟩ := Sta.err_rng heS
  obtain ⟨_, hrN, hlN, _⟩ := Sta.err_rng heN
  obtain ⟨_, hrC, hlC, _⟩ := Sta.err_rng heC
  have b0 := pk_ge (m := m) (s := s) (k := st)
  have b1 := pk_le hm hm rfl rfl (Int.le_refl _) (s := s) (t := s) (k := -1) (k' := st) (by omega) (by omega) k1 h2 (.inr rfl) hr hr hsp hsp s.le_refl
  have b2 := pk_le hm hm rfl rfl (Int.le_refl _) (k := st) (k' := st) k1 h2 k1 h2 (.inl rfl) hrS hr (by omega) hsp leS
  have b3 := pk_le hm hm rfl rfl (Int.le_refl _) (k := st) (k' := st) k1 h2 k1 h2 (.inl rfl) hrN hr (by omega) hsp leN
  have b4 := pk_le hc hm rfl rfl (by show maxW 1 _ ≤ m.wind; rw [e3, maxW_eq]; omega) (s := s) (t := s) (k := st) (k' := st) k1 h2 k1 h2 (.inl rfl) hrC hr hsp hsp s.le_refl
  have hS := fun up => c_rSmall (gl := gl) up m
  rw [hs] at hS
  have hE := fun up => c_rState (gl := gl) up m s
  rw [he] at hE
  have hA := fun up => c_awake (gl := gl) up hk hg
  have P0 := fun up => c_PeakOk (gl := gl) up s m st he k1 h2
  have P1 := fun up => c_PeakOk (gl := gl) up s m (-1) he (by omega) (by omega)
  have P2 := fun up => c_PeakOk (gl := gl) up _ m st heS k1 h2
  have P3 := fun up => c_PeakOk (gl := gl) up _ m st heN k1 h2
  have P4 := fun up => c_PeakOk (gl := gl) up s _ st heC k1 h2
  have F0 := fun up => c_SafeOk (gl := gl) up s m he
  have F1 := fun up => c_SafeOk (gl := gl) up _ m heS
  have F2 := fun up => c_SafeOk (gl := gl) up _ m heN
  have C1 := fun up => c_state (gl := gl) up (Sta.mk s.mode (maxW 0 (w64 (s.speed - 1))) s.p0 s.p1 s.p2 s.tor s.stuck)
  have C2 := fun up => c_state (gl := gl) up (Sta.mk s.mode s.speed s.p0 (minW m.fea (w64 (s.p1 + 1))) s.p2 s.tor s.stuck)
  have T0 := fun up => c_StopOk (gl := gl) up s m st he k1 h2
  rw [hsafe] at F0
  rw [hp] at T0
  have s1 := safe_mono hm hrS hr (by omega) hsp leS rfl hsafe
  have s2 := safe_mono hm hrN hr (by omega) hsp leN rfl hsafe
  rw [s1] at F1
  rw [s2] at F2
  have q1 : decide (s.pk m st < s.speed) = false := decide_eq_false (by omega)
  have q2 : decide (s.pk m (-1) > s.pk m st) = false := decide_eq_false (by omega)
  obtain ⟨n, hn⟩ : ∃ n, n = s.num m st := ⟨_, rfl⟩
  have hn2 := num_small hm hfe hli hr hl k1 h2
  rw [← hn] at P0 T0 hn2
  have q4 : decide ((Sta.mk s.mode (maxW 0 (w64 (s.speed - 1))) s.p0 s.p1 s.p2 s.tor s.stuck).pk m st > s.pk m st) = false := decide_eq_false (by omega)
  have q5 : decide ((Sta.mk s.mode s.speed s.p0 (minW m.fea (w64 (s.p1 + 1))) s.p2 s.tor s.stuck).pk m st > s.pk m st) = false := decide_eq_false (by omega)
  have q6 : decide (s.pk (Mc.mk (maxW 1 (w64 (m.wind - 1))) m.fea m.rate m.tor m.lim m.rated m.gain) st > s.pk m st) = false := decide_eq_false (by omega)
  have q7 : (!(true == decide (s.pk m st ≤ m.lim))) = false := by
    have := of_decide_eq_false hp
    rw [show decide (s.pk m st ≤ m.lim) = true from decide_eq_true (by omega)]; rfl
  have q8 : (((1 + n : Nat) : Int) == w64 ((n : Int) + 1)) = true := by
    rw [w64, wrap_in (by omega) (by omega)]
    have : ((1 + n : Nat) : Int) = (n : Int) + 1 := by omega
    simpa using this
  have hCS := fun up => c_CheckStop (gl := gl) up s m st (1 + n) (by omega) (s.stopS m st)
  have eCS : csErr s m st (1 + n) (s.stopS m st) = 0 := by
    rw [cs_err]
    have e0 : s.err0 m st = 0 := by
      unfold Sta.err0
      rw [he, withinS_zero.2 ⟨k1, h2⟩]; rfl
    rw [e0, show ∀ x, orE 0 x = x from fun x => orE_no rfl]
    unfold rcsErr
    rw [show decide (((1 + n : Nat) : Int) > 4096) = false from decide_eq_false (by omega), hp, ← hn, sameSt_refl]; rfl
  rw [eCS] at hCS
  simp only [cond_true, cond_false] at T0
  clear b0 b1 b2 b3 b4 hrS hlS hrN hlN hrC hlC leS leN heS heN heC e1 e2 e3 g0 g1 g2 g3 g4 g5 g6 hr hl hstk htor hkn hft hfe hli hra hn hsafe hp he hsp
  refine mk h_nacellelaw05_ControlMonotone rfl rfl ?_
  conv => whnf
  repeat first
    | (refine DRAW.seek ?_; repeat (first | refine TRYD.take ?_ | refine TRYD.next ?_); conv => whnf)
    | (refine HOLD.mk (by first | exact trivial | exact ⟨⟨rfl, rfl⟩, trivial⟩ | exact ⟨⟨rfl, rfl⟩, ⟨rfl, rfl⟩, trivial⟩) ?_; (conv => whnf))
    | (refine CALL0.cutBy lvMono1 _ _ _ _ _ (leL_refl _) (hS ..) rfl ?_; conv => whnf)
    | (refine CALL0.by (hS ..) rfl ?_; conv => whnf)
    | (refine CALLQ.mk _ _ _ (leL_refl _) (hS ..) rfl ?_; conv => whnf)
  split
  · rename_i h
    exact Bool.noConfusion ((ql).symm.trans h)
  rename_i hN
  clear hN
  conv => whnf
  repeat first
    | (refine DRAW.seek ?_; repeat (first | refine TRYD.take ?_ | refine TRYD.next ?_); conv => whnf)
    | (refine HOLD.mk (by first | exact trivial | exact ⟨⟨rfl, rfl⟩, trivial⟩ | exact ⟨⟨rfl, rfl⟩, ⟨rfl, rfl⟩, trivial⟩) ?_; (conv => whnf))
    | (refine CALL0.cutBy lvMono1 _ _ _ _ _ (leL_refl _) (hE ..) rfl ?_; conv => whnf)
    | (refine CALL0.by (hE ..) rfl ?_; conv => whnf)
    | (refine CALLQ.mk _ _ _ (leL_refl _) (hE ..) rfl ?_; conv => whnf)
  split
  · rename_i h
    exact Bool.noConfusion ((qi).symm.trans h)
  rename_i hN
  clear hN
  conv => whnf
  refine DRAW.seek ?_
  repeat (first | refine TRYD.take ?_ | refine TRYD.next ?_)
  conv => whnf
  simp only [hst, hkk]
  repeat first
    | (refine DRAW.seek ?_; repeat (first | refine TRYD.take ?_ | refine TRYD.next ?_); conv => whnf)
    | (refine HOLD.mk (by first | exact trivial | exact ⟨⟨rfl, rfl⟩, trivial⟩ | exact ⟨⟨rfl, rfl⟩, ⟨rfl, rfl⟩, trivial⟩) ?_; (conv => whnf))
    | (refine CALL0.cutBy lvMono1 _ _ _ _ _ (leL_refl _) (c_machine ..) rfl ?_; conv => whnf)
    | (refine CALL0.by (c_machine ..) rfl ?_; conv => whnf)
    | (refine CALLQ.mk _ _ _ (leL_refl _) (c_machine ..) rfl ?_; conv => whnf)
    | (refine CALL0.cutBy lvMono1 _ _ _ _ _ (leL_refl _) (c_state ..) rfl ?_; conv => whnf)
    | (refine CALL0.by (c_state ..) rfl ?_; conv => whnf)
    | (refine CALLQ.mk _ _ _ (leL_refl _) (c_state ..) rfl ?_; conv => whnf)
    | (refine CALL0.cutBy lvMono1 _ _ _ _ _ (leL_refl _) (P0 ..) rfl ?_; conv => whnf)
    | (refine CALL0.by (P0 ..) rfl ?_; conv => whnf)
    | (refine CALLQ.mk _ _ _ (leL_refl _) (P0 ..) rfl ?_; conv => whnf)
    | (refine CALL0.cutBy lvMono1 _ _ _ _ _ (leL_refl _) (P1 ..) rfl ?_; conv => whnf)
    | (refine CALL0.by (P1 ..) rfl ?_; conv => whnf)
    | (refine CALLQ.mk _ _ _ (leL_refl _) (P1 ..) rfl ?_; conv => whnf)
    | (refine CALL0.cutBy lvMono1 _ _ _ _ _ (leL_refl _) (F0 ..) rfl ?_; conv => whnf)
    | (refine CALL0.by (F0 ..) rfl ?_; conv => whnf)
    | (refine CALLQ.mk _ _ _ (leL_refl _) (F0 ..) rfl ?_; conv => whnf)
  split
  · rename_i h
    exact Bool.noConfusion ((q1).symm.trans h)
  rename_i hN
  clear hN
  conv => whnf
  split
  · rename_i h
    exact Bool.noConfusion ((q2).symm.trans h)
  rename_i hN
  clear hN
  conv => whnf
  repeat first
    | (refine DRAW.seek ?_; repeat (first | refine TRYD.take ?_ | refine TRYD.next ?_); conv => whnf)
    | (refine HOLD.mk (by first | exact trivial | exact ⟨⟨rfl, rfl⟩, trivial⟩ | exact ⟨⟨rfl, rfl⟩, ⟨rfl, rfl⟩, trivial⟩) ?_; (conv => whnf))
    | (refine CALL0.cutBy lvMono1 _ _ _ _ _ (leL_refl _) (c_machine ..) rfl ?_; conv => whnf)
    | (refine CALL0.by (c_machine ..) rfl ?_; conv => whnf)
    | (refine CALLQ.mk _ _ _ (leL_refl _) (c_machine ..) rfl ?_; conv => whnf)
  repeat first
    | (refine DRAW.seek ?_; repeat (first | refine TRYD.take ?_ | refine TRYD.next ?_); conv => whnf)
    | (refine HOLD.mk (by first | exact trivial | exact ⟨⟨rfl, rfl⟩, trivial⟩ | exact ⟨⟨rfl, rfl⟩, ⟨rfl, rfl⟩, trivial⟩) ?_; (conv => whnf))
    | (refine CALL0.cutBy lvMono1 _ _ _ _ _ (leL_refl _) (C1 ..) rfl ?_; conv => whnf)
    | (refine CALL0.by (C1 ..) rfl ?_; conv => whnf)
    | (refine CALLQ.mk _ _ _ (leL_refl _) (C1 ..) rfl ?_; conv => whnf)
    | (refine CALL0.cutBy lvMono1 _ _ _ _ _ (leL_refl _) (C2 ..) rfl ?_; conv => whnf)
    | (refine CALL0.by (C2 ..) rfl ?_; conv => whnf)
    | (refine CALLQ.mk _ _ _ (leL_refl _) (C2 ..) rfl ?_; conv => whnf)
    | (refine CALL0.cutBy lvMono1 _ _ _ _ _ (leL_refl _) (c_state ..) rfl ?_; conv => whnf)
    | (refine CALL0.by (c_state ..) rfl ?_; conv => whnf)
    | (refine CALLQ.mk _ _ _ (leL_refl _) (c_state ..) rfl ?_; conv => whnf)
    | (refine CALL0.cutBy lvMono1 _ _ _ _ _ (leL_refl _) (P2 ..) rfl ?_; conv => whnf)
    | (refine CALL0.by (P2 ..) rfl ?_; conv => whnf)
    | (refine CALLQ.mk _ _ _ (leL_refl _) (P2 ..) rfl ?_; conv => whnf)
    | (refine CALL0.cutBy lvMono1 _ _ _ _ _ (leL_refl _) (P3 ..) rfl ?_; conv => whnf)
    | (refine CALL0.by (P3 ..) rfl ?_; conv => whnf)
    | (refine CALLQ.mk _ _ _ (leL_refl _) (P3 ..) rfl ?_; conv => whnf)
    | (refine CALL0.cutBy lvMono1 _ _ _ _ _ (leL_refl _) (P4 ..) rfl ?_; conv => whnf)
    | (refine CALL0.by (P4 ..) rfl ?_; conv => whnf)
    | (refine CALLQ.mk _ _ _ (leL_refl _) (P4 ..) rfl ?_; conv => whnf)
    | (refine CALL0.cutBy lvMono1 _ _ _ _ _ (leL_refl _) (F1 ..) rfl ?_; conv => whnf)
    | (refine CALL0.by (F1 ..) rfl ?_; conv => whnf)
    | (refine CALLQ.mk _ _ _ (leL_refl _) (F1 ..) rfl ?_; conv => whnf)
    | (refine CALL0.cutBy lvMono1 _ _ _ _ _ (leL_refl _) (F2 ..) rfl ?_; conv => whnf)
    | (refine CALL0.by (F2 ..) rfl ?_; conv => whnf)
    | (refine CALLQ.mk _ _ _ (leL_refl _) (F2 ..) rfl ?_; conv => whnf)
    | (refine CALL0.cutBy lvMono1 _ _ _ _ _ (leL_refl _) (c_machine ..) rfl ?_; conv => whnf)
    | (refine CALL0.by (c_machine ..) rfl ?_; conv => whnf)
    | (refine CALLQ.mk _ _ _ (leL_refl _) (c_machine ..) rfl ?_; conv => whnf)
  split
  · rename_i h
    exact Bool.noConfusion ((q4).symm.trans h)
  rename_i hN
  clear hN
  conv => whnf
  split
  · rename_i h
    exact Bool.noConfusion ((q5).symm.trans h)
  rename_i hN
  clear hN
  conv => whnf
  split
  · rename_i h
    exact Bool.noConfusion ((q6).symm.trans h)
  rename_i hN
  clear hN
  conv => whnf
  repeat first
    | (refine DRAW.seek ?_; repeat (first | refine TRYD.take ?_ | refine TRYD.next ?_); conv => whnf)
    | (refine HOLD.mk (by first | exact trivial | exact ⟨⟨rfl, rfl⟩, trivial⟩ | exact ⟨⟨rfl, rfl⟩, ⟨rfl, rfl⟩, trivial⟩) ?_; (conv => whnf))
    | (refine CALL0.cutBy lvMono1 _ _ _ _ _ (leL_refl _) (c_machine ..) rfl ?_; conv => whnf)
    | (refine CALL0.by (c_machine ..) rfl ?_; conv => whnf)
    | (refine CALLQ.mk _ _ _ (leL_refl _) (c_machine ..) rfl ?_; conv => whnf)
    | (refine CALL0.cutBy lvMono1 _ _ _ _ _ (leL_refl _) (c_state ..) rfl ?_; conv => whnf)
    | (refine CALL0.by (c_state ..) rfl ?_; conv => whnf)
    | (refine CALLQ.mk _ _ _ (leL_refl _) (c_state ..) rfl ?_; conv => whnf)
    | (refine CALL0.cutBy lvMono1 _ _ _ _ _ (leL_refl _) (T0 ..) rfl ?_; conv => whnf)
    | (refine CALL0.by (T0 ..) rfl ?_; conv => whnf)
    | (refine CALLQ.mk _ _ _ (leL_refl _) (T0 ..) rfl ?_; conv => whnf)
  split
  · rename_i h
    exact Bool.noConfusion ((q7).symm.trans h)
  rename_i hN
  clear hN
  conv => whnf
  refine DRAW.seek ?_
  repeat (first | refine TRYD.take ?_ | refine TRYD.next ?_)
  conv => whnf
  rw [show (((1 + n : Nat) : Int) == IntKind.i64.wrap ((n : Int) + 1)) = true from q8]
  conv => whnf
  repeat first
    | (refine DRAW.seek ?_; repeat (first | refine TRYD.take ?_ | refine TRYD.next ?_); conv => whnf)
    | (refine HOLD.mk (by first | exact trivial | exact ⟨⟨rfl, rfl⟩, trivial⟩ | exact ⟨⟨rfl, rfl⟩, ⟨rfl, rfl⟩, trivial⟩) ?_; (conv => whnf))
    | (refine CALL0.cutBy lvMono1 _ _ _ _ _ (leL_refl _) (c_machine ..) rfl ?_; conv => whnf)
    | (refine CALL0.by (c_machine ..) rfl ?_; conv => whnf)
    | (refine CALLQ.mk _ _ _ (leL_refl _) (c_machine ..) rfl ?_; conv => whnf)
    | (refine CALL0.cutBy lvMono1 _ _ _ _ _ (leL_refl _) (c_state ..) rfl ?_; conv => whnf)
    | (refine CALL0.by (c_state ..) rfl ?_; conv => whnf)
    | (refine CALLQ.mk _ _ _ (leL_refl _) (c_state ..) rfl ?_; conv => whnf)
    | (refine CALL0.cutBy lvMono1 _ _ _ _ _ (leL_refl _) (hCS ..) rfl ?_; conv => whnf)
    | (refine CALL0.by (hCS ..) rfl ?_; conv => whnf)
    | (refine CALLQ.mk _ _ _ (leL_refl _) (hCS ..) rfl ?_; conv => whnf)
    | (refine CALL0.cutBy lvMono1 _ _ _ _ _ (leL_refl _) (hA ..) rfl ?_; conv => whnf)
    | (refine CALL0.by (hA ..) rfl ?_; conv => whnf)
    | (refine CALLQ.mk _ _ _ (leL_refl _) (hA ..) rfl ?_; conv => whnf)
  exact ⟨rfl, rfl⟩
end Go.Proofs.YtkdlegfakefjgaaDoor.Ix
