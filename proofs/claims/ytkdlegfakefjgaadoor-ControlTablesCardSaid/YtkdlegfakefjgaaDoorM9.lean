/-
  Kt1: the reference's table; ControlTables: the law.
-/
import Derived.Test.YtkdlegfakefjgaaDoorM8
namespace Go.Proofs.YtkdlegfakefjgaaDoor.Ix
open Go.Proofs
set_option maxRecDepth 100000
set_option linter.unusedVariables false
set_option linter.unusedSimpArgs false
variable {gl : Nat → IV}


set_option maxHeartbeats 16000000 in
theorem c_rTable (up : List Ces) (m : Mc) (hm : m.ok) :
    Cs gl n_nacelleref05_Table up [m.iv] (.lst (some 44) 2 (rowsOf m (numN m) (m.fea + 1).toNat).length fun i => ((rowsOf m (numN m) (m.fea + 1).toNat).getD i row0).cs) up := by
  have hf := hm.fea
  have hl := hm.lim
  refine mk h_nacelleref05_Table rfl rfl ?_
  generalize hF : (m.fea + 1).toNat = F
  let G : Nat → Nat → List IV := fun k i => ((rowsOf m (numN m) k).getD i row0).cs
  conv => whnf
  refine .mk (α := {k : Nat // k ≤ F}) (fun k => ⟨[(4, .int .i64 k.1), (3, .lst (some 44) 2 (rowsOf m (numN m) k.1).length (G k.1)), (1, .ptr 0 1 0)], [(1, m.cs)], up⟩) (fun k => F - k.1) ⟨0, Nat.zero_le _⟩ ⟨⟨leV_refl _, rfl, leV_refl _, trivial⟩, ⟨leL_refl _, trivial⟩, rfl, rfl⟩ ?_
  rintro ⟨k, hk⟩
  have hw : w64 ((k : Int) + 1) = ((k + 1 : Nat) : Int) := by rw [w64, wrap_in] <;> omega
  by_cases hlt : k < F
  rotate_left
  · have q : decide ((k : Int) ≤ m.fea) = false := decide_eq_false (by omega)
    have : k = F := by omega
    subst this
    conv => whnf
    split
    · rename_i h
      exact Bool.noConfusion ((q).symm.trans h)
    rename_i hN
    clear hN
    conv => whnf
    exact ⟨rfl, rfl⟩
  have q : decide ((k : Int) ≤ m.fea) = true := decide_eq_true (by omega)
  have hlen := rowsOf_len m (numN m) k
  have hfirst := first_at hm (a := (k : Int)) (by omega)
  generalize hr : firstS0 m (numN m) k = r at hfirst
  generalize hL : (m.lim + 1).toNat = L at hfirst
  obtain ⟨r1, r2, r3⟩ := hfirst
  let sp : Nat → Int := fun x => if x ≤ r then (x : Int) - 1 else (r : Int) - 1
  conv => whnf
  split
  rotate_left
  · rename_i h
    exact Bool.noConfusion ((q).symm.trans h)
  rename_i hN
  clear hN
  conv => whnf
  refine .mk (α := {x : Nat // x ≤ r + 1 ∧ (x = r + 1 → r < L)}) (fun x => ⟨[(6, .int .i64 x.1), (5, .ptr 0 5 0), (4, .int .i64 k), (3, .lst (some 44) 2 (rowsOf m (numN m) k).length (G k)), (1, .ptr 0 1 0)], [(5, [.int .i64 k, .int .i64 (sp x.1)]), (1, m.cs)], up⟩) (fun x => r + 1 - x.1) ⟨0, by omega, fun h => by omega⟩ ⟨⟨leV_refl _, leV_refl _, leV_refl _, leV_refl _, leV_refl _, trivial⟩, ⟨⟨leV_refl _, leV_int ?_, trivial⟩, leL_refl _, trivial⟩, rfl, rfl⟩ ?_
  · show (-1 : Int) = if 0 ≤ r then ((0 : Nat) : Int) - 1 else (r : Int) - 1
    rw [if_pos (Nat.zero_le _)]; rfl
  rintro ⟨x, hx, hx2⟩
  have hwx : w64 ((x : Int) + 1) = ((x + 1 : Nat) : Int) := by rw [w64, wrap_in] <;> omega
  have hwm : w64 ((x : Int) - 1) = (x : Int) - 1 := by rw [w64, wrap_in] <;> omega
  by_cases hxr : x ≤ r
  · have hspx : sp x = (x : Int) - 1 := if_pos hxr
    by_cases hxl : x < L
    · have q1 : decide ((x : Int) ≤ m.lim) = true := decide_eq_true (by omega)
      have q2 : (sp x == w64 ((x : Int) - 1)) = true := by rw [hspx, hwm]; exact beq_self_eq_true _
      have hS := fun up => c_rSafe (gl := gl) up m (atS k x) hm (atS_rng hm (by omega) (by omega)) (by show (x : Int) ≤ 10000; omega)
      by_cases hxr2 : x < r
      · have hs : (atS k x).safeN m = true := by
          have := r2 x hxr2
          unfold unsafeN at this
          simpa using this
        rw [hs] at hS
        conv => whnf
        split
        rotate_left
        · rename_i h
          exact Bool.noConfusion ((q1).symm.trans h)
        rename_i hN
        clear hN
        conv => whnf
        split
        rotate_left
        · rename_i h
          exact Bool.noConfusion ((q2).symm.trans h)
        rename_i hN
        clear hN
        conv => whnf
        repeat first
          | (refine DRAW.seek ?_; repeat (first | refine TRYD.take ?_ | refine TRYD.next ?_); conv => whnf)
          | (refine HOLD.mk (by first | exact trivial | exact ⟨⟨rfl, rfl⟩, trivial⟩ | exact ⟨⟨rfl, rfl⟩, ⟨rfl, rfl⟩, trivial⟩) ?_; (conv => whnf))
          | (refine CALL0.by (hS ..) rfl ?_; conv => whnf)
          | (refine CALLQ.mk _ _ _ (leL_refl _) (hS ..) rfl ?_; conv => whnf)
        refine ⟨⟨x + 1, by omega, fun h => by omega⟩, ⟨⟨leV_int hwx, leV_refl _, leV_refl _, leV_refl _, leV_refl _, trivial⟩, ⟨⟨leV_refl _, leV_int ?_, trivial⟩, leL_refl _, trivial⟩, rfl, rfl⟩, (by show r + 1 - (x + 1) < r + 1 - x; omega)⟩
        show (x : Int) = if x + 1 ≤ r then ((x + 1 : Nat) : Int) - 1 else (r : Int) - 1
        rw [if_pos (by omega)]; omega
      · have hxe : x = r := by omega
        have hs : (atS k x).safeN m = false := by
          have := r3 (by omega)
          rw [← hxe] at this
          unfold unsafeN at this
          simpa using this
        rw [hs] at hS
        conv => whnf
        split
        rotate_left
        · rename_i h
          exact Bool.noConfusion ((q1).symm.trans h)
        rename_i hN
        clear hN
        conv => whnf
        split
        rotate_left
        · rename_i h
          exact Bool.noConfusion ((q2).symm.trans h)
        rename_i hN
        clear hN
        conv => whnf
        repeat first
          | (refine DRAW.seek ?_; repeat (first | refine TRYD.take ?_ | refine TRYD.next ?_); conv => whnf)
          | (refine HOLD.mk (by first | exact trivial | exact ⟨⟨rfl, rfl⟩, trivial⟩ | exact ⟨⟨rfl, rfl⟩, ⟨rfl, rfl⟩, trivial⟩) ?_; (conv => whnf))
          | (refine CALL0.by (hS ..) rfl ?_; conv => whnf)
          | (refine CALLQ.mk _ _ _ (leL_refl _) (hS ..) rfl ?_; conv => whnf)
        refine ⟨⟨x + 1, by omega, fun h => by omega⟩, ⟨⟨leV_int hwx, leV_refl _, leV_refl _, leV_refl _, leV_refl _, trivial⟩, ⟨⟨leV_refl _, leV_int ?_, trivial⟩, leL_refl _, trivial⟩, rfl, rfl⟩, (by show r + 1 - (x + 1) < r + 1 - x; omega)⟩
        show sp x = if x + 1 ≤ r then ((x + 1 : Nat) : Int) - 1 else (r : Int) - 1
        rw [if_neg (by omega), hspx, hxe]
    · have hxe : x = r := by omega
      have q1 : decide ((x : Int) ≤ m.lim) = false := decide_eq_false (by omega)
      have hsp : sp x = (r : Int) - 1 := by rw [hspx, hxe]
      cases qz : decide (0 < r) with
      | true =>
        have hz := of_decide_eq_true qz
        have q5 : decide (sp x ≥ 0) = true := by rw [hsp]; exact decide_eq_true (by omega)
        have e1 : rowsOf m (numN m) (k + 1) = rowsOf m (numN m) k ++ [⟨k, (r : Int) - 1⟩] := by
          conv => lhs; unfold rowsOf
          rw [hr, qz]; rfl
        conv => whnf
        split
        · rename_i h
          exact Bool.noConfusion ((q1).symm.trans h)
        rename_i hN
        clear hN
        conv => whnf
        split
        rotate_left
        · rename_i h
          exact Bool.noConfusion ((q5).symm.trans h)
        rename_i hN
        clear hN
        conv => whnf
        split
        rotate_left
        · rename_i h
          have h' : decide ((rowsOf m (numN m) k).length + 1 ≤ 1073741824) = false := h
          simp at h' <;> omega
        conv => whnf
        refine ⟨⟨k + 1, hlt⟩, ⟨⟨leV_int hw, ⟨.inr rfl, rfl, ?_, fun j hj => ?_⟩, leV_refl _, trivial⟩, ⟨leL_refl _, trivial⟩, rfl, rfl⟩, (by show F - (k + 1) < F - k; omega)⟩
        · show (rowsOf m (numN m) k).length + 1 = (rowsOf m (numN m) (k + 1)).length
          rw [e1]; simp
        · show (if j < (rowsOf m (numN m) k).length then G k j else litF 2 [IV.int .i64 k, IV.int .i64 (sp x)] (j - (rowsOf m (numN m) k).length)) = ((rowsOf m (numN m) (k + 1)).getD j row0).cs
          rw [e1]
          split
          · rename_i hj2
            show ((rowsOf m (numN m) k).getD j row0).cs = _
            rw [List.getD_eq_getElem?_getD, List.getD_eq_getElem?_getD, List.getElem?_append_left hj2]
          · have hj' : j < (rowsOf m (numN m) k).length + 1 := hj
            have : j = (rowsOf m (numN m) k).length := by omega
            subst this
            rw [Nat.sub_self, List.getD_eq_getElem?_getD, List.getElem?_append_right (Nat.le_refl _), Nat.sub_self, hsp]
            rfl
      | false =>
        have hz := of_decide_eq_false qz
        have q5 : decide (sp x ≥ 0) = false := by rw [hsp]; exact decide_eq_false (by omega)
        have e1 : rowsOf m (numN m) (k + 1) = rowsOf m (numN m) k := by
          conv => lhs; unfold rowsOf
          rw [hr, qz]; rfl
        conv => whnf
        split
        · rename_i h
          exact Bool.noConfusion ((q1).symm.trans h)
        rename_i hN
        clear hN
        conv => whnf
        split
        · rename_i h
          exact Bool.noConfusion ((q5).symm.trans h)
        rename_i hN
        clear hN
        conv => whnf
        refine ⟨⟨k + 1, hlt⟩, ⟨⟨leV_int hw, ⟨.inr rfl, rfl, ?_, fun j hj => ?_⟩, leV_refl _, trivial⟩, ⟨leL_refl _, trivial⟩, rfl, rfl⟩, (by show F - (k + 1) < F - k; omega)⟩
        · show (rowsOf m (numN m) k).length = (rowsOf m (numN m) (k + 1)).length
          rw [e1]
        · show ((rowsOf m (numN m) k).getD j row0).cs = ((rowsOf m (numN m) (k + 1)).getD j row0).cs
          rw [e1]
  · have hxe : x = r + 1 := by omega
    have hsp : sp x = (r : Int) - 1 := if_neg hxr
    by_cases hxl : x < L
    · have q1 : decide ((x : Int) ≤ m.lim) = true := decide_eq_true (by omega)
      have q2 : (sp x == w64 ((x : Int) - 1)) = false := by
        rw [hsp, hwm, hxe]
        have : ¬ ((r : Int) - 1 = ((r + 1 : Nat) : Int) - 1) := by omega
        simpa using this
      cases qz : decide (0 < r) with
      | true =>
        have hz := of_decide_eq_true qz
        have q5 : decide (sp x ≥ 0) = true := by rw [hsp]; exact decide_eq_true (by omega)
        have e1 : rowsOf m (numN m) (k + 1) = rowsOf m (numN m) k ++ [⟨k, (r : Int) - 1⟩] := by
          conv => lhs; unfold rowsOf
          rw [hr, qz]; rfl
        conv => whnf
        split
        rotate_left
        · rename_i h
          exact Bool.noConfusion ((q1).symm.trans h)
        rename_i hN
        clear hN
        conv => whnf
        split
        · rename_i h
          exact Bool.noConfusion ((q2).symm.trans h)
        rename_i hN
        clear hN
        conv => whnf
        split
        rotate_left
        · rename_i h
          exact Bool.noConfusion ((q5).symm.trans h)
        rename_i hN
        clear hN
        conv => whnf
        split
        rotate_left
        · rename_i h
          have h' : decide ((rowsOf m (numN m) k).length + 1 ≤ 1073741824) = false := h
          simp at h' <;> omega
        conv => whnf
        refine ⟨⟨k + 1, hlt⟩, ⟨⟨leV_int hw, ⟨.inr rfl, rfl, ?_, fun j hj => ?_⟩, leV_refl _, trivial⟩, ⟨leL_refl _, trivial⟩, rfl, rfl⟩, (by show F - (k + 1) < F - k; omega)⟩
        · show (rowsOf m (numN m) k).length + 1 = (rowsOf m (numN m) (k + 1)).length
          rw [e1]; simp
        · show (if j < (rowsOf m (numN m) k).length then G k j else litF 2 [IV.int .i64 k, IV.int .i64 (sp x)] (j - (rowsOf m (numN m) k).length)) = ((rowsOf m (numN m) (k + 1)).getD j row0).cs
          rw [e1]
          split
          · rename_i hj2
            show ((rowsOf m (numN m) k).getD j row0).cs = _
            rw [List.getD_eq_getElem?_getD, List.getD_eq_getElem?_getD, List.getElem?_append_left hj2]
          · have hj' : j < (rowsOf m (numN m) k).length + 1 := hj
            have : j = (rowsOf m (numN m) k).length := by omega
            subst this
            rw [Nat.sub_self, List.getD_eq_getElem?_getD, List.getElem?_append_right (Nat.le_refl _), Nat.sub_self, hsp]
            rfl
      | false =>
        have hz := of_decide_eq_false qz
        have q5 : decide (sp x ≥ 0) = false := by rw [hsp]; exact decide_eq_false (by omega)
        have e1 : rowsOf m (numN m) (k + 1) = rowsOf m (numN m) k := by
          conv => lhs; unfold rowsOf
          rw [hr, qz]; rfl
        conv => whnf
        split
        rotate_left
        · rename_i h
          exact Bool.noConfusion ((q1).symm.trans h)
        rename_i hN
        clear hN
        conv => whnf
        split
        · rename_i h
          exact Bool.noConfusion ((q2).symm.trans h)
        rename_i hN
        clear hN
        conv => whnf
        split
        · rename_i h
          exact Bool.noConfusion ((q5).symm.trans h)
        rename_i hN
        clear hN
        conv => whnf
        refine ⟨⟨k + 1, hlt⟩, ⟨⟨leV_int hw, ⟨.inr rfl, rfl, ?_, fun j hj => ?_⟩, leV_refl _, trivial⟩, ⟨leL_refl _, trivial⟩, rfl, rfl⟩, (by show F - (k + 1) < F - k; omega)⟩
        · show (rowsOf m (numN m) k).length = (rowsOf m (numN m) (k + 1)).length
          rw [e1]
        · show ((rowsOf m (numN m) k).getD j row0).cs = ((rowsOf m (numN m) (k + 1)).getD j row0).cs
          rw [e1]
    · have q1 : decide ((x : Int) ≤ m.lim) = false := decide_eq_false (by omega)
      cases qz : decide (0 < r) with
      | true =>
        have hz := of_decide_eq_true qz
        have q5 : decide (sp x ≥ 0) = true := by rw [hsp]; exact decide_eq_true (by omega)
        have e1 : rowsOf m (numN m) (k + 1) = rowsOf m (numN m) k ++ [⟨k, (r : Int) - 1⟩] := by
          conv => lhs; unfold rowsOf
          rw [hr, qz]; rfl
        conv => whnf
        split
        · rename_i h
          exact Bool.noConfusion ((q1).symm.trans h)
        rename_i hN
        clear hN
        conv => whnf
        split
        rotate_left
        · rename_i h
          exact Bool.noConfusion ((q5).symm.trans h)
        rename_i hN
        clear hN
        conv => whnf
        split
        rotate_left
        · rename_i h
          have h' : decide ((rowsOf m (numN m) k).length + 1 ≤ 1073741824) = false := h
          simp at h' <;> omega
        conv => whnf
        refine ⟨⟨k + 1, hlt⟩, ⟨⟨leV_int hw, ⟨.inr rfl, rfl, ?_, fun j hj => ?_⟩, leV_refl _, trivial⟩, ⟨leL_refl _, trivial⟩, rfl, rfl⟩, (by show F - (k + 1) < F - k; omega)⟩
        · show (rowsOf m (numN m) k).length + 1 = (rowsOf m (numN m) (k + 1)).length
          rw [e1]; simp
        · show (if j < (rowsOf m (numN m) k).length then G k j else litF 2 [IV.int .i64 k, IV.int .i64 (sp x)] (j - (rowsOf m (numN m) k).length)) = ((rowsOf m (numN m) (k + 1)).getD j row0).cs
          rw [e1]
          split
          · rename_i hj2
            show ((rowsOf m (numN m) k).getD j row0).cs = _
            rw [List.getD_eq_getElem?_getD, List.getD_eq_getElem?_getD, List.getElem?_append_left hj2]
          · have hj' : j < (rowsOf m (numN m) k).length + 1 := hj
            have : j = (rowsOf m (numN m) k).length := by omega
            subst this
            rw [Nat.sub_self, List.getD_eq_getElem?_getD, List.getElem?_append_right (Nat.le_refl _), Nat.sub_self, hsp]
            rfl
      | false =>
        have hz := of_decide_eq_false qz
        have q5 : decide (sp x ≥ 0) = false := by rw [hsp]; exact decide_eq_false (by omega)
        have e1 : rowsOf m (numN m) (k + 1) = rowsOf m (numN m) k := by
          conv => lhs; unfold rowsOf
          rw [hr, qz]; rfl
        conv => whnf
        split
        · rename_i h
          exact Bool.noConfusion ((q1).symm.trans h)
        rename_i hN
        clear hN
        conv => whnf
        split
        · rename_i h
          exact Bool.noConfusion ((q5).symm.trans h)
        rename_i hN
        clear hN
        conv => whnf
        refine ⟨⟨k + 1, hlt⟩, ⟨⟨leV_int hw, ⟨.inr rfl, rfl, ?_, fun j hj => ?_⟩, leV_refl _, trivial⟩, ⟨leL_refl _, trivial⟩, rfl, rfl⟩, (by show F - (k + 1) < F - k; omega)⟩
        · show (rowsOf m (numN m) k).length = (rowsOf m (numN m) (k + 1)).length
          rw [e1]
        · show ((rowsOf m (numN m) k).getD j row0).cs = ((rowsOf m (numN m) (k + 1)).getD j row0).cs
          rw [e1]

def eqRw (a b : Rw) : Bool := a.pitch == b.pitch && (a.speed == b.speed && true)
theorem eqRw_refl (a : Rw) : eqRw a a = true := by unfold eqRw; simp
def sameRw (n k : Nat) (f g : Nat → Rw) : Bool := bif (n : Int) != k then false else allB (fun i => eqRw (f i) (g i)) n 0

theorem c_rSameRows (up : List Ces) (n k : Nat) (hn : n ≤ 10000000) (f g : Nat → Rw) :
    Cs gl n_nacelleref05_SameRows up [.lst none 2 n fun i => (f i).cs, .lst none 2 k fun i => (g i).cs] (.bool (sameRw n k f g)) up := by
  refine mk h_nacelleref05_SameRows rfl rfl ?_
  unfold sameRw
  cases q0 : ((n : Int) != k) with
  | true =>
    conv => whnf
    split
    rotate_left
    · rename_i h
      exact Bool.noConfusion ((q0).symm.trans h)
    rename_i hN
    clear hN
    conv => whnf
    exact ⟨rfl, rfl⟩
  | false =>
    have e : n = k := by have : (n : Int) = k := by simpa using q0
                         omega
    subst e
    conv => whnf
    split
    · rename_i h
      exact Bool.noConfusion ((q0).symm.trans h)
    rename_i hN
    clear hN
    conv => whnf
    refine .mk (α := {i : Nat // i ≤ n ∧ allB (fun i => eqRw (f i) (g i)) n 0 = allB (fun i => eqRw (f i) (g i)) (n - i) i}) (fun i => ⟨[(5, .int .i64 i.1), (1, .lst none 2 n fun i => (g i).cs), (0, .lst none 2 n fun i => (f i).cs)], [], up⟩) (fun i => n - i.1) ⟨0, Nat.zero_le _, rfl⟩ ⟨?_, ?_, rfl, rfl⟩ ?_
    · exact ⟨leV_refl _, leV_refl _, leV_refl _, trivial⟩
    · exact trivial
    rintro ⟨i, hi, he⟩
    have hw : w64 ((i : Int) + 1) = ((i + 1 : Nat) : Int) := by rw [w64, wrap_in] <;> omega
    by_cases hlt : i < n
    · have q : decide ((i : Int) < (n : Int)) = true := decide_eq_true (by omega)
      rw [allB_step hlt] at he
      cases qe : eqRw (f i) (g i) with
      | false =>
        rw [qe, Bool.false_and] at he
        have ne : (!eqRw (f i) (g i)) = true := by rw [qe]; rfl
        conv => whnf
        split
        rotate_left
        · rename_i h
          exact Bool.noConfusion ((q).symm.trans h)
        rename_i hN
        clear hN
        conv => whnf
        refine DRAW.seek ?_
        repeat (first | refine TRYD.take ?_ | refine TRYD.next ?_)
        conv => whnf
        split
        rotate_left
        · rename_i h
          exact Bool.noConfusion ((q).symm.trans h)
        rename_i hN
        clear hN
        conv => whnf
        split
        rotate_left
        · rename_i h
          exact Bool.noConfusion ((q).symm.trans h)
        rename_i hN
        clear hN
        conv => whnf
        split
        rotate_left
        · rename_i h
          exact Bool.noConfusion ((ne).symm.trans h)
        rename_i hN
        clear hN
        conv => whnf
        exact ⟨congrArg IV.bool he.symm, rfl⟩
      | true =>
        rw [qe, Bool.true_and] at he
        have ne : (!eqRw (f i) (g i)) = false := by rw [qe]; rfl
        conv => whnf
        split
        rotate_left
        · rename_i h
          exact Bool.noConfusion ((q).symm.trans h)
        rename_i hN
        clear hN
        conv => whnf
        refine DRAW.seek ?_
        repeat (first | refine TRYD.take ?_ | refine TRYD.next ?_)
        conv => whnf
        split
        rotate_left
        · rename_i h
          exact Bool.noConfusion ((q).symm.trans h)
        rename_i hN
        clear hN
        conv => whnf
        split
        rotate_left
        · rename_i h
          exact Bool.noConfusion ((q).symm.trans h)
        rename_i hN
        clear hN
        conv => whnf
        split
        · rename_i h
          exact Bool.noConfusion ((ne).symm.trans h)
        rename_i hN
        clear hN
        conv => whnf
        exact ⟨⟨i + 1, hlt, he⟩, ⟨⟨leV_int hw, leV_refl _, leV_refl _, trivial⟩, trivial, rfl, rfl⟩, (by show n - (i + 1) < n - i; omega)⟩
    · have q : decide ((i : Int) < (n : Int)) = false := decide_eq_false (by omega)
      have : i = n := by omega
      subst this
      rw [Nat.sub_self] at he
      conv => whnf
      split
      · rename_i h
        exact Bool.noConfusion ((q).symm.trans h)
      rename_i hN
      clear hN
      conv => whnf
      exact ⟨congrArg IV.bool he.symm, rfl⟩

theorem sameRw_refl (n : Nat) (f : Nat → Rw) : sameRw n n f f = true := by
  unfold sameRw
  rw [show ((n : Int) != n) = false by simp, cond_false]
  have : ∀ n i, allB (fun i => eqRw (f i) (f i)) n i = true := by
    intro n
    induction n with
    | zero => intro i; rfl
    | succ n ih => intro i; unfold allB; rw [ih, eqRw_refl]; rfl
  exact this n 0
end Go.Proofs.YtkdlegfakefjgaaDoor.Ix

/-
  Kt2: ControlTables: the law.
-/
namespace Go.Proofs.YtkdlegfakefjgaaDoor.Ix
open Go.Proofs
set_option maxRecDepth 100000
set_option linter.unusedVariables false
set_option linter.unusedSimpArgs false
variable {gl : Nat → IV}

theorem tables_no (up : List Ces) (hk : gl g_control_kinds = kindsI) (hg : gl g_internal_strconv_uint64pow10 = powI) (m : Mc) (h : m.smallB = false ∨ (m.err = 0 ∧ (decide (m.fea > 10) = true ∨ decide (m.lim > 60) = true))) :
    Cs gl n_nacellelaw05_ControlTables up [m.iv] (.bool true) up := by
  have hS := fun up => c_rSmall (gl := gl) up m
  have hM := fun up => c_rMachine (gl := gl) up m
  have hA := fun up => c_awake (gl := gl) up hk hg
  refine mk h_nacellelaw05_ControlTables rfl rfl ?_
  cases qs : m.smallB with
  | false =>
    rw [qs] at hS
    conv => whnf
    repeat first
      | (refine DRAW.seek ?_; repeat (first | refine TRYD.take ?_ | refine TRYD.next ?_); conv => whnf)
      | (refine HOLD.mk (by first | exact trivial | exact ⟨⟨rfl, rfl⟩, trivial⟩ | exact ⟨⟨rfl, rfl⟩, ⟨rfl, rfl⟩, trivial⟩) ?_; (conv => whnf))
      | (refine CALL0.by (hS ..) rfl ?_; conv => whnf)
      | (refine CALLQ.mk _ _ _ (leL_refl _) (hS ..) rfl ?_; conv => whnf)
      | (refine CALL0.by (hA ..) rfl ?_; conv => whnf)
      | (refine CALLQ.mk _ _ _ (leL_refl _) (hA ..) rfl ?_; conv => whnf)
    exact ⟨rfl, rfl⟩
  | true =>
    rw [qs] at hS
    obtain ⟨h0, h1⟩ := h.resolve_left (by rw [qs]; nofun)
    rw [h0] at hM
    cases q1 : decide (m.fea > 10) with
    | true =>
      conv => whnf
      repeat first
        | (refine DRAW.seek ?_; repeat (first | refine TRYD.take ?_ | refine TRYD.next ?_); conv => whnf)
        | (refine HOLD.mk (by first | exact trivial | exact ⟨⟨rfl, rfl⟩, trivial⟩ | exact ⟨⟨rfl, rfl⟩, ⟨rfl, rfl⟩, trivial⟩) ?_; (conv => whnf))
        | (refine CALL0.by (hS ..) rfl ?_; conv => whnf)
        | (refine CALLQ.mk _ _ _ (leL_refl _) (hS ..) rfl ?_; conv => whnf)
        | (refine CALL0.by (hM ..) rfl ?_; conv => whnf)
        | (refine CALLQ.mk _ _ _ (leL_refl _) (hM ..) rfl ?_; conv => whnf)
      split
      rotate_left
      · rename_i h
        exact Bool.noConfusion ((q1).symm.trans h)
      rename_i hN
      clear hN
      conv => whnf
      repeat first
        | (refine DRAW.seek ?_; repeat (first | refine TRYD.take ?_ | refine TRYD.next ?_); conv => whnf)
        | (refine HOLD.mk (by first | exact trivial | exact ⟨⟨rfl, rfl⟩, trivial⟩ | exact ⟨⟨rfl, rfl⟩, ⟨rfl, rfl⟩, trivial⟩) ?_; (conv => whnf))
        | (refine CALL0.by (hA ..) rfl ?_; conv => whnf)
        | (refine CALLQ.mk _ _ _ (leL_refl _) (hA ..) rfl ?_; conv => whnf)
      exact ⟨rfl, rfl⟩
    | false =>
      have q2 := h1.resolve_left (by rw [q1]; nofun)
      conv => whnf
      repeat first
        | (refine DRAW.seek ?_; repeat (first | refine TRYD.take ?_ | refine TRYD.next ?_); conv => whnf)
        | (refine HOLD.mk (by first | exact trivial | exact ⟨⟨rfl, rfl⟩, trivial⟩ | exact ⟨⟨rfl, rfl⟩, ⟨rfl, rfl⟩, trivial⟩) ?_; (conv => whnf))
        | (refine CALL0.by (hS ..) rfl ?_; conv => whnf)
        | (refine CALLQ.mk _ _ _ (leL_refl _) (hS ..) rfl ?_; conv => whnf)
        | (refine CALL0.by (hM ..) rfl ?_; conv => whnf)
        | (refine CALLQ.mk _ _ _ (leL_refl _) (hM ..) rfl ?_; conv => whnf)
      split
      · rename_i h
        exact Bool.noConfusion ((q1).symm.trans h)
      rename_i hN
      clear hN
      conv => whnf
      split
      rotate_left
      · rename_i h
        exact Bool.noConfusion ((q2).symm.trans h)
      rename_i hN
      clear hN
      conv => whnf
      repeat first
        | (refine DRAW.seek ?_; repeat (first | refine TRYD.take ?_ | refine TRYD.next ?_); conv => whnf)
        | (refine HOLD.mk (by first | exact trivial | exact ⟨⟨rfl, rfl⟩, trivial⟩ | exact ⟨⟨rfl, rfl⟩, ⟨rfl, rfl⟩, trivial⟩) ?_; (conv => whnf))
        | (refine CALL0.by (hA ..) rfl ?_; conv => whnf)
        | (refine CALLQ.mk _ _ _ (leL_refl _) (hA ..) rfl ?_; conv => whnf)
      exact ⟨rfl, rfl⟩

theorem c_sameRwNil (up : List Ces) : Cs gl n_nacelleref05_SameRows up [.nilS, .nilS] (.bool true) up :=
  Comp.le (args' := [.lst none 2 0 fun i => row0.cs, .lst none 2 0 fun i => row0.cs]) ⟨rfl, rfl, trivial⟩ (c_rSameRows up 0 0 (by decide) (fun _ => row0) fun _ => row0)

set_option maxHeartbeats 16000000 in
theorem tables_bad (up : List Ces) (hk : gl g_control_kinds = kindsI) (hg : gl g_internal_strconv_uint64pow10 = powI) (m : Mc) (hs : m.smallB = true) (he : m.err ≠ 0) :
    Cs gl n_nacellelaw05_ControlTables up [m.iv] (.bool true) up := by
  have hS := fun up => c_rSmall (gl := gl) up m
  rw [hs] at hS
  have hM := fun up => c_rMachine (gl := gl) up m
  have hA := fun up => c_awake (gl := gl) up hk hg
  have hT := fun up => c_Table (gl := gl) up m (numN m) fun hm a v h1 h2 h3 h4 k hk => tab_takes hm a v h1 h2 h3 h4 k hk
  unfold tableR at hT
  obtain ⟨E, hE⟩ : ∃ E, E = m.err := ⟨_, rfl⟩
  have qE : (E != 0) = true := by rw [hE]; simpa using he
  have zE : (E == 0) = false := by rw [hE]; simpa using he
  have eE : (E == E) = true := beq_self_eq_true E
  rw [← hE] at hM hT
  rw [qE, cond_true] at hT
  clear hE he
  refine mk h_nacellelaw05_ControlTables rfl rfl ?_
  conv => whnf
  repeat first
    | (refine DRAW.seek ?_; repeat (first | refine TRYD.take ?_ | refine TRYD.next ?_); conv => whnf)
    | (refine HOLD.mk (by first | exact trivial | exact ⟨⟨rfl, rfl⟩, trivial⟩ | exact ⟨⟨rfl, rfl⟩, ⟨rfl, rfl⟩, trivial⟩) ?_; (conv => whnf))
    | (refine CALL0.by (hS ..) rfl ?_; conv => whnf)
    | (refine CALLQ.mk _ _ _ (leL_refl _) (hS ..) rfl ?_; conv => whnf)
    | (refine CALL0.by (hM ..) rfl ?_; conv => whnf)
    | (refine CALLQ.mk _ _ _ (leL_refl _) (hM ..) rfl ?_; conv => whnf)
  split
  · rename_i h
    exact Bool.noConfusion ((zE).symm.trans h)
  rename_i hN
  clear hN
  conv => whnf
  repeat first
    | (refine DRAW.seek ?_; repeat (first | refine TRYD.take ?_ | refine TRYD.next ?_); conv => whnf)
    | (refine HOLD.mk (by first | exact trivial | exact ⟨⟨rfl, rfl⟩, trivial⟩ | exact ⟨⟨rfl, rfl⟩, ⟨rfl, rfl⟩, trivial⟩) ?_; (conv => whnf))
    | (refine CALL0.by (c_machine ..) rfl ?_; conv => whnf)
    | (refine CALLQ.mk _ _ _ (leL_refl _) (c_machine ..) rfl ?_; conv => whnf)
    | (refine CALL0.by (hT ..) rfl ?_; conv => whnf)
    | (refine CALLQ.mk _ _ _ (leL_refl _) (hT ..) rfl ?_; conv => whnf)
    | (refine CALL0.by (hM ..) rfl ?_; conv => whnf)
    | (refine CALLQ.mk _ _ _ (leL_refl _) (hM ..) rfl ?_; conv => whnf)
  split
  · rename_i h
    exact Bool.noConfusion ((zE).symm.trans h)
  rename_i hN
  clear hN
  conv => whnf
  refine .mk (α := Unit) (fun _ => ⟨[(43, .int .i64 0), (42, .int .i64 0), (41, .nilS), (7, .nilS), (6, .nilS), (5, .int .i64 E), (4, .int .i64 E)], [], up⟩) (fun _ => 0) () ⟨⟨leV_refl _, leV_refl _, leV_refl _, leV_refl _, leV_refl _, leV_refl _, leV_refl _, trivial⟩, trivial, rfl, rfl⟩ ?_
  rintro ⟨⟩
  conv => whnf
  repeat first
    | (refine DRAW.seek ?_; repeat (first | refine TRYD.take ?_ | refine TRYD.next ?_); conv => whnf)
    | (refine HOLD.mk (by first | exact trivial | exact ⟨⟨rfl, rfl⟩, trivial⟩ | exact ⟨⟨rfl, rfl⟩, ⟨rfl, rfl⟩, trivial⟩) ?_; (conv => whnf))
    | (refine CALL0.by (c_sameRwNil ..) rfl ?_; conv => whnf)
    | (refine CALLQ.mk _ _ _ (leL_refl _) (c_sameRwNil ..) rfl ?_; conv => whnf)
  split
  rotate_left
  · rename_i h
    exact Bool.noConfusion ((eE).symm.trans h)
  rename_i hN
  clear hN
  conv => whnf
  repeat first
    | (refine DRAW.seek ?_; repeat (first | refine TRYD.take ?_ | refine TRYD.next ?_); conv => whnf)
    | (refine HOLD.mk (by first | exact trivial | exact ⟨⟨rfl, rfl⟩, trivial⟩ | exact ⟨⟨rfl, rfl⟩, ⟨rfl, rfl⟩, trivial⟩) ?_; (conv => whnf))
    | (refine CALL0.by (hA ..) rfl ?_; conv => whnf)
    | (refine CALLQ.mk _ _ _ (leL_refl _) (hA ..) rfl ?_; conv => whnf)
  exact ⟨rfl, rfl⟩

set_option maxHeartbeats 16000000 in
theorem tables_ok (up : List Ces) (hk : gl g_control_kinds = kindsI) (hg : gl g_internal_strconv_uint64pow10 = powI) (m : Mc) (hs : m.smallB = true) (he : m.err = 0) (q1 : decide (m.fea > 10) = false) (q2 : decide (m.lim > 60) = false) :
    Cs gl n_nacellelaw05_ControlTables up [m.iv] (.bool true) up := by
  have hm := Mc.err_ok he
  have hS := fun up => c_rSmall (gl := gl) up m
  rw [hs] at hS
  have hM := fun up => c_rMachine (gl := gl) up m
  rw [he] at hM
  have hA := fun up => c_awake (gl := gl) up hk hg
  have hT := fun up => c_Table (gl := gl) up m (numN m) fun hm a v h1 h2 h3 h4 k hk => tab_takes hm a v h1 h2 h3 h4 k hk
  unfold tableR at hT
  rw [he, show ((0 : Int) != 0) = false from rfl, cond_false] at hT
  have hR := fun up => c_rTable (gl := gl) up m hm
  have hn := rowsOf_len m (numN m) (m.fea + 1).toNat
  have hf := hm.fea
  obtain ⟨n, en⟩ : ∃ n, n = (rowsOf m (numN m) (m.fea + 1).toNat).length := ⟨_, rfl⟩
  obtain ⟨R, eR⟩ : ∃ R : Nat → Rw, R = fun i => (rowsOf m (numN m) (m.fea + 1).toNat).getD i row0 := ⟨_, rfl⟩
  replace hT : ∀ up, Cs gl n_control_Table up [m.iv] (.tup [.lst none 2 n fun i => (R i).cs, .int .i64 0]) up := fun up => by
    rw [en, eR]
    exact (hT up).res ⟨tagless _ _ _ _, leV_refl _, trivial⟩
  replace hR : ∀ up, Cs gl n_nacelleref05_Table up [m.iv] (.lst none 2 n fun i => (R i).cs) up := fun up => by
    rw [en, eR]
    exact (hR up).res (tagless _ _ _ _)
  have hn2 : n ≤ 10000000 := by omega
  have hSR := fun up => c_rSameRows (gl := gl) up n n hn2 R R
  rw [sameRw_refl] at hSR
  clear en eR hn
  let F : Nat → List IV := fun i => (R i).cs
  refine mk h_nacellelaw05_ControlTables rfl rfl ?_
  conv => whnf
  repeat first
    | (refine DRAW.seek ?_; repeat (first | refine TRYD.take ?_ | refine TRYD.next ?_); conv => whnf)
    | (refine HOLD.mk (by first | exact trivial | exact ⟨⟨rfl, rfl⟩, trivial⟩ | exact ⟨⟨rfl, rfl⟩, ⟨rfl, rfl⟩, trivial⟩) ?_; (conv => whnf))
    | (refine CALL0.by (hS ..) rfl ?_; conv => whnf)
    | (refine CALLQ.mk _ _ _ (leL_refl _) (hS ..) rfl ?_; conv => whnf)
    | (refine CALL0.by (hM ..) rfl ?_; conv => whnf)
    | (refine CALLQ.mk _ _ _ (leL_refl _) (hM ..) rfl ?_; conv => whnf)
  split
  · rename_i h
    exact Bool.noConfusion ((q1).symm.trans h)
  rename_i hN
  clear hN
  conv => whnf
  split
  · rename_i h
    exact Bool.noConfusion ((q2).symm.trans h)
  rename_i hN
  clear hN
  conv => whnf
  repeat first
    | (refine DRAW.seek ?_; repeat (first | refine TRYD.take ?_ | refine TRYD.next ?_); conv => whnf)
    | (refine HOLD.mk (by first | exact trivial | exact ⟨⟨rfl, rfl⟩, trivial⟩ | exact ⟨⟨rfl, rfl⟩, ⟨rfl, rfl⟩, trivial⟩) ?_; (conv => whnf))
    | (refine CALL0.by (c_machine ..) rfl ?_; conv => whnf)
    | (refine CALLQ.mk _ _ _ (leL_refl _) (c_machine ..) rfl ?_; conv => whnf)
    | (refine CALL0.by (hT ..) rfl ?_; conv => whnf)
    | (refine CALLQ.mk _ _ _ (leL_refl _) (hT ..) rfl ?_; conv => whnf)
    | (refine CALL0.by (hM ..) rfl ?_; conv => whnf)
    | (refine CALLQ.mk _ _ _ (leL_refl _) (hM ..) rfl ?_; conv => whnf)
    | (refine CALL0.by (hR ..) rfl ?_; conv => whnf)
    | (refine CALLQ.mk _ _ _ (leL_refl _) (hR ..) rfl ?_; conv => whnf)
  refine .mk (α := {i : Nat // i ≤ n}) (fun i => ⟨[(43, .int .i64 i.1), (42, .int .i64 n), (41, .lst none 2 n F), (7, .lst (some 50) 2 i.1 F), (6, .lst none 2 n F), (5, .int .i64 0), (4, .int .i64 0)], [], up⟩) (fun i => n - i.1) ⟨0, Nat.zero_le _⟩ ⟨⟨leV_refl _, leV_refl _, leV_refl _, rfl, leV_refl _, leV_refl _, leV_refl _, trivial⟩, trivial, rfl, rfl⟩ ?_
  rintro ⟨i, hi⟩
  have hw : w64 ((i : Int) + 1) = ((i + 1 : Nat) : Int) := by rw [w64, wrap_in] <;> omega
  by_cases hlt : i < n
  · have q : decide ((i : Int) < n) = true := decide_eq_true (by omega)
    conv => whnf
    split
    rotate_left
    · rename_i h
      exact Bool.noConfusion ((q).symm.trans h)
    rename_i hN
    clear hN
    conv => whnf
    split
    rotate_left
    · rename_i h
      exact Bool.noConfusion ((q).symm.trans h)
    rename_i hN
    clear hN
    conv => whnf
    split
    rotate_left
    · rename_i h
      have h' : decide (i + 1 ≤ 1073741824) = false := h
      simp at h' <;> omega
    conv => whnf
    refine ⟨⟨i + 1, hlt⟩, ⟨⟨leV_int hw, leV_refl _, leV_refl _, ⟨.inr rfl, rfl, rfl, fun j hj => ?_⟩, leV_refl _, leV_refl _, leV_refl _, trivial⟩, trivial, rfl, rfl⟩, (by show n - (i + 1) < n - i; omega)⟩
    show (if j < i then F j else litF 2 (F i) (j - i)) = F j
    split
    · rfl
    · have : j = i := by have : j < i + 1 := hj; omega
      subst this; rw [Nat.sub_self]; rfl
  · have q : decide ((i : Int) < n) = false := decide_eq_false (by omega)
    have : i = n := by omega
    subst this
    conv => whnf
    split
    · rename_i h
      exact Bool.noConfusion ((q).symm.trans h)
    rename_i hN
    clear hN
    conv => whnf
    repeat first
      | (refine DRAW.seek ?_; repeat (first | refine TRYD.take ?_ | refine TRYD.next ?_); conv => whnf)
      | (refine HOLD.mk (by first | exact trivial | exact ⟨⟨rfl, rfl⟩, trivial⟩ | exact ⟨⟨rfl, rfl⟩, ⟨rfl, rfl⟩, trivial⟩) ?_; (conv => whnf))
      | (refine CALL0.by (hSR ..) rfl ?_; conv => whnf)
      | (refine CALLQ.mk _ _ _ (leL_refl _) (hSR ..) rfl ?_; conv => whnf)
      | (refine CALL0.by (hA ..) rfl ?_; conv => whnf)
      | (refine CALLQ.mk _ _ _ (leL_refl _) (hA ..) rfl ?_; conv => whnf)
    exact ⟨rfl, rfl⟩

theorem c_ControlTables (up : List Ces) (hk : gl g_control_kinds = kindsI) (hg : gl g_internal_strconv_uint64pow10 = powI) (m : Mc) :
    Cs gl n_nacellelaw05_ControlTables up [m.iv] (.bool true) up := by
  cases hs : m.smallB with
  | false => exact tables_no up hk hg m (.inl hs)
  | true =>
  by_cases he : m.err = 0
  rotate_left
  · exact tables_bad up hk hg m hs he
  cases q1 : decide (m.fea > 10) with
  | true => exact tables_no up hk hg m (.inr ⟨he, .inl q1⟩)
  | false =>
  cases q2 : decide (m.lim > 60) with
  | true => exact tables_no up hk hg m (.inr ⟨he, .inr q2⟩)
  | false => exact tables_ok up hk hg m hs he q1 q2
end Go.Proofs.YtkdlegfakefjgaaDoor.Ix
