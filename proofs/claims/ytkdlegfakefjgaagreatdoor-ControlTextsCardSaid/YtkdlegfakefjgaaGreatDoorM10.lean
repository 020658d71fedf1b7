/- YtkdlegfakefjgaaGreatDoorM10 -/
import Derived.Test.YtkdlegfakefjgaaGreatDoorM9
namespace Go.Proofs.YtkdlegfakefjgaaGreatDoor.Ix
open Go.Proofs
set_option maxRecDepth 100000
set_option linter.unusedVariables false
set_option linter.unusedSimpArgs false
variable {gl : Nat → IV}
end Go.Proofs.YtkdlegfakefjgaaGreatDoor.Ix

namespace Go.Proofs.YtkdlegfakefjgaaGreatDoor.Ix
open Go.Proofs
set_option maxRecDepth 100000
set_option linter.unusedVariables false
set_option linter.unusedSimpArgs false
variable {gl : Nat → IV}
def shortA (n : Nat) (l : Nat → Ac) (k : Nat) : Bool := bif decide ((n : Int) > k) then (n : Int) == 1025 else allB (fun i => !decide (((l i).kind.size : Int) > 40)) n 0
theorem c_rShort (up : List Ces) (n : Nat) (hn : n ≤ 9223372036854775807) (l : Nat → Ac) (k : Nat) : Cs gl n_nacelleref05_ShortActs up [.lst none 5 n fun i => (l i).cs, .int .i64 k] (.bool (shortA n l k)) up := by
  refine mk h_nacelleref05_ShortActs rfl rfl ?_
  unfold shortA
  cases q0 : decide ((n : Int) > k) with
  | true =>
    conv => whnf
    split
    rotate_left
    · rename_i h
      exact Bool.noConfusion ((q0).symm.trans h)
    rename_i hN
    clear hN
    conv => whnf
    exact ⟨rfl, rfl⟩
  | false =>
    let p : Nat → Bool := fun i => !decide (((l i).kind.size : Int) > 40)
    conv => whnf
    split
    · rename_i h
      exact Bool.noConfusion ((q0).symm.trans h)
    rename_i hN
    clear hN
    conv => whnf
    refine .mk (α := {i : Nat // i ≤ n ∧ allB p n 0 = allB p (n - i) i}) (fun i => ⟨[(5, .int .i64 i.1), (0, .lst none 5 n fun i => (l i).cs)], [], up⟩) (fun i => n - i.1) ⟨0, Nat.zero_le _, rfl⟩ ⟨⟨leV_refl _, leV_refl _, trivial⟩, trivial, rfl, rfl⟩ ?_
    rintro ⟨i, hi, he⟩
    by_cases hlt : i < n
    · have hw : w64 ((i : Int) + 1) = ((i + 1 : Nat) : Int) := by rw [w64, wrap_in] <;> omega
      have q : decide ((i : Int) < (n : Int)) = true := decide_eq_true (by omega)
      rw [allB_step hlt] at he
      cases qe : decide (((l i).kind.size : Int) > 40) with
      | true =>
        have hp : p i = false := by show (!decide _) = false; rw [qe]; rfl
        rw [hp, Bool.false_and] at he
        conv => whnf
        split
        rotate_left
        · rename_i h
          exact Bool.noConfusion ((q).symm.trans h)
        rename_i hN
        clear hN
        conv => whnf
        split
        rotate_left
        · rename_i h
          exact Bool.noConfusion ((q).symm.trans h)
        rename_i hN
        clear hN
        conv => whnf
        split
        rotate_left
        · rename_i h
          exact Bool.noConfusion ((qe).symm.trans h)
        rename_i hN
        clear hN
        conv => whnf
        exact ⟨congrArg IV.bool he.symm, rfl⟩
      | false =>
        have hp : p i = true := by show (!decide _) = true; rw [qe]; rfl
        rw [hp, Bool.true_and] at he
        conv => whnf
        split
        rotate_left
        · rename_i h
          exact Bool.noConfusion ((q).symm.trans h)
        rename_i hN
        clear hN
        conv => whnf
        split
        rotate_left
        · rename_i h
          exact Bool.noConfusion ((q).symm.trans h)
        rename_i hN
        clear hN
        conv => whnf
        split
        · rename_i h
          exact Bool.noConfusion ((qe).symm.trans h)
        rename_i hN
        clear hN
        conv => whnf
        exact ⟨⟨i + 1, hlt, he⟩, ⟨⟨leV_int hw, leV_refl _, trivial⟩, trivial, rfl, rfl⟩, (by show n - (i + 1) < n - i; omega)⟩
    · have q : decide ((i : Int) < (n : Int)) = false := decide_eq_false (by omega)
      have : i = n := by omega
      subst this
      rw [Nat.sub_self] at he
      conv => whnf
      split
      · rename_i h
        exact Bool.noConfusion ((q).symm.trans h)
      rename_i hN
      clear hN
      conv => whnf
      exact ⟨congrArg IV.bool he.symm, rfl⟩
theorem short_le {n : Nat} {l : Nat → Ac} (h : shortA n l 24 = true) : n ≤ 24 ∨ n = 1025 := by
  unfold shortA at h
  cases q : decide ((n : Int) > (24 : Nat)) with
  | false => have := of_decide_eq_false q; omega
  | true =>
    rw [q, cond_true] at h
    have : (n : Int) = 1025 := by simpa using h
    omega
end Go.Proofs.YtkdlegfakefjgaaGreatDoor.Ix

namespace Go.Proofs.YtkdlegfakefjgaaGreatDoor.Ix
open Go.Proofs
set_option maxRecDepth 100000
set_option linter.unusedVariables false
set_option linter.unusedSimpArgs false
variable {gl : Nat → IV}
theorem c_rSameActs (up : List Ces) (n : Nat) (hn : n ≤ 10000000) (f : Nat → Ac) :
    Cs gl n_nacelleref05_SameActs up [.lst none 5 n fun i => (f i).cs, .lst none 5 n fun i => (f i).cs] (.bool true) up := by
  refine mk h_nacelleref05_SameActs rfl rfl ?_
  have q0 : ((n : Int) != n) = false := by simp
  conv => whnf
  split
  · rename_i h
    exact Bool.noConfusion ((q0).symm.trans h)
  rename_i hN
  clear hN
  conv => whnf
  refine .mk (α := {i : Nat // i ≤ n}) (fun i => ⟨[(5, .int .i64 i.1), (1, .lst none 5 n fun i => (f i).cs), (0, .lst none 5 n fun i => (f i).cs)], [], up⟩) (fun i => n - i.1) ⟨0, Nat.zero_le _⟩ ⟨?_, ?_, rfl, rfl⟩ ?_
  · exact ⟨leV_refl _, leV_refl _, leV_refl _, trivial⟩
  · exact trivial
  rintro ⟨i, hi⟩
  have hw : w64 ((i : Int) + 1) = ((i + 1 : Nat) : Int) := by rw [w64, wrap_in] <;> omega
  by_cases hlt : i < n
  · have q : decide ((i : Int) < (n : Int)) = true := decide_eq_true (by omega)
    have ne : (!(eqS (f i).kind (f i).kind && ((f i).wind == (f i).wind && ((f i).pitch == (f i).pitch && ((f i).tor == (f i).tor && ((f i).stuck == (f i).stuck && true)))))) = false := by rw [eqS_iff.2 rfl]; simp
    conv => whnf
    split
    rotate_left
    · rename_i h
      exact Bool.noConfusion ((q).symm.trans h)
    rename_i hN
    clear hN
    conv => whnf
    refine DRAW.seek ?_
    repeat (first | refine TRYD.take ?_ | refine TRYD.next ?_)
    conv => whnf
    split
    rotate_left
    · rename_i h
      exact Bool.noConfusion ((q).symm.trans h)
    rename_i hN
    clear hN
    conv => whnf
    split
    rotate_left
    · rename_i h
      exact Bool.noConfusion ((q).symm.trans h)
    rename_i hN
    clear hN
    conv => whnf
    split
    · rename_i h
      exact Bool.noConfusion ((ne).symm.trans h)
    rename_i hN
    clear hN
    conv => whnf
    exact ⟨⟨i + 1, hlt⟩, ⟨⟨leV_int hw, leV_refl _, leV_refl _, trivial⟩, trivial, rfl, rfl⟩, (by show n - (i + 1) < n - i; omega)⟩
  · have q : decide ((i : Int) < (n : Int)) = false := decide_eq_false (by omega)
    conv => whnf
    split
    · rename_i h
      exact Bool.noConfusion ((q).symm.trans h)
    rename_i hN
    clear hN
    conv => whnf
    exact ⟨rfl, rfl⟩
end Go.Proofs.YtkdlegfakefjgaaGreatDoor.Ix
