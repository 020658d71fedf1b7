/-
  Ix28: words for the use of the evaluator.
-/
import Derived.Test.YtllmejkmogepjaaDoorX27
namespace Go.Proofs.YtllmejkmogepjaaDoor.Ix
set_option linter.unusedVariables false

mutual
theorem leV_refl : ∀ (x : IV), leV x x
  | .lst o e n f => ⟨.inr rfl, rfl, rfl, fun _ _ => rfl⟩
  | .agg xs => leL_refl xs
  | .tup xs => leL_refl xs
  | .dead => trivial
  | .int _ _ | .bool _ | .str _ | .lit _ | .nilS | .ptr _ _ _ | .vptr _ _ _ _ _ | .raw _ _ _ | .fn _ _ _ => rfl
theorem leL_refl : ∀ (l : List IV), leL l l
  | [] => trivial
  | x :: r => ⟨leV_refl x, leL_refl r⟩
end

/-- An own list told as a mere reading. -/
theorem leV_view (o : Option Nat) (e n : Nat) (f : Nat → List IV) : leV (.lst o e n f) (.lst none e n f) := ⟨.inl rfl, rfl, rfl, fun _ _ => rfl⟩

theorem leV_int {k : IntKind} {a b : Int} (h : a = b) : leV (.int k a) (.int k b) := by subst h; rfl

theorem wrap_in {n : Int} (h1 : -9223372036854775808 ≤ n) (h2 : n < 9223372036854775808) : IntKind.i64.wrap n = n := by
  unfold IntKind.wrap
  simp [IntKind.bits, IntKind.signed]
  omega

/-- A contract at arguments that are told otherwise. -/
theorem Comp.le {P : Program} {gl : Nat → IV} {g : Nat} {up up' : List Ces} {args args' : List IV} {r : IV} (hle : leL args args') (h : Comp P gl g up args' r up') : Comp P gl g up args r up' := by
  refine ⟨h.1, fun vals w I X β σ hm hlen hargs => ?_⟩
  obtain ⟨h1, h2⟩ := leL_sound _ _ hle (fun j => vals.getD j undef) hargs
  exact h.2 vals w I X β σ hm (by rw [← h1]; exact hlen) h2

end Go.Proofs.YtllmejkmogepjaaDoor.Ix
