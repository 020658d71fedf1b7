/-
  Ro8: contracts of the functions of the package rotor, the eighth part: records.
-/
import Derived.Test.YtllmejkmogepjaaDoorYRo7
import Derived.Test.YtllmejkmogepjaaDoorYRo5
namespace Go.Proofs.YtllmejkmogepjaaDoor.Ix
open Go.Proofs
set_option maxRecDepth 100000
set_option linter.unusedVariables false
variable {gl : Nat → IV}

abbrev loadsI (o : Option Nat) (n : Nat) (x y z : Nat → Int) : IV := .lst o 3 n fun i => [.int .i64 (x i), .int .i64 (y i), .int .i64 (z i)]

theorem c_mapped3 (up : List Ces) (n : Nat) (hn : n ≤ 1000000) (x y z φ : Nat → Int) (k : Nat) (hk : ∀ up i, i < n → Cs gl k up [.agg [.int .i64 (x i), .int .i64 (y i), .int .i64 (z i)]] (.int .i64 (φ i)) up) :
    Cs gl n_rotor_mapped_3_int_api_Errno up [loadsI none n x y z, .fn k [] []] (.lst (some 19) 1 n fun i => [.int .i64 (φ i)]) up := by
  refine mk h_rotor_mapped_3_int_api_Errno rfl rfl ?_
  conv => whnf
  refine .mk (α := {i : Nat // i ≤ n}) (fun i => ⟨[(10, .int .i64 i.1), (9, .int .i64 n), (8, loadsI none n x y z), (5, .lst (some 19) 1 i.1 fun i => [.int .i64 (φ i)]), (1, .fn k [] [])], [], up⟩) (fun i => n - i.1) ⟨0, Nat.zero_le _⟩ ⟨?_, trivial, rfl, rfl⟩ ?_
  · exact ⟨leV_refl _, leV_refl _, leV_refl _, rfl, leV_refl _, trivial⟩
  · rintro ⟨i, hi⟩
    conv => whnf
    split
    · rename_i hb
      have hlt : i < n := by simpa using hb
      conv => whnf
      split
      rotate_left
      · rename_i h
        have h' : decide ((i : Int) < n) = false := h
        simp at h' <;> omega
      conv => whnf
      refine .mk _ _ _ _ _ (leL_refl _) (hk _ i hlt) rfl ?_
      conv => whnf
      split
      rotate_left
      · rename_i h
        have h' : decide (i + 1 ≤ 1073741824) = false := h
        simp at h' <;> omega
      conv => whnf
      refine ⟨⟨i + 1, hlt⟩, ⟨⟨leV_int ?_, leV_refl _, leV_refl _, ⟨.inr rfl, rfl, rfl, fun j hj => ?_⟩, leV_refl _, trivial⟩, trivial, rfl, rfl⟩, (by show n - (i + 1) < n - i; omega)⟩
      · show w64 ((i : Int) + 1) = ((i + 1 : Nat) : Int)
        rw [w64, wrap_in] <;> omega
      · show (if j < i then [IV.int .i64 (φ j)] else litF 1 [.int .i64 (φ i)] (j - i)) = [IV.int .i64 (φ j)]
        split
        · rfl
        · have : j = i := by have : j < i + 1 := hj; omega
          subst this; rw [Nat.sub_self]; rfl
    · rename_i hb
      have : i = n := by simp at hb; omega
      subst this
      conv => whnf
      exact ⟨rfl, rfl⟩

def recE (n : Nat) (x y z : Nat → Int) : Int := firstS (fun i => loadS (x i) (y i) (z i)) n 0

/-- The sum of what is made of the components of a record, or the error. -/
def recR (n : Nat) (x y z : Nat → Int) (φ : Int → Int → Nat → Int × Int) : IV :=
  bif decide ((n : Int) > 400) then .tup [.agg [.int .i64 0, .int .i64 0], .int .i64 5] else
    bif recE n x y z != 0 then .tup [.agg [.int .i64 0, .int .i64 0], .int .i64 (recE n x y z)] else
      .tup [.agg [.int .i64 (sumTo (fun i => (φ (x i - z i) (y i - z i) i).1) n), .int .i64 (sumTo (fun i => (φ (x i - z i) (y i - z i) i).2) n)], .int .i64 0]

theorem recE_ok {n : Nat} {x y z : Nat → Int} (h : recE n x y z = 0) : ∀ i, i < n → (-1000000 ≤ x i ∧ x i ≤ 1000000) ∧ (-1000000 ≤ y i ∧ y i ≤ 1000000) ∧ (-1000000 ≤ z i ∧ z i ≤ 1000000) := fun i hi => by
  unfold recE at h
  rw [firstS_zero] at h
  exact loadS_ok (h i (by omega) (by omega))

theorem c_record (up : List Ces) (n : Nat) (x y z : Nat → Int) (F : Nat) (φ : Int → Int → Nat → Int × Int) (h00 : ∀ t, φ 0 0 t = (0, 0))
    (hφ : ∀ a b t, -2000000 ≤ a → a ≤ 2000000 → -2000000 ≤ b → b ≤ 2000000 → (-4000000 ≤ (φ a b t).1 ∧ (φ a b t).1 ≤ 4000000) ∧ (-4000000 ≤ (φ a b t).2 ∧ (φ a b t).2 ≤ 4000000))
    (hF : ∀ up a b (t : Nat), t < 400 → -2000000 ≤ a → a ≤ 2000000 → -2000000 ≤ b → b ≤ 2000000 → Cs gl F up [.agg [.int .i64 a, .int .i64 b], .int .i64 t] (.agg [.int .i64 (φ a b t).1, .int .i64 (φ a b t).2]) up) :
    Cs gl n_rotor_record up [loadsI none n x y z, .fn F [] []] (recR n x y z φ) up := by
  refine mk h_rotor_record rfl rfl ?_
  unfold recR
  conv => whnf
  split
  · rename_i h
    have h : decide ((n : Int) > 400) = true := h
    rw [h]
    conv => whnf
    exact ⟨rfl, rfl⟩
  · rename_i h
    have h : decide ((n : Int) > 400) = false := h
    rw [h, cond_false]
    have hn : n ≤ 400 := by simp at h; omega
    conv => whnf
    refine .mk _ _ _ _ _ (leL_refl _) (c_mapped3 _ n (by omega) x y z (fun i => loadS (x i) (y i) (z i)) _ (fun up i _ => c_checkLoads up _ _ _)) rfl ?_
    conv => whnf
    refine .mk _ _ _ _ _ (leL_refl _) (c_first _ n (by omega) fun i => loadS (x i) (y i) (z i)) rfl ?_
    conv => whnf
    split
    · rename_i h
      have h : (recE n x y z != 0) = true := h
      rw [h]
      conv => whnf
      exact ⟨rfl, rfl⟩
    · rename_i h
      have h : (recE n x y z != 0) = false := h
      rw [h, cond_false]
      have hok := recE_ok (show recE n x y z = 0 by simpa using h)
      have hb : ∀ i, i < n → (-4000000 ≤ (φ (x i - z i) (y i - z i) i).1 ∧ (φ (x i - z i) (y i - z i) i).1 ≤ 4000000) ∧ (-4000000 ≤ (φ (x i - z i) (y i - z i) i).2 ∧ (φ (x i - z i) (y i - z i) i).2 ≤ 4000000) := fun i hi => by
        have := hok i hi
        exact hφ _ _ i (by omega) (by omega) (by omega) (by omega)
      conv => whnf
      split
      rotate_left
      · rename_i h
        have h' : decide ((n : Int) ≤ 1073741824) = false := h
        simp at h' <;> omega
      conv => whnf
      split
      rotate_left
      · rename_i h
        have h' : decide ((n : Int) = n) = false := h
        simp at h' <;> omega
      conv => whnf
      split
      rotate_left
      · rename_i h
        have h' : decide (n = ((n : Int)).toNat) = false := h
        simp at h' <;> omega
      conv => whnf
      refine .mk (α := {k : Nat // k ≤ n}) (fun k => ⟨[(31, .int .i64 k.1), (30, .int .i64 n), (29, loadsI none n x y z), (1, .fn F [] []), (4, .ptr 0 4 0), (8, .ptr 0 8 0)],
        [(8, [.int .i64 (sumTo (fun i => (φ (x i - z i) (y i - z i) i).1) k.1), .int .i64 (sumTo (fun i => (φ (x i - z i) (y i - z i) i).2) k.1)]), (4, [.int .i64 0, .int .i64 0])], up⟩) (fun k => n - k.1) ⟨0, Nat.zero_le _⟩ ⟨?_, ?_, rfl, rfl⟩ ?_
      · exact ⟨leV_refl _, leV_refl _, leV_view _ _ _ _, leV_refl _, leV_refl _, leV_refl _, trivial⟩
      · exact ⟨leL_refl _, leL_refl _, trivial⟩
      rintro ⟨k, hk⟩
      conv => whnf
      split
      · rename_i hb'
        have hlt : k < n := by
          have hb' : decide ((k : Int) < n) = true := hb'
          simpa using hb'
        have ho := hok k hlt
        have hq := hb k hlt
        have hw : w64 ((k : Int) + 1) = ((k + 1 : Nat) : Int) := by rw [w64, wrap_in] <;> omega
        have e1 : w64 (x k - z k) = x k - z k := by rw [w64, wrap_in] <;> omega
        have e2 : w64 (y k - z k) = y k - z k := by rw [w64, wrap_in] <;> omega
        have s1 := sumTo_bound (g := fun i => (φ (x i - z i) (y i - z i) i).1) (B := 4000000) k fun i hi => (hb i (by omega)).1
        have s2 := sumTo_bound (g := fun i => (φ (x i - z i) (y i - z i) i).2) (B := 4000000) k fun i hi => (hb i (by omega)).2
        have t1 : w64 (sumTo (fun i => (φ (x i - z i) (y i - z i) i).1) k + (φ (x k - z k) (y k - z k) k).1) = sumTo (fun i => (φ (x i - z i) (y i - z i) i).1) (k + 1) := by
          rw [w64, wrap_in]; rfl; omega; omega
        have t2 : w64 (sumTo (fun i => (φ (x i - z i) (y i - z i) i).2) k + (φ (x k - z k) (y k - z k) k).2) = sumTo (fun i => (φ (x i - z i) (y i - z i) i).2) (k + 1) := by
          rw [w64, wrap_in]; rfl; omega; omega
        conv => whnf
        split
        rotate_left
        · rename_i h
          have h' : decide ((k : Int) < n) = false := h
          simp at h' <;> omega
        conv => whnf
        refine .mk _ _ _ _ _ (leL_refl _) (c_component _ _ _ _) rfl ?_
        conv => whnf
        split
        · rename_i h
          have h : (w64 (x k - z k) == 0 && (w64 (y k - z k) == 0 && true)) = true := h
          rw [e1, e2] at h
          simp at h
          have p1 : sumTo (fun i => (φ (x i - z i) (y i - z i) i).1) (k + 1) = sumTo (fun i => (φ (x i - z i) (y i - z i) i).1) k := by
            show sumTo _ k + (φ (x k - z k) (y k - z k) k).1 = _
            rw [h.1, h.2, h00]; simp
          have p2 : sumTo (fun i => (φ (x i - z i) (y i - z i) i).2) (k + 1) = sumTo (fun i => (φ (x i - z i) (y i - z i) i).2) k := by
            show sumTo _ k + (φ (x k - z k) (y k - z k) k).2 = _
            rw [h.1, h.2, h00]; simp
          conv => whnf
          exact ⟨⟨k + 1, hlt⟩, ⟨⟨leV_int hw, leV_refl _, leV_refl _, leV_refl _, leV_refl _, leV_refl _, trivial⟩, ⟨⟨leV_int p1.symm, leV_int p2.symm, trivial⟩, leL_refl _, trivial⟩, rfl, rfl⟩, (by show n - (k + 1) < n - k; omega)⟩
        · have hFw : ∀ up, Cs gl F up [.agg [.int .i64 (w64 (x k - z k)), .int .i64 (w64 (y k - z k))], .int .i64 k] (.agg [.int .i64 (φ (x k - z k) (y k - z k) k).1, .int .i64 (φ (x k - z k) (y k - z k) k).2]) up := fun up => by
            rw [e1, e2]
            exact hF up _ _ k (by omega) (by omega) (by omega) (by omega) (by omega)
          conv => whnf
          refine .mk _ _ _ _ _ (leL_refl _) (hFw _) rfl ?_
          conv => whnf
          exact ⟨⟨k + 1, hlt⟩, ⟨⟨leV_int hw, leV_refl _, leV_refl _, leV_refl _, leV_refl _, leV_refl _, trivial⟩, ⟨⟨leV_int t1, leV_int t2, trivial⟩, leL_refl _, trivial⟩, rfl, rfl⟩, (by show n - (k + 1) < n - k; omega)⟩
      · rename_i hb'
        have : k = n := by
          have hb' : decide ((k : Int) < n) = false := hb'
          simp at hb'; omega
        subst this
        conv => whnf
        exact ⟨rfl, rfl⟩

theorem c_Rot1 (up : List Ces) (a b t : Int) : Cs gl n_rotor_Rotating_1 up [.agg [.int .i64 a, .int .i64 b], .int .i64 t] (.agg [.int .i64 a, .int .i64 b]) up := by
  refine mk h_rotor_Rotating_1 rfl rfl ?_
  conv => whnf
  exact ⟨rfl, rfl⟩

/-- What Rotating and Fixed hand back. -/
def rotR (n : Nat) (x y z : Nat → Int) : IV := recR n x y z fun a b _ => (a, b)
def fixR (n : Nat) (x y z : Nat → Int) : IV := recR n x y z fun a b t => turnP a b t

theorem recR_tup (n : Nat) (x y z : Nat → Int) (φ : Int → Int → Nat → Int × Int) : ∃ A B E, recR n x y z φ = .tup [.agg [.int .i64 A, .int .i64 B], .int .i64 E] := by
  unfold recR
  cases decide ((n : Int) > 400) <;> cases recE n x y z != 0 <;> exact ⟨_, _, _, rfl⟩

theorem c_Rotating (up : List Ces) (n : Nat) (x y z : Nat → Int) : Cs gl n_rotor_Rotating up [loadsI none n x y z] (rotR n x y z) up := by
  refine mk h_rotor_Rotating rfl rfl ?_
  have h := fun up => c_record (gl := gl) up n x y z n_rotor_Rotating_1 (fun a b _ => (a, b)) (fun _ => rfl) (fun a b t h1 h2 h3 h4 => ⟨⟨by omega, by omega⟩, by omega, by omega⟩) (fun up a b t _ _ _ _ _ => c_Rot1 up a b t)
  unfold rotR
  obtain ⟨A, B, E, e⟩ := recR_tup n x y z fun a b _ => (a, b)
  rw [e] at h ⊢
  conv => whnf
  refine .mk _ _ _ _ _ (leL_refl _) (h _) rfl ?_
  conv => whnf
  exact ⟨rfl, rfl⟩

theorem c_Fixed (up : List Ces) (hg : gl g_rotor_roots = rootsI) (n : Nat) (x y z : Nat → Int) : Cs gl n_rotor_Fixed up [loadsI none n x y z] (fixR n x y z) up := by
  refine mk h_rotor_Fixed rfl rfl ?_
  have h := fun up => c_record (gl := gl) up n x y z n_rotor_Pair_turned (fun a b t => turnP a b t) (fun t => by unfold turnP; split; rfl; split <;> rfl)
    (fun a b t h1 h2 h3 h4 => by unfold turnP; split; exact ⟨⟨by simp only; omega, by simp only; omega⟩, by simp only; omega, by simp only; omega⟩; split <;> exact ⟨⟨by simp only; omega, by simp only; omega⟩, by simp only; omega, by simp only; omega⟩)
    (fun up a b t _ _ _ _ _ => c_turned up hg a b t (by omega) (by omega))
  unfold fixR
  obtain ⟨A, B, E, e⟩ := recR_tup n x y z fun a b t => turnP a b t
  rw [e] at h ⊢
  conv => whnf
  refine .mk _ _ _ _ _ (leL_refl _) (h _) rfl ?_
  conv => whnf
  exact ⟨rfl, rfl⟩
end Go.Proofs.YtllmejkmogepjaaDoor.Ix
