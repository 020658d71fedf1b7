/-
  Rt1: contracts of the helpers of the top laws about the rotor.
-/
import Derived.Test.YtllmejkmogepjaaDoorYRo5
import Derived.Test.YtllmejkmogepjaaDoorYRo6
import Derived.Test.YtllmejkmogepjaaDoorYRr1
namespace Go.Proofs.YtllmejkmogepjaaDoor.Ix
open Go.Proofs
set_option maxRecDepth 100000
set_option linter.unusedVariables false
variable {gl : Nat → IV}

/-- A blade's cells, the lists its own. -/
abbrev bladeO (b : Bl) (x y z : Nat) : IV :=
  .agg [.lst (some x) 1 b.nl fun i => [.int .i64 (b.lf i)], .lst (some y) 1 b.nd fun i => [.int .i64 (b.df i)], .lst (some z) 4 b.nr fun i => [.int .i64 (b.r1 i), .int .i64 (b.r2 i), .int .i64 (b.r3 i), .int .i64 (b.r4 i)]]

theorem c_hawseFlow (up : List Ces) (f : Fl) (p : Int) : Cs gl n_nacelletop_hawseFlow up [f.iv, .int .i64 p] (flowI f.w f.s p) up := by
  refine mk h_nacelletop_hawseFlow rfl rfl ?_
  conv => whnf
  exact ⟨rfl, rfl⟩

theorem c_hawseBlade (up : List Ces) (b : Bl) (hl : b.nl ≤ 1000000) (hd : b.nd ≤ 1000000) (hr : b.nr ≤ 1000000) : Cs gl n_nacelletop_hawseBlade up [b.iv] (bladeO b 10 15 29) up := by
  refine mk h_nacelletop_hawseBlade rfl rfl ?_
  conv => whnf
  refine .mk 14 (by kernel_rfl) ?_
  conv => whnf
  split
  rotate_left
  · rename_i h
    have h' : decide (b.nl ≤ 1073741824) = false := h
    simp at h' <;> omega
  conv => whnf
  split
  rotate_left
  · rename_i h
    have h' : decide (b.nd ≤ 1073741824) = false := h
    simp at h' <;> omega
  conv => whnf
  let R : Nat → List IV := fun i => [.int .i64 (b.r1 i), .int .i64 (b.r2 i), .int .i64 (b.r3 i), .int .i64 (b.r4 i)]
  refine .mk (α := {k : Nat // k ≤ b.nr}) (fun k => ⟨[(21, .int .i64 k.1), (20, .int .i64 b.nr), (19, .lst none 4 b.nr R), (2, .ptr 0 2 0), (3, .ptr 0 3 0)],
    [(3, [.lst (some 10) 1 b.nl fun i => [.int .i64 (b.lf i)], .lst (some 15) 1 b.nd fun i => [.int .i64 (b.df i)], .lst (some 29) 4 k.1 R]), (2, [.nilS, .nilS, .nilS])], up⟩) (fun k => b.nr - k.1) ⟨0, Nat.zero_le _⟩ ⟨?_, ?_, rfl, rfl⟩ ?_
  · exact ⟨leV_refl _, leV_refl _, leV_refl _, leV_refl _, leV_refl _, trivial⟩
  · exact ⟨⟨leV_refl _, leV_refl _, rfl, trivial⟩, leL_refl _, trivial⟩
  · rintro ⟨k, hk⟩
    have hw : w64 ((k : Int) + 1) = ((k + 1 : Nat) : Int) := by rw [w64, wrap_in] <;> omega
    conv => whnf
    split
    · rename_i hb
      have hlt : k < b.nr := by
        have hb' : decide ((k : Int) < b.nr) = true := hb
        simpa using hb'
      conv => whnf
      split
      rotate_left
      · rename_i h
        have h' : decide ((k : Int) < b.nr) = false := h
        simp at h' <;> omega
      conv => whnf
      split
      rotate_left
      · rename_i h
        have h' : decide (k + 1 ≤ 1073741824) = false := h
        simp at h' <;> omega
      conv => whnf
      refine ⟨⟨k + 1, hlt⟩, ⟨⟨leV_int hw, leV_refl _, leV_refl _, leV_refl _, leV_refl _, trivial⟩, ⟨⟨leV_refl _, leV_refl _, ⟨.inr rfl, rfl, rfl, fun j hj => ?_⟩, trivial⟩, leL_refl _, trivial⟩, rfl, rfl⟩, (by show b.nr - (k + 1) < b.nr - k; omega)⟩
      show (if j < k then R j else litF 4 (R k) (j - k)) = R j
      split
      · rfl
      · have : j = k := by have : j < k + 1 := hj; omega
        subst this
        rw [Nat.sub_self]
        rfl
    · rename_i hb
      have : k = b.nr := by
        have hb' : decide ((k : Int) < b.nr) = false := hb
        simp at hb'; omega
      subst this
      conv => whnf
      exact ⟨rfl, rfl⟩

/-- Are a blade and a flow valid, short and light? -/
def okS (b : Bl) (f : Fl) : Bool := b.short && (b.err == 0) && (f.err == 0) && lightS b f

theorem c_hawseLight (up : List Ces) (b : Bl) (f : Fl) : Cs gl n_nacelletop_hawseLight up [b.iv, f.iv] (.bool (okS b f)) up := by
  refine mk h_nacelletop_hawseLight rfl rfl ?_
  unfold okS
  conv => whnf
  refine .mk _ _ _ _ _ (leL_refl _) (c_Short _ b) rfl ?_
  conv => whnf
  split
  · rename_i h1
    have h1 : b.short = true := h1
    rw [h1]
    conv => whnf
    refine .mk _ _ _ _ _ (leL_refl _) (c_rCheckBlade _ b) rfl ?_
    conv => whnf
    split
    · rename_i h2
      have h2 : (b.err == 0) = true := h2
      rw [h2]
      conv => whnf
      refine .mk _ _ _ _ _ (leL_refl _) (c_rCheckFlow _ _ _ _) rfl ?_
      conv => whnf
      split
      · rename_i h3
        have h3 : (f.err == 0) = true := h3
        rw [h3]
        conv => whnf
        refine .mk _ _ _ _ _ (leL_refl _) (c_Light _ b f (by simpa using h2) (by simpa using h3)) rfl ?_
        conv => whnf
        exact ⟨rfl, rfl⟩
      · rename_i h3
        have h3 : (f.err == 0) = false := h3
        rw [h3]
        conv => whnf
        exact ⟨rfl, rfl⟩
    · rename_i h2
      have h2 : (b.err == 0) = false := h2
      rw [h2]
      conv => whnf
      exact ⟨rfl, rfl⟩
  · rename_i h1
    have h1 : b.short = false := h1
    rw [h1]
    conv => whnf
    exact ⟨rfl, rfl⟩

def exB : Bl := ⟨3, 3, 1, fun i => [0, 1, 2].getD i 0, fun i => [0, 0, 1].getD i 0, fun _ => 2, fun _ => 1, fun _ => 0, fun _ => 256⟩

theorem ex1 : sumR exB ⟨1, 256, 1⟩ 3 (fun i a d => exB.tor ⟨1, 256, 1⟩ i a d) = .tup [.agg [.int .i64 0, .int .i64 1024], .int .i64 0] := by kernel_rfl
theorem ex0 : sumR exB ⟨1, 256, 0⟩ 3 (fun i a d => exB.tor ⟨1, 256, 0⟩ i a d) = .tup [.agg [.int .i64 512, .int .i64 512], .int .i64 0] := by kernel_rfl

theorem c_ex (up : List Ces) (p : Int) (r : IV) (h : sumR exB ⟨1, 256, p⟩ 3 (fun i a d => exB.tor ⟨1, 256, p⟩ i a d) = r) (f1 f2 f3 : Nat → List IV) (h1 : ∀ i, i < 3 → f1 i = [.int .i64 (exB.lf i)]) (h2 : ∀ i, i < 3 → f2 i = [.int .i64 (exB.df i)])
    (h3 : f3 0 = [.int .i64 2, .int .i64 1, .int .i64 0, .int .i64 256]) :
    Cs gl n_rotor_Torque up [.agg [.lst none 1 3 f1, .lst none 1 3 f2, .lst none 4 1 f3], flowI 1 256 p, .int .i64 3] r up := by
  rw [← h]
  refine Comp.le ?_ (c_Torque up exB ⟨1, 256, p⟩ 3)
  refine ⟨⟨⟨.inl rfl, rfl, rfl, h1⟩, ⟨.inl rfl, rfl, rfl, h2⟩, ⟨.inl rfl, rfl, rfl, fun i hi => ?_⟩, trivial⟩, leL_refl _⟩
  have hi : i < 1 := hi
  have : i = 0 := by omega
  subst this
  exact h3

theorem c_hawseRotor (up : List Ces) : Cs gl n_nacelletop_hawseRotor up [] (.bool true) up := by
  refine mk h_nacelletop_hawseRotor rfl rfl ?_
  have g1 : ∀ i, i < 3 → litF 1 [IV.int .i64 0, .int .i64 1, .int .i64 2] i = [.int .i64 (exB.lf i)] := fun i hi => by
    match i, hi with
    | 0, _ => rfl
    | 1, _ => rfl
    | 2, _ => rfl
  have g2 : ∀ i, i < 3 → litF 1 [IV.int .i64 0, .int .i64 0, .int .i64 1] i = [.int .i64 (exB.df i)] := fun i hi => by
    match i, hi with
    | 0, _ => rfl
    | 1, _ => rfl
    | 2, _ => rfl
  conv => whnf
  refine .mk _ _ _ _ _ (leL_refl _) (c_ex _ 1 _ ex1 _ _ _ g1 g2 rfl) rfl ?_
  conv => whnf
  refine .mk _ _ _ _ _ (leL_refl _) (c_ex _ 0 _ ex0 _ _ _ g1 g2 rfl) rfl ?_
  conv => whnf
  refine .mk _ _ _ _ _ (leL_refl _) (c_Split _ 0 512 512) rfl ?_
  conv => whnf
  refine .mk _ _ _ _ _ (leL_refl _) (c_Norm _ (-512) 0) rfl ?_
  conv => whnf
  exact ⟨rfl, rfl⟩
end Go.Proofs.YtllmejkmogepjaaDoor.Ix
