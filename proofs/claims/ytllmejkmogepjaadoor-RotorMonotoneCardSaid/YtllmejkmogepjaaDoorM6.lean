/-
  Aw1: the package rotor returns the results of the examples: awake() is true.
-/
import Derived.Test.YtllmejkmogepjaaDoorM5
namespace Go.Proofs.YtllmejkmogepjaaDoor.Ix
open Go.Proofs
set_option maxRecDepth 100000
set_option linter.unusedVariables false
variable {gl : Nat → IV}

/-- A result may be told otherwise. -/
theorem Comp.res {P : Program} {gl : Nat → IV} {g : Nat} {up up' : List Ces} {args : List IV} {r r' : IV} (h : Comp P gl g up args r up') (hle : leV r r') : Comp P gl g up args r' up' :=
  ⟨h.1, fun vals w I X β σ hm hl ha => (h.2 vals w I X β σ hm hl ha).mono fun e w' ⟨v, I', s, e1, e2, e3⟩ => ⟨v, I', s, e1, leV_sound _ _ _ hle e2, e3⟩⟩

/-- The blade of the examples. -/
def exB : Bl := ⟨3, 3, 1, fun i => [0, 1, 2].getD i 0, fun i => [0, 0, 1].getD i 0, fun _ => 2, fun _ => 1, fun _ => 0, fun _ => 256⟩
def exF (p : Int) : Fl := ⟨1, 256, p⟩

theorem c_sample (up : List Ces) : Cs gl n_nacellelaw03_sample up [] exB.iv up := by
  have h : Cs gl n_nacellelaw03_sample up [] (.agg [.lst (some 1) 1 3 (litF 1 [.int .i64 0, .int .i64 1, .int .i64 2]), .lst (some 2) 1 3 (litF 1 [.int .i64 0, .int .i64 0, .int .i64 1]), .lst (some 5) 4 1 (litF 4 [.int .i64 2, .int .i64 1, .int .i64 0, .int .i64 256])]) up := by
    refine mk h_nacellelaw03_sample rfl rfl ?_
    conv => whnf
    exact ⟨rfl, rfl⟩
  refine h.res ⟨⟨.inl rfl, rfl, rfl, fun i hi => ?_⟩, ⟨.inl rfl, rfl, rfl, fun i hi => ?_⟩, ⟨.inl rfl, rfl, rfl, fun i hi => ?_⟩, trivial⟩
  · match i, hi with
    | 0, _ => rfl
    | 1, _ => rfl
    | 2, _ => rfl
  · match i, hi with
    | 0, _ => rfl
    | 1, _ => rfl
    | 2, _ => rfl
  · match i, hi with
    | 0, _ => rfl

theorem c_breeze (up : List Ces) (p : Int) : Cs gl n_nacellelaw03_breeze up [.int .i64 p] (flowI 1 256 p) up := by
  refine mk h_nacellelaw03_breeze rfl rfl ?_
  conv => whnf
  exact ⟨rfl, rfl⟩

theorem a_Inflow (up : List Ces) : Cs gl n_rotor_Inflow up [exB.iv, flowI 1 256 0, .int .i64 0, .agg [.int .i64 1, .int .i64 3]] (.tup [.int .i64 1, .int .i64 0]) up := by
  rw [← show inflR exB (exF 0) 0 1 3 = .tup [.int .i64 1, .int .i64 0] by kernel_rfl]
  exact c_Inflow up exB (exF 0) 0 1 3

theorem a_Balance (up : List Ces) (a z : Int) (h : balR exB (exF 0) 0 a 3 = .tup [.int .i64 z, .int .i64 0]) : Cs gl n_rotor_Balance up [exB.iv, flowI 1 256 0, .int .i64 0, .agg [.int .i64 a, .int .i64 3]] (.tup [.int .i64 z, .int .i64 0]) up := by
  rw [← h]
  exact c_Balance up exB (exF 0) 0 a 3

theorem a_Find (up : List Ces) (p d a e z : Int) (h : findR exB (exF p) 0 d = .tup [.agg [.int .i64 a, .int .i64 e], .int .i64 z]) : Cs gl n_rotor_Find up [exB.iv, flowI 1 256 p, .int .i64 0, .int .i64 d] (.tup [.agg [.int .i64 a, .int .i64 e], .int .i64 z]) up := by
  rw [← h]
  exact c_Find up exB (exF p) 0 d

theorem a_Thrust (up : List Ces) : Cs gl n_rotor_Thrust up [exB.iv, flowI 1 256 0, .int .i64 3] (.tup [.agg [.int .i64 14336, .int .i64 24576], .int .i64 0]) up := by
  rw [← show sumR exB (exF 0) 3 (fun i a d => exB.thr i a d) = .tup [.agg [.int .i64 14336, .int .i64 24576], .int .i64 0] by kernel_rfl]
  exact c_Thrust up exB (exF 0) 3

theorem a_Torque (up : List Ces) (p d x y : Int) (h : sumR exB (exF p) d (fun i a d => exB.tor (exF p) i a d) = .tup [.agg [.int .i64 x, .int .i64 y], .int .i64 0]) : Cs gl n_rotor_Torque up [exB.iv, flowI 1 256 p, .int .i64 d] (.tup [.agg [.int .i64 x, .int .i64 y], .int .i64 0]) up := by
  rw [← h]
  exact c_Torque up exB (exF p) d

theorem a_Best (up : List Ces) : Cs gl n_rotor_Best up [exB.iv, flowI 1 256 0, .int .i64 3, .int .i64 (-1), .int .i64 1] (.tup [.int .i64 0, .agg [.int .i64 512, .int .i64 512], .int .i64 0]) up := by
  rw [← show bestR exB (exF 0) 3 (-1) 1 = .tup [.int .i64 0, .agg [.int .i64 512, .int .i64 512], .int .i64 0] by kernel_rfl]
  exact c_Best up exB (exF 0) 3 (-1) 1

theorem a_Limit (up : List Ces) (m e : Int) (h : limR exB (exF 0) 3 (-1) 1 m = .tup [.int .i64 0, .int .i64 e]) : Cs gl n_rotor_Limit up [exB.iv, flowI 1 256 0, .int .i64 3, .int .i64 (-1), .int .i64 1, .int .i64 m] (.tup [.int .i64 0, .int .i64 e]) up := by
  rw [← h]
  exact c_Limit up exB (exF 0) 3 (-1) 1 m

theorem a_Split (up : List Ces) : Cs gl n_rotor_Split up [.agg [.int .i64 4, .int .i64 1, .int .i64 1]] (.tup [.int .i64 6, .agg [.int .i64 3, .int .i64 0], .int .i64 0]) up := by
  rw [← show splitR 4 1 1 = .tup [.int .i64 6, .agg [.int .i64 3, .int .i64 0], .int .i64 0] by kernel_rfl]
  exact c_Split up 4 1 1

theorem a_Turn (up : List Ces) (hr : gl g_rotor_roots = rootsI) : Cs gl n_rotor_Turn up [.agg [.int .i64 3, .int .i64 0], .int .i64 1] (.tup [.agg [.int .i64 0, .int .i64 3], .int .i64 0]) up := by
  rw [← show turnR 3 0 1 = .tup [.agg [.int .i64 0, .int .i64 3], .int .i64 0] by kernel_rfl]
  exact c_Turn up hr 3 0 1

theorem a_Merge (up : List Ces) (a b x y z e : Int) (h : mergeR 6 a b = .tup [.agg [.int .i64 x, .int .i64 y, .int .i64 z], .int .i64 e]) : Cs gl n_rotor_Merge up [.int .i64 6, .agg [.int .i64 a, .int .i64 b]] (.tup [.agg [.int .i64 x, .int .i64 y, .int .i64 z], .int .i64 e]) up := by
  rw [← h]
  exact c_Merge up 6 a b

theorem a_Times (up : List Ces) : Cs gl n_rotor_Times up [.agg [.int .i64 1, .int .i64 2], .agg [.int .i64 1, .int .i64 2]] (.tup [.agg [.int .i64 (-3), .int .i64 0], .int .i64 0]) up := by
  rw [← show timesR 1 2 1 2 = .tup [.agg [.int .i64 (-3), .int .i64 0], .int .i64 0] by kernel_rfl]
  exact c_Times up 1 2 1 2

theorem a_Norm (up : List Ces) : Cs gl n_rotor_Norm up [.agg [.int .i64 1, .int .i64 2]] (.tup [.int .i64 3, .int .i64 0]) up := by
  rw [← show normR 1 2 = .tup [.int .i64 3, .int .i64 0] by kernel_rfl]
  exact c_Norm up 1 2

abbrev recF : Nat → List IV := litF 3 [.int .i64 4, .int .i64 1, .int .i64 1, .int .i64 1, .int .i64 4, .int .i64 1]
def recX (i : Nat) : Int := [4, 1].getD i 0
def recY (i : Nat) : Int := [1, 4].getD i 0
theorem rec_le : leL [.lst none 3 2 recF] [loadsI none 2 recX recY fun _ => 1] := ⟨⟨.inl rfl, rfl, rfl, fun i hi => by
  match i, hi with
  | 0, _ => rfl
  | 1, _ => rfl⟩, trivial⟩

theorem a_Rotating (up : List Ces) : Cs gl n_rotor_Rotating up [.lst none 3 2 recF] (.tup [.agg [.int .i64 3, .int .i64 3], .int .i64 0]) up := by
  rw [← show rotR 2 recX recY (fun _ => 1) = .tup [.agg [.int .i64 3, .int .i64 3], .int .i64 0] by kernel_rfl]
  exact Comp.le rec_le (c_Rotating up 2 recX recY fun _ => 1)

theorem a_Fixed (up : List Ces) (hr : gl g_rotor_roots = rootsI) : Cs gl n_rotor_Fixed up [.lst none 3 2 recF] (.tup [.agg [.int .i64 0, .int .i64 (-3)], .int .i64 0]) up := by
  rw [← show fixR 2 recX recY (fun _ => 1) = .tup [.agg [.int .i64 0, .int .i64 (-3)], .int .i64 0] by kernel_rfl]
  exact Comp.le rec_le (c_Fixed up hr 2 recX recY fun _ => 1)

theorem itoa_small {i : Nat} (h : i < 10) : Go.Lib.itoa (i : Int) = [UInt8.ofNat (48 + i)] := by rw [Go.Lib.itoa_nonneg, Go.Lib.decDigits_one h]
theorem itoa_256 : Go.Lib.itoa 256 = [50, 53, 54] := by
  rw [show (256 : Int) = ((256 : Nat) : Int) from rfl, Go.Lib.itoa_nonneg, Go.Lib.decDigits, dif_neg (by decide), Go.Lib.decDigits_two (by decide) (by decide)]
  rfl

abbrev exT : List UInt8 := [112, 111, 108, 97, 114, 32, 48, 32, 48, 32, 49, 32, 48, 32, 50, 32, 49, 10, 114, 105, 110, 103, 32, 50, 32, 49, 32, 48, 32, 50, 53, 54, 10]
theorem exB_text : exB.text = exT := by
  have i0 : Go.Lib.itoa 0 = [48] := itoa_small (i := 0) (by decide)
  have i1 : Go.Lib.itoa 1 = [49] := itoa_small (i := 1) (by decide)
  have i2 : Go.Lib.itoa 2 = [50] := itoa_small (i := 2) (by decide)
  have h1 : numsS exB.pol 6 = [32, 48, 32, 48, 32, 49, 32, 48, 32, 50, 32, 49] := by
    show ((((((([] : List UInt8) ++ 32 :: Go.Lib.itoa 0) ++ 32 :: Go.Lib.itoa 0) ++ 32 :: Go.Lib.itoa 1) ++ 32 :: Go.Lib.itoa 0) ++ 32 :: Go.Lib.itoa 2) ++ 32 :: Go.Lib.itoa 1) = _
    rw [i0, i1, i2]; rfl
  have h2 : numsS (exB.ring 0) 4 = [32, 50, 32, 49, 32, 48, 32, 50, 53, 54] := by
    show ((((([] : List UInt8) ++ 32 :: Go.Lib.itoa 2) ++ 32 :: Go.Lib.itoa 1) ++ 32 :: Go.Lib.itoa 0) ++ 32 :: Go.Lib.itoa 256) = _
    rw [i0, i1, i2, itoa_256]; rfl
  show (polarW ++ numsS exB.pol 6 ++ [10]) ++ ([] ++ (ringW ++ numsS (exB.ring 0) 4 ++ [10])) = _
  rw [h1, h2]; rfl

theorem a_Print (up : List Ces) (hp : gl g_internal_strconv_uint64pow10 = powI) : Cs gl n_rotor_Print up [exB.iv] (.tup [.str (bytesS exT), .int .i64 0]) up := by
  have h := c_Print up hp exB
  unfold printR at h
  rw [exB_text, show (exB.err != 0) = false by kernel_rfl] at h
  exact h

theorem c_awake (up : List Ces) (hr : gl g_rotor_roots = rootsI) (hp : gl g_internal_strconv_uint64pow10 = powI) : Cs gl n_nacellelaw03_awake up [] (.bool true) up := by
  refine mk h_nacellelaw03_awake rfl rfl ?_
  conv => whnf
  refine .mk _ _ _ _ _ (leL_refl _) (c_sample _) rfl ?_
  conv => whnf
  refine .mk _ _ _ _ _ (leL_refl _) (c_breeze _ _) rfl ?_
  conv => whnf
  refine .mk _ _ _ _ _ (leL_refl _) (a_Inflow _) rfl ?_
  conv => whnf
  refine .mk _ _ _ _ _ (leL_refl _) (c_sample _) rfl ?_
  conv => whnf
  refine .mk _ _ _ _ _ (leL_refl _) (c_breeze _ _) rfl ?_
  conv => whnf
  refine .mk _ _ _ _ _ (leL_refl _) (a_Balance _ 0 (-32768) (by kernel_rfl)) rfl ?_
  conv => whnf
  refine .mk _ _ _ _ _ (leL_refl _) (c_sample _) rfl ?_
  conv => whnf
  refine .mk _ _ _ _ _ (leL_refl _) (c_breeze _ _) rfl ?_
  conv => whnf
  refine .mk _ _ _ _ _ (leL_refl _) (a_Balance _ 1 (-2048) (by kernel_rfl)) rfl ?_
  conv => whnf
  refine .mk _ _ _ _ _ (leL_refl _) (c_sample _) rfl ?_
  conv => whnf
  refine .mk _ _ _ _ _ (leL_refl _) (c_breeze _ _) rfl ?_
  conv => whnf
  refine .mk _ _ _ _ _ (leL_refl _) (a_Balance _ 2 8192 (by kernel_rfl)) rfl ?_
  conv => whnf
  refine .mk _ _ _ _ _ (leL_refl _) (c_sample _) rfl ?_
  conv => whnf
  refine .mk _ _ _ _ _ (leL_refl _) (c_breeze _ _) rfl ?_
  conv => whnf
  refine .mk _ _ _ _ _ (leL_refl _) (a_Find _ 0 3 1 3 0 (by kernel_rfl)) rfl ?_
  conv => whnf
  refine .mk _ _ _ _ _ (leL_refl _) (c_sample _) rfl ?_
  conv => whnf
  refine .mk _ _ _ _ _ (leL_refl _) (c_breeze _ _) rfl ?_
  conv => whnf
  refine .mk _ _ _ _ _ (leL_refl _) (a_Find _ 0 2 0 2 0 (by kernel_rfl)) rfl ?_
  conv => whnf
  refine .mk _ _ _ _ _ (leL_refl _) (c_sample _) rfl ?_
  conv => whnf
  refine .mk _ _ _ _ _ (leL_refl _) (c_breeze _ _) rfl ?_
  conv => whnf
  refine .mk _ _ _ _ _ (leL_refl _) (a_Find _ 1 3 0 3 0 (by kernel_rfl)) rfl ?_
  conv => whnf
  refine .mk _ _ _ _ _ (leL_refl _) (c_sample _) rfl ?_
  conv => whnf
  refine .mk _ _ _ _ _ (leL_refl _) (c_breeze _ _) rfl ?_
  conv => whnf
  refine .mk _ _ _ _ _ (leL_refl _) (a_Find _ (-1) 3 0 0 7 (by kernel_rfl)) rfl ?_
  conv => whnf
  refine .mk _ _ _ _ _ (leL_refl _) (c_sample _) rfl ?_
  conv => whnf
  refine .mk _ _ _ _ _ (leL_refl _) (c_breeze _ _) rfl ?_
  conv => whnf
  refine .mk _ _ _ _ _ (leL_refl _) (a_Thrust _) rfl ?_
  conv => whnf
  refine .mk _ _ _ _ _ (leL_refl _) (c_sample _) rfl ?_
  conv => whnf
  refine .mk _ _ _ _ _ (leL_refl _) (c_breeze _ _) rfl ?_
  conv => whnf
  refine .mk _ _ _ _ _ (leL_refl _) (a_Torque _ 0 3 512 512 (by kernel_rfl)) rfl ?_
  conv => whnf
  refine .mk _ _ _ _ _ (leL_refl _) (c_sample _) rfl ?_
  conv => whnf
  refine .mk _ _ _ _ _ (leL_refl _) (c_breeze _ _) rfl ?_
  conv => whnf
  refine .mk _ _ _ _ _ (leL_refl _) (a_Torque _ 0 2 (-522240) 512 (by kernel_rfl)) rfl ?_
  conv => whnf
  refine .mk _ _ _ _ _ (leL_refl _) (c_sample _) rfl ?_
  conv => whnf
  refine .mk _ _ _ _ _ (leL_refl _) (c_breeze _ _) rfl ?_
  conv => whnf
  refine .mk _ _ _ _ _ (leL_refl _) (a_Torque _ 1 3 0 1024 (by kernel_rfl)) rfl ?_
  conv => whnf
  refine .mk _ _ _ _ _ (leL_refl _) (c_sample _) rfl ?_
  conv => whnf
  refine .mk _ _ _ _ _ (leL_refl _) (c_breeze _ _) rfl ?_
  conv => whnf
  refine .mk _ _ _ _ _ (leL_refl _) (a_Best _) rfl ?_
  conv => whnf
  refine .mk _ _ _ _ _ (leL_refl _) (c_sample _) rfl ?_
  conv => whnf
  refine .mk _ _ _ _ _ (leL_refl _) (c_breeze _ _) rfl ?_
  conv => whnf
  refine .mk _ _ _ _ _ (leL_refl _) (a_Limit _ 512 0 (by kernel_rfl)) rfl ?_
  conv => whnf
  refine .mk _ _ _ _ _ (leL_refl _) (c_sample _) rfl ?_
  conv => whnf
  refine .mk _ _ _ _ _ (leL_refl _) (c_breeze _ _) rfl ?_
  conv => whnf
  refine .mk _ _ _ _ _ (leL_refl _) (a_Limit _ 511 7 (by kernel_rfl)) rfl ?_
  conv => whnf
  refine .mk _ _ _ _ _ (leL_refl _) (a_Split _) rfl ?_
  conv => whnf
  refine .mk _ _ _ _ _ (leL_refl _) (a_Turn _ hr) rfl ?_
  conv => whnf
  refine .mk _ _ _ _ _ (leL_refl _) (a_Merge _ 0 3 1 4 1 0 (by kernel_rfl)) rfl ?_
  conv => whnf
  refine .mk _ _ _ _ _ (leL_refl _) (a_Merge _ 1 0 0 0 0 30 (by kernel_rfl)) rfl ?_
  conv => whnf
  refine .mk _ _ _ _ _ (leL_refl _) (a_Times _) rfl ?_
  conv => whnf
  refine .mk _ _ _ _ _ (leL_refl _) (a_Norm _) rfl ?_
  conv => whnf
  refine .mk _ _ _ _ _ (leL_refl _) (a_Rotating _) rfl ?_
  conv => whnf
  refine .mk _ _ _ _ _ (leL_refl _) (a_Fixed _ hr) rfl ?_
  conv => whnf
  refine .mk _ _ _ _ _ (leL_refl _) (c_sample _) rfl ?_
  conv => whnf
  refine .mk _ _ _ _ _ (leL_refl _) (a_Print _ hp) rfl ?_
  conv => whnf
  refine ⟨?_, rfl⟩
  show IV.bool ((bytesS exT).toList == (bytesS exT).toList) = _
  rw [beq_self_eq_true]
end Go.Proofs.YtllmejkmogepjaaDoor.Ix

/-
  Li1: RotorInflows: the law.
-/
namespace Go.Proofs.YtllmejkmogepjaaDoor.Ix
open Go.Proofs
set_option maxRecDepth 100000
set_option linter.unusedVariables false
variable {gl : Nat → IV}

theorem short_le {b : Bl} (h : b.short = true) : b.nl ≤ 1000000 ∧ b.nd ≤ 1000000 ∧ b.nr ≤ 1000000 := by
  unfold Bl.short at h
  simp at h
  omega

theorem inflR_z (b : Bl) (f : Fl) (ring a d : Int) : inflR b f ring a d = .tup [.int .i64 (zE (orE (ringErr b f ring) (indErr a d)) (b.infl f ring.toNat a d.toNat)), .int .i64 (orE (ringErr b f ring) (indErr a d))] := rfl
theorem balR_z (b : Bl) (f : Fl) (ring a d : Int) : balR b f ring a d = .tup [.int .i64 (zE (orE (ringErr b f ring) (indErr a d)) (b.bal f ring.toNat a d.toNat)), .int .i64 (orE (ringErr b f ring) (indErr a d))] := rfl
theorem classR_z (b : Bl) (f : Fl) (ring x : Int) : classR b f ring x = .tup [.int .i64 (zE (orE (ringErr b f ring) (withinS x 0 999999999)) (clsP b.nl (b.r3 ring.toNat) f.p x)), .int .i64 (orE (ringErr b f ring) (withinS x 0 999999999))] := rfl

theorem inflows_no (up : List Ces) (hr : gl g_rotor_roots = rootsI) (hp : gl g_internal_strconv_uint64pow10 = powI) (b : Bl) (f : Fl) (hs : b.short = false) (ring a d x D : Int) :
    Cs gl n_nacellelaw03_RotorInflows up [b.iv, f.iv, .agg [.int .i64 ring, .int .i64 a, .int .i64 d, .int .i64 x, .int .i64 D]] (.bool true) up := by
  refine mk h_nacellelaw03_RotorInflows rfl rfl ?_
  have hS := fun up => c_Short (gl := gl) up b
  rw [hs] at hS
  conv => whnf
  refine .mk _ _ _ _ _ (leL_refl _) (c_awake _ hr hp) rfl ?_
  conv => whnf
  refine .mk _ _ _ _ _ (leL_refl _) (hS _) rfl ?_
  conv => whnf
  refine .mk _ _ _ _ _ (leL_refl _) (c_awake _ hr hp) rfl ?_
  conv => whnf
  exact ⟨rfl, rfl⟩

/-- What is read behind each call. -/
def lvInflows : List (Nat × List Nat) := [(19, [3, 4, 5, 6, 7, 8, 9, 10, 11, 19]), (23, [3, 4, 5, 6, 7, 8, 9, 10, 11, 21, 23]), (26, [3, 4, 5, 6, 7, 8, 9, 10, 11, 26]), (29, [3, 4, 5, 6, 7, 8, 9, 10, 11, 29]), (35, [3, 4, 5, 6, 7, 8, 9, 10, 11, 35]), (40, [3, 4, 5, 6, 7, 8, 9, 10, 11, 40]), (46, [3, 4, 5, 6, 7, 8, 9, 10, 11, 46]), (51, [3, 4, 5, 6, 7, 8, 9, 10, 11, 51]), (57, [3, 4, 5, 6, 7, 8, 9, 10, 11, 57]), (64, [3, 4, 5, 6, 7, 8, 9, 10, 11, 12, 64]), (68, [3, 4, 5, 6, 7, 8, 9, 10, 11, 12, 13, 65, 68]), (70, [3, 4, 5, 6, 7, 8, 9, 10, 11, 12, 13, 70]), (74, [3, 4, 5, 6, 7, 8, 9, 10, 11, 12, 70, 71, 74]), (76, [3, 4, 5, 6, 7, 8, 9, 10, 11, 12, 70, 76]), (88, [3, 4, 5, 6, 7, 8, 9, 10, 11, 12, 14, 15, 16, 17, 18, 88]), (100, [3, 4, 5, 6, 7, 8, 9, 10, 11, 12, 14, 15, 16, 17, 18, 88, 100]), (114, [6, 7, 8, 9, 10, 11, 12, 14, 15, 16, 17, 18, 114]), (119, [6, 9, 10, 11, 12, 14, 15, 17, 18, 119]), (125, [6, 11, 12, 14, 18, 120, 125]), (132, [6, 127, 132])]
set_option maxHeartbeats 8000000 in
theorem inflows_yes (up : List Ces) (hr : gl g_rotor_roots = rootsI) (hp : gl g_internal_strconv_uint64pow10 = powI) (b : Bl) (f : Fl) (hs : b.short = true) (ring a d x D : Int) :
    Cs gl n_nacellelaw03_RotorInflows up [b.iv, f.iv, .agg [.int .i64 ring, .int .i64 a, .int .i64 d, .int .i64 x, .int .i64 D]] (.bool true) up := by
  obtain ⟨hl, hd, hn⟩ := short_le hs
  have hS := fun up => c_Short (gl := gl) up b
  rw [hs] at hS
  have hI := fun up => c_Inflow (gl := gl) up b f ring a d
  have hC := fun up => c_Class (gl := gl) up b f ring x
  have hB := fun up => c_Balance (gl := gl) up b f ring a d
  simp only [inflR_z, balR_z, classR_z] at hI hC hB
  have hA := fun up => c_awake (gl := gl) up hr hp
  have hb := fun up => c_blade (gl := gl) up b hl hd hn
  have hF := fun up (f : Nat → List IV) (x y : Int) (h0 : f 0 = [.int .i64 x]) (h1 : f 1 = [.int .i64 y]) => c_rf2 (gl := gl) up f x y h0 h1
  obtain ⟨R, hR⟩ : ∃ R, R = ringErr b f ring := ⟨_, rfl⟩
  obtain ⟨A, hA'⟩ : ∃ A, A = orE R (indErr a d) := ⟨_, rfl⟩
  obtain ⟨B, hB'⟩ : ∃ B, B = orE R (withinS x 0 999999999) := ⟨_, rfl⟩
  have k1 : A = 0 → 0 ≤ ring ∧ ring < b.nr ∧ b.ok f ring.toNat ∧ ∃ D : Nat, d = D ∧ D ≤ 12 ∧ 0 ≤ a ∧ a ≤ 2 ^ D := fun h => by
    rw [hA', hR, orE_zero] at h
    obtain ⟨g1, g2, g3, g4⟩ := ringErr_ok h.1
    obtain ⟨n, rfl, n2, n3, n4⟩ := indErr_ok h.2
    obtain ⟨_, _, _, ok⟩ := Bl.good g1 g2
    have hp := Int.pow_succ (2 : Int) n
    have hq := two_pos n
    exact ⟨g3, g4, ok _ (by omega), n + 1, rfl, by omega, n3, by omega⟩
  have k2 : B = 0 → 0 ≤ ring ∧ ring < b.nr ∧ b.ok f ring.toNat ∧ 0 ≤ x ∧ x ≤ 999999999 := fun h => by
    rw [hB', hR, orE_zero, withinS_zero] at h
    obtain ⟨g1, g2, g3, g4⟩ := ringErr_ok h.1
    obtain ⟨_, _, _, ok⟩ := Bl.good g1 g2
    exact ⟨g3, g4, ok _ (by omega), h.2⟩
  rw [← hR, ← hA'] at hI hB
  rw [← hR, ← hB'] at hC
  have hR2 := fun up => c_rCheckRing (gl := gl) up b f ring
  rw [← hR] at hR2
  have hf1 := fun up => c_rfl2 (gl := gl) up R (indErr a d)
  rw [← hA'] at hf1
  have hf2 := fun up => c_rfl2 (gl := gl) up R (withinS x 0 999999999)
  rw [← hB'] at hf2
  clear hR hA' hB'
  by_cases zA : A = 0
  · obtain ⟨r0, r1, ok, D', rfl, d1, a0, a1⟩ := k1 zA
    have hI2 := fun up => c_rInflow (gl := gl) up b f ring.toNat ok a D' d1 a0 a1
    have hB2 := fun up => c_rBalance (gl := gl) up b f ring.toNat ok a D' d1 a0 a1
    refine mk h_nacellelaw03_RotorInflows rfl rfl ?_
    conv => whnf
    repeat first
      | (show DRAW _ _ _ _ _; first | refine .mk 0 (by decide +kernel) ?_ | refine .mk 1 (by decide +kernel) ?_ | refine .mk 2 (by decide +kernel) ?_ | refine .mk 3 (by decide +kernel) ?_ | refine .mk 4 (by decide +kernel) ?_ | refine .mk 5 (by decide +kernel) ?_ | refine .mk 6 (by decide +kernel) ?_ | refine .mk 7 (by decide +kernel) ?_ | refine .mk 8 (by decide +kernel) ?_ | refine .mk 9 (by decide +kernel) ?_ | refine .mk 10 (by decide +kernel) ?_ | refine .mk 11 (by decide +kernel) ?_ | refine .mk 12 (by decide +kernel) ?_ | refine .mk 13 (by decide +kernel) ?_ | refine .mk 14 (by decide +kernel) ?_ | refine .mk 15 (by decide +kernel) ?_ | refine .mk 16 (by decide +kernel) ?_ | refine .mk 17 (by decide +kernel) ?_ | refine .mk 18 (by decide +kernel) ?_ | refine .mk 19 (by decide +kernel) ?_ | refine .mk 20 (by decide +kernel) ?_ | refine .mk 21 (by decide +kernel) ?_ | refine .mk 22 (by decide +kernel) ?_ | refine .mk 23 (by decide +kernel) ?_ | refine .mk 24 (by decide +kernel) ?_ | refine .mk 25 (by decide +kernel) ?_ | refine .mk 26 (by decide +kernel) ?_ | refine .mk 27 (by decide +kernel) ?_ | refine .mk 28 (by decide +kernel) ?_ | refine .mk 29 (by decide +kernel) ?_ | refine .mk 30 (by decide +kernel) ?_ | refine .mk 31 (by decide +kernel) ?_ | refine .mk 32 (by decide +kernel) ?_ | refine .mk 33 (by decide +kernel) ?_ | refine .mk 34 (by decide +kernel) ?_ | refine .mk 35 (by decide +kernel) ?_ | refine .mk 36 (by decide +kernel) ?_ | refine .mk 37 (by decide +kernel) ?_ | refine .mk 38 (by decide +kernel) ?_ | refine .mk 39 (by decide +kernel) ?_ | refine .mk 40 (by decide +kernel) ?_ | refine .mk 41 (by decide +kernel) ?_ | refine .mk 42 (by decide +kernel) ?_ | refine .mk 43 (by decide +kernel) ?_ | refine .mk 44 (by decide +kernel) ?_ | refine .mk 45 (by decide +kernel) ?_ | refine .mk 46 (by decide +kernel) ?_ | refine .mk 47 (by decide +kernel) ?_ | refine .mk 48 (by decide +kernel) ?_ | refine .mk 49 (by decide +kernel) ?_ | refine .mk 50 (by decide +kernel) ?_ | refine .mk 51 (by decide +kernel) ?_ | refine .mk 52 (by decide +kernel) ?_ | refine .mk 53 (by decide +kernel) ?_ | refine .mk 54 (by decide +kernel) ?_ | refine .mk 55 (by decide +kernel) ?_ | refine .mk 56 (by decide +kernel) ?_ | refine .mk 57 (by decide +kernel) ?_ | refine .mk 58 (by decide +kernel) ?_ | refine .mk 59 (by decide +kernel) ?_ | refine .mk 60 (by decide +kernel) ?_ | refine .mk 61 (by decide +kernel) ?_ | refine .mk 62 (by decide +kernel) ?_ | refine .mk 63 (by decide +kernel) ?_ | refine .mk 64 (by decide +kernel) ?_ | refine .mk 65 (by decide +kernel) ?_ | refine .mk 66 (by decide +kernel) ?_ | refine .mk 67 (by decide +kernel) ?_ | refine .mk 68 (by decide +kernel) ?_ | refine .mk 69 (by decide +kernel) ?_ | refine .mk 70 (by decide +kernel) ?_ | refine .mk 71 (by decide +kernel) ?_ | refine .mk 72 (by decide +kernel) ?_ | refine .mk 73 (by decide +kernel) ?_ | refine .mk 74 (by decide +kernel) ?_ | refine .mk 75 (by decide +kernel) ?_ | refine .mk 76 (by decide +kernel) ?_ | refine .mk 77 (by decide +kernel) ?_ | refine .mk 78 (by decide +kernel) ?_ | refine .mk 79 (by decide +kernel) ?_ | refine .mk 80 (by decide +kernel) ?_ | refine .mk 81 (by decide +kernel) ?_ | refine .mk 82 (by decide +kernel) ?_ | refine .mk 83 (by decide +kernel) ?_ | refine .mk 84 (by decide +kernel) ?_ | refine .mk 85 (by decide +kernel) ?_ | refine .mk 86 (by decide +kernel) ?_ | refine .mk 87 (by decide +kernel) ?_ | refine .mk 88 (by decide +kernel) ?_ | refine .mk 89 (by decide +kernel) ?_; conv => whnf)
      | (refine CALL0.cutBy lvInflows _ _ _ _ _ (leL_refl _) (hA ..) rfl ?_; conv => whnf)
      | (refine CALL0.mk _ _ _ _ _ (leL_refl _) (hA ..) rfl ?_; conv => whnf)
      | (refine CALLQ.mk _ _ _ (leL_refl _) (hA ..) rfl ?_; conv => whnf)
      | (refine CALL0.cutBy lvInflows _ _ _ _ _ (leL_refl _) (hS ..) rfl ?_; conv => whnf)
      | (refine CALL0.mk _ _ _ _ _ (leL_refl _) (hS ..) rfl ?_; conv => whnf)
      | (refine CALLQ.mk _ _ _ (leL_refl _) (hS ..) rfl ?_; conv => whnf)
      | (refine CALL0.cutBy lvInflows _ _ _ _ _ (leL_refl _) (hb ..) rfl ?_; conv => whnf)
      | (refine CALL0.mk _ _ _ _ _ (leL_refl _) (hb ..) rfl ?_; conv => whnf)
      | (refine CALLQ.mk _ _ _ (leL_refl _) (hb ..) rfl ?_; conv => whnf)
      | (refine CALL0.cutBy lvInflows _ _ _ _ _ (leL_refl _) (hI ..) rfl ?_; conv => whnf)
      | (refine CALL0.mk _ _ _ _ _ (leL_refl _) (hI ..) rfl ?_; conv => whnf)
      | (refine CALLQ.mk _ _ _ (leL_refl _) (hI ..) rfl ?_; conv => whnf)
      | (refine CALL0.cutBy lvInflows _ _ _ _ _ (leL_refl _) (hC ..) rfl ?_; conv => whnf)
      | (refine CALL0.mk _ _ _ _ _ (leL_refl _) (hC ..) rfl ?_; conv => whnf)
      | (refine CALLQ.mk _ _ _ (leL_refl _) (hC ..) rfl ?_; conv => whnf)
      | (refine CALL0.cutBy lvInflows _ _ _ _ _ (leL_refl _) (hB ..) rfl ?_; conv => whnf)
      | (refine CALL0.mk _ _ _ _ _ (leL_refl _) (hB ..) rfl ?_; conv => whnf)
      | (refine CALLQ.mk _ _ _ (leL_refl _) (hB ..) rfl ?_; conv => whnf)
      | (refine CALL0.cutBy lvInflows _ _ _ _ _ (leL_refl _) (hR2 ..) rfl ?_; conv => whnf)
      | (refine CALL0.mk _ _ _ _ _ (leL_refl _) (hR2 ..) rfl ?_; conv => whnf)
      | (refine CALLQ.mk _ _ _ (leL_refl _) (hR2 ..) rfl ?_; conv => whnf)
      | (refine CALL0.cutBy lvInflows _ _ _ _ _ (leL_refl _) (c_rCheckInduction ..) rfl ?_; conv => whnf)
      | (refine CALL0.mk _ _ _ _ _ (leL_refl _) (c_rCheckInduction ..) rfl ?_; conv => whnf)
      | (refine CALLQ.mk _ _ _ (leL_refl _) (c_rCheckInduction ..) rfl ?_; conv => whnf)
      | (refine CALL0.cutBy lvInflows _ _ _ _ _ (leL_refl _) (c_CheckRange ..) rfl ?_; conv => whnf)
      | (refine CALL0.mk _ _ _ _ _ (leL_refl _) (c_CheckRange ..) rfl ?_; conv => whnf)
      | (refine CALLQ.mk _ _ _ (leL_refl _) (c_CheckRange ..) rfl ?_; conv => whnf)
      | (refine CALL0.cutBy lvInflows _ _ _ _ _ (leL_refl _) (hf1 ..) rfl ?_; conv => whnf)
      | (refine CALL0.mk _ _ _ _ _ (leL_refl _) (hf1 ..) rfl ?_; conv => whnf)
      | (refine CALLQ.mk _ _ _ (leL_refl _) (hf1 ..) rfl ?_; conv => whnf)
      | (refine CALL0.cutBy lvInflows _ _ _ _ _ (leL_refl _) (hf2 ..) rfl ?_; conv => whnf)
      | (refine CALL0.mk _ _ _ _ _ (leL_refl _) (hf2 ..) rfl ?_; conv => whnf)
      | (refine CALLQ.mk _ _ _ (leL_refl _) (hf2 ..) rfl ?_; conv => whnf)
    split
    rotate_left
    · rename_i h
      exact absurd h (by simp [zA])
    conv => whnf
    first
      | refine .mk 0 (by decide +kernel) ?_
      | refine .mk 1 (by decide +kernel) ?_
      | refine .mk 2 (by decide +kernel) ?_
      | refine .mk 3 (by decide +kernel) ?_
      | refine .mk 4 (by decide +kernel) ?_
      | refine .mk 5 (by decide +kernel) ?_
      | refine .mk 6 (by decide +kernel) ?_
      | refine .mk 7 (by decide +kernel) ?_
      | refine .mk 8 (by decide +kernel) ?_
      | refine .mk 9 (by decide +kernel) ?_
      | refine .mk 10 (by decide +kernel) ?_
      | refine .mk 11 (by decide +kernel) ?_
      | refine .mk 12 (by decide +kernel) ?_
      | refine .mk 13 (by decide +kernel) ?_
      | refine .mk 14 (by decide +kernel) ?_
      | refine .mk 15 (by decide +kernel) ?_
      | refine .mk 16 (by decide +kernel) ?_
      | refine .mk 17 (by decide +kernel) ?_
      | refine .mk 18 (by decide +kernel) ?_
      | refine .mk 19 (by decide +kernel) ?_
      | refine .mk 20 (by decide +kernel) ?_
      | refine .mk 21 (by decide +kernel) ?_
      | refine .mk 22 (by decide +kernel) ?_
      | refine .mk 23 (by decide +kernel) ?_
      | refine .mk 24 (by decide +kernel) ?_
      | refine .mk 25 (by decide +kernel) ?_
      | refine .mk 26 (by decide +kernel) ?_
      | refine .mk 27 (by decide +kernel) ?_
      | refine .mk 28 (by decide +kernel) ?_
      | refine .mk 29 (by decide +kernel) ?_
      | refine .mk 30 (by decide +kernel) ?_
      | refine .mk 31 (by decide +kernel) ?_
      | refine .mk 32 (by decide +kernel) ?_
      | refine .mk 33 (by decide +kernel) ?_
      | refine .mk 34 (by decide +kernel) ?_
      | refine .mk 35 (by decide +kernel) ?_
      | refine .mk 36 (by decide +kernel) ?_
      | refine .mk 37 (by decide +kernel) ?_
      | refine .mk 38 (by decide +kernel) ?_
      | refine .mk 39 (by decide +kernel) ?_
      | refine .mk 40 (by decide +kernel) ?_
      | refine .mk 41 (by decide +kernel) ?_
      | refine .mk 42 (by decide +kernel) ?_
      | refine .mk 43 (by decide +kernel) ?_
      | refine .mk 44 (by decide +kernel) ?_
      | refine .mk 45 (by decide +kernel) ?_
      | refine .mk 46 (by decide +kernel) ?_
      | refine .mk 47 (by decide +kernel) ?_
      | refine .mk 48 (by decide +kernel) ?_
      | refine .mk 49 (by decide +kernel) ?_
      | refine .mk 50 (by decide +kernel) ?_
      | refine .mk 51 (by decide +kernel) ?_
      | refine .mk 52 (by decide +kernel) ?_
      | refine .mk 53 (by decide +kernel) ?_
      | refine .mk 54 (by decide +kernel) ?_
      | refine .mk 55 (by decide +kernel) ?_
      | refine .mk 56 (by decide +kernel) ?_
      | refine .mk 57 (by decide +kernel) ?_
      | refine .mk 58 (by decide +kernel) ?_
      | refine .mk 59 (by decide +kernel) ?_
      | refine .mk 60 (by decide +kernel) ?_
      | refine .mk 61 (by decide +kernel) ?_
      | refine .mk 62 (by decide +kernel) ?_
      | refine .mk 63 (by decide +kernel) ?_
      | refine .mk 64 (by decide +kernel) ?_
      | refine .mk 65 (by decide +kernel) ?_
      | refine .mk 66 (by decide +kernel) ?_
      | refine .mk 67 (by decide +kernel) ?_
      | refine .mk 68 (by decide +kernel) ?_
      | refine .mk 69 (by decide +kernel) ?_
      | refine .mk 70 (by decide +kernel) ?_
      | refine .mk 71 (by decide +kernel) ?_
      | refine .mk 72 (by decide +kernel) ?_
      | refine .mk 73 (by decide +kernel) ?_
      | refine .mk 74 (by decide +kernel) ?_
      | refine .mk 75 (by decide +kernel) ?_
      | refine .mk 76 (by decide +kernel) ?_
      | refine .mk 77 (by decide +kernel) ?_
      | refine .mk 78 (by decide +kernel) ?_
      | refine .mk 79 (by decide +kernel) ?_
      | refine .mk 80 (by decide +kernel) ?_
      | refine .mk 81 (by decide +kernel) ?_
      | refine .mk 82 (by decide +kernel) ?_
      | refine .mk 83 (by decide +kernel) ?_
      | refine .mk 84 (by decide +kernel) ?_
      | refine .mk 85 (by decide +kernel) ?_
      | refine .mk 86 (by decide +kernel) ?_
      | refine .mk 87 (by decide +kernel) ?_
      | refine .mk 88 (by decide +kernel) ?_
      | refine .mk 89 (by decide +kernel) ?_
    conv => whnf
    split
    rotate_left
    · rename_i h
      have h' : decide (0 ≤ ring) = false := h
      simp at h' <;> omega
    conv => whnf
    split
    rotate_left
    · rename_i h
      have h' : decide (ring < b.nr) = false := h
      simp at h' <;> omega
    conv => whnf
    first | refine CALLQ.mk _ _ _ (leL_refl _) (hI2 _) rfl ?_ | refine CALL0.cutBy lvInflows _ _ _ _ _ (leL_refl _) (hI2 _) rfl ?_ | refine CALL0.mk _ _ _ _ _ (leL_refl _) (hI2 _) rfl ?_
    conv => whnf
    split
    rotate_left
    · rename_i h
      have h' : decide (0 ≤ ring) = false := h
      simp at h' <;> omega
    conv => whnf
    split
    rotate_left
    · rename_i h
      have h' : decide (ring < b.nr) = false := h
      simp at h' <;> omega
    conv => whnf
    first | refine CALLQ.mk _ _ _ (leL_refl _) (hB2 _) rfl ?_ | refine CALL0.cutBy lvInflows _ _ _ _ _ (leL_refl _) (hB2 _) rfl ?_ | refine CALL0.mk _ _ _ _ _ (leL_refl _) (hB2 _) rfl ?_
    conv => whnf
    by_cases zB : B = 0
    · obtain ⟨_, _, _, b0, b1⟩ := k2 zB
      have hC2 := fun up => c_rClass (gl := gl) up b f ring.toNat ok x (by omega) b1
      split
      rotate_left
      · rename_i h
        exact absurd h (by simp [zB])
      conv => whnf
      first
        | refine .mk 0 (by decide +kernel) ?_
        | refine .mk 1 (by decide +kernel) ?_
        | refine .mk 2 (by decide +kernel) ?_
        | refine .mk 3 (by decide +kernel) ?_
        | refine .mk 4 (by decide +kernel) ?_
        | refine .mk 5 (by decide +kernel) ?_
        | refine .mk 6 (by decide +kernel) ?_
        | refine .mk 7 (by decide +kernel) ?_
        | refine .mk 8 (by decide +kernel) ?_
        | refine .mk 9 (by decide +kernel) ?_
        | refine .mk 10 (by decide +kernel) ?_
        | refine .mk 11 (by decide +kernel) ?_
        | refine .mk 12 (by decide +kernel) ?_
        | refine .mk 13 (by decide +kernel) ?_
        | refine .mk 14 (by decide +kernel) ?_
        | refine .mk 15 (by decide +kernel) ?_
        | refine .mk 16 (by decide +kernel) ?_
        | refine .mk 17 (by decide +kernel) ?_
        | refine .mk 18 (by decide +kernel) ?_
        | refine .mk 19 (by decide +kernel) ?_
        | refine .mk 20 (by decide +kernel) ?_
        | refine .mk 21 (by decide +kernel) ?_
        | refine .mk 22 (by decide +kernel) ?_
        | refine .mk 23 (by decide +kernel) ?_
        | refine .mk 24 (by decide +kernel) ?_
        | refine .mk 25 (by decide +kernel) ?_
        | refine .mk 26 (by decide +kernel) ?_
        | refine .mk 27 (by decide +kernel) ?_
        | refine .mk 28 (by decide +kernel) ?_
        | refine .mk 29 (by decide +kernel) ?_
        | refine .mk 30 (by decide +kernel) ?_
        | refine .mk 31 (by decide +kernel) ?_
        | refine .mk 32 (by decide +kernel) ?_
        | refine .mk 33 (by decide +kernel) ?_
        | refine .mk 34 (by decide +kernel) ?_
        | refine .mk 35 (by decide +kernel) ?_
        | refine .mk 36 (by decide +kernel) ?_
        | refine .mk 37 (by decide +kernel) ?_
        | refine .mk 38 (by decide +kernel) ?_
        | refine .mk 39 (by decide +kernel) ?_
        | refine .mk 40 (by decide +kernel) ?_
        | refine .mk 41 (by decide +kernel) ?_
        | refine .mk 42 (by decide +kernel) ?_
        | refine .mk 43 (by decide +kernel) ?_
        | refine .mk 44 (by decide +kernel) ?_
        | refine .mk 45 (by decide +kernel) ?_
        | refine .mk 46 (by decide +kernel) ?_
        | refine .mk 47 (by decide +kernel) ?_
        | refine .mk 48 (by decide +kernel) ?_
        | refine .mk 49 (by decide +kernel) ?_
        | refine .mk 50 (by decide +kernel) ?_
        | refine .mk 51 (by decide +kernel) ?_
        | refine .mk 52 (by decide +kernel) ?_
        | refine .mk 53 (by decide +kernel) ?_
        | refine .mk 54 (by decide +kernel) ?_
        | refine .mk 55 (by decide +kernel) ?_
        | refine .mk 56 (by decide +kernel) ?_
        | refine .mk 57 (by decide +kernel) ?_
        | refine .mk 58 (by decide +kernel) ?_
        | refine .mk 59 (by decide +kernel) ?_
        | refine .mk 60 (by decide +kernel) ?_
        | refine .mk 61 (by decide +kernel) ?_
        | refine .mk 62 (by decide +kernel) ?_
        | refine .mk 63 (by decide +kernel) ?_
        | refine .mk 64 (by decide +kernel) ?_
        | refine .mk 65 (by decide +kernel) ?_
        | refine .mk 66 (by decide +kernel) ?_
        | refine .mk 67 (by decide +kernel) ?_
        | refine .mk 68 (by decide +kernel) ?_
        | refine .mk 69 (by decide +kernel) ?_
        | refine .mk 70 (by decide +kernel) ?_
        | refine .mk 71 (by decide +kernel) ?_
        | refine .mk 72 (by decide +kernel) ?_
        | refine .mk 73 (by decide +kernel) ?_
        | refine .mk 74 (by decide +kernel) ?_
        | refine .mk 75 (by decide +kernel) ?_
        | refine .mk 76 (by decide +kernel) ?_
        | refine .mk 77 (by decide +kernel) ?_
        | refine .mk 78 (by decide +kernel) ?_
        | refine .mk 79 (by decide +kernel) ?_
        | refine .mk 80 (by decide +kernel) ?_
        | refine .mk 81 (by decide +kernel) ?_
        | refine .mk 82 (by decide +kernel) ?_
        | refine .mk 83 (by decide +kernel) ?_
        | refine .mk 84 (by decide +kernel) ?_
        | refine .mk 85 (by decide +kernel) ?_
        | refine .mk 86 (by decide +kernel) ?_
        | refine .mk 87 (by decide +kernel) ?_
        | refine .mk 88 (by decide +kernel) ?_
        | refine .mk 89 (by decide +kernel) ?_
      conv => whnf
      split
      rotate_left
      · rename_i h
        have h' : decide (0 ≤ ring) = false := h
        simp at h' <;> omega
      conv => whnf
      split
      rotate_left
      · rename_i h
        have h' : decide (ring < b.nr) = false := h
        simp at h' <;> omega
      conv => whnf
      first | refine CALLQ.mk _ _ _ (leL_refl _) (hC2 _) rfl ?_ | refine CALL0.cutBy lvInflows _ _ _ _ _ (leL_refl _) (hC2 _) rfl ?_ | refine CALL0.mk _ _ _ _ _ (leL_refl _) (hC2 _) rfl ?_
      conv => whnf
      refine CALL0.cutBy lvInflows _ _ _ _ _ (leL_refl _) (c_number _ _ _ _ _ rfl (fun h => zE_ne h) (fun h => by first | exact absurd h zA | (rw [h]; rfl))) rfl ?_
      conv => whnf
      refine CALL0.cutBy lvInflows _ _ _ _ _ (leL_refl _) (c_number _ _ _ _ _ rfl (fun h => zE_ne h) (fun h => by first | exact absurd h zB | (rw [h]; rfl))) rfl ?_
      conv => whnf
      refine CALL0.cutBy lvInflows _ _ _ _ _ (leL_refl _) (c_number _ _ _ _ _ rfl (fun h => zE_ne h) (fun h => by first | exact absurd h zA | (rw [h]; rfl))) rfl ?_
      conv => whnf
      exact ⟨rfl, rfl⟩
    · split
      · rename_i h
        exact absurd h (by simp [zB])
      rename_i hN
      clear hN
      conv => whnf
      refine CALL0.cutBy lvInflows _ _ _ _ _ (leL_refl _) (c_number _ _ _ _ _ rfl (fun h => zE_ne h) (fun h => by first | exact absurd h zA | (rw [h]; rfl))) rfl ?_
      conv => whnf
      refine CALL0.cutBy lvInflows _ _ _ _ _ (leL_refl _) (c_number _ _ _ _ _ rfl (fun h => zE_ne h) (fun h => by first | exact absurd h zB | (rw [h]; rfl))) rfl ?_
      conv => whnf
      refine CALL0.cutBy lvInflows _ _ _ _ _ (leL_refl _) (c_number _ _ _ _ _ rfl (fun h => zE_ne h) (fun h => by first | exact absurd h zA | (rw [h]; rfl))) rfl ?_
      conv => whnf
      exact ⟨rfl, rfl⟩
  · refine mk h_nacellelaw03_RotorInflows rfl rfl ?_
    conv => whnf
    repeat first
      | (show DRAW _ _ _ _ _; first | refine .mk 0 (by decide +kernel) ?_ | refine .mk 1 (by decide +kernel) ?_ | refine .mk 2 (by decide +kernel) ?_ | refine .mk 3 (by decide +kernel) ?_ | refine .mk 4 (by decide +kernel) ?_ | refine .mk 5 (by decide +kernel) ?_ | refine .mk 6 (by decide +kernel) ?_ | refine .mk 7 (by decide +kernel) ?_ | refine .mk 8 (by decide +kernel) ?_ | refine .mk 9 (by decide +kernel) ?_ | refine .mk 10 (by decide +kernel) ?_ | refine .mk 11 (by decide +kernel) ?_ | refine .mk 12 (by decide +kernel) ?_ | refine .mk 13 (by decide +kernel) ?_ | refine .mk 14 (by decide +kernel) ?_ | refine .mk 15 (by decide +kernel) ?_ | refine .mk 16 (by decide +kernel) ?_ | refine .mk 17 (by decide +kernel) ?_ | refine .mk 18 (by decide +kernel) ?_ | refine .mk 19 (by decide +kernel) ?_ | refine .mk 20 (by decide +kernel) ?_ | refine .mk 21 (by decide +kernel) ?_ | refine .mk 22 (by decide +kernel) ?_ | refine .mk 23 (by decide +kernel) ?_ | refine .mk 24 (by decide +kernel) ?_ | refine .mk 25 (by decide +kernel) ?_ | refine .mk 26 (by decide +kernel) ?_ | refine .mk 27 (by decide +kernel) ?_ | refine .mk 28 (by decide +kernel) ?_ | refine .mk 29 (by decide +kernel) ?_ | refine .mk 30 (by decide +kernel) ?_ | refine .mk 31 (by decide +kernel) ?_ | refine .mk 32 (by decide +kernel) ?_ | refine .mk 33 (by decide +kernel) ?_ | refine .mk 34 (by decide +kernel) ?_ | refine .mk 35 (by decide +kernel) ?_ | refine .mk 36 (by decide +kernel) ?_ | refine .mk 37 (by decide +kernel) ?_ | refine .mk 38 (by decide +kernel) ?_ | refine .mk 39 (by decide +kernel) ?_ | refine .mk 40 (by decide +kernel) ?_ | refine .mk 41 (by decide +kernel) ?_ | refine .mk 42 (by decide +kernel) ?_ | refine .mk 43 (by decide +kernel) ?_ | refine .mk 44 (by decide +kernel) ?_ | refine .mk 45 (by decide +kernel) ?_ | refine .mk 46 (by decide +kernel) ?_ | refine .mk 47 (by decide +kernel) ?_ | refine .mk 48 (by decide +kernel) ?_ | refine .mk 49 (by decide +kernel) ?_ | refine .mk 50 (by decide +kernel) ?_ | refine .mk 51 (by decide +kernel) ?_ | refine .mk 52 (by decide +kernel) ?_ | refine .mk 53 (by decide +kernel) ?_ | refine .mk 54 (by decide +kernel) ?_ | refine .mk 55 (by decide +kernel) ?_ | refine .mk 56 (by decide +kernel) ?_ | refine .mk 57 (by decide +kernel) ?_ | refine .mk 58 (by decide +kernel) ?_ | refine .mk 59 (by decide +kernel) ?_ | refine .mk 60 (by decide +kernel) ?_ | refine .mk 61 (by decide +kernel) ?_ | refine .mk 62 (by decide +kernel) ?_ | refine .mk 63 (by decide +kernel) ?_ | refine .mk 64 (by decide +kernel) ?_ | refine .mk 65 (by decide +kernel) ?_ | refine .mk 66 (by decide +kernel) ?_ | refine .mk 67 (by decide +kernel) ?_ | refine .mk 68 (by decide +kernel) ?_ | refine .mk 69 (by decide +kernel) ?_ | refine .mk 70 (by decide +kernel) ?_ | refine .mk 71 (by decide +kernel) ?_ | refine .mk 72 (by decide +kernel) ?_ | refine .mk 73 (by decide +kernel) ?_ | refine .mk 74 (by decide +kernel) ?_ | refine .mk 75 (by decide +kernel) ?_ | refine .mk 76 (by decide +kernel) ?_ | refine .mk 77 (by decide +kernel) ?_ | refine .mk 78 (by decide +kernel) ?_ | refine .mk 79 (by decide +kernel) ?_ | refine .mk 80 (by decide +kernel) ?_ | refine .mk 81 (by decide +kernel) ?_ | refine .mk 82 (by decide +kernel) ?_ | refine .mk 83 (by decide +kernel) ?_ | refine .mk 84 (by decide +kernel) ?_ | refine .mk 85 (by decide +kernel) ?_ | refine .mk 86 (by decide +kernel) ?_ | refine .mk 87 (by decide +kernel) ?_ | refine .mk 88 (by decide +kernel) ?_ | refine .mk 89 (by decide +kernel) ?_; conv => whnf)
      | (refine CALL0.cutBy lvInflows _ _ _ _ _ (leL_refl _) (hA ..) rfl ?_; conv => whnf)
      | (refine CALL0.mk _ _ _ _ _ (leL_refl _) (hA ..) rfl ?_; conv => whnf)
      | (refine CALLQ.mk _ _ _ (leL_refl _) (hA ..) rfl ?_; conv => whnf)
      | (refine CALL0.cutBy lvInflows _ _ _ _ _ (leL_refl _) (hS ..) rfl ?_; conv => whnf)
      | (refine CALL0.mk _ _ _ _ _ (leL_refl _) (hS ..) rfl ?_; conv => whnf)
      | (refine CALLQ.mk _ _ _ (leL_refl _) (hS ..) rfl ?_; conv => whnf)
      | (refine CALL0.cutBy lvInflows _ _ _ _ _ (leL_refl _) (hb ..) rfl ?_; conv => whnf)
      | (refine CALL0.mk _ _ _ _ _ (leL_refl _) (hb ..) rfl ?_; conv => whnf)
      | (refine CALLQ.mk _ _ _ (leL_refl _) (hb ..) rfl ?_; conv => whnf)
      | (refine CALL0.cutBy lvInflows _ _ _ _ _ (leL_refl _) (hI ..) rfl ?_; conv => whnf)
      | (refine CALL0.mk _ _ _ _ _ (leL_refl _) (hI ..) rfl ?_; conv => whnf)
      | (refine CALLQ.mk _ _ _ (leL_refl _) (hI ..) rfl ?_; conv => whnf)
      | (refine CALL0.cutBy lvInflows _ _ _ _ _ (leL_refl _) (hC ..) rfl ?_; conv => whnf)
      | (refine CALL0.mk _ _ _ _ _ (leL_refl _) (hC ..) rfl ?_; conv => whnf)
      | (refine CALLQ.mk _ _ _ (leL_refl _) (hC ..) rfl ?_; conv => whnf)
      | (refine CALL0.cutBy lvInflows _ _ _ _ _ (leL_refl _) (hB ..) rfl ?_; conv => whnf)
      | (refine CALL0.mk _ _ _ _ _ (leL_refl _) (hB ..) rfl ?_; conv => whnf)
      | (refine CALLQ.mk _ _ _ (leL_refl _) (hB ..) rfl ?_; conv => whnf)
      | (refine CALL0.cutBy lvInflows _ _ _ _ _ (leL_refl _) (hR2 ..) rfl ?_; conv => whnf)
      | (refine CALL0.mk _ _ _ _ _ (leL_refl _) (hR2 ..) rfl ?_; conv => whnf)
      | (refine CALLQ.mk _ _ _ (leL_refl _) (hR2 ..) rfl ?_; conv => whnf)
      | (refine CALL0.cutBy lvInflows _ _ _ _ _ (leL_refl _) (c_rCheckInduction ..) rfl ?_; conv => whnf)
      | (refine CALL0.mk _ _ _ _ _ (leL_refl _) (c_rCheckInduction ..) rfl ?_; conv => whnf)
      | (refine CALLQ.mk _ _ _ (leL_refl _) (c_rCheckInduction ..) rfl ?_; conv => whnf)
      | (refine CALL0.cutBy lvInflows _ _ _ _ _ (leL_refl _) (c_CheckRange ..) rfl ?_; conv => whnf)
      | (refine CALL0.mk _ _ _ _ _ (leL_refl _) (c_CheckRange ..) rfl ?_; conv => whnf)
      | (refine CALLQ.mk _ _ _ (leL_refl _) (c_CheckRange ..) rfl ?_; conv => whnf)
      | (refine CALL0.cutBy lvInflows _ _ _ _ _ (leL_refl _) (hf1 ..) rfl ?_; conv => whnf)
      | (refine CALL0.mk _ _ _ _ _ (leL_refl _) (hf1 ..) rfl ?_; conv => whnf)
      | (refine CALLQ.mk _ _ _ (leL_refl _) (hf1 ..) rfl ?_; conv => whnf)
      | (refine CALL0.cutBy lvInflows _ _ _ _ _ (leL_refl _) (hf2 ..) rfl ?_; conv => whnf)
      | (refine CALL0.mk _ _ _ _ _ (leL_refl _) (hf2 ..) rfl ?_; conv => whnf)
      | (refine CALLQ.mk _ _ _ (leL_refl _) (hf2 ..) rfl ?_; conv => whnf)
    split
    · rename_i h
      exact absurd h (by simp [zA])
    rename_i hN
    clear hN
    conv => whnf
    by_cases zB : B = 0
    · obtain ⟨r0, r1, ok, b0, b1⟩ := k2 zB
      have hC2 := fun up => c_rClass (gl := gl) up b f ring.toNat ok x (by omega) b1
      split
      rotate_left
      · rename_i h
        exact absurd h (by simp [zB])
      conv => whnf
      first
        | refine .mk 0 (by decide +kernel) ?_
        | refine .mk 1 (by decide +kernel) ?_
        | refine .mk 2 (by decide +kernel) ?_
        | refine .mk 3 (by decide +kernel) ?_
        | refine .mk 4 (by decide +kernel) ?_
        | refine .mk 5 (by decide +kernel) ?_
        | refine .mk 6 (by decide +kernel) ?_
        | refine .mk 7 (by decide +kernel) ?_
        | refine .mk 8 (by decide +kernel) ?_
        | refine .mk 9 (by decide +kernel) ?_
        | refine .mk 10 (by decide +kernel) ?_
        | refine .mk 11 (by decide +kernel) ?_
        | refine .mk 12 (by decide +kernel) ?_
        | refine .mk 13 (by decide +kernel) ?_
        | refine .mk 14 (by decide +kernel) ?_
        | refine .mk 15 (by decide +kernel) ?_
        | refine .mk 16 (by decide +kernel) ?_
        | refine .mk 17 (by decide +kernel) ?_
        | refine .mk 18 (by decide +kernel) ?_
        | refine .mk 19 (by decide +kernel) ?_
        | refine .mk 20 (by decide +kernel) ?_
        | refine .mk 21 (by decide +kernel) ?_
        | refine .mk 22 (by decide +kernel) ?_
        | refine .mk 23 (by decide +kernel) ?_
        | refine .mk 24 (by decide +kernel) ?_
        | refine .mk 25 (by decide +kernel) ?_
        | refine .mk 26 (by decide +kernel) ?_
        | refine .mk 27 (by decide +kernel) ?_
        | refine .mk 28 (by decide +kernel) ?_
        | refine .mk 29 (by decide +kernel) ?_
        | refine .mk 30 (by decide +kernel) ?_
        | refine .mk 31 (by decide +kernel) ?_
        | refine .mk 32 (by decide +kernel) ?_
        | refine .mk 33 (by decide +kernel) ?_
        | refine .mk 34 (by decide +kernel) ?_
        | refine .mk 35 (by decide +kernel) ?_
        | refine .mk 36 (by decide +kernel) ?_
        | refine .mk 37 (by decide +kernel) ?_
        | refine .mk 38 (by decide +kernel) ?_
        | refine .mk 39 (by decide +kernel) ?_
        | refine .mk 40 (by decide +kernel) ?_
        | refine .mk 41 (by decide +kernel) ?_
        | refine .mk 42 (by decide +kernel) ?_
        | refine .mk 43 (by decide +kernel) ?_
        | refine .mk 44 (by decide +kernel) ?_
        | refine .mk 45 (by decide +kernel) ?_
        | refine .mk 46 (by decide +kernel) ?_
        | refine .mk 47 (by decide +kernel) ?_
        | refine .mk 48 (by decide +kernel) ?_
        | refine .mk 49 (by decide +kernel) ?_
        | refine .mk 50 (by decide +kernel) ?_
        | refine .mk 51 (by decide +kernel) ?_
        | refine .mk 52 (by decide +kernel) ?_
        | refine .mk 53 (by decide +kernel) ?_
        | refine .mk 54 (by decide +kernel) ?_
        | refine .mk 55 (by decide +kernel) ?_
        | refine .mk 56 (by decide +kernel) ?_
        | refine .mk 57 (by decide +kernel) ?_
        | refine .mk 58 (by decide +kernel) ?_
        | refine .mk 59 (by decide +kernel) ?_
        | refine .mk 60 (by decide +kernel) ?_
        | refine .mk 61 (by decide +kernel) ?_
        | refine .mk 62 (by decide +kernel) ?_
        | refine .mk 63 (by decide +kernel) ?_
        | refine .mk 64 (by decide +kernel) ?_
        | refine .mk 65 (by decide +kernel) ?_
        | refine .mk 66 (by decide +kernel) ?_
        | refine .mk 67 (by decide +kernel) ?_
        | refine .mk 68 (by decide +kernel) ?_
        | refine .mk 69 (by decide +kernel) ?_
        | refine .mk 70 (by decide +kernel) ?_
        | refine .mk 71 (by decide +kernel) ?_
        | refine .mk 72 (by decide +kernel) ?_
        | refine .mk 73 (by decide +kernel) ?_
        | refine .mk 74 (by decide +kernel) ?_
        | refine .mk 75 (by decide +kernel) ?_
        | refine .mk 76 (by decide +kernel) ?_
        | refine .mk 77 (by decide +kernel) ?_
        | refine .mk 78 (by decide +kernel) ?_
        | refine .mk 79 (by decide +kernel) ?_
        | refine .mk 80 (by decide +kernel) ?_
        | refine .mk 81 (by decide +kernel) ?_
        | refine .mk 82 (by decide +kernel) ?_
        | refine .mk 83 (by decide +kernel) ?_
        | refine .mk 84 (by decide +kernel) ?_
        | refine .mk 85 (by decide +kernel) ?_
        | refine .mk 86 (by decide +kernel) ?_
        | refine .mk 87 (by decide +kernel) ?_
        | refine .mk 88 (by decide +kernel) ?_
        | refine .mk 89 (by decide +kernel) ?_
      conv => whnf
      split
      rotate_left
      · rename_i h
        have h' : decide (0 ≤ ring) = false := h
        simp at h' <;> omega
      conv => whnf
      split
      rotate_left
      · rename_i h
        have h' : decide (ring < b.nr) = false := h
        simp at h' <;> omega
      conv => whnf
      first | refine CALLQ.mk _ _ _ (leL_refl _) (hC2 _) rfl ?_ | refine CALL0.cutBy lvInflows _ _ _ _ _ (leL_refl _) (hC2 _) rfl ?_ | refine CALL0.mk _ _ _ _ _ (leL_refl _) (hC2 _) rfl ?_
      conv => whnf
      refine CALL0.cutBy lvInflows _ _ _ _ _ (leL_refl _) (c_number _ _ _ _ _ rfl (fun h => zE_ne h) (fun h => by first | exact absurd h zA | (rw [h]; rfl))) rfl ?_
      conv => whnf
      refine CALL0.cutBy lvInflows _ _ _ _ _ (leL_refl _) (c_number _ _ _ _ _ rfl (fun h => zE_ne h) (fun h => by first | exact absurd h zB | (rw [h]; rfl))) rfl ?_
      conv => whnf
      refine CALL0.cutBy lvInflows _ _ _ _ _ (leL_refl _) (c_number _ _ _ _ _ rfl (fun h => zE_ne h) (fun h => by first | exact absurd h zA | (rw [h]; rfl))) rfl ?_
      conv => whnf
      exact ⟨rfl, rfl⟩
    · split
      · rename_i h
        exact absurd h (by simp [zB])
      rename_i hN
      clear hN
      conv => whnf
      refine CALL0.cutBy lvInflows _ _ _ _ _ (leL_refl _) (c_number _ _ _ _ _ rfl (fun h => zE_ne h) (fun h => by first | exact absurd h zA | (rw [h]; rfl))) rfl ?_
      conv => whnf
      refine CALL0.cutBy lvInflows _ _ _ _ _ (leL_refl _) (c_number _ _ _ _ _ rfl (fun h => zE_ne h) (fun h => by first | exact absurd h zB | (rw [h]; rfl))) rfl ?_
      conv => whnf
      refine CALL0.cutBy lvInflows _ _ _ _ _ (leL_refl _) (c_number _ _ _ _ _ rfl (fun h => zE_ne h) (fun h => by first | exact absurd h zA | (rw [h]; rfl))) rfl ?_
      conv => whnf
      exact ⟨rfl, rfl⟩

theorem c_RotorInflows (up : List Ces) (hr : gl g_rotor_roots = rootsI) (hp : gl g_internal_strconv_uint64pow10 = powI) (b : Bl) (f : Fl) (ring a d x D : Int) :
    Cs gl n_nacellelaw03_RotorInflows up [b.iv, f.iv, .agg [.int .i64 ring, .int .i64 a, .int .i64 d, .int .i64 x, .int .i64 D]] (.bool true) up := by
  cases hs : b.short with
  | true => exact inflows_yes up hr hp b f hs ring a d x D
  | false => exact inflows_no up hr hp b f hs ring a d x D
end Go.Proofs.YtllmejkmogepjaaDoor.Ix

/-
  Lm1: RotorMonotone: the law.
-/
namespace Go.Proofs.YtllmejkmogepjaaDoor.Ix
open Go.Proofs
set_option maxRecDepth 100000
set_option linter.unusedVariables false
variable {gl : Nat → IV}

theorem inflR_ok {b : Bl} {f : Fl} (g : Good b f) {i : Nat} (hi : i < b.nr) {D : Nat} (hD : D < 12) {a : Int} (h0 : 0 ≤ a) (h1 : a ≤ 2 ^ D) :
    inflR b f i a ((D + 1 : Nat) : Int) = .tup [.int .i64 (b.infl f i a (D + 1)), .int .i64 0] := by
  unfold inflR
  simp only
  rw [g.ring hi, indErr_zero hD h0 h1]
  rw [show (((D + 1 : Nat) : Int)).toNat = D + 1 by omega, show ((i : Int)).toNat = i by omega]
  rfl

theorem brErr_ok {b : Bl} {f : Fl} (g : Good b f) {i : Nat} (hi : i < b.nr) {D : Nat} (hD : D < 12) {a : Int} (h0 : 0 ≤ a) (h1 : a ≤ 2 ^ D) :
    brErr b f i a ((D + 1 : Nat) : Int) = bif isBr b f i a (D + 1) then 0 else 22 := by
  unfold brErr
  rw [g.ring hi, indErr_zero hD h0 h1]
  rw [show (((D + 1 : Nat) : Int)).toNat = D + 1 by omega, show ((i : Int)).toNat = i by omega]
  cases isBr b f i a (D + 1) <;> rfl

theorem isBr_iff {b : Bl} {f : Fl} {i D : Nat} (ok : b.ok f i) {a : Int} (h0 : 0 ≤ a) : isBr b f i a (D + 1) = true ↔ b.br f i D = some a := by
  unfold isBr
  simp only [Bool.and_eq_true, decide_eq_true_eq]
  constructor
  · intro h; exact (brP_some ok).2 ⟨h0, by simpa using h.1, h.2.1, h.2.2⟩
  · intro h
    obtain ⟨_, h1, h2, h3⟩ := (brP_some ok).1 h
    exact ⟨by simpa using h1, h2, h3⟩

theorem g_Bal (up : List Ces) {b : Bl} {f : Fl} (g : Good b f) {i : Nat} (hi : i < b.nr) {D : Nat} (hD : D < 12) {a : Int} (h0 : 0 ≤ a) (h1 : a ≤ 2 ^ D) :
    Cs gl n_rotor_Balance up [b.iv, f.iv, .int .i64 i, .agg [.int .i64 a, .int .i64 ((D + 1 : Nat) : Int)]] (.tup [.int .i64 (b.bal f i a (D + 1)), .int .i64 0]) up := by
  have := c_Balance (gl := gl) up b f i a ((D + 1 : Nat) : Int)
  rw [balR_ok g hi hD h0 h1] at this
  exact this
theorem g_Inf (up : List Ces) {b : Bl} {f : Fl} (g : Good b f) {i : Nat} (hi : i < b.nr) {D : Nat} (hD : D < 12) {a : Int} (h0 : 0 ≤ a) (h1 : a ≤ 2 ^ D) :
    Cs gl n_rotor_Inflow up [b.iv, f.iv, .int .i64 i, .agg [.int .i64 a, .int .i64 ((D + 1 : Nat) : Int)]] (.tup [.int .i64 (b.infl f i a (D + 1)), .int .i64 0]) up := by
  have := c_Inflow (gl := gl) up b f i a ((D + 1 : Nat) : Int)
  rw [inflR_ok g hi hD h0 h1] at this
  exact this
theorem g_Chk (up : List Ces) {b : Bl} {f : Fl} (g : Good b f) {i : Nat} (hi : i < b.nr) {D : Nat} (hD : D < 12) {a : Int} (h0 : 0 ≤ a) (h1 : a ≤ 2 ^ D) :
    Cs gl n_rotor_CheckBracket up [b.iv, f.iv, .int .i64 i, .agg [.int .i64 a, .int .i64 ((D + 1 : Nat) : Int)]] (.int .i64 (bif isBr b f i a (D + 1) then 0 else 22)) up := by
  have := c_CheckBracket (gl := gl) up b f i a ((D + 1 : Nat) : Int)
  rw [brErr_ok g hi hD h0 h1] at this
  exact this

theorem mono_no (up : List Ces) (hr : gl g_rotor_roots = rootsI) (hp : gl g_internal_strconv_uint64pow10 = powI) (b : Bl) (f : Fl) (ring a d x D : Int) (h : ¬ (b.short = true ∧ b.err = 0 ∧ f.err = 0 ∧ 1 ≤ D ∧ D ≤ 7)) :
    Cs gl n_nacellelaw03_RotorMonotone up [b.iv, f.iv, .agg [.int .i64 ring, .int .i64 a, .int .i64 d, .int .i64 x, .int .i64 D]] (.bool true) up := by
  refine mk h_nacellelaw03_RotorMonotone rfl rfl ?_
  conv => whnf
  refine .mk _ _ _ _ _ (leL_refl _) (c_awake _ hr hp) rfl ?_
  conv => whnf
  refine .mk _ _ _ _ _ (leL_refl _) (c_Short _ b) rfl ?_
  conv => whnf
  split
  · conv => whnf
    refine .mk _ _ _ _ _ (leL_refl _) (c_awake _ hr hp) rfl ?_
    conv => whnf
    exact ⟨rfl, rfl⟩
  rename_i h1
  conv => whnf
  refine .mk _ _ _ _ _ (leL_refl _) (c_rCheckBlade _ b) rfl ?_
  conv => whnf
  split
  · conv => whnf
    refine .mk _ _ _ _ _ (leL_refl _) (c_awake _ hr hp) rfl ?_
    conv => whnf
    exact ⟨rfl, rfl⟩
  rename_i h2
  conv => whnf
  refine .mk _ _ _ _ _ (leL_refl _) (c_rCheckFlow _ _ _ _) rfl ?_
  conv => whnf
  split
  · conv => whnf
    refine .mk _ _ _ _ _ (leL_refl _) (c_awake _ hr hp) rfl ?_
    conv => whnf
    exact ⟨rfl, rfl⟩
  rename_i h3
  conv => whnf
  split
  · conv => whnf
    refine .mk _ _ _ _ _ (leL_refl _) (c_awake _ hr hp) rfl ?_
    conv => whnf
    exact ⟨rfl, rfl⟩
  rename_i h4
  conv => whnf
  split
  · conv => whnf
    refine .mk _ _ _ _ _ (leL_refl _) (c_awake _ hr hp) rfl ?_
    conv => whnf
    exact ⟨rfl, rfl⟩
  rename_i h5
  refine absurd ⟨by simpa using h1, by simpa using h2, by simpa using (show (f.err != 0) = false from h3), ?_, ?_⟩ h
  · have h4 := of_decide_eq_false h4; omega
  · have h5 := of_decide_eq_false h5; omega

/-- The last value of a row up to (and without) k, or 0. -/
def lastOf (g : Int → Int) (k : Nat) : Int := if k = 0 then 0 else g ((k : Int) - 1)
theorem lastOf_succ (g : Int → Int) (k : Nat) : lastOf g (k + 1) = g k := by
  unfold lastOf
  rw [if_neg (by omega), show ((k + 1 : Nat) : Int) - 1 = k by omega]

/-- What the law is told of the search. -/
structure MonoOK (b : Bl) (f : Fl) (ring : Int) (i D H : Nat) : Prop where
  g : Good b f
  hi : i < b.nr
  hD : D < 7
  hH : ((H : Nat) : Int) = 2 ^ D
  er : (IntKind.i64.wrap (ring.tmod b.nr + b.nr)).tmod b.nr = (i : Int)

theorem MonoOK.facts {b : Bl} {f : Fl} {ring : Int} {i D H : Nat} (m : MonoOK b f ring i D H) (k : Nat) (hk : k ≤ H) :
    decide (b.bal f i k (D + 1) < lastOf (fun a => b.bal f i a (D + 1)) k) = (decide (b.bal f i k (D + 1) < 0) && decide (k = 0)) ∧ decide (b.infl f i k (D + 1) > lastOf (fun a => b.infl f i a (D + 1)) k) = (decide (b.infl f i k (D + 1) > 0) && decide (k = 0)) ∧ decide (b.infl f i k (D + 1) < 0) = false := by
  have ok := m.g.all.2.2.2 i m.hi
  have hs := Int.pow_succ (2 : Int) D
  have hH := m.hH
  have r := infl_rng (b := b) (f := f) (i := i) ok (a := (k : Int)) (d := D + 1) (by omega) (by omega)
  refine ⟨?_, ?_, decide_eq_false (by omega)⟩
  · unfold lastOf
    by_cases h : k = 0
    · rw [if_pos h, decide_eq_true h, Bool.and_true]
    · rw [if_neg h, decide_eq_false h, Bool.and_false]
      have := balP_mono ok (a := (k : Int) - 1) (b := (k : Int)) (d := D + 1) (by omega) (by omega)
      exact decide_eq_false (Int.not_lt.2 this)
  · unfold lastOf
    by_cases h : k = 0
    · rw [if_pos h, decide_eq_true h, Bool.and_true]
    · rw [if_neg h, decide_eq_false h, Bool.and_false]
      have := inflP_mono ok (a := (k : Int) - 1) (b := (k : Int)) (d := D + 1) (by omega)
      exact decide_eq_false (Int.not_lt.2 this)

/-- What is read behind each call. -/
def lvMono : List (Nat × List Nat) := [(22, [3, 4, 5, 6, 7, 8, 9, 10, 11, 22]), (26, [3, 4, 5, 6, 7, 8, 9, 10, 11, 24, 26]), (31, [3, 4, 5, 6, 7, 8, 9, 10, 11, 29, 31]), (36, [3, 4, 5, 6, 7, 8, 9, 10, 11, 34, 36]), (49, [3, 4, 5, 6, 7, 8, 9, 10, 11, 49]), (70, [3, 4, 5, 6, 7, 8, 9, 10, 11, 70]), (75, [3, 4, 5, 6, 7, 8, 9, 10, 11, 75]), (89, [3, 4, 5, 6, 7, 8, 9, 10, 11, 12, 13, 14, 15, 16, 17, 18, 19, 89]), (93, [3, 4, 5, 6, 7, 8, 9, 10, 11, 12, 13, 14, 15, 16, 17, 18, 19, 93]), (98, [3, 4, 5, 6, 7, 8, 9, 10, 11, 12, 13, 14, 15, 16, 17, 18, 19, 98]), (102, [3, 4, 5, 6, 7, 8, 9, 10, 11, 12, 13, 14, 15, 16, 17, 18, 19, 102]), (132, [3, 4, 5, 6, 7, 8, 9, 10, 11, 12, 13, 14, 15, 16, 17, 18, 19, 132]), (136, [3, 4, 5, 6, 7, 8, 9, 10, 11, 12, 13, 14, 15, 16, 17, 18, 19, 136]), (161, [4, 5, 6, 7, 9, 11, 12, 161]), (165, [5, 6, 9, 11, 12, 165])]
set_option maxHeartbeats 8000000 in
theorem mono_none (up : List Ces) (hr : gl g_rotor_roots = rootsI) (hp : gl g_internal_strconv_uint64pow10 = powI) (b : Bl) (f : Fl) (hs : b.short = true) (ring a d x : Int) (i D H : Nat) (m : MonoOK b f ring i D H) (hbr : b.br f i D = none) :
    Cs gl n_nacellelaw03_RotorMonotone up [b.iv, f.iv, .agg [.int .i64 ring, .int .i64 a, .int .i64 d, .int .i64 x, .int .i64 ((D + 1 : Nat) : Int)]] (.bool true) up := by
  have facts := m.facts
  have last0 : ∀ k : Nat, isBr b f i k (D + 1) = false := fun k => by
    cases h : isBr b f i k (D + 1) with
    | false => rfl
    | true => rw [isBr_iff (m.g.all.2.2.2 i m.hi) (by omega), hbr] at h; cases h
  have fin : b.bal f i H (D + 1) ≤ 0 := by
    have h := m.hH
    rw [h]
    unfold Bl.br brP findS at hbr
    by_cases e : balP b.nl b.lf (b.r1 i) (b.r2 i) (b.r3 i) (b.r4 i) f.w f.s f.p (2 ^ D) (D + 1) ≤ 0
    · exact e
    · simp [e] at hbr
  obtain ⟨acc, hacc⟩ : ∃ acc : Nat → Int, acc = fun _ => 0 := ⟨_, rfl⟩
  have acc0 : acc 0 = 0 := by rw [hacc]
  obtain ⟨er, her⟩ : ∃ er : Int, er = 7 := ⟨_, rfl⟩
  obtain ⟨aa, haa⟩ : ∃ aa : Int, aa = 0 := ⟨_, rfl⟩
  obtain ⟨ad, had⟩ : ∃ ad : Int, ad = 0 := ⟨_, rfl⟩
  obtain ⟨hl, hd, hn⟩ := short_le hs
  obtain ⟨hnd, hn1, hn2, oks⟩ := m.g.all
  have ok := oks i m.hi
  have hH := m.hH
  have hpw := two_pos D
  have hpl := pow_le12 (d := D) (by have := m.hD; omega)
  have hS := fun up => c_Short (gl := gl) up b
  rw [hs] at hS
  have hA := fun up => c_awake (gl := gl) up hr hp
  have hb := fun up => c_blade (gl := gl) up b hl hd hn
  have hE1 := fun up => c_rCheckBlade (gl := gl) up b
  rw [m.g.be] at hE1
  have hE2 := fun up => c_rCheckFlow (gl := gl) up f.w f.s f.p
  rw [show flowS f.w f.s f.p = 0 from m.g.fe] at hE2
  have hD := m.hD
  have qd1 : decide (((D + 1 : Nat) : Int) < 1) = false := decide_eq_false (by omega)
  have qd2 : decide (((D + 1 : Nat) : Int) > 7) = false := decide_eq_false (by omega)
  have qn : ((b.nr : Int) != 0) = true := by simp; omega
  have eh : halfW ((D + 1 : Nat) : Int) = H := by have := halfW_eq (d := D + 1) (by omega) (by omega); rw [this, hH]; simp
  have e1 : w64 (((D + 1 : Nat) : Int) - 1) = (D : Int) := by rw [w64, wrap_in] <;> omega
  have q0 : decide (0 ≤ w64 (((D + 1 : Nat) : Int) - 1)) = true := decide_eq_true (by rw [e1]; omega)
  have hF := fun up => c_Find (gl := gl) up b f i ((D + 1 : Nat) : Int)
  rw [findR_ok m.g m.hi (show D < 12 by omega)] at hF
  have hB := fun (k : Nat) (hk : k ≤ H) up => g_Bal (gl := gl) up m.g m.hi (show D < 12 by omega) (a := (k : Int)) (by omega) (by omega)
  have hI := fun (k : Nat) (hk : k ≤ H) up => g_Inf (gl := gl) up m.g m.hi (show D < 12 by omega) (a := (k : Int)) (by omega) (by omega)
  have hC := fun (k : Nat) (hk : k ≤ H) up => g_Chk (gl := gl) up m.g m.hi (show D < 12 by omega) (a := (k : Int)) (by omega) (by omega)
  rw [hbr] at hF
  simp only at hF
  refine mk h_nacellelaw03_RotorMonotone rfl rfl ?_
  conv => whnf
  repeat first
    | (show DRAW _ _ _ _ _; first | refine .mk 0 (by decide +kernel) ?_ | refine .mk 1 (by decide +kernel) ?_ | refine .mk 2 (by decide +kernel) ?_ | refine .mk 3 (by decide +kernel) ?_ | refine .mk 4 (by decide +kernel) ?_ | refine .mk 5 (by decide +kernel) ?_ | refine .mk 6 (by decide +kernel) ?_ | refine .mk 7 (by decide +kernel) ?_ | refine .mk 8 (by decide +kernel) ?_ | refine .mk 9 (by decide +kernel) ?_ | refine .mk 10 (by decide +kernel) ?_ | refine .mk 11 (by decide +kernel) ?_ | refine .mk 12 (by decide +kernel) ?_ | refine .mk 13 (by decide +kernel) ?_ | refine .mk 14 (by decide +kernel) ?_ | refine .mk 15 (by decide +kernel) ?_ | refine .mk 16 (by decide +kernel) ?_ | refine .mk 17 (by decide +kernel) ?_ | refine .mk 18 (by decide +kernel) ?_ | refine .mk 19 (by decide +kernel) ?_ | refine .mk 20 (by decide +kernel) ?_ | refine .mk 21 (by decide +kernel) ?_ | refine .mk 22 (by decide +kernel) ?_ | refine .mk 23 (by decide +kernel) ?_ | refine .mk 24 (by decide +kernel) ?_ | refine .mk 25 (by decide +kernel) ?_ | refine .mk 26 (by decide +kernel) ?_ | refine .mk 27 (by decide +kernel) ?_ | refine .mk 28 (by decide +kernel) ?_ | refine .mk 29 (by decide +kernel) ?_ | refine .mk 30 (by decide +kernel) ?_ | refine .mk 31 (by decide +kernel) ?_ | refine .mk 32 (by decide +kernel) ?_ | refine .mk 33 (by decide +kernel) ?_ | refine .mk 34 (by decide +kernel) ?_ | refine .mk 35 (by decide +kernel) ?_ | refine .mk 36 (by decide +kernel) ?_ | refine .mk 37 (by decide +kernel) ?_ | refine .mk 38 (by decide +kernel) ?_ | refine .mk 39 (by decide +kernel) ?_ | refine .mk 40 (by decide +kernel) ?_ | refine .mk 41 (by decide +kernel) ?_ | refine .mk 42 (by decide +kernel) ?_ | refine .mk 43 (by decide +kernel) ?_ | refine .mk 44 (by decide +kernel) ?_ | refine .mk 45 (by decide +kernel) ?_ | refine .mk 46 (by decide +kernel) ?_ | refine .mk 47 (by decide +kernel) ?_ | refine .mk 48 (by decide +kernel) ?_ | refine .mk 49 (by decide +kernel) ?_ | refine .mk 50 (by decide +kernel) ?_ | refine .mk 51 (by decide +kernel) ?_ | refine .mk 52 (by decide +kernel) ?_ | refine .mk 53 (by decide +kernel) ?_ | refine .mk 54 (by decide +kernel) ?_ | refine .mk 55 (by decide +kernel) ?_ | refine .mk 56 (by decide +kernel) ?_ | refine .mk 57 (by decide +kernel) ?_ | refine .mk 58 (by decide +kernel) ?_ | refine .mk 59 (by decide +kernel) ?_ | refine .mk 60 (by decide +kernel) ?_ | refine .mk 61 (by decide +kernel) ?_ | refine .mk 62 (by decide +kernel) ?_ | refine .mk 63 (by decide +kernel) ?_ | refine .mk 64 (by decide +kernel) ?_ | refine .mk 65 (by decide +kernel) ?_ | refine .mk 66 (by decide +kernel) ?_ | refine .mk 67 (by decide +kernel) ?_ | refine .mk 68 (by decide +kernel) ?_ | refine .mk 69 (by decide +kernel) ?_ | refine .mk 70 (by decide +kernel) ?_ | refine .mk 71 (by decide +kernel) ?_ | refine .mk 72 (by decide +kernel) ?_ | refine .mk 73 (by decide +kernel) ?_ | refine .mk 74 (by decide +kernel) ?_ | refine .mk 75 (by decide +kernel) ?_ | refine .mk 76 (by decide +kernel) ?_ | refine .mk 77 (by decide +kernel) ?_ | refine .mk 78 (by decide +kernel) ?_ | refine .mk 79 (by decide +kernel) ?_ | refine .mk 80 (by decide +kernel) ?_ | refine .mk 81 (by decide +kernel) ?_ | refine .mk 82 (by decide +kernel) ?_ | refine .mk 83 (by decide +kernel) ?_ | refine .mk 84 (by decide +kernel) ?_ | refine .mk 85 (by decide +kernel) ?_ | refine .mk 86 (by decide +kernel) ?_ | refine .mk 87 (by decide +kernel) ?_ | refine .mk 88 (by decide +kernel) ?_ | refine .mk 89 (by decide +kernel) ?_; conv => whnf)
    | (refine CALL0.cutBy lvMono _ _ _ _ _ (leL_refl _) (hA ..) rfl ?_; conv => whnf)
    | (refine CALL0.mk _ _ _ _ _ (leL_refl _) (hA ..) rfl ?_; conv => whnf)
    | (refine CALLQ.mk _ _ _ (leL_refl _) (hA ..) rfl ?_; conv => whnf)
    | (refine CALL0.cutBy lvMono _ _ _ _ _ (leL_refl _) (hS ..) rfl ?_; conv => whnf)
    | (refine CALL0.mk _ _ _ _ _ (leL_refl _) (hS ..) rfl ?_; conv => whnf)
    | (refine CALLQ.mk _ _ _ (leL_refl _) (hS ..) rfl ?_; conv => whnf)
    | (refine CALL0.cutBy lvMono _ _ _ _ _ (leL_refl _) (hE1 ..) rfl ?_; conv => whnf)
    | (refine CALL0.mk _ _ _ _ _ (leL_refl _) (hE1 ..) rfl ?_; conv => whnf)
    | (refine CALLQ.mk _ _ _ (leL_refl _) (hE1 ..) rfl ?_; conv => whnf)
    | (refine CALL0.cutBy lvMono _ _ _ _ _ (leL_refl _) (hE2 ..) rfl ?_; conv => whnf)
    | (refine CALL0.mk _ _ _ _ _ (leL_refl _) (hE2 ..) rfl ?_; conv => whnf)
    | (refine CALLQ.mk _ _ _ (leL_refl _) (hE2 ..) rfl ?_; conv => whnf)
  split
  · rename_i h
    exact Bool.noConfusion ((qd2).symm.trans h)
  rename_i hN
  clear hN
  conv => whnf
  first
    | refine .mk 0 (by decide +kernel) ?_
    | refine .mk 1 (by decide +kernel) ?_
    | refine .mk 2 (by decide +kernel) ?_
    | refine .mk 3 (by decide +kernel) ?_
    | refine .mk 4 (by decide +kernel) ?_
    | refine .mk 5 (by decide +kernel) ?_
    | refine .mk 6 (by decide +kernel) ?_
    | refine .mk 7 (by decide +kernel) ?_
    | refine .mk 8 (by decide +kernel) ?_
    | refine .mk 9 (by decide +kernel) ?_
    | refine .mk 10 (by decide +kernel) ?_
    | refine .mk 11 (by decide +kernel) ?_
    | refine .mk 12 (by decide +kernel) ?_
    | refine .mk 13 (by decide +kernel) ?_
    | refine .mk 14 (by decide +kernel) ?_
    | refine .mk 15 (by decide +kernel) ?_
    | refine .mk 16 (by decide +kernel) ?_
    | refine .mk 17 (by decide +kernel) ?_
    | refine .mk 18 (by decide +kernel) ?_
    | refine .mk 19 (by decide +kernel) ?_
    | refine .mk 20 (by decide +kernel) ?_
    | refine .mk 21 (by decide +kernel) ?_
    | refine .mk 22 (by decide +kernel) ?_
    | refine .mk 23 (by decide +kernel) ?_
    | refine .mk 24 (by decide +kernel) ?_
    | refine .mk 25 (by decide +kernel) ?_
    | refine .mk 26 (by decide +kernel) ?_
    | refine .mk 27 (by decide +kernel) ?_
    | refine .mk 28 (by decide +kernel) ?_
    | refine .mk 29 (by decide +kernel) ?_
    | refine .mk 30 (by decide +kernel) ?_
    | refine .mk 31 (by decide +kernel) ?_
    | refine .mk 32 (by decide +kernel) ?_
    | refine .mk 33 (by decide +kernel) ?_
    | refine .mk 34 (by decide +kernel) ?_
    | refine .mk 35 (by decide +kernel) ?_
    | refine .mk 36 (by decide +kernel) ?_
    | refine .mk 37 (by decide +kernel) ?_
    | refine .mk 38 (by decide +kernel) ?_
    | refine .mk 39 (by decide +kernel) ?_
    | refine .mk 40 (by decide +kernel) ?_
    | refine .mk 41 (by decide +kernel) ?_
    | refine .mk 42 (by decide +kernel) ?_
    | refine .mk 43 (by decide +kernel) ?_
    | refine .mk 44 (by decide +kernel) ?_
    | refine .mk 45 (by decide +kernel) ?_
    | refine .mk 46 (by decide +kernel) ?_
    | refine .mk 47 (by decide +kernel) ?_
    | refine .mk 48 (by decide +kernel) ?_
    | refine .mk 49 (by decide +kernel) ?_
    | refine .mk 50 (by decide +kernel) ?_
    | refine .mk 51 (by decide +kernel) ?_
    | refine .mk 52 (by decide +kernel) ?_
    | refine .mk 53 (by decide +kernel) ?_
    | refine .mk 54 (by decide +kernel) ?_
    | refine .mk 55 (by decide +kernel) ?_
    | refine .mk 56 (by decide +kernel) ?_
    | refine .mk 57 (by decide +kernel) ?_
    | refine .mk 58 (by decide +kernel) ?_
    | refine .mk 59 (by decide +kernel) ?_
    | refine .mk 60 (by decide +kernel) ?_
    | refine .mk 61 (by decide +kernel) ?_
    | refine .mk 62 (by decide +kernel) ?_
    | refine .mk 63 (by decide +kernel) ?_
    | refine .mk 64 (by decide +kernel) ?_
    | refine .mk 65 (by decide +kernel) ?_
    | refine .mk 66 (by decide +kernel) ?_
    | refine .mk 67 (by decide +kernel) ?_
    | refine .mk 68 (by decide +kernel) ?_
    | refine .mk 69 (by decide +kernel) ?_
    | refine .mk 70 (by decide +kernel) ?_
    | refine .mk 71 (by decide +kernel) ?_
    | refine .mk 72 (by decide +kernel) ?_
    | refine .mk 73 (by decide +kernel) ?_
    | refine .mk 74 (by decide +kernel) ?_
    | refine .mk 75 (by decide +kernel) ?_
    | refine .mk 76 (by decide +kernel) ?_
    | refine .mk 77 (by decide +kernel) ?_
    | refine .mk 78 (by decide +kernel) ?_
    | refine .mk 79 (by decide +kernel) ?_
    | refine .mk 80 (by decide +kernel) ?_
    | refine .mk 81 (by decide +kernel) ?_
    | refine .mk 82 (by decide +kernel) ?_
    | refine .mk 83 (by decide +kernel) ?_
    | refine .mk 84 (by decide +kernel) ?_
    | refine .mk 85 (by decide +kernel) ?_
    | refine .mk 86 (by decide +kernel) ?_
    | refine .mk 87 (by decide +kernel) ?_
    | refine .mk 88 (by decide +kernel) ?_
    | refine .mk 89 (by decide +kernel) ?_
  conv => whnf
  split
  rotate_left
  · rename_i h
    exact Bool.noConfusion ((qn).symm.trans h)
  rename_i hN
  clear hN
  conv => whnf
  split
  rotate_left
  · rename_i h
    exact Bool.noConfusion ((qn).symm.trans h)
  rename_i hN
  clear hN
  conv => whnf
  split
  rotate_left
  · rename_i h
    exact Bool.noConfusion ((q0).symm.trans h)
  rename_i hN
  clear hN
  conv => whnf
  rw [m.er]
  repeat first
    | (show DRAW _ _ _ _ _; first | refine .mk 0 (by decide +kernel) ?_ | refine .mk 1 (by decide +kernel) ?_ | refine .mk 2 (by decide +kernel) ?_ | refine .mk 3 (by decide +kernel) ?_ | refine .mk 4 (by decide +kernel) ?_ | refine .mk 5 (by decide +kernel) ?_ | refine .mk 6 (by decide +kernel) ?_ | refine .mk 7 (by decide +kernel) ?_ | refine .mk 8 (by decide +kernel) ?_ | refine .mk 9 (by decide +kernel) ?_ | refine .mk 10 (by decide +kernel) ?_ | refine .mk 11 (by decide +kernel) ?_ | refine .mk 12 (by decide +kernel) ?_ | refine .mk 13 (by decide +kernel) ?_ | refine .mk 14 (by decide +kernel) ?_ | refine .mk 15 (by decide +kernel) ?_ | refine .mk 16 (by decide +kernel) ?_ | refine .mk 17 (by decide +kernel) ?_ | refine .mk 18 (by decide +kernel) ?_ | refine .mk 19 (by decide +kernel) ?_ | refine .mk 20 (by decide +kernel) ?_ | refine .mk 21 (by decide +kernel) ?_ | refine .mk 22 (by decide +kernel) ?_ | refine .mk 23 (by decide +kernel) ?_ | refine .mk 24 (by decide +kernel) ?_ | refine .mk 25 (by decide +kernel) ?_ | refine .mk 26 (by decide +kernel) ?_ | refine .mk 27 (by decide +kernel) ?_ | refine .mk 28 (by decide +kernel) ?_ | refine .mk 29 (by decide +kernel) ?_ | refine .mk 30 (by decide +kernel) ?_ | refine .mk 31 (by decide +kernel) ?_ | refine .mk 32 (by decide +kernel) ?_ | refine .mk 33 (by decide +kernel) ?_ | refine .mk 34 (by decide +kernel) ?_ | refine .mk 35 (by decide +kernel) ?_ | refine .mk 36 (by decide +kernel) ?_ | refine .mk 37 (by decide +kernel) ?_ | refine .mk 38 (by decide +kernel) ?_ | refine .mk 39 (by decide +kernel) ?_ | refine .mk 40 (by decide +kernel) ?_ | refine .mk 41 (by decide +kernel) ?_ | refine .mk 42 (by decide +kernel) ?_ | refine .mk 43 (by decide +kernel) ?_ | refine .mk 44 (by decide +kernel) ?_ | refine .mk 45 (by decide +kernel) ?_ | refine .mk 46 (by decide +kernel) ?_ | refine .mk 47 (by decide +kernel) ?_ | refine .mk 48 (by decide +kernel) ?_ | refine .mk 49 (by decide +kernel) ?_ | refine .mk 50 (by decide +kernel) ?_ | refine .mk 51 (by decide +kernel) ?_ | refine .mk 52 (by decide +kernel) ?_ | refine .mk 53 (by decide +kernel) ?_ | refine .mk 54 (by decide +kernel) ?_ | refine .mk 55 (by decide +kernel) ?_ | refine .mk 56 (by decide +kernel) ?_ | refine .mk 57 (by decide +kernel) ?_ | refine .mk 58 (by decide +kernel) ?_ | refine .mk 59 (by decide +kernel) ?_ | refine .mk 60 (by decide +kernel) ?_ | refine .mk 61 (by decide +kernel) ?_ | refine .mk 62 (by decide +kernel) ?_ | refine .mk 63 (by decide +kernel) ?_ | refine .mk 64 (by decide +kernel) ?_ | refine .mk 65 (by decide +kernel) ?_ | refine .mk 66 (by decide +kernel) ?_ | refine .mk 67 (by decide +kernel) ?_ | refine .mk 68 (by decide +kernel) ?_ | refine .mk 69 (by decide +kernel) ?_ | refine .mk 70 (by decide +kernel) ?_ | refine .mk 71 (by decide +kernel) ?_ | refine .mk 72 (by decide +kernel) ?_ | refine .mk 73 (by decide +kernel) ?_ | refine .mk 74 (by decide +kernel) ?_ | refine .mk 75 (by decide +kernel) ?_ | refine .mk 76 (by decide +kernel) ?_ | refine .mk 77 (by decide +kernel) ?_ | refine .mk 78 (by decide +kernel) ?_ | refine .mk 79 (by decide +kernel) ?_ | refine .mk 80 (by decide +kernel) ?_ | refine .mk 81 (by decide +kernel) ?_ | refine .mk 82 (by decide +kernel) ?_ | refine .mk 83 (by decide +kernel) ?_ | refine .mk 84 (by decide +kernel) ?_ | refine .mk 85 (by decide +kernel) ?_ | refine .mk 86 (by decide +kernel) ?_ | refine .mk 87 (by decide +kernel) ?_ | refine .mk 88 (by decide +kernel) ?_ | refine .mk 89 (by decide +kernel) ?_; conv => whnf)
    | (refine CALL0.cutBy lvMono _ _ _ _ _ (leL_refl _) (hb ..) rfl ?_; conv => whnf)
    | (refine CALL0.mk _ _ _ _ _ (leL_refl _) (hb ..) rfl ?_; conv => whnf)
    | (refine CALLQ.mk _ _ _ (leL_refl _) (hb ..) rfl ?_; conv => whnf)
  first | refine CALLQ.mk _ _ _ (leL_refl _) (hF _) rfl ?_ | refine CALL0.cutBy lvMono _ _ _ _ _ (leL_refl _) (hF _) rfl ?_ | refine CALL0.mk _ _ _ _ _ (leL_refl _) (hF _) rfl ?_
  conv => whnf
  refine .mk (α := {k : Nat // k ≤ H + 1}) (fun k => ⟨[(14, .int .i64 k.1), (13, .int .i64 (lastOf (fun a => b.infl f i a (D + 1)) k.1)), (12, .int .i64 (lastOf (fun a => b.bal f i a (D + 1)) k.1)), (11, .int .i64 (acc k.1)), (10, .int .i64 er), (8, .int .i64 H), (7, .int .i64 i), (6, .bool false), (3, .ptr 0 3 0), (4, .ptr 0 4 0), (5, .ptr 0 5 0), (9, .ptr 0 9 0)],
    [(9, [.int .i64 aa, .int .i64 ad]), (5, [.int .i64 ring, .int .i64 a, .int .i64 d, .int .i64 x, .int .i64 ((D + 1 : Nat) : Int)]), (4, [.int .i64 f.w, .int .i64 f.s, .int .i64 f.p]), (3, [.lst none 1 b.nl fun i => [.int .i64 (b.lf i)], .lst none 1 b.nd fun i => [.int .i64 (b.df i)], .lst none 4 b.nr fun i => [.int .i64 (b.r1 i), .int .i64 (b.r2 i), .int .i64 (b.r3 i), .int .i64 (b.r4 i)]])], up⟩) (fun k => H + 1 - k.1) ⟨0, Nat.zero_le _⟩ ⟨?_, ?_, rfl, rfl⟩ ?_
  · exact ⟨leV_refl _, leV_refl _, leV_refl _, leV_int acc0.symm, leV_int her.symm, leV_int eh, leV_refl _, leV_refl _, leV_refl _, leV_refl _, leV_refl _, leV_refl _, trivial⟩
  · exact ⟨⟨leV_int haa.symm, leV_int had.symm, trivial⟩, leL_refl _, leL_refl _, leL_refl _, trivial⟩
  rintro ⟨k, hk⟩
  conv => whnf
  split
  rotate_left
  · rename_i h
    have h : decide ((k : Int) ≤ (H : Int)) = false := h
    have hk2 : k = H + 1 := by have := of_decide_eq_false h; omega
    subst hk2
    subst her
    subst hacc
    conv => whnf
    refine ⟨?_, rfl⟩
    show IV.bool (decide (lastOf (fun a => b.bal f i a (D + 1)) (H + 1) ≤ 0)) = .bool true
    rw [lastOf_succ, decide_eq_true fin]
  rename_i h
  have h : decide ((k : Int) ≤ (H : Int)) = true := h
  have hkH : k ≤ H := by have := of_decide_eq_true h; omega
  clear h
  obtain ⟨f1, f2, f3⟩ := facts k hkH
  have hB' := hB k hkH
  have hI' := hI k hkH
  have hC' := hC k hkH
  rw [last0 k] at hC'
  simp only [cond_false] at hC'
  have ek : w64 ((k : Int) + 1) = ((k + 1 : Nat) : Int) := by rw [w64, wrap_in] <;> omega
  by_cases hk0 : k = 0
  · have g0 : decide ((k : Int) > 0) = false := decide_eq_false (by omega)
    conv => whnf
    repeat first
      | (show DRAW _ _ _ _ _; first | refine .mk 0 (by decide +kernel) ?_ | refine .mk 1 (by decide +kernel) ?_ | refine .mk 2 (by decide +kernel) ?_ | refine .mk 3 (by decide +kernel) ?_ | refine .mk 4 (by decide +kernel) ?_ | refine .mk 5 (by decide +kernel) ?_ | refine .mk 6 (by decide +kernel) ?_ | refine .mk 7 (by decide +kernel) ?_ | refine .mk 8 (by decide +kernel) ?_ | refine .mk 9 (by decide +kernel) ?_ | refine .mk 10 (by decide +kernel) ?_ | refine .mk 11 (by decide +kernel) ?_ | refine .mk 12 (by decide +kernel) ?_ | refine .mk 13 (by decide +kernel) ?_ | refine .mk 14 (by decide +kernel) ?_ | refine .mk 15 (by decide +kernel) ?_ | refine .mk 16 (by decide +kernel) ?_ | refine .mk 17 (by decide +kernel) ?_ | refine .mk 18 (by decide +kernel) ?_ | refine .mk 19 (by decide +kernel) ?_ | refine .mk 20 (by decide +kernel) ?_ | refine .mk 21 (by decide +kernel) ?_ | refine .mk 22 (by decide +kernel) ?_ | refine .mk 23 (by decide +kernel) ?_ | refine .mk 24 (by decide +kernel) ?_ | refine .mk 25 (by decide +kernel) ?_ | refine .mk 26 (by decide +kernel) ?_ | refine .mk 27 (by decide +kernel) ?_ | refine .mk 28 (by decide +kernel) ?_ | refine .mk 29 (by decide +kernel) ?_ | refine .mk 30 (by decide +kernel) ?_ | refine .mk 31 (by decide +kernel) ?_ | refine .mk 32 (by decide +kernel) ?_ | refine .mk 33 (by decide +kernel) ?_ | refine .mk 34 (by decide +kernel) ?_ | refine .mk 35 (by decide +kernel) ?_ | refine .mk 36 (by decide +kernel) ?_ | refine .mk 37 (by decide +kernel) ?_ | refine .mk 38 (by decide +kernel) ?_ | refine .mk 39 (by decide +kernel) ?_ | refine .mk 40 (by decide +kernel) ?_ | refine .mk 41 (by decide +kernel) ?_ | refine .mk 42 (by decide +kernel) ?_ | refine .mk 43 (by decide +kernel) ?_ | refine .mk 44 (by decide +kernel) ?_ | refine .mk 45 (by decide +kernel) ?_ | refine .mk 46 (by decide +kernel) ?_ | refine .mk 47 (by decide +kernel) ?_ | refine .mk 48 (by decide +kernel) ?_ | refine .mk 49 (by decide +kernel) ?_ | refine .mk 50 (by decide +kernel) ?_ | refine .mk 51 (by decide +kernel) ?_ | refine .mk 52 (by decide +kernel) ?_ | refine .mk 53 (by decide +kernel) ?_ | refine .mk 54 (by decide +kernel) ?_ | refine .mk 55 (by decide +kernel) ?_ | refine .mk 56 (by decide +kernel) ?_ | refine .mk 57 (by decide +kernel) ?_ | refine .mk 58 (by decide +kernel) ?_ | refine .mk 59 (by decide +kernel) ?_ | refine .mk 60 (by decide +kernel) ?_ | refine .mk 61 (by decide +kernel) ?_ | refine .mk 62 (by decide +kernel) ?_ | refine .mk 63 (by decide +kernel) ?_ | refine .mk 64 (by decide +kernel) ?_ | refine .mk 65 (by decide +kernel) ?_ | refine .mk 66 (by decide +kernel) ?_ | refine .mk 67 (by decide +kernel) ?_ | refine .mk 68 (by decide +kernel) ?_ | refine .mk 69 (by decide +kernel) ?_ | refine .mk 70 (by decide +kernel) ?_ | refine .mk 71 (by decide +kernel) ?_ | refine .mk 72 (by decide +kernel) ?_ | refine .mk 73 (by decide +kernel) ?_ | refine .mk 74 (by decide +kernel) ?_ | refine .mk 75 (by decide +kernel) ?_ | refine .mk 76 (by decide +kernel) ?_ | refine .mk 77 (by decide +kernel) ?_ | refine .mk 78 (by decide +kernel) ?_ | refine .mk 79 (by decide +kernel) ?_ | refine .mk 80 (by decide +kernel) ?_ | refine .mk 81 (by decide +kernel) ?_ | refine .mk 82 (by decide +kernel) ?_ | refine .mk 83 (by decide +kernel) ?_ | refine .mk 84 (by decide +kernel) ?_ | refine .mk 85 (by decide +kernel) ?_ | refine .mk 86 (by decide +kernel) ?_ | refine .mk 87 (by decide +kernel) ?_ | refine .mk 88 (by decide +kernel) ?_ | refine .mk 89 (by decide +kernel) ?_; conv => whnf)
      | (refine CALL0.cutBy lvMono _ _ _ _ _ (leL_refl _) (hb ..) rfl ?_; conv => whnf)
      | (refine CALL0.mk _ _ _ _ _ (leL_refl _) (hb ..) rfl ?_; conv => whnf)
      | (refine CALLQ.mk _ _ _ (leL_refl _) (hb ..) rfl ?_; conv => whnf)
      | (refine CALL0.cutBy lvMono _ _ _ _ _ (leL_refl _) (hB' ..) rfl ?_; conv => whnf)
      | (refine CALL0.mk _ _ _ _ _ (leL_refl _) (hB' ..) rfl ?_; conv => whnf)
      | (refine CALLQ.mk _ _ _ (leL_refl _) (hB' ..) rfl ?_; conv => whnf)
      | (refine CALL0.cutBy lvMono _ _ _ _ _ (leL_refl _) (hI' ..) rfl ?_; conv => whnf)
      | (refine CALL0.mk _ _ _ _ _ (leL_refl _) (hI' ..) rfl ?_; conv => whnf)
      | (refine CALLQ.mk _ _ _ (leL_refl _) (hI' ..) rfl ?_; conv => whnf)
    split
    · rename_i h
      exact Bool.noConfusion ((g0).symm.trans h)
    rename_i hN
    clear hN
    conv => whnf
    split
    · rename_i h
      exact Bool.noConfusion ((f3).symm.trans h)
    rename_i hN
    clear hN
    conv => whnf
    repeat first
      | (show DRAW _ _ _ _ _; first | refine .mk 0 (by decide +kernel) ?_ | refine .mk 1 (by decide +kernel) ?_ | refine .mk 2 (by decide +kernel) ?_ | refine .mk 3 (by decide +kernel) ?_ | refine .mk 4 (by decide +kernel) ?_ | refine .mk 5 (by decide +kernel) ?_ | refine .mk 6 (by decide +kernel) ?_ | refine .mk 7 (by decide +kernel) ?_ | refine .mk 8 (by decide +kernel) ?_ | refine .mk 9 (by decide +kernel) ?_ | refine .mk 10 (by decide +kernel) ?_ | refine .mk 11 (by decide +kernel) ?_ | refine .mk 12 (by decide +kernel) ?_ | refine .mk 13 (by decide +kernel) ?_ | refine .mk 14 (by decide +kernel) ?_ | refine .mk 15 (by decide +kernel) ?_ | refine .mk 16 (by decide +kernel) ?_ | refine .mk 17 (by decide +kernel) ?_ | refine .mk 18 (by decide +kernel) ?_ | refine .mk 19 (by decide +kernel) ?_ | refine .mk 20 (by decide +kernel) ?_ | refine .mk 21 (by decide +kernel) ?_ | refine .mk 22 (by decide +kernel) ?_ | refine .mk 23 (by decide +kernel) ?_ | refine .mk 24 (by decide +kernel) ?_ | refine .mk 25 (by decide +kernel) ?_ | refine .mk 26 (by decide +kernel) ?_ | refine .mk 27 (by decide +kernel) ?_ | refine .mk 28 (by decide +kernel) ?_ | refine .mk 29 (by decide +kernel) ?_ | refine .mk 30 (by decide +kernel) ?_ | refine .mk 31 (by decide +kernel) ?_ | refine .mk 32 (by decide +kernel) ?_ | refine .mk 33 (by decide +kernel) ?_ | refine .mk 34 (by decide +kernel) ?_ | refine .mk 35 (by decide +kernel) ?_ | refine .mk 36 (by decide +kernel) ?_ | refine .mk 37 (by decide +kernel) ?_ | refine .mk 38 (by decide +kernel) ?_ | refine .mk 39 (by decide +kernel) ?_ | refine .mk 40 (by decide +kernel) ?_ | refine .mk 41 (by decide +kernel) ?_ | refine .mk 42 (by decide +kernel) ?_ | refine .mk 43 (by decide +kernel) ?_ | refine .mk 44 (by decide +kernel) ?_ | refine .mk 45 (by decide +kernel) ?_ | refine .mk 46 (by decide +kernel) ?_ | refine .mk 47 (by decide +kernel) ?_ | refine .mk 48 (by decide +kernel) ?_ | refine .mk 49 (by decide +kernel) ?_ | refine .mk 50 (by decide +kernel) ?_ | refine .mk 51 (by decide +kernel) ?_ | refine .mk 52 (by decide +kernel) ?_ | refine .mk 53 (by decide +kernel) ?_ | refine .mk 54 (by decide +kernel) ?_ | refine .mk 55 (by decide +kernel) ?_ | refine .mk 56 (by decide +kernel) ?_ | refine .mk 57 (by decide +kernel) ?_ | refine .mk 58 (by decide +kernel) ?_ | refine .mk 59 (by decide +kernel) ?_ | refine .mk 60 (by decide +kernel) ?_ | refine .mk 61 (by decide +kernel) ?_ | refine .mk 62 (by decide +kernel) ?_ | refine .mk 63 (by decide +kernel) ?_ | refine .mk 64 (by decide +kernel) ?_ | refine .mk 65 (by decide +kernel) ?_ | refine .mk 66 (by decide +kernel) ?_ | refine .mk 67 (by decide +kernel) ?_ | refine .mk 68 (by decide +kernel) ?_ | refine .mk 69 (by decide +kernel) ?_ | refine .mk 70 (by decide +kernel) ?_ | refine .mk 71 (by decide +kernel) ?_ | refine .mk 72 (by decide +kernel) ?_ | refine .mk 73 (by decide +kernel) ?_ | refine .mk 74 (by decide +kernel) ?_ | refine .mk 75 (by decide +kernel) ?_ | refine .mk 76 (by decide +kernel) ?_ | refine .mk 77 (by decide +kernel) ?_ | refine .mk 78 (by decide +kernel) ?_ | refine .mk 79 (by decide +kernel) ?_ | refine .mk 80 (by decide +kernel) ?_ | refine .mk 81 (by decide +kernel) ?_ | refine .mk 82 (by decide +kernel) ?_ | refine .mk 83 (by decide +kernel) ?_ | refine .mk 84 (by decide +kernel) ?_ | refine .mk 85 (by decide +kernel) ?_ | refine .mk 86 (by decide +kernel) ?_ | refine .mk 87 (by decide +kernel) ?_ | refine .mk 88 (by decide +kernel) ?_ | refine .mk 89 (by decide +kernel) ?_; conv => whnf)
      | (refine CALL0.cutBy lvMono _ _ _ _ _ (leL_refl _) (hb ..) rfl ?_; conv => whnf)
      | (refine CALL0.mk _ _ _ _ _ (leL_refl _) (hb ..) rfl ?_; conv => whnf)
      | (refine CALLQ.mk _ _ _ (leL_refl _) (hb ..) rfl ?_; conv => whnf)
      | (refine CALL0.cutBy lvMono _ _ _ _ _ (leL_refl _) (hC' ..) rfl ?_; conv => whnf)
      | (refine CALL0.mk _ _ _ _ _ (leL_refl _) (hC' ..) rfl ?_; conv => whnf)
      | (refine CALLQ.mk _ _ _ (leL_refl _) (hC' ..) rfl ?_; conv => whnf)
    exact ⟨⟨k + 1, by omega⟩, ⟨⟨leV_int ek, leV_int (lastOf_succ (fun a => b.infl f i a (D + 1)) k).symm, leV_int (lastOf_succ (fun a => b.bal f i a (D + 1)) k).symm, leV_int (by rw [hacc]), leV_refl _, leV_refl _, leV_refl _, leV_refl _, leV_refl _, leV_refl _, leV_refl _, leV_refl _, trivial⟩, ⟨leL_refl _, leL_refl _, leL_refl _, leL_refl _, trivial⟩, rfl, rfl⟩, (by show H + 1 - (k + 1) < H + 1 - k; omega)⟩
  · have g0 : decide ((k : Int) > 0) = true := decide_eq_true (by omega)
    rw [decide_eq_false hk0, Bool.and_false] at f1 f2
    conv => whnf
    repeat first
      | (show DRAW _ _ _ _ _; first | refine .mk 0 (by decide +kernel) ?_ | refine .mk 1 (by decide +kernel) ?_ | refine .mk 2 (by decide +kernel) ?_ | refine .mk 3 (by decide +kernel) ?_ | refine .mk 4 (by decide +kernel) ?_ | refine .mk 5 (by decide +kernel) ?_ | refine .mk 6 (by decide +kernel) ?_ | refine .mk 7 (by decide +kernel) ?_ | refine .mk 8 (by decide +kernel) ?_ | refine .mk 9 (by decide +kernel) ?_ | refine .mk 10 (by decide +kernel) ?_ | refine .mk 11 (by decide +kernel) ?_ | refine .mk 12 (by decide +kernel) ?_ | refine .mk 13 (by decide +kernel) ?_ | refine .mk 14 (by decide +kernel) ?_ | refine .mk 15 (by decide +kernel) ?_ | refine .mk 16 (by decide +kernel) ?_ | refine .mk 17 (by decide +kernel) ?_ | refine .mk 18 (by decide +kernel) ?_ | refine .mk 19 (by decide +kernel) ?_ | refine .mk 20 (by decide +kernel) ?_ | refine .mk 21 (by decide +kernel) ?_ | refine .mk 22 (by decide +kernel) ?_ | refine .mk 23 (by decide +kernel) ?_ | refine .mk 24 (by decide +kernel) ?_ | refine .mk 25 (by decide +kernel) ?_ | refine .mk 26 (by decide +kernel) ?_ | refine .mk 27 (by decide +kernel) ?_ | refine .mk 28 (by decide +kernel) ?_ | refine .mk 29 (by decide +kernel) ?_ | refine .mk 30 (by decide +kernel) ?_ | refine .mk 31 (by decide +kernel) ?_ | refine .mk 32 (by decide +kernel) ?_ | refine .mk 33 (by decide +kernel) ?_ | refine .mk 34 (by decide +kernel) ?_ | refine .mk 35 (by decide +kernel) ?_ | refine .mk 36 (by decide +kernel) ?_ | refine .mk 37 (by decide +kernel) ?_ | refine .mk 38 (by decide +kernel) ?_ | refine .mk 39 (by decide +kernel) ?_ | refine .mk 40 (by decide +kernel) ?_ | refine .mk 41 (by decide +kernel) ?_ | refine .mk 42 (by decide +kernel) ?_ | refine .mk 43 (by decide +kernel) ?_ | refine .mk 44 (by decide +kernel) ?_ | refine .mk 45 (by decide +kernel) ?_ | refine .mk 46 (by decide +kernel) ?_ | refine .mk 47 (by decide +kernel) ?_ | refine .mk 48 (by decide +kernel) ?_ | refine .mk 49 (by decide +kernel) ?_ | refine .mk 50 (by decide +kernel) ?_ | refine .mk 51 (by decide +kernel) ?_ | refine .mk 52 (by decide +kernel) ?_ | refine .mk 53 (by decide +kernel) ?_ | refine .mk 54 (by decide +kernel) ?_ | refine .mk 55 (by decide +kernel) ?_ | refine .mk 56 (by decide +kernel) ?_ | refine .mk 57 (by decide +kernel) ?_ | refine .mk 58 (by decide +kernel) ?_ | refine .mk 59 (by decide +kernel) ?_ | refine .mk 60 (by decide +kernel) ?_ | refine .mk 61 (by decide +kernel) ?_ | refine .mk 62 (by decide +kernel) ?_ | refine .mk 63 (by decide +kernel) ?_ | refine .mk 64 (by decide +kernel) ?_ | refine .mk 65 (by decide +kernel) ?_ | refine .mk 66 (by decide +kernel) ?_ | refine .mk 67 (by decide +kernel) ?_ | refine .mk 68 (by decide +kernel) ?_ | refine .mk 69 (by decide +kernel) ?_ | refine .mk 70 (by decide +kernel) ?_ | refine .mk 71 (by decide +kernel) ?_ | refine .mk 72 (by decide +kernel) ?_ | refine .mk 73 (by decide +kernel) ?_ | refine .mk 74 (by decide +kernel) ?_ | refine .mk 75 (by decide +kernel) ?_ | refine .mk 76 (by decide +kernel) ?_ | refine .mk 77 (by decide +kernel) ?_ | refine .mk 78 (by decide +kernel) ?_ | refine .mk 79 (by decide +kernel) ?_ | refine .mk 80 (by decide +kernel) ?_ | refine .mk 81 (by decide +kernel) ?_ | refine .mk 82 (by decide +kernel) ?_ | refine .mk 83 (by decide +kernel) ?_ | refine .mk 84 (by decide +kernel) ?_ | refine .mk 85 (by decide +kernel) ?_ | refine .mk 86 (by decide +kernel) ?_ | refine .mk 87 (by decide +kernel) ?_ | refine .mk 88 (by decide +kernel) ?_ | refine .mk 89 (by decide +kernel) ?_; conv => whnf)
      | (refine CALL0.cutBy lvMono _ _ _ _ _ (leL_refl _) (hb ..) rfl ?_; conv => whnf)
      | (refine CALL0.mk _ _ _ _ _ (leL_refl _) (hb ..) rfl ?_; conv => whnf)
      | (refine CALLQ.mk _ _ _ (leL_refl _) (hb ..) rfl ?_; conv => whnf)
      | (refine CALL0.cutBy lvMono _ _ _ _ _ (leL_refl _) (hB' ..) rfl ?_; conv => whnf)
      | (refine CALL0.mk _ _ _ _ _ (leL_refl _) (hB' ..) rfl ?_; conv => whnf)
      | (refine CALLQ.mk _ _ _ (leL_refl _) (hB' ..) rfl ?_; conv => whnf)
      | (refine CALL0.cutBy lvMono _ _ _ _ _ (leL_refl _) (hI' ..) rfl ?_; conv => whnf)
      | (refine CALL0.mk _ _ _ _ _ (leL_refl _) (hI' ..) rfl ?_; conv => whnf)
      | (refine CALLQ.mk _ _ _ (leL_refl _) (hI' ..) rfl ?_; conv => whnf)
    split
    rotate_left
    · rename_i h
      exact Bool.noConfusion ((g0).symm.trans h)
    rename_i hN
    clear hN
    conv => whnf
    split
    · rename_i h
      exact Bool.noConfusion ((f1).symm.trans h)
    rename_i hN
    clear hN
    conv => whnf
    split
    · rename_i h
      exact Bool.noConfusion ((f2).symm.trans h)
    rename_i hN
    clear hN
    conv => whnf
    split
    · rename_i h
      exact Bool.noConfusion ((f3).symm.trans h)
    rename_i hN
    clear hN
    conv => whnf
    repeat first
      | (show DRAW _ _ _ _ _; first | refine .mk 0 (by decide +kernel) ?_ | refine .mk 1 (by decide +kernel) ?_ | refine .mk 2 (by decide +kernel) ?_ | refine .mk 3 (by decide +kernel) ?_ | refine .mk 4 (by decide +kernel) ?_ | refine .mk 5 (by decide +kernel) ?_ | refine .mk 6 (by decide +kernel) ?_ | refine .mk 7 (by decide +kernel) ?_ | refine .mk 8 (by decide +kernel) ?_ | refine .mk 9 (by decide +kernel) ?_ | refine .mk 10 (by decide +kernel) ?_ | refine .mk 11 (by decide +kernel) ?_ | refine .mk 12 (by decide +kernel) ?_ | refine .mk 13 (by decide +kernel) ?_ | refine .mk 14 (by decide +kernel) ?_ | refine .mk 15 (by decide +kernel) ?_ | refine .mk 16 (by decide +kernel) ?_ | refine .mk 17 (by decide +kernel) ?_ | refine .mk 18 (by decide +kernel) ?_ | refine .mk 19 (by decide +kernel) ?_ | refine .mk 20 (by decide +kernel) ?_ | refine .mk 21 (by decide +kernel) ?_ | refine .mk 22 (by decide +kernel) ?_ | refine .mk 23 (by decide +kernel) ?_ | refine .mk 24 (by decide +kernel) ?_ | refine .mk 25 (by decide +kernel) ?_ | refine .mk 26 (by decide +kernel) ?_ | refine .mk 27 (by decide +kernel) ?_ | refine .mk 28 (by decide +kernel) ?_ | refine .mk 29 (by decide +kernel) ?_ | refine .mk 30 (by decide +kernel) ?_ | refine .mk 31 (by decide +kernel) ?_ | refine .mk 32 (by decide +kernel) ?_ | refine .mk 33 (by decide +kernel) ?_ | refine .mk 34 (by decide +kernel) ?_ | refine .mk 35 (by decide +kernel) ?_ | refine .mk 36 (by decide +kernel) ?_ | refine .mk 37 (by decide +kernel) ?_ | refine .mk 38 (by decide +kernel) ?_ | refine .mk 39 (by decide +kernel) ?_ | refine .mk 40 (by decide +kernel) ?_ | refine .mk 41 (by decide +kernel) ?_ | refine .mk 42 (by decide +kernel) ?_ | refine .mk 43 (by decide +kernel) ?_ | refine .mk 44 (by decide +kernel) ?_ | refine .mk 45 (by decide +kernel) ?_ | refine .mk 46 (by decide +kernel) ?_ | refine .mk 47 (by decide +kernel) ?_ | refine .mk 48 (by decide +kernel) ?_ | refine .mk 49 (by decide +kernel) ?_ | refine .mk 50 (by decide +kernel) ?_ | refine .mk 51 (by decide +kernel) ?_ | refine .mk 52 (by decide +kernel) ?_ | refine .mk 53 (by decide +kernel) ?_ | refine .mk 54 (by decide +kernel) ?_ | refine .mk 55 (by decide +kernel) ?_ | refine .mk 56 (by decide +kernel) ?_ | refine .mk 57 (by decide +kernel) ?_ | refine .mk 58 (by decide +kernel) ?_ | refine .mk 59 (by decide +kernel) ?_ | refine .mk 60 (by decide +kernel) ?_ | refine .mk 61 (by decide +kernel) ?_ | refine .mk 62 (by decide +kernel) ?_ | refine .mk 63 (by decide +kernel) ?_ | refine .mk 64 (by decide +kernel) ?_ | refine .mk 65 (by decide +kernel) ?_ | refine .mk 66 (by decide +kernel) ?_ | refine .mk 67 (by decide +kernel) ?_ | refine .mk 68 (by decide +kernel) ?_ | refine .mk 69 (by decide +kernel) ?_ | refine .mk 70 (by decide +kernel) ?_ | refine .mk 71 (by decide +kernel) ?_ | refine .mk 72 (by decide +kernel) ?_ | refine .mk 73 (by decide +kernel) ?_ | refine .mk 74 (by decide +kernel) ?_ | refine .mk 75 (by decide +kernel) ?_ | refine .mk 76 (by decide +kernel) ?_ | refine .mk 77 (by decide +kernel) ?_ | refine .mk 78 (by decide +kernel) ?_ | refine .mk 79 (by decide +kernel) ?_ | refine .mk 80 (by decide +kernel) ?_ | refine .mk 81 (by decide +kernel) ?_ | refine .mk 82 (by decide +kernel) ?_ | refine .mk 83 (by decide +kernel) ?_ | refine .mk 84 (by decide +kernel) ?_ | refine .mk 85 (by decide +kernel) ?_ | refine .mk 86 (by decide +kernel) ?_ | refine .mk 87 (by decide +kernel) ?_ | refine .mk 88 (by decide +kernel) ?_ | refine .mk 89 (by decide +kernel) ?_; conv => whnf)
      | (refine CALL0.cutBy lvMono _ _ _ _ _ (leL_refl _) (hb ..) rfl ?_; conv => whnf)
      | (refine CALL0.mk _ _ _ _ _ (leL_refl _) (hb ..) rfl ?_; conv => whnf)
      | (refine CALLQ.mk _ _ _ (leL_refl _) (hb ..) rfl ?_; conv => whnf)
      | (refine CALL0.cutBy lvMono _ _ _ _ _ (leL_refl _) (hC' ..) rfl ?_; conv => whnf)
      | (refine CALL0.mk _ _ _ _ _ (leL_refl _) (hC' ..) rfl ?_; conv => whnf)
      | (refine CALLQ.mk _ _ _ (leL_refl _) (hC' ..) rfl ?_; conv => whnf)
    exact ⟨⟨k + 1, by omega⟩, ⟨⟨leV_int ek, leV_int (lastOf_succ (fun a => b.infl f i a (D + 1)) k).symm, leV_int (lastOf_succ (fun a => b.bal f i a (D + 1)) k).symm, leV_int (by rw [hacc]), leV_refl _, leV_refl _, leV_refl _, leV_refl _, leV_refl _, leV_refl _, leV_refl _, leV_refl _, trivial⟩, ⟨leL_refl _, leL_refl _, leL_refl _, leL_refl _, trivial⟩, rfl, rfl⟩, (by show H + 1 - (k + 1) < H + 1 - k; omega)⟩

set_option maxHeartbeats 8000000 in
theorem mono_some (up : List Ces) (hr : gl g_rotor_roots = rootsI) (hp : gl g_internal_strconv_uint64pow10 = powI) (b : Bl) (f : Fl) (hs : b.short = true) (ring a d x : Int) (i D H : Nat) (m : MonoOK b f ring i D H) (A : Int) (hbr : b.br f i D = some A) :
    Cs gl n_nacellelaw03_RotorMonotone up [b.iv, f.iv, .agg [.int .i64 ring, .int .i64 a, .int .i64 d, .int .i64 x, .int .i64 ((D + 1 : Nat) : Int)]] (.bool true) up := by
  have facts := m.facts
  have okA := m.g.all.2.2.2 i m.hi
  have isb : ∀ k : Nat, isBr b f i k (D + 1) = decide (A = k) := fun k => by
    cases h : isBr b f i k (D + 1) with
    | false =>
      symm
      refine decide_eq_false fun e => ?_
      rw [(isBr_iff okA (by omega)).2 (by rw [hbr, e])] at h
      cases h
    | true =>
      rw [isBr_iff okA (by omega), hbr] at h
      exact (decide_eq_true (Option.some.inj h)).symm
  obtain ⟨A0, A1, A2, A3⟩ := (brP_some okA).1 hbr
  have fin : 0 < b.bal f i H (D + 1) := by
    have h := m.hH
    rw [h]
    have hbr := hbr
    unfold Bl.br brP findS at hbr
    by_cases e : balP b.nl b.lf (b.r1 i) (b.r2 i) (b.r3 i) (b.r4 i) f.w f.s f.p (2 ^ D) (D + 1) ≤ 0
    · simp [e] at hbr
    · have : 0 < balP b.nl b.lf (b.r1 i) (b.r2 i) (b.r3 i) (b.r4 i) f.w f.s f.p (2 ^ D) (D + 1) := by omega
      exact this
  have hR := fun up => c_Refine (gl := gl) up b f i (b.at f i D) ((D + 1 : Nat) : Int)
  have eA : b.at f i D = A := by unfold Bl.at; rw [hbr]; rfl
  have hsm : (b.br f i D).isSome = true := by rw [hbr]; rfl
  have nx := at_next okA hsm
  obtain ⟨N, hN⟩ : ∃ N, N = b.at f i (D + 1) := ⟨_, rfl⟩
  have hD := m.hD
  rw [refineR_ok m.g m.hi (by omega) hsm, eA, ← hN] at hR
  rw [eA, ← hN] at nx
  obtain ⟨acc, hacc⟩ : ∃ acc : Nat → Int, acc = (fun k : Nat => if A < (k : Int) then (1 : Int) else 0) := ⟨(fun k : Nat => if A < (k : Int) then (1 : Int) else 0), rfl⟩
  have acc0 : acc 0 = 0 := by rw [hacc]; exact if_neg (by omega)
  have accS : ∀ k : Nat, ¬ A = k → acc k = acc (k + 1) := fun k hk => by
    rw [hacc]
    simp only
    by_cases h : A < k
    · rw [if_pos h, if_pos (by omega)]
    · rw [if_neg h, if_neg (by omega)]
  obtain ⟨er, her⟩ : ∃ er : Int, er = 0 := ⟨_, rfl⟩
  obtain ⟨aa, haa⟩ : ∃ aa : Int, aa = A := ⟨_, rfl⟩
  obtain ⟨ad, had⟩ : ∃ ad : Int, ad = ((D + 1 : Nat) : Int) := ⟨_, rfl⟩
  obtain ⟨hl, hd, hn⟩ := short_le hs
  obtain ⟨hnd, hn1, hn2, oks⟩ := m.g.all
  have ok := oks i m.hi
  have hH := m.hH
  have hpw := two_pos D
  have hpl := pow_le12 (d := D) (by have := m.hD; omega)
  have hS := fun up => c_Short (gl := gl) up b
  rw [hs] at hS
  have hA := fun up => c_awake (gl := gl) up hr hp
  have hb := fun up => c_blade (gl := gl) up b hl hd hn
  have hE1 := fun up => c_rCheckBlade (gl := gl) up b
  rw [m.g.be] at hE1
  have hE2 := fun up => c_rCheckFlow (gl := gl) up f.w f.s f.p
  rw [show flowS f.w f.s f.p = 0 from m.g.fe] at hE2
  have hD := m.hD
  have qd1 : decide (((D + 1 : Nat) : Int) < 1) = false := decide_eq_false (by omega)
  have qd2 : decide (((D + 1 : Nat) : Int) > 7) = false := decide_eq_false (by omega)
  have qn : ((b.nr : Int) != 0) = true := by simp; omega
  have eh : halfW ((D + 1 : Nat) : Int) = H := by have := halfW_eq (d := D + 1) (by omega) (by omega); rw [this, hH]; simp
  have e1 : w64 (((D + 1 : Nat) : Int) - 1) = (D : Int) := by rw [w64, wrap_in] <;> omega
  have q0 : decide (0 ≤ w64 (((D + 1 : Nat) : Int) - 1)) = true := decide_eq_true (by rw [e1]; omega)
  have hF := fun up => c_Find (gl := gl) up b f i ((D + 1 : Nat) : Int)
  rw [findR_ok m.g m.hi (show D < 12 by omega)] at hF
  have hB := fun (k : Nat) (hk : k ≤ H) up => g_Bal (gl := gl) up m.g m.hi (show D < 12 by omega) (a := (k : Int)) (by omega) (by omega)
  have hI := fun (k : Nat) (hk : k ≤ H) up => g_Inf (gl := gl) up m.g m.hi (show D < 12 by omega) (a := (k : Int)) (by omega) (by omega)
  have hC := fun (k : Nat) (hk : k ≤ H) up => g_Chk (gl := gl) up m.g m.hi (show D < 12 by omega) (a := (k : Int)) (by omega) (by omega)
  rw [hbr] at hF
  simp only at hF
  refine mk h_nacellelaw03_RotorMonotone rfl rfl ?_
  conv => whnf
  repeat first
    | (show DRAW _ _ _ _ _; first | refine .mk 0 (by decide +kernel) ?_ | refine .mk 1 (by decide +kernel) ?_ | refine .mk 2 (by decide +kernel) ?_ | refine .mk 3 (by decide +kernel) ?_ | refine .mk 4 (by decide +kernel) ?_ | refine .mk 5 (by decide +kernel) ?_ | refine .mk 6 (by decide +kernel) ?_ | refine .mk 7 (by decide +kernel) ?_ | refine .mk 8 (by decide +kernel) ?_ | refine .mk 9 (by decide +kernel) ?_ | refine .mk 10 (by decide +kernel) ?_ | refine .mk 11 (by decide +kernel) ?_ | refine .mk 12 (by decide +kernel) ?_ | refine .mk 13 (by decide +kernel) ?_ | refine .mk 14 (by decide +kernel) ?_ | refine .mk 15 (by decide +kernel) ?_ | refine .mk 16 (by decide +kernel) ?_ | refine .mk 17 (by decide +kernel) ?_ | refine .mk 18 (by decide +kernel) ?_ | refine .mk 19 (by decide +kernel) ?_ | refine .mk 20 (by decide +kernel) ?_ | refine .mk 21 (by decide +kernel) ?_ | refine .mk 22 (by decide +kernel) ?_ | refine .mk 23 (by decide +kernel) ?_ | refine .mk 24 (by decide +kernel) ?_ | refine .mk 25 (by decide +kernel) ?_ | refine .mk 26 (by decide +kernel) ?_ | refine .mk 27 (by decide +kernel) ?_ | refine .mk 28 (by decide +kernel) ?_ | refine .mk 29 (by decide +kernel) ?_ | refine .mk 30 (by decide +kernel) ?_ | refine .mk 31 (by decide +kernel) ?_ | refine .mk 32 (by decide +kernel) ?_ | refine .mk 33 (by decide +kernel) ?_ | refine .mk 34 (by decide +kernel) ?_ | refine .mk 35 (by decide +kernel) ?_ | refine .mk 36 (by decide +kernel) ?_ | refine .mk 37 (by decide +kernel) ?_ | refine .mk 38 (by decide +kernel) ?_ | refine .mk 39 (by decide +kernel) ?_ | refine .mk 40 (by decide +kernel) ?_ | refine .mk 41 (by decide +kernel) ?_ | refine .mk 42 (by decide +kernel) ?_ | refine .mk 43 (by decide +kernel) ?_ | refine .mk 44 (by decide +kernel) ?_ | refine .mk 45 (by decide +kernel) ?_ | refine .mk 46 (by decide +kernel) ?_ | refine .mk 47 (by decide +kernel) ?_ | refine .mk 48 (by decide +kernel) ?_ | refine .mk 49 (by decide +kernel) ?_ | refine .mk 50 (by decide +kernel) ?_ | refine .mk 51 (by decide +kernel) ?_ | refine .mk 52 (by decide +kernel) ?_ | refine .mk 53 (by decide +kernel) ?_ | refine .mk 54 (by decide +kernel) ?_ | refine .mk 55 (by decide +kernel) ?_ | refine .mk 56 (by decide +kernel) ?_ | refine .mk 57 (by decide +kernel) ?_ | refine .mk 58 (by decide +kernel) ?_ | refine .mk 59 (by decide +kernel) ?_ | refine .mk 60 (by decide +kernel) ?_ | refine .mk 61 (by decide +kernel) ?_ | refine .mk 62 (by decide +kernel) ?_ | refine .mk 63 (by decide +kernel) ?_ | refine .mk 64 (by decide +kernel) ?_ | refine .mk 65 (by decide +kernel) ?_ | refine .mk 66 (by decide +kernel) ?_ | refine .mk 67 (by decide +kernel) ?_ | refine .mk 68 (by decide +kernel) ?_ | refine .mk 69 (by decide +kernel) ?_ | refine .mk 70 (by decide +kernel) ?_ | refine .mk 71 (by decide +kernel) ?_ | refine .mk 72 (by decide +kernel) ?_ | refine .mk 73 (by decide +kernel) ?_ | refine .mk 74 (by decide +kernel) ?_ | refine .mk 75 (by decide +kernel) ?_ | refine .mk 76 (by decide +kernel) ?_ | refine .mk 77 (by decide +kernel) ?_ | refine .mk 78 (by decide +kernel) ?_ | refine .mk 79 (by decide +kernel) ?_ | refine .mk 80 (by decide +kernel) ?_ | refine .mk 81 (by decide +kernel) ?_ | refine .mk 82 (by decide +kernel) ?_ | refine .mk 83 (by decide +kernel) ?_ | refine .mk 84 (by decide +kernel) ?_ | refine .mk 85 (by decide +kernel) ?_ | refine .mk 86 (by decide +kernel) ?_ | refine .mk 87 (by decide +kernel) ?_ | refine .mk 88 (by decide +kernel) ?_ | refine .mk 89 (by decide +kernel) ?_; conv => whnf)
    | (refine CALL0.cutBy lvMono _ _ _ _ _ (leL_refl _) (hA ..) rfl ?_; conv => whnf)
    | (refine CALL0.mk _ _ _ _ _ (leL_refl _) (hA ..) rfl ?_; conv => whnf)
    | (refine CALLQ.mk _ _ _ (leL_refl _) (hA ..) rfl ?_; conv => whnf)
    | (refine CALL0.cutBy lvMono _ _ _ _ _ (leL_refl _) (hS ..) rfl ?_; conv => whnf)
    | (refine CALL0.mk _ _ _ _ _ (leL_refl _) (hS ..) rfl ?_; conv => whnf)
    | (refine CALLQ.mk _ _ _ (leL_refl _) (hS ..) rfl ?_; conv => whnf)
    | (refine CALL0.cutBy lvMono _ _ _ _ _ (leL_refl _) (hE1 ..) rfl ?_; conv => whnf)
    | (refine CALL0.mk _ _ _ _ _ (leL_refl _) (hE1 ..) rfl ?_; conv => whnf)
    | (refine CALLQ.mk _ _ _ (leL_refl _) (hE1 ..) rfl ?_; conv => whnf)
    | (refine CALL0.cutBy lvMono _ _ _ _ _ (leL_refl _) (hE2 ..) rfl ?_; conv => whnf)
    | (refine CALL0.mk _ _ _ _ _ (leL_refl _) (hE2 ..) rfl ?_; conv => whnf)
    | (refine CALLQ.mk _ _ _ (leL_refl _) (hE2 ..) rfl ?_; conv => whnf)
  split
  · rename_i h
    exact Bool.noConfusion ((qd2).symm.trans h)
  rename_i hN
  clear hN
  conv => whnf
  first
    | refine .mk 0 (by decide +kernel) ?_
    | refine .mk 1 (by decide +kernel) ?_
    | refine .mk 2 (by decide +kernel) ?_
    | refine .mk 3 (by decide +kernel) ?_
    | refine .mk 4 (by decide +kernel) ?_
    | refine .mk 5 (by decide +kernel) ?_
    | refine .mk 6 (by decide +kernel) ?_
    | refine .mk 7 (by decide +kernel) ?_
    | refine .mk 8 (by decide +kernel) ?_
    | refine .mk 9 (by decide +kernel) ?_
    | refine .mk 10 (by decide +kernel) ?_
    | refine .mk 11 (by decide +kernel) ?_
    | refine .mk 12 (by decide +kernel) ?_
    | refine .mk 13 (by decide +kernel) ?_
    | refine .mk 14 (by decide +kernel) ?_
    | refine .mk 15 (by decide +kernel) ?_
    | refine .mk 16 (by decide +kernel) ?_
    | refine .mk 17 (by decide +kernel) ?_
    | refine .mk 18 (by decide +kernel) ?_
    | refine .mk 19 (by decide +kernel) ?_
    | refine .mk 20 (by decide +kernel) ?_
    | refine .mk 21 (by decide +kernel) ?_
    | refine .mk 22 (by decide +kernel) ?_
    | refine .mk 23 (by decide +kernel) ?_
    | refine .mk 24 (by decide +kernel) ?_
    | refine .mk 25 (by decide +kernel) ?_
    | refine .mk 26 (by decide +kernel) ?_
    | refine .mk 27 (by decide +kernel) ?_
    | refine .mk 28 (by decide +kernel) ?_
    | refine .mk 29 (by decide +kernel) ?_
    | refine .mk 30 (by decide +kernel) ?_
    | refine .mk 31 (by decide +kernel) ?_
    | refine .mk 32 (by decide +kernel) ?_
    | refine .mk 33 (by decide +kernel) ?_
    | refine .mk 34 (by decide +kernel) ?_
    | refine .mk 35 (by decide +kernel) ?_
    | refine .mk 36 (by decide +kernel) ?_
    | refine .mk 37 (by decide +kernel) ?_
    | refine .mk 38 (by decide +kernel) ?_
    | refine .mk 39 (by decide +kernel) ?_
    | refine .mk 40 (by decide +kernel) ?_
    | refine .mk 41 (by decide +kernel) ?_
    | refine .mk 42 (by decide +kernel) ?_
    | refine .mk 43 (by decide +kernel) ?_
    | refine .mk 44 (by decide +kernel) ?_
    | refine .mk 45 (by decide +kernel) ?_
    | refine .mk 46 (by decide +kernel) ?_
    | refine .mk 47 (by decide +kernel) ?_
    | refine .mk 48 (by decide +kernel) ?_
    | refine .mk 49 (by decide +kernel) ?_
    | refine .mk 50 (by decide +kernel) ?_
    | refine .mk 51 (by decide +kernel) ?_
    | refine .mk 52 (by decide +kernel) ?_
    | refine .mk 53 (by decide +kernel) ?_
    | refine .mk 54 (by decide +kernel) ?_
    | refine .mk 55 (by decide +kernel) ?_
    | refine .mk 56 (by decide +kernel) ?_
    | refine .mk 57 (by decide +kernel) ?_
    | refine .mk 58 (by decide +kernel) ?_
    | refine .mk 59 (by decide +kernel) ?_
    | refine .mk 60 (by decide +kernel) ?_
    | refine .mk 61 (by decide +kernel) ?_
    | refine .mk 62 (by decide +kernel) ?_
    | refine .mk 63 (by decide +kernel) ?_
    | refine .mk 64 (by decide +kernel) ?_
    | refine .mk 65 (by decide +kernel) ?_
    | refine .mk 66 (by decide +kernel) ?_
    | refine .mk 67 (by decide +kernel) ?_
    | refine .mk 68 (by decide +kernel) ?_
    | refine .mk 69 (by decide +kernel) ?_
    | refine .mk 70 (by decide +kernel) ?_
    | refine .mk 71 (by decide +kernel) ?_
    | refine .mk 72 (by decide +kernel) ?_
    | refine .mk 73 (by decide +kernel) ?_
    | refine .mk 74 (by decide +kernel) ?_
    | refine .mk 75 (by decide +kernel) ?_
    | refine .mk 76 (by decide +kernel) ?_
    | refine .mk 77 (by decide +kernel) ?_
    | refine .mk 78 (by decide +kernel) ?_
    | refine .mk 79 (by decide +kernel) ?_
    | refine .mk 80 (by decide +kernel) ?_
    | refine .mk 81 (by decide +kernel) ?_
    | refine .mk 82 (by decide +kernel) ?_
    | refine .mk 83 (by decide +kernel) ?_
    | refine .mk 84 (by decide +kernel) ?_
    | refine .mk 85 (by decide +kernel) ?_
    | refine .mk 86 (by decide +kernel) ?_
    | refine .mk 87 (by decide +kernel) ?_
    | refine .mk 88 (by decide +kernel) ?_
    | refine .mk 89 (by decide +kernel) ?_
  conv => whnf
  split
  rotate_left
  · rename_i h
    exact Bool.noConfusion ((qn).symm.trans h)
  rename_i hN
  clear hN
  conv => whnf
  split
  rotate_left
  · rename_i h
    exact Bool.noConfusion ((qn).symm.trans h)
  rename_i hN
  clear hN
  conv => whnf
  split
  rotate_left
  · rename_i h
    exact Bool.noConfusion ((q0).symm.trans h)
  rename_i hN
  clear hN
  conv => whnf
  rw [m.er]
  repeat first
    | (show DRAW _ _ _ _ _; first | refine .mk 0 (by decide +kernel) ?_ | refine .mk 1 (by decide +kernel) ?_ | refine .mk 2 (by decide +kernel) ?_ | refine .mk 3 (by decide +kernel) ?_ | refine .mk 4 (by decide +kernel) ?_ | refine .mk 5 (by decide +kernel) ?_ | refine .mk 6 (by decide +kernel) ?_ | refine .mk 7 (by decide +kernel) ?_ | refine .mk 8 (by decide +kernel) ?_ | refine .mk 9 (by decide +kernel) ?_ | refine .mk 10 (by decide +kernel) ?_ | refine .mk 11 (by decide +kernel) ?_ | refine .mk 12 (by decide +kernel) ?_ | refine .mk 13 (by decide +kernel) ?_ | refine .mk 14 (by decide +kernel) ?_ | refine .mk 15 (by decide +kernel) ?_ | refine .mk 16 (by decide +kernel) ?_ | refine .mk 17 (by decide +kernel) ?_ | refine .mk 18 (by decide +kernel) ?_ | refine .mk 19 (by decide +kernel) ?_ | refine .mk 20 (by decide +kernel) ?_ | refine .mk 21 (by decide +kernel) ?_ | refine .mk 22 (by decide +kernel) ?_ | refine .mk 23 (by decide +kernel) ?_ | refine .mk 24 (by decide +kernel) ?_ | refine .mk 25 (by decide +kernel) ?_ | refine .mk 26 (by decide +kernel) ?_ | refine .mk 27 (by decide +kernel) ?_ | refine .mk 28 (by decide +kernel) ?_ | refine .mk 29 (by decide +kernel) ?_ | refine .mk 30 (by decide +kernel) ?_ | refine .mk 31 (by decide +kernel) ?_ | refine .mk 32 (by decide +kernel) ?_ | refine .mk 33 (by decide +kernel) ?_ | refine .mk 34 (by decide +kernel) ?_ | refine .mk 35 (by decide +kernel) ?_ | refine .mk 36 (by decide +kernel) ?_ | refine .mk 37 (by decide +kernel) ?_ | refine .mk 38 (by decide +kernel) ?_ | refine .mk 39 (by decide +kernel) ?_ | refine .mk 40 (by decide +kernel) ?_ | refine .mk 41 (by decide +kernel) ?_ | refine .mk 42 (by decide +kernel) ?_ | refine .mk 43 (by decide +kernel) ?_ | refine .mk 44 (by decide +kernel) ?_ | refine .mk 45 (by decide +kernel) ?_ | refine .mk 46 (by decide +kernel) ?_ | refine .mk 47 (by decide +kernel) ?_ | refine .mk 48 (by decide +kernel) ?_ | refine .mk 49 (by decide +kernel) ?_ | refine .mk 50 (by decide +kernel) ?_ | refine .mk 51 (by decide +kernel) ?_ | refine .mk 52 (by decide +kernel) ?_ | refine .mk 53 (by decide +kernel) ?_ | refine .mk 54 (by decide +kernel) ?_ | refine .mk 55 (by decide +kernel) ?_ | refine .mk 56 (by decide +kernel) ?_ | refine .mk 57 (by decide +kernel) ?_ | refine .mk 58 (by decide +kernel) ?_ | refine .mk 59 (by decide +kernel) ?_ | refine .mk 60 (by decide +kernel) ?_ | refine .mk 61 (by decide +kernel) ?_ | refine .mk 62 (by decide +kernel) ?_ | refine .mk 63 (by decide +kernel) ?_ | refine .mk 64 (by decide +kernel) ?_ | refine .mk 65 (by decide +kernel) ?_ | refine .mk 66 (by decide +kernel) ?_ | refine .mk 67 (by decide +kernel) ?_ | refine .mk 68 (by decide +kernel) ?_ | refine .mk 69 (by decide +kernel) ?_ | refine .mk 70 (by decide +kernel) ?_ | refine .mk 71 (by decide +kernel) ?_ | refine .mk 72 (by decide +kernel) ?_ | refine .mk 73 (by decide +kernel) ?_ | refine .mk 74 (by decide +kernel) ?_ | refine .mk 75 (by decide +kernel) ?_ | refine .mk 76 (by decide +kernel) ?_ | refine .mk 77 (by decide +kernel) ?_ | refine .mk 78 (by decide +kernel) ?_ | refine .mk 79 (by decide +kernel) ?_ | refine .mk 80 (by decide +kernel) ?_ | refine .mk 81 (by decide +kernel) ?_ | refine .mk 82 (by decide +kernel) ?_ | refine .mk 83 (by decide +kernel) ?_ | refine .mk 84 (by decide +kernel) ?_ | refine .mk 85 (by decide +kernel) ?_ | refine .mk 86 (by decide +kernel) ?_ | refine .mk 87 (by decide +kernel) ?_ | refine .mk 88 (by decide +kernel) ?_ | refine .mk 89 (by decide +kernel) ?_; conv => whnf)
    | (refine CALL0.cutBy lvMono _ _ _ _ _ (leL_refl _) (hb ..) rfl ?_; conv => whnf)
    | (refine CALL0.mk _ _ _ _ _ (leL_refl _) (hb ..) rfl ?_; conv => whnf)
    | (refine CALLQ.mk _ _ _ (leL_refl _) (hb ..) rfl ?_; conv => whnf)
  first | refine CALLQ.mk _ _ _ (leL_refl _) (hF _) rfl ?_ | refine CALL0.cutBy lvMono _ _ _ _ _ (leL_refl _) (hF _) rfl ?_ | refine CALL0.mk _ _ _ _ _ (leL_refl _) (hF _) rfl ?_
  conv => whnf
  refine .mk (α := {k : Nat // k ≤ H + 1}) (fun k => ⟨[(14, .int .i64 k.1), (13, .int .i64 (lastOf (fun a => b.infl f i a (D + 1)) k.1)), (12, .int .i64 (lastOf (fun a => b.bal f i a (D + 1)) k.1)), (11, .int .i64 (acc k.1)), (10, .int .i64 er), (8, .int .i64 H), (7, .int .i64 i), (6, .bool false), (3, .ptr 0 3 0), (4, .ptr 0 4 0), (5, .ptr 0 5 0), (9, .ptr 0 9 0)],
    [(9, [.int .i64 aa, .int .i64 ad]), (5, [.int .i64 ring, .int .i64 a, .int .i64 d, .int .i64 x, .int .i64 ((D + 1 : Nat) : Int)]), (4, [.int .i64 f.w, .int .i64 f.s, .int .i64 f.p]), (3, [.lst none 1 b.nl fun i => [.int .i64 (b.lf i)], .lst none 1 b.nd fun i => [.int .i64 (b.df i)], .lst none 4 b.nr fun i => [.int .i64 (b.r1 i), .int .i64 (b.r2 i), .int .i64 (b.r3 i), .int .i64 (b.r4 i)]])], up⟩) (fun k => H + 1 - k.1) ⟨0, Nat.zero_le _⟩ ⟨?_, ?_, rfl, rfl⟩ ?_
  · exact ⟨leV_refl _, leV_refl _, leV_refl _, leV_int acc0.symm, leV_int her.symm, leV_int eh, leV_refl _, leV_refl _, leV_refl _, leV_refl _, leV_refl _, leV_refl _, trivial⟩
  · exact ⟨⟨leV_int haa.symm, leV_int had.symm, trivial⟩, leL_refl _, leL_refl _, leL_refl _, trivial⟩
  rintro ⟨k, hk⟩
  conv => whnf
  split
  rotate_left
  · rename_i h
    have h : decide ((k : Int) ≤ (H : Int)) = false := h
    have hk2 : k = H + 1 := by have := of_decide_eq_false h; omega
    subst hk2
    have aH : acc (H + 1) = 1 := by rw [hacc]; exact if_pos (by omega)
    have q1 : (acc (H + 1) == 1) = true := by rw [aH]; rfl
    have q2 : decide (lastOf (fun a => b.bal f i a (D + 1)) (H + 1) > 0) = true := by rw [lastOf_succ]; exact decide_eq_true fin
    have q3 : (((D + 1 + 1 : Nat) : Int) == w64 (((D + 1 : Nat) : Int) + 1)) = true := by
      have : w64 (((D + 1 : Nat) : Int) + 1) = ((D + 1 + 1 : Nat) : Int) := by rw [w64, wrap_in] <;> omega
      rw [this]; simp
    have e2 : w64 (2 * A) = 2 * A := by rw [w64, wrap_in] <;> omega
    have e3 : w64 (w64 (2 * A) + 1) = 2 * A + 1 := by rw [e2, w64, wrap_in] <;> omega
    subst her
    subst haa
    subst had
    clear hacc accS
    conv => whnf
    repeat first
      | (show DRAW _ _ _ _ _; first | refine .mk 0 (by decide +kernel) ?_ | refine .mk 1 (by decide +kernel) ?_ | refine .mk 2 (by decide +kernel) ?_ | refine .mk 3 (by decide +kernel) ?_ | refine .mk 4 (by decide +kernel) ?_ | refine .mk 5 (by decide +kernel) ?_ | refine .mk 6 (by decide +kernel) ?_ | refine .mk 7 (by decide +kernel) ?_ | refine .mk 8 (by decide +kernel) ?_ | refine .mk 9 (by decide +kernel) ?_ | refine .mk 10 (by decide +kernel) ?_ | refine .mk 11 (by decide +kernel) ?_ | refine .mk 12 (by decide +kernel) ?_ | refine .mk 13 (by decide +kernel) ?_ | refine .mk 14 (by decide +kernel) ?_ | refine .mk 15 (by decide +kernel) ?_ | refine .mk 16 (by decide +kernel) ?_ | refine .mk 17 (by decide +kernel) ?_ | refine .mk 18 (by decide +kernel) ?_ | refine .mk 19 (by decide +kernel) ?_ | refine .mk 20 (by decide +kernel) ?_ | refine .mk 21 (by decide +kernel) ?_ | refine .mk 22 (by decide +kernel) ?_ | refine .mk 23 (by decide +kernel) ?_ | refine .mk 24 (by decide +kernel) ?_ | refine .mk 25 (by decide +kernel) ?_ | refine .mk 26 (by decide +kernel) ?_ | refine .mk 27 (by decide +kernel) ?_ | refine .mk 28 (by decide +kernel) ?_ | refine .mk 29 (by decide +kernel) ?_ | refine .mk 30 (by decide +kernel) ?_ | refine .mk 31 (by decide +kernel) ?_ | refine .mk 32 (by decide +kernel) ?_ | refine .mk 33 (by decide +kernel) ?_ | refine .mk 34 (by decide +kernel) ?_ | refine .mk 35 (by decide +kernel) ?_ | refine .mk 36 (by decide +kernel) ?_ | refine .mk 37 (by decide +kernel) ?_ | refine .mk 38 (by decide +kernel) ?_ | refine .mk 39 (by decide +kernel) ?_ | refine .mk 40 (by decide +kernel) ?_ | refine .mk 41 (by decide +kernel) ?_ | refine .mk 42 (by decide +kernel) ?_ | refine .mk 43 (by decide +kernel) ?_ | refine .mk 44 (by decide +kernel) ?_ | refine .mk 45 (by decide +kernel) ?_ | refine .mk 46 (by decide +kernel) ?_ | refine .mk 47 (by decide +kernel) ?_ | refine .mk 48 (by decide +kernel) ?_ | refine .mk 49 (by decide +kernel) ?_ | refine .mk 50 (by decide +kernel) ?_ | refine .mk 51 (by decide +kernel) ?_ | refine .mk 52 (by decide +kernel) ?_ | refine .mk 53 (by decide +kernel) ?_ | refine .mk 54 (by decide +kernel) ?_ | refine .mk 55 (by decide +kernel) ?_ | refine .mk 56 (by decide +kernel) ?_ | refine .mk 57 (by decide +kernel) ?_ | refine .mk 58 (by decide +kernel) ?_ | refine .mk 59 (by decide +kernel) ?_ | refine .mk 60 (by decide +kernel) ?_ | refine .mk 61 (by decide +kernel) ?_ | refine .mk 62 (by decide +kernel) ?_ | refine .mk 63 (by decide +kernel) ?_ | refine .mk 64 (by decide +kernel) ?_ | refine .mk 65 (by decide +kernel) ?_ | refine .mk 66 (by decide +kernel) ?_ | refine .mk 67 (by decide +kernel) ?_ | refine .mk 68 (by decide +kernel) ?_ | refine .mk 69 (by decide +kernel) ?_ | refine .mk 70 (by decide +kernel) ?_ | refine .mk 71 (by decide +kernel) ?_ | refine .mk 72 (by decide +kernel) ?_ | refine .mk 73 (by decide +kernel) ?_ | refine .mk 74 (by decide +kernel) ?_ | refine .mk 75 (by decide +kernel) ?_ | refine .mk 76 (by decide +kernel) ?_ | refine .mk 77 (by decide +kernel) ?_ | refine .mk 78 (by decide +kernel) ?_ | refine .mk 79 (by decide +kernel) ?_ | refine .mk 80 (by decide +kernel) ?_ | refine .mk 81 (by decide +kernel) ?_ | refine .mk 82 (by decide +kernel) ?_ | refine .mk 83 (by decide +kernel) ?_ | refine .mk 84 (by decide +kernel) ?_ | refine .mk 85 (by decide +kernel) ?_ | refine .mk 86 (by decide +kernel) ?_ | refine .mk 87 (by decide +kernel) ?_ | refine .mk 88 (by decide +kernel) ?_ | refine .mk 89 (by decide +kernel) ?_; conv => whnf)
      | (refine CALL0.cutBy lvMono _ _ _ _ _ (leL_refl _) (hb ..) rfl ?_; conv => whnf)
      | (refine CALL0.mk _ _ _ _ _ (leL_refl _) (hb ..) rfl ?_; conv => whnf)
      | (refine CALLQ.mk _ _ _ (leL_refl _) (hb ..) rfl ?_; conv => whnf)
      | (refine CALL0.cutBy lvMono _ _ _ _ _ (leL_refl _) (hR ..) rfl ?_; conv => whnf)
      | (refine CALL0.mk _ _ _ _ _ (leL_refl _) (hR ..) rfl ?_; conv => whnf)
      | (refine CALLQ.mk _ _ _ (leL_refl _) (hR ..) rfl ?_; conv => whnf)
    split
    rotate_left
    · rename_i h
      exact Bool.noConfusion ((q1).symm.trans h)
    rename_i hN
    clear hN
    conv => whnf
    split
    rotate_left
    · rename_i h
      exact Bool.noConfusion ((q2).symm.trans h)
    rename_i hN
    clear hN
    conv => whnf
    split
    rotate_left
    · rename_i h
      exact Bool.noConfusion ((q3).symm.trans h)
    rename_i hN
    clear hN
    conv => whnf
    by_cases hc : 0 < b.bal f i (2 * aa + 1) (D + 1 + 1)
    · rw [if_pos hc] at nx
      have q4 : (N == w64 (2 * aa)) = true := by rw [e2, nx]; simp
      split
      rotate_left
      · rename_i h
        exact Bool.noConfusion ((q4).symm.trans h)
      rename_i hN
      clear hN
      conv => whnf
      exact ⟨rfl, rfl⟩
    · rw [if_neg hc] at nx
      have q4 : (N == w64 (2 * aa)) = false := by rw [e2, nx]; simp; omega
      split
      · rename_i h
        exact Bool.noConfusion ((q4).symm.trans h)
      rename_i hN
      clear hN
      conv => whnf
      refine ⟨?_, rfl⟩
      show IV.bool (N == w64 (w64 (2 * aa) + 1)) = _
      rw [e3, nx]; simp
  rename_i h
  have h : decide ((k : Int) ≤ (H : Int)) = true := h
  have hkH : k ≤ H := by have := of_decide_eq_true h; omega
  clear h
  obtain ⟨f1, f2, f3⟩ := facts k hkH
  have hB' := hB k hkH
  have hI' := hI k hkH
  have hC' := hC k hkH
  rw [isb k] at hC'
  have ek : w64 ((k : Int) + 1) = ((k + 1 : Nat) : Int) := by rw [w64, wrap_in] <;> omega
  by_cases hkA : A = k
  · rw [decide_eq_true hkA] at hC'
    simp only [cond_true] at hC'
    have hx : (!((k : Int) == aa && (((D + 1 : Nat) : Int) == ad && true))) = false := by rw [haa, had, hkA]; simp
    have eac : w64 (acc k + 1) = acc (k + 1) := by
      rw [hacc]
      simp only
      rw [if_neg (by omega), if_pos (by omega)]; rfl
    by_cases hk0 : k = 0
    · have g0 : decide ((k : Int) > 0) = false := decide_eq_false (by omega)
      subst her
      conv => whnf
      repeat first
        | (show DRAW _ _ _ _ _; first | refine .mk 0 (by decide +kernel) ?_ | refine .mk 1 (by decide +kernel) ?_ | refine .mk 2 (by decide +kernel) ?_ | refine .mk 3 (by decide +kernel) ?_ | refine .mk 4 (by decide +kernel) ?_ | refine .mk 5 (by decide +kernel) ?_ | refine .mk 6 (by decide +kernel) ?_ | refine .mk 7 (by decide +kernel) ?_ | refine .mk 8 (by decide +kernel) ?_ | refine .mk 9 (by decide +kernel) ?_ | refine .mk 10 (by decide +kernel) ?_ | refine .mk 11 (by decide +kernel) ?_ | refine .mk 12 (by decide +kernel) ?_ | refine .mk 13 (by decide +kernel) ?_ | refine .mk 14 (by decide +kernel) ?_ | refine .mk 15 (by decide +kernel) ?_ | refine .mk 16 (by decide +kernel) ?_ | refine .mk 17 (by decide +kernel) ?_ | refine .mk 18 (by decide +kernel) ?_ | refine .mk 19 (by decide +kernel) ?_ | refine .mk 20 (by decide +kernel) ?_ | refine .mk 21 (by decide +kernel) ?_ | refine .mk 22 (by decide +kernel) ?_ | refine .mk 23 (by decide +kernel) ?_ | refine .mk 24 (by decide +kernel) ?_ | refine .mk 25 (by decide +kernel) ?_ | refine .mk 26 (by decide +kernel) ?_ | refine .mk 27 (by decide +kernel) ?_ | refine .mk 28 (by decide +kernel) ?_ | refine .mk 29 (by decide +kernel) ?_ | refine .mk 30 (by decide +kernel) ?_ | refine .mk 31 (by decide +kernel) ?_ | refine .mk 32 (by decide +kernel) ?_ | refine .mk 33 (by decide +kernel) ?_ | refine .mk 34 (by decide +kernel) ?_ | refine .mk 35 (by decide +kernel) ?_ | refine .mk 36 (by decide +kernel) ?_ | refine .mk 37 (by decide +kernel) ?_ | refine .mk 38 (by decide +kernel) ?_ | refine .mk 39 (by decide +kernel) ?_ | refine .mk 40 (by decide +kernel) ?_ | refine .mk 41 (by decide +kernel) ?_ | refine .mk 42 (by decide +kernel) ?_ | refine .mk 43 (by decide +kernel) ?_ | refine .mk 44 (by decide +kernel) ?_ | refine .mk 45 (by decide +kernel) ?_ | refine .mk 46 (by decide +kernel) ?_ | refine .mk 47 (by decide +kernel) ?_ | refine .mk 48 (by decide +kernel) ?_ | refine .mk 49 (by decide +kernel) ?_ | refine .mk 50 (by decide +kernel) ?_ | refine .mk 51 (by decide +kernel) ?_ | refine .mk 52 (by decide +kernel) ?_ | refine .mk 53 (by decide +kernel) ?_ | refine .mk 54 (by decide +kernel) ?_ | refine .mk 55 (by decide +kernel) ?_ | refine .mk 56 (by decide +kernel) ?_ | refine .mk 57 (by decide +kernel) ?_ | refine .mk 58 (by decide +kernel) ?_ | refine .mk 59 (by decide +kernel) ?_ | refine .mk 60 (by decide +kernel) ?_ | refine .mk 61 (by decide +kernel) ?_ | refine .mk 62 (by decide +kernel) ?_ | refine .mk 63 (by decide +kernel) ?_ | refine .mk 64 (by decide +kernel) ?_ | refine .mk 65 (by decide +kernel) ?_ | refine .mk 66 (by decide +kernel) ?_ | refine .mk 67 (by decide +kernel) ?_ | refine .mk 68 (by decide +kernel) ?_ | refine .mk 69 (by decide +kernel) ?_ | refine .mk 70 (by decide +kernel) ?_ | refine .mk 71 (by decide +kernel) ?_ | refine .mk 72 (by decide +kernel) ?_ | refine .mk 73 (by decide +kernel) ?_ | refine .mk 74 (by decide +kernel) ?_ | refine .mk 75 (by decide +kernel) ?_ | refine .mk 76 (by decide +kernel) ?_ | refine .mk 77 (by decide +kernel) ?_ | refine .mk 78 (by decide +kernel) ?_ | refine .mk 79 (by decide +kernel) ?_ | refine .mk 80 (by decide +kernel) ?_ | refine .mk 81 (by decide +kernel) ?_ | refine .mk 82 (by decide +kernel) ?_ | refine .mk 83 (by decide +kernel) ?_ | refine .mk 84 (by decide +kernel) ?_ | refine .mk 85 (by decide +kernel) ?_ | refine .mk 86 (by decide +kernel) ?_ | refine .mk 87 (by decide +kernel) ?_ | refine .mk 88 (by decide +kernel) ?_ | refine .mk 89 (by decide +kernel) ?_; conv => whnf)
        | (refine CALL0.cutBy lvMono _ _ _ _ _ (leL_refl _) (hb ..) rfl ?_; conv => whnf)
        | (refine CALL0.mk _ _ _ _ _ (leL_refl _) (hb ..) rfl ?_; conv => whnf)
        | (refine CALLQ.mk _ _ _ (leL_refl _) (hb ..) rfl ?_; conv => whnf)
        | (refine CALL0.cutBy lvMono _ _ _ _ _ (leL_refl _) (hB' ..) rfl ?_; conv => whnf)
        | (refine CALL0.mk _ _ _ _ _ (leL_refl _) (hB' ..) rfl ?_; conv => whnf)
        | (refine CALLQ.mk _ _ _ (leL_refl _) (hB' ..) rfl ?_; conv => whnf)
        | (refine CALL0.cutBy lvMono _ _ _ _ _ (leL_refl _) (hI' ..) rfl ?_; conv => whnf)
        | (refine CALL0.mk _ _ _ _ _ (leL_refl _) (hI' ..) rfl ?_; conv => whnf)
        | (refine CALLQ.mk _ _ _ (leL_refl _) (hI' ..) rfl ?_; conv => whnf)
      split
      · rename_i h
        exact Bool.noConfusion ((g0).symm.trans h)
      rename_i hN
      clear hN
      conv => whnf
      split
      · rename_i h
        exact Bool.noConfusion ((f3).symm.trans h)
      rename_i hN
      clear hN
      conv => whnf
      repeat first
        | (show DRAW _ _ _ _ _; first | refine .mk 0 (by decide +kernel) ?_ | refine .mk 1 (by decide +kernel) ?_ | refine .mk 2 (by decide +kernel) ?_ | refine .mk 3 (by decide +kernel) ?_ | refine .mk 4 (by decide +kernel) ?_ | refine .mk 5 (by decide +kernel) ?_ | refine .mk 6 (by decide +kernel) ?_ | refine .mk 7 (by decide +kernel) ?_ | refine .mk 8 (by decide +kernel) ?_ | refine .mk 9 (by decide +kernel) ?_ | refine .mk 10 (by decide +kernel) ?_ | refine .mk 11 (by decide +kernel) ?_ | refine .mk 12 (by decide +kernel) ?_ | refine .mk 13 (by decide +kernel) ?_ | refine .mk 14 (by decide +kernel) ?_ | refine .mk 15 (by decide +kernel) ?_ | refine .mk 16 (by decide +kernel) ?_ | refine .mk 17 (by decide +kernel) ?_ | refine .mk 18 (by decide +kernel) ?_ | refine .mk 19 (by decide +kernel) ?_ | refine .mk 20 (by decide +kernel) ?_ | refine .mk 21 (by decide +kernel) ?_ | refine .mk 22 (by decide +kernel) ?_ | refine .mk 23 (by decide +kernel) ?_ | refine .mk 24 (by decide +kernel) ?_ | refine .mk 25 (by decide +kernel) ?_ | refine .mk 26 (by decide +kernel) ?_ | refine .mk 27 (by decide +kernel) ?_ | refine .mk 28 (by decide +kernel) ?_ | refine .mk 29 (by decide +kernel) ?_ | refine .mk 30 (by decide +kernel) ?_ | refine .mk 31 (by decide +kernel) ?_ | refine .mk 32 (by decide +kernel) ?_ | refine .mk 33 (by decide +kernel) ?_ | refine .mk 34 (by decide +kernel) ?_ | refine .mk 35 (by decide +kernel) ?_ | refine .mk 36 (by decide +kernel) ?_ | refine .mk 37 (by decide +kernel) ?_ | refine .mk 38 (by decide +kernel) ?_ | refine .mk 39 (by decide +kernel) ?_ | refine .mk 40 (by decide +kernel) ?_ | refine .mk 41 (by decide +kernel) ?_ | refine .mk 42 (by decide +kernel) ?_ | refine .mk 43 (by decide +kernel) ?_ | refine .mk 44 (by decide +kernel) ?_ | refine .mk 45 (by decide +kernel) ?_ | refine .mk 46 (by decide +kernel) ?_ | refine .mk 47 (by decide +kernel) ?_ | refine .mk 48 (by decide +kernel) ?_ | refine .mk 49 (by decide +kernel) ?_ | refine .mk 50 (by decide +kernel) ?_ | refine .mk 51 (by decide +kernel) ?_ | refine .mk 52 (by decide +kernel) ?_ | refine .mk 53 (by decide +kernel) ?_ | refine .mk 54 (by decide +kernel) ?_ | refine .mk 55 (by decide +kernel) ?_ | refine .mk 56 (by decide +kernel) ?_ | refine .mk 57 (by decide +kernel) ?_ | refine .mk 58 (by decide +kernel) ?_ | refine .mk 59 (by decide +kernel) ?_ | refine .mk 60 (by decide +kernel) ?_ | refine .mk 61 (by decide +kernel) ?_ | refine .mk 62 (by decide +kernel) ?_ | refine .mk 63 (by decide +kernel) ?_ | refine .mk 64 (by decide +kernel) ?_ | refine .mk 65 (by decide +kernel) ?_ | refine .mk 66 (by decide +kernel) ?_ | refine .mk 67 (by decide +kernel) ?_ | refine .mk 68 (by decide +kernel) ?_ | refine .mk 69 (by decide +kernel) ?_ | refine .mk 70 (by decide +kernel) ?_ | refine .mk 71 (by decide +kernel) ?_ | refine .mk 72 (by decide +kernel) ?_ | refine .mk 73 (by decide +kernel) ?_ | refine .mk 74 (by decide +kernel) ?_ | refine .mk 75 (by decide +kernel) ?_ | refine .mk 76 (by decide +kernel) ?_ | refine .mk 77 (by decide +kernel) ?_ | refine .mk 78 (by decide +kernel) ?_ | refine .mk 79 (by decide +kernel) ?_ | refine .mk 80 (by decide +kernel) ?_ | refine .mk 81 (by decide +kernel) ?_ | refine .mk 82 (by decide +kernel) ?_ | refine .mk 83 (by decide +kernel) ?_ | refine .mk 84 (by decide +kernel) ?_ | refine .mk 85 (by decide +kernel) ?_ | refine .mk 86 (by decide +kernel) ?_ | refine .mk 87 (by decide +kernel) ?_ | refine .mk 88 (by decide +kernel) ?_ | refine .mk 89 (by decide +kernel) ?_; conv => whnf)
        | (refine CALL0.cutBy lvMono _ _ _ _ _ (leL_refl _) (hb ..) rfl ?_; conv => whnf)
        | (refine CALL0.mk _ _ _ _ _ (leL_refl _) (hb ..) rfl ?_; conv => whnf)
        | (refine CALLQ.mk _ _ _ (leL_refl _) (hb ..) rfl ?_; conv => whnf)
        | (refine CALL0.cutBy lvMono _ _ _ _ _ (leL_refl _) (hC' ..) rfl ?_; conv => whnf)
        | (refine CALL0.mk _ _ _ _ _ (leL_refl _) (hC' ..) rfl ?_; conv => whnf)
        | (refine CALLQ.mk _ _ _ (leL_refl _) (hC' ..) rfl ?_; conv => whnf)
      split
      · rename_i h
        exact Bool.noConfusion ((hx).symm.trans h)
      rename_i hN
      clear hN
      conv => whnf
      exact ⟨⟨k + 1, by omega⟩, ⟨⟨leV_int ek, leV_int (lastOf_succ (fun a => b.infl f i a (D + 1)) k).symm, leV_int (lastOf_succ (fun a => b.bal f i a (D + 1)) k).symm, leV_int (eac), leV_refl _, leV_refl _, leV_refl _, leV_refl _, leV_refl _, leV_refl _, leV_refl _, leV_refl _, trivial⟩, ⟨leL_refl _, leL_refl _, leL_refl _, leL_refl _, trivial⟩, rfl, rfl⟩, (by show H + 1 - (k + 1) < H + 1 - k; omega)⟩
    · have g0 : decide ((k : Int) > 0) = true := decide_eq_true (by omega)
      rw [decide_eq_false hk0, Bool.and_false] at f1 f2
      subst her
      conv => whnf
      repeat first
        | (show DRAW _ _ _ _ _; first | refine .mk 0 (by decide +kernel) ?_ | refine .mk 1 (by decide +kernel) ?_ | refine .mk 2 (by decide +kernel) ?_ | refine .mk 3 (by decide +kernel) ?_ | refine .mk 4 (by decide +kernel) ?_ | refine .mk 5 (by decide +kernel) ?_ | refine .mk 6 (by decide +kernel) ?_ | refine .mk 7 (by decide +kernel) ?_ | refine .mk 8 (by decide +kernel) ?_ | refine .mk 9 (by decide +kernel) ?_ | refine .mk 10 (by decide +kernel) ?_ | refine .mk 11 (by decide +kernel) ?_ | refine .mk 12 (by decide +kernel) ?_ | refine .mk 13 (by decide +kernel) ?_ | refine .mk 14 (by decide +kernel) ?_ | refine .mk 15 (by decide +kernel) ?_ | refine .mk 16 (by decide +kernel) ?_ | refine .mk 17 (by decide +kernel) ?_ | refine .mk 18 (by decide +kernel) ?_ | refine .mk 19 (by decide +kernel) ?_ | refine .mk 20 (by decide +kernel) ?_ | refine .mk 21 (by decide +kernel) ?_ | refine .mk 22 (by decide +kernel) ?_ | refine .mk 23 (by decide +kernel) ?_ | refine .mk 24 (by decide +kernel) ?_ | refine .mk 25 (by decide +kernel) ?_ | refine .mk 26 (by decide +kernel) ?_ | refine .mk 27 (by decide +kernel) ?_ | refine .mk 28 (by decide +kernel) ?_ | refine .mk 29 (by decide +kernel) ?_ | refine .mk 30 (by decide +kernel) ?_ | refine .mk 31 (by decide +kernel) ?_ | refine .mk 32 (by decide +kernel) ?_ | refine .mk 33 (by decide +kernel) ?_ | refine .mk 34 (by decide +kernel) ?_ | refine .mk 35 (by decide +kernel) ?_ | refine .mk 36 (by decide +kernel) ?_ | refine .mk 37 (by decide +kernel) ?_ | refine .mk 38 (by decide +kernel) ?_ | refine .mk 39 (by decide +kernel) ?_ | refine .mk 40 (by decide +kernel) ?_ | refine .mk 41 (by decide +kernel) ?_ | refine .mk 42 (by decide +kernel) ?_ | refine .mk 43 (by decide +kernel) ?_ | refine .mk 44 (by decide +kernel) ?_ | refine .mk 45 (by decide +kernel) ?_ | refine .mk 46 (by decide +kernel) ?_ | refine .mk 47 (by decide +kernel) ?_ | refine .mk 48 (by decide +kernel) ?_ | refine .mk 49 (by decide +kernel) ?_ | refine .mk 50 (by decide +kernel) ?_ | refine .mk 51 (by decide +kernel) ?_ | refine .mk 52 (by decide +kernel) ?_ | refine .mk 53 (by decide +kernel) ?_ | refine .mk 54 (by decide +kernel) ?_ | refine .mk 55 (by decide +kernel) ?_ | refine .mk 56 (by decide +kernel) ?_ | refine .mk 57 (by decide +kernel) ?_ | refine .mk 58 (by decide +kernel) ?_ | refine .mk 59 (by decide +kernel) ?_ | refine .mk 60 (by decide +kernel) ?_ | refine .mk 61 (by decide +kernel) ?_ | refine .mk 62 (by decide +kernel) ?_ | refine .mk 63 (by decide +kernel) ?_ | refine .mk 64 (by decide +kernel) ?_ | refine .mk 65 (by decide +kernel) ?_ | refine .mk 66 (by decide +kernel) ?_ | refine .mk 67 (by decide +kernel) ?_ | refine .mk 68 (by decide +kernel) ?_ | refine .mk 69 (by decide +kernel) ?_ | refine .mk 70 (by decide +kernel) ?_ | refine .mk 71 (by decide +kernel) ?_ | refine .mk 72 (by decide +kernel) ?_ | refine .mk 73 (by decide +kernel) ?_ | refine .mk 74 (by decide +kernel) ?_ | refine .mk 75 (by decide +kernel) ?_ | refine .mk 76 (by decide +kernel) ?_ | refine .mk 77 (by decide +kernel) ?_ | refine .mk 78 (by decide +kernel) ?_ | refine .mk 79 (by decide +kernel) ?_ | refine .mk 80 (by decide +kernel) ?_ | refine .mk 81 (by decide +kernel) ?_ | refine .mk 82 (by decide +kernel) ?_ | refine .mk 83 (by decide +kernel) ?_ | refine .mk 84 (by decide +kernel) ?_ | refine .mk 85 (by decide +kernel) ?_ | refine .mk 86 (by decide +kernel) ?_ | refine .mk 87 (by decide +kernel) ?_ | refine .mk 88 (by decide +kernel) ?_ | refine .mk 89 (by decide +kernel) ?_; conv => whnf)
        | (refine CALL0.cutBy lvMono _ _ _ _ _ (leL_refl _) (hb ..) rfl ?_; conv => whnf)
        | (refine CALL0.mk _ _ _ _ _ (leL_refl _) (hb ..) rfl ?_; conv => whnf)
        | (refine CALLQ.mk _ _ _ (leL_refl _) (hb ..) rfl ?_; conv => whnf)
        | (refine CALL0.cutBy lvMono _ _ _ _ _ (leL_refl _) (hB' ..) rfl ?_; conv => whnf)
        | (refine CALL0.mk _ _ _ _ _ (leL_refl _) (hB' ..) rfl ?_; conv => whnf)
        | (refine CALLQ.mk _ _ _ (leL_refl _) (hB' ..) rfl ?_; conv => whnf)
        | (refine CALL0.cutBy lvMono _ _ _ _ _ (leL_refl _) (hI' ..) rfl ?_; conv => whnf)
        | (refine CALL0.mk _ _ _ _ _ (leL_refl _) (hI' ..) rfl ?_; conv => whnf)
        | (refine CALLQ.mk _ _ _ (leL_refl _) (hI' ..) rfl ?_; conv => whnf)
      split
      rotate_left
      · rename_i h
        exact Bool.noConfusion ((g0).symm.trans h)
      rename_i hN
      clear hN
      conv => whnf
      split
      · rename_i h
        exact Bool.noConfusion ((f1).symm.trans h)
      rename_i hN
      clear hN
      conv => whnf
      split
      · rename_i h
        exact Bool.noConfusion ((f2).symm.trans h)
      rename_i hN
      clear hN
      conv => whnf
      split
      · rename_i h
        exact Bool.noConfusion ((f3).symm.trans h)
      rename_i hN
      clear hN
      conv => whnf
      repeat first
        | (show DRAW _ _ _ _ _; first | refine .mk 0 (by decide +kernel) ?_ | refine .mk 1 (by decide +kernel) ?_ | refine .mk 2 (by decide +kernel) ?_ | refine .mk 3 (by decide +kernel) ?_ | refine .mk 4 (by decide +kernel) ?_ | refine .mk 5 (by decide +kernel) ?_ | refine .mk 6 (by decide +kernel) ?_ | refine .mk 7 (by decide +kernel) ?_ | refine .mk 8 (by decide +kernel) ?_ | refine .mk 9 (by decide +kernel) ?_ | refine .mk 10 (by decide +kernel) ?_ | refine .mk 11 (by decide +kernel) ?_ | refine .mk 12 (by decide +kernel) ?_ | refine .mk 13 (by decide +kernel) ?_ | refine .mk 14 (by decide +kernel) ?_ | refine .mk 15 (by decide +kernel) ?_ | refine .mk 16 (by decide +kernel) ?_ | refine .mk 17 (by decide +kernel) ?_ | refine .mk 18 (by decide +kernel) ?_ | refine .mk 19 (by decide +kernel) ?_ | refine .mk 20 (by decide +kernel) ?_ | refine .mk 21 (by decide +kernel) ?_ | refine .mk 22 (by decide +kernel) ?_ | refine .mk 23 (by decide +kernel) ?_ | refine .mk 24 (by decide +kernel) ?_ | refine .mk 25 (by decide +kernel) ?_ | refine .mk 26 (by decide +kernel) ?_ | refine .mk 27 (by decide +kernel) ?_ | refine .mk 28 (by decide +kernel) ?_ | refine .mk 29 (by decide +kernel) ?_ | refine .mk 30 (by decide +kernel) ?_ | refine .mk 31 (by decide +kernel) ?_ | refine .mk 32 (by decide +kernel) ?_ | refine .mk 33 (by decide +kernel) ?_ | refine .mk 34 (by decide +kernel) ?_ | refine .mk 35 (by decide +kernel) ?_ | refine .mk 36 (by decide +kernel) ?_ | refine .mk 37 (by decide +kernel) ?_ | refine .mk 38 (by decide +kernel) ?_ | refine .mk 39 (by decide +kernel) ?_ | refine .mk 40 (by decide +kernel) ?_ | refine .mk 41 (by decide +kernel) ?_ | refine .mk 42 (by decide +kernel) ?_ | refine .mk 43 (by decide +kernel) ?_ | refine .mk 44 (by decide +kernel) ?_ | refine .mk 45 (by decide +kernel) ?_ | refine .mk 46 (by decide +kernel) ?_ | refine .mk 47 (by decide +kernel) ?_ | refine .mk 48 (by decide +kernel) ?_ | refine .mk 49 (by decide +kernel) ?_ | refine .mk 50 (by decide +kernel) ?_ | refine .mk 51 (by decide +kernel) ?_ | refine .mk 52 (by decide +kernel) ?_ | refine .mk 53 (by decide +kernel) ?_ | refine .mk 54 (by decide +kernel) ?_ | refine .mk 55 (by decide +kernel) ?_ | refine .mk 56 (by decide +kernel) ?_ | refine .mk 57 (by decide +kernel) ?_ | refine .mk 58 (by decide +kernel) ?_ | refine .mk 59 (by decide +kernel) ?_ | refine .mk 60 (by decide +kernel) ?_ | refine .mk 61 (by decide +kernel) ?_ | refine .mk 62 (by decide +kernel) ?_ | refine .mk 63 (by decide +kernel) ?_ | refine .mk 64 (by decide +kernel) ?_ | refine .mk 65 (by decide +kernel) ?_ | refine .mk 66 (by decide +kernel) ?_ | refine .mk 67 (by decide +kernel) ?_ | refine .mk 68 (by decide +kernel) ?_ | refine .mk 69 (by decide +kernel) ?_ | refine .mk 70 (by decide +kernel) ?_ | refine .mk 71 (by decide +kernel) ?_ | refine .mk 72 (by decide +kernel) ?_ | refine .mk 73 (by decide +kernel) ?_ | refine .mk 74 (by decide +kernel) ?_ | refine .mk 75 (by decide +kernel) ?_ | refine .mk 76 (by decide +kernel) ?_ | refine .mk 77 (by decide +kernel) ?_ | refine .mk 78 (by decide +kernel) ?_ | refine .mk 79 (by decide +kernel) ?_ | refine .mk 80 (by decide +kernel) ?_ | refine .mk 81 (by decide +kernel) ?_ | refine .mk 82 (by decide +kernel) ?_ | refine .mk 83 (by decide +kernel) ?_ | refine .mk 84 (by decide +kernel) ?_ | refine .mk 85 (by decide +kernel) ?_ | refine .mk 86 (by decide +kernel) ?_ | refine .mk 87 (by decide +kernel) ?_ | refine .mk 88 (by decide +kernel) ?_ | refine .mk 89 (by decide +kernel) ?_; conv => whnf)
        | (refine CALL0.cutBy lvMono _ _ _ _ _ (leL_refl _) (hb ..) rfl ?_; conv => whnf)
        | (refine CALL0.mk _ _ _ _ _ (leL_refl _) (hb ..) rfl ?_; conv => whnf)
        | (refine CALLQ.mk _ _ _ (leL_refl _) (hb ..) rfl ?_; conv => whnf)
        | (refine CALL0.cutBy lvMono _ _ _ _ _ (leL_refl _) (hC' ..) rfl ?_; conv => whnf)
        | (refine CALL0.mk _ _ _ _ _ (leL_refl _) (hC' ..) rfl ?_; conv => whnf)
        | (refine CALLQ.mk _ _ _ (leL_refl _) (hC' ..) rfl ?_; conv => whnf)
      split
      · rename_i h
        exact Bool.noConfusion ((hx).symm.trans h)
      rename_i hN
      clear hN
      conv => whnf
      exact ⟨⟨k + 1, by omega⟩, ⟨⟨leV_int ek, leV_int (lastOf_succ (fun a => b.infl f i a (D + 1)) k).symm, leV_int (lastOf_succ (fun a => b.bal f i a (D + 1)) k).symm, leV_int (eac), leV_refl _, leV_refl _, leV_refl _, leV_refl _, leV_refl _, leV_refl _, leV_refl _, leV_refl _, trivial⟩, ⟨leL_refl _, leL_refl _, leL_refl _, leL_refl _, trivial⟩, rfl, rfl⟩, (by show H + 1 - (k + 1) < H + 1 - k; omega)⟩
  · rw [decide_eq_false hkA] at hC'
    simp only [cond_false] at hC'
    have eac := accS k hkA
    by_cases hk0 : k = 0
    · have g0 : decide ((k : Int) > 0) = false := decide_eq_false (by omega)
      conv => whnf
      repeat first
        | (show DRAW _ _ _ _ _; first | refine .mk 0 (by decide +kernel) ?_ | refine .mk 1 (by decide +kernel) ?_ | refine .mk 2 (by decide +kernel) ?_ | refine .mk 3 (by decide +kernel) ?_ | refine .mk 4 (by decide +kernel) ?_ | refine .mk 5 (by decide +kernel) ?_ | refine .mk 6 (by decide +kernel) ?_ | refine .mk 7 (by decide +kernel) ?_ | refine .mk 8 (by decide +kernel) ?_ | refine .mk 9 (by decide +kernel) ?_ | refine .mk 10 (by decide +kernel) ?_ | refine .mk 11 (by decide +kernel) ?_ | refine .mk 12 (by decide +kernel) ?_ | refine .mk 13 (by decide +kernel) ?_ | refine .mk 14 (by decide +kernel) ?_ | refine .mk 15 (by decide +kernel) ?_ | refine .mk 16 (by decide +kernel) ?_ | refine .mk 17 (by decide +kernel) ?_ | refine .mk 18 (by decide +kernel) ?_ | refine .mk 19 (by decide +kernel) ?_ | refine .mk 20 (by decide +kernel) ?_ | refine .mk 21 (by decide +kernel) ?_ | refine .mk 22 (by decide +kernel) ?_ | refine .mk 23 (by decide +kernel) ?_ | refine .mk 24 (by decide +kernel) ?_ | refine .mk 25 (by decide +kernel) ?_ | refine .mk 26 (by decide +kernel) ?_ | refine .mk 27 (by decide +kernel) ?_ | refine .mk 28 (by decide +kernel) ?_ | refine .mk 29 (by decide +kernel) ?_ | refine .mk 30 (by decide +kernel) ?_ | refine .mk 31 (by decide +kernel) ?_ | refine .mk 32 (by decide +kernel) ?_ | refine .mk 33 (by decide +kernel) ?_ | refine .mk 34 (by decide +kernel) ?_ | refine .mk 35 (by decide +kernel) ?_ | refine .mk 36 (by decide +kernel) ?_ | refine .mk 37 (by decide +kernel) ?_ | refine .mk 38 (by decide +kernel) ?_ | refine .mk 39 (by decide +kernel) ?_ | refine .mk 40 (by decide +kernel) ?_ | refine .mk 41 (by decide +kernel) ?_ | refine .mk 42 (by decide +kernel) ?_ | refine .mk 43 (by decide +kernel) ?_ | refine .mk 44 (by decide +kernel) ?_ | refine .mk 45 (by decide +kernel) ?_ | refine .mk 46 (by decide +kernel) ?_ | refine .mk 47 (by decide +kernel) ?_ | refine .mk 48 (by decide +kernel) ?_ | refine .mk 49 (by decide +kernel) ?_ | refine .mk 50 (by decide +kernel) ?_ | refine .mk 51 (by decide +kernel) ?_ | refine .mk 52 (by decide +kernel) ?_ | refine .mk 53 (by decide +kernel) ?_ | refine .mk 54 (by decide +kernel) ?_ | refine .mk 55 (by decide +kernel) ?_ | refine .mk 56 (by decide +kernel) ?_ | refine .mk 57 (by decide +kernel) ?_ | refine .mk 58 (by decide +kernel) ?_ | refine .mk 59 (by decide +kernel) ?_ | refine .mk 60 (by decide +kernel) ?_ | refine .mk 61 (by decide +kernel) ?_ | refine .mk 62 (by decide +kernel) ?_ | refine .mk 63 (by decide +kernel) ?_ | refine .mk 64 (by decide +kernel) ?_ | refine .mk 65 (by decide +kernel) ?_ | refine .mk 66 (by decide +kernel) ?_ | refine .mk 67 (by decide +kernel) ?_ | refine .mk 68 (by decide +kernel) ?_ | refine .mk 69 (by decide +kernel) ?_ | refine .mk 70 (by decide +kernel) ?_ | refine .mk 71 (by decide +kernel) ?_ | refine .mk 72 (by decide +kernel) ?_ | refine .mk 73 (by decide +kernel) ?_ | refine .mk 74 (by decide +kernel) ?_ | refine .mk 75 (by decide +kernel) ?_ | refine .mk 76 (by decide +kernel) ?_ | refine .mk 77 (by decide +kernel) ?_ | refine .mk 78 (by decide +kernel) ?_ | refine .mk 79 (by decide +kernel) ?_ | refine .mk 80 (by decide +kernel) ?_ | refine .mk 81 (by decide +kernel) ?_ | refine .mk 82 (by decide +kernel) ?_ | refine .mk 83 (by decide +kernel) ?_ | refine .mk 84 (by decide +kernel) ?_ | refine .mk 85 (by decide +kernel) ?_ | refine .mk 86 (by decide +kernel) ?_ | refine .mk 87 (by decide +kernel) ?_ | refine .mk 88 (by decide +kernel) ?_ | refine .mk 89 (by decide +kernel) ?_; conv => whnf)
        | (refine CALL0.cutBy lvMono _ _ _ _ _ (leL_refl _) (hb ..) rfl ?_; conv => whnf)
        | (refine CALL0.mk _ _ _ _ _ (leL_refl _) (hb ..) rfl ?_; conv => whnf)
        | (refine CALLQ.mk _ _ _ (leL_refl _) (hb ..) rfl ?_; conv => whnf)
        | (refine CALL0.cutBy lvMono _ _ _ _ _ (leL_refl _) (hB' ..) rfl ?_; conv => whnf)
        | (refine CALL0.mk _ _ _ _ _ (leL_refl _) (hB' ..) rfl ?_; conv => whnf)
        | (refine CALLQ.mk _ _ _ (leL_refl _) (hB' ..) rfl ?_; conv => whnf)
        | (refine CALL0.cutBy lvMono _ _ _ _ _ (leL_refl _) (hI' ..) rfl ?_; conv => whnf)
        | (refine CALL0.mk _ _ _ _ _ (leL_refl _) (hI' ..) rfl ?_; conv => whnf)
        | (refine CALLQ.mk _ _ _ (leL_refl _) (hI' ..) rfl ?_; conv => whnf)
      split
      · rename_i h
        exact Bool.noConfusion ((g0).symm.trans h)
      rename_i hN
      clear hN
      conv => whnf
      split
      · rename_i h
        exact Bool.noConfusion ((f3).symm.trans h)
      rename_i hN
      clear hN
      conv => whnf
      repeat first
        | (show DRAW _ _ _ _ _; first | refine .mk 0 (by decide +kernel) ?_ | refine .mk 1 (by decide +kernel) ?_ | refine .mk 2 (by decide +kernel) ?_ | refine .mk 3 (by decide +kernel) ?_ | refine .mk 4 (by decide +kernel) ?_ | refine .mk 5 (by decide +kernel) ?_ | refine .mk 6 (by decide +kernel) ?_ | refine .mk 7 (by decide +kernel) ?_ | refine .mk 8 (by decide +kernel) ?_ | refine .mk 9 (by decide +kernel) ?_ | refine .mk 10 (by decide +kernel) ?_ | refine .mk 11 (by decide +kernel) ?_ | refine .mk 12 (by decide +kernel) ?_ | refine .mk 13 (by decide +kernel) ?_ | refine .mk 14 (by decide +kernel) ?_ | refine .mk 15 (by decide +kernel) ?_ | refine .mk 16 (by decide +kernel) ?_ | refine .mk 17 (by decide +kernel) ?_ | refine .mk 18 (by decide +kernel) ?_ | refine .mk 19 (by decide +kernel) ?_ | refine .mk 20 (by decide +kernel) ?_ | refine .mk 21 (by decide +kernel) ?_ | refine .mk 22 (by decide +kernel) ?_ | refine .mk 23 (by decide +kernel) ?_ | refine .mk 24 (by decide +kernel) ?_ | refine .mk 25 (by decide +kernel) ?_ | refine .mk 26 (by decide +kernel) ?_ | refine .mk 27 (by decide +kernel) ?_ | refine .mk 28 (by decide +kernel) ?_ | refine .mk 29 (by decide +kernel) ?_ | refine .mk 30 (by decide +kernel) ?_ | refine .mk 31 (by decide +kernel) ?_ | refine .mk 32 (by decide +kernel) ?_ | refine .mk 33 (by decide +kernel) ?_ | refine .mk 34 (by decide +kernel) ?_ | refine .mk 35 (by decide +kernel) ?_ | refine .mk 36 (by decide +kernel) ?_ | refine .mk 37 (by decide +kernel) ?_ | refine .mk 38 (by decide +kernel) ?_ | refine .mk 39 (by decide +kernel) ?_ | refine .mk 40 (by decide +kernel) ?_ | refine .mk 41 (by decide +kernel) ?_ | refine .mk 42 (by decide +kernel) ?_ | refine .mk 43 (by decide +kernel) ?_ | refine .mk 44 (by decide +kernel) ?_ | refine .mk 45 (by decide +kernel) ?_ | refine .mk 46 (by decide +kernel) ?_ | refine .mk 47 (by decide +kernel) ?_ | refine .mk 48 (by decide +kernel) ?_ | refine .mk 49 (by decide +kernel) ?_ | refine .mk 50 (by decide +kernel) ?_ | refine .mk 51 (by decide +kernel) ?_ | refine .mk 52 (by decide +kernel) ?_ | refine .mk 53 (by decide +kernel) ?_ | refine .mk 54 (by decide +kernel) ?_ | refine .mk 55 (by decide +kernel) ?_ | refine .mk 56 (by decide +kernel) ?_ | refine .mk 57 (by decide +kernel) ?_ | refine .mk 58 (by decide +kernel) ?_ | refine .mk 59 (by decide +kernel) ?_ | refine .mk 60 (by decide +kernel) ?_ | refine .mk 61 (by decide +kernel) ?_ | refine .mk 62 (by decide +kernel) ?_ | refine .mk 63 (by decide +kernel) ?_ | refine .mk 64 (by decide +kernel) ?_ | refine .mk 65 (by decide +kernel) ?_ | refine .mk 66 (by decide +kernel) ?_ | refine .mk 67 (by decide +kernel) ?_ | refine .mk 68 (by decide +kernel) ?_ | refine .mk 69 (by decide +kernel) ?_ | refine .mk 70 (by decide +kernel) ?_ | refine .mk 71 (by decide +kernel) ?_ | refine .mk 72 (by decide +kernel) ?_ | refine .mk 73 (by decide +kernel) ?_ | refine .mk 74 (by decide +kernel) ?_ | refine .mk 75 (by decide +kernel) ?_ | refine .mk 76 (by decide +kernel) ?_ | refine .mk 77 (by decide +kernel) ?_ | refine .mk 78 (by decide +kernel) ?_ | refine .mk 79 (by decide +kernel) ?_ | refine .mk 80 (by decide +kernel) ?_ | refine .mk 81 (by decide +kernel) ?_ | refine .mk 82 (by decide +kernel) ?_ | refine .mk 83 (by decide +kernel) ?_ | refine .mk 84 (by decide +kernel) ?_ | refine .mk 85 (by decide +kernel) ?_ | refine .mk 86 (by decide +kernel) ?_ | refine .mk 87 (by decide +kernel) ?_ | refine .mk 88 (by decide +kernel) ?_ | refine .mk 89 (by decide +kernel) ?_; conv => whnf)
        | (refine CALL0.cutBy lvMono _ _ _ _ _ (leL_refl _) (hb ..) rfl ?_; conv => whnf)
        | (refine CALL0.mk _ _ _ _ _ (leL_refl _) (hb ..) rfl ?_; conv => whnf)
        | (refine CALLQ.mk _ _ _ (leL_refl _) (hb ..) rfl ?_; conv => whnf)
        | (refine CALL0.cutBy lvMono _ _ _ _ _ (leL_refl _) (hC' ..) rfl ?_; conv => whnf)
        | (refine CALL0.mk _ _ _ _ _ (leL_refl _) (hC' ..) rfl ?_; conv => whnf)
        | (refine CALLQ.mk _ _ _ (leL_refl _) (hC' ..) rfl ?_; conv => whnf)
      exact ⟨⟨k + 1, by omega⟩, ⟨⟨leV_int ek, leV_int (lastOf_succ (fun a => b.infl f i a (D + 1)) k).symm, leV_int (lastOf_succ (fun a => b.bal f i a (D + 1)) k).symm, leV_int (eac), leV_refl _, leV_refl _, leV_refl _, leV_refl _, leV_refl _, leV_refl _, leV_refl _, leV_refl _, trivial⟩, ⟨leL_refl _, leL_refl _, leL_refl _, leL_refl _, trivial⟩, rfl, rfl⟩, (by show H + 1 - (k + 1) < H + 1 - k; omega)⟩
    · have g0 : decide ((k : Int) > 0) = true := decide_eq_true (by omega)
      rw [decide_eq_false hk0, Bool.and_false] at f1 f2
      conv => whnf
      repeat first
        | (show DRAW _ _ _ _ _; first | refine .mk 0 (by decide +kernel) ?_ | refine .mk 1 (by decide +kernel) ?_ | refine .mk 2 (by decide +kernel) ?_ | refine .mk 3 (by decide +kernel) ?_ | refine .mk 4 (by decide +kernel) ?_ | refine .mk 5 (by decide +kernel) ?_ | refine .mk 6 (by decide +kernel) ?_ | refine .mk 7 (by decide +kernel) ?_ | refine .mk 8 (by decide +kernel) ?_ | refine .mk 9 (by decide +kernel) ?_ | refine .mk 10 (by decide +kernel) ?_ | refine .mk 11 (by decide +kernel) ?_ | refine .mk 12 (by decide +kernel) ?_ | refine .mk 13 (by decide +kernel) ?_ | refine .mk 14 (by decide +kernel) ?_ | refine .mk 15 (by decide +kernel) ?_ | refine .mk 16 (by decide +kernel) ?_ | refine .mk 17 (by decide +kernel) ?_ | refine .mk 18 (by decide +kernel) ?_ | refine .mk 19 (by decide +kernel) ?_ | refine .mk 20 (by decide +kernel) ?_ | refine .mk 21 (by decide +kernel) ?_ | refine .mk 22 (by decide +kernel) ?_ | refine .mk 23 (by decide +kernel) ?_ | refine .mk 24 (by decide +kernel) ?_ | refine .mk 25 (by decide +kernel) ?_ | refine .mk 26 (by decide +kernel) ?_ | refine .mk 27 (by decide +kernel) ?_ | refine .mk 28 (by decide +kernel) ?_ | refine .mk 29 (by decide +kernel) ?_ | refine .mk 30 (by decide +kernel) ?_ | refine .mk 31 (by decide +kernel) ?_ | refine .mk 32 (by decide +kernel) ?_ | refine .mk 33 (by decide +kernel) ?_ | refine .mk 34 (by decide +kernel) ?_ | refine .mk 35 (by decide +kernel) ?_ | refine .mk 36 (by decide +kernel) ?_ | refine .mk 37 (by decide +kernel) ?_ | refine .mk 38 (by decide +kernel) ?_ | refine .mk 39 (by decide +kernel) ?_ | refine .mk 40 (by decide +kernel) ?_ | refine .mk 41 (by decide +kernel) ?_ | refine .mk 42 (by decide +kernel) ?_ | refine .mk 43 (by decide +kernel) ?_ | refine .mk 44 (by decide +kernel) ?_ | refine .mk 45 (by decide +kernel) ?_ | refine .mk 46 (by decide +kernel) ?_ | refine .mk 47 (by decide +kernel) ?_ | refine .mk 48 (by decide +kernel) ?_ | refine .mk 49 (by decide +kernel) ?_ | refine .mk 50 (by decide +kernel) ?_ | refine .mk 51 (by decide +kernel) ?_ | refine .mk 52 (by decide +kernel) ?_ | refine .mk 53 (by decide +kernel) ?_ | refine .mk 54 (by decide +kernel) ?_ | refine .mk 55 (by decide +kernel) ?_ | refine .mk 56 (by decide +kernel) ?_ | refine .mk 57 (by decide +kernel) ?_ | refine .mk 58 (by decide +kernel) ?_ | refine .mk 59 (by decide +kernel) ?_ | refine .mk 60 (by decide +kernel) ?_ | refine .mk 61 (by decide +kernel) ?_ | refine .mk 62 (by decide +kernel) ?_ | refine .mk 63 (by decide +kernel) ?_ | refine .mk 64 (by decide +kernel) ?_ | refine .mk 65 (by decide +kernel) ?_ | refine .mk 66 (by decide +kernel) ?_ | refine .mk 67 (by decide +kernel) ?_ | refine .mk 68 (by decide +kernel) ?_ | refine .mk 69 (by decide +kernel) ?_ | refine .mk 70 (by decide +kernel) ?_ | refine .mk 71 (by decide +kernel) ?_ | refine .mk 72 (by decide +kernel) ?_ | refine .mk 73 (by decide +kernel) ?_ | refine .mk 74 (by decide +kernel) ?_ | refine .mk 75 (by decide +kernel) ?_ | refine .mk 76 (by decide +kernel) ?_ | refine .mk 77 (by decide +kernel) ?_ | refine .mk 78 (by decide +kernel) ?_ | refine .mk 79 (by decide +kernel) ?_ | refine .mk 80 (by decide +kernel) ?_ | refine .mk 81 (by decide +kernel) ?_ | refine .mk 82 (by decide +kernel) ?_ | refine .mk 83 (by decide +kernel) ?_ | refine .mk 84 (by decide +kernel) ?_ | refine .mk 85 (by decide +kernel) ?_ | refine .mk 86 (by decide +kernel) ?_ | refine .mk 87 (by decide +kernel) ?_ | refine .mk 88 (by decide +kernel) ?_ | refine .mk 89 (by decide +kernel) ?_; conv => whnf)
        | (refine CALL0.cutBy lvMono _ _ _ _ _ (leL_refl _) (hb ..) rfl ?_; conv => whnf)
        | (refine CALL0.mk _ _ _ _ _ (leL_refl _) (hb ..) rfl ?_; conv => whnf)
        | (refine CALLQ.mk _ _ _ (leL_refl _) (hb ..) rfl ?_; conv => whnf)
        | (refine CALL0.cutBy lvMono _ _ _ _ _ (leL_refl _) (hB' ..) rfl ?_; conv => whnf)
        | (refine CALL0.mk _ _ _ _ _ (leL_refl _) (hB' ..) rfl ?_; conv => whnf)
        | (refine CALLQ.mk _ _ _ (leL_refl _) (hB' ..) rfl ?_; conv => whnf)
        | (refine CALL0.cutBy lvMono _ _ _ _ _ (leL_refl _) (hI' ..) rfl ?_; conv => whnf)
        | (refine CALL0.mk _ _ _ _ _ (leL_refl _) (hI' ..) rfl ?_; conv => whnf)
        | (refine CALLQ.mk _ _ _ (leL_refl _) (hI' ..) rfl ?_; conv => whnf)
      split
      rotate_left
      · rename_i h
        exact Bool.noConfusion ((g0).symm.trans h)
      rename_i hN
      clear hN
      conv => whnf
      split
      · rename_i h
        exact Bool.noConfusion ((f1).symm.trans h)
      rename_i hN
      clear hN
      conv => whnf
      split
      · rename_i h
        exact Bool.noConfusion ((f2).symm.trans h)
      rename_i hN
      clear hN
      conv => whnf
      split
      · rename_i h
        exact Bool.noConfusion ((f3).symm.trans h)
      rename_i hN
      clear hN
      conv => whnf
      repeat first
        | (show DRAW _ _ _ _ _; first | refine .mk 0 (by decide +kernel) ?_ | refine .mk 1 (by decide +kernel) ?_ | refine .mk 2 (by decide +kernel) ?_ | refine .mk 3 (by decide +kernel) ?_ | refine .mk 4 (by decide +kernel) ?_ | refine .mk 5 (by decide +kernel) ?_ | refine .mk 6 (by decide +kernel) ?_ | refine .mk 7 (by decide +kernel) ?_ | refine .mk 8 (by decide +kernel) ?_ | refine .mk 9 (by decide +kernel) ?_ | refine .mk 10 (by decide +kernel) ?_ | refine .mk 11 (by decide +kernel) ?_ | refine .mk 12 (by decide +kernel) ?_ | refine .mk 13 (by decide +kernel) ?_ | refine .mk 14 (by decide +kernel) ?_ | refine .mk 15 (by decide +kernel) ?_ | refine .mk 16 (by decide +kernel) ?_ | refine .mk 17 (by decide +kernel) ?_ | refine .mk 18 (by decide +kernel) ?_ | refine .mk 19 (by decide +kernel) ?_ | refine .mk 20 (by decide +kernel) ?_ | refine .mk 21 (by decide +kernel) ?_ | refine .mk 22 (by decide +kernel) ?_ | refine .mk 23 (by decide +kernel) ?_ | refine .mk 24 (by decide +kernel) ?_ | refine .mk 25 (by decide +kernel) ?_ | refine .mk 26 (by decide +kernel) ?_ | refine .mk 27 (by decide +kernel) ?_ | refine .mk 28 (by decide +kernel) ?_ | refine .mk 29 (by decide +kernel) ?_ | refine .mk 30 (by decide +kernel) ?_ | refine .mk 31 (by decide +kernel) ?_ | refine .mk 32 (by decide +kernel) ?_ | refine .mk 33 (by decide +kernel) ?_ | refine .mk 34 (by decide +kernel) ?_ | refine .mk 35 (by decide +kernel) ?_ | refine .mk 36 (by decide +kernel) ?_ | refine .mk 37 (by decide +kernel) ?_ | refine .mk 38 (by decide +kernel) ?_ | refine .mk 39 (by decide +kernel) ?_ | refine .mk 40 (by decide +kernel) ?_ | refine .mk 41 (by decide +kernel) ?_ | refine .mk 42 (by decide +kernel) ?_ | refine .mk 43 (by decide +kernel) ?_ | refine .mk 44 (by decide +kernel) ?_ | refine .mk 45 (by decide +kernel) ?_ | refine .mk 46 (by decide +kernel) ?_ | refine .mk 47 (by decide +kernel) ?_ | refine .mk 48 (by decide +kernel) ?_ | refine .mk 49 (by decide +kernel) ?_ | refine .mk 50 (by decide +kernel) ?_ | refine .mk 51 (by decide +kernel) ?_ | refine .mk 52 (by decide +kernel) ?_ | refine .mk 53 (by decide +kernel) ?_ | refine .mk 54 (by decide +kernel) ?_ | refine .mk 55 (by decide +kernel) ?_ | refine .mk 56 (by decide +kernel) ?_ | refine .mk 57 (by decide +kernel) ?_ | refine .mk 58 (by decide +kernel) ?_ | refine .mk 59 (by decide +kernel) ?_ | refine .mk 60 (by decide +kernel) ?_ | refine .mk 61 (by decide +kernel) ?_ | refine .mk 62 (by decide +kernel) ?_ | refine .mk 63 (by decide +kernel) ?_ | refine .mk 64 (by decide +kernel) ?_ | refine .mk 65 (by decide +kernel) ?_ | refine .mk 66 (by decide +kernel) ?_ | refine .mk 67 (by decide +kernel) ?_ | refine .mk 68 (by decide +kernel) ?_ | refine .mk 69 (by decide +kernel) ?_ | refine .mk 70 (by decide +kernel) ?_ | refine .mk 71 (by decide +kernel) ?_ | refine .mk 72 (by decide +kernel) ?_ | refine .mk 73 (by decide +kernel) ?_ | refine .mk 74 (by decide +kernel) ?_ | refine .mk 75 (by decide +kernel) ?_ | refine .mk 76 (by decide +kernel) ?_ | refine .mk 77 (by decide +kernel) ?_ | refine .mk 78 (by decide +kernel) ?_ | refine .mk 79 (by decide +kernel) ?_ | refine .mk 80 (by decide +kernel) ?_ | refine .mk 81 (by decide +kernel) ?_ | refine .mk 82 (by decide +kernel) ?_ | refine .mk 83 (by decide +kernel) ?_ | refine .mk 84 (by decide +kernel) ?_ | refine .mk 85 (by decide +kernel) ?_ | refine .mk 86 (by decide +kernel) ?_ | refine .mk 87 (by decide +kernel) ?_ | refine .mk 88 (by decide +kernel) ?_ | refine .mk 89 (by decide +kernel) ?_; conv => whnf)
        | (refine CALL0.cutBy lvMono _ _ _ _ _ (leL_refl _) (hb ..) rfl ?_; conv => whnf)
        | (refine CALL0.mk _ _ _ _ _ (leL_refl _) (hb ..) rfl ?_; conv => whnf)
        | (refine CALLQ.mk _ _ _ (leL_refl _) (hb ..) rfl ?_; conv => whnf)
        | (refine CALL0.cutBy lvMono _ _ _ _ _ (leL_refl _) (hC' ..) rfl ?_; conv => whnf)
        | (refine CALL0.mk _ _ _ _ _ (leL_refl _) (hC' ..) rfl ?_; conv => whnf)
        | (refine CALLQ.mk _ _ _ (leL_refl _) (hC' ..) rfl ?_; conv => whnf)
      exact ⟨⟨k + 1, by omega⟩, ⟨⟨leV_int ek, leV_int (lastOf_succ (fun a => b.infl f i a (D + 1)) k).symm, leV_int (lastOf_succ (fun a => b.bal f i a (D + 1)) k).symm, leV_int (eac), leV_refl _, leV_refl _, leV_refl _, leV_refl _, leV_refl _, leV_refl _, leV_refl _, leV_refl _, trivial⟩, ⟨leL_refl _, leL_refl _, leL_refl _, leL_refl _, trivial⟩, rfl, rfl⟩, (by show H + 1 - (k + 1) < H + 1 - k; omega)⟩

theorem c_RotorMonotone (up : List Ces) (hr : gl g_rotor_roots = rootsI) (hp : gl g_internal_strconv_uint64pow10 = powI) (b : Bl) (f : Fl) (ring a d x D : Int) :
    Cs gl n_nacellelaw03_RotorMonotone up [b.iv, f.iv, .agg [.int .i64 ring, .int .i64 a, .int .i64 d, .int .i64 x, .int .i64 D]] (.bool true) up := by
  by_cases h : b.short = true ∧ b.err = 0 ∧ f.err = 0 ∧ 1 ≤ D ∧ D ≤ 7
  rotate_left
  · exact mono_no up hr hp b f ring a d x D h
  obtain ⟨hs, be, fe, d1, d2⟩ := h
  obtain ⟨n, rfl⟩ : ∃ n : Nat, D = ((n + 1 : Nat) : Int) := ⟨(D - 1).toNat, by omega⟩
  obtain ⟨hnd, hn1, hn2, oks⟩ := (Good.mk be fe).all
  have h1 := Int.tmod_lt_of_pos ring (show (0 : Int) < b.nr by omega)
  have h3 := Int.tmod_lt_of_pos (-ring) (show (0 : Int) < b.nr by omega)
  rw [Int.neg_tmod] at h3
  have ew : w64 (ring.tmod b.nr + b.nr) = ring.tmod b.nr + b.nr := by rw [w64, wrap_in] <;> omega
  have hm0 : 0 ≤ (ring.tmod b.nr + b.nr).tmod b.nr := Int.tmod_nonneg _ (by omega)
  have hm1 := Int.tmod_lt_of_pos (ring.tmod b.nr + b.nr) (show (0 : Int) < b.nr by omega)
  have m : MonoOK b f ring ((ring.tmod b.nr + b.nr).tmod b.nr).toNat n (2 ^ n) := ⟨⟨be, fe⟩, by omega, by omega, by simp, by
    show (w64 (ring.tmod b.nr + b.nr)).tmod b.nr = _
    rw [ew]; omega⟩
  cases hbr : b.br f ((ring.tmod b.nr + b.nr).tmod b.nr).toNat n with
  | none => exact mono_none up hr hp b f hs ring a d x _ n _ m hbr
  | some A => exact mono_some up hr hp b f hs ring a d x _ n _ m A hbr
end Go.Proofs.YtllmejkmogepjaaDoor.Ix

/-
  IxSh2: pairs, loads, whole numbers that fit their shapes.
-/
namespace Go.Proofs.YtllmejkmogepjaaDoor.Ix

abbrev pairShp : Shp := .agg [(1, intS), (1, intS)]
abbrev tripShp : Shp := .agg [(1, intS), (1, intS), (1, intS)]

theorem fit_int {v : IV} (h : FitV intS v) : ∃ n, v = .int .i64 n := by
  obtain ⟨m, h, _⟩ := h
  exact ⟨m, (List.cons.inj h).1⟩

theorem fit_pair {v : IV} (h : FitV pairShp v) : ∃ a b, v = .agg [.int .i64 a, .int .i64 b] := by
  obtain ⟨xs, rfl, h⟩ := h
  have := fit_ints 2 xs h
  exact ⟨intAt xs 0, intAt xs 1, by rw [this]; simp [intAt, List.range, List.range.loop]⟩

theorem fit_trip {v : IV} (h : FitV tripShp v) : ∃ a b c, v = .agg [.int .i64 a, .int .i64 b, .int .i64 c] := by
  obtain ⟨xs, rfl, h⟩ := h
  have := fit_ints 3 xs h
  exact ⟨intAt xs 0, intAt xs 1, intAt xs 2, by rw [this]; simp [intAt, List.range, List.range.loop]⟩

theorem cells2 {ys : List IV} (h : Fit pairShp ys) : ∃ a b, ys = [.int .i64 a, .int .i64 b] := by
  have := fit_ints 2 ys h
  exact ⟨intAt ys 0, intAt ys 1, by rw [this]; simp [intAt, List.range, List.range.loop]⟩
theorem cells3 {ys : List IV} (h : Fit tripShp ys) : ∃ a b c, ys = [.int .i64 a, .int .i64 b, .int .i64 c] := by
  have := fit_ints 3 ys h
  exact ⟨intAt ys 0, intAt ys 1, intAt ys 2, by rw [this]; simp [intAt, List.range, List.range.loop]⟩
theorem cells1 {ys : List IV} (h : Fit intS ys) : ∃ a, ys = [.int .i64 a] := by
  obtain ⟨m, rfl, _⟩ := h
  exact ⟨m, rfl⟩

theorem fit_loads {v : IV} (h : FitV (.agg [(3, .agg [(1, intS), (1, intS), (1, intS)]), (1, intS), (2, .agg [(1, intS), (1, intS)])]) v) :
    ∃ p q r s t u, v = .agg [.int .i64 p, .int .i64 q, .int .i64 r, .int .i64 s, .int .i64 t, .int .i64 u] := by
  obtain ⟨xs, rfl, h⟩ := h
  simp only [FitL] at h
  obtain ⟨y1, z1, rfl, _, h1, y2, z2, rfl, _, h2, y3, z3, rfl, _, h3, rfl⟩ := h
  obtain ⟨p, q, r, rfl⟩ := cells3 h1
  obtain ⟨s, rfl⟩ := cells1 h2
  obtain ⟨t, u, rfl⟩ := cells2 h3
  exact ⟨p, q, r, s, t, u, rfl⟩

theorem fit_spot {v : IV} (h : FitV (.agg [(1, intS), (2, .agg [(1, intS), (1, intS)]), (1, intS), (1, intS)]) v) :
    ∃ p q r s t, v = .agg [.int .i64 p, .int .i64 q, .int .i64 r, .int .i64 s, .int .i64 t] := by
  obtain ⟨xs, rfl, h⟩ := h
  simp only [FitL] at h
  obtain ⟨y1, z1, rfl, _, h1, y2, z2, rfl, _, h2, y3, z3, rfl, _, h3, y4, z4, rfl, _, h4, rfl⟩ := h
  obtain ⟨p, rfl⟩ := cells1 h1
  obtain ⟨q, r, rfl⟩ := cells2 h2
  obtain ⟨s, rfl⟩ := cells1 h3
  obtain ⟨t, rfl⟩ := cells1 h4
  exact ⟨p, q, r, s, t, rfl⟩

theorem fit_quad {v : IV} (h : FitV (.agg [(1, intS), (1, intS), (1, intS), (1, intS)]) v) : ∃ p q r s, v = .agg [.int .i64 p, .int .i64 q, .int .i64 r, .int .i64 s] := by
  obtain ⟨xs, rfl, h⟩ := h
  have := fit_ints 4 xs h
  exact ⟨intAt xs 0, intAt xs 1, intAt xs 2, intAt xs 3, by rw [this]; simp [intAt, List.range, List.range.loop]⟩

theorem fit_slice3 {v : IV} (h : FitV (.slice 3 tripShp) v) : ∃ (n : Nat) (x y z : Nat → Int), n ≤ maxLen ∧ leV v (.lst none 3 n fun i => [.int .i64 (x i), .int .i64 (y i), .int .i64 (z i)]) := by
  obtain ⟨n, f, h, hn, hf⟩ := h
  obtain rfl := (List.cons.inj h).1
  refine ⟨n, fun i => intAt (f i) 0, fun i => intAt (f i) 1, fun i => intAt (f i) 2, hn, .inl rfl, rfl, rfl, fun i hi => ?_⟩
  obtain ⟨_, hf⟩ := hf i hi
  exact fit_ints 3 (f i) hf
end Go.Proofs.YtllmejkmogepjaaDoor.Ix
