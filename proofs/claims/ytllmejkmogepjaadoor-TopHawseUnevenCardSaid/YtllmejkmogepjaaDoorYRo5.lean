/-
  Ro5: contracts of the functions of the package rotor, the fifth part: the rings of a blade one after another, their sums, the torque and the thrust of a blade.
-/
import Derived.Test.YtllmejkmogepjaaDoorYRo4
namespace Go.Proofs.YtllmejkmogepjaaDoor.Ix
open Go.Proofs
set_option maxRecDepth 100000
set_option linter.unusedVariables false
variable {gl : Nat → IV}

theorem sections_ivis (C : Con) (gl : Nat → IV) (n : Nat) (hn : n ≤ 4611686018427387904) (r1 r2 r3 r4 : Nat → Int) (a b c : Int) (nl nd : Nat) (fl2 fd : Nat → List IV) :
    ivis C (Γs gl) f_rotor_sections_1 [.vptr 3 1 (fun _ => [.lst none 1 nl fl2, .lst none 1 nd fd, .lst none 4 n (fun i => [.int .i64 (r1 i), .int .i64 (r2 i), .int .i64 (r3 i), .int .i64 (r4 i)])]) 0 0, .vptr 3 1 (fun _ => [.int .i64 a, .int .i64 b, .int .i64 c]) 0 0] n
     (fun i => [.agg [.lst none 1 nl fl2, .lst none 1 nd fd, .int .i64 (r1 i), .int .i64 (r2 i), .int .i64 (r3 i), .int .i64 (r4 i), .int .i64 a, .int .i64 b, .int .i64 c]]) := by
  conv => whnf
  intro l
  conv => whnf
  refine .mk (α := {i : Nat // i ≤ n}) (fun i => ⟨[(9, .int .i64 i.1), (8, .int .i64 n), (7, .lst none 4 n (fun i => [.int .i64 (r1 i), .int .i64 (r2 i), .int .i64 (r3 i), .int .i64 (r4 i)])), (2, .vptr 3 1 (fun _ => [.int .i64 a, .int .i64 b, .int .i64 c]) 0 0), (1, .vptr 3 1 (fun _ => [.lst none 1 nl fl2, .lst none 1 nd fd, .lst none 4 n (fun i => [.int .i64 (r1 i), .int .i64 (r2 i), .int .i64 (r3 i), .int .i64 (r4 i)])]) 0 0), (0, .lit (.func (.yield l) #[] #[]))], [], List.replicate i.1 []⟩) (fun i => n - i.1) ⟨0, Nat.zero_le _⟩ ⟨?_, trivial, rfl, rfl⟩ ?_
  · exact ⟨leV_refl _, leV_refl _, leV_refl _, leV_refl _, leV_refl _, leV_refl _, trivial⟩
  · rintro ⟨i, hi⟩
    conv => whnf
    split
    · rename_i hb
      conv => whnf
      split
      · have hlt : i < n := by simpa using hb
        conv => whnf
        refine .mk rfl (by simp) (by simpa using hlt) (by simp) rfl ?_
        intro bb
        cases bb
        · conv => whnf
          show n ≤ (List.replicate (n + 1) [] ++ List.replicate i []).length
          simp; omega
        · conv => whnf
          refine ⟨⟨i + 1, hlt⟩, ⟨?_, trivial, rfl, rfl⟩, ?_⟩
          · have hw : IntKind.i64.wrap ((i : Int) + 1) = ((i + 1 : Nat) : Int) := by
              rw [wrap_in] <;> omega
            exact ⟨leV_int hw, leV_refl _, leV_refl _, leV_refl _, leV_refl _, leV_refl _, trivial⟩
          · show n - (i + 1) < n - i
            omega
      · rename_i h2; rw [hb] at h2; cases h2
    · rename_i hb
      conv => whnf
      simp at hb
      show n ≤ (List.replicate i []).length
      simp; omega

theorem v_sections (gl : Nat → IV) (b : Bl) (f : Fl) (hn : b.nr ≤ 16) : Vis prog gl n_rotor_sections_1 [.vptr 3 1 (fun _ => [.lst none 1 b.nl fun i => [.int .i64 (b.lf i)], .lst none 1 b.nd fun i => [.int .i64 (b.df i)], .lst none 4 b.nr fun i => [.int .i64 (b.r1 i), .int .i64 (b.r2 i), .int .i64 (b.r3 i), .int .i64 (b.r4 i)]]) 0 0, .vptr 3 1 (fun _ => [.int .i64 f.w, .int .i64 f.s, .int .i64 f.p]) 0 0] b.nr (fun i => [secAt b f i]) :=
  vis_of_body (Γ := Γs gl) (C := fun _ _ _ _ _ => False) tok0 (fun _ _ _ _ _ h => h.elim) (fun _ _ _ _ _ h => h.elim) h_rotor_sections_1 rfl rfl (by kernel_rfl) (by kernel_rfl) (sections_ivis _ gl b.nr (by omega) _ _ _ _ _ _ _ _ _ _ _)

def sumTo (g : Nat → Int) : Nat → Int
  | 0 => 0
  | n + 1 => sumTo g n + g n

theorem sumTo_bound {g : Nat → Int} {B : Int} : ∀ (n : Nat), (∀ i, i < n → -B ≤ g i ∧ g i ≤ B) → -(n * B) ≤ sumTo g n ∧ sumTo g n ≤ n * B
  | 0, _ => by simp [sumTo]
  | n + 1, h => by
    have h1 := sumTo_bound n fun i hi => h i (by omega)
    have h2 := h n (by omega)
    simp only [sumTo]
    have e : ((n + 1 : Nat) : Int) * B = n * B + B := by rw [Int.natCast_add, Int.add_mul]; simp
    rw [e]; omega

theorem sumTo_le {g h : Nat → Int} : ∀ (n : Nat), (∀ i, i < n → g i ≤ h i) → sumTo g n ≤ sumTo h n
  | 0, _ => by simp [sumTo]
  | n + 1, k => by
    have h1 := sumTo_le n fun i hi => k i (by omega)
    have h2 := k n (by omega)
    simp only [sumTo]; omega

theorem sumTo_mul {g : Nat → Int} (q : Int) : ∀ (n : Nat), sumTo (fun i => q * g i) n = q * sumTo g n
  | 0 => by simp [sumTo]
  | n + 1 => by simp only [sumTo, sumTo_mul q n]; rw [Int.mul_add]

theorem c_sum (up : List Ces) (n : Nat) (hn : n ≤ 16) (g1 g2 : Nat → Int) (h : ∀ i, i < n → (-1000000000000000 ≤ g1 i ∧ g1 i ≤ 1000000000000000) ∧ (-1000000000000000 ≤ g2 i ∧ g2 i ≤ 1000000000000000)) :
    Cs gl n_rotor_sum up [.lst none 2 n fun i => [.int .i64 (g1 i), .int .i64 (g2 i)]] (.agg [.int .i64 (sumTo g1 n), .int .i64 (sumTo g2 n)]) up := by
  refine mk h_rotor_sum rfl rfl ?_
  conv => whnf
  refine .mk (α := {k : Nat // k ≤ n}) (fun k => ⟨[(8, .int .i64 k.1), (7, .int .i64 n), (6, .lst none 2 n fun i => [.int .i64 (g1 i), .int .i64 (g2 i)]), (2, .ptr 0 2 0), (3, .ptr 0 3 0)], [(3, [.int .i64 (sumTo g1 k.1), .int .i64 (sumTo g2 k.1)]), (2, [.int .i64 0, .int .i64 0])], up⟩) (fun k => n - k.1) ⟨0, Nat.zero_le _⟩ ⟨?_, ?_, rfl, rfl⟩ ?_
  · exact ⟨leV_refl _, leV_refl _, leV_refl _, leV_refl _, leV_refl _, trivial⟩
  · exact ⟨leL_refl _, leL_refl _, trivial⟩
  · rintro ⟨k, hk⟩
    conv => whnf
    split
    · rename_i hb
      have hlt : k < n := by simpa using hb
      conv => whnf
      split
      · have b1 := sumTo_bound (g := g1) (B := 1000000000000000) k fun i hi => (h i (by omega)).1
        have b2 := sumTo_bound (g := g2) (B := 1000000000000000) k fun i hi => (h i (by omega)).2
        have b3 := h k hlt
        have e1 : w64 (sumTo g1 k + g1 k) = sumTo g1 (k + 1) := by rw [w64, wrap_in]; rfl; omega; omega
        have e2 : w64 (sumTo g2 k + g2 k) = sumTo g2 (k + 1) := by rw [w64, wrap_in]; rfl; omega; omega
        conv => whnf
        refine ⟨⟨k + 1, hlt⟩, ⟨⟨leV_int ?_, leV_refl _, leV_refl _, leV_refl _, leV_refl _, trivial⟩, ⟨⟨leV_int e1, leV_int e2, trivial⟩, leL_refl _, trivial⟩, rfl, rfl⟩, ?_⟩
        · show w64 ((k : Int) + 1) = ((k + 1 : Nat) : Int)
          rw [w64, wrap_in] <;> omega
        · show n - (k + 1) < n - k
          omega
      · rename_i h2; rw [hb] at h2; cases h2
    · rename_i hb
      have : k = n := by simp at hb; omega
      subst this
      conv => whnf
      exact ⟨rfl, rfl⟩

def allBr (b : Bl) (f : Fl) (d : Nat) : Prop := ∀ i, i < b.nr → (b.br f i d).isSome = true
instance (b : Bl) (f : Fl) (d : Nat) : Decidable (allBr b f d) := by unfold allBr; infer_instance

/-- What 'each' hands back. -/
def eachR (b : Bl) (f : Fl) (d : Nat) (φ : Nat → Int → Int × Int) : IV :=
  if allBr b f d then .tup [.lst (some 32) 2 b.nr fun i => [.int .i64 (φ i ((b.br f i d).getD 0)).1, .int .i64 (φ i ((b.br f i d).getD 0)).2], .int .i64 0]
  else .tup [.nilS, .int .i64 7]

theorem c_each (up : List Ces) (b : Bl) (f : Fl) (d : Nat) (hd : d < 12) (hb : b.err = 0) (hf : f.err = 0) (F : Nat) (φ : Nat → Int → Int × Int)
    (hF : ∀ up i a, i < b.nr → b.br f i d = some a → Cs gl F up [secAt b f i, .agg [.int .i64 a, .int .i64 ((d + 1 : Nat) : Int)]] (.agg [.int .i64 (φ i a).1, .int .i64 (φ i a).2]) up) :
    Cs gl n_rotor_each up [b.iv, f.iv, .int .i64 ((d + 1 : Nat) : Int), .fn F [] []] (eachR b f d φ) up := by
  refine mk h_rotor_each rfl rfl ?_
  obtain ⟨_, hn1, hn2, ok⟩ := Bl.good hb hf
  conv => whnf
  refine .mk _ _ _ _ _ (leL_refl _) (c_sections _ _ _ _ _ _ _ _ _ _ _ _ _) rfl ?_
  conv => whnf
  let L : Nat → List IV := fun i => [.int .i64 (φ i ((b.br f i d).getD 0)).1, .int .i64 (φ i ((b.br f i d).getD 0)).2]
  refine .mk n_rotor_sections_1 _ b.nr (fun i => [secAt b f i]) rfl rfl (v_sections gl b f hn2) (by kernel_rfl) (fun _ _ => rfl)
    (α := {k : Nat // k ≤ b.nr ∧ ∀ j, j < k → (b.br f j d).isSome = true}) (fun k => ⟨[(6, .ptr 0 6 0), (7, .ptr 0 7 0), (8, .ptr 0 8 0), (9, .ptr 0 9 0), (10, .ptr 0 10 0)],
      [(10, [.lst (some 32) 2 k.1 L]), (9, [.int .i64 0]), (8, [.nilS]), (7, [.fn F [] []]), (6, [.int .i64 ((d + 1 : Nat) : Int)])], up⟩) (fun k => k.1) ⟨0, Nat.zero_le _, fun j hj => by omega⟩ ⟨?_, ?_, rfl, rfl⟩ rfl (fun _ => rfl) ?_ ?_
  · exact ⟨leV_refl _, leV_refl _, leV_refl _, leV_refl _, leV_refl _, trivial⟩
  · exact ⟨⟨rfl, trivial⟩, leL_refl _, leL_refl _, leL_refl _, leL_refl _, trivial⟩
  · rintro ⟨k, hk, hs⟩ hlt
    replace hlt : k < b.nr := hlt
    have hfd := fun up => c_findP (gl := gl) up b f k (ok k hlt) d hd
    conv => whnf
    cases hbr : b.br f k d with
    | none =>
      rw [hbr] at hfd
      refine .mk _ _ _ _ _ (leL_refl _) (hfd _) rfl ?_
      conv => whnf
      refine ⟨?_, rfl⟩
      have hno : ¬ allBr b f d := fun h => by have := h k hlt; rw [hbr] at this; cases this
      unfold eachR
      rw [if_neg hno]
    | some a =>
      rw [hbr] at hfd
      refine .mk _ _ _ _ _ (leL_refl _) (hfd _) rfl ?_
      conv => whnf
      refine .mk 6 (by kernel_rfl) ?_
      conv => whnf
      refine .mk _ _ _ (leL_refl _) (hF _ k a hlt hbr) rfl ?_
      conv => whnf
      split
      rotate_left
      · rename_i h
        have h' : decide (k + 1 ≤ 1073741824) = false := h
        simp at h' <;> omega
      conv => whnf
      refine ⟨⟨k + 1, hlt, fun j hj => ?_⟩, rfl, ⟨?_, ?_, rfl, rfl⟩⟩
      · by_cases e : j = k
        · rw [e, hbr]; rfl
        · exact hs j (by omega)
      · exact ⟨leV_refl _, leV_refl _, leV_refl _, leV_refl _, leV_refl _, trivial⟩
      · refine ⟨⟨⟨.inr rfl, rfl, rfl, fun j hj => ?_⟩, trivial⟩, leL_refl _, leL_refl _, leL_refl _, leL_refl _, trivial⟩
        show (if j < k then L j else litF 2 [.int .i64 (φ k a).1, .int .i64 (φ k a).2] (j - k)) = L j
        split
        · rfl
        · have : j = k := by have : j < k + 1 := hj; omega
          subst this
          rw [Nat.sub_self]
          show [IV.int .i64 (φ j a).1, .int .i64 (φ j a).2] = [.int .i64 (φ j ((b.br f j d).getD 0)).1, .int .i64 (φ j ((b.br f j d).getD 0)).2]
          rw [hbr]; rfl
  · rintro ⟨k, hk, hs⟩ heq
    have : k = b.nr := heq
    subst this
    conv => whnf
    refine ⟨?_, rfl⟩
    unfold eachR
    rw [if_pos (show allBr b f d from hs)]

theorem br_rng {b : Bl} {f : Fl} {i d : Nat} (h : b.ok f i) {a : Int} (hbr : b.br f i d = some a) : 0 ≤ a ∧ a < 2 ^ d := by
  have := (brP_some h).1 hbr
  exact ⟨this.1, this.2.1⟩

theorem tor_bound {b : Bl} {f : Fl} {i d : Nat} (h : b.ok f i) (hd : d < 12) {a : Int} (hbr : b.br f i d = some a) :
    (-1000000000000000 ≤ (b.tor f i a (d + 1)).1 ∧ (b.tor f i a (d + 1)).1 ≤ 1000000000000000) ∧ (-1000000000000000 ≤ (b.tor f i a (d + 1)).2 ∧ (b.tor f i a (d + 1)).2 ≤ 1000000000000000) := by
  obtain ⟨h0, h1⟩ := br_rng h hbr
  have hs := Int.pow_succ (2 : Int) d
  have hp := two_pos d
  have r1 := infl_rng h (d := d + 1) (a := a + 1) (by omega) (by omega)
  have r2 := infl_rng h (d := d + 1) (a := a) (by omega) (by omega)
  obtain ⟨x, y, x1, x2, y1, y2, e1, e2⟩ := stepsP_in (n := b.nl) (lf := b.lf) (df := b.df) (r := b.r1 i) (c := b.r2 i) (t := b.r3 i) (tip := b.r4 i) (p := f.p) (inflP_mono h (d := d + 1) (show a ≤ a + 1 by omega)) (b.nl + 2)
  have r1 : 0 ≤ inflP (b.r1 i) f.w f.s (a + 1) (d + 1) := r1.1
  have r2 : inflP (b.r1 i) f.w f.s a (d + 1) ≤ 51200 := r2.2
  have q1 := ofP_bound h (x := x) (by omega) (by omega)
  have q2 := ofP_bound h (x := y) (by omega) (by omega)
  show (-1000000000000000 ≤ (stepsP _ _ _ _ _ _ _ _ _ _ _).1 ∧ _) ∧ _
  rw [e1]
  refine ⟨⟨q1.1, ?_⟩, ?_⟩
  · show (stepsP _ _ _ _ _ _ _ _ _ _ _).1 ≤ _
    rw [e1]; exact q1.2.1
  · show _ ≤ (stepsP _ _ _ _ _ _ _ _ _ _ _).2 ∧ (stepsP _ _ _ _ _ _ _ _ _ _ _).2 ≤ _
    rw [e2]; exact ⟨q2.1, q2.2.1⟩

theorem thr_bound {b : Bl} {f : Fl} {i d : Nat} (h : b.ok f i) (hd : d < 12) {a : Int} (hbr : b.br f i d = some a) :
    (-1000000000000000 ≤ (b.thr i a (d + 1)).1 ∧ (b.thr i a (d + 1)).1 ≤ 1000000000000000) ∧ (-1000000000000000 ≤ (b.thr i a (d + 1)).2 ∧ (b.thr i a (d + 1)).2 ≤ 1000000000000000) := by
  obtain ⟨h0, h1⟩ := br_rng h hbr
  have hs := Int.pow_succ (2 : Int) d
  have hp := two_pos d
  have q1 := thrustP_bound h (d := d + 1) (a := a) (by omega) h0 (by omega)
  have q2 := thrustP_bound h (d := d + 1) (a := a + 1) (by omega) (by omega) (by omega)
  refine ⟨⟨?_, q1.2.1⟩, ?_, q2.2.1⟩
  · have := q1.1
    show _ ≤ thrustP _ _ _; omega
  · have := q2.1
    show _ ≤ thrustP _ _ _; omega

/-- The sums over the rings, or the error. -/
def sumR (b : Bl) (f : Fl) (d : Int) (φ : Nat → Int → Nat → Int × Int) : IV :=
  bif allErr b f d != 0 then .tup [.agg [.int .i64 0, .int .i64 0], .int .i64 (allErr b f d)] else
    if allBr b f (d - 1).toNat then .tup [.agg [.int .i64 (sumTo (fun i => (φ i ((b.br f i (d - 1).toNat).getD 0) d.toNat).1) b.nr), .int .i64 (sumTo (fun i => (φ i ((b.br f i (d - 1).toNat).getD 0) d.toNat).2) b.nr)], .int .i64 0]
    else .tup [.agg [.int .i64 0, .int .i64 0], .int .i64 7]

theorem allErr_ok {b : Bl} {f : Fl} {d : Int} (h : allErr b f d = 0) : b.err = 0 ∧ f.err = 0 ∧ ∃ n : Nat, d = ((n + 1 : Nat) : Int) ∧ n < 12 := by
  unfold allErr at h
  simp only [orE_zero, withinS_zero] at h
  exact ⟨h.1, h.2.1, (d - 1).toNat, by omega, by omega⟩

theorem c_sum0 (up : List Ces) : Cs gl n_rotor_sum up [.nilS] (.agg [.int .i64 0, .int .i64 0]) up := by
  have := c_sum (gl := gl) up 0 (by omega) (fun _ => 0) (fun _ => 0) (fun i hi => by omega)
  refine Comp.le ?_ this
  exact ⟨rfl, trivial⟩

theorem c_Thrust (up : List Ces) (b : Bl) (f : Fl) (d : Int) : Cs gl n_rotor_Thrust up [b.iv, f.iv, .int .i64 d] (sumR b f d (fun i a d => b.thr i a d)) up := by
  refine mk h_rotor_Thrust rfl rfl ?_
  unfold sumR
  conv => whnf
  refine .mk _ _ _ _ _ (leL_refl _) (c_checkAll _ b f _) rfl ?_
  conv => whnf
  split
  · rename_i h
    have h' : (allErr b f d != 0) = true := h
    conv => whnf
    refine ⟨?_, rfl⟩
    rw [h']; rfl
  · rename_i h
    have h' : (allErr b f d != 0) = false := h
    have h0 : allErr b f d = 0 := by simpa using h'
    rw [h', cond_false]
    obtain ⟨g1, g2, n, rfl, g3⟩ := allErr_ok h0
    obtain ⟨_, hn1, hn2, ok⟩ := Bl.good g1 g2
    rw [show (((n + 1 : Nat) : Int) - 1).toNat = n by omega, show (((n + 1 : Nat) : Int)).toNat = n + 1 by omega]
    have hs := Int.pow_succ (2 : Int) n
    have he := fun up => c_each (gl := gl) up b f n g3 g1 g2 n_rotor_section_thrust (fun i a => b.thr i a (n + 1)) fun up i a hi hbr => by
      have := br_rng (ok i hi) hbr
      exact c_thrust up b f i (ok i hi) a (n + 1) (by omega) (by omega) (by omega)
    conv => whnf
    by_cases hall : allBr b f n
    · rw [eachR, if_pos hall] at he
      refine .mk _ _ _ _ _ (leL_refl _) (he _) rfl ?_
      conv => whnf
      refine .mk _ _ _ _ _ (leL_refl _) (c_sum _ _ hn2 _ _ (fun i hi => by obtain ⟨a, ha⟩ := Option.isSome_iff_exists.1 (hall i hi); rw [ha]; exact thr_bound (ok i hi) g3 ha)) rfl ?_
      conv => whnf
      refine ⟨?_, rfl⟩
      rw [if_pos hall]
    · rw [eachR, if_neg hall] at he
      refine .mk _ _ _ _ _ (leL_refl _) (he _) rfl ?_
      conv => whnf
      refine .mk _ _ _ _ _ (leL_refl _) (c_sum0 _) rfl ?_
      conv => whnf
      refine ⟨?_, rfl⟩
      rw [if_neg hall]

/-- The torques of all rings, or the error. -/
def ringsR (b : Bl) (f : Fl) (d : Int) : IV :=
  bif allErr b f d != 0 then .tup [.nilS, .int .i64 (allErr b f d)] else
    if allBr b f (d - 1).toNat then .tup [.lst (some 19) 2 b.nr fun i => [.int .i64 (b.tor f i ((b.br f i (d - 1).toNat).getD 0) d.toNat).1, .int .i64 (b.tor f i ((b.br f i (d - 1).toNat).getD 0) d.toNat).2], .int .i64 0]
    else .tup [.nilS, .int .i64 7]

theorem c_Rings (up : List Ces) (b : Bl) (f : Fl) (d : Int) : Cs gl n_rotor_Rings up [b.iv, f.iv, .int .i64 d] (ringsR b f d) up := by
  refine mk h_rotor_Rings rfl rfl ?_
  unfold ringsR
  conv => whnf
  refine .mk _ _ _ _ _ (leL_refl _) (c_checkAll _ b f _) rfl ?_
  conv => whnf
  split
  · rename_i h
    have h' : (allErr b f d != 0) = true := h
    conv => whnf
    refine ⟨?_, rfl⟩
    rw [h']; rfl
  · rename_i h
    have h' : (allErr b f d != 0) = false := h
    have h0 : allErr b f d = 0 := by simpa using h'
    rw [h', cond_false]
    obtain ⟨g1, g2, n, rfl, g3⟩ := allErr_ok h0
    obtain ⟨hnd, hn1, hn2, ok⟩ := Bl.good g1 g2
    rw [show (((n + 1 : Nat) : Int) - 1).toNat = n by omega, show (((n + 1 : Nat) : Int)).toNat = n + 1 by omega]
    have hs := Int.pow_succ (2 : Int) n
    have he := fun up => c_each (gl := gl) up b f n g3 g1 g2 n_rotor_section_torque (fun i a => b.tor f i a (n + 1)) fun up i a hi hbr => by
      have := br_rng (ok i hi) hbr
      exact c_torque up b f i (ok i hi) hnd a (n + 1) (by omega) (by omega) (by omega)
    conv => whnf
    by_cases hall : allBr b f n
    · rw [eachR, if_pos hall] at he
      refine .mk _ _ _ _ _ (leL_refl _) (he _) rfl ?_
      conv => whnf
      refine ⟨?_, rfl⟩
      rw [if_pos hall]
    · rw [eachR, if_neg hall] at he
      refine .mk _ _ _ _ _ (leL_refl _) (he _) rfl ?_
      conv => whnf
      refine ⟨?_, rfl⟩
      rw [if_neg hall]

theorem c_Torque (up : List Ces) (b : Bl) (f : Fl) (d : Int) : Cs gl n_rotor_Torque up [b.iv, f.iv, .int .i64 d] (sumR b f d (fun i a d => b.tor f i a d)) up := by
  refine mk h_rotor_Torque rfl rfl ?_
  unfold sumR
  have hr := fun up => c_Rings (gl := gl) up b f d
  unfold ringsR at hr
  conv => whnf
  by_cases h' : (allErr b f d != 0) = true
  · rw [h', cond_true] at hr
    refine .mk _ _ _ _ _ (leL_refl _) (hr _) rfl ?_
    conv => whnf
    refine .mk _ _ _ _ _ (leL_refl _) (c_sum0 _) rfl ?_
    conv => whnf
    refine ⟨?_, rfl⟩
    rw [h']; rfl
  · replace h' : (allErr b f d != 0) = false := by simpa using h'
    rw [h', cond_false] at hr ⊢
    have h0 : allErr b f d = 0 := by simpa using h'
    obtain ⟨g1, g2, n, rfl, g3⟩ := allErr_ok h0
    obtain ⟨hnd, hn1, hn2, ok⟩ := Bl.good g1 g2
    rw [show (((n + 1 : Nat) : Int) - 1).toNat = n by omega, show (((n + 1 : Nat) : Int)).toNat = n + 1 by omega] at hr ⊢
    by_cases hall : allBr b f n
    · rw [if_pos hall] at hr
      refine .mk _ _ _ _ _ (leL_refl _) (hr _) rfl ?_
      conv => whnf
      refine .mk _ _ _ _ _ (leL_refl _) (c_sum _ _ hn2 _ _ (fun i hi => by obtain ⟨a, ha⟩ := Option.isSome_iff_exists.1 (hall i hi); rw [ha]; exact tor_bound (ok i hi) g3 ha)) rfl ?_
      conv => whnf
      refine ⟨?_, rfl⟩
      rw [if_pos hall]
    · rw [if_neg hall] at hr
      refine .mk _ _ _ _ _ (leL_refl _) (hr _) rfl ?_
      conv => whnf
      refine .mk _ _ _ _ _ (leL_refl _) (c_sum0 _) rfl ?_
      conv => whnf
      refine ⟨?_, rfl⟩
      rw [if_neg hall]
end Go.Proofs.YtllmejkmogepjaaDoor.Ix
